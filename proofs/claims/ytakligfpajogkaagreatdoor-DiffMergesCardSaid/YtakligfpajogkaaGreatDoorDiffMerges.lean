/-
  The tied card of DiffMerges holds: whatever the two lists of numbers and the number, erratumlaw20.DiffMerges returns true and its arguments read as they did. No conditions beyond the statement.
-/
import Derived.Test.YtakligfpajogkaaGreatDoorPartL
import Derived.Test.YtakligfpajogkaaGreatDoorRows
import Derived.Test.YtakligfpajogkaaGreatDoorCards
import Derived.Test.YtakligfpajogkaaGreatDoorTie
import Derived.ProofKit
import Derived.LaidMore
import Derived.Lay
import Derived.SevenTiedAt
import Derived.Stop.Joined
set_option linter.unusedVariables false
set_option linter.unusedSimpArgs false

section
namespace Go.Proofs.YtakligfpajogkaaGreatDoor
open Go Go.Px
open Go.ChangeShapes Go.WideShapes Go.ChangeAt Go.WideMaps Go.WideElems Go.RowKit

theorem own : ownKnob Tryz.prog.godebug = none := by kernel_rfl
theorem laidOut : laidOutB Tryz.prog = true := by kernel_rfl

/-- THE WITNESS: the listed variables laid. -/
noncomputable def laidW (os : Os) : World := World.laidAll Tryz.prog os Rows.diffMergesRow.laid
theorem laid_met (os : Os) (args : Array Value) : laidMetH Tryz.prog Rows.diffMergesRow.laid ((laidW os).forCall (fun _ _ => 0) ⟨#[], args, []⟩).memory := by
  rw [MakeChecks.laidMetH_plain _ _ _ (by kernel_rfl)]
  exact laidMet_laidAll args (by kernel_rfl) (by kernel_rfl)

theorem spot_none {w : World} {a : Addr} {k : IntKind} {n : Int} (h : w.cell? (a.add 0) = some (.int k n)) : ∃ b o, a = ⟨b, o, none⟩ := by
  obtain ⟨b, o, s⟩ := a
  cases s with
  | none => exact ⟨b, o, rfl⟩
  | some s =>
    exfalso
    have e : ((⟨b, o, some s⟩ : Addr).add 0).spot = some s := by simp [Addr.add]
    unfold World.cell? at h
    rw [e] at h
    split at h
    · simp at h
    · cases h

theorem rep_ints {W : World} : ∀ (zs : List Int) (b o : Nat), (∀ i, i < zs.length → W.cell? ⟨b, o + i, none⟩ = some (.int .i64 (zs.getD i 0))) → repCells (penv W fun _ _ => True).pure (zs.map iD) b o
  | [], _, _, _ => by simp only [List.map_nil, repCells]
  | z :: zs, b, o, h => by
    simp only [List.map_cons, repCells]
    have h0 : W.cell? ⟨b, o, none⟩ = some (.int .i64 z) := by simpa using h 0 (by simp)
    refine ⟨⟨_, h0, trivial, rfl, by simp only [iD, rep]⟩, rep_ints zs b (o + 1) fun i hi => ?_⟩
    have := h (i + 1) (by simp; omega)
    rw [show o + 1 + i = o + (i + 1) by omega]
    simpa using this
theorem rep_slice {W : World} {a : Addr} {len cap : Nat} {zs : List Int} (hl : len ≤ cap) (hm : cap ≤ maxLen) (hz : zs.length = cap) (hc : ∀ i, i < zs.length → W.cell? (a.add i) = some (.int .i64 (zs.getD i 0))) :
    rep (penv W fun _ _ => True) (.sl 1 (zs.take len).length ((zs.take len).map iD)) (.slice (some a) len cap) := by
  have e : (zs.take len).length = len := by simp; omega
  simp only [rep]
  refine ⟨some a, cap, by rw [e], by omega, hm, by simp, fun h0 => ?_⟩
  have h0' : 0 < zs.length := by omega
  obtain ⟨b, o, rfl⟩ := spot_none (hc 0 h0')
  refine ⟨b, o, rfl, rep_ints _ b o fun i hi => ?_⟩
  have := hc i (by omega)
  rw [add_plain] at this
  rw [this]
  congr 2
  have hi' : i < len := by omega
  simp [List.getD, hi']

/-- What an argument that is a slice of numbers reads as. -/
theorem arg_ints {P : Program} {H : Type} {enc : TypeId × Value → H} {W : World} {t e : TypeId} {v : Value} {d : DataW H} {p : List MemPlace} {base : Nat} (ht : P.underlying t = some (.slice e)) (he : P.underlying e = some (.int .i64)) (hc : P.cellsOf e = 1)
    (hv : Value.okWide P W .any base t v) (h : DataW.Trod enc P W 0 (fun _ => true) true t v d p) : ∃ l : List Int, rep (penv W fun _ _ => True) (.sl 1 l.length (l.map iD)) v := by
  obtain ⟨sa, sl, sc, rfl⟩ := okWide_slice ht hv
  obtain ⟨fuel, h⟩ := h
  rcases open_ints ht he hc h with ⟨hcs, _⟩ | ⟨a, len, cap, zs, hcs, _, hl, hm, hz, _, hcell, _⟩
  · refine ⟨[], ?_⟩
    simp [Value.cells] at hcs
    obtain ⟨rfl, rfl, rfl⟩ := hcs
    simp only [rep]
    exact ⟨none, 0, rfl, Nat.le_refl _, Nat.zero_le _, rfl, fun h => absurd h (by decide)⟩
  · simp [Value.cells] at hcs
    obtain ⟨rfl, rfl, rfl⟩ := hcs
    exact ⟨_, rep_slice hl hm (by simpa using hz) hcell⟩

set_option maxRecDepth 100000 in
set_option maxHeartbeats 4000000 in
theorem lifted (os : Os) (started : os.Started) (H : Type) (enc : TypeId × Value → H) :
    ReturnsInHanded {} Tryz.checked os 7 .any (fun w args => (Rows.diffMergesSpec.pre enc Tryz.prog Tryz.f7 [] false w args ∧ laidMetH Tryz.prog Rows.diffMergesRow.laid w) ∧ sizedMet enc Tryz.prog Tryz.f7 (OpenSpec.ofChange Rows.diffMergesSpec) false w args)
      (Rows.diffMergesSpec.post enc Tryz.prog Tryz.f7 false true false false) := by
  refine returnsInHanded_of_change_and (C := Tryz.checked) (X := fun w _ => laidMetH Tryz.prog Rows.diffMergesRow.laid w) (fun _ _ _ hh h => h.of_heap hh) own started (by kernel_rfl) Tryz.func7
    (ChangeSpec.witness_shaped (enc := enc) (C := Tryz.checked) (os := os) (X := fun w _ => laidMetH Tryz.prog Rows.diffMergesRow.laid w) false (laidW os) #[.slice none 0 0, .slice none 0 0, .int .i64 0] 8 (World.laidAll_os _ _ _) (World.shaped_of_ZipB (by kernel_rfl) (by kernel_rfl)) (by kernel_rfl) (by kernel_rfl) (by kernel_rfl) (laid_met os _)) ?_
  intro W base args ds gs before hval0 hW _ _ hL _
  have hW' := hW
  obtain ⟨p, q, hA0, hV, rfl, hfz, hnd⟩ := hW
  have hA : DataW.TrodAll enc Tryz.prog W 0 (fun _ => true) true Tryz.f7.params.toList args.toList ds p := hA0
  have hval : ∀ (j : Nat) t v, Tryz.f7.params[j]? = some t → args[j]? = some v → Value.okWide Tryz.prog W .any base t v := hval0
  rw [Tryz.params7] at hA hval
  obtain ⟨v0, v1, v2, d0, d1, d2, p0, p1, p2, rfl, rfl, rfl, h0, h1, h2⟩ := trodAll_three hA
  obtain ⟨rfl, rfl⟩ := trodVars_none hV
  simp only [List.append_nil] at hW'
  obtain ⟨l0, r0⟩ := arg_ints (e := 3) (by kernel_rfl) (by kernel_rfl) (by kernel_rfl) (hval 0 _ v0 rfl rfl) h0
  obtain ⟨l1, r1⟩ := arg_ints (e := 3) (by kernel_rfl) (by kernel_rfl) (by kernel_rfl) (hval 1 _ v1 rfl rfl) h1
  obtain ⟨z2, e2, _, _, _⟩ := open_int Tryz.underlying3 (hval 2 3 v2 rfl rfl) h2
  have r2 : rep (penv W fun _ _ => True) (.i .i64 z2) v2 := by rw [e2]; simp only [rep]
  refine ((diffMerges_ct l0 l1 z2).run W (fun _ _ => True) [v0, v1, v2] (by simp only [repVals]; exact ⟨_, _, rfl, r0, ⟨_, _, rfl, r1, ⟨_, _, rfl, r2, rfl⟩⟩⟩)).mono fun e W' ⟨bel, v, he, hv⟩ => ?_
  simp only [rep] at hv
  subst hv
  refine ⟨_, he, ?_⟩
  have lt : ∀ x ∈ p0 ++ (p1 ++ p2), x.block < W.heap.size := fun x hx => by simpa using hW'.lt x (by simpa using hx)
  refine ⟨_, _, _, [], p0 ++ (p1 ++ p2), [], hW', ?_, ?_, ?_, bel.frame _, fun h => by cases h⟩
  · exact trodAll_mk1 (shut_bool Tryz.underlying4 _)
  · exact trodAll_mk3 (Below.trod laidOut (by kernel_rfl) (of_decide_eq_true (by kernel_rfl)) h0 bel fun x hx => lt x (by simp [hx])) (Below.trod laidOut (by kernel_rfl) (of_decide_eq_true (by kernel_rfl)) h1 bel fun x hx => lt x (by simp [hx])) (Below.trod laidOut (by kernel_rfl) (of_decide_eq_true (by kernel_rfl)) h2 bel fun x hx => lt x (by simp [hx]))
  · rfl

theorem diffMerges_row : Rows.DiffMergesSaid :=
  OpenClaim.holds_of_wide 7 Tryz.f7 rfl rfl rfl rfl rfl rfl rfl ⟨rfl, rfl, rfl, rfl, rfl⟩ rfl rfl rfl rfl rfl (by kernel_rfl) Tryz.func7 (by kernel_rfl)
    (of_decide_eq_true (by kernel_rfl)) (by unfold Func.isWrapper; first | (rw [if_pos (by decide +kernel)]; kernel_rfl) | (rw [if_neg (by decide +kernel)]; exact ⟨rfl, rfl⟩))
    (fun os started H enc _ => lifted os started H enc)

theorem diffMerges_holds : Rows.DiffMergesCardSaid :=
  Claim7.holds_tied_plain_at .later [] [.data, .data, .data, .data, .pinned] true (true, "ee3d6b764353ff440640cc509eaa024da812c78b3c9564eb5f29482d4716776a") true
    diffMerges_row (fun _ h => by cases h) (by kernel_rfl) (fun _ h => by cases h) diffMerges_row_tie rfl ⟨rfl, rfl⟩ (by kernel_rfl) rfl
    (fun f fn hf hfn => by
      obtain rfl : f = 7 := Option.some.inj ((show Tryz.prog.funcNamed "erratum/erratumlaw20.DiffMerges" = some 7 by kernel_rfl).symm.trans hf) |>.symm
      obtain rfl : fn = Tryz.f7 := (Option.some.inj (Tryz.func7.symm.trans hfn)).symm
      exact ⟨by kernel_rfl, fun j t ht => by
        rw [Tryz.params7] at ht
        have hm : t ∈ [22, 22, 3] := by simpa using Array.mem_of_getElem? ht
        have hall : ([22, 22, 3].all fun u => !Tryz.prog.wantsStandIn u) = true := by kernel_rfl
        exact (show Tryz.prog.wantsStandIn t = false by simpa using List.all_eq_true.1 hall t hm)⟩)
    (by kernel_rfl)
end Go.Proofs.YtakligfpajogkaaGreatDoor
end

#print axioms Go.Proofs.YtakligfpajogkaaGreatDoor.diffMerges_holds
