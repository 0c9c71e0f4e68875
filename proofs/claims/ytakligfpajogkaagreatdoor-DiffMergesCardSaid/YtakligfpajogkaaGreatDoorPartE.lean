/-
  What the functions that the statement reaches compute, proved (contracts of functions and the lemmas for them), a part of the proof. No conditions beyond those that each theorem names.
-/
import Derived.Test.YtakligfpajogkaaGreatDoorPartD
import Derived.StillTail
set_option linter.unusedVariables false
set_option linter.unusedSimpArgs false

section
namespace Go.Px
open Go.RowKit

def evDraw (P : Program) (τ : List (Nat × TI)) (ic : IC) (N : Nat) (ops : Array Oper) (hs : List (Nat × Hint)) (effs : List Nat) (items : List (Nat × Nat × Nat)) (σ0 : List (Nat × D)) (h0 : List (Nat × Root)) (nx : Nat) : Option (St × List Prop) :=
  match evD P τ ic N ops hs nx items 0 σ0 ⟨[], [(0, h0)]⟩ [] with
  | none => none
  | some ((cur, σ, tb), ps) => match Nat.beq cur ops.size with
    | false => none
    | true => match get tb.T (maskL (fun _ => true) effs) with
      | none => none
      | some h => some (⟨σ, h, nx⟩, ps)

def Lof (listed : Array Bool) (j : Nat) : Bool := listed.getD j false

section
variable {P : Program} {τ : List (Nat × TI)} {ic : IC} {B : Base} {ops : Array Oper} {hs : List (Nat × Hint)} {nx : Nat} {σ0 : List (Nat × D)}

theorem maskL_congr {L L' : Nat → Bool} : ∀ {effs : List Nat}, (∀ j ∈ effs, L j = L' j) → maskL L effs = maskL L' effs
  | [], _ => rfl
  | j :: js, h => by
    simp only [maskL]
    rw [h j (by simp), maskL_congr fun k hk => h k (by simp [hk])]
theorem maskL_next {L L' : Nat → Bool} {i : Nat} {effs : List Nat} (hL : ∀ j, L' j = true ↔ L j = true ∨ j = i) : maskL L' effs = nextM effs i (maskL L effs) := by
  have hb : ∀ j, j ≠ i → L' j = L j := fun j hj => Bool.eq_iff_iff.2 ⟨fun h => ((hL j).1 h).resolve_right hj, fun h => (hL j).2 (.inl h)⟩
  have hi : L' i = true := (hL i).2 (.inr rfl)
  unfold nextM
  split
  · rename_i hc
    refine Nat.eq_of_testBit_eq fun k => ?_
    rw [Nat.testBit_or, maskL_bit, maskL_bit, Nat.testBit_two_pow]
    by_cases e : k = i
    · subst e; simp [hi, List.contains_iff_mem.1 hc]
    · rw [hb k e]
      simp [Ne.symm e]
  · rename_i hc
    refine maskL_congr fun j hj => hb j ?_
    rintro rfl
    rw [List.contains_iff_mem.2 hj] at hc
    cases hc

theorem putS_ex {N : Nat} {dst : Option Nat} {d d' : D} {σ σ1 : List (Nat × D)} (σ' : List (Nat × D)) (h : putS N dst d σ = some σ1) : ∃ σ2, putS N dst d' σ' = some σ2 := by
  cases dst with
  | none => exact ⟨σ', rfl⟩
  | some t =>
    simp only [putS] at h ⊢
    cases hb : Nat.blt t N with
    | true => exact ⟨_, rfl⟩
    | false => rw [hb] at h; cases h

theorem Lof_set {listed : Array Bool} {i : Nat} (hi : i < listed.size) (j : Nat) : Lof (listed.setIfInBounds i true) j = true ↔ Lof listed j = true ∨ j = i := by
  unfold Lof
  by_cases e : j = i
  · subst e; simp [hi]
  · rw [getD_set_ne false (Ne.symm e)]
    simp [e]

theorem not_ready {listed : Array Bool} (hsz : listed.size = ops.size) (hback : ∀ (i : Nat) (o : Oper), ops[i]? = some o → ∀ e ∈ edges o, e < i) (h : Region.ready .any ops listed = []) :
    ∀ i, i < ops.size → Lof listed i = true := by
  intro i
  induction i using Nat.strongRecOn with
  | _ i ih =>
    intro hi
    cases hl : Lof listed i with
    | true => rfl
    | false =>
      exfalso
      have ho : ops[i]? = some ops[i] := Array.getElem?_eq_getElem hi
      have : i ∈ Region.ready .any ops listed := by
        rw [mem_ready]
        refine ⟨?_, ops[i], ho, fun e he hb => ?_⟩
        · unfold Lof at hl
          have hi' : i < listed.size := by omega
          simp [hi'] at hl ⊢
          exact hl
        · have hmem : e.on ∈ edges ops[i] := List.mem_map.2 ⟨e, List.mem_filter.2 ⟨by simpa using he, hb⟩, rfl⟩
          have := hback i _ ho _ hmem
          exact ih e.on this (by omega)
      rw [h] at this
      cases this

theorem draw_sound (hv : Valid P τ) (hic : ICok P ic) {effs : List Nat} {items : List (Nat × Nat × Nat)} (hok : DrawOK ops effs items) {tb : Tb} {cur : Nat} {σF : List (Nat × D)} {hF : List (Nat × Root)}
    (hj : JD ops σ0 B.N cur σF tb) (hcur : cur = ops.size) (hit : ∀ x ∈ items, ItemOK P τ ic B.N ops hs nx tb x) (hT : get tb.T (maskL (fun _ => true) effs) = some hF)
    {Q : Exit → Act → World → Prop} (hQ : ∀ a w, Sat B ⟨σF, hF, nx⟩ a w → Q .normal a w) :
    ∀ (fuel : Nat) (listed : Array Bool) (a : Act) (w : World), listed.size = ops.size → listed.toList.count false = fuel → DC ops.toList (Lof listed) →
      (∃ σ h, (∀ t, get σ t = Vl (dstOf ops) (dfOf tb.dt) σ0 (Lof listed) ops.size t) ∧ get tb.T (maskL (Lof listed) effs) = some h ∧ Sat B ⟨σ, h, nx⟩ a w) →
      wpAny P .any ops Q fuel listed a w := by
  subst hcur
  have hend : ∀ (listed : Array Bool) (a : Act) (w : World), (∀ i, i < ops.size → Lof listed i = true) → listed.size = ops.size →
      (∃ σ h, (∀ t, get σ t = Vl (dstOf ops) (dfOf tb.dt) σ0 (Lof listed) ops.size t) ∧ get tb.T (maskL (Lof listed) effs) = some h ∧ Sat B ⟨σ, h, nx⟩ a w) → Q .normal a w := by
    intro listed a w hall hsz ⟨σ, h, h1, h2, ρ, s⟩
    have em : maskL (Lof listed) effs = maskL (fun _ => true) effs := maskL_congr fun j hj => hall j (hok.inside j hj)
    rw [em, hT] at h2
    cases h2
    exact hQ a w ⟨ρ, s.congr (fun t => by rw [hj.now t, h1 t, Vl_all fun i hi => hall i hi]) (fun _ => rfl)⟩
  intro fuel
  induction fuel with
  | zero =>
    intro listed a w hsz hc hdc hinv
    have hall : ∀ i, i < ops.size → Lof listed i = true := by
      intro i hi
      have hi' : i < listed.size := by omega
      rw [List.count_eq_zero] at hc
      cases hl : Lof listed i with
      | true => rfl
      | false =>
        exfalso
        apply hc
        unfold Lof at hl
        simp [hi'] at hl
        rw [← hl]
        simp
    refine ⟨?_, hend listed a w hall hsz hinv⟩
    cases hr : Region.ready .any ops listed with
    | nil => rfl
    | cons i rs =>
      exfalso
      have hi : i ∈ Region.ready .any ops listed := by rw [hr]; simp
      obtain ⟨h0, o, ho, _⟩ := mem_ready.1 hi
      have := hall i (Array.getElem?_eq_some_iff.1 ho).1
      unfold Lof at this
      have h2 := getD_both h0
      rw [h2] at this
      cases this
  | succ fuel ih =>
    intro listed a w hsz hc hdc hinv
    refine ⟨fun hr => hend listed a w (not_ready hsz hok.back hr) hsz hinv, fun i hi => ?_⟩
    obtain ⟨h0, o, ho, hall⟩ := mem_ready.1 hi
    have hio : i < ops.size := (Array.getElem?_eq_some_iff.1 ho).1
    have hil : i < listed.size := by omega
    have hLi : Lof listed i = false := getD_both h0
    have hedge : ∀ e ∈ edges o, Lof listed e = true := by
      intro e he
      obtain ⟨x, hx, rfl⟩ := List.mem_map.1 he
      obtain ⟨hx1, hx2⟩ := List.mem_filter.1 hx
      exact hall x (by simpa using hx1) hx2
    obtain ⟨σ, h, hσ, hTm, hsat⟩ := hinv
    have hcons := consist_of hdc ho hLi hedge (effs := effs)
    have hitem := hit _ (hok.masks i o ho _ (maskL_mem _ effs) hcons)
    obtain ⟨o', σi, d, h', h'', σ1, q1, q2, q3, q4, q5, q6⟩ := hitem
    have eo : o' = o := Option.some.inj (q1.symm.trans ho)
    subst eo
    have eh : h' = h := Option.some.inj (q3.symm.trans hTm)
    subst eh
    have ho' : ops.toList[i]? = some o' := by simpa using ho
    have hwr : ∀ t ∈ namesOf ops o', ∀ j, j < ops.size → dstOf ops j = some t → j ≠ i → (Lof listed j = true ↔ j < i) := by
      intro t ht j hjn hjd hne
      have hoj : ops[j]? = some ops[j] := Array.getElem?_eq_getElem hjn
      have hjd' : ops[j].dst = some t := by simpa [dstOf, hoj] using hjd
      rcases hok.temps i o' ho t ht j _ hoj hjd' with h1 | ⟨h1, h2⟩ | ⟨h1, h2⟩
      · exact absurd h1 hne
      · exact ⟨fun _ => h1, fun _ => bitC_ready hdc ho' hedge h2⟩
      · refine ⟨fun hl => ?_, fun h3 => by omega⟩
        have := bitC_listed hdc hl h2
        rw [hLi] at this
        cases this
    have hagree : ∀ t ∈ namesOf ops o', get σ t = get σi t := by
      intro t ht
      rw [hσ t, hj.at_ i σi d q2 t]
      refine Vl_agree (Nat.le_of_lt hio) fun j hjn hjd => ?_
      by_cases e : j = i
      · subst e; simp [hLi]
      · exact hwr t ht j hjn hjd e
    have hops : Agree σ σi o'.op.operands.toList := agree_of fun t ht => hagree t (by simp [namesOf, ht])
    have hwant : wantE ops o'.guard σ = wantE ops o'.guard σi := wantE_congr fun g w hg t ht => hagree t (by simp [namesOf, hg, ht])
    -- what follows the operation
    have hL' := Lof_set (listed := listed) hil
    have hnext : ∀ (h1 : List (Nat × Root)) (σ2 : List (Nat × D)) (a' : Act) (w' : World), SameH h'' h1 → putS B.N o'.dst d σ = some σ2 → Sat B ⟨σ2, h1, nx⟩ a' w' →
        wpAny P .any ops Q fuel (listed.setIfInBounds i true) a' w' := by
      intro h1 σ2 a' w' hsame hput2 ⟨ρ, s⟩
      refine ih _ a' w' (by simp [hsz]) ?_ ?_ ⟨σ2, h'', fun t => ?_, ?_, ρ, s.congr (fun _ => rfl) hsame⟩
      · rw [Array.toList_setIfInBounds, List.count_set (by simpa using hil)]
        have : listed.toList[i]'(by simpa using hil) = false := by
          have := hLi
          unfold Lof at this
          simpa [hil] using this
        simp [this, hc]
      · intro j oj hoj hl e he
        rw [hL'] at hl ⊢
        rcases hl with hl | rfl
        · exact .inl (hdc j oj hoj hl e he)
        · have : oj = o' := Option.some.inj (hoj.symm.trans ho')
          subst this
          exact .inl (hedge e he)
      · rw [putS_get hput2 t, Vl_set hL' hio fun j h1 h2 h3 h4 => ?_]
        · have e1 : dstOf ops i = o'.dst := by simp [dstOf, ho]
          have e2 : dfOf tb.dt i = d := by simp [dfOf, q2]
          rw [e1, e2, hσ t]
        · have e1 : dstOf ops i = o'.dst := by simp [dstOf, ho]
          have hm : t ∈ namesOf ops o' := by
            have : o'.dst = some t := e1 ▸ h4
            simp [namesOf, this]
          have := (hwr t hm j h2 (h3.trans h4) (by omega))
          cases hl : Lof listed j with
          | false => rfl
          | true => have := this.1 hl; omega
      · rw [maskL_next hL']
        exact q4
    unfold wpOp
    simp only [ho]
    obtain ⟨ρ, s⟩ := hsat
    obtain ⟨σ2, hput2⟩ := putS_ex (d' := d) σ q5
    rcases q6 with ⟨w1, rfl, w2⟩ | ⟨w1, h1, ps, w2, w3, w4⟩
    · rw [wantE_sound s (hwant.trans w1)]
      exact hnext h' σ2 _ _ w2 hput2 ⟨ρ, putS_sound s hput2 (rep_undef _)⟩
    · rw [wantE_sound s (hwant.trans w1)]
      simp only [if_true]
      left
      rw [← evg_congr hops] at w2
      exact evg_sound hv hic s (Nat.le_add_right _ _) w2 w3 hput2 fun a' w' h2 => hnext h1 σ2 a' w' w4 hput2 h2

theorem H.draw {st : St} (hv : Valid P τ) (hic : ICok P ic) (hm : P.follows .mixedOrders = true) {Q : AX → St → Prop} {id : Nat} (hs : List (Nat × Hint)) (effs : List Nat) (items : List (Nat × Nat × Nat)) (hok : drawOK ops effs items = true)
    {st' : St} {ps : List Prop} (h : evDraw P τ ic B.N ops hs effs items st.σ st.h st.nx = some (st', ps)) (hp : AllP ps) (hq : Q .normal st') : H P B (.region id ops true) st Q := by
  unfold evDraw at h
  split at h
  · cases h
  rename_i cur σ tb ps' hev
  split at h
  · cases h
  rename_i hcur
  have hcur := Nat.eq_of_beq_eq_true hcur
  split at h
  · cases h
  rename_i hF hT
  simp only [Option.some.injEq, Prod.mk.injEq] at h
  obtain ⟨rfl, rfl⟩ := h
  intro a w hsat
  refine wp_region_any hm ?_
  have j0 : JD ops st.σ B.N 0 st.σ ⟨[], [(0, st.h)]⟩ := ⟨fun i x h => by simp [get] at h, fun i x d h => by simp [get] at h, fun i x d h => by simp [get] at h, fun t => rfl⟩
  obtain ⟨_, r2, r3, r4⟩ := evD_sound hev hp j0
  refine draw_sound hv hic (drawOK_spec hok) r2 hcur r4 hT (fun a w h => ?_) ops.size _ a _ (by simp) (by simp) (fun i o _ hl => ?_) ⟨st.σ, st.h, fun t => ?_, ?_, ?_⟩
  · obtain ⟨ρ, s⟩ := h
    exact ⟨_, hq, ρ, s⟩
  · unfold Lof at hl
    rw [getD_replicate_false] at hl
    cases hl
  · have : ∀ n, Vl (dstOf ops) (dfOf tb.dt) st.σ (Lof (Array.replicate ops.size false)) n t = get st.σ t := by
      intro n
      induction n with
      | zero => rfl
      | succ n ih =>
        simp only [Vl]
        rw [if_neg, ih]
        unfold Lof
        rw [getD_replicate_false]
        simp
    exact (this _).symm
  · have : ∀ effs : List Nat, maskL (Lof (Array.replicate ops.size false)) effs = 0 := by
      intro effs
      induction effs with
      | nil => rfl
      | cons j js ih =>
        have : Lof (Array.replicate ops.size false) j = false := by unfold Lof; rw [getD_replicate_false]
        simp only [maskL, this, ih]
    rw [this]
    exact r3.T 0 st.h (by simp [get])
  · obtain ⟨ρ, s⟩ := hsat
    exact ⟨ρ, s.drew⟩
end
end Go.Px
end

section
namespace Go.Px
open Go.RowKit
theorem AllP.n : AllP [] := by simp [AllP]
theorem AllP.t {ps : List Prop} (h : AllP ps) : AllP (True :: ps) := AllP_cons.2 ⟨trivial, h⟩
theorem AllP.c {p : Prop} {ps : List Prop} (h : p) (k : AllP ps) : AllP (p :: ps) := AllP_cons.2 ⟨h, k⟩

/-- What panics. -/
def evp (P : Program) (σ : List (Nat × D)) (h : List (Nat × Root)) (hint : Hint) (o : Op) : Option (D × List (Nat × Root) × List Prop) :=
  match o with
  | .panic x => match evo σ x with
    | .ifc t d => some (.ifc t d, h, [])
    | _ => none
  | .call c => match hint with
    | .res (.pan d) => match c.callee with
      | .value f => match evo σ f with
        | .fn g caps => match evCall h (evs.appD (mapE σ c.args.toList) caps) (.pan d) with
          | none => none
          | some (h', ds', ps) => some (d, h', ps ++ [Pure P g ds' (.pan d)])
        | _ => none
      | _ => none
    | _ => none
  | _ => none
/-! ### A literal of a slice that is the function's own -/
def evBuildOwn (τ : List (Nat × TI)) (h : List (Nat × Root)) (id : Nat) (t : TypeId) (len : Nat) (parts : List (Nat × D)) : Option (D × List (Nat × Root)) :=
  match get τ t with
  | none => none
  | some i => match i.k with
    | .slice e => match get τ e with
      | none => none
      | some ie => match Nat.beq ie.size 0 with
        | true => none
        | false => match Nat.beq ie.zero.length ie.size with
          | false => none
          | true => match Nat.beq len 0 with
           | true => none
           | false => match Nat.ble (len * ie.size) 16777216 with
            | false => none
            | true => match Nat.ble len 16777216 with
              | false => none
              | true => match fillD ((List.range len).map fun k => (k * ie.size, ie.size, ie.k.agg)) (zeros ie.size len ie.zero) parts with
                | some l => match topL l with
                  | true => match fresh h id with
                    | true => some (.os id 0 len, (id, ⟨e, ie.size, l, 0, true, false, false⟩) :: h)
                    | false => none
                  | false => none
                | none => none
    | _ => none
section
variable {P : Program} {τ : List (Nat × TI)} {B : Base} {st : St} {a : Act} {w : World} {ρ : Nat → RC}
theorem evBuildOwn_sound (hv : Valid P τ) (s : SatR B st a w ρ) {id : Nat} (hid : st.nx ≤ id) {t : TypeId} {len : Nat} {parts : List (Nat × D)} {vparts : Array (Nat × Value)} {d : D} {h' : List (Nat × Root)}
    (hm : vparts.toList.map (·.1) = parts.map (·.1)) (hr : ∀ (k : Nat) (p : Nat × D) (q : Nat × Value), parts[k]? = some p → vparts.toList[k]? = some q → rep (st.env B w ρ) p.2 q.2)
    (h : evBuildOwn τ st.h id t len parts = some (d, h')) : ∃ v w' ρ', (Instr.buildSlice t len vparts).run P w = .ok v w' ∧ SatR B ⟨st.σ, h', st.nx⟩ a w' ρ' ∧ rep (St.env B ⟨st.σ, h', st.nx⟩ w' ρ') d v := by
  unfold evBuildOwn at h
  split at h
  · cases h
  · rename_i i hi
    have hT := tok hv hi
    split at h
    · rename_i e hk
      have hu := hT.slice hk
      split at h
      · cases h
      · rename_i ie he
        have hTe := tok hv he
        split at h
        · cases h
        · rename_i hpos
          have hpos : 0 < ie.size := by
            rcases Nat.eq_zero_or_pos ie.size with h0 | h0
            · rw [h0] at hpos; cases hpos
            · exact h0
          split at h
          · cases h
          · rename_i hzl
            have hzl := Nat.eq_of_beq_eq_true hzl
            split at h
            · cases h
            rename_i hl0
            split at h
            · cases h
            · rename_i hb1
              have hb1 := Nat.le_of_ble_eq_true hb1
              split at h
              · cases h
              · rename_i hb2
                have hb2 := Nat.le_of_ble_eq_true hb2
                split at h
                · rename_i l hl
                  split at h
                  case h_2 => cases h
                  rename_i htop
                  split at h
                  case h_2 => cases h
                  rename_i hfr
                  have hno := fresh_spec hfr hid
                  simp only [Option.some.injEq, Prod.mk.injEq] at h
                  obtain ⟨rfl, rfl⟩ := h
                  obtain ⟨z, z1, z2, z3, z4⟩ := zero_row (E := st.env B w ρ) hTe hzl hpos w len
                  obtain ⟨cells', q1, q2, q3⟩ := fill_sound (place := fun f => some (f * ie.size, ie.size)) (fun f o s ag h => by
                    simp only [List.getElem?_map, Option.map_eq_some_iff, Prod.mk.injEq] at h
                    obtain ⟨k, hk, rfl, rfl, _⟩ := h
                    have : k = f := by
                      rw [List.getElem?_eq_some_iff] at hk
                      obtain ⟨hlt, hk⟩ := hk
                      simp at hk
                      exact hk.symm
                    rw [this]) z3 z4 hm hr hl
                  have hll := fillD_length hl
                  rw [zeros_eq] at hll
                  simp [hzl] at hll
                  have hcl : cells'.size = len * ie.size := by
                    have := repVals_length q2
                    rw [hll] at this
                    simpa using this
                  obtain ⟨f1, f2⟩ := s.alloc id hno ⟨e, ie.size, l, 0, true, false, false⟩ cells' len hpos hcl (by simp only [maxLen]; omega) (by rw [hcl, hll]; exact Nat.le_refl _) (Nat.zero_le _) (fun k d hk => by
                    obtain ⟨v, g1, g2, g3⟩ := repVals_get (topL_pure l _ htop q2) q3 k d hk
                    exact ⟨v, by simpa using g1, g2, g3⟩)
                  refine ⟨.slice (some ⟨w.heap.size, 0, none⟩) len len, _, _, ?_, f1, ?_⟩
                  · have hng : ¬ (len * ie.size > 2 ^ 24) := by have : (2 : Nat) ^ 24 = 16777216 := rfl; omega
                    have h0 : ¬ (len * ie.size = 0) := by
                      intro h
                      rcases Nat.mul_eq_zero.1 h with h | h
                      · subst h; cases hl0
                      · omega
                    simp only [Instr.buildSlice, Sem.run_bind, run_underlying hu, Result.andThen_ok, hTe.size_run, if_neg hng, if_neg h0, z1, Sem.run_pure, q1, newRow, run_newObj]
                    rfl
                  · simp only [rep]
                    refine ⟨St.has_of (st := ⟨st.σ, (id, _) :: st.h, st.nx⟩) (by rw [get_cons, if_pos rfl]), ?_⟩
                    unfold osRep
                    simp only [St.env, if_true]
                    exact ⟨0, len, rfl, by omega, Nat.le_refl _, fun _ => by omega⟩
                · cases h
    · cases h
end
def evOwn (τ : List (Nat × TI)) (σ : List (Nat × D)) (h : List (Nat × Root)) (ib : Nat) (hint : Hint) (o : Op) : Option (D × List (Nat × Root)) :=
  match hint with
  | .own => match o with
    | .buildSlice t len ps => withId 1000 h ib fun id => evBuildOwn τ h id t len (mapP σ ps.toList)
    | _ => none
  | _ => none
/-- Operations in the order of the text. -/
def evL (P : Program) (τ : List (Nat × TI)) (ic : IC) (N : Nat) (ops : Array Oper) (hs : List (Nat × Hint)) (nx ib : Nat) : List Oper → Nat → List (Nat × D) → List (Nat × Root) → List Prop → Option (Out × List Prop)
  | [], _, σ, h, acc => some (.go ⟨σ, h, nx⟩, acc)
  | o :: rest, k, σ, h, acc => match wantE ops o.guard σ with
    | none => none
    | some false => match putS N o.dst (.tup []) σ with
      | none => none
      | some σ1 => evL P τ ic N ops hs nx ib rest (k + 1) σ1 h acc
    | some true => match evOwn τ σ h ib (hintOf hs k) o.op with
     | some (d, h') => withD d fun d => match putS N o.dst d σ with
        | none => none
        | some σ1 => withH [] h' fun h' => evL P τ ic N ops hs nx ib rest (k + 1) σ1 h' acc
     | none => match evg P τ ic σ h nx ib (hintOf hs k) o.op with
      | some (d, h', ps) => withD d fun d => match putS N o.dst d σ with
        | none => none
        | some σ1 => match rdr o.op with
          | true => evL P τ ic N ops hs nx ib rest (k + 1) σ1 h (catP ps acc)
          | false => withH [] h' fun h' => evL P τ ic N ops hs nx ib rest (k + 1) σ1 h' (catP ps acc)
      | none => match evp P σ h (hintOf hs k) o.op with
        | some (d, h', ps) => some (.pan ⟨σ, h', nx⟩ d, catP ps acc)
        | none => none
section
variable {P : Program} {τ : List (Nat × TI)} {ic : IC} {B : Base} {a : Act} {w : World} {ρ : Nat → RC}

theorem evL_acc {N : Nat} {ops : Array Oper} {hs : List (Nat × Hint)} {nx ib : Nat} : ∀ {l : List Oper} {k : Nat} {σ : List (Nat × D)} {h : List (Nat × Root)} {acc : List Prop} {out : Out} {ps : List Prop},
    evL P τ ic N ops hs nx ib l k σ h acc = some (out, ps) → AllP ps → AllP acc
  | [], k, σ, h, acc, out, ps, e, hp => by
    simp only [evL, Option.some.injEq, Prod.mk.injEq] at e
    obtain ⟨_, rfl⟩ := e
    exact hp
  | o :: rest, k, σ, h, acc, out, ps, e, hp => by
    simp only [evL, withD_eq, withH_eq] at e
    split at e
    · cases e
    · split at e
      · cases e
      · exact evL_acc e hp
    · split at e
      · split at e
        · cases e
        · exact evL_acc e hp
      · split at e
        · split at e
          · cases e
          · split at e
            · exact (catP_all.1 (evL_acc e hp)).2
            · exact (catP_all.1 (evL_acc e hp)).2
        · split at e
          · simp only [Option.some.injEq, Prod.mk.injEq] at e
            obtain ⟨_, rfl⟩ := e
            exact (catP_all.1 hp).2
          · cases e

theorem evp_sound {st : St} (s : SatR B st a w ρ) {Q : AX → St → Prop} {K : Act → World → Prop} {hint : Hint} {o : Oper} {d : D} {h' : List (Nat × Root)} {ps : List Prop} (h : evp P st.σ st.h hint o.op = some (d, h', ps)) (hp : AllP ps)
    (hq : Q (.pan d) ⟨st.σ, h', st.nx⟩) : o.wp P a w K (lift B Q) := by
  unfold evp at h
  split at h
  · rename_i x ho
    have hx := rep_evo s x
    split at h
    · rename_i t d hd
      simp only [Option.some.injEq, Prod.mk.injEq] at h
      obtain ⟨rfl, rfl, rfl⟩ := h
      rw [hd] at hx
      have hx' := hx
      simp only [rep] at hx
      obtain ⟨u, hxe, _⟩ := hx
      unfold Oper.wp
      have : (execOp a.eval o).run P w = .halt (.panic (.iface t u)) w := by
        simp [execOp, ho, Instr.panic, hxe]
      rw [this]
      rw [hxe] at hx'
      exact ⟨st, .ifc t d, .iface t u, ρ, rfl, hq, s, hx'⟩
    · cases h
  · rename_i c ho
    split at h
    · rename_i d1
      split at h
      · rename_i f hf
        split at h
        · rename_i g caps hg
          have hfr := rep_evo s f
          rw [hg] at hfr
          simp only [rep] at hfr
          obtain ⟨cvs, hfe, hcv⟩ := hfr
          have hargs := repVals_append (mapE_rep s c.args.toList) hcv
          rw [appD_eq] at h
          split at h
          · cases h
          · rename_i h1 ds' qs hcall
            simp only [Option.some.injEq, Prod.mk.injEq] at h
            obtain ⟨rfl, rfl, rfl⟩ := h
            rw [AllP_append] at hp
            obtain ⟨hqs, hpure⟩ := hp
            have hpure : Pure P g ds' (.pan d1) := hpure
            obtain ⟨_, hcalls⟩ := evCall_sound s hargs hcall hqs hpure
            unfold Oper.wp
            rw [run_call ho hf hfe hpure.1, Oper.upon_enter]
            refine hcalls.mono fun e w' ⟨hs', hpost⟩ => ?_
            obtain ⟨v, rfl, hd⟩ := hpost
            exact ⟨_, _, v, ρ, rfl, hq, hs', hd⟩
        · cases h
      · cases h
    · cases h
  · cases h

theorem evOwn_sound {st : St} (hv : Valid P τ) (s : SatR B st a w ρ) {K : Act → World → Prop} {Q : Exit → Act → World → Prop} {ib : Nat} (hid : st.nx ≤ ib) {hint : Hint} {o : Oper} {d : D} {h' : List (Nat × Root)}
    {σ : List (Nat × D)} (h : evOwn τ st.σ st.h ib hint o.op = some (d, h')) (hput : putS B.N o.dst d st.σ = some σ) (hK : ∀ a' w', Sat B ⟨σ, h', st.nx⟩ a' w' → K a' w') : o.wp P a w K Q := by
  unfold evOwn at h
  split at h
  · split at h
    · rename_i t len ps ho
      obtain ⟨id, h1, h2⟩ := withId_some h
      obtain ⟨m1, m2⟩ := mapP_rep s ps.toList
      obtain ⟨v, w', ρ', g1, g2, g3⟩ := evBuildOwn_sound (P := P) (vparts := ps.map fun (i, x) => (i, a.eval x)) hv s (Nat.le_trans hid h1) (by rw [Array.toList_map]; exact m1) (by rw [Array.toList_map]; exact m2) h2
      have hg : Good P B st a w o d h' := ⟨v, w', ρ', .inl (by simp only [execOp, ho, Sem.run_bind, g1]; rfl), g2, g3⟩
      exact op_sound (Nat.le_refl _) hg hput (fun a' w' h1 => hK a' w' h1)
    · cases h
  · cases h
theorem evL_sound (hv : Valid P τ) (hic : ICok P ic) {ops : Array Oper} {hs : List (Nat × Hint)} {Q : AX → St → Prop} {nx ib : Nat} (hib : nx ≤ ib) : ∀ {l : List Oper} {k : Nat} {σ : List (Nat × D)} {h : List (Nat × Root)} {acc : List Prop} {out : Out} {ps : List Prop},
    evL P τ ic B.N ops hs nx ib l k σ h acc = some (out, ps) → AllP ps → outQ Q out → ∀ a w, Sat B ⟨σ, h, nx⟩ a w → wpList P ops (lift B Q) l a w
  | [], k, σ, h, acc, out, ps, e, hp, hq, a, w, s => by
    simp only [evL, Option.some.injEq, Prod.mk.injEq] at e
    obtain ⟨rfl, rfl⟩ := e
    exact ⟨_, hq, s⟩
  | o :: rest, k, σ, h, acc, out, ps, e, hp, hq, a, w, s => by
    obtain ⟨ρ, s⟩ := s
    unfold wpList
    simp only [evL, withD_eq, withH_eq] at e
    split at e
    · cases e
    · rename_i hw
      rw [wantE_sound s hw]
      split at e
      · cases e
      · rename_i σ1 hput
        exact evL_sound hv hic hib e hp hq _ _ ⟨ρ, putS_sound s hput (rep_undef _)⟩
    · rename_i hw
      rw [wantE_sound s hw, if_pos rfl]
      left
      split at e
      · rename_i d h' hev
        split at e
        · cases e
        · rename_i σ1 hput
          refine evOwn_sound hv s hib hev hput fun a' w' h1 => evL_sound hv hic hib e hp hq a' w' ?_
          obtain ⟨ρ', s'⟩ := h1
          exact ⟨ρ', s'.congr (fun _ => rfl) fun r => ddp_get h' [] r (by simp)⟩
      · skip
        split at e
        · rename_i d h' qs hev
          split at e
          · cases e
          · rename_i σ1 hput
            split at e
            · rename_i hr
              have hq2 := (catP_all.1 (evL_acc e hp)).1
              refine evg_sound hv hic s hib hev hq2 hput fun a' w' h1 => evL_sound hv hic hib e hp hq a' w' ?_
              rw [evg_rdr hr hev] at h1
              exact h1
            · have hq2 := (catP_all.1 (evL_acc e hp)).1
              refine evg_sound hv hic s hib hev hq2 hput fun a' w' h1 => evL_sound hv hic hib e hp hq a' w' ?_
              obtain ⟨ρ', s'⟩ := h1
              exact ⟨ρ', s'.congr (fun _ => rfl) fun r => ddp_get h' [] r (by simp)⟩
        · split at e
          · rename_i d h' qs hev
            simp only [Option.some.injEq, Prod.mk.injEq] at e
            obtain ⟨rfl, rfl⟩ := e
            exact evp_sound s hev (catP_all.1 hp).1 hq
          · cases e
end
section
variable {P : Program} {τ : List (Nat × TI)}
theorem Pure.body (hv : Valid P τ) {f : FuncId} {fn : Func} {c : Code} {ds : List D} {r : RO} (hf : P.funcs[f]? = some fn) (hb : fn.body = some c)
    (hname : (fn.name == "runtime.NumGoroutine") = false) (hn : Nat.ble ds.length fn.ntmps = true)
    (h : ∀ (w : World) (ok : Nat → Nat → Prop) (giv : Nat → Prop) (E0 : Env), (∀ b, ¬ giv b) → (∀ r, ¬ E0.dom r) → H P ⟨w, ok, giv, fn.ntmps, E0, []⟩ c ⟨enumD 0 ds, [], 0⟩ (RetQ τ fn.results.toList r)) : Pure P f ds r :=
  Pure.of_body hv hf hb hname (Nat.le_of_ble_eq_true hn) fun B hN hg hE hd => by
    obtain ⟨w, ok, giv, N, E0, dl⟩ := B
    simp only at hN hd
    subst hN hd
    exact h w ok giv E0 hg hE
end
end Go.Px
end

section
namespace Go.Px
open Go.RowKit

def io (ι : List (Nat × Nat)) (r : Nat) : Nat := match get ι r with | some q => q | none => r
def okRef (h' : List (Nat × Root)) (nx' r : Nat) : Bool := Nat.blt r nx' || (match get h' r with | some _ => true | none => false)
theorem okRef_spec {σ' : List (Nat × D)} {h' : List (Nat × Root)} {nx' r : Nat} (h : okRef h' nx' r = true) : St.has ⟨σ', h', nx'⟩ r := by
  unfold okRef at h
  rw [Bool.or_eq_true] at h
  rcases h with h | h
  · exact .inl (by simpa [Nat.blt_eq] using h)
  · split at h
    · rename_i R hR; exact .inr (by show (get h' r).isSome = true; rw [hR]; rfl)
    · cases h
/-- The new value d' stands for the elder one d. -/
def renD (ι : List (Nat × Nat)) (h' : List (Nat × Root)) (nx' : Nat) (d' : D) (d : Option D) : Prop :=
  match d' with
  | .os r off n => okRef h' nx' r = true ∧ d = some (.os (io ι r) off n)
  | .oa r off => okRef h' nx' r = true ∧ d = some (.oa (io ι r) off)
  | d' => topP d' = true ∧ d = some d'
theorem renD_rep {ι : List (Nat × Nat)} {σ' : List (Nat × D)} {h' : List (Nat × Root)} {nx' : Nat} {E E' : Env} {d' d : D} {v : Value} (hd : renD ι h' nx' d' (some d))
    (hρ : ∀ r, E'.ρ r = E.ρ (io ι r)) (hdom : ∀ r, St.has ⟨σ', h', nx'⟩ r → E'.dom r) (hle : E.pure.Le E'.pure) (h : rep E d v) : rep E' d' v := by
  unfold renD at hd
  split at hd
  · obtain ⟨h1, h2⟩ := hd
    cases h2
    simp only [rep] at h ⊢
    exact ⟨hdom _ (okRef_spec h1), by rw [hρ]; exact h.2⟩
  · obtain ⟨h1, h2⟩ := hd
    cases h2
    simp only [rep] at h ⊢
    exact ⟨hdom _ (okRef_spec h1), by rw [hρ]; exact h.2⟩
  · obtain ⟨h1, h2⟩ := hd
    cases h2
    exact rep_of_pure (rep_mono hle _ _ (topP_pure _ _ h1 h))
def renC (ι : List (Nat × Nat)) (h' : List (Nat × Root)) (nx' : Nat) : List D → List D → Prop
  | [], [] => True
  | d' :: l', d :: l => renD ι h' nx' d' (some d) ∧ renC ι h' nx' l' l
  | _, _ => False
theorem renC_len {ι : List (Nat × Nat)} {h' : List (Nat × Root)} {nx' : Nat} : ∀ {l' l : List D}, renC ι h' nx' l' l → l'.length = l.length
  | [], [], _ => rfl
  | _ :: _, _ :: _, h => by simp [renC_len h.2]
  | [], _ :: _, h => h.elim
  | _ :: _, [], h => h.elim
theorem renC_get {ι : List (Nat × Nat)} {h' : List (Nat × Root)} {nx' : Nat} : ∀ {l' l : List D}, renC ι h' nx' l' l → ∀ (k : Nat) (d' : D), l'[k]? = some d' → ∃ d, l[k]? = some d ∧ renD ι h' nx' d' (some d)
  | [], [], _, k, d', hk => by simp at hk
  | a' :: l', a :: l, h, k, d', hk => by
    cases k with
    | zero => simp at hk; subst hk; exact ⟨a, by simp, h.1⟩
    | succ k => simpa using renC_get h.2 k d' (by simpa using hk)
  | [], _ :: _, h, _, _, _ => h.elim
  | _ :: _, [], h, _, _, _ => h.elim
/-- A root may be told as a given one. -/
def gvOK (g' g : Bool) : Prop := match g' with | true => True | false => g = false
def renR (ι : List (Nat × Nat)) (h' : List (Nat × Root)) (nx' : Nat) (R' : Root) (R : Option Root) : Prop :=
  match R with
  | none => False
  | some R => (R'.E = R.E ∧ R'.sz = R.sz ∧ R'.fz = R.fz ∧ R'.own = R.own ∧ gvOK R'.giv R.giv ∧ R'.lit = R.lit) ∧
    match R'.lit with
    | true => renC ι h' nx' R'.cs R.cs
    | false => R'.cs = R.cs
def renH (ι : List (Nat × Nat)) (h' : List (Nat × Root)) (nx' : Nat) (h : List (Nat × Root)) : List (Nat × Root) → Prop
  | [] => True
  | (r, R') :: l => renR ι h' nx' R' (get h (io ι r)) ∧ renH ι h' nx' h l
def renS (ι : List (Nat × Nat)) (h' : List (Nat × Root)) (nx' : Nat) (σ : List (Nat × D)) : List (Nat × D) → Prop
  | [] => True
  | (t, d') :: l => renD ι h' nx' d' (get σ t) ∧ renS ι h' nx' σ l
def injR (ι : List (Nat × Nat)) : List (Nat × Root) → Bool
  | [] => true
  | (r, _) :: l => (l.all fun x => Nat.beq x.1 r || !Nat.beq (io ι x.1) (io ι r)) && injR ι l
theorem renH_get {ι : List (Nat × Nat)} {h' h : List (Nat × Root)} {nx' : Nat} : ∀ {l : List (Nat × Root)}, renH ι h' nx' h l → ∀ r R', get l r = some R' → renR ι h' nx' R' (get h (io ι r))
  | [], _, r, R', g => by simp [get] at g
  | (q, Q) :: l, k, r, R', g => by
    rw [get_cons] at g
    split at g
    · rename_i e; subst e; cases g; exact k.1
    · exact renH_get k.2 r R' g
theorem renS_get {ι : List (Nat × Nat)} {h' : List (Nat × Root)} {σ : List (Nat × D)} {nx' : Nat} : ∀ {l : List (Nat × D)}, renS ι h' nx' σ l → ∀ t d', get l t = some d' → renD ι h' nx' d' (get σ t)
  | [], _, r, R', g => by simp [get] at g
  | (q, Q) :: l, k, r, R', g => by
    rw [get_cons] at g
    split at g
    · rename_i e; subst e; cases g; exact k.1
    · exact renS_get k.2 r R' g
theorem get_mem {α : Type} : ∀ {l : List (Nat × α)} {r : Nat} {x : α}, get l r = some x → ∃ y ∈ l, y.1 = r
  | [], _, _, g => by simp [get] at g
  | (q, Q) :: l, r, x, g => by
    rw [get_cons] at g
    split at g
    · rename_i e; exact ⟨_, List.mem_cons_self, e⟩
    · obtain ⟨y, h1, h2⟩ := get_mem g; exact ⟨y, List.mem_cons_of_mem _ h1, h2⟩
theorem injR_spec {ι : List (Nat × Nat)} : ∀ {l : List (Nat × Root)}, injR ι l = true → ∀ x ∈ l, ∀ y ∈ l, io ι x.1 = io ι y.1 → x.1 = y.1
  | [], _, x, hx, _, _, _ => by simp at hx
  | (q, Q) :: l, h, x, hx, y, hy, e => by
    simp only [injR, Bool.and_eq_true, List.all_eq_true, Bool.or_eq_true, Bool.not_eq_true'] at h
    have key : ∀ z ∈ l, io ι z.1 = io ι q → z.1 = q := fun z hz ez => by
      rcases h.1 z hz with h1 | h1
      · exact Nat.eq_of_beq_eq_true h1
      · rw [ez, Nat.beq_refl] at h1; cases h1
    rcases List.mem_cons.1 hx with rfl | hx <;> rcases List.mem_cons.1 hy with rfl | hy
    · rfl
    · exact (key y hy e.symm).symm
    · exact key x hx e
    · exact injR_spec h.2 x hx y hy e

theorem renD_some {ι : List (Nat × Nat)} {h' : List (Nat × Root)} {nx' : Nat} {d' : D} {o : Option D} (h : renD ι h' nx' d' o) : ∃ d, o = some d := by
  unfold renD at h
  split at h <;> exact ⟨_, h.2⟩

/-- Another name for the roots, and some forgotten. -/
theorem SatR.ren2 {B : Base} {st : St} {a : Act} {w : World} {ρ : Nat → RC} (ι : List (Nat × Nat)) {σ' : List (Nat × D)} {h' : List (Nat × Root)} {nx' : Nat}
    (hσ : renS ι h' nx' st.σ σ') (hh : renH ι h' nx' st.h h') (hi : injR ι h' = true) (hE : ∀ r, B.E0.dom r → io ι r = r ∧ okRef h' nx' r = true) (s : SatR B st a w ρ) : SatR B ⟨σ', h', nx'⟩ a w (fun r => ρ (io ι r)) ∧ (st.env B w ρ).pure.Le (St.env B ⟨σ', h', nx'⟩ w fun r => ρ (io ι r)).pure ∧
    ∀ {d' d : D} {v : Value}, renD ι h' nx' d' (some d) → rep (st.env B w ρ) d v → rep (St.env B ⟨σ', h', nx'⟩ w fun r => ρ (io ι r)) d' v := by
  let ρ' : Nat → RC := fun r => ρ (io ι r)
  have up : ∀ r R', get h' r = some R' → ∃ R, get st.h (io ι r) = some R ∧ (R'.E = R.E ∧ R'.sz = R.sz ∧ R'.fz = R.fz ∧ R'.own = R.own ∧ gvOK R'.giv R.giv ∧ R'.lit = R.lit) ∧
      (match R'.lit with | true => renC ι h' nx' R'.cs R.cs | false => R'.cs = R.cs) := by
    intro r R' g
    have := renH_get hh r R' g
    unfold renR at this
    split at this
    · exact this.elim
    · rename_i R hR; exact ⟨R, hR, this.1, this.2⟩
  have hok : ∀ b o, okOf B st.h ρ b o → okOf B h' ρ' b o := fun b o h => ⟨h.1, fun r R' h1 h2 h3 => by
    obtain ⟨R, q1, q2, _⟩ := up r R' h1
    rw [q2.2.2.1]
    exact h.2 _ R q1 (q2.2.2.2.1 ▸ h2) h3⟩
  have hle : (st.env B w ρ).pure.Le (St.env B ⟨σ', h', nx'⟩ w ρ').pure := ⟨fun b o v h1 h2 => ⟨h1, hok b o h2⟩, fun r hr => hr.elim, fun r hr => hr.elim⟩
  have hrep : ∀ {d' d : D} {v : Value}, renD ι h' nx' d' (some d) → rep (st.env B w ρ) d v → rep (St.env B ⟨σ', h', nx'⟩ w ρ') d' v := fun hd h =>
    renD_rep (σ' := σ') hd (fun _ => rfl) (fun _ h => h) hle h
  refine ⟨⟨fun t d' h => ?_, fun r R' h => ?_, fun r1 r2 R1 R2 b g1 g2 o1 o2 b1 b2 => ?_, s.size, s.defs, s.ext, fun r R' b g o hb => ?_, ⟨fun b o v h1 h2 => ⟨(s.le.cell b o v h1 h2).1, hok b o (s.le.cell b o v h1 h2).2⟩, fun r hr => by show ρ (io ι r) = _; rw [(hE r hr).1]; exact s.le.root r hr, fun r hr => okRef_spec (hE r hr).2⟩⟩, hle, fun hd h => hrep hd h⟩
  · have hr := renS_get hσ t d' h
    obtain ⟨d, hd⟩ := renD_some hr
    rw [hd] at hr
    obtain ⟨v, h1, h2⟩ := s.tmps t d hd
    exact ⟨v, h1, hrep hr h2⟩
  · obtain ⟨R, q1, ⟨e1, e2, e3, e4, e5, e6⟩, q3⟩ := up r R' h
    have q := s.roots _ R q1
    have hlen : R'.cs.length = R.cs.length := by
      split at q3
      · exact renC_len q3
      · rw [q3]
    refine ⟨St.has_of h, by rw [e2]; exact q.sz, by rw [e2]; exact q.pos, by rw [e3, hlen]; exact q.fz, ?_⟩
    have qb := q.blk
    unfold RootBlk at qb ⊢
    show match (ρ (io ι r)).blk with | none => _ | some b => _
    have e0 : ((st.env B w ρ).ρ (io ι r)) = ρ (io ι r) := rfl
    rw [e0] at qb
    cases hb : (ρ (io ι r)).blk with
    | none =>
      simp only [hb] at qb
      exact ⟨List.eq_nil_of_length_eq_zero (by rw [hlen, qb.1]; rfl), qb.2⟩
    | some b =>
      simp only [hb] at qb
      obtain ⟨cells, h1, h2, h3, h4, h5⟩ := qb
      refine ⟨cells, by rw [e1]; exact h1, by rw [e2]; exact h2, h3, by rw [hlen]; exact h4, fun k d' hk => ?_⟩
      cases hlit : R'.lit with
      | true =>
        rw [hlit] at q3 e6
        obtain ⟨d, hd, hrd⟩ := renC_get q3 k d' hk
        obtain ⟨v, p1, p2, p3, p4⟩ := h5 k d hd
        rw [← e6] at p3
        exact ⟨v, p1, p2, hrep hrd p3, fun ho => hok b k (p4 (e4 ▸ ho))⟩
      | false =>
        rw [hlit] at q3 e6
        have q3 : R'.cs = R.cs := q3
        rw [q3] at hk
        obtain ⟨v, p1, p2, p3, p4⟩ := h5 k d' hk
        rw [← e6] at p3
        exact ⟨v, p1, p2, rep_mono hle _ _ p3, fun ho => hok b k (p4 (e4 ▸ ho))⟩
  · obtain ⟨S1, p1, q1, _⟩ := up r1 R1 g1
    obtain ⟨S2, p2, q2, _⟩ := up r2 R2 g2
    have := s.inj _ _ S1 S2 b p1 p2 (q1.2.2.2.1 ▸ o1) (q2.2.2.2.1 ▸ o2) b1 b2
    obtain ⟨y1, m1, rfl⟩ := get_mem g1
    obtain ⟨y2, m2, rfl⟩ := get_mem g2
    exact injR_spec hi y1 m1 y2 m2 this
  · obtain ⟨R, q1, q2, _⟩ := up r R' g
    have := s.fresh _ R b q1 (q2.2.2.2.1 ▸ o) hb
    have hg := q2.2.2.2.2.1
    unfold gvOK at hg
    split at hg
    · rename_i e; exact ⟨fun h => (by rw [e] at h; cases h), this.2⟩
    · exact ⟨fun _ => this.1 hg, this.2⟩

theorem Sat.ren2 {B : Base} {st : St} {a : Act} {w : World} (ι : List (Nat × Nat)) {σ' : List (Nat × D)} {h' : List (Nat × Root)} {nx' : Nat}
    (hσ : renS ι h' nx' st.σ σ') (hh : renH ι h' nx' st.h h') (hi : injR ι h' = true) (hE : ∀ r, B.E0.dom r → io ι r = r ∧ okRef h' nx' r = true) (s : Sat B st a w) : Sat B ⟨σ', h', nx'⟩ a w := by
  obtain ⟨ρ, s⟩ := s
  exact ⟨_, (s.ren2 ι hσ hh hi hE).1⟩
theorem Sat.ren {B : Base} (hE : ∀ r, ¬ B.E0.dom r) {st : St} {a : Act} {w : World} (ι : List (Nat × Nat)) {σ' : List (Nat × D)} {h' : List (Nat × Root)} {nx' : Nat}
    (hσ : renS ι h' nx' st.σ σ') (hh : renH ι h' nx' st.h h') (hi : injR ι h' = true) (s : Sat B st a w) : Sat B ⟨σ', h', nx'⟩ a w :=
  s.ren2 ι hσ hh hi fun r hr => absurd hr (hE r)

/-- nil becomes an empty root. -/
theorem Sat.adopt {B : Base} {st : St} {a : Act} {w : World} (t id : Nat) (E : TypeId) (sz : Nat) (hsz : Nat.blt 0 sz = true) (lit : Bool) (ht : get st.σ t = some .nils) (hid : Nat.ble st.nx id = true) (hfr : fresh st.h id = true)
    (s : Sat B st a w) : Sat B ⟨(t, .os id 0 0) :: st.σ, (id, ⟨E, sz, [], 0, true, false, lit⟩) :: st.h, st.nx⟩ a w := by
  obtain ⟨ρ, s⟩ := s
  have hno := fresh_spec hfr (Nat.le_of_ble_eq_true hid)
  obtain ⟨q1, q2⟩ := s.nilroot id hno ⟨E, sz, [], 0, true, false, lit⟩ (by simpa [Nat.blt_eq] using hsz) rfl rfl
  refine ⟨_, fun t' d h => ?_, q1.roots, q1.inj, q1.size, q1.defs, q1.ext, q1.fresh, q1.le⟩
  replace h : get ((t, D.os id 0 0) :: st.σ) t' = some d := h
  rw [get_cons] at h
  split at h
  · rename_i e
    subst e
    cases h
    obtain ⟨v, h1, h2⟩ := s.tmps t _ ht
    refine ⟨v, h1, ?_⟩
    simp only [rep] at h2 ⊢
    refine ⟨St.has_of (st := ⟨_, (id, _) :: st.h, st.nx⟩) (by rw [get_cons, if_pos rfl]), ?_⟩
    unfold osRep
    simp [St.env, h2]
  · obtain ⟨v, h1, h2⟩ := q1.tmps t' d h
    exact ⟨v, h1, h2⟩
/-- nil in a box becomes an empty root. -/
theorem Sat.adoptC {B : Base} {st : St} {a : Act} {w : World} (r k id : Nat) (E : TypeId) (sz : Nat) (hsz : Nat.blt 0 sz = true) {R : Root} (hR : get st.h r = some R) (hlit : R.lit = true) (hk : R.cs[k]? = some .nils) (hid : Nat.ble st.nx id = true)
    (hfr : fresh st.h id = true) (s : Sat B st a w) : Sat B ⟨st.σ, (r, R.setCs (R.cs.set k (.os id 0 0))) :: (id, ⟨E, sz, [], 0, true, false, false⟩) :: st.h, st.nx⟩ a w := by
  obtain ⟨ρ, s⟩ := s
  have hno := fresh_spec hfr (Nat.le_of_ble_eq_true hid)
  obtain ⟨q1, q2⟩ := s.nilroot id hno ⟨E, sz, [], 0, true, false, false⟩ (by simpa [Nat.blt_eq] using hsz) rfl rfl
  rw [setCs_eq]
  have hri : r ≠ id := fun e => hno (by rw [← e]; exact St.has_of hR)
  have hR1 : get ((id, (⟨E, sz, [], 0, true, false, false⟩ : Root)) :: st.h) r = some R := by rw [get_cons, if_neg hri.symm]; exact hR
  have hcase : ∀ q Q, get ((r, { R with cs := R.cs.set k (.os id 0 0) }) :: (id, (⟨E, sz, [], 0, true, false, false⟩ : Root)) :: st.h) q = some Q → (q = r ∧ Q = { R with cs := R.cs.set k (.os id 0 0) }) ∨ (q ≠ r ∧ get ((id, (⟨E, sz, [], 0, true, false, false⟩ : Root)) :: st.h) q = some Q) := by
    intro q Q h
    rw [get_cons] at h
    split at h
    · rename_i e; cases h; exact .inl ⟨e.symm, rfl⟩
    · rename_i e; exact .inr ⟨fun h => e h.symm, h⟩
  obtain ⟨p1, _⟩ := q1.reheap ((r, { R with cs := R.cs.set k (.os id 0 0) }) :: (id, ⟨E, sz, [], 0, true, false, false⟩) :: st.h) st.nx _ (fun q h => St.has_cons h) (fun _ _ => rfl)
    (fun b o h => ⟨h.1, fun q Q h1 h2 h3 => by
      rcases hcase q Q h1 with ⟨rfl, rfl⟩ | ⟨_, h1⟩
      · exact h.2 q R hR1 h2 h3
      · exact h.2 q Q h1 h2 h3⟩)
    (fun hle q Q hq => by
      rcases hcase q Q hq with ⟨rfl, rfl⟩ | ⟨_, h1⟩
      · have qq := q1.roots q R hR1
        refine ⟨hle.nx _ qq.lt, qq.sz, qq.pos, by simpa using qq.fz, ?_⟩
        have qb := qq.blk
        unfold RootBlk at qb ⊢
        split at qb
        · obtain ⟨h1, _⟩ := qb
          rw [h1] at hk
          simp at hk
        · rename_i b hb
          have hb' : (St.env B ⟨st.σ, (q, { R with cs := R.cs.set k (.os id 0 0) }) :: (id, ⟨E, sz, [], 0, true, false, false⟩) :: st.h, st.nx⟩ w (fun q => if q = id then (⟨none, sz, 0⟩ : RC) else ρ q)).ρ q = (St.env B ⟨st.σ, (id, ⟨E, sz, [], 0, true, false, false⟩) :: st.h, st.nx⟩ w (fun q => if q = id then (⟨none, sz, 0⟩ : RC) else ρ q)).ρ q := rfl
          obtain ⟨cells, h1, h2, h3, h4, h5⟩ := qb
          rw [hb', hb]
          refine ⟨cells, h1, h2, h3, by simpa using h4, fun j d hj => ?_⟩
          replace hj : (R.cs.set k (.os id 0 0))[j]? = some d := hj
          rw [List.getElem?_set] at hj
          split at hj
          · rename_i e
            subst e
            split at hj
            · cases hj
              obtain ⟨v, p1, p2, p3, p4⟩ := h5 k _ hk
              refine ⟨v, p1, p2, ?_, fun ho => ⟨(p4 ho).1, fun q2 Q2 g1 g2 g3 => ?_⟩⟩
              · have p3' : rep (St.env B ⟨st.σ, (id, ⟨E, sz, [], 0, true, false, false⟩) :: st.h, st.nx⟩ w (fun q => if q = id then (⟨none, sz, 0⟩ : RC) else ρ q)) .nils v := rep_of_at p3
                simp only [rep] at p3'
                show rep (Env.at _ R.lit) _ v
                rw [hlit]
                simp only [Env.at, rep]
                refine ⟨St.has_of (st := ⟨_, (q, _) :: (id, _) :: st.h, st.nx⟩) (R := ⟨E, sz, [], 0, true, false, false⟩) (by rw [get_cons, if_neg hri, get_cons, if_pos rfl]), ?_⟩
                unfold osRep
                simp [St.env, p3']
              · rcases hcase q2 Q2 g1 with ⟨rfl, rfl⟩ | ⟨_, g1⟩
                · exact (p4 ho).2 q2 R hR1 g2 g3
                · exact (p4 ho).2 q2 Q2 g1 g2 g3
            · cases hj
          · obtain ⟨v, p1, p2, p3, p4⟩ := h5 j d hj
            refine ⟨v, p1, p2, rep_mono (hle.at _) _ _ p3, fun ho => ⟨(p4 ho).1, fun q2 Q2 g1 g2 g3 => ?_⟩⟩
            rcases hcase q2 Q2 g1 with ⟨rfl, rfl⟩ | ⟨_, g1⟩
            · exact (p4 ho).2 q2 R hR1 g2 g3
            · exact (p4 ho).2 q2 Q2 g1 g2 g3
      · have qq := q1.roots q Q h1
        refine ⟨hle.nx _ qq.lt, qq.sz, qq.pos, qq.fz, qq.blk.mono hle (fun _ _ => rfl) (fun b j _ h _ => ⟨h.1, fun q2 Q2 g1 g2 g3 => ?_⟩)⟩
        rcases hcase q2 Q2 g1 with ⟨rfl, rfl⟩ | ⟨_, g1⟩
        · exact h.2 q2 R hR1 g2 g3
        · exact h.2 q2 Q2 g1 g2 g3)
    (fun r1 r2 R1 R2 b g1 g2 o1 o2 b1 b2 => by
      have up : ∀ q Q, get ((r, { R with cs := R.cs.set k (.os id 0 0) }) :: (id, (⟨E, sz, [], 0, true, false, false⟩ : Root)) :: st.h) q = some Q → ∃ Q', get ((id, (⟨E, sz, [], 0, true, false, false⟩ : Root)) :: st.h) q = some Q' ∧ Q'.own = Q.own := fun q Q h => by
        rcases hcase q Q h with ⟨rfl, rfl⟩ | ⟨_, h1⟩
        · exact ⟨R, hR1, rfl⟩
        · exact ⟨Q, h1, rfl⟩
      obtain ⟨S1, t1, e1⟩ := up r1 R1 g1
      obtain ⟨S2, t2, e2⟩ := up r2 R2 g2
      exact q1.inj r1 r2 S1 S2 b t1 t2 (e1.trans o1) (e2.trans o2) b1 b2)
    (fun r1 R1 b g1 o1 b1 => by
      rcases hcase r1 R1 g1 with ⟨rfl, rfl⟩ | ⟨_, h1⟩
      · exact q1.fresh r1 R b hR1 o1 b1
      · exact q1.fresh r1 R1 b h1 o1 b1)
  exact ⟨_, p1⟩

/-- What is kept of the first of two pieces. -/
def Cut {Y : Type} (B : Base) (I : Y → Prop) (S : Y → St) (st : St) : Prop := ∃ y, I y ∧ ∀ a w, Sat B st a w → Sat B (S y) a w
def cutQ {Y : Type} (B : Base) (I : Y → Prop) (S : Y → St) (Q : AX → St → Prop) : AX → St → Prop
  | .normal, st => Cut B I S st
  | e, st => Q e st
theorem H.seqCut {P : Program} {B : Base} {st : St} {Q : AX → St → Prop} {Y : Type} {x y : Code} (I : Y → Prop) (S : Y → St) (h : H P B x st (cutQ B I S Q)) (k : ∀ z, I z → H P B y (S z) Q) : H P B (.seq x y) st Q :=
  H.seq (h.mono fun e st' hq => by
    cases e with
    | normal => obtain ⟨z, h1, h2⟩ := hq; exact fun a w s => k z h1 a w (h2 a w s)
    | _ => exact hq)
theorem cutI {Y : Type} {B : Base} {I : Y → Prop} {S : Y → St} {st : St} (z : Y) (h : I z) (k : ∀ a w, Sat B st a w → Sat B (S z) a w) : Cut B I S st := ⟨z, h, k⟩
def Again {X : Type} (B : Base) (I : X → Prop) (S : X → St) (m : X → Nat) (x : X) (st : St) : Prop := ∃ y, I y ∧ m y < m x ∧ ∀ a w, Sat B st a w → Sat B (S y) a w
def loopI {X : Type} (B : Base) (I : X → Prop) (S : X → St) (m : X → Nat) (x : X) (Q : AX → St → Prop) : AX → St → Prop
  | .normal, st => Again B I S m x st
  | e, st => Q e st
theorem loopN {X : Type} {B : Base} {I : X → Prop} {S : X → St} {m : X → Nat} {x : X} {st : St} (y : X) (h : I y) (hm : m y < m x) (k : ∀ a w, Sat B st a w → Sat B (S y) a w) : Again B I S m x st := ⟨y, h, hm, k⟩
theorem H.loopI {P : Program} {B : Base} {st : St} {Q : AX → St → Prop} {X : Type} {c : Code} (I : X → Prop) (S : X → St) (m : X → Nat) (x0 : X) (hI : I x0) (h0 : ∀ a w, Sat B st a w → Sat B (S x0) a w)
    (round : ∀ x, I x → H P B c (S x) (loopI B I S m x Q)) : H P B (.loop c) st Q :=
  H.loop (X := {x // I x}) (fun x => S x.1) (fun x => m x.1) ⟨x0, hI⟩ h0 fun x => (round x.1 x.2).mono fun e st h => by
    cases e with
    | normal => obtain ⟨y, h1, h2, h3⟩ := h; exact ⟨⟨y, h1⟩, h2, h3⟩
    | _ => exact h
/-- The same state, told anew. -/
theorem H.to {P : Program} {B : Base} {σ : List (Nat × D)} {h : List (Nat × Root)} {nx : Nat} {Q : AX → St → Prop} {c : Code} (ι : List (Nat × Nat)) (σ' : List (Nat × D)) (h' : List (Nat × Root)) (nx' : Nat)
    (hσ : renS ι h' nx' σ σ') (hh : renH ι h' nx' h h') (hi : injR ι h' = true) (hE : ∀ r, ¬ B.E0.dom r) (k : H P B c ⟨σ', h', nx'⟩ Q) : H P B c ⟨σ, h, nx⟩ Q :=
  H.pre k fun _ _ s => s.ren hE ι hσ hh hi
theorem H.to2 {P : Program} {B : Base} {σ : List (Nat × D)} {h : List (Nat × Root)} {nx : Nat} {Q : AX → St → Prop} {c : Code} (ι : List (Nat × Nat)) (σ' : List (Nat × D)) (h' : List (Nat × Root)) (nx' : Nat)
    (hσ : renS ι h' nx' σ σ') (hh : renH ι h' nx' h h') (hi : injR ι h' = true) (hE : ∀ r, B.E0.dom r → io ι r = r ∧ okRef h' nx' r = true) (k : H P B c ⟨σ', h', nx'⟩ Q) : H P B c ⟨σ, h, nx⟩ Q :=
  H.pre k fun _ _ s => s.ren2 ι hσ hh hi hE
end Go.Px
end

section
namespace Go.Px
open Go.RowKit

/-! ### Contracts of functions that turn what they are given -/
/-- Called with the given roots 'hl' (its own numbers for them), the function hands back 'd' and leaves 'hl''. -/
structure Mut (P : Program) (f : FuncId) (ds : List D) (hl : List (Nat × Root)) (d : D) (hl' : List (Nat × Root)) : Prop where
  fn : FnOK P f
  run : ∀ (B : Base) (a : Act) (w : World) (ρ : Nat → RC) (vs : List Value), SatR B ⟨[], hl, 0⟩ a w ρ → B.w = w → (∀ r, B.E0.dom r → (get hl r).isSome = true) →
    repVals (St.env B ⟨[], hl, 0⟩ w ρ) ds vs → Calls P f vs.toArray w fun e w' => ∃ v ρ', e = .returned v ∧ SatR B ⟨[], hl', 0⟩ a w' ρ' ∧ rep (St.env B ⟨[], hl', 0⟩ w' ρ') d v

/-! What the caller says in the callee's numbers: g: (the callee's, the caller's) -/
def inv (g : List (Nat × Nat)) (r : Nat) : Option Nat :=
  match g with
  | [] => none
  | (i, q) :: l => match Nat.beq q r with | true => some i | false => inv l r
theorem inv_spec {g : List (Nat × Nat)} {r i : Nat} (h : inv g r = some i) : (i, r) ∈ g := by
  induction g with
  | nil => simp [inv] at h
  | cons x l ih =>
    obtain ⟨j, q⟩ := x
    simp only [inv] at h
    split at h
    · rename_i e
      cases h
      rw [Nat.eq_of_beq_eq_true e]
      exact List.mem_cons_self
    · exact List.mem_cons_of_mem _ (ih h)
/-- No number twice, on neither side. -/
def uni (g : List (Nat × Nat)) : Bool :=
  match g with
  | [] => true
  | (i, q) :: l => l.all (fun x => !Nat.beq x.1 i && !Nat.beq x.2 q) && uni l
theorem beq_f {a b : Nat} (h : Nat.beq a b = false) : a ≠ b := fun e => by rw [e, Nat.beq_refl] at h; cases h
theorem uni_get {g : List (Nat × Nat)} (h : uni g = true) {i r : Nat} (hm : (i, r) ∈ g) : get g i = some r := by
  induction g with
  | nil => simp at hm
  | cons x l ih =>
    obtain ⟨j, q⟩ := x
    simp only [uni, Bool.and_eq_true, List.all_eq_true, Bool.not_eq_true'] at h
    rw [get_cons]
    rcases List.mem_cons.1 hm with e | hm
    · cases e; rw [if_pos rfl]
    · have := beq_f (h.1 _ hm).1
      rw [if_neg (fun e => this e.symm)]
      exact ih h.2 hm
theorem uni_left {g k : List (Nat × Nat)} (h : uni (g ++ k) = true) : uni g = true := by
  induction g with
  | nil => rfl
  | cons x l ih =>
    obtain ⟨j, q⟩ := x
    rw [List.cons_append] at h
    simp only [uni, Bool.and_eq_true, List.all_eq_true, List.mem_append] at h ⊢
    exact ⟨fun y hy => h.1 y (.inl hy), ih h.2⟩
theorem get_pair {g : List (Nat × Nat)} {i r : Nat} (h : get g i = some r) : (i, r) ∈ g := by
  induction g with
  | nil => simp [get] at h
  | cons x l ih =>
    obtain ⟨j, q⟩ := x
    rw [get_cons] at h
    split at h
    · rename_i e; cases h; subst e; exact List.mem_cons_self
    · exact List.mem_cons_of_mem _ (ih h)
theorem uni_inj {g : List (Nat × Nat)} (h : uni g = true) {i j r : Nat} (h1 : (i, r) ∈ g) (h2 : (j, r) ∈ g) : i = j := by
  induction g with
  | nil => simp at h1
  | cons x l ih =>
    obtain ⟨k, q⟩ := x
    simp only [uni, Bool.and_eq_true, List.all_eq_true, Bool.not_eq_true'] at h
    rcases List.mem_cons.1 h1 with e1 | m1 <;> rcases List.mem_cons.1 h2 with e2 | m2
    · cases e1; cases e2; rfl
    · cases e1; have := (h.1 _ m2).2; simp at this
    · cases e2; have := (h.1 _ m1).2; simp at this
    · exact ih h.2 m1 m2
/-- A value in other numbers. -/
def mapD (m : Nat → Option Nat) (d : D) : Option D :=
  match d with
  | .os r off n => match m r with | some i => some (.os i off n) | none => none
  | .oa r off => match m r with | some i => some (.oa i off) | none => none
  | d => match topP d with | true => some d | false => none
def mapDs (m : Nat → Option Nat) : List D → Option (List D)
  | [] => some []
  | d :: l => match mapD m d with
    | none => none
    | some d' => match mapDs m l with | none => none | some l' => some (d' :: l')
theorem mapDs_len {m : Nat → Option Nat} : ∀ {l l' : List D}, mapDs m l = some l' → l'.length = l.length
  | [], l', h => by simp only [mapDs, Option.some.injEq] at h; subst h; rfl
  | d :: l, l', h => by
    simp only [mapDs] at h
    split at h
    · cases h
    · split at h
      · cases h
      · rename_i hl; cases h; simp [mapDs_len hl]
theorem mapDs_get {m : Nat → Option Nat} : ∀ {l l' : List D}, mapDs m l = some l' → ∀ (k : Nat) (d' : D), l'[k]? = some d' → ∃ d, l[k]? = some d ∧ mapD m d = some d'
  | [], l', h, k, d', hk => by simp only [mapDs, Option.some.injEq] at h; subst h; simp at hk
  | d :: l, l', h, k, d', hk => by
    simp only [mapDs] at h
    split at h
    · cases h
    · rename_i d1 h1
      split at h
      · cases h
      · rename_i l1 hl
        cases h
        cases k with
        | zero => simp at hk; subst hk; exact ⟨d, by simp, h1⟩
        | succ k => simpa using mapDs_get hl k d' (by simpa using hk)
theorem mapD_rep {m : Nat → Option Nat} {E E' : Env} {d d' : D} {v : Value} (hd : mapD m d = some d') (hle : E.pure.Le E'.pure) (hm : ∀ r i, m r = some i → E.dom r → E'.dom i ∧ E'.ρ i = E.ρ r) (h : rep E d v) : rep E' d' v := by
  unfold mapD at hd
  split at hd
  · split at hd
    · rename_i i hi
      cases hd
      simp only [rep] at h ⊢
      obtain ⟨q1, q2⟩ := hm _ _ hi h.1
      exact ⟨q1, by rw [q2]; exact h.2⟩
    · cases hd
  · split at hd
    · rename_i i hi
      cases hd
      simp only [rep] at h ⊢
      obtain ⟨q1, q2⟩ := hm _ _ hi h.1
      exact ⟨q1, by rw [q2]; exact h.2⟩
    · cases hd
  · split at hd
    · rename_i ht
      cases hd
      exact rep_of_pure (rep_mono hle _ _ (topP_pure _ _ ht h))
    · cases hd
def mapR (m : Nat → Option Nat) (giv : Bool) (R : Root) : Option Root :=
  match R with
  | ⟨E, sz, cs, fz, own, _, lit⟩ => match lit with
    | true => match mapDs m cs with | some cs' => some ⟨E, sz, cs', fz, own, giv, true⟩ | none => none
    | false => some ⟨E, sz, cs, fz, own, giv, false⟩
theorem mapR_spec {m : Nat → Option Nat} {giv : Bool} {R R' : Root} (h : mapR m giv R = some R') : R'.E = R.E ∧ R'.sz = R.sz ∧ R'.fz = R.fz ∧ R'.own = R.own ∧ R'.giv = giv ∧ R'.lit = R.lit ∧ R'.cs.length = R.cs.length ∧
    ∀ {E E' : Env} (_ : E.pure.Le E'.pure) (_ : ∀ r i, m r = some i → E.dom r → E'.dom i ∧ E'.ρ i = E.ρ r) (k : Nat) (d' : D), R'.cs[k]? = some d' → ∃ d, R.cs[k]? = some d ∧ ∀ v, rep (E.at R.lit) d v → rep (E'.at R'.lit) d' v := by
  obtain ⟨E0, sz, cs, fz, own, g, lit⟩ := R
  cases lit with
  | true =>
    simp only [mapR] at h
    split at h
    · rename_i cs' hcs
      cases h
      refine ⟨rfl, rfl, rfl, rfl, rfl, rfl, mapDs_len hcs, fun hle hm k d' hk => ?_⟩
      obtain ⟨d, h1, h2⟩ := mapDs_get hcs k d' hk
      exact ⟨d, h1, fun v hv => mapD_rep h2 hle hm hv⟩
    · cases h
  | false =>
    simp only [mapR, Option.some.injEq] at h
    subst h
    exact ⟨rfl, rfl, rfl, rfl, rfl, rfl, rfl, fun hle _ k d' hk => ⟨d', hk, fun v hv => rep_mono hle _ _ hv⟩⟩
/-- The given roots, in the callee's numbers. -/
def locH (g : List (Nat × Nat)) (h : List (Nat × Root)) : List (Nat × Nat) → Option (List (Nat × Root))
  | [] => some []
  | (i, r) :: l => match get h r with
    | none => none
    | some R => match R.own with
      | false => none
      | true => match mapR (inv g) true R with
        | none => none
        | some R' => match locH g h l with | none => none | some hl => some ((i, R') :: hl)
theorem locH_get {g : List (Nat × Nat)} {h : List (Nat × Root)} : ∀ {l : List (Nat × Nat)} {hl : List (Nat × Root)}, locH g h l = some hl → ∀ i R', get hl i = some R' → ∃ r R, (i, r) ∈ l ∧ get h r = some R ∧ R.own = true ∧ mapR (inv g) true R = some R'
  | [], hl, e, i, R', q => by simp only [locH, Option.some.injEq] at e; subst e; simp [get] at q
  | (j, r) :: l, hl, e, i, R', q => by
    simp only [locH] at e
    split at e
    · cases e
    rename_i R hR
    split at e
    · cases e
    rename_i ho
    split at e
    · cases e
    rename_i R1 hm
    split at e
    · cases e
    rename_i hl1 hl2
    cases e
    rw [get_cons] at q
    split at q
    · rename_i ej; subst ej; cases q; exact ⟨r, R, List.mem_cons_self, hR, ho, hm⟩
    · obtain ⟨r', R', h1, h2⟩ := locH_get hl2 i R' q
      exact ⟨r', R', List.mem_cons_of_mem _ h1, h2⟩
theorem locH_of {g : List (Nat × Nat)} {h : List (Nat × Root)} : ∀ {l : List (Nat × Nat)} {hl : List (Nat × Root)}, locH g h l = some hl → ∀ i r, (i, r) ∈ l → ((get hl i).isSome = true) ∧ ∃ R, get h r = some R ∧ R.own = true
  | [], hl, e, i, r, q => by simp at q
  | (j, r0) :: l, hl, e, i, r, q => by
    simp only [locH] at e
    split at e
    · cases e
    rename_i R hR
    split at e
    · cases e
    rename_i ho
    split at e
    · cases e
    rename_i R1 hm
    split at e
    · cases e
    rename_i hl1 hl2
    cases e
    rcases List.mem_cons.1 q with e | q
    · cases e
      exact ⟨by rw [get_cons, if_pos rfl]; rfl, R, hR, ho⟩
    · obtain ⟨h1, h2⟩ := locH_of hl2 i r q
      refine ⟨?_, h2⟩
      rw [get_cons]
      split
      · rfl
      · exact h1
/-- What the callee leaves, in the caller's numbers. -/
def gloH (gg : List (Nat × Nat)) (g : List (Nat × Nat)) (h : List (Nat × Root)) (any : Bool) : List (Nat × Root) → Option (List (Nat × Root))
  | [] => some []
  | (i, R) :: l => match get gg i with
    | none => none
    | some r => match mapR (get gg) (match get g i with | some r => (match get h r with | some R0 => R0.giv | none => false) | none => any && R.giv) R with
      | none => none
      | some R' => match gloH gg g h any l with | none => none | some hl => some ((r, R') :: hl)
theorem gloH_get {gg g : List (Nat × Nat)} {h : List (Nat × Root)} {any : Bool} (hu : uni gg = true) : ∀ {l : List (Nat × Root)} {hl : List (Nat × Root)}, gloH gg g h any l = some hl → ∀ r R', get hl r = some R' →
    ∃ i R, get l i = some R ∧ get gg i = some r ∧ mapR (get gg) (match get g i with | some r => (match get h r with | some R0 => R0.giv | none => false) | none => any && R.giv) R = some R'
  | [], hl, e, r, R', q => by simp only [gloH, Option.some.injEq] at e; subst e; simp [get] at q
  | (j, R0) :: l, hl, e, r, R', q => by
    simp only [gloH] at e
    split at e
    · cases e
    rename_i r0 hr0
    split at e
    · cases e
    rename_i R1 hm
    split at e
    · cases e
    rename_i hl1 hl2
    cases e
    rw [get_cons] at q
    split at q
    · rename_i ej; subst ej; cases q; exact ⟨j, R0, by rw [get_cons, if_pos rfl], hr0, hm⟩
    · rename_i ne
      obtain ⟨i, R, h1, h2, h3⟩ := gloH_get hu hl2 r R' q
      refine ⟨i, R, ?_, h2, h3⟩
      rw [get_cons, if_neg]
      · exact h1
      · rintro rfl
        rw [hr0] at h2
        cases h2
        exact ne rfl
theorem gloH_of {gg g : List (Nat × Nat)} {h : List (Nat × Root)} {any : Bool} (hu : uni gg = true) : ∀ {l : List (Nat × Root)} {hl : List (Nat × Root)}, gloH gg g h any l = some hl → ∀ i R, get l i = some R → ∃ r R', get gg i = some r ∧ get hl r = some R' ∧
    mapR (get gg) (match get g i with | some r => (match get h r with | some R0 => R0.giv | none => false) | none => any && R.giv) R = some R'
  | [], hl, e, i, R, q => by simp [get] at q
  | (j, R0) :: l, hl, e, i, R, q => by
    simp only [gloH] at e
    split at e
    · cases e
    rename_i r0 hr0
    split at e
    · cases e
    rename_i R1 hm
    split at e
    · cases e
    rename_i hl1 hl2
    cases e
    rw [get_cons] at q
    split at q
    · rename_i ej; subst ej; cases q; exact ⟨r0, R1, hr0, by rw [get_cons, if_pos rfl], hm⟩
    · rename_i ne
      obtain ⟨r, R', h1, h2, h3⟩ := gloH_of hu hl2 i R q
      refine ⟨r, R', h1, ?_, h3⟩
      rw [get_cons, if_neg]
      · exact h2
      · rintro rfl
        exact ne (uni_inj hu (get_pair hr0) (get_pair h1))
/-- The arguments: references to what is given, and values. -/
def argsM (g : List (Nat × Nat)) (h : List (Nat × Root)) : List D → Option (List D × List Prop)
  | [] => some ([], [])
  | d :: l => match (match d with
      | .os r off n => match inv g r with | some i => some (D.os i off n, []) | none => resD true h 30 d
      | .oa r off => match inv g r with | some i => some (D.oa i off, []) | none => resD true h 30 d
      | d => resD true h 30 d) with
    | none => none
    | some (d', ps) => match argsM g h l with
      | none => none
      | some (l', qs) => some (d' :: l', ps ++ qs)
/-- What is not given is written no more. -/
def others (g : List (Nat × Nat)) : List Nat → List Nat
  | [] => []
  | r :: l => match inv g r with | some _ => others g l | none => r :: others g l
def sameE (hl : List (Nat × Root)) (hl' : List (Nat × Root)) : List (Nat × Nat) → Bool
  | [] => true
  | (i, _) :: l => (match get hl i, get hl' i with | some R, some R' => Nat.beq R.E R'.E && R'.own | _, _ => false) && sameE hl hl' l
def frshN (h : List (Nat × Root)) (nx : Nat) : List (Nat × Nat) → Bool
  | [] => true
  | (_, r) :: l => (Nat.ble nx r && fresh h r) && frshN h nx l
def anyG (h : List (Nat × Root)) : List (Nat × Nat) → Bool
  | [] => false
  | (_, r) :: l => match get h r with | some R => R.giv || anyG h l | none => anyG h l
def appG : List (Nat × Nat) → List (Nat × Nat) → List (Nat × Nat)
  | [], ys => ys
  | x :: xs, ys => x :: appG xs ys
def appH : List (Nat × Root) → List (Nat × Root) → List (Nat × Root)
  | [], ys => ys
  | x :: xs, ys => x :: appH xs ys
theorem appG_eq (xs ys : List (Nat × Nat)) : appG xs ys = xs ++ ys := by induction xs with | nil => rfl | cons x xs ih => simp [appG, ih]
theorem appH_eq (xs ys : List (Nat × Root)) : appH xs ys = xs ++ ys := by induction xs with | nil => rfl | cons x xs ih => simp [appH, ih]
/-- The call: the value, the heap behind it, what is asked. -/
def evMut (P : Program) (f : FuncId) (ds : List D) (h : List (Nat × Root)) (nx : Nat) (d : D) (hl' : List (Nat × Root)) (g gn : List (Nat × Nat)) : Option (D × List (Nat × Root) × List Prop) :=
  match frz h (others g (refsL h 30 ds)) with
  | none => none
  | some h1 => match uni (appG g gn), frshN h1 nx gn with
    | true, true => match argsM g h1 ds, locH g h1 g with
      | some (ds', ps), some hl => match sameE hl hl' g with
        | false => none
        | true => match gloH (appG g gn) g h1 (anyG h1 g) hl', mapD (get (appG g gn)) d with
          | some hn, some d' => some (d', appH hn h1, ps ++ [Mut P f ds' hl d hl'])
          | _, _ => none
      | _, _ => none
    | _, _ => none

section
variable {P : Program} {B : Base} {st : St} {a : Act} {w : World} {ρ : Nat → RC}
theorem argsM_rep (s : SatR B st a w ρ) {g : List (Nat × Nat)} {E' : Env} (hle : (st.env B w ρ).pure.Le E'.pure) (hm : ∀ r i, inv g r = some i → E'.dom i ∧ E'.ρ i = ρ r) :
    ∀ {ds ds' : List D} {ps : List Prop} {vs : List Value}, argsM g st.h ds = some (ds', ps) → AllP ps → repVals (st.env B w ρ) ds vs → repVals E' ds' vs
  | [], ds', ps, vs, h, hp, hr => by
    simp only [argsM, Option.some.injEq, Prod.mk.injEq] at h
    obtain ⟨rfl, rfl⟩ := h
    simp only [repVals] at hr ⊢
    exact hr
  | d :: l, ds', ps, vs, h, hp, hr => by
    simp only [argsM] at h
    split at h
    · cases h
    rename_i d1 p1 h1
    split at h
    · cases h
    rename_i l1 q1 h2
    simp only [Option.some.injEq, Prod.mk.injEq] at h
    obtain ⟨rfl, rfl⟩ := h
    rw [AllP_append] at hp
    simp only [repVals] at hr ⊢
    obtain ⟨v, ws, e, k1, k2⟩ := hr
    have pur : ∀ {d0 d' : D} {p : List Prop}, resD true st.h 30 d0 = some (d', p) → AllP p → rep (st.env B w ρ) d0 v → rep E' d' v := fun e1 e2 e3 => by
      have := resD_sound s 30 _ _ _ _ e1 e2 e3
      exact rep_of_pure (rep_mono hle _ _ (by simpa only [lend] using this))
    refine ⟨v, ws, e, ?_, argsM_rep s hle hm h2 hp.2 k2⟩
    split at h1
    · split at h1
      · rename_i i hi
        simp only [Option.some.injEq, Prod.mk.injEq] at h1
        obtain ⟨rfl, rfl⟩ := h1
        simp only [rep] at k1 ⊢
        obtain ⟨m1, m2⟩ := hm _ _ hi
        exact ⟨m1, by rw [m2]; exact k1.2⟩
      · exact pur h1 hp.1 k1
    · split at h1
      · rename_i i hi
        simp only [Option.some.injEq, Prod.mk.injEq] at h1
        obtain ⟨rfl, rfl⟩ := h1
        simp only [rep] at k1 ⊢
        obtain ⟨m1, m2⟩ := hm _ _ hi
        exact ⟨m1, by rw [m2]; exact k1.2⟩
      · exact pur h1 hp.1 k1
    · exact pur h1 hp.1 k1
theorem sameE_spec {hl hl' : List (Nat × Root)} : ∀ {g : List (Nat × Nat)}, sameE hl hl' g = true → ∀ i r, (i, r) ∈ g → ∃ R R', get hl i = some R ∧ get hl' i = some R' ∧ R.E = R'.E ∧ R'.own = true
  | [], _, i, r, m => by simp at m
  | (j, q) :: l, h, i, r, m => by
    simp only [sameE, Bool.and_eq_true] at h
    rcases List.mem_cons.1 m with e | m
    · cases e
      have h := h.1
      split at h
      · rename_i R R' h1 h2
        rw [Bool.and_eq_true] at h
        exact ⟨R, R', h1, h2, Nat.eq_of_beq_eq_true h.1, h.2⟩
      · cases h
    · exact sameE_spec h.2 i r m
theorem frshN_spec {h : List (Nat × Root)} {nx : Nat} : ∀ {g : List (Nat × Nat)}, frshN h nx g = true → ∀ i r, (i, r) ∈ g → nx ≤ r ∧ fresh h r = true
  | [], _, i, r, m => by simp at m
  | (j, q) :: l, h, i, r, m => by
    simp only [frshN, Bool.and_eq_true] at h
    rcases List.mem_cons.1 m with e | m
    · cases e
      exact ⟨Nat.le_of_ble_eq_true h.1.1, h.1.2⟩
    · exact frshN_spec h.2 i r m
theorem anyG_spec {h : List (Nat × Root)} : ∀ {g : List (Nat × Nat)}, anyG h g = false → ∀ i r R, (i, r) ∈ g → get h r = some R → R.giv = false
  | [], _, i, r, R, m, _ => by simp at m
  | (j, q) :: l, h, i, r, R, m, hr => by
    simp only [anyG] at h
    rcases List.mem_cons.1 m with e | m
    · cases e
      rw [hr] at h
      simp only [Bool.or_eq_false_iff] at h
      exact h.1
    · split at h
      · simp only [Bool.or_eq_false_iff] at h
        exact anyG_spec h.2 i r R m hr
      · exact anyG_spec h i r R m hr
theorem get_append {α : Type} {l k : List (Nat × α)} {r : Nat} : get (l ++ k) r = match get l r with | some x => some x | none => get k r := by
  induction l with
  | nil => rfl
  | cons x l ih =>
    obtain ⟨q, y⟩ := x
    rw [List.cons_append, get_cons, get_cons]
    split
    · rfl
    · exact ih

theorem mut_call (s : SatR B st a w ρ) {f : FuncId} {ds ds' : List D} {hl hl' hn : List (Nat × Root)} {g gn : List (Nat × Nat)} {d d' : D} {ps : List Prop} {vs : List Value}
    (hu : uni (g ++ gn) = true) (hf : frshN st.h st.nx gn = true) (ha : argsM g st.h ds = some (ds', ps)) (hp : AllP ps) (hloc : locH g st.h g = some hl) (hE : sameE hl hl' g = true)
    (hg : gloH (g ++ gn) g st.h (anyG st.h g) hl' = some hn) (hd : mapD (get (g ++ gn)) d = some d') (hM : Mut P f ds' hl d hl') (hr : repVals (st.env B w ρ) ds vs) :
    Calls P f vs.toArray w fun e w' => ∃ v ρ', e = .returned v ∧ SatR B ⟨st.σ, hn ++ st.h, st.nx⟩ a w' ρ' ∧ rep (St.env B ⟨st.σ, hn ++ st.h, st.nx⟩ w' ρ') d' v := by
  -- the numbers
  have hug := uni_left hu
  have gin : ∀ i r, (i, r) ∈ g → get (g ++ gn) i = some r := fun i r m => uni_get hu (List.mem_append_left _ m)
  have ginv : ∀ i r, get (g ++ gn) i = some r → (i, r) ∈ g ∨ (i, r) ∈ gn := fun i r m => List.mem_append.1 (get_pair m)
  have ginj : ∀ i j r, get (g ++ gn) i = some r → get (g ++ gn) j = some r → i = j := fun i j r m n => uni_inj hu (get_pair m) (get_pair n)
  have own : ∀ i r, (i, r) ∈ g → (get hl i).isSome = true ∧ ∃ R, get st.h r = some R ∧ R.own = true := locH_of hloc
  have gg : ∀ i r, (i, r) ∈ g → get g i = some r := fun i r m => uni_get hug m
  have hnew : ∀ i r, (i, r) ∈ gn → ¬ st.has r := fun i r m => fresh_spec (frshN_spec hf i r m).2 (frshN_spec hf i r m).1
  have gdisj : ∀ i r, (i, r) ∈ gn → get g i = none := fun i r m => by
    cases hi : get g i with
    | none => rfl
    | some q =>
      exfalso
      have h1 := gin i q (get_pair hi)
      have h2 := uni_get hu (List.mem_append_right g m)
      rw [h1] at h2
      cases h2
      obtain ⟨R, hR, _⟩ := (own i r (get_pair hi)).2
      exact hnew i r m (St.has_of hR)
  let E := st.env B w ρ
  let ρl : Nat → RC := fun i => match get g i with | some r => ρ r | none => default
  have hρl : ∀ i r, (i, r) ∈ g → ρl i = ρ r := fun i r m => by show (match get g i with | some r => ρ r | none => default) = _; rw [gg i r m]
  let Bl : Base := ⟨w, okOf B st.h ρ, fun b => ∃ i r, (i, r) ∈ g ∧ (ρ r).blk = some b, 0, ⟨w, okOf B st.h ρ, ρl, fun i => (get hl i).isSome = true⟩, []⟩
  let al : Act := { tmps := #[], defers := [] }
  let El := St.env Bl ⟨[], hl, 0⟩ w ρl
  have hlget : ∀ i R', get hl i = some R' → ∃ r R, (i, r) ∈ g ∧ get st.h r = some R ∧ R.own = true ∧ mapR (inv g) true R = some R' := fun i R' h => locH_get hloc i R' h
  have okl : ∀ b o, okOf B st.h ρ b o → okOf Bl hl ρl b o := fun b o h => ⟨.inl h, fun i R' h1 _ h3 => by
    obtain ⟨r, R, m, hR, ho, hm⟩ := hlget i R' h1
    rw [hρl i r m] at h3
    rw [(mapR_spec hm).2.2.1]
    exact h.2 r R hR ho h3⟩
  have hlep : E.pure.Le El.pure := ⟨fun b o v h1 h2 => ⟨h1, okl b o h2⟩, fun r hr => hr.elim, fun r hr => hr.elim⟩
  have hdomE : ∀ r i, inv g r = some i → El.dom i ∧ El.ρ i = ρ r := fun r i h => ⟨.inr (own i r (inv_spec h)).1, hρl i r (inv_spec h)⟩
  have s0 : SatR Bl ⟨[], hl, 0⟩ al w ρl := by
    refine ⟨fun t d h => by simp [get] at h, fun i R' h => ?_, fun i j R1 R2 b h1 h2 o1 o2 b1 b2 => ?_, rfl, rfl, ⟨rfl, rfl, rfl, Nat.le_refl _, fun _ _ _ => rfl⟩, fun i R' b h o hb => ?_, ?_⟩
    · obtain ⟨r, R, m, hR, ho, hm⟩ := hlget i R' h
      obtain ⟨e1, e2, e3, e4, e5, e6, e7, e8⟩ := mapR_spec hm
      have q := s.roots r R hR
      refine ⟨St.has_of h, ?_, by rw [e2]; exact q.pos, by rw [e3, e7]; exact q.fz, ?_⟩
      · show (ρl i).sz = _
        rw [hρl i r m, e2]; exact q.sz
      · show RootBlk El R' (ρl i)
        rw [hρl i r m]
        have qb := q.blk
        have e0 : (st.env B w ρ).ρ r = ρ r := rfl
        rw [e0] at qb
        unfold RootBlk at qb ⊢
        cases hb : (ρ r).blk with
        | none =>
          simp only [hb] at qb ⊢
          exact ⟨List.eq_nil_of_length_eq_zero (by rw [e7, qb.1]; rfl), qb.2⟩
        | some b =>
          simp only [hb] at qb ⊢
          obtain ⟨cells, h1, h2, h3, h4, h5⟩ := qb
          refine ⟨cells, by rw [e1]; exact h1, by rw [e2]; exact h2, h3, by rw [e7]; exact h4, fun k d' hk => ?_⟩
          obtain ⟨d0, hk0, hd0⟩ := e8 (E := E) (E' := El) hlep (fun r i h _ => hdomE r i h) k d' hk
          obtain ⟨v, q1, q2, q3, q4⟩ := h5 k d0 hk0
          exact ⟨v, q1, q2, hd0 v q3, fun h => by rw [e4, ho] at h; cases h⟩
    · obtain ⟨r1, S1, m1, hR1, ho1, _⟩ := hlget i R1 h1
      obtain ⟨r2, S2, m2, hR2, ho2, _⟩ := hlget j R2 h2
      rw [hρl i r1 m1] at b1
      rw [hρl j r2 m2] at b2
      have e := s.inj r1 r2 S1 S2 b hR1 hR2 ho1 ho2 b1 b2
      subst e
      exact uni_inj hug m1 m2
    · obtain ⟨r, R, m, hR, ho, hm⟩ := hlget i R' h
      rw [hρl i r m] at hb
      refine ⟨fun h => ?_, .inr ⟨i, r, m, hb⟩⟩
      rw [(mapR_spec hm).2.2.2.2.1] at h
      cases h
    · exact ⟨fun b o v h1 h2 => ⟨h1, okl b o h2⟩, fun _ _ => rfl, fun i h => .inr h⟩
  have hargs := argsM_rep s (E' := El) hlep hdomE ha hp hr
  refine (hM.run Bl al w ρl vs s0 rfl (fun _ h => h) hargs).mono fun e w' ⟨v, ρl', he, s', hv⟩ => ?_
  -- behind the call
  let El' := St.env Bl ⟨[], hl', 0⟩ w' ρl'
  have keep : ∀ b o u, w.cell? ⟨b, o, none⟩ = some u → okOf B st.h ρ b o → w'.cell? ⟨b, o, none⟩ = some u ∧ okOf Bl hl' ρl' b o := fun b o u h1 h2 => s'.le.cell b o u h1 h2
  have hρk : ∀ i r, (i, r) ∈ g → ρl' i = ρ r := fun i r m => (s'.le.root i (own i r m).1).trans (hρl i r m)
  have hl'E : ∀ i r, (i, r) ∈ g → ∃ R R', get hl i = some R ∧ get hl' i = some R' ∧ R.E = R'.E ∧ R'.own = true := sameE_spec hE
  have hnget := gloH_get hu hg
  have hnof := gloH_of hu hg
  let ρ' : Nat → RC := fun r => match inv (g ++ gn) r with | some i => (match get hl' i with | some _ => ρl' i | none => ρ r) | none => ρ r
  have hinv : ∀ i r, get (g ++ gn) i = some r → inv (g ++ gn) r = some i := fun i r h => by
    cases hi : inv (g ++ gn) r with
    | some j => rw [uni_inj hu (inv_spec hi) (get_pair h)]
    | none =>
      exfalso
      have : ∀ {l : List (Nat × Nat)}, (i, r) ∈ l → inv l r ≠ none := by
        intro l
        induction l with
        | nil => intro m; simp at m
        | cons x l ih =>
          obtain ⟨j, q⟩ := x
          intro m
          simp only [inv]
          rcases List.mem_cons.1 m with e | m
          · cases e; simp
          · split
            · simp
            · exact ih m
      exact this (get_pair h) hi
  have hρi : ∀ i r R, get (g ++ gn) i = some r → get hl' i = some R → ρ' r = ρl' i := fun i r R h1 h2 => by
    show (match inv (g ++ gn) r with | some i => (match get hl' i with | some _ => ρl' i | none => ρ r) | none => ρ r) = _
    rw [hinv i r h1]
    simp only [h2]
  have hρo : ∀ r, st.has r → ρ' r = ρ r := fun r h => by
    show (match inv (g ++ gn) r with | some i => (match get hl' i with | some _ => ρl' i | none => ρ r) | none => ρ r) = _
    split
    · rename_i i hi
      rcases List.mem_append.1 (inv_spec hi) with m | m
      · split
        · exact hρk i r m
        · rfl
      · exact absurd h (hnew i r m)
    · rfl
  let h' := hn ++ st.h
  -- a root behind the call
  have cases2 : ∀ q Q, get h' q = some Q → (∃ i R, get hl' i = some R ∧ get (g ++ gn) i = some q ∧ mapR (get (g ++ gn)) (match get g i with | some r => (match get st.h r with | some R0 => R0.giv | none => false) | none => anyG st.h g && R.giv) R = some Q) ∨
      (get st.h q = some Q ∧ ∀ i, (i, q) ∉ g) := by
    intro q Q h
    have h0 : get (hn ++ st.h) q = some Q := h
    rw [get_append] at h0
    cases hq : get hn q with
    | some Q1 => rw [hq] at h0; cases h0; exact .inl (hnget q Q hq)
    | none =>
      rw [hq] at h0
      refine .inr ⟨h0, fun i m => ?_⟩
      obtain ⟨_, R', _, h2, _⟩ := hl'E i q m
      obtain ⟨r, Q', k1, k2, _⟩ := hnof i R' h2
      rw [gin i q m] at k1
      cases k1
      rw [hq] at k2; cases k2
  have hgivE : ∀ b, (∃ i r, (i, r) ∈ g ∧ (ρ r).blk = some b) → b < w.heap.size := fun b ⟨i, r, m, hb⟩ => by
    obtain ⟨R, hR, _⟩ := (own i r m).2
    exact s.blk_lt hR hb
  have ok1 : ∀ b o, b < w.heap.size → okOf B st.h ρ b o → okOf Bl hl' ρl' b o → okOf B h' ρ' b o := fun b o _ h hl2 => ⟨h.1, fun q Q h1 h2 h3 => by
    rcases cases2 q Q h1 with ⟨i, R, k1, k2, k3⟩ | ⟨k1, _⟩
    · rw [hρi i q R k2 k1] at h3
      obtain ⟨_, _, e3, e4, _⟩ := mapR_spec k3
      rw [e3]
      exact hl2.2 i R k1 (e4 ▸ h2) h3
    · rw [hρo q (St.has_of k1)] at h3
      exact h.2 q Q k1 h2 h3⟩
  have ok2 : ∀ b o, okOf Bl hl' ρl' b o → okOf B h' ρ' b o := fun b o h => by
    rcases h.1 with h0 | h0
    · refine ⟨h0.1, fun q Q h1 h2 h3 => ?_⟩
      rcases cases2 q Q h1 with ⟨i, R, k1, k2, k3⟩ | ⟨k1, _⟩
      · rw [hρi i q R k2 k1] at h3
        obtain ⟨_, _, e3, e4, _⟩ := mapR_spec k3
        rw [e3]
        exact h.2 i R k1 (e4 ▸ h2) h3
      · rw [hρo q (St.has_of k1)] at h3
        exact h0.2 q Q k1 h2 h3
    · have h0 : w.heap.size ≤ b := h0
      refine ⟨.inr (Nat.le_trans s.ext.size h0), fun q Q h1 h2 h3 => ?_⟩
      rcases cases2 q Q h1 with ⟨i, R, k1, k2, k3⟩ | ⟨k1, _⟩
      · rw [hρi i q R k2 k1] at h3
        obtain ⟨_, _, e3, e4, _⟩ := mapR_spec k3
        rw [e3]
        exact h.2 i R k1 (e4 ▸ h2) h3
      · rw [hρo q (St.has_of k1)] at h3
        exact absurd (s.blk_lt k1 h3) (Nat.not_lt.2 h0)
  have hhas : ∀ q, st.has q → St.has ⟨st.σ, h', st.nx⟩ q := fun q h => h.imp (fun h => h) (fun h => by
    show (get (hn ++ st.h) q).isSome = true
    rw [get_append]
    split
    · rfl
    · exact h)
  let E' := St.env B ⟨st.σ, h', st.nx⟩ w' ρ'
  have hle : E.Le E' := ⟨fun b o u h1 h2 => ⟨(keep b o u h1 h2).1, ok1 b o (heap_of_cell h1) h2 (keep b o u h1 h2).2⟩, hρo, hhas⟩
  have hlel : El'.pure.Le E'.pure := ⟨fun b o u h1 h2 => ⟨h1, ok2 b o h2⟩, fun r hr => hr.elim, fun r hr => hr.elim⟩
  have hdl : ∀ i r, get (g ++ gn) i = some r → El'.dom i → E'.dom r ∧ E'.ρ r = El'.ρ i := fun i r h hi => by
    have hi : St.has ⟨[], hl', 0⟩ i := hi
    rcases hi with hi | hi
    · cases hi
    · cases hR : get hl' i with
      | none => rw [hR] at hi; cases hi
      | some R =>
        obtain ⟨q, Q, k1, k2, _⟩ := hnof i R hR
        rw [h] at k1
        cases k1
        exact ⟨.inr (by show (get (hn ++ st.h) r).isSome = true; rw [get_append, k2]; rfl), hρi i r R h hR⟩
  refine ⟨v, ρ', he, ⟨fun t d h => ?_, fun q Q h => ?_, fun q1 q2 Q1 Q2 b g1 g2 o1 o2 b1 b2 => ?_, s.size, s.defs, ?_, fun q Q b h o hb => ?_, s.le.trans hle⟩, mapD_rep hd hlel hdl hv⟩
  · obtain ⟨u, h1, h2⟩ := s.tmps t d h
    exact ⟨u, h1, rep_mono hle d u h2⟩
  · rcases cases2 q Q h with ⟨i, R, k1, k2, k3⟩ | ⟨k1, k2⟩
    · have q0 := s'.roots i R k1
      obtain ⟨e1, e2, e3, e4, e5, e6, e7, e8⟩ := mapR_spec k3
      refine ⟨.inr (by show (get h' q).isSome = true; rw [h]; rfl), ?_, by rw [e2]; exact q0.pos, by rw [e3, e7]; exact q0.fz, ?_⟩
      · show (ρ' q).sz = _
        rw [hρi i q R k2 k1, e2]; exact q0.sz
      · show RootBlk E' Q (ρ' q)
        rw [hρi i q R k2 k1]
        have qb := q0.blk
        have e0 : (St.env Bl ⟨[], hl', 0⟩ w' ρl').ρ i = ρl' i := rfl
        rw [e0] at qb
        unfold RootBlk at qb ⊢
        cases hb : (ρl' i).blk with
        | none =>
          simp only [hb] at qb ⊢
          exact ⟨List.eq_nil_of_length_eq_zero (by rw [e7, qb.1]; rfl), qb.2⟩
        | some b =>
          simp only [hb] at qb ⊢
          obtain ⟨cells, h1, h2, h3, h4, h5⟩ := qb
          refine ⟨cells, by rw [e1]; exact h1, by rw [e2]; exact h2, h3, by rw [e7]; exact h4, fun k d' hk => ?_⟩
          obtain ⟨d0, hk0, hd0⟩ := e8 (E := El') (E' := E') hlel (fun i r h hi => hdl i r h hi) k d' hk
          obtain ⟨u, p1, p2, p3, p4⟩ := h5 k d0 hk0
          exact ⟨u, p1, p2, hd0 u p3, fun h => ok2 b k (p4 (e4.symm.trans h))⟩
    · have qq := s.roots q Q k1
      have hq : st.has q := St.has_of k1
      refine ⟨hhas q hq, ?_, qq.pos, qq.fz, ?_⟩
      · show (ρ' q).sz = _
        rw [hρo q hq]; exact qq.sz
      · show RootBlk E' Q (ρ' q)
        rw [hρo q hq]
        have qb := qq.blk
        have e0 : (st.env B w ρ).ρ q = ρ q := rfl
        rw [e0] at qb
        by_cases hgv : ∃ b i r, (ρ q).blk = some b ∧ (i, r) ∈ g ∧ (ρ r).blk = some b
        · obtain ⟨b, i, r, hb, m, hb2⟩ := hgv
          obtain ⟨_, R, hR, ho⟩ := own i r m
          have hne : r ≠ q := fun e => k2 i (e ▸ m)
          have hown : Q.own = false := by
            cases ho' : Q.own with
            | false => rfl
            | true => exact absurd (s.inj r q R Q b hR k1 ho ho' hb2 hb) hne
          unfold RootBlk at qb ⊢
          rw [hb] at qb ⊢
          obtain ⟨c3, h1, h2, h3, h4, h5⟩ := qb
          obtain ⟨R1, R2, t1, t2, t3, t4⟩ := hl'E i r m
          obtain ⟨r9, R9, m9, hR9, _, hm9⟩ := hlget i R1 t1
          have er : r9 = r := by
            have := gg i r9 m9
            rw [gg i r m] at this
            cases this; rfl
          subst er
          rw [hR] at hR9
          cases hR9
          obtain ⟨f1, f2, _⟩ := mapR_spec hm9
          obtain ⟨c, g1, g2, g3, g4, g5⟩ := s.blkOf hR hb2
          have hcc : c3 = c ∧ Q.E = R.E := by
            have : w.heap[b]? = some (.cells c3 Q.E (0, 0)) := h1
            rw [g1] at this
            injection this with this
            injection this with u1 u2
            exact ⟨u1.symm, u2.symm⟩
          obtain ⟨rfl, hQE⟩ := hcc
          have hb2' : (ρl' i).blk = some b := by rw [hρk i r9 m]; exact hb2
          obtain ⟨c', p1, p2, p3, p4, p5⟩ := s'.blkOf (r := i) t2 hb2'
          have hsz' : (ρl' i).sz = R2.sz := (s'.roots i R2 t2).sz
          have hsz : (ρ r9).sz = R.sz := (s.roots r9 R hR).sz
          have hszc : c'.size = c3.size := by
            rw [p2, g2, ← hsz', ← hsz, hρk i r9 m]
          refine ⟨c', ?_, by rw [hszc]; exact h2, h3, by rw [hszc]; exact h4, fun k d0 hk => ?_⟩
          · show w'.heap[b]? = _
            rw [p1, ← t3, f1, ← hQE]
          · obtain ⟨u, x1, x2, x3, x4⟩ := h5 k d0 hk
            have hok := x4 hown
            have hc : w.cell? ⟨b, k, none⟩ = some u := (cell_of_heap (w := w) h1 k).trans x1
            obtain ⟨y1, y2⟩ := keep b k u hc hok
            have y1 := (cell_of_heap (w := w') p1 k).symm.trans y1
            exact ⟨u, y1, x2, rep_mono (hle.at _) d0 u x3, fun _ => ok1 b k (heap_of_cell hc) hok y2⟩
        · refine qb.mono hle (fun b hb => ?_) (fun b k hb hok hk => ?_)
          · have hlt := s.blk_lt k1 hb
            exact s'.ext.block b hlt (fun ⟨i, r, m, hb2⟩ => hgv ⟨b, i, r, hb, m, hb2⟩)
          · have hlt := s.blk_lt k1 hb
            refine ⟨hok.1, fun q2 Q2 h1 h2 h3 => ?_⟩
            rcases cases2 q2 Q2 h1 with ⟨i, R, j1, j2, j3⟩ | ⟨j1, _⟩
            · exfalso
              rw [hρi i q2 R j2 j1] at h3
              obtain ⟨_, _, e3, e4, _⟩ := mapR_spec j3
              rcases (s'.fresh i R b j1 (e4 ▸ h2) h3).2 with h | ⟨i', r', m', hb'⟩
              · have h : w.heap.size ≤ b := h
                omega
              · exact hgv ⟨b, i', r', hb, m', hb'⟩
            · rw [hρo q2 (St.has_of j1)] at h3
              exact hok.2 q2 Q2 j1 h2 h3
  · have mixed : ∀ i R q Q, get hl' i = some R → R.own = true → (ρl' i).blk = some b → get st.h q = some Q → Q.own = true → (ρ q).blk = some b → (∀ i, (i, q) ∉ g) → False := by
      intro i R q Q j1 jo jb k1 ko kb k2
      rcases (s'.fresh i R b j1 jo jb).2 with h | ⟨i', r', m', hb'⟩
      · have h : w.heap.size ≤ b := h
        have := s.blk_lt k1 kb
        omega
      · obtain ⟨_, R', hR', ho'⟩ := own i' r' m'
        have := s.inj r' q R' Q b hR' k1 ho' ko hb' kb
        subst this
        exact k2 i' m'
    rcases cases2 q1 Q1 g1 with ⟨i1, R1, j1, j2, j3⟩ | ⟨j1, j2⟩ <;> rcases cases2 q2 Q2 g2 with ⟨i2, R2, k1, k2, k3⟩ | ⟨k1, k2⟩
    · rw [hρi i1 q1 R1 j2 j1] at b1
      rw [hρi i2 q2 R2 k2 k1] at b2
      have e := s'.inj i1 i2 R1 R2 b j1 k1 ((mapR_spec j3).2.2.2.1 ▸ o1) ((mapR_spec k3).2.2.2.1 ▸ o2) b1 b2
      subst e
      rw [j2] at k2
      cases k2; rfl
    · rw [hρi i1 q1 R1 j2 j1] at b1
      rw [hρo q2 (St.has_of k1)] at b2
      exact (mixed i1 R1 q2 Q2 j1 ((mapR_spec j3).2.2.2.1 ▸ o1) b1 k1 o2 b2 k2).elim
    · rw [hρi i2 q2 R2 k2 k1] at b2
      rw [hρo q1 (St.has_of j1)] at b1
      exact (mixed i2 R2 q1 Q1 k1 ((mapR_spec k3).2.2.2.1 ▸ o2) b2 j1 o1 b1 j2).elim
    · rw [hρo q1 (St.has_of j1)] at b1
      rw [hρo q2 (St.has_of k1)] at b2
      exact s.inj q1 q2 Q1 Q2 b j1 k1 o1 o2 b1 b2
  · have e := s'.ext
    have e0 := s.ext
    refine ⟨e.os.trans e0.os, e.tape.trans e0.tape, e.output.trans e0.output, Nat.le_trans e0.size e.size, fun b h1 h2 => ?_⟩
    rw [← e0.block b h1 h2]
    refine e.block b (Nat.lt_of_lt_of_le h1 e0.size) fun ⟨i, r, m, hb⟩ => ?_
    obtain ⟨_, R, hR, ho⟩ := own i r m
    rcases (s.fresh r R b hR ho hb).2 with h | h
    · omega
    · exact h2 h
  · rcases cases2 q Q h with ⟨i, R, j1, j2, j3⟩ | ⟨j1, j2⟩
    · rw [hρi i q R j2 j1] at hb
      obtain ⟨_, _, _, e4, e5, _⟩ := mapR_spec j3
      have fr := s'.fresh i R b j1 (e4 ▸ o) hb
      rcases ginv i q j2 with m | m
      · have hb0 : (ρ q).blk = some b := by rw [← hρk i q m]; exact hb
        obtain ⟨_, R0, hR0, ho0⟩ := own i q m
        have hgi : Q.giv = R0.giv := by
          rw [e5, gg i q m]
          simp only [hR0]
        rw [hgi]
        exact s.fresh q R0 b hR0 ho0 hb0
      · have hgi : Q.giv = (anyG st.h g && R.giv) := by
          rw [e5, gdisj i q m]
        rw [hgi]
        have h2 : B.w.heap.size ≤ b ∨ B.giv b := by
          rcases fr.2 with h | ⟨i', r', m', hb'⟩
          · have h : w.heap.size ≤ b := h
            exact .inl (Nat.le_trans s.ext.size h)
          · obtain ⟨_, R', hR', ho'⟩ := own i' r' m'
            exact (s.fresh r' R' b hR' ho' hb').2
        refine ⟨fun hx => ?_, h2⟩
        rw [Bool.and_eq_false_iff] at hx
        rcases hx with hx | hx
        · rcases fr.2 with h | ⟨i', r', m', hb'⟩
          · have h : w.heap.size ≤ b := h
            exact Nat.le_trans s.ext.size h
          · obtain ⟨_, R', hR', ho'⟩ := own i' r' m'
            exact (s.fresh r' R' b hR' ho' hb').1 (anyG_spec hx i' r' R' m' hR')
        · have h : w.heap.size ≤ b := fr.1 hx
          exact Nat.le_trans s.ext.size h
    · rw [hρo q (St.has_of j1)] at hb
      exact s.fresh q Q b j1 o hb
theorem evMut_sound (s : SatR B st a w ρ) {f : FuncId} {ds : List D} {hl' h' : List (Nat × Root)} {g gn : List (Nat × Nat)} {d d' : D} {ps : List Prop} {vs : List Value}
    (e : evMut P f ds st.h st.nx d hl' g gn = some (d', h', ps)) (hp : AllP ps) (hr : repVals (st.env B w ρ) ds vs) :
    FnOK P f ∧ Calls P f vs.toArray w fun e w' => ∃ v ρ', e = .returned v ∧ SatR B ⟨st.σ, h', st.nx⟩ a w' ρ' ∧ rep (St.env B ⟨st.σ, h', st.nx⟩ w' ρ') d' v := by
  unfold evMut at e
  split at e
  · cases e
  rename_i h1 hfrz
  split at e
  · rename_i hu hf
    split at e
    · rename_i ds' ps' hl ha hloc
      split at e
      · cases e
      · rename_i hE
        split at e
        · rename_i hn d1 hg hd
          simp only [Option.some.injEq, Prod.mk.injEq] at e
          obtain ⟨rfl, rfl, rfl⟩ := e
          rw [AllP_append] at hp
          have hM : Mut P f ds' hl d hl' := hp.2
          rw [appG_eq] at hu hg hd
          rw [appH_eq]
          obtain ⟨s1, le1⟩ := SatR.frz _ s hfrz
          exact ⟨hM.fn, mut_call (st := ⟨st.σ, h1, st.nx⟩) s1 hu hf ha hp.1 hloc hE hg hd hM (repVals_mono le1 _ _ hr)⟩
        · cases e
    · cases e
  · cases e
end
end Go.Px
end

