/-
  What the functions that the statement reaches compute, proved (contracts of functions and the lemmas for them), a part of the proof. No conditions beyond those that each theorem names.
-/
import Derived.Test.YtakligfpajogkaaGreatDoorPartJ
import Derived.Shelf.Sort.Plain
import Derived.Shelf.Slices.In.SortNone
import Derived.Shelf.Spec.SlicesGrow
import Derived.Test.YtakligfpajogkaaGreatDoorProg
set_option linter.unusedVariables false
set_option linter.unusedSimpArgs false

section
namespace Go.Proofs
open Go.Shelf
def Tryz.sort190_ren : Go.Shelf.Ren := ⟨fun | 190 => 169 | 125 => 101 | 258 => 214 | 128 => 164 | 129 => 165 | 302 => 231 | 303 => 232 | 304 => 233 | 305 => 234 | 306 => 235 | 307 => 236 | 308 => 237 | 309 => 238 | 310 => 239 | 333 => 248 | 329 => 209 | 330 => 210 | 334 => 249 | 335 => 250 | 336 => 166 | 344 => 256 | n => n, fun | 31 => 27 | 9 => 9 | 3 => 3 | 46 => 133 | 0 => 0 | 51 => 159 | 53 => 178 | 4 => 4 | 183 => 170 | 182 => 169 | 131 => 174 | 5 => 5 | 218 => 203 | 222 => 115 | 228 => 212 | 229 => 213 | n => n, fun n => n⟩
theorem Tryz.sort190 : Lays.n190 Tryz.prog Tryz.sort190_ren where
  mixed := by kernel_rfl
  f125 := Tryz.func101.trans (congrArg some (by kernel_rfl))
  f128 := Tryz.func164.trans (congrArg some (by kernel_rfl))
  f129 := Tryz.func165.trans (congrArg some (by kernel_rfl))
  f190 := Tryz.func169.trans (congrArg some (by kernel_rfl))
  f258 := Tryz.func214.trans (congrArg some (by kernel_rfl))
  f302 := Tryz.func231.trans (congrArg some (by kernel_rfl))
  f303 := Tryz.func232.trans (congrArg some (by kernel_rfl))
  f304 := Tryz.func233.trans (congrArg some (by kernel_rfl))
  f305 := Tryz.func234.trans (congrArg some (by kernel_rfl))
  f306 := Tryz.func235.trans (congrArg some (by kernel_rfl))
  f307 := Tryz.func236.trans (congrArg some (by kernel_rfl))
  f308 := Tryz.func237.trans (congrArg some (by kernel_rfl))
  f309 := Tryz.func238.trans (congrArg some (by kernel_rfl))
  f310 := Tryz.func239.trans (congrArg some (by kernel_rfl))
  f329 := Tryz.func209.trans (congrArg some (by kernel_rfl))
  f330 := Tryz.func210.trans (congrArg some (by kernel_rfl))
  f333 := Tryz.func248.trans (congrArg some (by kernel_rfl))
  f334 := Tryz.func249.trans (congrArg some (by kernel_rfl))
  f335 := Tryz.func250.trans (congrArg some (by kernel_rfl))
  f336 := Tryz.func166.trans (congrArg some (by kernel_rfl))
  f344 := Tryz.func256.trans (congrArg some (by kernel_rfl))
  t0 := Tryz.underlying0
  a0 := Tryz.isAgg0
  z0 := Tryz.sizeOf0
  v0 := Tryz.zeroValue0
  t3 := Tryz.underlying3
  a3 := Tryz.isAgg3
  z3 := Tryz.sizeOf3
  v3 := Tryz.zeroValue3
  t4 := Tryz.underlying4
  a4 := Tryz.isAgg4
  z4 := Tryz.sizeOf4
  v4 := Tryz.zeroValue4
  t5 := Tryz.underlying5
  a5 := Tryz.isAgg5
  z5 := Tryz.sizeOf5
  v5 := Tryz.zeroValue5
  t9 := Tryz.underlying9
  a9 := Tryz.isAgg9
  z9 := Tryz.sizeOf9
  v9 := Tryz.zeroValue9
  t31 := Tryz.underlying27
  a31 := Tryz.isAgg27
  z31 := Tryz.sizeOf27
  v31 := Tryz.zeroValue27
  t46 := Tryz.underlying133
  a46 := Tryz.isAgg133
  z46 := Tryz.sizeOf133
  v46 := Tryz.zeroValue133
  t51 := Tryz.underlying159
  a51 := Tryz.isAgg159
  z51 := Tryz.sizeOf159
  v51 := Tryz.zeroValue159
  t53 := Tryz.underlying178
  a53 := Tryz.isAgg178
  z53 := Tryz.sizeOf178
  v53 := Tryz.zeroValue178
  t131 := Tryz.underlying174
  a131 := Tryz.isAgg174
  z131 := Tryz.sizeOf174
  v131 := Tryz.zeroValue174
  t182 := Tryz.underlying169
  a182 := Tryz.isAgg169
  z182 := Tryz.sizeOf169
  v182 := Tryz.zeroValue169
  t183 := Tryz.underlying170
  a183 := Tryz.isAgg170
  z183 := Tryz.sizeOf170
  v183 := Tryz.zeroValue170
  t218 := Tryz.underlying203
  a218 := Tryz.isAgg203
  z218 := Tryz.sizeOf203
  v218 := Tryz.zeroValue203
  t222 := Tryz.underlying115
  a222 := Tryz.isAgg115
  z222 := Tryz.sizeOf115
  v222 := Tryz.zeroValue115
  t228 := Tryz.underlying212
  a228 := Tryz.isAgg212
  z228 := Tryz.sizeOf212
  v228 := Tryz.zeroValue212
  t229 := Tryz.underlying213
  a229 := Tryz.isAgg213
  z229 := Tryz.sizeOf213
  v229 := Tryz.zeroValue213
def Tryz.growS_ren : Go.Shelf.Ren := ⟨fun | 4 => 200 | n => n, fun | 22 => 27 | 25 => 9 | 3 => 3 | 4 => 4 | 9 => 9 | 20 => 20 | 0 => 0 | n => n, fun n => n⟩
theorem Tryz.growS : Lays8.n4 Tryz.prog Tryz.growS_ren where
  mixed := by kernel_rfl
  f4 := ⟨Tryz.f200.name, by decide, Tryz.func200.trans (congrArg some (by kernel_rfl))⟩
  t0 := Tryz.underlying0
  a0 := Tryz.isAgg0
  z0 := Tryz.sizeOf0
  v0 := Tryz.zeroValue0
  t3 := Tryz.underlying3
  a3 := Tryz.isAgg3
  z3 := Tryz.sizeOf3
  v3 := Tryz.zeroValue3
  t4 := Tryz.underlying4
  a4 := Tryz.isAgg4
  z4 := Tryz.sizeOf4
  v4 := Tryz.zeroValue4
  t9 := Tryz.underlying9
  a9 := Tryz.isAgg9
  z9 := Tryz.sizeOf9
  v9 := Tryz.zeroValue9
  t20 := Tryz.underlying20
  a20 := Tryz.isAgg20
  z20 := Tryz.sizeOf20
  v20 := Tryz.zeroValue20
  t22 := Tryz.underlying27
  a22 := Tryz.isAgg27
  z22 := Tryz.sizeOf27
  v22 := Tryz.zeroValue27
end Go.Proofs
namespace Go.Px
open Go.RowKit

def b2l (x : ByteArray) : List UInt8 := x.data.toList
def l2b (l : List UInt8) : ByteArray := ⟨l.toArray⟩
theorem l2b_b2l (x : ByteArray) : l2b (b2l x) = x := by simp [l2b, b2l]
def sortL (l : List (List UInt8)) : List (List UInt8) := l.mergeSort fun x y => decide (x ≤ y)
def sortS (l : List ByteArray) : List ByteArray := (sortL (l.map b2l)).map l2b
theorem sortL_len (l : List (List UInt8)) : (sortL l).length = l.length := List.length_mergeSort _
theorem sortS_len (l : List ByteArray) : (sortS l).length = l.length := by simp [sortS, sortL_len]
theorem fnOK_of {f : FuncId} {fn : Func} (h : Go.Proofs.Tryz.prog.funcs[f]? = some fn) (h1 : (fn.name == "runtime.NumGoroutine") = false) (h2 : fn.body.isNone = false) : FnOK Go.Proofs.Tryz.prog f := ⟨fn, h, h1, h2⟩
theorem sort_none (p : Option Addr) (cap : Nat) (w : World) : Calls Go.Proofs.Tryz.prog 169 #[.slice p 0 cap] w fun e w' => e = .returned (.tuple #[]) ∧ w' = w :=
  Go.Proofs.Any.slices_Sort_string_none Go.Proofs.Tryz.sort190 p cap w
theorem sort_ct (l : List ByteArray) (hl : l.length < 2^40) : Mut Go.Proofs.Tryz.prog 169 [.os 0 0 l.length] (srow (l.map D.s)) (.tup []) (srow ((sortS l).map D.s)) := by
  refine ⟨fnOK_of Go.Proofs.Tryz.func169 (by kernel_rfl) (by kernel_rfl), fun B a w ρ vs s hw hE hr => ?_⟩
  simp only [repVals, rep] at hr
  obtain ⟨v, ws, rfl, ⟨_, hv⟩, rfl⟩ := hr
  have hv : osRep (ρ 0) 0 l.length v := hv
  have hR : get (srow (l.map D.s)) 0 = some ⟨9, 1, l.map D.s, 0, true, true, false⟩ := rfl
  have hun : ∀ (E : Env), rep E (.tup []) (.tuple #[]) := fun E => rep_undef E
  rcases Nat.eq_zero_or_pos l.length with h0 | h0
  · have hl0 : l = [] := List.eq_nil_of_length_eq_zero h0
    subst hl0
    obtain ⟨A2, k2, hv2⟩ := osRep_len hv
    subst hv2
    refine (sort_none A2 k2 w).mono fun e w' ⟨he, hw'⟩ => ?_
    subst hw'
    have hs : sortS [] = [] := List.eq_nil_of_length_eq_zero (by rw [sortS_len]; rfl)
    rw [hs]
    exact ⟨_, ρ, he, s, hun _⟩
  · unfold osRep at hv
    split at hv
    · omega
    rename_i b hb
    obtain ⟨o, k, rfl, q1, q2, q3⟩ := hv
    have ho : o = 0 := by have := q3 (by omega); rw [this]; simp
    subst ho
    obtain ⟨cells, g1, g2, g3, g4, g5⟩ := s.blkOf hR hb
    simp only [List.length_map] at g4
    have hlen : (l.map b2l).length = l.length := by simp
    have hH : Go.Sort.Holds Go.Proofs.encStr w b 0 (l.map b2l).toArray := by
      intro j hj
      have hj : j < l.length := by simpa using hj
      obtain ⟨v, c1, _, c2, _⟩ := g5 j (.s l[j]) (by simp [hj])
      have c2 : rep _ (.s l[j]) v := c2
      simp only [rep] at c2
      subst c2
      refine ⟨?_, ?_⟩
      · rw [cell_of_heap g1, Nat.zero_add, c1]
        rw [getElem!_pos _ j (by simpa using hj)]
        simp [Go.Proofs.encStr, b2l]
      · simp [World.frozen?, g1]
    have hc := Go.Proofs.Any.slices_Sort_string Go.Proofs.Tryz.sort190 b 0 k (l.map b2l) w hH (blk_lt_size g1) (by omega)
    rw [hlen] at hc
    refine Calls.mono hc fun e w' ⟨he, n, os, hw'⟩ => ?_
    subst hw'
    let d : Array (List UInt8) := (sortL (l.map b2l)).toArray
    have hd : d.size = l.length := by show (sortL (l.map b2l)).toArray.size = _; simp [sortL_len]
    let cells' := Go.Sort.putCells Go.Proofs.encStr 0 d cells
    have hcs : cells'.size = cells.size := by simp [cells', Go.Sort.putCells]
    have hblt := blk_lt_size g1
    have hw1 : (Go.Sort.putRow Go.Proofs.encStr (Go.Sort.ahead w n) b 0 d).heap[b]? = some (.cells cells' 9 (0, 0)) := by
      simp only [Go.Sort.putRow, Go.Sort.mapBlock, Go.Sort.ahead, Array.getElem?_modify, if_true, g1, Option.map_some, Go.Sort.onCells]
      rfl
    have hoth : ∀ q, q ≠ b → (Go.Sort.putRow Go.Proofs.encStr (Go.Sort.ahead w n) b 0 d).heap[q]? = w.heap[q]? := fun q hq => by
      simp only [Go.Sort.putRow, Go.Sort.mapBlock, Go.Sort.ahead, Array.getElem?_modify]
      rw [if_neg (Ne.symm hq)]
    have hsz : (Go.Sort.putRow Go.Proofs.encStr (Go.Sort.ahead w n) b 0 d).heap.size = w.heap.size := by
      simp [Go.Sort.putRow, Go.Sort.mapBlock, Go.Sort.ahead]
    obtain ⟨c1, _⟩ := s.change hR rfl hb g1 cells' hcs (fun k hk => absurd hk (Nat.not_lt_zero _)) hsz hw1 hoth rfl rfl rfl ((sortS l).map D.s) (by simp [sortS_len]; exact g4) (Nat.zero_le _) (fun j dd hj => by
      have hjl : j < l.length := by
        have := (List.getElem?_eq_some_iff.1 hj).1
        simpa [sortS_len] using this
      have hjs : j < (sortL (l.map b2l)).length := by rw [sortL_len]; simpa using hjl
      have hjc : j < cells.size := by omega
      have e1 : dd = .s (l2b (sortL (l.map b2l))[j]) := by
        have hj2 : j < (sortS l).length := by rw [sortS_len]; exact hjl
        rw [List.getElem?_map, List.getElem?_eq_getElem hj2] at hj
        simp only [Option.map_some, Option.some.injEq] at hj
        rw [← hj]
        simp [sortS]
      subst e1
      refine ⟨.string (l2b (sortL (l.map b2l))[j]), ?_, rfl, by show rep _ (.s _) _; simp only [rep]⟩
      simp only [cells', Go.Sort.putCells, Array.getElem?_mapIdx]
      rw [Array.getElem?_eq_getElem hjc]
      simp only [Option.map_some, Option.some.injEq]
      rw [if_pos ⟨Nat.zero_le _, by rw [hd]; omega⟩, Nat.sub_zero, getElem!_pos d j (by rw [hd]; exact hjl)]
      simp [d, Go.Proofs.encStr, l2b])
    have c2 := (c1.hcongr (srow ((sortS l).map D.s)) (fun r => by
      simp only [get_cons]
      split <;> rfl)).1
    refine ⟨_, ρ, he, c2.world ?_ ?_ rfl rfl rfl, hun _⟩
    · show (Go.Sort.putRow Go.Proofs.encStr (Go.Sort.ahead w n) b 0 d).heap.size ≤ (Go.Sort.grow (Go.Sort.putRow Go.Proofs.encStr (Go.Sort.ahead w n) b 0 d) os).heap.size
      simp [Go.Sort.grow]
    · intro q hq
      show (Go.Sort.grow (Go.Sort.putRow Go.Proofs.encStr (Go.Sort.ahead w n) b 0 d) os).heap[q]? = _
      simp only [Go.Sort.grow]
      rw [Array.getElem?_append_left hq]
end Go.Px
end

section
namespace Go.Px
open Go.RowKit

abbrev nrow (cs : List D) : List (Nat × Root) := [(1000, ⟨9, 1, cs, 0, true, true, false⟩)]
theorem grow_ct (n : Nat) (hn : n < 2^40) : Mut Go.Proofs.Tryz.prog 200 [.nils, .i .i64 n] [] (.os 1000 0 0) (nrow []) := by
  refine ⟨fnOK_of Go.Proofs.Tryz.func200 (by kernel_rfl) (by kernel_rfl), fun B a w ρ vs s hw hE hr => ?_⟩
  simp only [repVals, rep] at hr
  obtain ⟨v, ws, rfl, rfl, v2, ws2, rfl, rfl, rfl⟩ := hr
  have hno : ¬ St.has ⟨[], [], 0⟩ 1000 := by simp [St.has, get]
  rcases Nat.eq_zero_or_pos n with h0 | h0
  · subst h0
    refine (Go.Proofs.Any8.slices_Grow_room Go.Proofs.Tryz.growS none 0 0 0 w (Nat.le_refl _) (by omega) (by omega) (by omega)).mono fun e w' ⟨he, hw'⟩ => ?_
    subst hw'
    obtain ⟨q1, _⟩ := s.nilroot 1000 hno ⟨9, 1, [], 0, true, true, false⟩ (by decide) rfl rfl
    refine ⟨_, _, he, q1, ?_⟩
    simp only [rep]
    refine ⟨St.has_of (st := ⟨_, nrow [], 0⟩) (R := ⟨9, 1, [], 0, true, true, false⟩) rfl, ?_⟩
    unfold osRep
    simp [St.env]
  · obtain ⟨i0, z, f1, f2, f3, f4, f5⟩ := (tok tys_valid (t := 9) rfl : TOK Go.Proofs.Tryz.prog 9 _).info
    have hz1 : z.cells.size = 1 := by
      have := repVals_length (zs_rep (E := ⟨default, fun _ _ => True, fun _ => default, fun _ => False⟩) f5)
      simpa using this
    have hs1 : i0.size = 1 := f2
    have hb : i0.bytes = 16 := f3
    have hg := Go.Proofs.Any8.slices_Grow_grow Go.Proofs.Tryz.growS i0 z f1 f4 (by omega) none 0 0 n [] w (Nat.le_refl _) (by omega) (by rw [hb]; omega) (by omega) (by simp) (fun _ => rfl) (fun _ h => by cases h)
    refine Calls.mono hg fun e w' ⟨he, hw'⟩ => ?_
    subst hw'
    have sd := s.drew
    have hcap := grownCap_ge w (0 + n) 0 9
    have hmax := grownCap_le_maxLen w (0 + n) 0 9 (by unfold maxLen; omega)
    obtain ⟨q1, _⟩ := sd.alloc 1000 hno ⟨9, 1, [], 0, true, true, false⟩ ((([] : List Value).toArray ++ Builtin.zeroCells z.cells (0 + n - 0) ++ Builtin.zeroCells z.cells (grownCap w (0 + n) 0 9 - (0 + n)))) (grownCap w (0 + n) 0 9) (by decide) (by
      simp only [Array.size_append, List.size_toArray, List.length_nil, size_zeroCells, hz1]
      omega) hmax (Nat.zero_le _) (Nat.le_refl _) (fun k d hk => by simp at hk)
    refine ⟨_, _, he, q1, ?_⟩
    simp only [rep]
    refine ⟨St.has_of (st := ⟨_, nrow [], 0⟩) (R := ⟨9, 1, [], 0, true, true, false⟩) rfl, ?_⟩
    unfold osRep
    simp only [St.env, if_true]
    exact ⟨0, _, rfl, by rw [Nat.zero_add]; rfl, Nat.zero_le _, fun _ => by simp⟩
def lens2 (a b : List ByteArray) : Nat := a.length + b.length
theorem concat_ct (a b : List ByteArray) (ha : a.length < 2^38) (hb : b.length < 2^38) : Mut Go.Proofs.Tryz.prog 148 [.sl 1 2 [.sl 1 a.length (a.map D.s), .sl 1 b.length (b.map D.s)]] [] (.os 1000 0 (a.length + b.length)) (nrow ((a ++ b).map D.s)) := by
  have hg := grow_ct (a.length + b.length) (by omega)
  refine Mut.body tys_valid (fn := Go.Proofs.Tryz.f148) (by kernel_rfl) rfl (by kernel_rfl) rfl ?_
  intro w ok giv E0 hE
  refine H.go 200 [] [] [] rfl ?_ ?_
  · repeat' (first | exact AllP.n | exact trivial | exact DrawB.mk (by decide +kernel) | exact fun _ => rfl | refine AllP.c ?_ ?_)
    all_goals (try dsimp only)
    all_goals try first | exact rfl | exact ⟨trivial, rfl⟩ | exact ⟨trivial, bts_t rfl⟩ | omega | exact at_tr _ _ (by omega) | exact at_s _ _ (by omega) | exact dt (by omega) | exact df (by omega) | exact decide_eq_true (by omega) | exact decide_eq_false (by omega) | exact bts_t (by assumption) | exact bts_f (by assumption) | (rw [bts_t (by assumption)]; rfl) | (rw [bts_f (by assumption)]; rfl) | (unfold InR; omega)
  refine H.loopI (fun x : Nat × Nat => x = (0, 0) ∨ x = (1, a.length) ∨ x = (2, a.length + b.length)) (fun x => ⟨[(0, .sl 1 2 [.sl 1 a.length (a.map D.s), .sl 1 b.length (b.map D.s)]), (9, .sl 1 2 [.sl 1 a.length (a.map D.s), .sl 1 b.length (b.map D.s)]), (10, .i .i64 2), (11, .i .i64 x.1), (3, .i .i64 x.2)], [], 0⟩) (fun x => 2 - x.1) (0, 0) (.inl rfl) ?_ ?_
  · intro a w s
    exact s.ren2 [] (by repeat' (first | exact trivial | exact rfl | apply And.intro)) (by repeat' (first | exact trivial | exact rfl | apply And.intro)) rfl (fun r hr => by cases hE r hr)
  rintro x (rfl | rfl | rfl)
  · skip
    refine H.go 200 [(5, [(3, .val (.i .i64 ((a.length : Nat) : Int)))])] [(12, true), (20, false)] [] rfl ?_ ?_
    · repeat' (first | exact AllP.n | exact trivial | exact DrawB.mk (by decide +kernel) | exact fun _ => rfl | refine AllP.c ?_ ?_)
      all_goals (try dsimp only)
      all_goals try first | exact rfl | exact ⟨trivial, rfl⟩ | exact ⟨trivial, bts_t rfl⟩ | omega | exact at_tr _ _ (by omega) | exact at_s _ _ (by omega) | exact dt (by omega) | exact df (by omega) | exact decide_eq_true (by omega) | exact decide_eq_false (by omega) | exact bts_t (by assumption) | exact bts_f (by assumption) | (rw [bts_t (by assumption)]; rfl) | (rw [bts_f (by assumption)]; rfl) | (unfold InR; omega) | (refine ⟨?_, ?_⟩; (unfold InR; omega); exact congrArg _ (by omega)) | (simp; omega)
    exact loopN (1, a.length) (by simp) (by simp only; omega) fun a w s => s.ren2 [] (by repeat' (first | exact trivial | exact rfl | apply And.intro)) (by repeat' (first | exact trivial | exact rfl | apply And.intro)) rfl (fun r hr => by cases hE r hr)
  · skip
    refine H.go 200 [(5, [(3, .val (.i .i64 ((a.length + b.length : Nat) : Int)))])] [(12, true), (20, false)] [] rfl ?_ ?_
    · repeat' (first | exact AllP.n | exact trivial | exact DrawB.mk (by decide +kernel) | exact fun _ => rfl | refine AllP.c ?_ ?_)
      all_goals (try dsimp only)
      all_goals try first | exact rfl | exact ⟨trivial, rfl⟩ | exact ⟨trivial, bts_t rfl⟩ | omega | exact at_tr _ _ (by omega) | exact at_s _ _ (by omega) | exact dt (by omega) | exact df (by omega) | exact decide_eq_true (by omega) | exact decide_eq_false (by omega) | exact bts_t (by assumption) | exact bts_f (by assumption) | (rw [bts_t (by assumption)]; rfl) | (rw [bts_f (by assumption)]; rfl) | (unfold InR; omega) | (refine ⟨?_, ?_⟩; (unfold InR; omega); exact congrArg _ (by omega)) | (simp; omega)
    exact loopN (2, a.length + b.length) (by simp) (by simp only; omega) fun a w s => s.ren2 [] (by repeat' (first | exact trivial | exact rfl | apply And.intro)) (by repeat' (first | exact trivial | exact rfl | apply And.intro)) rfl (fun r hr => by cases hE r hr)
  · skip
    refine H.go 200 [] [(12, false)] [] rfl ?_ ?_
    · repeat' (first | exact AllP.n | exact trivial | exact DrawB.mk (by decide +kernel) | exact fun _ => rfl | refine AllP.c ?_ ?_)
      all_goals (try dsimp only)
      all_goals try first | exact rfl | exact ⟨trivial, rfl⟩ | exact ⟨trivial, bts_t rfl⟩ | omega | exact at_tr _ _ (by omega) | exact at_s _ _ (by omega) | exact dt (by omega) | exact df (by omega) | exact decide_eq_true (by omega) | exact decide_eq_false (by omega) | exact bts_t (by assumption) | exact bts_f (by assumption) | (rw [bts_t (by assumption)]; rfl) | (rw [bts_f (by assumption)]; rfl) | (unfold InR; omega)
    refine H.go 200 [(9, [(1, .mut (.os 1000 0 0) (nrow []) [] [(1000, 1000)])])] [] [] rfl ?_ ?_
    · repeat' (first | exact AllP.n | exact trivial | exact DrawB.mk (by decide +kernel) | exact fun _ => rfl | refine AllP.c ?_ ?_)
      all_goals (try dsimp only)
      all_goals try first | exact rfl | exact ⟨trivial, rfl⟩ | exact ⟨trivial, bts_t rfl⟩ | omega | exact at_tr _ _ (by omega) | exact at_s _ _ (by omega) | exact dt (by omega) | exact df (by omega) | exact decide_eq_true (by omega) | exact decide_eq_false (by omega) | exact bts_t (by assumption) | exact bts_f (by assumption) | (rw [bts_t (by assumption)]; rfl) | (rw [bts_f (by assumption)]; rfl) | (unfold InR; omega) | exact hg
    refine H.loopI (fun x : Nat × Nat × List D => x = (0, 0, []) ∨ x = (1, a.length, a.map D.s) ∨ x = (2, a.length + b.length, (a ++ b).map D.s)) (fun x => ⟨[(6, .os 1000 0 x.2.1), (25, .sl 1 2 [.sl 1 a.length (a.map D.s), .sl 1 b.length (b.map D.s)]), (26, .i .i64 2), (27, .i .i64 x.1)], nrow x.2.2, 0⟩) (fun x => 2 - x.1) (0, 0, []) (.inl rfl) ?_ ?_
    · intro a w s
      exact s.ren2 [] (by repeat' (first | exact trivial | exact rfl | apply And.intro)) (by repeat' (first | exact trivial | exact rfl | apply And.intro)) rfl (fun r hr => by cases hE r hr)
    rintro x (rfl | rfl | rfl)
    · skip
      refine H.go 200 [] [(28, true)] [] rfl ?_ ?_
      · repeat' (first | exact AllP.n | exact trivial | exact DrawB.mk (by decide +kernel) | exact fun _ => rfl | refine AllP.c ?_ ?_)
        all_goals (try dsimp only)
        all_goals try first | exact rfl | exact ⟨trivial, rfl⟩ | exact ⟨trivial, bts_t rfl⟩ | omega | exact at_tr _ _ (by omega) | exact at_s _ _ (by omega) | exact dt (by omega) | exact df (by omega) | exact decide_eq_true (by omega) | exact decide_eq_false (by omega) | exact bts_t (by assumption) | exact bts_f (by assumption) | (rw [bts_t (by assumption)]; rfl) | (rw [bts_f (by assumption)]; rfl) | (unfold InR; omega) | (simp; omega)
      exact loopN (1, 0 + a.length, [] ++ a.map D.s) (by simp) (by simp only; omega) fun a w s => s.ren2 [(1000, 0)] (by repeat' (first | exact trivial | exact rfl | apply And.intro)) (by repeat' (first | exact trivial | exact rfl | apply And.intro)) rfl (fun r hr => by cases hE r hr)
    · skip
      refine H.go 200 [] [(28, true)] [] rfl ?_ ?_
      · repeat' (first | exact AllP.n | exact trivial | exact DrawB.mk (by decide +kernel) | exact fun _ => rfl | refine AllP.c ?_ ?_)
        all_goals (try dsimp only)
        all_goals try first | exact rfl | exact ⟨trivial, rfl⟩ | exact ⟨trivial, bts_t rfl⟩ | omega | exact at_tr _ _ (by omega) | exact at_s _ _ (by omega) | exact dt (by omega) | exact df (by omega) | exact decide_eq_true (by omega) | exact decide_eq_false (by omega) | exact bts_t (by assumption) | exact bts_f (by assumption) | (rw [bts_t (by assumption)]; rfl) | (rw [bts_f (by assumption)]; rfl) | (unfold InR; omega) | (simp; omega)
      exact loopN (2, a.length + b.length, a.map D.s ++ b.map D.s) (by simp) (by simp only; omega) fun a w s => s.ren2 [(1000, 0)] (by repeat' (first | exact trivial | exact rfl | apply And.intro)) (by repeat' (first | exact trivial | exact rfl | apply And.intro)) rfl (fun r hr => by cases hE r hr)
    · skip
      refine H.go 200 [] [(28, false)] [] rfl ?_ ?_
      · repeat' (first | exact AllP.n | exact trivial | exact DrawB.mk (by decide +kernel) | exact fun _ => rfl | refine AllP.c ?_ ?_)
        all_goals (try dsimp only)
        all_goals try first | exact rfl | exact ⟨trivial, rfl⟩ | exact ⟨trivial, bts_t rfl⟩ | omega | exact at_tr _ _ (by omega) | exact at_s _ _ (by omega) | exact dt (by omega) | exact df (by omega) | exact decide_eq_true (by omega) | exact decide_eq_false (by omega) | exact bts_t (by assumption) | exact bts_f (by assumption) | (rw [bts_t (by assumption)]; rfl) | (rw [bts_f (by assumption)]; rfl) | (unfold InR; omega)
      refine H.go 200 [] [] [] rfl ?_ ?_
      · repeat' (first | exact AllP.n | exact trivial | exact DrawB.mk (by decide +kernel) | exact fun _ => rfl | refine AllP.c ?_ ?_)
        all_goals (try dsimp only)
        all_goals try first | exact rfl | exact ⟨trivial, rfl⟩ | exact ⟨trivial, bts_t rfl⟩ | omega | exact at_tr _ _ (by omega) | exact at_s _ _ (by omega) | exact dt (by omega) | exact df (by omega) | exact decide_eq_true (by omega) | exact decide_eq_false (by omega) | exact bts_t (by assumption) | exact bts_f (by assumption) | (rw [bts_t (by assumption)]; rfl) | (rw [bts_f (by assumption)]; rfl) | (unfold InR; omega)
      refine .inr ⟨[], _, _, rfl, ?_, ?_, ?_, rfl, rfl⟩
      · repeat' (first | exact AllP.n | exact trivial | refine AllP.c ?_ ?_)
      · repeat' (first | exact trivial | exact rfl | apply And.intro)
      · repeat' (first | exact trivial | exact rfl | apply And.intro)
end Go.Px
end

section
namespace Go.Px
open Go.RowKit

def nmS (a b : Tr) : List ByteArray := dd (sortS (a.k ++ b.k))
theorem nm_ct (a b : Tr) (ha : a.k.length < 2^38) (hb : b.k.length < 2^38) : Pure Go.Proofs.Tryz.prog 109 [.ag (enc a), .ag (enc b)] (.ret (.sl 1 (nmS a b).length ((nmS a b).map D.s))) := by
  have h1 := concat_ct a.k b.k ha hb
  have h2 := sort_ct (a.k ++ b.k) (by simp; omega)
  have h3 := compact_ct (sortS (a.k ++ b.k)) (by rw [sortS_len]; simp; omega)
  rw [sortS_len] at h3
  rw [List.length_append] at h2 h3
  refine Pure.body tys_valid (fn := Go.Proofs.Tryz.f109) (by kernel_rfl) rfl (by kernel_rfl) rfl ?_
  intro w ok giv E0 _ hE
  refine H.go 200 [(1, [(5, .mut (.os 1000 0 (a.k.length + b.k.length)) (nrow ((a.k ++ b.k).map D.s)) [] [(1000, 2)])]), (2, [(1, .mut (.tup []) (srow ((sortS (a.k ++ b.k)).map D.s)) [(0, 2)] [])]), (3, [(1, .mut (.os 0 0 (nmS a b).length) (srow ((nmS a b).map D.s)) [(0, 2)] [])])] [] [] rfl ?_ ?_
  · repeat' (first | exact AllP.n | exact trivial | exact DrawB.mk (by decide +kernel) | exact fun _ => rfl | refine AllP.c ?_ ?_)
    all_goals (try dsimp only)
    all_goals try first | exact rfl | exact ⟨trivial, rfl⟩ | exact ⟨trivial, bts_t rfl⟩ | omega | exact at_tr _ _ (by omega) | exact at_s _ _ (by omega) | exact dt (by omega) | exact df (by omega) | exact decide_eq_true (by omega) | exact decide_eq_false (by omega) | exact bts_t (by assumption) | exact bts_f (by assumption) | (rw [bts_t (by assumption)]; rfl) | (rw [bts_f (by assumption)]; rfl) | (unfold InR; omega) | exact h1 | exact h2 | exact h3
  refine ⟨_, _, rfl, ?_, ?_⟩
  · repeat' (first | exact AllP.n | exact trivial | exact DrawB.mk (by decide +kernel) | exact fun _ => rfl | refine AllP.c ?_ ?_)
    all_goals (try dsimp only)
    all_goals try first | exact rfl | exact ⟨trivial, rfl⟩ | exact ⟨trivial, bts_t rfl⟩ | omega | exact at_tr _ _ (by omega) | exact at_s _ _ (by omega) | exact dt (by omega) | exact df (by omega) | exact decide_eq_true (by omega) | exact decide_eq_false (by omega) | exact bts_t (by assumption) | exact bts_f (by assumption) | (rw [bts_t (by assumption)]; rfl) | (rw [bts_f (by assumption)]; rfl) | (unfold InR; omega) | (show (List.map D.s (nmS a b)).length = (nmS a b).length; simp)
  · exact .refl _
end Go.Px
end

section
namespace Go.Px
open Go.RowKit

theorem VT.mem {t : Tr} (h : VT t) {u : Tr} (hu : u ∈ t.v) : VT u := by
  obtain ⟨i, hi, rfl⟩ := List.getElem_of_mem hu
  exact h.at i hi
theorem cutV_sub {t u : Tr} (h : u ∈ cutV t) : u ∈ t.v := by
  unfold cutV at h
  split at h
  · exact List.mem_of_mem_take h
  · simp at h
theorem memb_VT {t u : Tr} {x : ByteArray} (h : VT t) (hm : memb t x = some u) : VT u := by
  unfold memb at hm
  split at hm
  · exact h.mem (cutV_sub (List.mem_of_getElem? hm))
  · cases hm
theorem membD_VT {t : Tr} {x : ByteArray} (h : VT t) : VT0 ((memb t x).getD nul) := by
  cases hm : memb t x with
  | none => exact .inl rfl
  | some u => exact .inr (memb_VT h hm)
open Classical in
noncomputable def alike (a b : Tr) (x : ByteArray) : Bool := decide (memb a x = memb b x)
theorem alike_eq {a b : Tr} {x : ByteArray} (h : (memb a x).isSome = (memb b x).isSome) : alike a b x = teq ((memb a x).getD nul) ((memb b x).getD nul) := by
  unfold alike teq
  cases h1 : memb a x <;> cases h2 : memb b x <;> simp_all
theorem alike_ne {a b : Tr} {x : ByteArray} (h : (memb a x).isSome ≠ (memb b x).isSome) : alike a b x = false := by
  unfold alike
  simp only [decide_eq_false_iff_not]
  intro e; rw [e] at h; exact h rfl
theorem kl62 {t : Tr} (h : VT t) : t.k.length < 2^62 := by have := (len40 h).1; omega
theorem dsame_ct (a b : Tr) (x : ByteArray) (ha : VT a) (hb : VT b) : Pure Go.Proofs.Tryz.prog 110 [.ag (enc a), .ag (enc b), .s x] (.ret (.tup [.ag (enc ((memb a x).getD nul)), .b (alike a b x)])) := by
  have m1 := member_ct a x (kl62 ha)
  have m2 := member_ct b x (kl62 hb)
  have ms := same_ct ((memb a x).getD nul) ((memb b x).getD nul) (membD_VT ha) (membD_VT hb)
  refine Pure.body tys_valid (fn := Go.Proofs.Tryz.f110) (by kernel_rfl) rfl (by kernel_rfl) rfl ?_
  intro w ok giv E0 _ hE
  by_cases hq : (memb a x).isSome = (memb b x).isSome
  · have hq2 : ((memb a x).isSome == (memb b x).isSome) = true := by rw [hq]; simp
    rw [alike_eq hq]
    refine H.go 200 [(1, [(2, .res (.ret (.tup [.ag (enc ((memb a x).getD nul)), .b (memb a x).isSome])))]), (2, [(2, .res (.ret (.tup [.ag (enc ((memb b x).getD nul)), .b (memb b x).isSome])))]), (3, [(3, .gd true), (7, .res (.ret (.b (teq ((memb a x).getD nul) ((memb b x).getD nul)))))])] [] dr110 rfl ?_ ?_
    · repeat' (first | exact AllP.n | exact trivial | exact DrawB.mk (by decide +kernel) | exact fun _ => rfl | refine AllP.c ?_ ?_)
      all_goals (try dsimp only)
      all_goals try first | exact rfl | exact ⟨trivial, rfl⟩ | exact ⟨trivial, bts_t rfl⟩ | omega | exact at_tr _ _ (by omega) | exact at_s _ _ (by omega) | exact dt (by omega) | exact df (by omega) | exact decide_eq_true (by omega) | exact decide_eq_false (by omega) | exact bts_t (by assumption) | exact bts_f (by assumption) | (rw [bts_t (by assumption)]; rfl) | (rw [bts_f (by assumption)]; rfl) | (unfold InR; omega) | exact m1 | exact m2 | exact ms | exact ⟨trivial, hq2⟩
    refine ⟨_, _, rfl, ?_, ?_⟩
    · repeat' (first | exact AllP.n | exact trivial | exact DrawB.mk (by decide +kernel) | exact fun _ => rfl | refine AllP.c ?_ ?_)
      all_goals (try dsimp only)
      all_goals try first | exact rfl | exact ⟨trivial, rfl⟩ | exact ⟨trivial, bts_t rfl⟩ | omega | exact at_tr _ _ (by omega) | exact at_s _ _ (by omega) | exact dt (by omega) | exact df (by omega) | exact decide_eq_true (by omega) | exact decide_eq_false (by omega) | exact bts_t (by assumption) | exact bts_f (by assumption) | (rw [bts_t (by assumption)]; rfl) | (rw [bts_f (by assumption)]; rfl) | (unfold InR; omega)
    · exact .refl _
  · have hq2 : ((memb a x).isSome == (memb b x).isSome) = false := beq_false_of_ne hq
    rw [alike_ne hq]
    refine H.go 200 [(1, [(2, .res (.ret (.tup [.ag (enc ((memb a x).getD nul)), .b (memb a x).isSome])))]), (2, [(2, .res (.ret (.tup [.ag (enc ((memb b x).getD nul)), .b (memb b x).isSome])))]), (3, [(3, .gd false)])] [] dr110 rfl ?_ ?_
    · repeat' (first | exact AllP.n | exact trivial | exact DrawB.mk (by decide +kernel) | exact fun _ => rfl | refine AllP.c ?_ ?_)
      all_goals (try dsimp only)
      all_goals try first | exact rfl | exact ⟨trivial, rfl⟩ | exact ⟨trivial, bts_t rfl⟩ | omega | exact at_tr _ _ (by omega) | exact at_s _ _ (by omega) | exact dt (by omega) | exact df (by omega) | exact decide_eq_true (by omega) | exact decide_eq_false (by omega) | exact bts_t (by assumption) | exact bts_f (by assumption) | (rw [bts_t (by assumption)]; rfl) | (rw [bts_f (by assumption)]; rfl) | (unfold InR; omega) | exact m1 | exact m2 | exact ⟨trivial, hq2⟩
    refine ⟨_, _, rfl, ?_, ?_⟩
    · repeat' (first | exact AllP.n | exact trivial | exact DrawB.mk (by decide +kernel) | exact fun _ => rfl | refine AllP.c ?_ ?_)
      all_goals (try dsimp only)
      all_goals try first | exact rfl | exact ⟨trivial, rfl⟩ | exact ⟨trivial, bts_t rfl⟩ | omega | exact at_tr _ _ (by omega) | exact at_s _ _ (by omega) | exact dt (by omega) | exact df (by omega) | exact decide_eq_true (by omega) | exact decide_eq_false (by omega) | exact bts_t (by assumption) | exact bts_f (by assumption) | (rw [bts_t (by assumption)]; rfl) | (rw [bts_f (by assumption)]; rfl) | (unfold InR; omega)
    · exact .refl _
end Go.Px
end

section
namespace Go.Px
open Go.RowKit

/-- May this byte stand at this place of a name? -/
def okcB (s : ByteArray) (i : Nat) : Bool := (decide (bits2 .or .u8 (byteAt s i) 32 ≥ 97) && decide (bits2 .or .u8 (byteAt s i) 32 ≤ 122)) || (byteAt s i == 95) || !(((i : Int) == 0) || decide (byteAt s i < 48) || decide (byteAt s i > 57))
def nameB (s : ByteArray) : Bool := (List.range s.size).all (okcB s) && decide (s ≠ ⟨#[]⟩) && decide (s.size ≤ 2000)
theorem nameB_bad {s : ByteArray} {i : Nat} (hi : i < s.size) (h : okcB s i = false) : nameB s = false := by
  unfold nameB
  have : (List.range s.size).all (okcB s) = false := by
    rw [List.all_eq_false]
    exact ⟨i, by simpa using hi, by simp [h]⟩
  simp [this]
theorem name_ct (s : ByteArray) (hs : s.size < 2^40) : Pure Go.Proofs.Tryz.prog 39 [.s s] (.ret (.b (nameB s))) := by
  refine Pure.body tys_valid (fn := Go.Proofs.Tryz.f39) (by kernel_rfl) rfl (by kernel_rfl) rfl ?_
  intro w ok giv E0 _ hE
  refine H.go 200 [] [] [] rfl ?_ ?_
  · repeat' (first | exact AllP.n | exact trivial | exact DrawB.mk (by decide +kernel) | exact fun _ => rfl | refine AllP.c ?_ ?_)
    all_goals (try dsimp only)
    all_goals try first | exact rfl | exact ⟨trivial, rfl⟩ | exact ⟨trivial, bts_t rfl⟩ | omega | exact at_tr _ _ (by omega) | exact at_s _ _ (by omega) | exact dt (by omega) | exact df (by omega) | exact decide_eq_true (by omega) | exact decide_eq_false (by omega) | exact bts_t (by assumption) | exact bts_f (by assumption) | (rw [bts_t (by assumption)]; rfl) | (rw [bts_f (by assumption)]; rfl) | (unfold InR; omega)
  refine H.loopI (fun i : Nat => i ≤ s.size ∧ ∀ j, j < i → okcB s j = true) (fun i => ⟨[(0, .s s), (7, .i .i64 s.size), (8, .i .i64 i)], [], 0⟩) (fun i => s.size - i) 0 ⟨Nat.zero_le _, fun j h => absurd h (Nat.not_lt_zero _)⟩ ?_ ?_
  · intro a w s
    exact s.ren hE [] (by repeat' (first | exact trivial | exact rfl | apply And.intro)) (by repeat' (first | exact trivial | exact rfl | apply And.intro)) rfl
  rintro i ⟨h1, h2⟩
  by_cases hi : i < s.size
  · skip
    cases q1 : decide (bits2 .or .u8 (byteAt s i) 32 ≥ 97) with
    | true =>
      cases q2 : decide (bits2 .or .u8 (byteAt s i) 32 ≤ 122) with
      | true =>
        have hok : okcB s i = true := by simp only [okcB, q1, q2]; rfl
        refine H.go 200 [(5, [(1, .gd true), (4, .gd true)]), (6, [(1, .gd false)])] [(9, true), (44, false)] dr39 rfl ?_ ?_
        · repeat' (first | exact AllP.n | exact trivial | exact DrawB.mk (by decide +kernel) | exact fun _ => rfl | refine AllP.c ?_ ?_)
          all_goals (try dsimp only)
          all_goals try first | exact rfl | exact ⟨trivial, rfl⟩ | exact ⟨trivial, bts_t rfl⟩ | omega | exact at_tr _ _ (by omega) | exact at_s _ _ (by omega) | exact dt (by omega) | exact df (by omega) | exact decide_eq_true (by omega) | exact decide_eq_false (by omega) | exact bts_t (by assumption) | exact bts_f (by assumption) | (rw [bts_t (by assumption)]; rfl) | (rw [bts_f (by assumption)]; rfl) | (unfold InR; omega) | exact ⟨trivial, q1⟩ | exact ⟨trivial, q2⟩
        exact loopN (i + 1) ⟨hi, fun j hj => if h : j < i then h2 j h else (show j = i by omega) ▸ hok⟩ (by show s.size - (i + 1) < s.size - i; omega) fun a w s => s.ren hE [] (by repeat' (first | exact trivial | exact rfl | apply And.intro)) (by repeat' (first | exact trivial | exact rfl | apply And.intro)) rfl
      | false =>
        cases q3 : (byteAt s i == 95) with
        | true =>
          have hok : okcB s i = true := by simp only [okcB, q1, q2, q3]; rfl
          refine H.go 200 [(5, [(1, .gd true), (4, .gd false), (10, .gd true)]), (6, [(1, .gd false)])] [(9, true), (44, false)] dr39 rfl ?_ ?_
          · repeat' (first | exact AllP.n | exact trivial | exact DrawB.mk (by decide +kernel) | exact fun _ => rfl | refine AllP.c ?_ ?_)
            all_goals (try dsimp only)
            all_goals try first | exact rfl | exact ⟨trivial, rfl⟩ | exact ⟨trivial, bts_t rfl⟩ | omega | exact at_tr _ _ (by omega) | exact at_s _ _ (by omega) | exact dt (by omega) | exact df (by omega) | exact decide_eq_true (by omega) | exact decide_eq_false (by omega) | exact bts_t (by assumption) | exact bts_f (by assumption) | (rw [bts_t (by assumption)]; rfl) | (rw [bts_f (by assumption)]; rfl) | (unfold InR; omega) | exact ⟨trivial, q1⟩ | exact ⟨trivial, q2⟩ | exact ⟨trivial, q3⟩
          exact loopN (i + 1) ⟨hi, fun j hj => if h : j < i then h2 j h else (show j = i by omega) ▸ hok⟩ (by show s.size - (i + 1) < s.size - i; omega) fun a w s => s.ren hE [] (by repeat' (first | exact trivial | exact rfl | apply And.intro)) (by repeat' (first | exact trivial | exact rfl | apply And.intro)) rfl
        | false =>
          cases q4 : ((i : Int) == 0) with
          | true =>
            have hok : okcB s i = false := by simp only [okcB, q1, q2, q3, q4]; rfl
            refine H.go 200 [(5, [(1, .gd true), (4, .gd false), (10, .gd false)]), (6, [(1, .gd true), (4, .gd true)])] [(9, true), (44, true)] dr39 rfl ?_ ?_
            · repeat' (first | exact AllP.n | exact trivial | exact DrawB.mk (by decide +kernel) | exact fun _ => rfl | refine AllP.c ?_ ?_)
              all_goals (try dsimp only)
              all_goals try first | exact rfl | exact ⟨trivial, rfl⟩ | exact ⟨trivial, bts_t rfl⟩ | omega | exact at_tr _ _ (by omega) | exact at_s _ _ (by omega) | exact dt (by omega) | exact df (by omega) | exact decide_eq_true (by omega) | exact decide_eq_false (by omega) | exact bts_t (by assumption) | exact bts_f (by assumption) | (rw [bts_t (by assumption)]; rfl) | (rw [bts_f (by assumption)]; rfl) | (unfold InR; omega) | exact ⟨trivial, q1⟩ | exact ⟨trivial, q2⟩ | exact ⟨trivial, q3⟩ | exact ⟨trivial, q4⟩
            refine ⟨_, _, rfl, ?_, ?_⟩
            · repeat' (first | exact AllP.n | exact trivial | exact DrawB.mk (by decide +kernel) | exact fun _ => rfl | refine AllP.c ?_ ?_)
              all_goals (try dsimp only)
              all_goals try first | exact rfl | exact ⟨trivial, rfl⟩ | exact ⟨trivial, bts_t rfl⟩ | omega | exact at_tr _ _ (by omega) | exact at_s _ _ (by omega) | exact dt (by omega) | exact df (by omega) | exact decide_eq_true (by omega) | exact decide_eq_false (by omega) | exact bts_t (by assumption) | exact bts_f (by assumption) | (rw [bts_t (by assumption)]; rfl) | (rw [bts_f (by assumption)]; rfl) | (unfold InR; omega)
            · rw [nameB_bad hi hok]; exact .refl _
          | false =>
            cases q5 : decide (byteAt s i < 48) with
            | true =>
              have hok : okcB s i = false := by simp only [okcB, q1, q2, q3, q4, q5]; rfl
              refine H.go 200 [(5, [(1, .gd true), (4, .gd false), (10, .gd false)]), (6, [(1, .gd true), (4, .gd false), (9, .gd true)])] [(9, true), (44, true)] dr39 rfl ?_ ?_
              · repeat' (first | exact AllP.n | exact trivial | exact DrawB.mk (by decide +kernel) | exact fun _ => rfl | refine AllP.c ?_ ?_)
                all_goals (try dsimp only)
                all_goals try first | exact rfl | exact ⟨trivial, rfl⟩ | exact ⟨trivial, bts_t rfl⟩ | omega | exact at_tr _ _ (by omega) | exact at_s _ _ (by omega) | exact dt (by omega) | exact df (by omega) | exact decide_eq_true (by omega) | exact decide_eq_false (by omega) | exact bts_t (by assumption) | exact bts_f (by assumption) | (rw [bts_t (by assumption)]; rfl) | (rw [bts_f (by assumption)]; rfl) | (unfold InR; omega) | exact ⟨trivial, q1⟩ | exact ⟨trivial, q2⟩ | exact ⟨trivial, q3⟩ | exact ⟨trivial, q4⟩ | exact ⟨trivial, q5⟩
              refine ⟨_, _, rfl, ?_, ?_⟩
              · repeat' (first | exact AllP.n | exact trivial | exact DrawB.mk (by decide +kernel) | exact fun _ => rfl | refine AllP.c ?_ ?_)
                all_goals (try dsimp only)
                all_goals try first | exact rfl | exact ⟨trivial, rfl⟩ | exact ⟨trivial, bts_t rfl⟩ | omega | exact at_tr _ _ (by omega) | exact at_s _ _ (by omega) | exact dt (by omega) | exact df (by omega) | exact decide_eq_true (by omega) | exact decide_eq_false (by omega) | exact bts_t (by assumption) | exact bts_f (by assumption) | (rw [bts_t (by assumption)]; rfl) | (rw [bts_f (by assumption)]; rfl) | (unfold InR; omega)
              · rw [nameB_bad hi hok]; exact .refl _
            | false =>
              cases q6 : decide (byteAt s i > 57) with
              | true =>
                have hok : okcB s i = false := by simp only [okcB, q1, q2, q3, q4, q5, q6]; rfl
                refine H.go 200 [(5, [(1, .gd true), (4, .gd false), (10, .gd false)]), (6, [(1, .gd true), (4, .gd false), (9, .gd false), (15, .gd true)])] [(9, true), (44, true)] dr39 rfl ?_ ?_
                · repeat' (first | exact AllP.n | exact trivial | exact DrawB.mk (by decide +kernel) | exact fun _ => rfl | refine AllP.c ?_ ?_)
                  all_goals (try dsimp only)
                  all_goals try first | exact rfl | exact ⟨trivial, rfl⟩ | exact ⟨trivial, bts_t rfl⟩ | omega | exact at_tr _ _ (by omega) | exact at_s _ _ (by omega) | exact dt (by omega) | exact df (by omega) | exact decide_eq_true (by omega) | exact decide_eq_false (by omega) | exact bts_t (by assumption) | exact bts_f (by assumption) | (rw [bts_t (by assumption)]; rfl) | (rw [bts_f (by assumption)]; rfl) | (unfold InR; omega) | exact ⟨trivial, q1⟩ | exact ⟨trivial, q2⟩ | exact ⟨trivial, q3⟩ | exact ⟨trivial, q4⟩ | exact ⟨trivial, q5⟩ | exact ⟨trivial, q6⟩
                refine ⟨_, _, rfl, ?_, ?_⟩
                · repeat' (first | exact AllP.n | exact trivial | exact DrawB.mk (by decide +kernel) | exact fun _ => rfl | refine AllP.c ?_ ?_)
                  all_goals (try dsimp only)
                  all_goals try first | exact rfl | exact ⟨trivial, rfl⟩ | exact ⟨trivial, bts_t rfl⟩ | omega | exact at_tr _ _ (by omega) | exact at_s _ _ (by omega) | exact dt (by omega) | exact df (by omega) | exact decide_eq_true (by omega) | exact decide_eq_false (by omega) | exact bts_t (by assumption) | exact bts_f (by assumption) | (rw [bts_t (by assumption)]; rfl) | (rw [bts_f (by assumption)]; rfl) | (unfold InR; omega)
                · rw [nameB_bad hi hok]; exact .refl _
              | false =>
                have hok : okcB s i = true := by simp only [okcB, q1, q2, q3, q4, q5, q6]; rfl
                refine H.go 200 [(5, [(1, .gd true), (4, .gd false), (10, .gd false)]), (6, [(1, .gd true), (4, .gd false), (9, .gd false), (15, .gd false)])] [(9, true), (44, false)] dr39 rfl ?_ ?_
                · repeat' (first | exact AllP.n | exact trivial | exact DrawB.mk (by decide +kernel) | exact fun _ => rfl | refine AllP.c ?_ ?_)
                  all_goals (try dsimp only)
                  all_goals try first | exact rfl | exact ⟨trivial, rfl⟩ | exact ⟨trivial, bts_t rfl⟩ | omega | exact at_tr _ _ (by omega) | exact at_s _ _ (by omega) | exact dt (by omega) | exact df (by omega) | exact decide_eq_true (by omega) | exact decide_eq_false (by omega) | exact bts_t (by assumption) | exact bts_f (by assumption) | (rw [bts_t (by assumption)]; rfl) | (rw [bts_f (by assumption)]; rfl) | (unfold InR; omega) | exact ⟨trivial, q1⟩ | exact ⟨trivial, q2⟩ | exact ⟨trivial, q3⟩ | exact ⟨trivial, q4⟩ | exact ⟨trivial, q5⟩ | exact ⟨trivial, q6⟩
                exact loopN (i + 1) ⟨hi, fun j hj => if h : j < i then h2 j h else (show j = i by omega) ▸ hok⟩ (by show s.size - (i + 1) < s.size - i; omega) fun a w s => s.ren hE [] (by repeat' (first | exact trivial | exact rfl | apply And.intro)) (by repeat' (first | exact trivial | exact rfl | apply And.intro)) rfl
    | false =>
      cases q3 : (byteAt s i == 95) with
      | true =>
        have hok : okcB s i = true := by simp only [okcB, q1, q3]; rfl
        refine H.go 200 [(5, [(1, .gd false), (10, .gd true)]), (6, [(1, .gd false)])] [(9, true), (44, false)] dr39 rfl ?_ ?_
        · repeat' (first | exact AllP.n | exact trivial | exact DrawB.mk (by decide +kernel) | exact fun _ => rfl | refine AllP.c ?_ ?_)
          all_goals (try dsimp only)
          all_goals try first | exact rfl | exact ⟨trivial, rfl⟩ | exact ⟨trivial, bts_t rfl⟩ | omega | exact at_tr _ _ (by omega) | exact at_s _ _ (by omega) | exact dt (by omega) | exact df (by omega) | exact decide_eq_true (by omega) | exact decide_eq_false (by omega) | exact bts_t (by assumption) | exact bts_f (by assumption) | (rw [bts_t (by assumption)]; rfl) | (rw [bts_f (by assumption)]; rfl) | (unfold InR; omega) | exact ⟨trivial, q1⟩ | exact ⟨trivial, q3⟩
        exact loopN (i + 1) ⟨hi, fun j hj => if h : j < i then h2 j h else (show j = i by omega) ▸ hok⟩ (by show s.size - (i + 1) < s.size - i; omega) fun a w s => s.ren hE [] (by repeat' (first | exact trivial | exact rfl | apply And.intro)) (by repeat' (first | exact trivial | exact rfl | apply And.intro)) rfl
      | false =>
        cases q4 : ((i : Int) == 0) with
        | true =>
          have hok : okcB s i = false := by simp only [okcB, q1, q3, q4]; rfl
          refine H.go 200 [(5, [(1, .gd false), (10, .gd false)]), (6, [(1, .gd true), (4, .gd true)])] [(9, true), (44, true)] dr39 rfl ?_ ?_
          · repeat' (first | exact AllP.n | exact trivial | exact DrawB.mk (by decide +kernel) | exact fun _ => rfl | refine AllP.c ?_ ?_)
            all_goals (try dsimp only)
            all_goals try first | exact rfl | exact ⟨trivial, rfl⟩ | exact ⟨trivial, bts_t rfl⟩ | omega | exact at_tr _ _ (by omega) | exact at_s _ _ (by omega) | exact dt (by omega) | exact df (by omega) | exact decide_eq_true (by omega) | exact decide_eq_false (by omega) | exact bts_t (by assumption) | exact bts_f (by assumption) | (rw [bts_t (by assumption)]; rfl) | (rw [bts_f (by assumption)]; rfl) | (unfold InR; omega) | exact ⟨trivial, q1⟩ | exact ⟨trivial, q3⟩ | exact ⟨trivial, q4⟩
          refine ⟨_, _, rfl, ?_, ?_⟩
          · repeat' (first | exact AllP.n | exact trivial | exact DrawB.mk (by decide +kernel) | exact fun _ => rfl | refine AllP.c ?_ ?_)
            all_goals (try dsimp only)
            all_goals try first | exact rfl | exact ⟨trivial, rfl⟩ | exact ⟨trivial, bts_t rfl⟩ | omega | exact at_tr _ _ (by omega) | exact at_s _ _ (by omega) | exact dt (by omega) | exact df (by omega) | exact decide_eq_true (by omega) | exact decide_eq_false (by omega) | exact bts_t (by assumption) | exact bts_f (by assumption) | (rw [bts_t (by assumption)]; rfl) | (rw [bts_f (by assumption)]; rfl) | (unfold InR; omega)
          · rw [nameB_bad hi hok]; exact .refl _
        | false =>
          cases q5 : decide (byteAt s i < 48) with
          | true =>
            have hok : okcB s i = false := by simp only [okcB, q1, q3, q4, q5]; rfl
            refine H.go 200 [(5, [(1, .gd false), (10, .gd false)]), (6, [(1, .gd true), (4, .gd false), (9, .gd true)])] [(9, true), (44, true)] dr39 rfl ?_ ?_
            · repeat' (first | exact AllP.n | exact trivial | exact DrawB.mk (by decide +kernel) | exact fun _ => rfl | refine AllP.c ?_ ?_)
              all_goals (try dsimp only)
              all_goals try first | exact rfl | exact ⟨trivial, rfl⟩ | exact ⟨trivial, bts_t rfl⟩ | omega | exact at_tr _ _ (by omega) | exact at_s _ _ (by omega) | exact dt (by omega) | exact df (by omega) | exact decide_eq_true (by omega) | exact decide_eq_false (by omega) | exact bts_t (by assumption) | exact bts_f (by assumption) | (rw [bts_t (by assumption)]; rfl) | (rw [bts_f (by assumption)]; rfl) | (unfold InR; omega) | exact ⟨trivial, q1⟩ | exact ⟨trivial, q3⟩ | exact ⟨trivial, q4⟩ | exact ⟨trivial, q5⟩
            refine ⟨_, _, rfl, ?_, ?_⟩
            · repeat' (first | exact AllP.n | exact trivial | exact DrawB.mk (by decide +kernel) | exact fun _ => rfl | refine AllP.c ?_ ?_)
              all_goals (try dsimp only)
              all_goals try first | exact rfl | exact ⟨trivial, rfl⟩ | exact ⟨trivial, bts_t rfl⟩ | omega | exact at_tr _ _ (by omega) | exact at_s _ _ (by omega) | exact dt (by omega) | exact df (by omega) | exact decide_eq_true (by omega) | exact decide_eq_false (by omega) | exact bts_t (by assumption) | exact bts_f (by assumption) | (rw [bts_t (by assumption)]; rfl) | (rw [bts_f (by assumption)]; rfl) | (unfold InR; omega)
            · rw [nameB_bad hi hok]; exact .refl _
          | false =>
            cases q6 : decide (byteAt s i > 57) with
            | true =>
              have hok : okcB s i = false := by simp only [okcB, q1, q3, q4, q5, q6]; rfl
              refine H.go 200 [(5, [(1, .gd false), (10, .gd false)]), (6, [(1, .gd true), (4, .gd false), (9, .gd false), (15, .gd true)])] [(9, true), (44, true)] dr39 rfl ?_ ?_
              · repeat' (first | exact AllP.n | exact trivial | exact DrawB.mk (by decide +kernel) | exact fun _ => rfl | refine AllP.c ?_ ?_)
                all_goals (try dsimp only)
                all_goals try first | exact rfl | exact ⟨trivial, rfl⟩ | exact ⟨trivial, bts_t rfl⟩ | omega | exact at_tr _ _ (by omega) | exact at_s _ _ (by omega) | exact dt (by omega) | exact df (by omega) | exact decide_eq_true (by omega) | exact decide_eq_false (by omega) | exact bts_t (by assumption) | exact bts_f (by assumption) | (rw [bts_t (by assumption)]; rfl) | (rw [bts_f (by assumption)]; rfl) | (unfold InR; omega) | exact ⟨trivial, q1⟩ | exact ⟨trivial, q3⟩ | exact ⟨trivial, q4⟩ | exact ⟨trivial, q5⟩ | exact ⟨trivial, q6⟩
              refine ⟨_, _, rfl, ?_, ?_⟩
              · repeat' (first | exact AllP.n | exact trivial | exact DrawB.mk (by decide +kernel) | exact fun _ => rfl | refine AllP.c ?_ ?_)
                all_goals (try dsimp only)
                all_goals try first | exact rfl | exact ⟨trivial, rfl⟩ | exact ⟨trivial, bts_t rfl⟩ | omega | exact at_tr _ _ (by omega) | exact at_s _ _ (by omega) | exact dt (by omega) | exact df (by omega) | exact decide_eq_true (by omega) | exact decide_eq_false (by omega) | exact bts_t (by assumption) | exact bts_f (by assumption) | (rw [bts_t (by assumption)]; rfl) | (rw [bts_f (by assumption)]; rfl) | (unfold InR; omega)
              · rw [nameB_bad hi hok]; exact .refl _
            | false =>
              have hok : okcB s i = true := by simp only [okcB, q1, q3, q4, q5, q6]; rfl
              refine H.go 200 [(5, [(1, .gd false), (10, .gd false)]), (6, [(1, .gd true), (4, .gd false), (9, .gd false), (15, .gd false)])] [(9, true), (44, false)] dr39 rfl ?_ ?_
              · repeat' (first | exact AllP.n | exact trivial | exact DrawB.mk (by decide +kernel) | exact fun _ => rfl | refine AllP.c ?_ ?_)
                all_goals (try dsimp only)
                all_goals try first | exact rfl | exact ⟨trivial, rfl⟩ | exact ⟨trivial, bts_t rfl⟩ | omega | exact at_tr _ _ (by omega) | exact at_s _ _ (by omega) | exact dt (by omega) | exact df (by omega) | exact decide_eq_true (by omega) | exact decide_eq_false (by omega) | exact bts_t (by assumption) | exact bts_f (by assumption) | (rw [bts_t (by assumption)]; rfl) | (rw [bts_f (by assumption)]; rfl) | (unfold InR; omega) | exact ⟨trivial, q1⟩ | exact ⟨trivial, q3⟩ | exact ⟨trivial, q4⟩ | exact ⟨trivial, q5⟩ | exact ⟨trivial, q6⟩
              exact loopN (i + 1) ⟨hi, fun j hj => if h : j < i then h2 j h else (show j = i by omega) ▸ hok⟩ (by show s.size - (i + 1) < s.size - i; omega) fun a w s => s.ren hE [] (by repeat' (first | exact trivial | exact rfl | apply And.intro)) (by repeat' (first | exact trivial | exact rfl | apply And.intro)) rfl
  · obtain rfl : i = s.size := by omega
    have hall : (List.range s.size).all (okcB s) = true := by rw [List.all_eq_true]; intro j hj; exact h2 j (by simpa using hj)
    refine H.go 200 [] [(9, false)] [] rfl ?_ ?_
    · repeat' (first | exact AllP.n | exact trivial | exact DrawB.mk (by decide +kernel) | exact fun _ => rfl | refine AllP.c ?_ ?_)
      all_goals (try dsimp only)
      all_goals try first | exact rfl | exact ⟨trivial, rfl⟩ | exact ⟨trivial, bts_t rfl⟩ | omega | exact at_tr _ _ (by omega) | exact at_s _ _ (by omega) | exact dt (by omega) | exact df (by omega) | exact decide_eq_true (by omega) | exact decide_eq_false (by omega) | exact bts_t (by assumption) | exact bts_f (by assumption) | (rw [bts_t (by assumption)]; rfl) | (rw [bts_f (by assumption)]; rfl) | (unfold InR; omega)
    by_cases he : s = ⟨#[]⟩
    · have hb := bts_t he
      have hn : nameB s = false := by simp [nameB, he]
      refine H.go 200 [(9, [(1, .gd false)])] [] [] rfl ?_ ?_
      · repeat' (first | exact AllP.n | exact trivial | exact DrawB.mk (by decide +kernel) | exact fun _ => rfl | refine AllP.c ?_ ?_)
        all_goals (try dsimp only)
        all_goals try first | exact rfl | exact ⟨trivial, rfl⟩ | exact ⟨trivial, bts_t rfl⟩ | omega | exact at_tr _ _ (by omega) | exact at_s _ _ (by omega) | exact dt (by omega) | exact df (by omega) | exact decide_eq_true (by omega) | exact decide_eq_false (by omega) | exact bts_t (by assumption) | exact bts_f (by assumption) | (rw [bts_t (by assumption)]; rfl) | (rw [bts_f (by assumption)]; rfl) | (unfold InR; omega) | (refine ⟨trivial, ?_⟩; rw [hb]; rfl)
      refine ⟨_, _, rfl, ?_, ?_⟩
      · repeat' (first | exact AllP.n | exact trivial | exact DrawB.mk (by decide +kernel) | exact fun _ => rfl | refine AllP.c ?_ ?_)
        all_goals (try dsimp only)
        all_goals try first | exact rfl | exact ⟨trivial, rfl⟩ | exact ⟨trivial, bts_t rfl⟩ | omega | exact at_tr _ _ (by omega) | exact at_s _ _ (by omega) | exact dt (by omega) | exact df (by omega) | exact decide_eq_true (by omega) | exact decide_eq_false (by omega) | exact bts_t (by assumption) | exact bts_f (by assumption) | (rw [bts_t (by assumption)]; rfl) | (rw [bts_f (by assumption)]; rfl) | (unfold InR; omega)
      · rw [hn]; exact .refl _
    · have hb := bts_f he
      have hn : nameB s = decide (s.size ≤ 2000) := by simp [nameB, hall, he]
      have hm : decide ((s.size : Int) ≤ 2000) = decide (s.size ≤ 2000) := by rw [decide_eq_decide]; omega
      refine H.go 200 [(9, [(1, .gd true)])] [] [] rfl ?_ ?_
      · repeat' (first | exact AllP.n | exact trivial | exact DrawB.mk (by decide +kernel) | exact fun _ => rfl | refine AllP.c ?_ ?_)
        all_goals (try dsimp only)
        all_goals try first | exact rfl | exact ⟨trivial, rfl⟩ | exact ⟨trivial, bts_t rfl⟩ | omega | exact at_tr _ _ (by omega) | exact at_s _ _ (by omega) | exact dt (by omega) | exact df (by omega) | exact decide_eq_true (by omega) | exact decide_eq_false (by omega) | exact bts_t (by assumption) | exact bts_f (by assumption) | (rw [bts_t (by assumption)]; rfl) | (rw [bts_f (by assumption)]; rfl) | (unfold InR; omega) | (refine ⟨trivial, ?_⟩; rw [hb]; rfl)
      refine ⟨_, _, rfl, ?_, ?_⟩
      · repeat' (first | exact AllP.n | exact trivial | exact DrawB.mk (by decide +kernel) | exact fun _ => rfl | refine AllP.c ?_ ?_)
        all_goals (try dsimp only)
        all_goals try first | exact rfl | exact ⟨trivial, rfl⟩ | exact ⟨trivial, bts_t rfl⟩ | omega | exact at_tr _ _ (by omega) | exact at_s _ _ (by omega) | exact dt (by omega) | exact df (by omega) | exact decide_eq_true (by omega) | exact decide_eq_false (by omega) | exact bts_t (by assumption) | exact bts_f (by assumption) | (rw [bts_t (by assumption)]; rfl) | (rw [bts_f (by assumption)]; rfl) | (unfold InR; omega)
      · rw [hn, ← hm]; exact .refl _
end Go.Px
end

section
namespace Go.Px
open Go.RowKit

/-- The first place at which it holds, or -1. -/
def fidx {α : Type} (p : α → Bool) (k : List α) : Int := if k.any p then (k.findIdx p : Nat) else -1
theorem fidx_no {α : Type} {p : α → Bool} {k : List α} (h : ∀ (j : Nat) (hj : j < k.length), p k[j] = false) : fidx p k = -1 := by
  have : k.any p = false := by
    rw [List.any_eq_false]
    intro x hx
    obtain ⟨i, hi, rfl⟩ := List.getElem_of_mem hx
    simp [h i hi]
  simp [fidx, this]
theorem fidx_at {α : Type} {p : α → Bool} {k : List α} (i : Nat) (hi : i < k.length) (h1 : p k[i] = true) (h : ∀ (j : Nat) (hj : j < k.length), j < i → p k[j] = false) : fidx p k = i := by
  have ha : k.any p = true := List.any_eq_true.2 ⟨k[i], List.getElem_mem _, h1⟩
  have : k.findIdx p = i := by
    rw [List.findIdx_eq hi]
    exact ⟨h1, fun j hj => by simp [h j (by omega) hj]⟩
  simp [fidx, ha, this]
theorem fidx_any {α : Type} (p : α → Bool) (k : List α) : decide (fidx p k ≥ 0) = k.any p := by
  unfold fidx
  by_cases h : k.any p = true
  · rw [if_pos h, h]; simp
  · rw [if_neg h]; simp at h; simp; intro x hx; simpa using h x hx
def pth (p : List ByteArray) : D := .sl 1 p.length (p.map D.s)
theorem at_p (l : List (List ByteArray)) (i : Nat) (h : i < l.length) : ((l.map pth).drop (mulN (i : Int).toNat 1))[0]? = some (pth l[i]) := by
  simp [mulN_eq, h]
theorem sfun_index (p : ByteArray → Bool) (F : FuncId) (k : List (ByteArray)) (hk : k.length < 2^40) (hf : ∀ (i : Nat) (h : i < k.length), Pure Go.Proofs.Tryz.prog F [D.s k[i]] (.ret (.b (p k[i])))) :
    Pure Go.Proofs.Tryz.prog 96 [.sl 1 k.length (k.map D.s), .fn F []] (.ret (.i .i64 (fidx p k))) := by
  refine Pure.body tys_valid (fn := Go.Proofs.Tryz.f96) (by kernel_rfl) rfl (by kernel_rfl) rfl ?_
  intro w ok giv E0 _ hE
  refine H.go 200 [] [] [] rfl ?_ ?_
  · repeat' (first | exact AllP.n | exact trivial | exact DrawB.mk (by decide +kernel) | exact fun _ => rfl | refine AllP.c ?_ ?_)
    all_goals (try dsimp only)
    all_goals try first | exact rfl | exact ⟨trivial, rfl⟩ | exact ⟨trivial, bts_t rfl⟩ | omega | exact at_tr _ _ (by omega) | exact at_s _ _ (by omega) | exact dt (by omega) | exact df (by omega) | exact decide_eq_true (by omega) | exact decide_eq_false (by omega) | exact bts_t (by assumption) | exact bts_f (by assumption) | (rw [bts_t (by assumption)]; rfl) | (rw [bts_f (by assumption)]; rfl) | (unfold InR; omega)
  refine H.loopI (fun i : Nat => i ≤ k.length ∧ ∀ (j : Nat) (hj : j < k.length), j < i → p k[j] = false) (fun i => ⟨[(0, .sl 1 k.length (k.map D.s)), (1, .fn F []), (7, .i .i64 k.length), (8, .i .i64 i)], [], 0⟩) (fun i => k.length - i) 0 ⟨Nat.zero_le _, fun j _ h => absurd h (Nat.not_lt_zero _)⟩ ?_ ?_
  · intro a w s
    exact s.ren hE [] (by repeat' (first | exact trivial | exact rfl | apply And.intro)) (by repeat' (first | exact trivial | exact rfl | apply And.intro)) rfl
  rintro i ⟨h1, h2⟩
  by_cases hi : i < k.length
  · have hc := hf i hi
    have ha := at_s k i hi
    cases hp : p k[i] with
    | true =>
      rw [hp] at hc
      refine H.go 200 [(4, [(4, .cell (D.s k[i])), (5, .res (.ret (.b true)))])] [(9, true), (16, true)] [] rfl ?_ ?_
      · repeat' (first | exact AllP.n | exact trivial | exact DrawB.mk (by decide +kernel) | exact fun _ => rfl | refine AllP.c ?_ ?_)
        all_goals (try dsimp only)
        all_goals try first | exact rfl | exact ⟨trivial, rfl⟩ | exact ⟨trivial, bts_t rfl⟩ | omega | exact at_tr _ _ (by omega) | exact at_s _ _ (by omega) | exact dt (by omega) | exact df (by omega) | exact decide_eq_true (by omega) | exact decide_eq_false (by omega) | exact bts_t (by assumption) | exact bts_f (by assumption) | (rw [bts_t (by assumption)]; rfl) | (rw [bts_f (by assumption)]; rfl) | (unfold InR; omega) | exact ha | exact hc
      refine ⟨_, _, rfl, ?_, ?_⟩
      · repeat' (first | exact AllP.n | exact trivial | exact DrawB.mk (by decide +kernel) | exact fun _ => rfl | refine AllP.c ?_ ?_)
        all_goals (try dsimp only)
        all_goals try first | exact rfl | exact ⟨trivial, rfl⟩ | exact ⟨trivial, bts_t rfl⟩ | omega | exact at_tr _ _ (by omega) | exact at_s _ _ (by omega) | exact dt (by omega) | exact df (by omega) | exact decide_eq_true (by omega) | exact decide_eq_false (by omega) | exact bts_t (by assumption) | exact bts_f (by assumption) | (rw [bts_t (by assumption)]; rfl) | (rw [bts_f (by assumption)]; rfl) | (unfold InR; omega)
      · rw [fidx_at i hi hp (fun j hj h => h2 j hj h)]; exact .refl _
    | false =>
      rw [hp] at hc
      refine H.go 200 [(4, [(4, .cell (D.s k[i])), (5, .res (.ret (.b false)))])] [(9, true), (16, false)] [] rfl ?_ ?_
      · repeat' (first | exact AllP.n | exact trivial | exact DrawB.mk (by decide +kernel) | exact fun _ => rfl | refine AllP.c ?_ ?_)
        all_goals (try dsimp only)
        all_goals try first | exact rfl | exact ⟨trivial, rfl⟩ | exact ⟨trivial, bts_t rfl⟩ | omega | exact at_tr _ _ (by omega) | exact at_s _ _ (by omega) | exact dt (by omega) | exact df (by omega) | exact decide_eq_true (by omega) | exact decide_eq_false (by omega) | exact bts_t (by assumption) | exact bts_f (by assumption) | (rw [bts_t (by assumption)]; rfl) | (rw [bts_f (by assumption)]; rfl) | (unfold InR; omega) | exact ha | exact hc
      exact loopN (i + 1) ⟨hi, fun j hj h => if hlt : j < i then h2 j hj hlt else by obtain rfl : j = i := by omega
                                                                                     exact hp⟩ (by show k.length - (i + 1) < k.length - i; omega) fun a w s => s.ren hE [] (by repeat' (first | exact trivial | exact rfl | apply And.intro)) (by repeat' (first | exact trivial | exact rfl | apply And.intro)) rfl
  · obtain rfl : i = k.length := by omega
    refine H.go 200 [] [(9, false)] [] rfl ?_ ?_
    · repeat' (first | exact AllP.n | exact trivial | exact DrawB.mk (by decide +kernel) | exact fun _ => rfl | refine AllP.c ?_ ?_)
      all_goals (try dsimp only)
      all_goals try first | exact rfl | exact ⟨trivial, rfl⟩ | exact ⟨trivial, bts_t rfl⟩ | omega | exact at_tr _ _ (by omega) | exact at_s _ _ (by omega) | exact dt (by omega) | exact df (by omega) | exact decide_eq_true (by omega) | exact decide_eq_false (by omega) | exact bts_t (by assumption) | exact bts_f (by assumption) | (rw [bts_t (by assumption)]; rfl) | (rw [bts_f (by assumption)]; rfl) | (unfold InR; omega)
    refine H.go 200 [] [] [] rfl ?_ ?_
    · repeat' (first | exact AllP.n | exact trivial | exact DrawB.mk (by decide +kernel) | exact fun _ => rfl | refine AllP.c ?_ ?_)
      all_goals (try dsimp only)
      all_goals try first | exact rfl | exact ⟨trivial, rfl⟩ | exact ⟨trivial, bts_t rfl⟩ | omega | exact at_tr _ _ (by omega) | exact at_s _ _ (by omega) | exact dt (by omega) | exact df (by omega) | exact decide_eq_true (by omega) | exact decide_eq_false (by omega) | exact bts_t (by assumption) | exact bts_f (by assumption) | (rw [bts_t (by assumption)]; rfl) | (rw [bts_f (by assumption)]; rfl) | (unfold InR; omega)
    refine ⟨_, _, rfl, ?_, ?_⟩
    · repeat' (first | exact AllP.n | exact trivial | exact DrawB.mk (by decide +kernel) | exact fun _ => rfl | refine AllP.c ?_ ?_)
      all_goals (try dsimp only)
      all_goals try first | exact rfl | exact ⟨trivial, rfl⟩ | exact ⟨trivial, bts_t rfl⟩ | omega | exact at_tr _ _ (by omega) | exact at_s _ _ (by omega) | exact dt (by omega) | exact df (by omega) | exact decide_eq_true (by omega) | exact decide_eq_false (by omega) | exact bts_t (by assumption) | exact bts_f (by assumption) | (rw [bts_t (by assumption)]; rfl) | (rw [bts_f (by assumption)]; rfl) | (unfold InR; omega)
    · rw [fidx_no (fun j hj => h2 j hj hj)]; exact .refl _
theorem sfun_any (p : ByteArray → Bool) (F : FuncId) (k : List (ByteArray)) (hk : k.length < 2^40) (hf : ∀ (i : Nat) (h : i < k.length), Pure Go.Proofs.Tryz.prog F [D.s k[i]] (.ret (.b (p k[i])))) :
    Pure Go.Proofs.Tryz.prog 51 [.sl 1 k.length (k.map D.s), .fn F []] (.ret (.b (k.any p))) := by
  have hi := sfun_index p F k hk hf
  refine Pure.body tys_valid (fn := Go.Proofs.Tryz.f51) (by kernel_rfl) rfl (by kernel_rfl) rfl ?_
  intro w ok giv E0 _ hE
  refine H.go 200 [(1, [(2, .res (.ret (.i .i64 (fidx p k))))])] [] [] rfl ?_ ?_
  · repeat' (first | exact AllP.n | exact trivial | exact DrawB.mk (by decide +kernel) | exact fun _ => rfl | refine AllP.c ?_ ?_)
    all_goals (try dsimp only)
    all_goals try first | exact rfl | exact ⟨trivial, rfl⟩ | exact ⟨trivial, bts_t rfl⟩ | omega | exact at_tr _ _ (by omega) | exact at_s _ _ (by omega) | exact dt (by omega) | exact df (by omega) | exact decide_eq_true (by omega) | exact decide_eq_false (by omega) | exact bts_t (by assumption) | exact bts_f (by assumption) | (rw [bts_t (by assumption)]; rfl) | (rw [bts_f (by assumption)]; rfl) | (unfold InR; omega) | exact hi
  refine ⟨_, _, rfl, ?_, ?_⟩
  · repeat' (first | exact AllP.n | exact trivial | exact DrawB.mk (by decide +kernel) | exact fun _ => rfl | refine AllP.c ?_ ?_)
    all_goals (try dsimp only)
    all_goals try first | exact rfl | exact ⟨trivial, rfl⟩ | exact ⟨trivial, bts_t rfl⟩ | omega | exact at_tr _ _ (by omega) | exact at_s _ _ (by omega) | exact dt (by omega) | exact df (by omega) | exact decide_eq_true (by omega) | exact decide_eq_false (by omega) | exact bts_t (by assumption) | exact bts_f (by assumption) | (rw [bts_t (by assumption)]; rfl) | (rw [bts_f (by assumption)]; rfl) | (unfold InR; omega)
  · rw [← fidx_any]; exact .refl _
theorem pfun_index (p : List ByteArray → Bool) (F : FuncId) (k : List (List ByteArray)) (hk : k.length < 2^40) (hf : ∀ (i : Nat) (h : i < k.length), Pure Go.Proofs.Tryz.prog F [pth k[i]] (.ret (.b (p k[i])))) :
    Pure Go.Proofs.Tryz.prog 144 [.sl 1 k.length (k.map pth), .fn F []] (.ret (.i .i64 (fidx p k))) := by
  refine Pure.body tys_valid (fn := Go.Proofs.Tryz.f144) (by kernel_rfl) rfl (by kernel_rfl) rfl ?_
  intro w ok giv E0 _ hE
  refine H.go 200 [] [] [] rfl ?_ ?_
  · repeat' (first | exact AllP.n | exact trivial | exact DrawB.mk (by decide +kernel) | exact fun _ => rfl | refine AllP.c ?_ ?_)
    all_goals (try dsimp only)
    all_goals try first | exact rfl | exact ⟨trivial, rfl⟩ | exact ⟨trivial, bts_t rfl⟩ | omega | exact at_tr _ _ (by omega) | exact at_s _ _ (by omega) | exact dt (by omega) | exact df (by omega) | exact decide_eq_true (by omega) | exact decide_eq_false (by omega) | exact bts_t (by assumption) | exact bts_f (by assumption) | (rw [bts_t (by assumption)]; rfl) | (rw [bts_f (by assumption)]; rfl) | (unfold InR; omega)
  refine H.loopI (fun i : Nat => i ≤ k.length ∧ ∀ (j : Nat) (hj : j < k.length), j < i → p k[j] = false) (fun i => ⟨[(0, .sl 1 k.length (k.map pth)), (1, .fn F []), (7, .i .i64 k.length), (8, .i .i64 i)], [], 0⟩) (fun i => k.length - i) 0 ⟨Nat.zero_le _, fun j _ h => absurd h (Nat.not_lt_zero _)⟩ ?_ ?_
  · intro a w s
    exact s.ren hE [] (by repeat' (first | exact trivial | exact rfl | apply And.intro)) (by repeat' (first | exact trivial | exact rfl | apply And.intro)) rfl
  rintro i ⟨h1, h2⟩
  by_cases hi : i < k.length
  · have hc := hf i hi
    have ha := at_p k i hi
    cases hp : p k[i] with
    | true =>
      rw [hp] at hc
      refine H.go 200 [(4, [(4, .cell (pth k[i])), (5, .res (.ret (.b true)))])] [(9, true), (16, true)] [] rfl ?_ ?_
      · repeat' (first | exact AllP.n | exact trivial | exact DrawB.mk (by decide +kernel) | exact fun _ => rfl | refine AllP.c ?_ ?_)
        all_goals (try dsimp only)
        all_goals try first | exact rfl | exact ⟨trivial, rfl⟩ | exact ⟨trivial, bts_t rfl⟩ | omega | exact at_tr _ _ (by omega) | exact at_s _ _ (by omega) | exact dt (by omega) | exact df (by omega) | exact decide_eq_true (by omega) | exact decide_eq_false (by omega) | exact bts_t (by assumption) | exact bts_f (by assumption) | (rw [bts_t (by assumption)]; rfl) | (rw [bts_f (by assumption)]; rfl) | (unfold InR; omega) | exact ha | exact hc
      refine ⟨_, _, rfl, ?_, ?_⟩
      · repeat' (first | exact AllP.n | exact trivial | exact DrawB.mk (by decide +kernel) | exact fun _ => rfl | refine AllP.c ?_ ?_)
        all_goals (try dsimp only)
        all_goals try first | exact rfl | exact ⟨trivial, rfl⟩ | exact ⟨trivial, bts_t rfl⟩ | omega | exact at_tr _ _ (by omega) | exact at_s _ _ (by omega) | exact dt (by omega) | exact df (by omega) | exact decide_eq_true (by omega) | exact decide_eq_false (by omega) | exact bts_t (by assumption) | exact bts_f (by assumption) | (rw [bts_t (by assumption)]; rfl) | (rw [bts_f (by assumption)]; rfl) | (unfold InR; omega)
      · rw [fidx_at i hi hp (fun j hj h => h2 j hj h)]; exact .refl _
    | false =>
      rw [hp] at hc
      refine H.go 200 [(4, [(4, .cell (pth k[i])), (5, .res (.ret (.b false)))])] [(9, true), (16, false)] [] rfl ?_ ?_
      · repeat' (first | exact AllP.n | exact trivial | exact DrawB.mk (by decide +kernel) | exact fun _ => rfl | refine AllP.c ?_ ?_)
        all_goals (try dsimp only)
        all_goals try first | exact rfl | exact ⟨trivial, rfl⟩ | exact ⟨trivial, bts_t rfl⟩ | omega | exact at_tr _ _ (by omega) | exact at_s _ _ (by omega) | exact dt (by omega) | exact df (by omega) | exact decide_eq_true (by omega) | exact decide_eq_false (by omega) | exact bts_t (by assumption) | exact bts_f (by assumption) | (rw [bts_t (by assumption)]; rfl) | (rw [bts_f (by assumption)]; rfl) | (unfold InR; omega) | exact ha | exact hc
      exact loopN (i + 1) ⟨hi, fun j hj h => if hlt : j < i then h2 j hj hlt else by obtain rfl : j = i := by omega
                                                                                     exact hp⟩ (by show k.length - (i + 1) < k.length - i; omega) fun a w s => s.ren hE [] (by repeat' (first | exact trivial | exact rfl | apply And.intro)) (by repeat' (first | exact trivial | exact rfl | apply And.intro)) rfl
  · obtain rfl : i = k.length := by omega
    refine H.go 200 [] [(9, false)] [] rfl ?_ ?_
    · repeat' (first | exact AllP.n | exact trivial | exact DrawB.mk (by decide +kernel) | exact fun _ => rfl | refine AllP.c ?_ ?_)
      all_goals (try dsimp only)
      all_goals try first | exact rfl | exact ⟨trivial, rfl⟩ | exact ⟨trivial, bts_t rfl⟩ | omega | exact at_tr _ _ (by omega) | exact at_s _ _ (by omega) | exact dt (by omega) | exact df (by omega) | exact decide_eq_true (by omega) | exact decide_eq_false (by omega) | exact bts_t (by assumption) | exact bts_f (by assumption) | (rw [bts_t (by assumption)]; rfl) | (rw [bts_f (by assumption)]; rfl) | (unfold InR; omega)
    refine H.go 200 [] [] [] rfl ?_ ?_
    · repeat' (first | exact AllP.n | exact trivial | exact DrawB.mk (by decide +kernel) | exact fun _ => rfl | refine AllP.c ?_ ?_)
      all_goals (try dsimp only)
      all_goals try first | exact rfl | exact ⟨trivial, rfl⟩ | exact ⟨trivial, bts_t rfl⟩ | omega | exact at_tr _ _ (by omega) | exact at_s _ _ (by omega) | exact dt (by omega) | exact df (by omega) | exact decide_eq_true (by omega) | exact decide_eq_false (by omega) | exact bts_t (by assumption) | exact bts_f (by assumption) | (rw [bts_t (by assumption)]; rfl) | (rw [bts_f (by assumption)]; rfl) | (unfold InR; omega)
    refine ⟨_, _, rfl, ?_, ?_⟩
    · repeat' (first | exact AllP.n | exact trivial | exact DrawB.mk (by decide +kernel) | exact fun _ => rfl | refine AllP.c ?_ ?_)
      all_goals (try dsimp only)
      all_goals try first | exact rfl | exact ⟨trivial, rfl⟩ | exact ⟨trivial, bts_t rfl⟩ | omega | exact at_tr _ _ (by omega) | exact at_s _ _ (by omega) | exact dt (by omega) | exact df (by omega) | exact decide_eq_true (by omega) | exact decide_eq_false (by omega) | exact bts_t (by assumption) | exact bts_f (by assumption) | (rw [bts_t (by assumption)]; rfl) | (rw [bts_f (by assumption)]; rfl) | (unfold InR; omega)
    · rw [fidx_no (fun j hj => h2 j hj hj)]; exact .refl _
theorem pfun_any (p : List ByteArray → Bool) (F : FuncId) (k : List (List ByteArray)) (hk : k.length < 2^40) (hf : ∀ (i : Nat) (h : i < k.length), Pure Go.Proofs.Tryz.prog F [pth k[i]] (.ret (.b (p k[i])))) :
    Pure Go.Proofs.Tryz.prog 88 [.sl 1 k.length (k.map pth), .fn F []] (.ret (.b (k.any p))) := by
  have hi := pfun_index p F k hk hf
  refine Pure.body tys_valid (fn := Go.Proofs.Tryz.f88) (by kernel_rfl) rfl (by kernel_rfl) rfl ?_
  intro w ok giv E0 _ hE
  refine H.go 200 [(1, [(2, .res (.ret (.i .i64 (fidx p k))))])] [] [] rfl ?_ ?_
  · repeat' (first | exact AllP.n | exact trivial | exact DrawB.mk (by decide +kernel) | exact fun _ => rfl | refine AllP.c ?_ ?_)
    all_goals (try dsimp only)
    all_goals try first | exact rfl | exact ⟨trivial, rfl⟩ | exact ⟨trivial, bts_t rfl⟩ | omega | exact at_tr _ _ (by omega) | exact at_s _ _ (by omega) | exact dt (by omega) | exact df (by omega) | exact decide_eq_true (by omega) | exact decide_eq_false (by omega) | exact bts_t (by assumption) | exact bts_f (by assumption) | (rw [bts_t (by assumption)]; rfl) | (rw [bts_f (by assumption)]; rfl) | (unfold InR; omega) | exact hi
  refine ⟨_, _, rfl, ?_, ?_⟩
  · repeat' (first | exact AllP.n | exact trivial | exact DrawB.mk (by decide +kernel) | exact fun _ => rfl | refine AllP.c ?_ ?_)
    all_goals (try dsimp only)
    all_goals try first | exact rfl | exact ⟨trivial, rfl⟩ | exact ⟨trivial, bts_t rfl⟩ | omega | exact at_tr _ _ (by omega) | exact at_s _ _ (by omega) | exact dt (by omega) | exact df (by omega) | exact decide_eq_true (by omega) | exact decide_eq_false (by omega) | exact bts_t (by assumption) | exact bts_f (by assumption) | (rw [bts_t (by assumption)]; rfl) | (rw [bts_f (by assumption)]; rfl) | (unfold InR; omega)
  · rw [← fidx_any]; exact .refl _

/-- May this path not be? -/
def badP (p : List ByteArray) : Bool := (p.length == 0) || decide (p.length > 63) || p.any (fun n => !nameB n)
theorem notName_ct (s : ByteArray) (hs : s.size < 2^40) : Pure Go.Proofs.Tryz.prog 90 [.s s] (.ret (.b (!nameB s))) := by
  have h := name_ct s hs
  refine Pure.body tys_valid (fn := Go.Proofs.Tryz.f90) (by kernel_rfl) rfl (by kernel_rfl) rfl ?_
  intro w ok giv E0 _ hE
  refine H.go 200 [(1, [(1, .res (.ret (.b (nameB s))))])] [] [] rfl ?_ ?_
  · repeat' (first | exact AllP.n | exact trivial | exact DrawB.mk (by decide +kernel) | exact fun _ => rfl | refine AllP.c ?_ ?_)
    all_goals (try dsimp only)
    all_goals try first | exact rfl | exact ⟨trivial, rfl⟩ | exact ⟨trivial, bts_t rfl⟩ | omega | exact at_tr _ _ (by omega) | exact at_s _ _ (by omega) | exact dt (by omega) | exact df (by omega) | exact decide_eq_true (by omega) | exact decide_eq_false (by omega) | exact bts_t (by assumption) | exact bts_f (by assumption) | (rw [bts_t (by assumption)]; rfl) | (rw [bts_f (by assumption)]; rfl) | (unfold InR; omega) | exact h
  refine ⟨_, _, rfl, ?_, ?_⟩
  · repeat' (first | exact AllP.n | exact trivial | exact DrawB.mk (by decide +kernel) | exact fun _ => rfl | refine AllP.c ?_ ?_)
    all_goals (try dsimp only)
    all_goals try first | exact rfl | exact ⟨trivial, rfl⟩ | exact ⟨trivial, bts_t rfl⟩ | omega | exact at_tr _ _ (by omega) | exact at_s _ _ (by omega) | exact dt (by omega) | exact df (by omega) | exact decide_eq_true (by omega) | exact decide_eq_false (by omega) | exact bts_t (by assumption) | exact bts_f (by assumption) | (rw [bts_t (by assumption)]; rfl) | (rw [bts_f (by assumption)]; rfl) | (unfold InR; omega)
  · exact .refl _

def SmallP (p : List ByteArray) : Prop := p.length < 2^40 ∧ ∀ s ∈ p, s.size < 2^40
theorem badP_ct (p : List ByteArray) (hp : SmallP p) : Pure Go.Proofs.Tryz.prog 89 [pth p] (.ret (.b (badP p))) := by
  have h := sfun_any (fun n => !nameB n) 90 p hp.1 (fun i hi => notName_ct p[i] (hp.2 _ (List.getElem_mem _)))
  unfold pth
  refine Pure.body tys_valid (fn := Go.Proofs.Tryz.f89) (by kernel_rfl) rfl (by kernel_rfl) rfl ?_
  intro w ok giv E0 _ hE
  by_cases h0 : p.length = 0
  · have e : badP p = true := by simp [badP, h0]
    rw [e]
    refine H.go 200 [(1, [(2, .gd true)])] [] [] rfl ?_ ?_
    · repeat' (first | exact AllP.n | exact trivial | exact DrawB.mk (by decide +kernel) | exact fun _ => rfl | refine AllP.c ?_ ?_)
      all_goals (try dsimp only)
      all_goals try first | exact rfl | exact ⟨trivial, rfl⟩ | exact ⟨trivial, bts_t rfl⟩ | omega | exact at_tr _ _ (by omega) | exact at_s _ _ (by omega) | exact dt (by omega) | exact df (by omega) | exact decide_eq_true (by omega) | exact decide_eq_false (by omega) | exact bts_t (by assumption) | exact bts_f (by assumption) | (rw [bts_t (by assumption)]; rfl) | (rw [bts_f (by assumption)]; rfl) | (unfold InR; omega) | (refine ⟨trivial, ?_⟩; rw [h0]; rfl)
    refine ⟨_, _, rfl, ?_, ?_⟩
    · repeat' (first | exact AllP.n | exact trivial | exact DrawB.mk (by decide +kernel) | exact fun _ => rfl | refine AllP.c ?_ ?_)
      all_goals (try dsimp only)
      all_goals try first | exact rfl | exact ⟨trivial, rfl⟩ | exact ⟨trivial, bts_t rfl⟩ | omega | exact at_tr _ _ (by omega) | exact at_s _ _ (by omega) | exact dt (by omega) | exact df (by omega) | exact decide_eq_true (by omega) | exact decide_eq_false (by omega) | exact bts_t (by assumption) | exact bts_f (by assumption) | (rw [bts_t (by assumption)]; rfl) | (rw [bts_f (by assumption)]; rfl) | (unfold InR; omega)
    · exact .refl _
  · by_cases h1 : p.length > 63
    · have e : badP p = true := by simp [badP, h1]
      rw [e]
      refine H.go 200 [(1, [(2, .gd false), (6, .gd true)])] [] [] rfl ?_ ?_
      · repeat' (first | exact AllP.n | exact trivial | exact DrawB.mk (by decide +kernel) | exact fun _ => rfl | refine AllP.c ?_ ?_)
        all_goals (try dsimp only)
        all_goals try first | exact rfl | exact ⟨trivial, rfl⟩ | exact ⟨trivial, bts_t rfl⟩ | omega | exact at_tr _ _ (by omega) | exact at_s _ _ (by omega) | exact dt (by omega) | exact df (by omega) | exact decide_eq_true (by omega) | exact decide_eq_false (by omega) | exact bts_t (by assumption) | exact bts_f (by assumption) | (rw [bts_t (by assumption)]; rfl) | (rw [bts_f (by assumption)]; rfl) | (unfold InR; omega) | (refine ⟨trivial, beq_false_of_ne ?_⟩; omega)
      refine ⟨_, _, rfl, ?_, ?_⟩
      · repeat' (first | exact AllP.n | exact trivial | exact DrawB.mk (by decide +kernel) | exact fun _ => rfl | refine AllP.c ?_ ?_)
        all_goals (try dsimp only)
        all_goals try first | exact rfl | exact ⟨trivial, rfl⟩ | exact ⟨trivial, bts_t rfl⟩ | omega | exact at_tr _ _ (by omega) | exact at_s _ _ (by omega) | exact dt (by omega) | exact df (by omega) | exact decide_eq_true (by omega) | exact decide_eq_false (by omega) | exact bts_t (by assumption) | exact bts_f (by assumption) | (rw [bts_t (by assumption)]; rfl) | (rw [bts_f (by assumption)]; rfl) | (unfold InR; omega)
      · exact .refl _
    · have e : badP p = p.any (fun n => !nameB n) := by unfold badP; rw [beq_false_of_ne h0, decide_eq_false h1]; rfl
      rw [e]
      refine H.go 200 [(1, [(2, .gd false), (6, .gd false), (10, .res (.ret (.b (p.any (fun n => !nameB n)))))])] [] [] rfl ?_ ?_
      · repeat' (first | exact AllP.n | exact trivial | exact DrawB.mk (by decide +kernel) | exact fun _ => rfl | refine AllP.c ?_ ?_)
        all_goals (try dsimp only)
        all_goals try first | exact rfl | exact ⟨trivial, rfl⟩ | exact ⟨trivial, bts_t rfl⟩ | omega | exact at_tr _ _ (by omega) | exact at_s _ _ (by omega) | exact dt (by omega) | exact df (by omega) | exact decide_eq_true (by omega) | exact decide_eq_false (by omega) | exact bts_t (by assumption) | exact bts_f (by assumption) | (rw [bts_t (by assumption)]; rfl) | (rw [bts_f (by assumption)]; rfl) | (unfold InR; omega) | (refine ⟨trivial, beq_false_of_ne ?_⟩; omega) | exact h
      refine ⟨_, _, rfl, ?_, ?_⟩
      · repeat' (first | exact AllP.n | exact trivial | exact DrawB.mk (by decide +kernel) | exact fun _ => rfl | refine AllP.c ?_ ?_)
        all_goals (try dsimp only)
        all_goals try first | exact rfl | exact ⟨trivial, rfl⟩ | exact ⟨trivial, bts_t rfl⟩ | omega | exact at_tr _ _ (by omega) | exact at_s _ _ (by omega) | exact dt (by omega) | exact df (by omega) | exact decide_eq_true (by omega) | exact decide_eq_false (by omega) | exact bts_t (by assumption) | exact bts_f (by assumption) | (rw [bts_t (by assumption)]; rfl) | (rw [bts_f (by assumption)]; rfl) | (unfold InR; omega)
      · exact .refl _

def maskB (l : List (List ByteArray)) : Bool := decide (l.length ≤ 60) && !l.any badP
theorem mask_ct (l : List (List ByteArray)) (hl : l.length < 2^40) (hp : ∀ p ∈ l, SmallP p) : Pure Go.Proofs.Tryz.prog 42 [.sl 1 l.length (l.map pth)] (.ret (.b (maskB l))) := by
  have h := pfun_any badP 89 l hl (fun i hi => badP_ct l[i] (hp _ (List.getElem_mem _)))
  refine Pure.body tys_valid (fn := Go.Proofs.Tryz.f42) (by kernel_rfl) rfl (by kernel_rfl) rfl ?_
  intro w ok giv E0 _ hE
  by_cases h1 : l.length ≤ 60
  · have e : maskB l = !l.any badP := by simp [maskB, h1]
    rw [e]
    refine H.go 200 [(1, [(2, .gd true), (5, .res (.ret (.b (l.any badP))))])] [] [] rfl ?_ ?_
    · repeat' (first | exact AllP.n | exact trivial | exact DrawB.mk (by decide +kernel) | exact fun _ => rfl | refine AllP.c ?_ ?_)
      all_goals (try dsimp only)
      all_goals try first | exact rfl | exact ⟨trivial, rfl⟩ | exact ⟨trivial, bts_t rfl⟩ | omega | exact at_tr _ _ (by omega) | exact at_s _ _ (by omega) | exact dt (by omega) | exact df (by omega) | exact decide_eq_true (by omega) | exact decide_eq_false (by omega) | exact bts_t (by assumption) | exact bts_f (by assumption) | (rw [bts_t (by assumption)]; rfl) | (rw [bts_f (by assumption)]; rfl) | (unfold InR; omega) | exact h
    refine ⟨_, _, rfl, ?_, ?_⟩
    · repeat' (first | exact AllP.n | exact trivial | exact DrawB.mk (by decide +kernel) | exact fun _ => rfl | refine AllP.c ?_ ?_)
      all_goals (try dsimp only)
      all_goals try first | exact rfl | exact ⟨trivial, rfl⟩ | exact ⟨trivial, bts_t rfl⟩ | omega | exact at_tr _ _ (by omega) | exact at_s _ _ (by omega) | exact dt (by omega) | exact df (by omega) | exact decide_eq_true (by omega) | exact decide_eq_false (by omega) | exact bts_t (by assumption) | exact bts_f (by assumption) | (rw [bts_t (by assumption)]; rfl) | (rw [bts_f (by assumption)]; rfl) | (unfold InR; omega)
    · exact .refl _
  · have e : maskB l = false := by simp [maskB, h1]
    rw [e]
    refine H.go 200 [(1, [(2, .gd false)])] [] [] rfl ?_ ?_
    · repeat' (first | exact AllP.n | exact trivial | exact DrawB.mk (by decide +kernel) | exact fun _ => rfl | refine AllP.c ?_ ?_)
      all_goals (try dsimp only)
      all_goals try first | exact rfl | exact ⟨trivial, rfl⟩ | exact ⟨trivial, bts_t rfl⟩ | omega | exact at_tr _ _ (by omega) | exact at_s _ _ (by omega) | exact dt (by omega) | exact df (by omega) | exact decide_eq_true (by omega) | exact decide_eq_false (by omega) | exact bts_t (by assumption) | exact bts_f (by assumption) | (rw [bts_t (by assumption)]; rfl) | (rw [bts_f (by assumption)]; rfl) | (unfold InR; omega)
    refine ⟨_, _, rfl, ?_, ?_⟩
    · repeat' (first | exact AllP.n | exact trivial | exact DrawB.mk (by decide +kernel) | exact fun _ => rfl | refine AllP.c ?_ ?_)
      all_goals (try dsimp only)
      all_goals try first | exact rfl | exact ⟨trivial, rfl⟩ | exact ⟨trivial, bts_t rfl⟩ | omega | exact at_tr _ _ (by omega) | exact at_s _ _ (by omega) | exact dt (by omega) | exact df (by omega) | exact decide_eq_true (by omega) | exact decide_eq_false (by omega) | exact bts_t (by assumption) | exact bts_f (by assumption) | (rw [bts_t (by assumption)]; rfl) | (rw [bts_f (by assumption)]; rfl) | (unfold InR; omega)
    · exact .refl _
end Go.Px
end

section
namespace Go.Px
open Go.RowKit

structure OpT where
  op : Int
  path : List ByteArray
  frm : List ByteArray
  v : Tr
structure Pch where
  lang : Int
  ops : List OpT
  val : Tr
  mask : List (List ByteArray)
def encO (x : OpT) : List D := [.i .i64 x.op, pth x.path, pth x.frm, .i .i64 x.v.kind, .b x.v.b, .b x.v.n.neg, .sl 1 x.v.n.m.length (x.v.n.m.map u32), .i .i64 x.v.n.e, .s x.v.s, .sl 1 x.v.k.length (x.v.k.map D.s), .sl 8 x.v.v.length (encs x.v.v)]
def encOs (l : List OpT) : List D := l.flatMap encO
def encP (p : Pch) : List D := [.i .i64 p.lang, .sl 11 p.ops.length (encOs p.ops), .i .i64 p.val.kind, .b p.val.b, .b p.val.n.neg, .sl 1 p.val.n.m.length (p.val.n.m.map u32), .i .i64 p.val.n.e, .s p.val.s, .sl 1 p.val.k.length (p.val.k.map D.s), .sl 8 p.val.v.length (encs p.val.v),
  .sl 1 p.mask.length (p.mask.map pth)]
def pch0 : Pch := ⟨0, [], nul, []⟩
theorem wk_pch0 : Wk (.ag [.i .i64 0, .nils, .i .i64 0, .b false, .b false, .nils, .i .i64 0, .s ⟨#[]⟩, .nils, .nils, .nils]) (.ag (encP pch0)) :=
  .ag (.cons (.refl _) (.cons (.nils 11) (.cons (.refl _) (.cons (.refl _) (.cons (.refl _) (.cons (.nils 1) (.cons (.refl _) (.cons (.refl _) (.cons (.nils 1) (.cons (.nils 8) (.cons (.nils 1) .nil)))))))))))
theorem wk_pmask (l : List (ByteArray × Tr)) (m : List (List ByteArray)) : Wk (.ag [.i .i64 3, .nils, .i .i64 7, .b false, .b false, .nils, .i .i64 0, .s ⟨#[]⟩, .sl 1 l.length (l.map fun p => D.s p.1), .sl 8 l.length (encs (l.map (·.2))), .sl 1 m.length (m.map pth)]) (.ag (encP ⟨3, [], obj l, m⟩)) := by
  unfold encP
  simp only [obj, Tr.kind, Tr.b, Tr.n, Tr.s, Tr.k, Tr.v, List.map_nil, List.length_nil, List.length_map, List.map_map]
  exact .ag (.cons (.refl _) (.cons (.nils 11) (.cons (.refl _) (.cons (.refl _) (.cons (.refl _) (.cons (.nils 1) (.cons (.refl _) (.cons (.refl _) (.cons (.refl _) (.cons (.refl _) (.cons (.refl _) .nil)))))))))))
theorem wk_pmask0 : Wk (.ag [.i .i64 3, .nils, .i .i64 7, .b false, .b false, .nils, .i .i64 0, .s ⟨#[]⟩, .nils, .nils, .nils]) (.ag (encP ⟨3, [], obj [], []⟩)) :=
  .ag (.cons (.refl _) (.cons (.nils 11) (.cons (.refl _) (.cons (.refl _) (.cons (.refl _) (.cons (.nils 1) (.cons (.refl _) (.cons (.refl _) (.cons (.nils 1) (.cons (.nils 8) (.cons (.nils 1) .nil)))))))))))
noncomputable def dnames (a b : Tr) : List ByteArray := (nmS (objOf a) b).filter fun x => !alike (objOf a) b x
def withV (b : Tr) (l : List ByteArray) : List (ByteArray × Tr) := l.filterMap fun x => (memb b x).map fun v => (x, v)
open Classical in
noncomputable def maskedS (a b : Tr) : Pch × Bool :=
  if a = b then (⟨3, [], obj [], []⟩, true) else if b.kind ≠ 7 ∨ (a.kind ≠ 7 ∧ b.k.length = 0) then (pch0, false)
  else (⟨3, [], obj (withV b (dnames a b)), (dnames a b).map fun x => [x]⟩, maskB ((dnames a b).map fun x => [x]))
theorem objOf_VT {t : Tr} (h : VT t) : VT (objOf t) := by
  unfold objOf
  split
  · exact h
  · exact .obj [] [] ⟨fun i h => absurd h (Nat.not_lt_zero _), fun i _ h => absurd h (Nat.not_lt_zero _), Nat.zero_le _⟩ rfl (fun t h => by simp at h)
theorem len300 {t : Tr} (h : VT t) : t.k.length ≤ 300 ∧ t.v.length ≤ 300 := by
  refine ⟨?_, h.len⟩
  cases h with
  | obj k v hk hl h => exact hk.2.2
  | _ => simp [Tr.k]
theorem nm_len (a b : Tr) (ha : VT a) (hb : VT b) : (nmS a b).length ≤ 600 := by
  have h1 := dd_len (sortS (a.k ++ b.k))
  rw [sortS_len, List.length_append] at h1
  have h2 := (len300 ha).1
  have h3 := (len300 hb).1
  unfold nmS
  omega
structure MX where
  i : Nat
  n : Nat
  ck : List D
  f : Nat
  cv : List D
  g : Nat
  m : Nat
  cm : List D
  e : Nat
def MI (a b : Tr) (y : MX) : Prop :=
  y.i ≤ (nmS (objOf a) b).length ∧ ∃ l : List ByteArray, l = ((nmS (objOf a) b).take y.i).filter (fun x => !alike (objOf a) b x) ∧ y.n = (withV b l).length ∧ y.ck = (withV b l).map (fun p => D.s p.1) ∧ y.cv = encs ((withV b l).map (·.2)) ∧ y.m = l.length ∧ y.cm = (l.map fun x => [x]).map pth
def MS (a b : Tr) : MX → St
  | ⟨i, n, ck, f, cv, g, m, cm, e⟩ => ⟨[(2, .oa 0 0), (3, .oa 1 0), (4, .oa 2 0), (6, .oa 3 0), (41, .sl 1 (nmS (objOf a) b).length ((nmS (objOf a) b).map D.s)), (42, .i .i64 (nmS (objOf a) b).length), (43, .i .i64 i)],
   [(0, ⟨30, 1, enc (objOf a), 0, true, false, true⟩), (1, ⟨30, 1, enc b, 0, true, false, true⟩), (2, ⟨48, 1, [.i .i64 0, .nils, .i .i64 0, .b false, .b false, .nils, .i .i64 0, .s ⟨#[]⟩, .nils, .nils, .nils], 0, true, false, true⟩),
    (3, ⟨48, 1, [.i .i64 3, .nils, .i .i64 7, .b false, .b false, .nils, .i .i64 0, .s ⟨#[]⟩, .os 20 0 n, .os 21 0 n, .os 22 0 m], 0, true, false, true⟩),
    (20, ⟨9, 1, ck, f, true, false, false⟩), (21, ⟨30, 8, cv, g, true, false, false⟩), (22, ⟨27, 1, cm, e, true, false, false⟩)], 0⟩
theorem MI.lens {a b : Tr} {i n f g m e : Nat} {ck cv cm : List D} (h : MI a b ⟨i, n, ck, f, cv, g, m, cm, e⟩) : ck.length = n ∧ cv.length = n * 8 ∧ cm.length = m ∧ n ≤ i ∧ m ≤ i := by
  obtain ⟨h1, l, h2, h3, h4, h5, h6, h7⟩ := h
  simp only at h1 h2 h3 h4 h5 h6 h7
  have hl : l.length ≤ i := by
    rw [h2]
    exact Nat.le_trans (List.length_filter_le _ _) (by simp; omega)
  have hw : (withV b l).length ≤ l.length := List.length_filterMap_le _ _
  exact ⟨by rw [h4, h3]; simp, by rw [h5, encs_len, h3]; simp, by rw [h7, h6]; simp, by omega, by omega⟩
theorem MI.skip {a b : Tr} {i n f g m e : Nat} {ck cv cm : List D} (h : MI a b ⟨i, n, ck, f, cv, g, m, cm, e⟩) (hi : i < (nmS (objOf a) b).length) (hal : alike (objOf a) b (nmS (objOf a) b)[i] = true) : MI a b ⟨i + 1, n, ck, f, cv, g, m, cm, e⟩ := by
  obtain ⟨h1, l, h2, h3, h4, h5, h6, h7⟩ := h
  simp only at h1 h2 h3 h4 h5 h6 h7
  refine ⟨hi, l, ?_, h3, h4, h5, h6, h7⟩
  rw [List.take_succ_eq_append_getElem hi, List.filter_append, ← h2]
  simp [hal]
theorem MI.less {a b : Tr} {i n f g m e e' : Nat} {ck cv cm : List D} (h : MI a b ⟨i, n, ck, f, cv, g, m, cm, e⟩) (hi : i < (nmS (objOf a) b).length) (hal : alike (objOf a) b (nmS (objOf a) b)[i] = false) (hm : memb b (nmS (objOf a) b)[i] = none) :
    MI a b ⟨i + 1, n, ck, f, cv, g, m + 1, cm ++ [pth [(nmS (objOf a) b)[i]]], e'⟩ := by
  obtain ⟨h1, l, h2, h3, h4, h5, h6, h7⟩ := h
  simp only at h1 h2 h3 h4 h5 h6 h7
  have hw : withV b (l ++ [(nmS (objOf a) b)[i]]) = withV b l := by simp [withV, hm]
  refine ⟨hi, l ++ [(nmS (objOf a) b)[i]], ?_, by rw [hw]; exact h3, by rw [hw]; exact h4, by rw [hw]; exact h5, by simp [h6], by simp [h7]⟩
  rw [List.take_succ_eq_append_getElem hi, List.filter_append, ← h2]
  simp [hal]
theorem MI.more {a b v : Tr} {i n f g m e e' f' g' : Nat} {ck cv cm : List D} (h : MI a b ⟨i, n, ck, f, cv, g, m, cm, e⟩) (hi : i < (nmS (objOf a) b).length) (hal : alike (objOf a) b (nmS (objOf a) b)[i] = false) (hm : memb b (nmS (objOf a) b)[i] = some v) :
    MI a b ⟨i + 1, n + 1, ck ++ [D.s (nmS (objOf a) b)[i]], f', cv ++ enc v, g', m + 1, cm ++ [pth [(nmS (objOf a) b)[i]]], e'⟩ := by
  obtain ⟨h1, l, h2, h3, h4, h5, h6, h7⟩ := h
  simp only at h1 h2 h3 h4 h5 h6 h7
  have hw : withV b (l ++ [(nmS (objOf a) b)[i]]) = withV b l ++ [((nmS (objOf a) b)[i], v)] := by simp [withV, hm]
  refine ⟨hi, l ++ [(nmS (objOf a) b)[i]], ?_, by rw [hw]; simp [h3], by rw [hw]; simp [h4], by rw [hw]; simp [h5, encs_append, encs_cons, encs_nil], by simp [h6], by simp [h7]⟩
  rw [List.take_succ_eq_append_getElem hi, List.filter_append, ← h2]
  simp [hal]
abbrev zc : List D := [.i .i64 0, .b false, .b false, .nils, .i .i64 0, .s ⟨#[]⟩, .nils, .nils]
theorem putV_eq {cv : List D} {n : Nat} {v : Tr} (h : cv.length = n * 8) : (cv ++ zc).take (mulN (addN 0 (n : Int).toNat) 8) ++ enc v ++ (cv ++ zc).drop (mulN (addN 0 (n : Int).toNat) 8 + (enc v).length) = cv ++ enc v := by
  have e : mulN (addN 0 (n : Int).toNat) 8 = cv.length := by rw [mulN_eq, addN_eq, h]; simp
  rw [e, List.take_left', enc_len, List.drop_eq_nil_of_le (by simp)]
  · simp
  · rfl
theorem mem_dd : ∀ {l : List ByteArray} {x : ByteArray}, x ∈ dd l → x ∈ l
  | [], x, h => h
  | [_], x, h => h
  | a :: b :: l, x, h => by
    simp only [dd] at h
    split at h
    · exact List.mem_cons_of_mem _ (mem_dd h)
    · rcases List.mem_cons.1 h with rfl | h
      · exact List.mem_cons_self
      · exact List.mem_cons_of_mem _ (mem_dd h)
theorem mem_sortS {l : List ByteArray} {x : ByteArray} : x ∈ sortS l ↔ x ∈ l := by
  unfold sortS sortL
  constructor
  · intro h
    obtain ⟨y, hy, rfl⟩ := List.mem_map.1 h
    rw [List.mem_mergeSort] at hy
    obtain ⟨z, hz, rfl⟩ := List.mem_map.1 hy
    rw [l2b_b2l]; exact hz
  · intro h
    exact List.mem_map.2 ⟨b2l x, by rw [List.mem_mergeSort]; exact List.mem_map.2 ⟨x, h, rfl⟩, l2b_b2l x⟩
theorem key_small {t : Tr} (h : VT t) {x : ByteArray} (hx : x ∈ t.k) : TextOK x := by
  cases h with
  | obj k v hk hl h =>
    obtain ⟨i, hi, rfl⟩ := List.getElem_of_mem hx
    exact hk.1 i hi
  | _ => simp [Tr.k] at hx
theorem nm_small {a b : Tr} (ha : VT a) (hb : VT b) {x : ByteArray} (h : x ∈ nmS a b) : x.size ≤ 2000 := by
  have := mem_sortS.1 (mem_dd h)
  rcases List.mem_append.1 this with h | h
  · exact (key_small ha h).1
  · exact (key_small hb h).1
def subH (h2 : List (Nat × Root)) : List (Nat × Root) → Prop
  | [] => True
  | (r, R) :: l => get h2 r = some R ∧ subH h2 l
theorem subH_get {h2 : List (Nat × Root)} : ∀ {l : List (Nat × Root)}, subH h2 l → ∀ r R, get l r = some R → get h2 r = some R
  | [], _, r, R, g => by simp [get] at g
  | (q, Q) :: l, k, r, R, g => by
    rw [get_cons] at g
    split at g
    · rename_i e; subst e; cases g; exact k.1
    · exact subH_get k.2 r R g
theorem SameH.of {h1 h2 : List (Nat × Root)} (a : subH h2 h1) (b : subH h1 h2) : SameH h1 h2 := by
  intro r
  cases e1 : get h1 r with
  | some R => rw [subH_get a r R e1]
  | none =>
    cases e2 : get h2 r with
    | none => rfl
    | some R => rw [subH_get b r R e2] at e1; cases e1
set_option maxHeartbeats 2000000 in
set_option maxRecDepth 100000 in
theorem masked_ct (a b : Tr) (ha : VT a) (hb : VT b) : Pure Go.Proofs.Tryz.prog 63 [.ag (enc a), .ag (enc b)] (.ret (.tup [.ag (encP (maskedS a b).1), .b (maskedS a b).2])) := by
  have hs := same_ct a b (.inr ha) (.inr hb)
  refine Pure.body tys_valid (fn := Go.Proofs.Tryz.f63) (by kernel_rfl) rfl (by kernel_rfl) rfl ?_
  intro w ok giv E0 _ hE
  by_cases he : a = b
  · rw [teq_t he] at hs
    have hm : maskedS a b = (⟨3, [], obj [], []⟩, true) := by unfold maskedS; rw [if_pos he]
    rw [hm]
    refine H.go 200 [(2, [(2, .res (.ret (.b true)))])] [(18, true)] dr63 rfl ?_ ?_
    · repeat' (first | exact AllP.n | exact trivial | exact DrawB.mk (by decide +kernel) | exact fun _ => rfl | refine AllP.c ?_ ?_)
      all_goals (try dsimp only)
      all_goals try first | exact rfl | exact ⟨trivial, rfl⟩ | exact ⟨trivial, bts_t rfl⟩ | omega | exact at_tr _ _ (by omega) | exact at_s _ _ (by omega) | exact dt (by omega) | exact df (by omega) | exact decide_eq_true (by omega) | exact decide_eq_false (by omega) | exact bts_t (by assumption) | exact bts_f (by assumption) | (rw [bts_t (by assumption)]; rfl) | (rw [bts_f (by assumption)]; rfl) | (unfold InR; omega) | exact hs
    refine ⟨_, _, rfl, ?_, ?_⟩
    · repeat' (first | exact AllP.n | exact trivial | exact DrawB.mk (by decide +kernel) | exact fun _ => rfl | refine AllP.c ?_ ?_)
      all_goals (try dsimp only)
      all_goals try first | exact rfl | exact ⟨trivial, rfl⟩ | exact ⟨trivial, bts_t rfl⟩ | omega | exact at_tr _ _ (by omega) | exact at_s _ _ (by omega) | exact dt (by omega) | exact df (by omega) | exact decide_eq_true (by omega) | exact decide_eq_false (by omega) | exact bts_t (by assumption) | exact bts_f (by assumption) | (rw [bts_t (by assumption)]; rfl) | (rw [bts_f (by assumption)]; rfl) | (unfold InR; omega)
    · exact .tup (.cons wk_pmask0 (.cons (.refl _) .nil))
  · rw [teq_f he] at hs
    by_cases hk : b.kind ≠ 7 ∨ (a.kind ≠ 7 ∧ b.k.length = 0)
    · have hm : maskedS a b = (pch0, false) := by unfold maskedS; rw [if_neg he, if_pos hk]
      rw [hm]
      by_cases h7 : b.kind = 7
      · obtain ⟨h8, h9⟩ : a.kind ≠ 7 ∧ b.k.length = 0 := hk.resolve_left (fun h => h h7)
        have e1 : (b.kind == 7) = true := by rw [h7]; rfl
        have e2 : (a.kind == 7) = false := beq_false_of_ne h8
        refine H.go 200 [(2, [(2, .res (.ret (.b false)))]), (5, [(2, .gd false), (5, .gd true), (10, .gd true)])] [(18, false), (35, true)] dr63 rfl ?_ ?_
        · repeat' (first | exact AllP.n | exact trivial | exact DrawB.mk (by decide +kernel) | exact fun _ => rfl | refine AllP.c ?_ ?_)
          all_goals (try dsimp only)
          all_goals try first | exact rfl | exact ⟨trivial, rfl⟩ | exact ⟨trivial, bts_t rfl⟩ | omega | exact at_tr _ _ (by omega) | exact at_s _ _ (by omega) | exact dt (by omega) | exact df (by omega) | exact decide_eq_true (by omega) | exact decide_eq_false (by omega) | exact bts_t (by assumption) | exact bts_f (by assumption) | (rw [bts_t (by assumption)]; rfl) | (rw [bts_f (by assumption)]; rfl) | (unfold InR; omega) | exact hs | (refine ⟨trivial, ?_⟩; simp only [bne, e1]; rfl) | (refine ⟨trivial, ?_⟩; simp only [e2]; rfl) | (refine ⟨trivial, ?_⟩; rw [h9]; rfl)
        refine ⟨_, _, rfl, ?_, ?_⟩
        · repeat' (first | exact AllP.n | exact trivial | exact DrawB.mk (by decide +kernel) | exact fun _ => rfl | refine AllP.c ?_ ?_)
          all_goals (try dsimp only)
          all_goals try first | exact rfl | exact ⟨trivial, rfl⟩ | exact ⟨trivial, bts_t rfl⟩ | omega | exact at_tr _ _ (by omega) | exact at_s _ _ (by omega) | exact dt (by omega) | exact df (by omega) | exact decide_eq_true (by omega) | exact decide_eq_false (by omega) | exact bts_t (by assumption) | exact bts_f (by assumption) | (rw [bts_t (by assumption)]; rfl) | (rw [bts_f (by assumption)]; rfl) | (unfold InR; omega)
        · exact .tup (.cons wk_pch0 (.cons (.refl _) .nil))
      · have e1 : (b.kind == 7) = false := beq_false_of_ne h7
        refine H.go 200 [(2, [(2, .res (.ret (.b false)))]), (5, [(2, .gd true)])] [(18, false), (35, true)] dr63 rfl ?_ ?_
        · repeat' (first | exact AllP.n | exact trivial | exact DrawB.mk (by decide +kernel) | exact fun _ => rfl | refine AllP.c ?_ ?_)
          all_goals (try dsimp only)
          all_goals try first | exact rfl | exact ⟨trivial, rfl⟩ | exact ⟨trivial, bts_t rfl⟩ | omega | exact at_tr _ _ (by omega) | exact at_s _ _ (by omega) | exact dt (by omega) | exact df (by omega) | exact decide_eq_true (by omega) | exact decide_eq_false (by omega) | exact bts_t (by assumption) | exact bts_f (by assumption) | (rw [bts_t (by assumption)]; rfl) | (rw [bts_f (by assumption)]; rfl) | (unfold InR; omega) | exact hs | (refine ⟨trivial, ?_⟩; simp only [bne, e1]; rfl)
        refine ⟨_, _, rfl, ?_, ?_⟩
        · repeat' (first | exact AllP.n | exact trivial | exact DrawB.mk (by decide +kernel) | exact fun _ => rfl | refine AllP.c ?_ ?_)
          all_goals (try dsimp only)
          all_goals try first | exact rfl | exact ⟨trivial, rfl⟩ | exact ⟨trivial, bts_t rfl⟩ | omega | exact at_tr _ _ (by omega) | exact at_s _ _ (by omega) | exact dt (by omega) | exact df (by omega) | exact decide_eq_true (by omega) | exact decide_eq_false (by omega) | exact bts_t (by assumption) | exact bts_f (by assumption) | (rw [bts_t (by assumption)]; rfl) | (rw [bts_f (by assumption)]; rfl) | (unfold InR; omega)
        · exact .tup (.cons wk_pch0 (.cons (.refl _) .nil))
    · have hm : maskedS a b = (⟨3, [], obj (withV b (dnames a b)), (dnames a b).map fun x => [x]⟩, maskB ((dnames a b).map fun x => [x])) := by unfold maskedS; rw [if_neg he, if_neg hk]
      rw [hm]
      have h7 : b.kind = 7 := Classical.byContradiction fun h => hk (.inl h)
      have e1 : (b.kind == 7) = true := by rw [h7]; rfl
      have ho := object_ct a
      have hva := objOf_VT ha
      have hn := nm_ct (objOf a) b (by have := (len300 hva).1; omega) (by have := (len300 hb).1; omega)
      have hlen := nm_len (objOf a) b hva hb
      by_cases h8 : a.kind = 7
      · have e2 : (a.kind == 7) = true := by rw [h8]; rfl
        refine H.go 200 [(2, [(2, .res (.ret (.b false)))]), (5, [(2, .gd false), (5, .gd false)]), (7, [(1, .res (.ret (.ag (enc (objOf a)))))]), (8, [(2, .res (.ret (.sl 1 (nmS (objOf a) b).length ((nmS (objOf a) b).map D.s))))])] [(18, false), (35, false)] dr63 rfl ?_ ?_
        · repeat' (first | exact AllP.n | exact trivial | exact DrawB.mk (by decide +kernel) | exact fun _ => rfl | refine AllP.c ?_ ?_)
          all_goals (try dsimp only)
          all_goals try first | exact rfl | exact ⟨trivial, rfl⟩ | exact ⟨trivial, bts_t rfl⟩ | omega | exact at_tr _ _ (by omega) | exact at_s _ _ (by omega) | exact dt (by omega) | exact df (by omega) | exact decide_eq_true (by omega) | exact decide_eq_false (by omega) | exact bts_t (by assumption) | exact bts_f (by assumption) | (rw [bts_t (by assumption)]; rfl) | (rw [bts_f (by assumption)]; rfl) | (unfold InR; omega) | exact hs | exact ho | exact hn | (refine ⟨trivial, ?_⟩; simp only [bne, e1]; rfl) | (refine ⟨trivial, ?_⟩; simp only [e2]; rfl) | exact ⟨trivial, beq_false_of_ne (by omega)⟩
        refine H.loopI (MI a b) (MS a b) (fun y => (nmS (objOf a) b).length - y.i) ⟨0, 0, [], 0, [], 0, 0, [], 0⟩ ⟨Nat.zero_le _, [], by simp, rfl, rfl, encs_nil.symm, rfl, rfl⟩ ?_ ?_
        · intro a w s
          exact Sat.ren hE [] (by repeat' (first | exact trivial | exact rfl | apply And.intro)) (by repeat' (first | exact trivial | exact rfl | apply And.intro)) rfl (((s.adoptC 3 8 20 9 1 rfl rfl rfl rfl rfl rfl).adoptC 3 9 21 30 8 rfl rfl rfl rfl rfl rfl).adoptC 3 10 22 27 1 rfl rfl rfl rfl rfl rfl)
        rintro ⟨i, n, ck, f, cv, g, m, cm, e⟩ hI
        have h1 := hI.1
        obtain ⟨l1, l2, l3, l4, l5⟩ := hI.lens
        simp only at h1
        by_cases hi : i < (nmS (objOf a) b).length
        · have hx := at_s (nmS (objOf a) b) i hi
          have hd := dsame_ct (objOf a) b (nmS (objOf a) b)[i] hva hb
          have hmb := member_ct b (nmS (objOf a) b)[i] (kl62 hb)
          cases hal : alike (objOf a) b (nmS (objOf a) b)[i] with
          | true =>
            rw [hal] at hd
            refine H.go 200 [(10, [(1, .cell (.s (nmS (objOf a) b)[i]))]), (11, [(3, .res (.ret (.tup [.ag (enc ((memb (objOf a) (nmS (objOf a) b)[i]).getD nul)), .b true])))])] [(44, true), (54, true)] dr63 rfl ?_ ?_
            · repeat' (first | exact AllP.n | exact trivial | exact DrawB.mk (by decide +kernel) | exact fun _ => rfl | refine AllP.c ?_ ?_)
              all_goals (try dsimp only)
              all_goals try first | exact rfl | exact ⟨trivial, rfl⟩ | exact ⟨trivial, bts_t rfl⟩ | omega | exact at_tr _ _ (by omega) | exact at_s _ _ (by omega) | exact dt (by omega) | exact df (by omega) | exact decide_eq_true (by omega) | exact decide_eq_false (by omega) | exact bts_t (by assumption) | exact bts_f (by assumption) | (rw [bts_t (by assumption)]; rfl) | (rw [bts_f (by assumption)]; rfl) | (unfold InR; omega) | exact ⟨Go.Proofs.Tryz.func111, by kernel_rfl⟩ | exact SameH.of (by repeat' (first | exact trivial | exact rfl | apply And.intro)) (by repeat' (first | exact trivial | exact rfl | apply And.intro)) | (refine ⟨?_, ?_⟩ <;> simp [mulN_eq, addN_eq, l2] <;> omega) | (refine ⟨?_, ?_⟩ <;> simp [mulN_eq, addN_eq, l2]; done) | exact hx | exact hd | exact hmb | (refine ⟨trivial, ?_, ?_⟩ <;> (try simp) <;> omega)
            exact loopN ⟨i + 1, n, ck, f, cv, g, m, cm, e⟩ (hI.skip hi hal) (by show (nmS (objOf a) b).length - (i + 1) < (nmS (objOf a) b).length - i; omega) fun a w s => s.ren hE [] (by repeat' (first | exact trivial | exact rfl | apply And.intro)) (by repeat' (first | exact trivial | exact rfl | apply And.intro)) rfl
          | false =>
            rw [hal] at hd
            cases hme : memb b (nmS (objOf a) b)[i] with
            | none =>
              rw [hme] at hmb
              refine H.go 200 [(10, [(1, .cell (.s (nmS (objOf a) b)[i]))]), (11, [(3, .res (.ret (.tup [.ag (enc ((memb (objOf a) (nmS (objOf a) b)[i]).getD nul)), .b false])))]), (14, [(2, .res (.ret (.tup [.ag (enc ((none).getD nul)), .b ((none : Option Tr)).isSome])))])] [(44, true), (54, false), (68, false)] dr63 rfl ?_ ?_
              · repeat' (first | exact AllP.n | exact trivial | exact DrawB.mk (by decide +kernel) | exact fun _ => rfl | refine AllP.c ?_ ?_)
                all_goals (try dsimp only)
                all_goals try first | exact rfl | exact ⟨trivial, rfl⟩ | exact ⟨trivial, bts_t rfl⟩ | omega | exact at_tr _ _ (by omega) | exact at_s _ _ (by omega) | exact dt (by omega) | exact df (by omega) | exact decide_eq_true (by omega) | exact decide_eq_false (by omega) | exact bts_t (by assumption) | exact bts_f (by assumption) | (rw [bts_t (by assumption)]; rfl) | (rw [bts_f (by assumption)]; rfl) | (unfold InR; omega) | exact ⟨Go.Proofs.Tryz.func111, by kernel_rfl⟩ | exact SameH.of (by repeat' (first | exact trivial | exact rfl | apply And.intro)) (by repeat' (first | exact trivial | exact rfl | apply And.intro)) | (refine ⟨?_, ?_⟩ <;> simp [mulN_eq, addN_eq, l2] <;> omega) | (refine ⟨?_, ?_⟩ <;> simp [mulN_eq, addN_eq, l2]; done) | exact hx | exact hd | exact hmb | (refine ⟨trivial, ?_, ?_⟩ <;> (try simp) <;> omega)
              exact loopN ⟨i + 1, n, ck, f, cv, g, m + 1, cm ++ [pth [(nmS (objOf a) b)[i]]], cm.length⟩ (hI.less hi hal hme) (by show (nmS (objOf a) b).length - (i + 1) < (nmS (objOf a) b).length - i; omega) fun a w s => s.ren hE [(22, 5)] (by repeat' (first | exact trivial | exact rfl | apply And.intro)) (by repeat' (first | exact trivial | exact rfl | apply And.intro)) rfl
            | some v =>
              rw [hme] at hmb
              refine H.go 200 [(10, [(1, .cell (.s (nmS (objOf a) b)[i]))]), (11, [(3, .res (.ret (.tup [.ag (enc ((memb (objOf a) (nmS (objOf a) b)[i]).getD nul)), .b false])))]), (14, [(2, .res (.ret (.tup [.ag (enc ((some v).getD nul)), .b (some v).isSome])))]), (16, [(3, .inl Go.Proofs.Tryz.f111 60 [] [] dr111)])] [(44, true), (54, false), (68, true)] dr63 rfl ?_ ?_
              · repeat' (first | exact AllP.n | exact trivial | exact DrawB.mk (by decide +kernel) | exact fun _ => rfl | refine AllP.c ?_ ?_)
                all_goals (try dsimp only)
                all_goals try first | exact rfl | exact ⟨trivial, rfl⟩ | exact ⟨trivial, bts_t rfl⟩ | omega | exact at_tr _ _ (by omega) | exact at_s _ _ (by omega) | exact dt (by omega) | exact df (by omega) | exact decide_eq_true (by omega) | exact decide_eq_false (by omega) | exact bts_t (by assumption) | exact bts_f (by assumption) | (rw [bts_t (by assumption)]; rfl) | (rw [bts_f (by assumption)]; rfl) | (unfold InR; omega) | exact ⟨Go.Proofs.Tryz.func111, by kernel_rfl⟩ | exact SameH.of (by repeat' (first | exact trivial | exact rfl | apply And.intro)) (by repeat' (first | exact trivial | exact rfl | apply And.intro)) | (refine ⟨?_, ?_⟩ <;> simp [mulN_eq, addN_eq, l2] <;> omega) | (refine ⟨?_, ?_⟩ <;> simp [mulN_eq, addN_eq, l2]; done) | exact hx | exact hd | exact hmb | (refine ⟨trivial, ?_, ?_⟩ <;> (try simp) <;> omega)
              exact loopN ⟨i + 1, n + 1, ck ++ [D.s (nmS (objOf a) b)[i]], ck.length, (cv ++ zc).take (mulN (addN 0 (n : Int).toNat) 8) ++ enc v ++ (cv ++ zc).drop (mulN (addN 0 (n : Int).toNat) 8 + (enc v).length), cv.length, m + 1, cm ++ [pth [(nmS (objOf a) b)[i]]], cm.length⟩ (by rw [putV_eq l2]; exact hI.more hi hal hme) (by show (nmS (objOf a) b).length - (i + 1) < (nmS (objOf a) b).length - i; omega) fun a w s => s.ren hE [(20, 8), (21, 7000), (22, 5)] (by repeat' (first | exact trivial | exact rfl | apply And.intro)) (by repeat' (first | exact trivial | exact rfl | apply And.intro)) rfl
        · obtain rfl : i = (nmS (objOf a) b).length := by omega
          obtain ⟨_, l, hl, rfl, rfl, rfl, rfl, rfl⟩ := hI
          simp only at hl l1 l2 l3 l4 l5
          rw [List.take_length] at hl
          have hl : l = dnames a b := hl
          rw [← hl]
          have hmk := mask_ct (l.map fun x => [x]) (by rw [List.length_map]; omega) (by
            intro q hq
            obtain ⟨x, hx, rfl⟩ := List.mem_map.1 hq
            refine ⟨by simp, fun s hs => ?_⟩
            obtain rfl : s = x := by simpa using hs
            rw [hl] at hx
            have := nm_small hva hb (List.mem_filter.1 hx).1
            omega)
          have hw := wk_pmask (withV b l) (l.map fun x => [x])
          rw [List.length_map] at hmk hw
          refine H.go 200 [] [(44, false)] dr63 rfl ?_ ?_
          · repeat' (first | exact AllP.n | exact trivial | exact DrawB.mk (by decide +kernel) | exact fun _ => rfl | refine AllP.c ?_ ?_)
            all_goals (try dsimp only)
            all_goals try first | exact rfl | exact ⟨trivial, rfl⟩ | exact ⟨trivial, bts_t rfl⟩ | omega | exact at_tr _ _ (by omega) | exact at_s _ _ (by omega) | exact dt (by omega) | exact df (by omega) | exact decide_eq_true (by omega) | exact decide_eq_false (by omega) | exact bts_t (by assumption) | exact bts_f (by assumption) | (rw [bts_t (by assumption)]; rfl) | (rw [bts_f (by assumption)]; rfl) | (unfold InR; omega)
          refine H.go 200 [(18, [(3, .res (.ret (.b (maskB (l.map fun x => [x])))))])] [] dr63 rfl ?_ ?_
          · repeat' (first | exact AllP.n | exact trivial | exact DrawB.mk (by decide +kernel) | exact fun _ => rfl | refine AllP.c ?_ ?_)
            all_goals (try dsimp only)
            all_goals try first | exact rfl | exact ⟨trivial, rfl⟩ | exact ⟨trivial, bts_t rfl⟩ | omega | exact at_tr _ _ (by omega) | exact at_s _ _ (by omega) | exact dt (by omega) | exact df (by omega) | exact decide_eq_true (by omega) | exact decide_eq_false (by omega) | exact bts_t (by assumption) | exact bts_f (by assumption) | (rw [bts_t (by assumption)]; rfl) | (rw [bts_f (by assumption)]; rfl) | (unfold InR; omega) | exact hmk | (simp [mulN_eq]; done)
          refine ⟨_, _, rfl, ?_, ?_⟩
          · repeat' (first | exact AllP.n | exact trivial | exact DrawB.mk (by decide +kernel) | exact fun _ => rfl | refine AllP.c ?_ ?_)
            all_goals (try dsimp only)
            all_goals try first | exact rfl | exact ⟨trivial, rfl⟩ | exact ⟨trivial, bts_t rfl⟩ | omega | exact at_tr _ _ (by omega) | exact at_s _ _ (by omega) | exact dt (by omega) | exact df (by omega) | exact decide_eq_true (by omega) | exact decide_eq_false (by omega) | exact bts_t (by assumption) | exact bts_f (by assumption) | (rw [bts_t (by assumption)]; rfl) | (rw [bts_f (by assumption)]; rfl) | (unfold InR; omega) | (simp [Root.idle, mulN_eq, encs_len]; done)
          · exact .tup (.cons hw (.cons (.refl _) .nil))
      · have e2 : (a.kind == 7) = false := beq_false_of_ne h8
        have h9 : b.k.length ≠ 0 := fun h => hk (.inr ⟨h8, h⟩)
        refine H.go 200 [(2, [(2, .res (.ret (.b false)))]), (5, [(2, .gd false), (5, .gd true), (10, .gd false)]), (7, [(1, .res (.ret (.ag (enc (objOf a)))))]), (8, [(2, .res (.ret (.sl 1 (nmS (objOf a) b).length ((nmS (objOf a) b).map D.s))))])] [(18, false), (35, false)] dr63 rfl ?_ ?_
        · repeat' (first | exact AllP.n | exact trivial | exact DrawB.mk (by decide +kernel) | exact fun _ => rfl | refine AllP.c ?_ ?_)
          all_goals (try dsimp only)
          all_goals try first | exact rfl | exact ⟨trivial, rfl⟩ | exact ⟨trivial, bts_t rfl⟩ | omega | exact at_tr _ _ (by omega) | exact at_s _ _ (by omega) | exact dt (by omega) | exact df (by omega) | exact decide_eq_true (by omega) | exact decide_eq_false (by omega) | exact bts_t (by assumption) | exact bts_f (by assumption) | (rw [bts_t (by assumption)]; rfl) | (rw [bts_f (by assumption)]; rfl) | (unfold InR; omega) | exact hs | exact ho | exact hn | (refine ⟨trivial, ?_⟩; simp only [bne, e1]; rfl) | (refine ⟨trivial, ?_⟩; simp only [e2]; rfl) | exact ⟨trivial, beq_false_of_ne (by omega)⟩
        refine H.loopI (MI a b) (MS a b) (fun y => (nmS (objOf a) b).length - y.i) ⟨0, 0, [], 0, [], 0, 0, [], 0⟩ ⟨Nat.zero_le _, [], by simp, rfl, rfl, encs_nil.symm, rfl, rfl⟩ ?_ ?_
        · intro a w s
          exact Sat.ren hE [] (by repeat' (first | exact trivial | exact rfl | apply And.intro)) (by repeat' (first | exact trivial | exact rfl | apply And.intro)) rfl (((s.adoptC 3 8 20 9 1 rfl rfl rfl rfl rfl rfl).adoptC 3 9 21 30 8 rfl rfl rfl rfl rfl rfl).adoptC 3 10 22 27 1 rfl rfl rfl rfl rfl rfl)
        rintro ⟨i, n, ck, f, cv, g, m, cm, e⟩ hI
        have h1 := hI.1
        obtain ⟨l1, l2, l3, l4, l5⟩ := hI.lens
        simp only at h1
        by_cases hi : i < (nmS (objOf a) b).length
        · have hx := at_s (nmS (objOf a) b) i hi
          have hd := dsame_ct (objOf a) b (nmS (objOf a) b)[i] hva hb
          have hmb := member_ct b (nmS (objOf a) b)[i] (kl62 hb)
          cases hal : alike (objOf a) b (nmS (objOf a) b)[i] with
          | true =>
            rw [hal] at hd
            refine H.go 200 [(10, [(1, .cell (.s (nmS (objOf a) b)[i]))]), (11, [(3, .res (.ret (.tup [.ag (enc ((memb (objOf a) (nmS (objOf a) b)[i]).getD nul)), .b true])))])] [(44, true), (54, true)] dr63 rfl ?_ ?_
            · repeat' (first | exact AllP.n | exact trivial | exact DrawB.mk (by decide +kernel) | exact fun _ => rfl | refine AllP.c ?_ ?_)
              all_goals (try dsimp only)
              all_goals try first | exact rfl | exact ⟨trivial, rfl⟩ | exact ⟨trivial, bts_t rfl⟩ | omega | exact at_tr _ _ (by omega) | exact at_s _ _ (by omega) | exact dt (by omega) | exact df (by omega) | exact decide_eq_true (by omega) | exact decide_eq_false (by omega) | exact bts_t (by assumption) | exact bts_f (by assumption) | (rw [bts_t (by assumption)]; rfl) | (rw [bts_f (by assumption)]; rfl) | (unfold InR; omega) | exact ⟨Go.Proofs.Tryz.func111, by kernel_rfl⟩ | exact SameH.of (by repeat' (first | exact trivial | exact rfl | apply And.intro)) (by repeat' (first | exact trivial | exact rfl | apply And.intro)) | (refine ⟨?_, ?_⟩ <;> simp [mulN_eq, addN_eq, l2] <;> omega) | (refine ⟨?_, ?_⟩ <;> simp [mulN_eq, addN_eq, l2]; done) | exact hx | exact hd | exact hmb | (refine ⟨trivial, ?_, ?_⟩ <;> (try simp) <;> omega)
            exact loopN ⟨i + 1, n, ck, f, cv, g, m, cm, e⟩ (hI.skip hi hal) (by show (nmS (objOf a) b).length - (i + 1) < (nmS (objOf a) b).length - i; omega) fun a w s => s.ren hE [] (by repeat' (first | exact trivial | exact rfl | apply And.intro)) (by repeat' (first | exact trivial | exact rfl | apply And.intro)) rfl
          | false =>
            rw [hal] at hd
            cases hme : memb b (nmS (objOf a) b)[i] with
            | none =>
              rw [hme] at hmb
              refine H.go 200 [(10, [(1, .cell (.s (nmS (objOf a) b)[i]))]), (11, [(3, .res (.ret (.tup [.ag (enc ((memb (objOf a) (nmS (objOf a) b)[i]).getD nul)), .b false])))]), (14, [(2, .res (.ret (.tup [.ag (enc ((none).getD nul)), .b ((none : Option Tr)).isSome])))])] [(44, true), (54, false), (68, false)] dr63 rfl ?_ ?_
              · repeat' (first | exact AllP.n | exact trivial | exact DrawB.mk (by decide +kernel) | exact fun _ => rfl | refine AllP.c ?_ ?_)
                all_goals (try dsimp only)
                all_goals try first | exact rfl | exact ⟨trivial, rfl⟩ | exact ⟨trivial, bts_t rfl⟩ | omega | exact at_tr _ _ (by omega) | exact at_s _ _ (by omega) | exact dt (by omega) | exact df (by omega) | exact decide_eq_true (by omega) | exact decide_eq_false (by omega) | exact bts_t (by assumption) | exact bts_f (by assumption) | (rw [bts_t (by assumption)]; rfl) | (rw [bts_f (by assumption)]; rfl) | (unfold InR; omega) | exact ⟨Go.Proofs.Tryz.func111, by kernel_rfl⟩ | exact SameH.of (by repeat' (first | exact trivial | exact rfl | apply And.intro)) (by repeat' (first | exact trivial | exact rfl | apply And.intro)) | (refine ⟨?_, ?_⟩ <;> simp [mulN_eq, addN_eq, l2] <;> omega) | (refine ⟨?_, ?_⟩ <;> simp [mulN_eq, addN_eq, l2]; done) | exact hx | exact hd | exact hmb | (refine ⟨trivial, ?_, ?_⟩ <;> (try simp) <;> omega)
              exact loopN ⟨i + 1, n, ck, f, cv, g, m + 1, cm ++ [pth [(nmS (objOf a) b)[i]]], cm.length⟩ (hI.less hi hal hme) (by show (nmS (objOf a) b).length - (i + 1) < (nmS (objOf a) b).length - i; omega) fun a w s => s.ren hE [(22, 5)] (by repeat' (first | exact trivial | exact rfl | apply And.intro)) (by repeat' (first | exact trivial | exact rfl | apply And.intro)) rfl
            | some v =>
              rw [hme] at hmb
              refine H.go 200 [(10, [(1, .cell (.s (nmS (objOf a) b)[i]))]), (11, [(3, .res (.ret (.tup [.ag (enc ((memb (objOf a) (nmS (objOf a) b)[i]).getD nul)), .b false])))]), (14, [(2, .res (.ret (.tup [.ag (enc ((some v).getD nul)), .b (some v).isSome])))]), (16, [(3, .inl Go.Proofs.Tryz.f111 60 [] [] dr111)])] [(44, true), (54, false), (68, true)] dr63 rfl ?_ ?_
              · repeat' (first | exact AllP.n | exact trivial | exact DrawB.mk (by decide +kernel) | exact fun _ => rfl | refine AllP.c ?_ ?_)
                all_goals (try dsimp only)
                all_goals try first | exact rfl | exact ⟨trivial, rfl⟩ | exact ⟨trivial, bts_t rfl⟩ | omega | exact at_tr _ _ (by omega) | exact at_s _ _ (by omega) | exact dt (by omega) | exact df (by omega) | exact decide_eq_true (by omega) | exact decide_eq_false (by omega) | exact bts_t (by assumption) | exact bts_f (by assumption) | (rw [bts_t (by assumption)]; rfl) | (rw [bts_f (by assumption)]; rfl) | (unfold InR; omega) | exact ⟨Go.Proofs.Tryz.func111, by kernel_rfl⟩ | exact SameH.of (by repeat' (first | exact trivial | exact rfl | apply And.intro)) (by repeat' (first | exact trivial | exact rfl | apply And.intro)) | (refine ⟨?_, ?_⟩ <;> simp [mulN_eq, addN_eq, l2] <;> omega) | (refine ⟨?_, ?_⟩ <;> simp [mulN_eq, addN_eq, l2]; done) | exact hx | exact hd | exact hmb | (refine ⟨trivial, ?_, ?_⟩ <;> (try simp) <;> omega)
              exact loopN ⟨i + 1, n + 1, ck ++ [D.s (nmS (objOf a) b)[i]], ck.length, (cv ++ zc).take (mulN (addN 0 (n : Int).toNat) 8) ++ enc v ++ (cv ++ zc).drop (mulN (addN 0 (n : Int).toNat) 8 + (enc v).length), cv.length, m + 1, cm ++ [pth [(nmS (objOf a) b)[i]]], cm.length⟩ (by rw [putV_eq l2]; exact hI.more hi hal hme) (by show (nmS (objOf a) b).length - (i + 1) < (nmS (objOf a) b).length - i; omega) fun a w s => s.ren hE [(20, 8), (21, 7000), (22, 5)] (by repeat' (first | exact trivial | exact rfl | apply And.intro)) (by repeat' (first | exact trivial | exact rfl | apply And.intro)) rfl
        · obtain rfl : i = (nmS (objOf a) b).length := by omega
          obtain ⟨_, l, hl, rfl, rfl, rfl, rfl, rfl⟩ := hI
          simp only at hl l1 l2 l3 l4 l5
          rw [List.take_length] at hl
          have hl : l = dnames a b := hl
          rw [← hl]
          have hmk := mask_ct (l.map fun x => [x]) (by rw [List.length_map]; omega) (by
            intro q hq
            obtain ⟨x, hx, rfl⟩ := List.mem_map.1 hq
            refine ⟨by simp, fun s hs => ?_⟩
            obtain rfl : s = x := by simpa using hs
            rw [hl] at hx
            have := nm_small hva hb (List.mem_filter.1 hx).1
            omega)
          have hw := wk_pmask (withV b l) (l.map fun x => [x])
          rw [List.length_map] at hmk hw
          refine H.go 200 [] [(44, false)] dr63 rfl ?_ ?_
          · repeat' (first | exact AllP.n | exact trivial | exact DrawB.mk (by decide +kernel) | exact fun _ => rfl | refine AllP.c ?_ ?_)
            all_goals (try dsimp only)
            all_goals try first | exact rfl | exact ⟨trivial, rfl⟩ | exact ⟨trivial, bts_t rfl⟩ | omega | exact at_tr _ _ (by omega) | exact at_s _ _ (by omega) | exact dt (by omega) | exact df (by omega) | exact decide_eq_true (by omega) | exact decide_eq_false (by omega) | exact bts_t (by assumption) | exact bts_f (by assumption) | (rw [bts_t (by assumption)]; rfl) | (rw [bts_f (by assumption)]; rfl) | (unfold InR; omega)
          refine H.go 200 [(18, [(3, .res (.ret (.b (maskB (l.map fun x => [x])))))])] [] dr63 rfl ?_ ?_
          · repeat' (first | exact AllP.n | exact trivial | exact DrawB.mk (by decide +kernel) | exact fun _ => rfl | refine AllP.c ?_ ?_)
            all_goals (try dsimp only)
            all_goals try first | exact rfl | exact ⟨trivial, rfl⟩ | exact ⟨trivial, bts_t rfl⟩ | omega | exact at_tr _ _ (by omega) | exact at_s _ _ (by omega) | exact dt (by omega) | exact df (by omega) | exact decide_eq_true (by omega) | exact decide_eq_false (by omega) | exact bts_t (by assumption) | exact bts_f (by assumption) | (rw [bts_t (by assumption)]; rfl) | (rw [bts_f (by assumption)]; rfl) | (unfold InR; omega) | exact hmk | (simp [mulN_eq]; done)
          refine ⟨_, _, rfl, ?_, ?_⟩
          · repeat' (first | exact AllP.n | exact trivial | exact DrawB.mk (by decide +kernel) | exact fun _ => rfl | refine AllP.c ?_ ?_)
            all_goals (try dsimp only)
            all_goals try first | exact rfl | exact ⟨trivial, rfl⟩ | exact ⟨trivial, bts_t rfl⟩ | omega | exact at_tr _ _ (by omega) | exact at_s _ _ (by omega) | exact dt (by omega) | exact df (by omega) | exact decide_eq_true (by omega) | exact decide_eq_false (by omega) | exact bts_t (by assumption) | exact bts_f (by assumption) | (rw [bts_t (by assumption)]; rfl) | (rw [bts_f (by assumption)]; rfl) | (unfold InR; omega) | (simp [Root.idle, mulN_eq, encs_len]; done)
          · exact .tup (.cons hw (.cons (.refl _) .nil))
end Go.Px
end

section
namespace Go.Px
open Go.RowKit

abbrev tNull : Tr := .mk 1 false N0 S0 [] []
theorem wk_null : Wk (.ag [.i .i64 1, .b false, .b false, .nils, .i .i64 0, .s ⟨#[]⟩, .nils, .nils]) (.ag (enc tNull)) := by
  unfold enc
  simp only [tNull, Tr.kind, Tr.b, Tr.n, Tr.s, Tr.k, Tr.v, List.map_nil, List.length_nil, encs_nil]
  exact .ag (.cons (.refl _) (.cons (.refl _) (.cons (.refl _) (.cons (.nils 1) (.cons (.refl _) (.cons (.refl _) (.cons (.nils 1) (.cons (.nils 8) .nil))))))))
/-- One name of a merge: what is put, or none. -/
noncomputable def mput (f : Tr → Tr → Option Tr) (a b : Tr) (x : ByteArray) : Option (List (ByteArray × Tr)) :=
  if alike a b x = true then some [] else match memb b x with
    | none => some [(x, tNull)]
    | some v => if v.kind = 1 then none else match f ((memb a x).getD nul) v with
      | none => none
      | some r => some [(x, r)]
noncomputable def mfold (f : Tr → Tr → Option Tr) (a b : Tr) : List ByteArray → Option (List (ByteArray × Tr))
  | [] => some []
  | x :: l => match mput f a b x with
    | none => none
    | some p => match mfold f a b l with
      | none => none
      | some q => some (p ++ q)
noncomputable def mergedF : Nat → Tr → Tr → Option Tr
  | 0, _, b => some b
  | n + 1, a, b => if b.kind ≠ 7 then some b else (mfold (mergedF n) (objOf a) b (nmS (objOf a) b)).map obj
theorem mfold_append {f : Tr → Tr → Option Tr} {a b : Tr} : ∀ (l k : List ByteArray), mfold f a b (l ++ k) = match mfold f a b l with | none => none | some p => match mfold f a b k with | none => none | some q => some (p ++ q)
  | [], k => by simp only [List.nil_append, mfold]; cases mfold f a b k <;> simp
  | x :: l, k => by
    simp only [List.cons_append, mfold, mfold_append l k]
    cases mput f a b x <;> simp only
    cases mfold f a b l <;> simp only
    cases mfold f a b k <;> simp
theorem mfold_none {f : Tr → Tr → Option Tr} {a b : Tr} {l : List ByteArray} {i : Nat} {p : List (ByteArray × Tr)} (h : mfold f a b (l.take i) = some p) (hi : i < l.length) (hn : mput f a b l[i] = none) : mfold f a b l = none := by
  have e : l = l.take i ++ l[i] :: l.drop (i + 1) := by rw [← List.drop_eq_getElem_cons hi, List.take_append_drop]
  rw [e, mfold_append, h]
  simp only [mfold, hn]
theorem objOf_VT0 {t : Tr} (h : VT0 t) : VT (objOf t) := by
  rcases h with rfl | h
  · exact .obj [] [] ⟨fun i h => absurd h (Nat.not_lt_zero _), fun i _ h => absurd h (Nat.not_lt_zero _), Nat.zero_le _⟩ rfl (fun t h => by simp at h)
  · exact objOf_VT h
theorem memb_nodes {b v : Tr} {x : ByteArray} (h : memb b x = some v) : nodes v < nodes b := by
  unfold memb at h
  split at h
  · have hm := cutV_sub (List.mem_of_getElem? h)
    obtain ⟨i, hi, rfl⟩ := List.getElem_of_mem hm
    have := nodesL_at b.v i hi
    have := nodes_eq b
    omega
  · cases h
structure GX where
  i : Nat
  n : Nat
  ck : List D
  f : Nat
  cv : List D
  g : Nat
def GI (F : Tr → Tr → Option Tr) (a b : Tr) (y : GX) : Prop :=
  y.i ≤ (nmS a b).length ∧ ∃ p, mfold F a b ((nmS a b).take y.i) = some p ∧ y.n = p.length ∧ y.ck = p.map (fun p => D.s p.1) ∧ y.cv = encs (p.map (·.2)) ∧ p.length ≤ y.i
def GS (a b : Tr) : GX → St
  | ⟨i, n, ck, f, cv, g⟩ => ⟨[(2, .oa 0 0), (3, .oa 1 0), (4, .oa 2 0), (5, .oa 3 0), (21, .sl 1 (nmS a b).length ((nmS a b).map D.s)), (22, .i .i64 (nmS a b).length), (23, .i .i64 i)],
   [(0, ⟨30, 1, enc a, 0, true, false, true⟩), (1, ⟨30, 1, enc b, 0, true, false, true⟩), (2, ⟨30, 1, [.i .i64 0, .b false, .b false, .nils, .i .i64 0, .s ⟨#[]⟩, .nils, .nils], 0, true, false, true⟩),
    (3, ⟨30, 1, [.i .i64 7, .b false, .b false, .nils, .i .i64 0, .s ⟨#[]⟩, .os 20 0 n, .os 21 0 n], 0, true, false, true⟩),
    (20, ⟨9, 1, ck, f, true, false, false⟩), (21, ⟨30, 8, cv, g, true, false, false⟩)], 0⟩
theorem GI.lens {F : Tr → Tr → Option Tr} {a b : Tr} {i n f g : Nat} {ck cv : List D} (h : GI F a b ⟨i, n, ck, f, cv, g⟩) : ck.length = n ∧ cv.length = n * 8 ∧ n ≤ i := by
  obtain ⟨h1, p, h2, h3, h4, h5, h6⟩ := h
  simp only at h1 h2 h3 h4 h5 h6
  exact ⟨by rw [h4, h3]; simp, by rw [h5, encs_len, h3]; simp, by omega⟩
theorem GI.next {F : Tr → Tr → Option Tr} {a b : Tr} {i n f g f' g' n' : Nat} {ck cv ck' cv' : List D} (h : GI F a b ⟨i, n, ck, f, cv, g⟩) (hi : i < (nmS a b).length) (q : List (ByteArray × Tr)) (hq : mput F a b (nmS a b)[i] = some q)
    (hl : q.length ≤ 1) (hn : n' = n + q.length) (hk : ck' = ck ++ q.map (fun p => D.s p.1)) (hv : cv' = cv ++ encs (q.map (·.2))) : GI F a b ⟨i + 1, n', ck', f', cv', g'⟩ := by
  obtain ⟨h1, p, h2, h3, h4, h5, h6⟩ := h
  simp only at h1 h2 h3 h4 h5 h6
  refine ⟨hi, p ++ q, ?_, by simp only; rw [List.length_append, hn, h3], by simp only; rw [hk, h4]; simp, by simp only; rw [hv, h5]; simp [encs_append], by simp only; rw [List.length_append]; omega⟩
  rw [List.take_succ_eq_append_getElem hi, mfold_append, h2]
  simp only [mfold, hq, List.append_nil]
def roM (r : Option Tr) : RO := match r with | some t => .ret (.ag (enc t)) | none => .pan (.ifc 137 (.ag []))
set_option maxHeartbeats 2000000 in
set_option maxRecDepth 100000 in
theorem merged_ct : ∀ (N : Nat) (a b : Tr), VT0 a → VT b → nodes b ≤ N → Pure Go.Proofs.Tryz.prog 107 [.ag (enc a), .ag (enc b)] (roM (mergedF N a b)) := by
  intro N
  induction N with
  | zero => intro a b _ _ h; have := nodes_eq b; omega
  | succ N ih =>
  intro a b ha hb hN
  refine Pure.body tys_valid (fn := Go.Proofs.Tryz.f107) (by kernel_rfl) rfl (by kernel_rfl) rfl ?_
  intro w ok giv E0 _ hE
  by_cases h7 : b.kind = 7
  · have e1 : (b.kind == 7) = true := by rw [h7]; rfl
    have ho := object_ct a
    have hva := objOf_VT0 ha
    have hn := nm_ct (objOf a) b (by have := (len300 hva).1; omega) (by have := (len300 hb).1; omega)
    have hlen := nm_len (objOf a) b hva hb
    have hmf : mergedF (N + 1) a b = (mfold (mergedF N) (objOf a) b (nmS (objOf a) b)).map obj := by simp only [mergedF, h7, ne_eq, not_true_eq_false, if_false]
    refine H.go 200 [(3, [(1, .res (.ret (.ag (enc (objOf a)))))]), (5, [(2, .res (.ret (.sl 1 (nmS (objOf a) b).length ((nmS (objOf a) b).map D.s))))])] [(14, false)] dr107 rfl ?_ ?_
    · repeat' (first | exact AllP.n | exact trivial | exact DrawB.mk (by decide +kernel) | exact fun _ => rfl | refine AllP.c ?_ ?_)
      all_goals (try dsimp only)
      all_goals try first | exact rfl | exact ⟨trivial, rfl⟩ | exact ⟨trivial, bts_t rfl⟩ | omega | exact at_tr _ _ (by omega) | exact at_s _ _ (by omega) | exact dt (by omega) | exact df (by omega) | exact decide_eq_true (by omega) | exact decide_eq_false (by omega) | exact bts_t (by assumption) | exact bts_f (by assumption) | (rw [bts_t (by assumption)]; rfl) | (rw [bts_f (by assumption)]; rfl) | (unfold InR; omega) | exact ho | exact hn | (simp only [bne, e1]; rfl)
    refine H.loopI (GI (mergedF N) (objOf a) b) (GS (objOf a) b) (fun y => (nmS (objOf a) b).length - y.i) ⟨0, 0, [], 0, [], 0⟩ ⟨Nat.zero_le _, [], by simp [mfold], rfl, rfl, encs_nil.symm, Nat.le_refl _⟩ ?_ ?_
    · intro a w s
      exact Sat.ren hE [] (by repeat' (first | exact trivial | exact rfl | apply And.intro)) (by repeat' (first | exact trivial | exact rfl | apply And.intro)) rfl ((s.adoptC 3 6 20 9 1 rfl rfl rfl rfl rfl rfl).adoptC 3 7 21 30 8 rfl rfl rfl rfl rfl rfl)
    rintro ⟨i, n, ck, f, cv, g⟩ hI
    have h1 := hI.1
    obtain ⟨l1, l2, l3⟩ := hI.lens
    simp only at h1
    by_cases hi : i < (nmS (objOf a) b).length
    · have hx := at_s (nmS (objOf a) b) i hi
      have hd := dsame_ct (objOf a) b (nmS (objOf a) b)[i] hva hb
      have hmb := member_ct b (nmS (objOf a) b)[i] (kl62 hb)
      cases hal : alike (objOf a) b (nmS (objOf a) b)[i] with
      | true =>
        rw [hal] at hd
        have hq : mput (mergedF N) (objOf a) b (nmS (objOf a) b)[i] = some [] := by unfold mput; rw [if_pos hal]
        refine H.go 200 [(7, [(1, .cell (.s (nmS (objOf a) b)[i]))]), (8, [(3, .res (.ret (.tup [.ag (enc ((memb (objOf a) (nmS (objOf a) b)[i]).getD nul)), .b true])))]), (9, [(2, .res (.ret (.tup [.ag (enc (((memb b (nmS (objOf a) b)[i])).getD nul)), .b ((memb b (nmS (objOf a) b)[i])).isSome])))])] [(24, true), (45, true)] dr107 rfl ?_ ?_
        · repeat' (first | exact AllP.n | exact trivial | exact DrawB.mk (by decide +kernel) | exact fun _ => rfl | refine AllP.c ?_ ?_)
          all_goals (try dsimp only)
          all_goals try first | exact rfl | exact ⟨trivial, rfl⟩ | exact ⟨trivial, bts_t rfl⟩ | omega | exact at_tr _ _ (by omega) | exact at_s _ _ (by omega) | exact dt (by omega) | exact df (by omega) | exact decide_eq_true (by omega) | exact decide_eq_false (by omega) | exact bts_t (by assumption) | exact bts_f (by assumption) | (rw [bts_t (by assumption)]; rfl) | (rw [bts_f (by assumption)]; rfl) | (unfold InR; omega) | exact ⟨Go.Proofs.Tryz.func111, by kernel_rfl⟩ | exact SameH.of (by repeat' (first | exact trivial | exact rfl | apply And.intro)) (by repeat' (first | exact trivial | exact rfl | apply And.intro)) | exact ⟨trivial, wk_null⟩ | (refine ⟨?_, ?_⟩ <;> simp [mulN_eq, addN_eq, l2] <;> omega) | (refine ⟨?_, ?_⟩ <;> simp [mulN_eq, addN_eq, l2]; done) | exact hx | exact hd | exact hmb | (refine ⟨trivial, ?_, ?_⟩ <;> (try simp) <;> omega)
        exact loopN ⟨i + 1, n, ck, f, cv, g⟩ (hI.next hi [] hq (by simp) rfl (by simp) (by simp [encs_nil])) (by show (nmS (objOf a) b).length - (i + 1) < (nmS (objOf a) b).length - i; omega) fun a w s => s.ren hE [] (by repeat' (first | exact trivial | exact rfl | apply And.intro)) (by repeat' (first | exact trivial | exact rfl | apply And.intro)) rfl
      | false =>
        rw [hal] at hd
        cases hme : memb b (nmS (objOf a) b)[i] with
        | none =>
          rw [hme] at hmb
          have hq : mput (mergedF N) (objOf a) b (nmS (objOf a) b)[i] = some [((nmS (objOf a) b)[i], tNull)] := by unfold mput; rw [if_neg (by simp [hal]), hme]
          refine H.go 200 [(7, [(1, .cell (.s (nmS (objOf a) b)[i]))]), (8, [(3, .res (.ret (.tup [.ag (enc ((memb (objOf a) (nmS (objOf a) b)[i]).getD nul)), .b false])))]), (9, [(2, .res (.ret (.tup [.ag (enc ((none).getD nul)), .b ((none : Option Tr)).isSome])))]), (13, [(1, .wk (.ag (enc tNull))), (2, .inl Go.Proofs.Tryz.f111 60 [] [] dr111)])] [(24, true), (45, false), (47, true)] dr107 rfl ?_ ?_
          · repeat' (first | exact AllP.n | exact trivial | exact DrawB.mk (by decide +kernel) | exact fun _ => rfl | refine AllP.c ?_ ?_)
            all_goals (try dsimp only)
            all_goals try first | exact rfl | exact ⟨trivial, rfl⟩ | exact ⟨trivial, bts_t rfl⟩ | omega | exact at_tr _ _ (by omega) | exact at_s _ _ (by omega) | exact dt (by omega) | exact df (by omega) | exact decide_eq_true (by omega) | exact decide_eq_false (by omega) | exact bts_t (by assumption) | exact bts_f (by assumption) | (rw [bts_t (by assumption)]; rfl) | (rw [bts_f (by assumption)]; rfl) | (unfold InR; omega) | exact ⟨Go.Proofs.Tryz.func111, by kernel_rfl⟩ | exact SameH.of (by repeat' (first | exact trivial | exact rfl | apply And.intro)) (by repeat' (first | exact trivial | exact rfl | apply And.intro)) | exact ⟨trivial, wk_null⟩ | (refine ⟨?_, ?_⟩ <;> simp [mulN_eq, addN_eq, l2] <;> omega) | (refine ⟨?_, ?_⟩ <;> simp [mulN_eq, addN_eq, l2]; done) | exact hx | exact hd | exact hmb | (refine ⟨trivial, ?_, ?_⟩ <;> (try simp) <;> omega)
          exact loopN ⟨i + 1, n + 1, ck ++ [D.s (nmS (objOf a) b)[i]], ck.length, (cv ++ zc).take (mulN (addN 0 (n : Int).toNat) 8) ++ enc tNull ++ (cv ++ zc).drop (mulN (addN 0 (n : Int).toNat) 8 + (enc tNull).length), cv.length⟩ (by rw [putV_eq l2]; exact hI.next hi _ hq (by simp) rfl (by simp) (by simp [encs_cons, encs_nil])) (by show (nmS (objOf a) b).length - (i + 1) < (nmS (objOf a) b).length - i; omega) fun a w s => s.ren hE [(20, 7), (21, 7000)] (by repeat' (first | exact trivial | exact rfl | apply And.intro)) (by repeat' (first | exact trivial | exact rfl | apply And.intro)) rfl
        | some v =>
          rw [hme] at hmb
          have hvv := memb_VT hb hme
          by_cases hk1 : v.kind = 1
          · have e2 : (v.kind == 1) = true := by rw [hk1]; rfl
            have hq : mput (mergedF N) (objOf a) b (nmS (objOf a) b)[i] = none := by unfold mput; rw [if_neg (by simp [hal]), hme]; simp [hk1]
            obtain ⟨_, pp, hp, _⟩ := hI
            rw [hmf, mfold_none hp hi hq]
            refine H.go 200 [(7, [(1, .cell (.s (nmS (objOf a) b)[i]))]), (8, [(3, .res (.ret (.tup [.ag (enc ((memb (objOf a) (nmS (objOf a) b)[i]).getD nul)), .b false])))]), (9, [(2, .res (.ret (.tup [.ag (enc ((some v).getD nul)), .b (some v).isSome])))])] [(24, true), (45, false), (47, false), (53, true)] dr107 rfl ?_ ?_
            · repeat' (first | exact AllP.n | exact trivial | exact DrawB.mk (by decide +kernel) | exact fun _ => rfl | refine AllP.c ?_ ?_)
              all_goals (try dsimp only)
              all_goals try first | exact rfl | exact ⟨trivial, rfl⟩ | exact ⟨trivial, bts_t rfl⟩ | omega | exact at_tr _ _ (by omega) | exact at_s _ _ (by omega) | exact dt (by omega) | exact df (by omega) | exact decide_eq_true (by omega) | exact decide_eq_false (by omega) | exact bts_t (by assumption) | exact bts_f (by assumption) | (rw [bts_t (by assumption)]; rfl) | (rw [bts_f (by assumption)]; rfl) | (unfold InR; omega) | exact ⟨Go.Proofs.Tryz.func111, by kernel_rfl⟩ | exact SameH.of (by repeat' (first | exact trivial | exact rfl | apply And.intro)) (by repeat' (first | exact trivial | exact rfl | apply And.intro)) | exact ⟨trivial, wk_null⟩ | (refine ⟨?_, ?_⟩ <;> simp [mulN_eq, addN_eq, l2] <;> omega) | (refine ⟨?_, ?_⟩ <;> simp [mulN_eq, addN_eq, l2]; done) | exact hx | exact hd | exact hmb | (refine ⟨trivial, ?_, ?_⟩ <;> (try simp) <;> omega) | exact e2
            exact ⟨rfl, rfl⟩
          · have e2 : (v.kind == 1) = false := beq_false_of_ne hk1
            have hr := ih ((memb (objOf a) (nmS (objOf a) b)[i]).getD nul) v (membD_VT hva) hvv (by have := memb_nodes hme; omega)
            cases hres : mergedF N ((memb (objOf a) (nmS (objOf a) b)[i]).getD nul) v with
            | none =>
              rw [hres] at hr
              have hq : mput (mergedF N) (objOf a) b (nmS (objOf a) b)[i] = none := by unfold mput; rw [if_neg (by simp [hal]), hme]; simp [hk1, hres]
              obtain ⟨_, pp, hp, _⟩ := hI
              rw [hmf, mfold_none hp hi hq]
              refine H.go 200 [(7, [(1, .cell (.s (nmS (objOf a) b)[i]))]), (8, [(3, .res (.ret (.tup [.ag (enc ((memb (objOf a) (nmS (objOf a) b)[i]).getD nul)), .b false])))]), (9, [(2, .res (.ret (.tup [.ag (enc ((some v).getD nul)), .b (some v).isSome])))]), (10, [(3, .res (.pan (.ifc 137 (.ag []))))])] [(24, true), (45, false), (47, false), (53, false)] dr107 rfl ?_ ?_
              · repeat' (first | exact AllP.n | exact trivial | exact DrawB.mk (by decide +kernel) | exact fun _ => rfl | refine AllP.c ?_ ?_)
                all_goals (try dsimp only)
                all_goals try first | exact rfl | exact ⟨trivial, rfl⟩ | exact ⟨trivial, bts_t rfl⟩ | omega | exact at_tr _ _ (by omega) | exact at_s _ _ (by omega) | exact dt (by omega) | exact df (by omega) | exact decide_eq_true (by omega) | exact decide_eq_false (by omega) | exact bts_t (by assumption) | exact bts_f (by assumption) | (rw [bts_t (by assumption)]; rfl) | (rw [bts_f (by assumption)]; rfl) | (unfold InR; omega) | exact ⟨Go.Proofs.Tryz.func111, by kernel_rfl⟩ | exact SameH.of (by repeat' (first | exact trivial | exact rfl | apply And.intro)) (by repeat' (first | exact trivial | exact rfl | apply And.intro)) | exact ⟨trivial, wk_null⟩ | (refine ⟨?_, ?_⟩ <;> simp [mulN_eq, addN_eq, l2] <;> omega) | (refine ⟨?_, ?_⟩ <;> simp [mulN_eq, addN_eq, l2]; done) | exact hx | exact hd | exact hmb | (refine ⟨trivial, ?_, ?_⟩ <;> (try simp) <;> omega) | exact e2 | exact hr
              exact ⟨rfl, rfl⟩
            | some r =>
              rw [hres] at hr
              have hq : mput (mergedF N) (objOf a) b (nmS (objOf a) b)[i] = some [((nmS (objOf a) b)[i], r)] := by unfold mput; rw [if_neg (by simp [hal]), hme]; simp [hk1, hres]
              refine H.go 200 [(7, [(1, .cell (.s (nmS (objOf a) b)[i]))]), (8, [(3, .res (.ret (.tup [.ag (enc ((memb (objOf a) (nmS (objOf a) b)[i]).getD nul)), .b false])))]), (9, [(2, .res (.ret (.tup [.ag (enc ((some v).getD nul)), .b (some v).isSome])))]), (10, [(3, .res (.ret (.ag (enc r)))), (4, .inl Go.Proofs.Tryz.f111 60 [] [] dr111)])] [(24, true), (45, false), (47, false), (53, false)] dr107 rfl ?_ ?_
              · repeat' (first | exact AllP.n | exact trivial | exact DrawB.mk (by decide +kernel) | exact fun _ => rfl | refine AllP.c ?_ ?_)
                all_goals (try dsimp only)
                all_goals try first | exact rfl | exact ⟨trivial, rfl⟩ | exact ⟨trivial, bts_t rfl⟩ | omega | exact at_tr _ _ (by omega) | exact at_s _ _ (by omega) | exact dt (by omega) | exact df (by omega) | exact decide_eq_true (by omega) | exact decide_eq_false (by omega) | exact bts_t (by assumption) | exact bts_f (by assumption) | (rw [bts_t (by assumption)]; rfl) | (rw [bts_f (by assumption)]; rfl) | (unfold InR; omega) | exact ⟨Go.Proofs.Tryz.func111, by kernel_rfl⟩ | exact SameH.of (by repeat' (first | exact trivial | exact rfl | apply And.intro)) (by repeat' (first | exact trivial | exact rfl | apply And.intro)) | exact ⟨trivial, wk_null⟩ | (refine ⟨?_, ?_⟩ <;> simp [mulN_eq, addN_eq, l2] <;> omega) | (refine ⟨?_, ?_⟩ <;> simp [mulN_eq, addN_eq, l2]; done) | exact hx | exact hd | exact hmb | (refine ⟨trivial, ?_, ?_⟩ <;> (try simp) <;> omega) | exact e2 | exact hr
              exact loopN ⟨i + 1, n + 1, ck ++ [D.s (nmS (objOf a) b)[i]], ck.length, (cv ++ zc).take (mulN (addN 0 (n : Int).toNat) 8) ++ enc r ++ (cv ++ zc).drop (mulN (addN 0 (n : Int).toNat) 8 + (enc r).length), cv.length⟩ (by rw [putV_eq l2]; exact hI.next hi _ hq (by simp) rfl (by simp) (by simp [encs_cons, encs_nil])) (by show (nmS (objOf a) b).length - (i + 1) < (nmS (objOf a) b).length - i; omega) fun a w s => s.ren hE [(20, 7), (21, 7000)] (by repeat' (first | exact trivial | exact rfl | apply And.intro)) (by repeat' (first | exact trivial | exact rfl | apply And.intro)) rfl
    · obtain rfl : i = (nmS (objOf a) b).length := by omega
      obtain ⟨_, pp, hp, rfl, rfl, rfl, _⟩ := hI
      rw [List.take_length] at hp
      (try simp only at hp l1 l2 l3)
      rw [hmf, hp]
      refine H.go 200 [] [(24, false)] dr107 rfl ?_ ?_
      · repeat' (first | exact AllP.n | exact trivial | exact DrawB.mk (by decide +kernel) | exact fun _ => rfl | refine AllP.c ?_ ?_)
        all_goals (try dsimp only)
        all_goals try first | exact rfl | exact ⟨trivial, rfl⟩ | exact ⟨trivial, bts_t rfl⟩ | omega | exact at_tr _ _ (by omega) | exact at_s _ _ (by omega) | exact dt (by omega) | exact df (by omega) | exact decide_eq_true (by omega) | exact decide_eq_false (by omega) | exact bts_t (by assumption) | exact bts_f (by assumption) | (rw [bts_t (by assumption)]; rfl) | (rw [bts_f (by assumption)]; rfl) | (unfold InR; omega)
      refine H.go 200 [] [] dr107 rfl ?_ ?_
      · repeat' (first | exact AllP.n | exact trivial | exact DrawB.mk (by decide +kernel) | exact fun _ => rfl | refine AllP.c ?_ ?_)
        all_goals (try dsimp only)
        all_goals try first | exact rfl | exact ⟨trivial, rfl⟩ | exact ⟨trivial, bts_t rfl⟩ | omega | exact at_tr _ _ (by omega) | exact at_s _ _ (by omega) | exact dt (by omega) | exact df (by omega) | exact decide_eq_true (by omega) | exact decide_eq_false (by omega) | exact bts_t (by assumption) | exact bts_f (by assumption) | (rw [bts_t (by assumption)]; rfl) | (rw [bts_f (by assumption)]; rfl) | (unfold InR; omega)
      refine ⟨_, _, rfl, ?_, ?_⟩
      · repeat' (first | exact AllP.n | exact trivial | exact DrawB.mk (by decide +kernel) | exact fun _ => rfl | refine AllP.c ?_ ?_)
        all_goals (try dsimp only)
        all_goals try first | exact rfl | exact ⟨trivial, rfl⟩ | exact ⟨trivial, bts_t rfl⟩ | omega | exact at_tr _ _ (by omega) | exact at_s _ _ (by omega) | exact dt (by omega) | exact df (by omega) | exact decide_eq_true (by omega) | exact decide_eq_false (by omega) | exact bts_t (by assumption) | exact bts_f (by assumption) | (rw [bts_t (by assumption)]; rfl) | (rw [bts_f (by assumption)]; rfl) | (unfold InR; omega) | (simp [Root.idle, mulN_eq, encs_len]; done)
      · exact wk_obj pp
  · have e1 : (b.kind == 7) = false := beq_false_of_ne h7
    have hmf : mergedF (N + 1) a b = some b := by simp only [mergedF, ne_eq, h7, not_false_eq_true, if_true]
    rw [hmf]
    refine H.go 200 [] [(14, true)] dr107 rfl ?_ ?_
    · repeat' (first | exact AllP.n | exact trivial | exact DrawB.mk (by decide +kernel) | exact fun _ => rfl | refine AllP.c ?_ ?_)
      all_goals (try dsimp only)
      all_goals try first | exact rfl | exact ⟨trivial, rfl⟩ | exact ⟨trivial, bts_t rfl⟩ | omega | exact at_tr _ _ (by omega) | exact at_s _ _ (by omega) | exact dt (by omega) | exact df (by omega) | exact decide_eq_true (by omega) | exact decide_eq_false (by omega) | exact bts_t (by assumption) | exact bts_f (by assumption) | (rw [bts_t (by assumption)]; rfl) | (rw [bts_f (by assumption)]; rfl) | (unfold InR; omega) | (simp only [bne, e1]; rfl)
    refine ⟨_, _, rfl, ?_, ?_⟩
    · repeat' (first | exact AllP.n | exact trivial | exact DrawB.mk (by decide +kernel) | exact fun _ => rfl | refine AllP.c ?_ ?_)
      all_goals (try dsimp only)
      all_goals try first | exact rfl | exact ⟨trivial, rfl⟩ | exact ⟨trivial, bts_t rfl⟩ | omega | exact at_tr _ _ (by omega) | exact at_s _ _ (by omega) | exact dt (by omega) | exact df (by omega) | exact decide_eq_true (by omega) | exact decide_eq_false (by omega) | exact bts_t (by assumption) | exact bts_f (by assumption) | (rw [bts_t (by assumption)]; rfl) | (rw [bts_f (by assumption)]; rfl) | (unfold InR; omega)
    · exact .refl _
end Go.Px
end

section
namespace Go.Px
open Go.RowKit

noncomputable def mergeS (a b : Tr) : Tr × Bool := match mergedF (nodes b) a b with | some t => (t, true) | none => (nul, false)
theorem isClose106 : ∃ o0 o1 c3, IsClose Go.Proofs.Tryz.prog 106 Go.Proofs.Tryz.f106 o0 o1 5 2 c3 2 :=
  ⟨_, _, _, ⟨Go.Proofs.Tryz.func106, rfl, rfl, by kernel_rfl, rfl, rfl, rfl, rfl, rfl, rfl, by decide, by decide, by decide⟩⟩
theorem merge_ct (a b : Tr) (ha : VT a) (hb : VT b) : Pure Go.Proofs.Tryz.prog 62 [.ag (enc a), .ag (enc b)] (.ret (.tup [.ag (enc (mergeS a b).1), .b (mergeS a b).2])) := by
  have hm := merged_ct (nodes b) a b (.inr ha) hb (Nat.le_refl _)
  refine Pure.bodyDefer tys_valid (fn := Go.Proofs.Tryz.f62) (gn := Go.Proofs.Tryz.f106) (g := 106) (t := 6) (t5 := 5) (t2 := 2) (by kernel_rfl) rfl (by kernel_rfl) rfl rfl rfl rfl (by decide) rfl rfl rfl ⟨Go.Proofs.Tryz.func106, rfl, rfl, by kernel_rfl, rfl, rfl, rfl, rfl, rfl, rfl, by decide, by decide, by decide⟩ ?_
  intro w ok giv E0 _ hE
  refine H.go 200 [] [] [] rfl ?_ ?_
  · repeat' (first | exact AllP.n | exact trivial | exact DrawB.mk (by decide +kernel) | exact fun _ => rfl | refine AllP.c ?_ ?_)
    all_goals (try dsimp only)
    all_goals try first | exact rfl | exact ⟨trivial, rfl⟩ | exact ⟨trivial, bts_t rfl⟩ | omega | exact at_tr _ _ (by omega) | exact at_s _ _ (by omega) | exact dt (by omega) | exact df (by omega) | exact decide_eq_true (by omega) | exact decide_eq_false (by omega) | exact bts_t (by assumption) | exact bts_f (by assumption) | (rw [bts_t (by assumption)]; rfl) | (rw [bts_f (by assumption)]; rfl) | (unfold InR; omega)
  intro E1 dl
  unfold mergeS
  cases hres : mergedF (nodes b) a b with
  | some t =>
    rw [hres] at hm
    refine H.go 200 [(2, [(2, .res (.ret (.ag (enc t))))])] [] [] rfl ?_ ?_
    · repeat' (first | exact AllP.n | exact trivial | exact DrawB.mk (by decide +kernel) | exact fun _ => rfl | refine AllP.c ?_ ?_)
      all_goals (try dsimp only)
      all_goals try first | exact rfl | exact ⟨trivial, rfl⟩ | exact ⟨trivial, bts_t rfl⟩ | omega | exact at_tr _ _ (by omega) | exact at_s _ _ (by omega) | exact dt (by omega) | exact df (by omega) | exact decide_eq_true (by omega) | exact decide_eq_false (by omega) | exact bts_t (by assumption) | exact bts_f (by assumption) | (rw [bts_t (by assumption)]; rfl) | (rw [bts_f (by assumption)]; rfl) | (unfold InR; omega) | exact hm
    intro E2
    refine H.go 200 [] [] [] rfl ?_ ?_
    · repeat' (first | exact AllP.n | exact trivial | exact DrawB.mk (by decide +kernel) | exact fun _ => rfl | refine AllP.c ?_ ?_)
      all_goals (try dsimp only)
      all_goals try first | exact rfl | exact ⟨trivial, rfl⟩ | exact ⟨trivial, bts_t rfl⟩ | omega | exact at_tr _ _ (by omega) | exact at_s _ _ (by omega) | exact dt (by omega) | exact df (by omega) | exact decide_eq_true (by omega) | exact decide_eq_false (by omega) | exact bts_t (by assumption) | exact bts_f (by assumption) | (rw [bts_t (by assumption)]; rfl) | (rw [bts_f (by assumption)]; rfl) | (unfold InR; omega)
    refine ⟨.inr rfl, rfl, _, _, rfl, ?_, .refl _⟩
    · repeat' (first | exact AllP.n | exact trivial | refine AllP.c ?_ ?_)
  | none =>
    rw [hres] at hm
    refine H.go 200 [(2, [(2, .res (.pan (.ifc 137 (.ag []))))])] [] [] rfl ?_ ?_
    · repeat' (first | exact AllP.n | exact trivial | exact DrawB.mk (by decide +kernel) | exact fun _ => rfl | refine AllP.c ?_ ?_)
      all_goals (try dsimp only)
      all_goals try first | exact rfl | exact ⟨trivial, rfl⟩ | exact ⟨trivial, bts_t rfl⟩ | omega | exact at_tr _ _ (by omega) | exact at_s _ _ (by omega) | exact dt (by omega) | exact df (by omega) | exact decide_eq_true (by omega) | exact decide_eq_false (by omega) | exact bts_t (by assumption) | exact bts_f (by assumption) | (rw [bts_t (by assumption)]; rfl) | (rw [bts_f (by assumption)]; rfl) | (unfold InR; omega) | exact hm
    intro E2
    refine H.go 200 [] [] [] rfl ?_ ?_
    · repeat' (first | exact AllP.n | exact trivial | exact DrawB.mk (by decide +kernel) | exact fun _ => rfl | refine AllP.c ?_ ?_)
      all_goals (try dsimp only)
      all_goals try first | exact rfl | exact ⟨trivial, rfl⟩ | exact ⟨trivial, bts_t rfl⟩ | omega | exact at_tr _ _ (by omega) | exact at_s _ _ (by omega) | exact dt (by omega) | exact df (by omega) | exact decide_eq_true (by omega) | exact decide_eq_false (by omega) | exact bts_t (by assumption) | exact bts_f (by assumption) | (rw [bts_t (by assumption)]; rfl) | (rw [bts_f (by assumption)]; rfl) | (unfold InR; omega)
    refine ⟨.inr rfl, rfl, _, _, rfl, ?_, .tup (.cons wk_nul (.cons (.refl _) .nil))⟩
    · repeat' (first | exact AllP.n | exact trivial | refine AllP.c ?_ ?_)
end Go.Px
end

section
namespace Go.Px
open Go.RowKit

/-- A value that may be. -/
def OKT (t : Tr) : Prop := VT t ∧ nodes t ≤ 2000 ∧ depth t ≤ 64
theorem can2_ct (a b : Tr) (ha : OKT a) (hb : OKT b) : Pure Go.Proofs.Tryz.prog 26 [.ag (enc a), .ag (enc b), .i .i64 2] (.ret (.b (mergeS a b).2)) := by
  have h1 := Check_ct a ha.1 ha.2.1 ha.2.2
  have h2 := Check_ct b hb.1 hb.2.1 hb.2.2
  have h3 := merge_ct a b ha.1 hb.1
  refine Pure.body tys_valid (fn := Go.Proofs.Tryz.f26) (by kernel_rfl) rfl (by kernel_rfl) rfl ?_
  intro w ok giv E0 _ hE
  refine H.go 200 [(1, [(1, .res (.ret (.b true))), (5, .res (.ret (.b true)))]), (6, [(2, .res (.ret (.tup [.ag (enc (mergeS a b).1), .b (mergeS a b).2])))])] [] dr26 rfl ?_ ?_
  · repeat' (first | exact AllP.n | exact trivial | exact DrawB.mk (by decide +kernel) | exact fun _ => rfl | refine AllP.c ?_ ?_)
    all_goals (try dsimp only)
    all_goals try first | exact rfl | exact ⟨trivial, rfl⟩ | exact ⟨trivial, bts_t rfl⟩ | omega | exact at_tr _ _ (by omega) | exact at_s _ _ (by omega) | exact dt (by omega) | exact df (by omega) | exact decide_eq_true (by omega) | exact decide_eq_false (by omega) | exact bts_t (by assumption) | exact bts_f (by assumption) | (rw [bts_t (by assumption)]; rfl) | (rw [bts_f (by assumption)]; rfl) | (unfold InR; omega) | exact h1 | exact h2 | exact h3
  refine ⟨_, _, rfl, ?_, ?_⟩
  · repeat' (first | exact AllP.n | exact trivial | exact DrawB.mk (by decide +kernel) | exact fun _ => rfl | refine AllP.c ?_ ?_)
    all_goals (try dsimp only)
    all_goals try first | exact rfl | exact ⟨trivial, rfl⟩ | exact ⟨trivial, bts_t rfl⟩ | omega | exact at_tr _ _ (by omega) | exact at_s _ _ (by omega) | exact dt (by omega) | exact df (by omega) | exact decide_eq_true (by omega) | exact decide_eq_false (by omega) | exact bts_t (by assumption) | exact bts_f (by assumption) | (rw [bts_t (by assumption)]; rfl) | (rw [bts_f (by assumption)]; rfl) | (unfold InR; omega)
  · exact .refl _

theorem can3_ct (a b : Tr) (ha : OKT a) (hb : OKT b) : Pure Go.Proofs.Tryz.prog 26 [.ag (enc a), .ag (enc b), .i .i64 3] (.ret (.b (maskedS a b).2)) := by
  have h1 := Check_ct a ha.1 ha.2.1 ha.2.2
  have h2 := Check_ct b hb.1 hb.2.1 hb.2.2
  have h3 := masked_ct a b ha.1 hb.1
  refine Pure.body tys_valid (fn := Go.Proofs.Tryz.f26) (by kernel_rfl) rfl (by kernel_rfl) rfl ?_
  intro w ok giv E0 _ hE
  refine H.go 200 [(1, [(1, .res (.ret (.b true))), (5, .res (.ret (.b true)))]), (8, [(2, .res (.ret (.tup [.ag (encP (maskedS a b).1), .b (maskedS a b).2])))])] [] dr26 rfl ?_ ?_
  · repeat' (first | exact AllP.n | exact trivial | exact DrawB.mk (by decide +kernel) | exact fun _ => rfl | refine AllP.c ?_ ?_)
    all_goals (try dsimp only)
    all_goals try first | exact rfl | exact ⟨trivial, rfl⟩ | exact ⟨trivial, bts_t rfl⟩ | omega | exact at_tr _ _ (by omega) | exact at_s _ _ (by omega) | exact dt (by omega) | exact df (by omega) | exact decide_eq_true (by omega) | exact decide_eq_false (by omega) | exact bts_t (by assumption) | exact bts_f (by assumption) | (rw [bts_t (by assumption)]; rfl) | (rw [bts_f (by assumption)]; rfl) | (unfold InR; omega) | exact h1 | exact h2 | exact h3
  refine ⟨_, _, rfl, ?_, ?_⟩
  · repeat' (first | exact AllP.n | exact trivial | exact DrawB.mk (by decide +kernel) | exact fun _ => rfl | refine AllP.c ?_ ?_)
    all_goals (try dsimp only)
    all_goals try first | exact rfl | exact ⟨trivial, rfl⟩ | exact ⟨trivial, bts_t rfl⟩ | omega | exact at_tr _ _ (by omega) | exact at_s _ _ (by omega) | exact dt (by omega) | exact df (by omega) | exact decide_eq_true (by omega) | exact decide_eq_false (by omega) | exact bts_t (by assumption) | exact bts_f (by assumption) | (rw [bts_t (by assumption)]; rfl) | (rw [bts_f (by assumption)]; rfl) | (unfold InR; omega)
  · exact .refl _

theorem can1_ct (a b : Tr) (ha : OKT a) (hb : OKT b) : Pure Go.Proofs.Tryz.prog 26 [.ag (enc a), .ag (enc b), .i .i64 1] (.ret (.b true)) := by
  have h1 := Check_ct a ha.1 ha.2.1 ha.2.2
  have h2 := Check_ct b hb.1 hb.2.1 hb.2.2
  refine Pure.body tys_valid (fn := Go.Proofs.Tryz.f26) (by kernel_rfl) rfl (by kernel_rfl) rfl ?_
  intro w ok giv E0 _ hE
  refine H.go 200 [(1, [(1, .res (.ret (.b true))), (5, .res (.ret (.b true)))])] [] dr26 rfl ?_ ?_
  · repeat' (first | exact AllP.n | exact trivial | exact DrawB.mk (by decide +kernel) | exact fun _ => rfl | refine AllP.c ?_ ?_)
    all_goals (try dsimp only)
    all_goals try first | exact rfl | exact ⟨trivial, rfl⟩ | exact ⟨trivial, bts_t rfl⟩ | omega | exact at_tr _ _ (by omega) | exact at_s _ _ (by omega) | exact dt (by omega) | exact df (by omega) | exact decide_eq_true (by omega) | exact decide_eq_false (by omega) | exact bts_t (by assumption) | exact bts_f (by assumption) | (rw [bts_t (by assumption)]; rfl) | (rw [bts_f (by assumption)]; rfl) | (unfold InR; omega) | exact h1 | exact h2
  refine ⟨_, _, rfl, ?_, ?_⟩
  · repeat' (first | exact AllP.n | exact trivial | exact DrawB.mk (by decide +kernel) | exact fun _ => rfl | refine AllP.c ?_ ?_)
    all_goals (try dsimp only)
    all_goals try first | exact rfl | exact ⟨trivial, rfl⟩ | exact ⟨trivial, bts_t rfl⟩ | omega | exact at_tr _ _ (by omega) | exact at_s _ _ (by omega) | exact dt (by omega) | exact df (by omega) | exact decide_eq_true (by omega) | exact decide_eq_false (by omega) | exact bts_t (by assumption) | exact bts_f (by assumption) | (rw [bts_t (by assumption)]; rfl) | (rw [bts_f (by assumption)]; rfl) | (unfold InR; omega)
  · exact .refl _

noncomputable def diff2 (a b : Tr) : Pch × Int := if (mergeS a b).2 = true then (⟨2, [], (mergeS a b).1, []⟩, 0) else (pch0, 7)
noncomputable def diff3 (a b : Tr) : Pch × Int := if (maskedS a b).2 = true then ((maskedS a b).1, 0) else (pch0, 7)
theorem wk_p2 (t : Tr) : Wk (.ag [.i .i64 2, .nils, .i .i64 t.kind, .b t.b, .b t.n.neg, .sl 1 t.n.m.length (t.n.m.map u32), .i .i64 t.n.e, .s t.s, .sl 1 t.k.length (t.k.map D.s), .sl 8 t.v.length (encs t.v), .nils]) (.ag (encP ⟨2, [], t, []⟩)) :=
  .ag (.cons (.refl _) (.cons (.nils 11) (.cons (.refl _) (.cons (.refl _) (.cons (.refl _) (.cons (.refl _) (.cons (.refl _) (.cons (.refl _) (.cons (.refl _) (.cons (.refl _) (.cons (.nils 1) .nil)))))))))))
theorem diff2_ct (a b : Tr) (cells : Int) (ha : OKT a) (hb : OKT b) : Pure Go.Proofs.Tryz.prog 22 [.ag (enc a), .ag (enc b), .i .i64 2, .i .i64 cells] (.ret (.tup [.ag (encP (diff2 a b).1), .i .i64 (diff2 a b).2])) := by
  have h1 := Check_ct a ha.1 ha.2.1 ha.2.2
  have h2 := Check_ct b hb.1 hb.2.1 hb.2.2
  have h3 := merge_ct a b ha.1 hb.1
  have h4 := can2_ct a b ha hb
  refine Pure.body tys_valid (fn := Go.Proofs.Tryz.f22) (by kernel_rfl) rfl (by kernel_rfl) rfl ?_
  intro w ok giv E0 _ hE
  unfold diff2
  cases hres : (mergeS a b).2 with
  | true =>
    rw [hres] at h3 h4
    simp only [if_true]
    refine H.go 200 [(1, [(1, .res (.ret (.b true))), (5, .res (.ret (.b true)))]), (5, [(3, .res (.ret (.b true)))]), (9, [(2, .res (.ret (.tup [.ag (enc (mergeS a b).1), .b true])))])] [] dr22 rfl ?_ ?_
    · repeat' (first | exact AllP.n | exact trivial | exact DrawB.mk (by decide +kernel) | exact fun _ => rfl | refine AllP.c ?_ ?_)
      all_goals (try dsimp only)
      all_goals try first | exact rfl | exact ⟨trivial, rfl⟩ | exact ⟨trivial, bts_t rfl⟩ | omega | exact at_tr _ _ (by omega) | exact at_s _ _ (by omega) | exact dt (by omega) | exact df (by omega) | exact decide_eq_true (by omega) | exact decide_eq_false (by omega) | exact bts_t (by assumption) | exact bts_f (by assumption) | (rw [bts_t (by assumption)]; rfl) | (rw [bts_f (by assumption)]; rfl) | (unfold InR; omega) | exact h1 | exact h2 | exact h3 | exact h4
    refine ⟨_, _, rfl, ?_, ?_⟩
    · repeat' (first | exact AllP.n | exact trivial | exact DrawB.mk (by decide +kernel) | exact fun _ => rfl | refine AllP.c ?_ ?_)
      all_goals (try dsimp only)
      all_goals try first | exact rfl | exact ⟨trivial, rfl⟩ | exact ⟨trivial, bts_t rfl⟩ | omega | exact at_tr _ _ (by omega) | exact at_s _ _ (by omega) | exact dt (by omega) | exact df (by omega) | exact decide_eq_true (by omega) | exact decide_eq_false (by omega) | exact bts_t (by assumption) | exact bts_f (by assumption) | (rw [bts_t (by assumption)]; rfl) | (rw [bts_f (by assumption)]; rfl) | (unfold InR; omega)
    · exact .tup (.cons (wk_p2 _) (.cons (.refl _) .nil))
  | false =>
    rw [hres] at h3 h4
    simp only [Bool.false_eq_true, if_false]
    refine H.go 200 [(1, [(1, .res (.ret (.b true))), (5, .res (.ret (.b true)))]), (5, [(3, .res (.ret (.b false)))])] [] dr22 rfl ?_ ?_
    · repeat' (first | exact AllP.n | exact trivial | exact DrawB.mk (by decide +kernel) | exact fun _ => rfl | refine AllP.c ?_ ?_)
      all_goals (try dsimp only)
      all_goals try first | exact rfl | exact ⟨trivial, rfl⟩ | exact ⟨trivial, bts_t rfl⟩ | omega | exact at_tr _ _ (by omega) | exact at_s _ _ (by omega) | exact dt (by omega) | exact df (by omega) | exact decide_eq_true (by omega) | exact decide_eq_false (by omega) | exact bts_t (by assumption) | exact bts_f (by assumption) | (rw [bts_t (by assumption)]; rfl) | (rw [bts_f (by assumption)]; rfl) | (unfold InR; omega) | exact h1 | exact h2 | exact h3 | exact h4
    refine ⟨_, _, rfl, ?_, ?_⟩
    · repeat' (first | exact AllP.n | exact trivial | exact DrawB.mk (by decide +kernel) | exact fun _ => rfl | refine AllP.c ?_ ?_)
      all_goals (try dsimp only)
      all_goals try first | exact rfl | exact ⟨trivial, rfl⟩ | exact ⟨trivial, bts_t rfl⟩ | omega | exact at_tr _ _ (by omega) | exact at_s _ _ (by omega) | exact dt (by omega) | exact df (by omega) | exact decide_eq_true (by omega) | exact decide_eq_false (by omega) | exact bts_t (by assumption) | exact bts_f (by assumption) | (rw [bts_t (by assumption)]; rfl) | (rw [bts_f (by assumption)]; rfl) | (unfold InR; omega)
    · exact .tup (.cons wk_pch0 (.cons (.refl _) .nil))
theorem diff3_ct (a b : Tr) (cells : Int) (ha : OKT a) (hb : OKT b) : Pure Go.Proofs.Tryz.prog 22 [.ag (enc a), .ag (enc b), .i .i64 3, .i .i64 cells] (.ret (.tup [.ag (encP (diff3 a b).1), .i .i64 (diff3 a b).2])) := by
  have h1 := Check_ct a ha.1 ha.2.1 ha.2.2
  have h2 := Check_ct b hb.1 hb.2.1 hb.2.2
  have h3 := masked_ct a b ha.1 hb.1
  have h4 := can3_ct a b ha hb
  refine Pure.body tys_valid (fn := Go.Proofs.Tryz.f22) (by kernel_rfl) rfl (by kernel_rfl) rfl ?_
  intro w ok giv E0 _ hE
  unfold diff3
  cases hres : (maskedS a b).2 with
  | true =>
    rw [hres] at h3 h4
    simp only [if_true]
    refine H.go 200 [(1, [(1, .res (.ret (.b true))), (5, .res (.ret (.b true)))]), (5, [(3, .res (.ret (.b true)))]), (12, [(2, .res (.ret (.tup [.ag (encP (maskedS a b).1), .b true])))])] [] dr22 rfl ?_ ?_
    · repeat' (first | exact AllP.n | exact trivial | exact DrawB.mk (by decide +kernel) | exact fun _ => rfl | refine AllP.c ?_ ?_)
      all_goals (try dsimp only)
      all_goals try first | exact rfl | exact ⟨trivial, rfl⟩ | exact ⟨trivial, bts_t rfl⟩ | omega | exact at_tr _ _ (by omega) | exact at_s _ _ (by omega) | exact dt (by omega) | exact df (by omega) | exact decide_eq_true (by omega) | exact decide_eq_false (by omega) | exact bts_t (by assumption) | exact bts_f (by assumption) | (rw [bts_t (by assumption)]; rfl) | (rw [bts_f (by assumption)]; rfl) | (unfold InR; omega) | exact h1 | exact h2 | exact h3 | exact h4
    refine ⟨_, _, rfl, ?_, ?_⟩
    · repeat' (first | exact AllP.n | exact trivial | exact DrawB.mk (by decide +kernel) | exact fun _ => rfl | refine AllP.c ?_ ?_)
      all_goals (try dsimp only)
      all_goals try first | exact rfl | exact ⟨trivial, rfl⟩ | exact ⟨trivial, bts_t rfl⟩ | omega | exact at_tr _ _ (by omega) | exact at_s _ _ (by omega) | exact dt (by omega) | exact df (by omega) | exact decide_eq_true (by omega) | exact decide_eq_false (by omega) | exact bts_t (by assumption) | exact bts_f (by assumption) | (rw [bts_t (by assumption)]; rfl) | (rw [bts_f (by assumption)]; rfl) | (unfold InR; omega)
    · exact .tup (.cons (.refl _) (.cons (.refl _) .nil))
  | false =>
    rw [hres] at h3 h4
    simp only [Bool.false_eq_true, if_false]
    refine H.go 200 [(1, [(1, .res (.ret (.b true))), (5, .res (.ret (.b true)))]), (5, [(3, .res (.ret (.b false)))])] [] dr22 rfl ?_ ?_
    · repeat' (first | exact AllP.n | exact trivial | exact DrawB.mk (by decide +kernel) | exact fun _ => rfl | refine AllP.c ?_ ?_)
      all_goals (try dsimp only)
      all_goals try first | exact rfl | exact ⟨trivial, rfl⟩ | exact ⟨trivial, bts_t rfl⟩ | omega | exact at_tr _ _ (by omega) | exact at_s _ _ (by omega) | exact dt (by omega) | exact df (by omega) | exact decide_eq_true (by omega) | exact decide_eq_false (by omega) | exact bts_t (by assumption) | exact bts_f (by assumption) | (rw [bts_t (by assumption)]; rfl) | (rw [bts_f (by assumption)]; rfl) | (unfold InR; omega) | exact h1 | exact h2 | exact h3 | exact h4
    refine ⟨_, _, rfl, ?_, ?_⟩
    · repeat' (first | exact AllP.n | exact trivial | exact DrawB.mk (by decide +kernel) | exact fun _ => rfl | refine AllP.c ?_ ?_)
      all_goals (try dsimp only)
      all_goals try first | exact rfl | exact ⟨trivial, rfl⟩ | exact ⟨trivial, bts_t rfl⟩ | omega | exact at_tr _ _ (by omega) | exact at_s _ _ (by omega) | exact dt (by omega) | exact df (by omega) | exact decide_eq_true (by omega) | exact decide_eq_false (by omega) | exact bts_t (by assumption) | exact bts_f (by assumption) | (rw [bts_t (by assumption)]; rfl) | (rw [bts_f (by assumption)]; rfl) | (unfold InR; omega)
    · exact .tup (.cons wk_pch0 (.cons (.refl _) .nil))
end Go.Px
end

section
namespace Go.Px
open Go.RowKit

abbrev sA : ByteArray := ⟨#[97]⟩
abbrev tB (x : Bool) : Tr := .mk 2 x N0 S0 [] []
abbrev tA (x : Bool) : Tr := .mk 7 false N0 S0 [sA] [tB x]
theorem wk_bool (x : Bool) : Wk (.ag [.i .i64 2, .b x, .b false, .nils, .i .i64 0, .s ⟨#[]⟩, .nils, .nils]) (.ag (enc (tB x))) := by
  unfold enc
  simp only [tB, Tr.kind, Tr.b, Tr.n, Tr.s, Tr.k, Tr.v, List.map_nil, List.length_nil, encs_nil]
  exact .ag (.cons (.refl _) (.cons (.refl _) (.cons (.refl _) (.cons (.nils 1) (.cons (.refl _) (.cons (.refl _) (.cons (.nils 1) (.cons (.nils 8) .nil))))))))
theorem wk_tA (x : Bool) : Wk (.ag [.i .i64 7, .b false, .b false, .nils, .i .i64 0, .s ⟨#[]⟩, .sl 1 1 [.s sA], .sl 8 1 (enc (tB x))]) (.ag (enc (tA x))) := by
  have e : enc (tA x) = [.i .i64 7, .b false, .b false, .sl 1 0 [], .i .i64 0, .s ⟨#[]⟩, .sl 1 1 [.s sA], .sl 8 1 (enc (tB x))] := by
    show [_, _, _, _, _, _, _, D.sl 8 1 (encs [tB x])] = _
    rw [encs_cons, encs_nil, List.append_nil]
    rfl
  rw [e]
  exact .ag (.cons (.refl _) (.cons (.refl _) (.cons (.refl _) (.cons (.nils 1) (.cons (.refl _) (.cons (.refl _) (.cons (.refl _) (.cons (.refl _) .nil))))))))
theorem one_ct (x : Bool) : Pure Go.Proofs.Tryz.prog 61 [.b x] (.ret (.ag (enc (tA x)))) := by
  refine Pure.body tys_valid (fn := Go.Proofs.Tryz.f61) (by kernel_rfl) rfl (by kernel_rfl) rfl ?_
  intro w ok giv E0 _ hE
  refine H.go 200 [(1, [(2, .wk (.ag (enc (tB x))))])] [] dr61 rfl ?_ ?_
  · repeat' (first | exact AllP.n | exact trivial | exact DrawB.mk (by decide +kernel) | exact fun _ => rfl | refine AllP.c ?_ ?_)
    all_goals (try dsimp only)
    all_goals try first | exact rfl | exact ⟨trivial, rfl⟩ | exact ⟨trivial, bts_t rfl⟩ | omega | exact at_tr _ _ (by omega) | exact at_s _ _ (by omega) | exact dt (by omega) | exact df (by omega) | exact decide_eq_true (by omega) | exact decide_eq_false (by omega) | exact bts_t (by assumption) | exact bts_f (by assumption) | (rw [bts_t (by assumption)]; rfl) | (rw [bts_f (by assumption)]; rfl) | (unfold InR; omega) | exact ⟨trivial, wk_bool x⟩
  refine ⟨_, _, rfl, ?_, ?_⟩
  · repeat' (first | exact AllP.n | exact trivial | exact DrawB.mk (by decide +kernel) | exact fun _ => rfl | refine AllP.c ?_ ?_)
    all_goals (try dsimp only)
    all_goals try first | exact rfl | exact ⟨trivial, rfl⟩ | exact ⟨trivial, bts_t rfl⟩ | omega | exact at_tr _ _ (by omega) | exact at_s _ _ (by omega) | exact dt (by omega) | exact df (by omega) | exact decide_eq_true (by omega) | exact decide_eq_false (by omega) | exact bts_t (by assumption) | exact bts_f (by assumption) | (rw [bts_t (by assumption)]; rfl) | (rw [bts_f (by assumption)]; rfl) | (unfold InR; omega)
  · exact wk_tA x

theorem textA : TextOK sA := ⟨by decide, by decide +kernel⟩
theorem tA_ok (x : Bool) : OKT (tA x) := by
  have h : VT (tA x) := .obj [sA] [tB x] ⟨fun i h => by simp at h; subst h; exact textA, fun i h0 h => by simp at h; omega, by simp⟩ rfl (fun t h => by simp at h; subst h; exact .bool x)
  exact ⟨h, by simp [nodes, nodesL], by simp [depth, depthL]⟩
theorem nmS_tA (x y : Bool) : nmS (tA x) (tA y) = [sA] := by
  unfold nmS
  have h1 : sortS ((tA x).k ++ (tA y).k) = [sA, sA] := by
    have hl : (sortS ([sA, sA])).length = 2 := by rw [sortS_len]; rfl
    have hm : ∀ z ∈ sortS [sA, sA], z = sA := fun z hz => by
      have := mem_sortS.1 hz
      simpa using this
    show sortS [sA, sA] = _
    match hs : sortS [sA, sA], hl, hm with
    | [p, q], _, hm => rw [hm p (by simp), hm q (by simp)]
  rw [h1]
  rfl
theorem memb_tA (x : Bool) : memb (tA x) sA = some (tB x) := by simp [memb, cutK, cutV, idx, Tr.kind, Tr.k, Tr.v]
theorem merged_tA : mergeS (tA false) (tA true) = (obj [(sA, tB true)], true) := by
  have hk : ∀ (n : Nat), mergedF (n + 1) (tB false) (tB true) = some (tB true) := fun n => by simp [mergedF, Tr.kind]
  have hn : nodes (tA true) = 2 := by simp [nodes, nodesL]
  have ha : alike (tA false) (tA true) sA = false := by
    unfold alike
    rw [memb_tA, memb_tA]
    simp
  have ho : objOf (tA false) = tA false := by simp [objOf, Tr.kind]
  unfold mergeS
  rw [hn]
  have : mergedF 2 (tA false) (tA true) = some (obj [(sA, tB true)]) := by
    show (if (tA true).kind ≠ 7 then some (tA true) else (mfold (mergedF 1) (objOf (tA false)) (tA true) (nmS (objOf (tA false)) (tA true))).map obj) = _
    rw [if_neg (by simp [Tr.kind]), ho, nmS_tA]
    simp only [mfold, mput, ha, memb_tA, Option.getD_some, hk 0]
    simp [Tr.kind]
  rw [this]
theorem diff2_tA : diff2 (tA false) (tA true) = (⟨2, [], obj [(sA, tB true)], []⟩, 0) := by
  unfold diff2
  rw [merged_tA]
  simp
theorem can3_tA : (maskedS (tA true) (tA true)).2 = true := by simp [maskedS]
theorem awake20_ct : Pure Go.Proofs.Tryz.prog 21 [] (.ret (.b true)) := by
  have h0 := one_ct false
  have h1 := one_ct true
  have hd := diff2_ct (tA false) (tA true) 0 (tA_ok _) (tA_ok _)
  rw [diff2_tA] at hd
  have hc := can3_ct (tA true) (tA true) (tA_ok _) (tA_ok _)
  rw [can3_tA] at hc
  have he : encs (obj [(sA, tB true)]).v = enc (tB true) := by
    show encs [tB true] = _
    rw [encs_cons, encs_nil, List.append_nil]
  refine Pure.body tys_valid (fn := Go.Proofs.Tryz.f21) (by kernel_rfl) rfl (by kernel_rfl) rfl ?_
  intro w ok giv E0 _ hE
  refine H.go 200 [(2, [(1, .res (.ret (.ag (enc (tA false))))), (3, .res (.ret (.ag (enc (tA true))))), (4, .res (.ret (.tup [.ag (encP ⟨2, [], obj [(sA, tB true)], []⟩), .i .i64 0])))]), (3, [(2, .gd true), (7, .gd true), (15, .cell (.b true)), (19, .res (.ret (.ag (enc (tA true))))), (21, .res (.ret (.ag (enc (tA true))))), (22, .res (.ret (.b true)))])] [] dr21 rfl ?_ ?_
  · repeat' (first | exact AllP.n | exact trivial | exact DrawB.mk (by decide +kernel) | exact fun _ => rfl | refine AllP.c ?_ ?_)
    all_goals (try dsimp only)
    all_goals try first | exact rfl | exact ⟨trivial, rfl⟩ | exact ⟨trivial, bts_t rfl⟩ | omega | exact at_tr _ _ (by omega) | exact at_s _ _ (by omega) | exact dt (by omega) | exact df (by omega) | exact decide_eq_true (by omega) | exact decide_eq_false (by omega) | exact bts_t (by assumption) | exact bts_f (by assumption) | (rw [bts_t (by assumption)]; rfl) | (rw [bts_f (by assumption)]; rfl) | (unfold InR; omega) | exact h0 | exact h1 | exact hd | exact hc | (simp [he, mulN_eq, addN_eq]; done) | exact ⟨by omega, by simp [obj, Tr.v]⟩
  refine ⟨_, _, rfl, ?_, ?_⟩
  · repeat' (first | exact AllP.n | exact trivial | exact DrawB.mk (by decide +kernel) | exact fun _ => rfl | refine AllP.c ?_ ?_)
    all_goals (try dsimp only)
    all_goals try first | exact rfl | exact ⟨trivial, rfl⟩ | exact ⟨trivial, bts_t rfl⟩ | omega | exact at_tr _ _ (by omega) | exact at_s _ _ (by omega) | exact dt (by omega) | exact df (by omega) | exact decide_eq_true (by omega) | exact decide_eq_false (by omega) | exact bts_t (by assumption) | exact bts_f (by assumption) | (rw [bts_t (by assumption)]; rfl) | (rw [bts_f (by assumption)]; rfl) | (unfold InR; omega)
  · exact .refl _
end Go.Px
end

section
namespace Go.Px
open Go.RowKit

/-! ### The values that are made by numbers -/
def N8 : List ByteArray := [⟨#[]⟩, ⟨#[97]⟩, ⟨#[98]⟩, ⟨#[99]⟩, ⟨#[100, 100]⟩, ⟨#[101]⟩, ⟨#[120, 47, 121]⟩, ⟨#[122, 126]⟩]
def rk (x : ByteArray) : Nat := N8.findIdx fun y => decide (y = x)
theorem rk_inj : ∀ a ∈ N8, ∀ b ∈ N8, rk a = rk b → a = b := by decide +kernel
theorem rk_less : ∀ a ∈ N8, ∀ b ∈ N8, Op.bytesLess a.toList b.toList = decide (rk a < rk b) := by decide +kernel
theorem rk_le : ∀ a ∈ N8, ∀ b ∈ N8, decide (b2l a ≤ b2l b) = decide (rk a ≤ rk b) := by decide +kernel
theorem rk_lt : ∀ a ∈ N8, rk a < 8 := by decide +kernel
theorem N8_text : ∀ a ∈ N8, a.size ≤ 2000 ∧ good a a.size 0 = true := by decide +kernel
theorem names8_N8 : ∀ a ∈ names8, a ∈ N8 := by
  intro a ha
  have h : names8.all (fun a => N8.any fun b => decide (b = a)) = true := by decide +kernel
  obtain ⟨b, hb, e⟩ := List.any_eq_true.1 (List.all_eq_true.1 h a ha)
  have : b = a := by simpa using e
  exact this ▸ hb
theorem gtb_rk {a b : ByteArray} (ha : a ∈ N8) (hb : b ∈ N8) : gtb a b = decide (rk b < rk a) := by
  unfold gtb
  rw [rk_less a ha b hb, bts_eq]
  by_cases h : a = b
  · subst h; simp
  · have : rk a ≠ rk b := fun e => h (rk_inj a ha b hb e)
    rw [decide_eq_false h, Bool.or_false]
    by_cases h1 : rk a < rk b
    · rw [decide_eq_true h1, decide_eq_false (by omega)]; rfl
    · rw [decide_eq_false h1, decide_eq_true (by omega)]; rfl
/-- Names in order, each once. -/
def SL (l : List ByteArray) : Prop := (l.map rk).Pairwise (· < ·) ∧ ∀ x ∈ l, x ∈ N8
theorem SL.names {l : List ByteArray} (h : SL l) (hl : l.length ≤ 300) : NamesOK l := by
  refine ⟨fun i hi => N8_text _ (h.2 _ (List.getElem_mem _)), fun i h0 hi => ?_, hl⟩
  rw [rk_less _ (h.2 _ (List.getElem_mem _)) _ (h.2 _ (List.getElem_mem _)), decide_eq_true_eq]
  have := List.pairwise_iff_getElem.1 h.1 (i - 1) i (by simp; omega) (by simpa using hi) (by omega)
  simpa using this
theorem SL.eq : ∀ {l k : List ByteArray}, SL l → SL k → (∀ x, x ∈ l ↔ x ∈ k) → l = k
  | [], [], _, _, _ => rfl
  | [], b :: k, _, _, h => by have := (h b).2 (by simp); simp at this
  | a :: l, [], _, _, h => by have := (h a).1 (by simp); simp at this
  | a :: l, b :: k, ha, hb, h => by
    obtain ⟨pa, ma⟩ := ha
    obtain ⟨pb, mb⟩ := hb
    simp only [List.map_cons, List.pairwise_cons] at pa pb
    have e : a = b := by
      refine rk_inj a (ma a (by simp)) b (mb b (by simp)) ?_
      rcases List.mem_cons.1 ((h a).1 (by simp)) with e | e
      · rw [e]
      · rcases List.mem_cons.1 ((h b).2 (by simp)) with e2 | e2
        · rw [e2]
        · have h1 := pb.1 (rk a) (List.mem_map.2 ⟨a, e, rfl⟩)
          have h2 := pa.1 (rk b) (List.mem_map.2 ⟨b, e2, rfl⟩)
          omega
    subst e
    rw [SL.eq ⟨pa.2, fun x hx => ma x (by simp [hx])⟩ ⟨pb.2, fun x hx => mb x (by simp [hx])⟩ fun x => ?_]
    constructor
    · intro hx
      rcases List.mem_cons.1 ((h x).1 (by simp [hx])) with e | e
      · subst e; have := pa.1 (rk x) (List.mem_map.2 ⟨x, hx, rfl⟩); omega
      · exact e
    · intro hx
      rcases List.mem_cons.1 ((h x).2 (by simp [hx])) with e | e
      · subst e; have := pb.1 (rk x) (List.mem_map.2 ⟨x, hx, rfl⟩); omega
      · exact e
/-! setK -/
theorem setK_true (hb : Bool) (x : ByteArray) (v : Tr) : ∀ l, setK hb x v true l = l
  | [] => rfl
  | p :: r => by simp only [setK, setK_true hb x v r]
theorem setK_mem {hb : Bool} {x : ByteArray} {v : Tr} : ∀ {l : List (ByteArray × Tr)} {p : ByteArray × Tr}, p ∈ setK hb x v false l → p = (x, v) ∨ p ∈ l
  | [], p, h => by simp [setK] at h; exact .inl h
  | q :: r, p, h => by
    simp only [setK, setK_true] at h
    split at h
    · rcases List.mem_cons.1 h with h | h
      · exact .inl h
      · exact .inr (by simp [h])
    · split at h
      · rcases List.mem_cons.1 h with h | h
        · exact .inl h
        · exact .inr h
      · rcases List.mem_cons.1 h with h | h
        · exact .inr (by simp [h])
        · rcases setK_mem h with h | h
          · exact .inl h
          · exact .inr (by simp [h])
theorem setK_len {hb : Bool} {x : ByteArray} {v : Tr} : ∀ {l : List (ByteArray × Tr)}, (setK hb x v false l).length ≤ l.length + 1
  | [] => by simp [setK]
  | q :: r => by
    have := setK_len (hb := hb) (x := x) (v := v) (l := r)
    simp only [setK, setK_true]
    split
    · simp
    · split <;> simp <;> omega
theorem setK_SL {hb : Bool} {x : ByteArray} {v : Tr} (hx : x ∈ N8) : ∀ {l : List (ByteArray × Tr)}, SL (l.map (·.1)) → (hb = true → x ∈ l.map (·.1)) → (hb = false → x ∉ l.map (·.1)) → SL ((setK hb x v false l).map (·.1))
  | [], _, h1, _ => by
    simp only [setK, List.map_cons, List.map_nil]
    exact ⟨by simp, fun y hy => by simp at hy; subst hy; exact hx⟩
  | q :: r, h, h1, h2 => by
    obtain ⟨hp, hm⟩ := h
    simp only [List.map_cons, List.pairwise_cons] at hp
    have hq : q.1 ∈ N8 := hm q.1 (by simp)
    have hr : SL (r.map (·.1)) := ⟨hp.2, fun y hy => hm y (by simp only [List.map_cons]; exact List.mem_cons_of_mem _ hy)⟩
    simp only [setK, setK_true]
    split
    · rename_i e
      simp only [List.map_cons, ← e]
      exact ⟨by simp only [List.map_cons, List.pairwise_cons]; exact hp, hm⟩
    · rename_i hne
      split
      · rename_i hg
        have hlt : rk x < rk q.1 := by
          have := hg.2
          rw [gtb_rk hq hx] at this
          simpa using this
        simp only [List.map_cons]
        refine ⟨?_, fun y hy => ?_⟩
        · simp only [List.map_cons, List.pairwise_cons]
          refine ⟨fun z hz => ?_, hp⟩
          rcases List.mem_cons.1 hz with e | hz
          · rw [e]; exact hlt
          · have := hp.1 z hz; omega
        · rcases List.mem_cons.1 hy with e | hy
          · rw [e]; exact hx
          · exact hm y (by simpa using hy)
      · rename_i hg
        have ih := setK_SL (hb := hb) (v := v) hx hr (fun e => by
          have := h1 e
          simp only [List.map_cons, List.mem_cons] at this
          exact this.resolve_left (fun e => hne e.symm)) (fun e hmem => h2 e (by simp only [List.map_cons]; exact List.mem_cons_of_mem _ hmem))
        have hlt : rk q.1 < rk x := by
          cases hb with
          | true =>
            have := h1 rfl
            simp only [List.map_cons, List.mem_cons] at this
            exact hp.1 (rk x) (List.mem_map.2 ⟨x, this.resolve_left (fun e => hne e.symm), rfl⟩)
          | false =>
            have hg2 : gtb q.1 x = false := by
              cases e : gtb q.1 x with
              | false => rfl
              | true => exact absurd ⟨rfl, e⟩ hg
            rw [gtb_rk hq hx] at hg2
            have : rk q.1 ≠ rk x := fun e => hne (rk_inj _ hq _ hx e)
            simp at hg2
            omega
        simp only [List.map_cons]
        refine ⟨?_, fun y hy => ?_⟩
        · simp only [List.map_cons, List.pairwise_cons]
          refine ⟨fun z hz => ?_, ih.1⟩
          obtain ⟨y, hy, rfl⟩ := List.mem_map.1 hz
          obtain ⟨p, hp2, rfl⟩ := List.mem_map.1 hy
          rcases setK_mem hp2 with e | e
          · rw [e]; exact hlt
          · exact hp.1 _ (List.mem_map.2 ⟨p.1, List.mem_map.2 ⟨p, e, rfl⟩, rfl⟩)
        · rcases List.mem_cons.1 hy with e | hy
          · rw [e]; exact hq
          · exact ih.2 y hy
/-! members of an object -/
theorem cutK_obj (l : List (ByteArray × Tr)) : cutK (obj l) = l.map (·.1) := by simp [cutK, obj, Tr.kind, Tr.k, Tr.v, List.take_of_length_le]
theorem cutV_obj (l : List (ByteArray × Tr)) : cutV (obj l) = l.map (·.2) := by simp [cutV, obj, Tr.kind, Tr.k, Tr.v, List.take_of_length_le]
theorem mems_obj (l : List (ByteArray × Tr)) : mems (obj l) = l := by
  unfold mems
  rw [cutK_obj, cutV_obj]
  induction l with
  | nil => rfl
  | cons p l ih => simp [ih]
def look (l : List (ByteArray × Tr)) (x : ByteArray) : Option Tr := match l with | [] => none | p :: r => if p.1 = x then some p.2 else look r x
theorem memb_obj (l : List (ByteArray × Tr)) (x : ByteArray) : memb (obj l) x = look l x := by
  unfold memb
  rw [cutK_obj, cutV_obj]
  induction l with
  | nil => simp [idx, look]
  | cons p r ih =>
    simp only [List.map_cons, idx, look]
    by_cases h : p.1 = x
    · simp [h]
    · simp only [h, if_false]
      have hg := idx_ge (r.map (·.1)) x
      by_cases h2 : idx (r.map (·.1)) x < 0
      · rw [if_pos h2, if_neg (by omega)]
        rw [if_neg (by omega)] at ih
        exact ih
      · rw [if_neg h2, if_pos (by omega)]
        rw [if_pos (by omega)] at ih
        rw [← ih]
        obtain ⟨n, hn⟩ : ∃ n : Nat, idx (r.map (·.1)) x = n := ⟨(idx (r.map (·.1)) x).toNat, by omega⟩
        rw [hn]
        rfl
theorem look_some {l : List (ByteArray × Tr)} {x : ByteArray} {v : Tr} (h : look l x = some v) : (x, v) ∈ l := by
  induction l with
  | nil => simp [look] at h
  | cons p r ih =>
    simp only [look] at h
    split at h
    · rename_i e; cases h; subst e; exact List.mem_cons_self
    · exact List.mem_cons_of_mem _ (ih h)
theorem look_isSome {l : List (ByteArray × Tr)} {x : ByteArray} : (look l x).isSome = true ↔ x ∈ l.map (·.1) := by
  induction l with
  | nil => simp [look]
  | cons p r ih =>
    simp only [look, List.map_cons, List.mem_cons]
    by_cases h : p.1 = x
    · simp [h]
    · simp [h, ih, Ne.symm h]
theorem tset_obj (l : List (ByteArray × Tr)) (x : ByteArray) (v : Tr) : tset (obj l) x v = obj (setK (look l x).isSome x v false l) := by
  unfold tset
  rw [memb_obj, mems_obj]
/-! what is made -/
def leaf (t : Tr) : Prop := VT t ∧ t.v = [] ∧ t.kind ≠ 7
def GT : Nat → Tr → Prop
  | 0, t => leaf t
  | d + 1, t => leaf t ∨ (∃ v, t = .mk 6 false N0 S0 [] v ∧ v.length ≤ 3 ∧ ∀ u ∈ v, GT d u) ∨ (∃ l, t = obj l ∧ l.length ≤ 3 ∧ SL (l.map (·.1)) ∧ ∀ p ∈ l, GT d p.2)
def nb : Nat → Nat
  | 0 => 1
  | d + 1 => 1 + 3 * nb d
theorem nb_pos (d : Nat) : 1 ≤ nb d := by cases d <;> simp [nb] <;> omega
theorem leaf_GT {d : Nat} {t : Tr} (h : leaf t) : GT d t := by cases d with | zero => exact h | succ d => exact .inl h
theorem nodesL_bound {n : Nat} : ∀ {l : List Tr}, (∀ t ∈ l, nodes t ≤ n) → nodesL l ≤ l.length * n
  | [], _ => by simp [nodesL]
  | t :: l, h => by
    have h1 := h t (by simp)
    have h2 := nodesL_bound (l := l) fun u hu => h u (by simp [hu])
    simp only [nodesL, List.length_cons, Nat.add_mul]
    omega
theorem depthL_bound {n : Nat} : ∀ {l : List Tr}, (∀ t ∈ l, depth t ≤ n) → depthL l ≤ n
  | [], _ => by simp [depthL]
  | t :: l, h => by
    have h1 := h t (by simp)
    have h2 := depthL_bound (l := l) fun u hu => h u (by simp [hu])
    simp only [depthL]
    omega
theorem GT.spec : ∀ {d : Nat} {t : Tr}, GT d t → VT t ∧ depth t ≤ d + 1 ∧ nodes t ≤ nb d
  | 0, t, h => ⟨h.1, by rw [depth_eq, h.2.1]; simp [depthL], by rw [nodes_eq, h.2.1]; simp [nodesL, nb]⟩
  | d + 1, t, h => by
    have hl : ∀ {v : List Tr}, v.length ≤ 3 → (∀ u ∈ v, GT d u) → depthL v ≤ d + 1 ∧ nodesL v ≤ 3 * nb d := fun hv hu =>
      ⟨depthL_bound fun u hm => (hu u hm).spec.2.1, Nat.le_trans (nodesL_bound fun u hm => (hu u hm).spec.2.2) (Nat.mul_le_mul_right _ hv)⟩
    rcases h with h | ⟨v, rfl, hv, hu⟩ | ⟨l, rfl, hv, hs, hu⟩
    · exact ⟨h.1, by rw [depth_eq, h.2.1]; simp [depthL], by rw [nodes_eq, h.2.1]; simp [nodesL, nb]⟩
    · obtain ⟨h1, h2⟩ := hl hv hu
      exact ⟨.arr v (by omega) fun u hm => (hu u hm).spec.1, by rw [depth_eq]; simp only [Tr.v]; omega, by rw [nodes_eq]; simp only [Tr.v, nb]; omega⟩
    · obtain ⟨h1, h2⟩ := hl (v := l.map (·.2)) (by simpa using hv) (fun u hm => by obtain ⟨p, hp, rfl⟩ := List.mem_map.1 hm; exact hu p hp)
      have hvt : VT (.mk 7 false N0 S0 (l.map (·.1)) (l.map (·.2))) := VT.obj _ _ (hs.names (by simp; omega)) (by simp) (fun u hm => by
        obtain ⟨p, hp, rfl⟩ := List.mem_map.1 hm
        exact (hu p hp).spec.1)
      exact ⟨hvt, by rw [depth_eq]; simp only [obj, Tr.v]; omega, by rw [nodes_eq]; simp only [obj, Tr.v, nb]; omega⟩
theorem GT.set {d : Nat} {l : List (ByteArray × Tr)} {x : ByteArray} {v : Tr} (hx : x ∈ N8) (hs : SL (l.map (·.1))) (hu : ∀ p ∈ l, GT d p.2) (hv : GT d v) :
    ∃ k, tset (obj l) x v = obj k ∧ k.length ≤ l.length + 1 ∧ SL (k.map (·.1)) ∧ ∀ p ∈ k, GT d p.2 := by
  refine ⟨_, tset_obj l x v, setK_len, setK_SL hx hs (fun h => look_isSome.1 h) (fun h hm => by rw [look_isSome.2 hm] at h; cases h), fun p hp => ?_⟩
  rcases setK_mem hp with rfl | h
  · exact hv
  · exact hu p h
end Go.Px
end

section
namespace Go.Px
open Go.RowKit

def iD : Int → D := .i .i64
abbrev tN (n : Nm) : Tr := .mk 3 false n S0 [] []
abbrev tT (s : ByteArray) : Tr := .mk 4 false N0 s [] []
abbrev tY (s : ByteArray) : Tr := .mk 5 false N0 s [] []
theorem wk_num (n : Nm) : Wk (.ag [.i .i64 3, .b false, .b n.neg, .sl 1 n.m.length (n.m.map u32), .i .i64 n.e, .s ⟨#[]⟩, .nils, .nils]) (.ag (enc (tN n))) := by
  unfold enc
  simp only [tN, Tr.kind, Tr.b, Tr.n, Tr.s, Tr.k, Tr.v, List.map_nil, List.length_nil, encs_nil]
  exact .ag (.cons (.refl _) (.cons (.refl _) (.cons (.refl _) (.cons (.refl _) (.cons (.refl _) (.cons (.refl _) (.cons (.nils 1) (.cons (.nils 8) .nil))))))))
theorem wk_text (s : ByteArray) : Wk (.ag [.i .i64 4, .b false, .b false, .nils, .i .i64 0, .s s, .nils, .nils]) (.ag (enc (tT s))) := by
  unfold enc
  simp only [tT, Tr.kind, Tr.b, Tr.n, Tr.s, Tr.k, Tr.v, List.map_nil, List.length_nil, encs_nil]
  exact .ag (.cons (.refl _) (.cons (.refl _) (.cons (.refl _) (.cons (.nils 1) (.cons (.refl _) (.cons (.refl _) (.cons (.nils 1) (.cons (.nils 8) .nil))))))))
theorem wk_bytes (s : ByteArray) : Wk (.ag [.i .i64 5, .b false, .b false, .nils, .i .i64 0, .s s, .nils, .nils]) (.ag (enc (tY s))) := by
  unfold enc
  simp only [tY, Tr.kind, Tr.b, Tr.n, Tr.s, Tr.k, Tr.v, List.map_nil, List.length_nil, encs_nil]
  exact .ag (.cons (.refl _) (.cons (.refl _) (.cons (.refl _) (.cons (.nils 1) (.cons (.refl _) (.cons (.refl _) (.cons (.nils 1) (.cons (.nils 8) .nil))))))))
theorem wk_arr (v : List Tr) : Wk (.ag [.i .i64 6, .b false, .b false, .nils, .i .i64 0, .s ⟨#[]⟩, .nils, .sl 8 v.length (encs v)]) (.ag (enc (.mk 6 false N0 S0 [] v))) := by
  unfold enc
  simp only [Tr.kind, Tr.b, Tr.n, Tr.s, Tr.k, Tr.v, List.map_nil, List.length_nil]
  exact .ag (.cons (.refl _) (.cons (.refl _) (.cons (.refl _) (.cons (.nils 1) (.cons (.refl _) (.cons (.refl _) (.cons (.nils 1) (.cons (.refl _) .nil))))))))
theorem wk_objn : Wk (.ag [.i .i64 7, .b false, .b false, .nils, .i .i64 0, .s ⟨#[]⟩, .nils, .nils]) (.ag (enc (obj []))) := wk_obj0
abbrev sT : ByteArray := ⟨#[97, 98, 99, 34, 92, 10, 195, 169, 122]⟩
abbrev sY : ByteArray := ⟨#[0, 255, 97, 98]⟩
def q9 (j : Nat) : Nat := if j < 7 then j else j + 1
theorem q9_at (j : Nat) (h : j < 9) : [D.i .i64 0, D.i .i64 1, D.i .i64 2, D.i .i64 3, D.i .i64 4, D.i .i64 5, D.i .i64 6, D.i .i64 8, D.i .i64 9][(j : Int).toNat]? = some (.i .i64 (q9 j : Nat)) := by
  match j, h with
  | 0, _ => rfl | 1, _ => rfl | 2, _ => rfl | 3, _ => rfl | 4, _ => rfl | 5, _ => rfl | 6, _ => rfl | 7, _ => rfl | 8, _ => rfl
theorem q9_le {j : Nat} (h : j < 9) : q9 j ≤ 9 := by unfold q9; split <;> omega
theorem q9_text {j : Nat} (h : j < 9) : TextOK (sT.extract 0 (q9 j : Int).toNat) := by
  match j, h with
  | 0, _ => exact ⟨by decide, by decide +kernel⟩
  | 1, _ => exact ⟨by decide, by decide +kernel⟩
  | 2, _ => exact ⟨by decide, by decide +kernel⟩
  | 3, _ => exact ⟨by decide, by decide +kernel⟩
  | 4, _ => exact ⟨by decide, by decide +kernel⟩
  | 5, _ => exact ⟨by decide, by decide +kernel⟩
  | 6, _ => exact ⟨by decide, by decide +kernel⟩
  | 7, _ => exact ⟨by decide, by decide +kernel⟩
  | 8, _ => exact ⟨by decide, by decide +kernel⟩
theorem lf_null : leaf tNull := ⟨.null, rfl, by simp [Tr.kind]⟩
theorem lf_bool (b : Bool) : leaf (tB b) := ⟨.bool b, rfl, by simp [Tr.kind]⟩
theorem lf_num {n : Nm} (h : NOK n) : leaf (tN n) := ⟨.num n h, rfl, by simp [Tr.kind]⟩
theorem lf_text {s : ByteArray} (h : TextOK s) : leaf (tT s) := ⟨.text s h, rfl, by simp [Tr.kind]⟩
theorem lf_bytes {s : ByteArray} (h : s.size ≤ 2000) : leaf (tY s) := ⟨.bytes s h, rfl, by simp [Tr.kind]⟩
def MP (d : Nat) (l : List Int) (t : Tr) (r : List Int) : Prop := Pure Go.Proofs.Tryz.prog 40 [.sl 1 l.length (l.map iD), .i .i64 d] (.ret (.tup [.ag (enc t), .sl 1 r.length (r.map iD)]))
theorem made_nil (d : Nat) : MP d [] tNull [] := by
  unfold MP
  refine Pure.body tys_valid (fn := Go.Proofs.Tryz.f40) (by kernel_rfl) rfl (by kernel_rfl) rfl ?_
  intro w ok giv E0 _ hE
  refine H.go 200 [] [(18, true)] dr40 rfl ?_ ?_
  · repeat' (first | exact AllP.n | exact trivial | exact DrawB.mk (by decide +kernel) | exact fun _ => rfl | refine AllP.c ?_ ?_)
    all_goals (try dsimp only)
    all_goals try first | exact rfl | exact ⟨trivial, rfl⟩ | exact ⟨trivial, bts_t rfl⟩ | omega | exact at_tr _ _ (by omega) | exact at_s _ _ (by omega) | exact dt (by omega) | exact df (by omega) | exact decide_eq_true (by omega) | exact decide_eq_false (by omega) | exact bts_t (by assumption) | exact bts_f (by assumption) | (rw [bts_t (by assumption)]; rfl) | (rw [bts_f (by assumption)]; rfl) | (unfold InR; omega)
  refine ⟨_, _, rfl, ?_, ?_⟩
  · repeat' (first | exact AllP.n | exact trivial | exact DrawB.mk (by decide +kernel) | exact fun _ => rfl | refine AllP.c ?_ ?_)
    all_goals (try dsimp only)
    all_goals try first | exact rfl | exact ⟨trivial, rfl⟩ | exact ⟨trivial, bts_t rfl⟩ | omega | exact at_tr _ _ (by omega) | exact at_s _ _ (by omega) | exact dt (by omega) | exact df (by omega) | exact decide_eq_true (by omega) | exact decide_eq_false (by omega) | exact bts_t (by assumption) | exact bts_f (by assumption) | (rw [bts_t (by assumption)]; rfl) | (rw [bts_f (by assumption)]; rfl) | (unfold InR; omega)
  · exact .tup (.cons wk_null (.cons (.nils 1) .nil))
theorem made_z0 (x : Int) (r : List Int) (v : Nat) (hv : v < 1073741824) (hx : x % 1073741824 = v) (hc : v % 12 = 0) : ∃ t, leaf t ∧ MP 0 (x :: r) t r := by
  have hp := place_ct x 1073741824 (by omega) (by omega)
  rw [hx] at hp
  refine ⟨tNull, lf_null, ?_⟩
  unfold MP
  refine Pure.body tys_valid (fn := Go.Proofs.Tryz.f40) (by kernel_rfl) rfl (by kernel_rfl) rfl ?_
  intro w ok giv E0 _ hE
  refine H.go 200 [(3, [(3, .res (.ret (.i .i64 (v : Nat))))]), (5, [(1, .val (.i .i64 ((0 : Nat) : Int)))]), (6, [(1, .gd true), (4, .gd false)])] [(18, false), (33, false)] dr40 rfl ?_ ?_
  · repeat' (first | exact AllP.n | exact trivial | exact DrawB.mk (by decide +kernel) | exact fun _ => rfl | refine AllP.c ?_ ?_)
    all_goals (try dsimp only)
    all_goals try first | exact rfl | exact ⟨trivial, rfl⟩ | exact ⟨trivial, bts_t rfl⟩ | omega | exact at_tr _ _ (by omega) | exact at_s _ _ (by omega) | exact dt (by omega) | exact df (by omega) | exact decide_eq_true (by omega) | exact decide_eq_false (by omega) | exact bts_t (by assumption) | exact bts_f (by assumption) | (rw [bts_t (by assumption)]; rfl) | (rw [bts_f (by assumption)]; rfl) | (unfold InR; omega) | exact hp | (refine ⟨by omega, ?_⟩; rw [List.length_cons]; omega) | exact ⟨by unfold InR; omega, rfl⟩ | (refine ⟨?_, ?_⟩; exact trivial; exact ei (remN v 12)) | (refine ⟨?_, ?_⟩ <;> first | omega | exact ei (quoN v 12 (by omega))) | exact ⟨by omega, ei (remN _ _)⟩ | exact ⟨by omega, ei (quoN _ _ (by omega))⟩ | exact ⟨by omega, (ei (remN _ _)).trans (ei (by rw [hc]))⟩ | (simp; done)
  refine ⟨_, _, rfl, ?_, ?_⟩
  · repeat' (first | exact AllP.n | exact trivial | exact DrawB.mk (by decide +kernel) | exact fun _ => rfl | refine AllP.c ?_ ?_)
    all_goals (try dsimp only)
    all_goals try first | exact rfl | exact ⟨trivial, rfl⟩ | exact ⟨trivial, bts_t rfl⟩ | omega | exact at_tr _ _ (by omega) | exact at_s _ _ (by omega) | exact dt (by omega) | exact df (by omega) | exact decide_eq_true (by omega) | exact decide_eq_false (by omega) | exact bts_t (by assumption) | exact bts_f (by assumption) | (rw [bts_t (by assumption)]; rfl) | (rw [bts_f (by assumption)]; rfl) | (unfold InR; omega)
  · exact .tup (.cons (wk_null) (.cons (.refl _) .nil))
theorem made_z1 (x : Int) (r : List Int) (v : Nat) (hv : v < 1073741824) (hx : x % 1073741824 = v) (hc : v % 12 = 1) : ∃ t, leaf t ∧ MP 0 (x :: r) t r := by
  have hp := place_ct x 1073741824 (by omega) (by omega)
  rw [hx] at hp
  refine ⟨tB (((v / 12 % 2 : Nat) : Int) == 1), lf_bool _, ?_⟩
  unfold MP
  refine Pure.body tys_valid (fn := Go.Proofs.Tryz.f40) (by kernel_rfl) rfl (by kernel_rfl) rfl ?_
  intro w ok giv E0 _ hE
  refine H.go 200 [(3, [(3, .res (.ret (.i .i64 (v : Nat))))]), (5, [(1, .val (.i .i64 ((1 : Nat) : Int)))]), (6, [(1, .gd true), (4, .gd false)]), (12, [(1, .val (.i .i64 ((v / 12 : Nat) : Int))), (2, .val (.i .i64 ((v / 12 % 2 : Nat) : Int)))])] [(18, false), (33, false)] dr40 rfl ?_ ?_
  · repeat' (first | exact AllP.n | exact trivial | exact DrawB.mk (by decide +kernel) | exact fun _ => rfl | refine AllP.c ?_ ?_)
    all_goals (try dsimp only)
    all_goals try first | exact rfl | exact ⟨trivial, rfl⟩ | exact ⟨trivial, bts_t rfl⟩ | omega | exact at_tr _ _ (by omega) | exact at_s _ _ (by omega) | exact dt (by omega) | exact df (by omega) | exact decide_eq_true (by omega) | exact decide_eq_false (by omega) | exact bts_t (by assumption) | exact bts_f (by assumption) | (rw [bts_t (by assumption)]; rfl) | (rw [bts_f (by assumption)]; rfl) | (unfold InR; omega) | exact hp | (refine ⟨by omega, ?_⟩; rw [List.length_cons]; omega) | exact ⟨by unfold InR; omega, rfl⟩ | (refine ⟨?_, ?_⟩; exact trivial; exact ei (remN v 12)) | (refine ⟨?_, ?_⟩ <;> first | omega | exact ei (quoN v 12 (by omega))) | exact ⟨by omega, ei (remN _ _)⟩ | exact ⟨by omega, ei (quoN _ _ (by omega))⟩ | exact ⟨by omega, (ei (remN _ _)).trans (ei (by rw [hc]))⟩ | (simp; done)
  refine ⟨_, _, rfl, ?_, ?_⟩
  · repeat' (first | exact AllP.n | exact trivial | exact DrawB.mk (by decide +kernel) | exact fun _ => rfl | refine AllP.c ?_ ?_)
    all_goals (try dsimp only)
    all_goals try first | exact rfl | exact ⟨trivial, rfl⟩ | exact ⟨trivial, bts_t rfl⟩ | omega | exact at_tr _ _ (by omega) | exact at_s _ _ (by omega) | exact dt (by omega) | exact df (by omega) | exact decide_eq_true (by omega) | exact decide_eq_false (by omega) | exact bts_t (by assumption) | exact bts_f (by assumption) | (rw [bts_t (by assumption)]; rfl) | (rw [bts_f (by assumption)]; rfl) | (unfold InR; omega)
  · exact .tup (.cons (wk_bool _) (.cons (.refl _) .nil))
theorem made_z2 (x : Int) (r : List Int) (v : Nat) (hv : v < 1073741824) (hx : x % 1073741824 = v) (hc : v % 12 = 2) : ∃ t, leaf t ∧ MP 0 (x :: r) t r := by
  have hp := place_ct x 1073741824 (by omega) (by omega)
  rw [hx] at hp
  obtain ⟨n, hn, hnum⟩ := number_ct (v / 12) (by omega)
  refine ⟨tN n, lf_num hn, ?_⟩
  unfold MP
  refine Pure.body tys_valid (fn := Go.Proofs.Tryz.f40) (by kernel_rfl) rfl (by kernel_rfl) rfl ?_
  intro w ok giv E0 _ hE
  refine H.go 200 [(3, [(3, .res (.ret (.i .i64 (v : Nat))))]), (5, [(1, .val (.i .i64 ((2 : Nat) : Int)))]), (6, [(1, .gd true), (4, .gd false)]), (15, [(1, .val (.i .i64 ((v / 12 : Nat) : Int))), (2, .res (.ret (.ag (encN n))))])] [(18, false), (33, false)] dr40 rfl ?_ ?_
  · repeat' (first | exact AllP.n | exact trivial | exact DrawB.mk (by decide +kernel) | exact fun _ => rfl | refine AllP.c ?_ ?_)
    all_goals (try dsimp only)
    all_goals try first | exact rfl | exact ⟨trivial, rfl⟩ | exact ⟨trivial, bts_t rfl⟩ | omega | exact at_tr _ _ (by omega) | exact at_s _ _ (by omega) | exact dt (by omega) | exact df (by omega) | exact decide_eq_true (by omega) | exact decide_eq_false (by omega) | exact bts_t (by assumption) | exact bts_f (by assumption) | (rw [bts_t (by assumption)]; rfl) | (rw [bts_f (by assumption)]; rfl) | (unfold InR; omega) | exact hp | (refine ⟨by omega, ?_⟩; rw [List.length_cons]; omega) | exact ⟨by unfold InR; omega, rfl⟩ | (refine ⟨?_, ?_⟩; exact trivial; exact ei (remN v 12)) | (refine ⟨?_, ?_⟩ <;> first | omega | exact ei (quoN v 12 (by omega))) | exact ⟨by omega, ei (remN _ _)⟩ | exact ⟨by omega, ei (quoN _ _ (by omega))⟩ | exact ⟨by omega, (ei (remN _ _)).trans (ei (by rw [hc]))⟩ | (simp; done) | exact hnum
  refine ⟨_, _, rfl, ?_, ?_⟩
  · repeat' (first | exact AllP.n | exact trivial | exact DrawB.mk (by decide +kernel) | exact fun _ => rfl | refine AllP.c ?_ ?_)
    all_goals (try dsimp only)
    all_goals try first | exact rfl | exact ⟨trivial, rfl⟩ | exact ⟨trivial, bts_t rfl⟩ | omega | exact at_tr _ _ (by omega) | exact at_s _ _ (by omega) | exact dt (by omega) | exact df (by omega) | exact decide_eq_true (by omega) | exact decide_eq_false (by omega) | exact bts_t (by assumption) | exact bts_f (by assumption) | (rw [bts_t (by assumption)]; rfl) | (rw [bts_f (by assumption)]; rfl) | (unfold InR; omega)
  · exact .tup (.cons (wk_num n) (.cons (.refl _) .nil))
theorem made_z3 (x : Int) (r : List Int) (v : Nat) (hv : v < 1073741824) (hx : x % 1073741824 = v) (hc : v % 12 = 3) : ∃ t, leaf t ∧ MP 0 (x :: r) t r := by
  have hp := place_ct x 1073741824 (by omega) (by omega)
  rw [hx] at hp
  obtain ⟨n, hn, hnum⟩ := number_ct (v / 12) (by omega)
  refine ⟨tN n, lf_num hn, ?_⟩
  unfold MP
  refine Pure.body tys_valid (fn := Go.Proofs.Tryz.f40) (by kernel_rfl) rfl (by kernel_rfl) rfl ?_
  intro w ok giv E0 _ hE
  refine H.go 200 [(3, [(3, .res (.ret (.i .i64 (v : Nat))))]), (5, [(1, .val (.i .i64 ((3 : Nat) : Int)))]), (6, [(1, .gd true), (4, .gd false)]), (15, [(1, .val (.i .i64 ((v / 12 : Nat) : Int))), (2, .res (.ret (.ag (encN n))))])] [(18, false), (33, false)] dr40 rfl ?_ ?_
  · repeat' (first | exact AllP.n | exact trivial | exact DrawB.mk (by decide +kernel) | exact fun _ => rfl | refine AllP.c ?_ ?_)
    all_goals (try dsimp only)
    all_goals try first | exact rfl | exact ⟨trivial, rfl⟩ | exact ⟨trivial, bts_t rfl⟩ | omega | exact at_tr _ _ (by omega) | exact at_s _ _ (by omega) | exact dt (by omega) | exact df (by omega) | exact decide_eq_true (by omega) | exact decide_eq_false (by omega) | exact bts_t (by assumption) | exact bts_f (by assumption) | (rw [bts_t (by assumption)]; rfl) | (rw [bts_f (by assumption)]; rfl) | (unfold InR; omega) | exact hp | (refine ⟨by omega, ?_⟩; rw [List.length_cons]; omega) | exact ⟨by unfold InR; omega, rfl⟩ | (refine ⟨?_, ?_⟩; exact trivial; exact ei (remN v 12)) | (refine ⟨?_, ?_⟩ <;> first | omega | exact ei (quoN v 12 (by omega))) | exact ⟨by omega, ei (remN _ _)⟩ | exact ⟨by omega, ei (quoN _ _ (by omega))⟩ | exact ⟨by omega, (ei (remN _ _)).trans (ei (by rw [hc]))⟩ | (simp; done) | exact hnum
  refine ⟨_, _, rfl, ?_, ?_⟩
  · repeat' (first | exact AllP.n | exact trivial | exact DrawB.mk (by decide +kernel) | exact fun _ => rfl | refine AllP.c ?_ ?_)
    all_goals (try dsimp only)
    all_goals try first | exact rfl | exact ⟨trivial, rfl⟩ | exact ⟨trivial, bts_t rfl⟩ | omega | exact at_tr _ _ (by omega) | exact at_s _ _ (by omega) | exact dt (by omega) | exact df (by omega) | exact decide_eq_true (by omega) | exact decide_eq_false (by omega) | exact bts_t (by assumption) | exact bts_f (by assumption) | (rw [bts_t (by assumption)]; rfl) | (rw [bts_f (by assumption)]; rfl) | (unfold InR; omega)
  · exact .tup (.cons (wk_num n) (.cons (.refl _) .nil))
theorem made_z4 (x : Int) (r : List Int) (v : Nat) (hv : v < 1073741824) (hx : x % 1073741824 = v) (hc : v % 12 = 4) : ∃ t, leaf t ∧ MP 0 (x :: r) t r := by
  have hp := place_ct x 1073741824 (by omega) (by omega)
  rw [hx] at hp
  have hq := q9_at (v / 12 % 9) (by omega)
  have hq2 := q9_le (j := v / 12 % 9) (by omega)
  refine ⟨tT (sT.extract 0 (q9 (v / 12 % 9) : Int).toNat), lf_text (q9_text (by omega)), ?_⟩
  unfold MP
  refine Pure.body tys_valid (fn := Go.Proofs.Tryz.f40) (by kernel_rfl) rfl (by kernel_rfl) rfl ?_
  intro w ok giv E0 _ hE
  refine H.go 200 [(3, [(3, .res (.ret (.i .i64 (v : Nat))))]), (5, [(1, .val (.i .i64 ((4 : Nat) : Int)))]), (6, [(1, .gd true), (4, .gd false)]), (17, [(2, .val (.i .i64 ((v / 12 : Nat) : Int))), (3, .val (.i .i64 ((v / 12 % 9 : Nat) : Int))), (4, .cell (.i .i64 (q9 (v / 12 % 9) : Nat)))])] [(18, false), (33, false)] dr40 rfl ?_ ?_
  · repeat' (first | exact AllP.n | exact trivial | exact DrawB.mk (by decide +kernel) | exact fun _ => rfl | refine AllP.c ?_ ?_)
    all_goals (try dsimp only)
    all_goals try first | exact rfl | exact ⟨trivial, rfl⟩ | exact ⟨trivial, bts_t rfl⟩ | omega | exact at_tr _ _ (by omega) | exact at_s _ _ (by omega) | exact dt (by omega) | exact df (by omega) | exact decide_eq_true (by omega) | exact decide_eq_false (by omega) | exact bts_t (by assumption) | exact bts_f (by assumption) | (rw [bts_t (by assumption)]; rfl) | (rw [bts_f (by assumption)]; rfl) | (unfold InR; omega) | exact hp | (refine ⟨by omega, ?_⟩; rw [List.length_cons]; omega) | exact ⟨by unfold InR; omega, rfl⟩ | (refine ⟨?_, ?_⟩; exact trivial; exact ei (remN v 12)) | (refine ⟨?_, ?_⟩ <;> first | omega | exact ei (quoN v 12 (by omega))) | exact ⟨by omega, ei (remN _ _)⟩ | exact ⟨by omega, ei (quoN _ _ (by omega))⟩ | exact ⟨by omega, (ei (remN _ _)).trans (ei (by rw [hc]))⟩ | (simp; done) | exact ⟨hq, by omega, by omega⟩ | exact ⟨by omega, by show ((q9 (v / 12 % 9) : Nat) : Int) ≤ 9; omega⟩
  refine ⟨_, _, rfl, ?_, ?_⟩
  · repeat' (first | exact AllP.n | exact trivial | exact DrawB.mk (by decide +kernel) | exact fun _ => rfl | refine AllP.c ?_ ?_)
    all_goals (try dsimp only)
    all_goals try first | exact rfl | exact ⟨trivial, rfl⟩ | exact ⟨trivial, bts_t rfl⟩ | omega | exact at_tr _ _ (by omega) | exact at_s _ _ (by omega) | exact dt (by omega) | exact df (by omega) | exact decide_eq_true (by omega) | exact decide_eq_false (by omega) | exact bts_t (by assumption) | exact bts_f (by assumption) | (rw [bts_t (by assumption)]; rfl) | (rw [bts_f (by assumption)]; rfl) | (unfold InR; omega)
  · exact .tup (.cons (wk_text _) (.cons (.refl _) .nil))
theorem made_z5 (x : Int) (r : List Int) (v : Nat) (hv : v < 1073741824) (hx : x % 1073741824 = v) (hc : v % 12 = 5) : ∃ t, leaf t ∧ MP 0 (x :: r) t r := by
  have hp := place_ct x 1073741824 (by omega) (by omega)
  rw [hx] at hp
  refine ⟨tY (sY.extract 0 (v / 12 % 5 : Nat)), lf_bytes (by simp [ByteArray.size_extract]; omega), ?_⟩
  unfold MP
  refine Pure.body tys_valid (fn := Go.Proofs.Tryz.f40) (by kernel_rfl) rfl (by kernel_rfl) rfl ?_
  intro w ok giv E0 _ hE
  refine H.go 200 [(3, [(3, .res (.ret (.i .i64 (v : Nat))))]), (5, [(1, .val (.i .i64 ((5 : Nat) : Int)))]), (6, [(1, .gd true), (4, .gd false)]), (19, [(1, .val (.i .i64 ((v / 12 : Nat) : Int))), (2, .val (.i .i64 ((v / 12 % 5 : Nat) : Int)))])] [(18, false), (33, false)] dr40 rfl ?_ ?_
  · repeat' (first | exact AllP.n | exact trivial | exact DrawB.mk (by decide +kernel) | exact fun _ => rfl | refine AllP.c ?_ ?_)
    all_goals (try dsimp only)
    all_goals try first | exact rfl | exact ⟨trivial, rfl⟩ | exact ⟨trivial, bts_t rfl⟩ | omega | exact at_tr _ _ (by omega) | exact at_s _ _ (by omega) | exact dt (by omega) | exact df (by omega) | exact decide_eq_true (by omega) | exact decide_eq_false (by omega) | exact bts_t (by assumption) | exact bts_f (by assumption) | (rw [bts_t (by assumption)]; rfl) | (rw [bts_f (by assumption)]; rfl) | (unfold InR; omega) | exact hp | (refine ⟨by omega, ?_⟩; rw [List.length_cons]; omega) | exact ⟨by unfold InR; omega, rfl⟩ | (refine ⟨?_, ?_⟩; exact trivial; exact ei (remN v 12)) | (refine ⟨?_, ?_⟩ <;> first | omega | exact ei (quoN v 12 (by omega))) | exact ⟨by omega, ei (remN _ _)⟩ | exact ⟨by omega, ei (quoN _ _ (by omega))⟩ | exact ⟨by omega, (ei (remN _ _)).trans (ei (by rw [hc]))⟩ | (simp; done) | exact ⟨by omega, by show ((v / 12 % 5 : Nat) : Int) ≤ 4; omega⟩
  refine ⟨_, _, rfl, ?_, ?_⟩
  · repeat' (first | exact AllP.n | exact trivial | exact DrawB.mk (by decide +kernel) | exact fun _ => rfl | refine AllP.c ?_ ?_)
    all_goals (try dsimp only)
    all_goals try first | exact rfl | exact ⟨trivial, rfl⟩ | exact ⟨trivial, bts_t rfl⟩ | omega | exact at_tr _ _ (by omega) | exact at_s _ _ (by omega) | exact dt (by omega) | exact df (by omega) | exact decide_eq_true (by omega) | exact decide_eq_false (by omega) | exact bts_t (by assumption) | exact bts_f (by assumption) | (rw [bts_t (by assumption)]; rfl) | (rw [bts_f (by assumption)]; rfl) | (unfold InR; omega)
  · exact .tup (.cons (wk_bytes _) (.cons (.refl _) .nil))
theorem made_z6 (x : Int) (r : List Int) (v : Nat) (hv : v < 1073741824) (hx : x % 1073741824 = v) (hc : v % 12 = 6) : ∃ t, leaf t ∧ MP 0 (x :: r) t r := by
  have hp := place_ct x 1073741824 (by omega) (by omega)
  rw [hx] at hp
  refine ⟨tNull, lf_null, ?_⟩
  unfold MP
  refine Pure.body tys_valid (fn := Go.Proofs.Tryz.f40) (by kernel_rfl) rfl (by kernel_rfl) rfl ?_
  intro w ok giv E0 _ hE
  refine H.go 200 [(3, [(3, .res (.ret (.i .i64 (v : Nat))))]), (5, [(1, .val (.i .i64 ((6 : Nat) : Int)))]), (6, [(1, .gd true), (4, .gd true)]), (7, [(1, .val (.i .i64 ((0 : Nat) : Int)))])] [(18, false), (33, true)] dr40 rfl ?_ ?_
  · repeat' (first | exact AllP.n | exact trivial | exact DrawB.mk (by decide +kernel) | exact fun _ => rfl | refine AllP.c ?_ ?_)
    all_goals (try dsimp only)
    all_goals try first | exact rfl | exact ⟨trivial, rfl⟩ | exact ⟨trivial, bts_t rfl⟩ | omega | exact at_tr _ _ (by omega) | exact at_s _ _ (by omega) | exact dt (by omega) | exact df (by omega) | exact decide_eq_true (by omega) | exact decide_eq_false (by omega) | exact bts_t (by assumption) | exact bts_f (by assumption) | (rw [bts_t (by assumption)]; rfl) | (rw [bts_f (by assumption)]; rfl) | (unfold InR; omega) | exact hp | (refine ⟨by omega, ?_⟩; rw [List.length_cons]; omega) | exact ⟨by unfold InR; omega, rfl⟩ | (refine ⟨?_, ?_⟩; exact trivial; exact ei (remN v 12)) | (refine ⟨?_, ?_⟩ <;> first | omega | exact ei (quoN v 12 (by omega))) | exact ⟨by omega, ei (remN _ _)⟩ | exact ⟨by omega, ei (quoN _ _ (by omega))⟩ | exact ⟨by omega, (ei (remN _ _)).trans (ei (by rw [hc]))⟩ | (simp; done)
  refine ⟨_, _, rfl, ?_, ?_⟩
  · repeat' (first | exact AllP.n | exact trivial | exact DrawB.mk (by decide +kernel) | exact fun _ => rfl | refine AllP.c ?_ ?_)
    all_goals (try dsimp only)
    all_goals try first | exact rfl | exact ⟨trivial, rfl⟩ | exact ⟨trivial, bts_t rfl⟩ | omega | exact at_tr _ _ (by omega) | exact at_s _ _ (by omega) | exact dt (by omega) | exact df (by omega) | exact decide_eq_true (by omega) | exact decide_eq_false (by omega) | exact bts_t (by assumption) | exact bts_f (by assumption) | (rw [bts_t (by assumption)]; rfl) | (rw [bts_f (by assumption)]; rfl) | (unfold InR; omega)
  · exact .tup (.cons (wk_null) (.cons (.refl _) .nil))
theorem made_z7 (x : Int) (r : List Int) (v : Nat) (hv : v < 1073741824) (hx : x % 1073741824 = v) (hc : v % 12 = 7) : ∃ t, leaf t ∧ MP 0 (x :: r) t r := by
  have hp := place_ct x 1073741824 (by omega) (by omega)
  rw [hx] at hp
  refine ⟨tB (((v / 12 % 2 : Nat) : Int) == 1), lf_bool _, ?_⟩
  unfold MP
  refine Pure.body tys_valid (fn := Go.Proofs.Tryz.f40) (by kernel_rfl) rfl (by kernel_rfl) rfl ?_
  intro w ok giv E0 _ hE
  refine H.go 200 [(3, [(3, .res (.ret (.i .i64 (v : Nat))))]), (5, [(1, .val (.i .i64 ((7 : Nat) : Int)))]), (6, [(1, .gd true), (4, .gd true)]), (7, [(1, .val (.i .i64 ((1 : Nat) : Int)))]), (12, [(1, .val (.i .i64 ((v / 12 : Nat) : Int))), (2, .val (.i .i64 ((v / 12 % 2 : Nat) : Int)))])] [(18, false), (33, true)] dr40 rfl ?_ ?_
  · repeat' (first | exact AllP.n | exact trivial | exact DrawB.mk (by decide +kernel) | exact fun _ => rfl | refine AllP.c ?_ ?_)
    all_goals (try dsimp only)
    all_goals try first | exact rfl | exact ⟨trivial, rfl⟩ | exact ⟨trivial, bts_t rfl⟩ | omega | exact at_tr _ _ (by omega) | exact at_s _ _ (by omega) | exact dt (by omega) | exact df (by omega) | exact decide_eq_true (by omega) | exact decide_eq_false (by omega) | exact bts_t (by assumption) | exact bts_f (by assumption) | (rw [bts_t (by assumption)]; rfl) | (rw [bts_f (by assumption)]; rfl) | (unfold InR; omega) | exact hp | (refine ⟨by omega, ?_⟩; rw [List.length_cons]; omega) | exact ⟨by unfold InR; omega, rfl⟩ | (refine ⟨?_, ?_⟩; exact trivial; exact ei (remN v 12)) | (refine ⟨?_, ?_⟩ <;> first | omega | exact ei (quoN v 12 (by omega))) | exact ⟨by omega, ei (remN _ _)⟩ | exact ⟨by omega, ei (quoN _ _ (by omega))⟩ | exact ⟨by omega, (ei (remN _ _)).trans (ei (by rw [hc]))⟩ | (simp; done)
  refine ⟨_, _, rfl, ?_, ?_⟩
  · repeat' (first | exact AllP.n | exact trivial | exact DrawB.mk (by decide +kernel) | exact fun _ => rfl | refine AllP.c ?_ ?_)
    all_goals (try dsimp only)
    all_goals try first | exact rfl | exact ⟨trivial, rfl⟩ | exact ⟨trivial, bts_t rfl⟩ | omega | exact at_tr _ _ (by omega) | exact at_s _ _ (by omega) | exact dt (by omega) | exact df (by omega) | exact decide_eq_true (by omega) | exact decide_eq_false (by omega) | exact bts_t (by assumption) | exact bts_f (by assumption) | (rw [bts_t (by assumption)]; rfl) | (rw [bts_f (by assumption)]; rfl) | (unfold InR; omega)
  · exact .tup (.cons (wk_bool _) (.cons (.refl _) .nil))
theorem made_z8 (x : Int) (r : List Int) (v : Nat) (hv : v < 1073741824) (hx : x % 1073741824 = v) (hc : v % 12 = 8) : ∃ t, leaf t ∧ MP 0 (x :: r) t r := by
  have hp := place_ct x 1073741824 (by omega) (by omega)
  rw [hx] at hp
  obtain ⟨n, hn, hnum⟩ := number_ct (v / 12) (by omega)
  refine ⟨tN n, lf_num hn, ?_⟩
  unfold MP
  refine Pure.body tys_valid (fn := Go.Proofs.Tryz.f40) (by kernel_rfl) rfl (by kernel_rfl) rfl ?_
  intro w ok giv E0 _ hE
  refine H.go 200 [(3, [(3, .res (.ret (.i .i64 (v : Nat))))]), (5, [(1, .val (.i .i64 ((8 : Nat) : Int)))]), (6, [(1, .gd true), (4, .gd true)]), (7, [(1, .val (.i .i64 ((2 : Nat) : Int)))]), (15, [(1, .val (.i .i64 ((v / 12 : Nat) : Int))), (2, .res (.ret (.ag (encN n))))])] [(18, false), (33, true)] dr40 rfl ?_ ?_
  · repeat' (first | exact AllP.n | exact trivial | exact DrawB.mk (by decide +kernel) | exact fun _ => rfl | refine AllP.c ?_ ?_)
    all_goals (try dsimp only)
    all_goals try first | exact rfl | exact ⟨trivial, rfl⟩ | exact ⟨trivial, bts_t rfl⟩ | omega | exact at_tr _ _ (by omega) | exact at_s _ _ (by omega) | exact dt (by omega) | exact df (by omega) | exact decide_eq_true (by omega) | exact decide_eq_false (by omega) | exact bts_t (by assumption) | exact bts_f (by assumption) | (rw [bts_t (by assumption)]; rfl) | (rw [bts_f (by assumption)]; rfl) | (unfold InR; omega) | exact hp | (refine ⟨by omega, ?_⟩; rw [List.length_cons]; omega) | exact ⟨by unfold InR; omega, rfl⟩ | (refine ⟨?_, ?_⟩; exact trivial; exact ei (remN v 12)) | (refine ⟨?_, ?_⟩ <;> first | omega | exact ei (quoN v 12 (by omega))) | exact ⟨by omega, ei (remN _ _)⟩ | exact ⟨by omega, ei (quoN _ _ (by omega))⟩ | exact ⟨by omega, (ei (remN _ _)).trans (ei (by rw [hc]))⟩ | (simp; done) | exact hnum
  refine ⟨_, _, rfl, ?_, ?_⟩
  · repeat' (first | exact AllP.n | exact trivial | exact DrawB.mk (by decide +kernel) | exact fun _ => rfl | refine AllP.c ?_ ?_)
    all_goals (try dsimp only)
    all_goals try first | exact rfl | exact ⟨trivial, rfl⟩ | exact ⟨trivial, bts_t rfl⟩ | omega | exact at_tr _ _ (by omega) | exact at_s _ _ (by omega) | exact dt (by omega) | exact df (by omega) | exact decide_eq_true (by omega) | exact decide_eq_false (by omega) | exact bts_t (by assumption) | exact bts_f (by assumption) | (rw [bts_t (by assumption)]; rfl) | (rw [bts_f (by assumption)]; rfl) | (unfold InR; omega)
  · exact .tup (.cons (wk_num n) (.cons (.refl _) .nil))
theorem made_z9 (x : Int) (r : List Int) (v : Nat) (hv : v < 1073741824) (hx : x % 1073741824 = v) (hc : v % 12 = 9) : ∃ t, leaf t ∧ MP 0 (x :: r) t r := by
  have hp := place_ct x 1073741824 (by omega) (by omega)
  rw [hx] at hp
  obtain ⟨n, hn, hnum⟩ := number_ct (v / 12) (by omega)
  refine ⟨tN n, lf_num hn, ?_⟩
  unfold MP
  refine Pure.body tys_valid (fn := Go.Proofs.Tryz.f40) (by kernel_rfl) rfl (by kernel_rfl) rfl ?_
  intro w ok giv E0 _ hE
  refine H.go 200 [(3, [(3, .res (.ret (.i .i64 (v : Nat))))]), (5, [(1, .val (.i .i64 ((9 : Nat) : Int)))]), (6, [(1, .gd true), (4, .gd true)]), (7, [(1, .val (.i .i64 ((3 : Nat) : Int)))]), (15, [(1, .val (.i .i64 ((v / 12 : Nat) : Int))), (2, .res (.ret (.ag (encN n))))])] [(18, false), (33, true)] dr40 rfl ?_ ?_
  · repeat' (first | exact AllP.n | exact trivial | exact DrawB.mk (by decide +kernel) | exact fun _ => rfl | refine AllP.c ?_ ?_)
    all_goals (try dsimp only)
    all_goals try first | exact rfl | exact ⟨trivial, rfl⟩ | exact ⟨trivial, bts_t rfl⟩ | omega | exact at_tr _ _ (by omega) | exact at_s _ _ (by omega) | exact dt (by omega) | exact df (by omega) | exact decide_eq_true (by omega) | exact decide_eq_false (by omega) | exact bts_t (by assumption) | exact bts_f (by assumption) | (rw [bts_t (by assumption)]; rfl) | (rw [bts_f (by assumption)]; rfl) | (unfold InR; omega) | exact hp | (refine ⟨by omega, ?_⟩; rw [List.length_cons]; omega) | exact ⟨by unfold InR; omega, rfl⟩ | (refine ⟨?_, ?_⟩; exact trivial; exact ei (remN v 12)) | (refine ⟨?_, ?_⟩ <;> first | omega | exact ei (quoN v 12 (by omega))) | exact ⟨by omega, ei (remN _ _)⟩ | exact ⟨by omega, ei (quoN _ _ (by omega))⟩ | exact ⟨by omega, (ei (remN _ _)).trans (ei (by rw [hc]))⟩ | (simp; done) | exact hnum
  refine ⟨_, _, rfl, ?_, ?_⟩
  · repeat' (first | exact AllP.n | exact trivial | exact DrawB.mk (by decide +kernel) | exact fun _ => rfl | refine AllP.c ?_ ?_)
    all_goals (try dsimp only)
    all_goals try first | exact rfl | exact ⟨trivial, rfl⟩ | exact ⟨trivial, bts_t rfl⟩ | omega | exact at_tr _ _ (by omega) | exact at_s _ _ (by omega) | exact dt (by omega) | exact df (by omega) | exact decide_eq_true (by omega) | exact decide_eq_false (by omega) | exact bts_t (by assumption) | exact bts_f (by assumption) | (rw [bts_t (by assumption)]; rfl) | (rw [bts_f (by assumption)]; rfl) | (unfold InR; omega)
  · exact .tup (.cons (wk_num n) (.cons (.refl _) .nil))
theorem made_z10 (x : Int) (r : List Int) (v : Nat) (hv : v < 1073741824) (hx : x % 1073741824 = v) (hc : v % 12 = 10) : ∃ t, leaf t ∧ MP 0 (x :: r) t r := by
  have hp := place_ct x 1073741824 (by omega) (by omega)
  rw [hx] at hp
  have hq := q9_at (v / 12 % 9) (by omega)
  have hq2 := q9_le (j := v / 12 % 9) (by omega)
  refine ⟨tT (sT.extract 0 (q9 (v / 12 % 9) : Int).toNat), lf_text (q9_text (by omega)), ?_⟩
  unfold MP
  refine Pure.body tys_valid (fn := Go.Proofs.Tryz.f40) (by kernel_rfl) rfl (by kernel_rfl) rfl ?_
  intro w ok giv E0 _ hE
  refine H.go 200 [(3, [(3, .res (.ret (.i .i64 (v : Nat))))]), (5, [(1, .val (.i .i64 ((10 : Nat) : Int)))]), (6, [(1, .gd true), (4, .gd true)]), (7, [(1, .val (.i .i64 ((4 : Nat) : Int)))]), (17, [(2, .val (.i .i64 ((v / 12 : Nat) : Int))), (3, .val (.i .i64 ((v / 12 % 9 : Nat) : Int))), (4, .cell (.i .i64 (q9 (v / 12 % 9) : Nat)))])] [(18, false), (33, true)] dr40 rfl ?_ ?_
  · repeat' (first | exact AllP.n | exact trivial | exact DrawB.mk (by decide +kernel) | exact fun _ => rfl | refine AllP.c ?_ ?_)
    all_goals (try dsimp only)
    all_goals try first | exact rfl | exact ⟨trivial, rfl⟩ | exact ⟨trivial, bts_t rfl⟩ | omega | exact at_tr _ _ (by omega) | exact at_s _ _ (by omega) | exact dt (by omega) | exact df (by omega) | exact decide_eq_true (by omega) | exact decide_eq_false (by omega) | exact bts_t (by assumption) | exact bts_f (by assumption) | (rw [bts_t (by assumption)]; rfl) | (rw [bts_f (by assumption)]; rfl) | (unfold InR; omega) | exact hp | (refine ⟨by omega, ?_⟩; rw [List.length_cons]; omega) | exact ⟨by unfold InR; omega, rfl⟩ | (refine ⟨?_, ?_⟩; exact trivial; exact ei (remN v 12)) | (refine ⟨?_, ?_⟩ <;> first | omega | exact ei (quoN v 12 (by omega))) | exact ⟨by omega, ei (remN _ _)⟩ | exact ⟨by omega, ei (quoN _ _ (by omega))⟩ | exact ⟨by omega, (ei (remN _ _)).trans (ei (by rw [hc]))⟩ | (simp; done) | exact ⟨hq, by omega, by omega⟩ | exact ⟨by omega, by show ((q9 (v / 12 % 9) : Nat) : Int) ≤ 9; omega⟩
  refine ⟨_, _, rfl, ?_, ?_⟩
  · repeat' (first | exact AllP.n | exact trivial | exact DrawB.mk (by decide +kernel) | exact fun _ => rfl | refine AllP.c ?_ ?_)
    all_goals (try dsimp only)
    all_goals try first | exact rfl | exact ⟨trivial, rfl⟩ | exact ⟨trivial, bts_t rfl⟩ | omega | exact at_tr _ _ (by omega) | exact at_s _ _ (by omega) | exact dt (by omega) | exact df (by omega) | exact decide_eq_true (by omega) | exact decide_eq_false (by omega) | exact bts_t (by assumption) | exact bts_f (by assumption) | (rw [bts_t (by assumption)]; rfl) | (rw [bts_f (by assumption)]; rfl) | (unfold InR; omega)
  · exact .tup (.cons (wk_text _) (.cons (.refl _) .nil))
theorem made_z11 (x : Int) (r : List Int) (v : Nat) (hv : v < 1073741824) (hx : x % 1073741824 = v) (hc : v % 12 = 11) : ∃ t, leaf t ∧ MP 0 (x :: r) t r := by
  have hp := place_ct x 1073741824 (by omega) (by omega)
  rw [hx] at hp
  refine ⟨tY (sY.extract 0 (v / 12 % 5 : Nat)), lf_bytes (by simp [ByteArray.size_extract]; omega), ?_⟩
  unfold MP
  refine Pure.body tys_valid (fn := Go.Proofs.Tryz.f40) (by kernel_rfl) rfl (by kernel_rfl) rfl ?_
  intro w ok giv E0 _ hE
  refine H.go 200 [(3, [(3, .res (.ret (.i .i64 (v : Nat))))]), (5, [(1, .val (.i .i64 ((11 : Nat) : Int)))]), (6, [(1, .gd true), (4, .gd true)]), (7, [(1, .val (.i .i64 ((5 : Nat) : Int)))]), (19, [(1, .val (.i .i64 ((v / 12 : Nat) : Int))), (2, .val (.i .i64 ((v / 12 % 5 : Nat) : Int)))])] [(18, false), (33, true)] dr40 rfl ?_ ?_
  · repeat' (first | exact AllP.n | exact trivial | exact DrawB.mk (by decide +kernel) | exact fun _ => rfl | refine AllP.c ?_ ?_)
    all_goals (try dsimp only)
    all_goals try first | exact rfl | exact ⟨trivial, rfl⟩ | exact ⟨trivial, bts_t rfl⟩ | omega | exact at_tr _ _ (by omega) | exact at_s _ _ (by omega) | exact dt (by omega) | exact df (by omega) | exact decide_eq_true (by omega) | exact decide_eq_false (by omega) | exact bts_t (by assumption) | exact bts_f (by assumption) | (rw [bts_t (by assumption)]; rfl) | (rw [bts_f (by assumption)]; rfl) | (unfold InR; omega) | exact hp | (refine ⟨by omega, ?_⟩; rw [List.length_cons]; omega) | exact ⟨by unfold InR; omega, rfl⟩ | (refine ⟨?_, ?_⟩; exact trivial; exact ei (remN v 12)) | (refine ⟨?_, ?_⟩ <;> first | omega | exact ei (quoN v 12 (by omega))) | exact ⟨by omega, ei (remN _ _)⟩ | exact ⟨by omega, ei (quoN _ _ (by omega))⟩ | exact ⟨by omega, (ei (remN _ _)).trans (ei (by rw [hc]))⟩ | (simp; done) | exact ⟨by omega, by show ((v / 12 % 5 : Nat) : Int) ≤ 4; omega⟩
  refine ⟨_, _, rfl, ?_, ?_⟩
  · repeat' (first | exact AllP.n | exact trivial | exact DrawB.mk (by decide +kernel) | exact fun _ => rfl | refine AllP.c ?_ ?_)
    all_goals (try dsimp only)
    all_goals try first | exact rfl | exact ⟨trivial, rfl⟩ | exact ⟨trivial, bts_t rfl⟩ | omega | exact at_tr _ _ (by omega) | exact at_s _ _ (by omega) | exact dt (by omega) | exact df (by omega) | exact decide_eq_true (by omega) | exact decide_eq_false (by omega) | exact bts_t (by assumption) | exact bts_f (by assumption) | (rw [bts_t (by assumption)]; rfl) | (rw [bts_f (by assumption)]; rfl) | (unfold InR; omega)
  · exact .tup (.cons (wk_bytes _) (.cons (.refl _) .nil))
theorem made_s0 (d : Nat) (x : Int) (r : List Int) (v : Nat) (hv : v < 1073741824) (hx : x % 1073741824 = v) (hc : v % 12 = 0) (hd : d + 1 ≤ 4) : ∃ t, leaf t ∧ MP (d + 1) (x :: r) t r := by
  have hp := place_ct x 1073741824 (by omega) (by omega)
  rw [hx] at hp
  refine ⟨tNull, lf_null, ?_⟩
  unfold MP
  refine Pure.body tys_valid (fn := Go.Proofs.Tryz.f40) (by kernel_rfl) rfl (by kernel_rfl) rfl ?_
  intro w ok giv E0 _ hE
  refine H.go 200 [(3, [(3, .res (.ret (.i .i64 (v : Nat))))]), (5, [(1, .val (.i .i64 ((0 : Nat) : Int)))]), (6, [(1, .gd false)])] [(18, false), (33, false)] dr40 rfl ?_ ?_
  · repeat' (first | exact AllP.n | exact trivial | exact DrawB.mk (by decide +kernel) | exact fun _ => rfl | refine AllP.c ?_ ?_)
    all_goals (try dsimp only)
    all_goals try first | exact rfl | exact ⟨trivial, rfl⟩ | exact ⟨trivial, bts_t rfl⟩ | omega | exact at_tr _ _ (by omega) | exact at_s _ _ (by omega) | exact dt (by omega) | exact df (by omega) | exact decide_eq_true (by omega) | exact decide_eq_false (by omega) | exact bts_t (by assumption) | exact bts_f (by assumption) | (rw [bts_t (by assumption)]; rfl) | (rw [bts_f (by assumption)]; rfl) | (unfold InR; omega) | exact hp | (refine ⟨by omega, ?_⟩; rw [List.length_cons]; omega) | exact ⟨by unfold InR; omega, rfl⟩ | (refine ⟨?_, ?_⟩; exact trivial; exact ei (remN v 12)) | (refine ⟨?_, ?_⟩ <;> first | omega | exact ei (quoN v 12 (by omega))) | exact ⟨by omega, ei (remN _ _)⟩ | exact ⟨by omega, ei (quoN _ _ (by omega))⟩ | exact ⟨by omega, (ei (remN _ _)).trans (ei (by rw [hc]))⟩ | (simp; done)
  refine ⟨_, _, rfl, ?_, ?_⟩
  · repeat' (first | exact AllP.n | exact trivial | exact DrawB.mk (by decide +kernel) | exact fun _ => rfl | refine AllP.c ?_ ?_)
    all_goals (try dsimp only)
    all_goals try first | exact rfl | exact ⟨trivial, rfl⟩ | exact ⟨trivial, bts_t rfl⟩ | omega | exact at_tr _ _ (by omega) | exact at_s _ _ (by omega) | exact dt (by omega) | exact df (by omega) | exact decide_eq_true (by omega) | exact decide_eq_false (by omega) | exact bts_t (by assumption) | exact bts_f (by assumption) | (rw [bts_t (by assumption)]; rfl) | (rw [bts_f (by assumption)]; rfl) | (unfold InR; omega)
  · exact .tup (.cons (wk_null) (.cons (.refl _) .nil))
theorem made_s1 (d : Nat) (x : Int) (r : List Int) (v : Nat) (hv : v < 1073741824) (hx : x % 1073741824 = v) (hc : v % 12 = 1) (hd : d + 1 ≤ 4) : ∃ t, leaf t ∧ MP (d + 1) (x :: r) t r := by
  have hp := place_ct x 1073741824 (by omega) (by omega)
  rw [hx] at hp
  refine ⟨tB (((v / 12 % 2 : Nat) : Int) == 1), lf_bool _, ?_⟩
  unfold MP
  refine Pure.body tys_valid (fn := Go.Proofs.Tryz.f40) (by kernel_rfl) rfl (by kernel_rfl) rfl ?_
  intro w ok giv E0 _ hE
  refine H.go 200 [(3, [(3, .res (.ret (.i .i64 (v : Nat))))]), (5, [(1, .val (.i .i64 ((1 : Nat) : Int)))]), (6, [(1, .gd false)]), (12, [(1, .val (.i .i64 ((v / 12 : Nat) : Int))), (2, .val (.i .i64 ((v / 12 % 2 : Nat) : Int)))])] [(18, false), (33, false)] dr40 rfl ?_ ?_
  · repeat' (first | exact AllP.n | exact trivial | exact DrawB.mk (by decide +kernel) | exact fun _ => rfl | refine AllP.c ?_ ?_)
    all_goals (try dsimp only)
    all_goals try first | exact rfl | exact ⟨trivial, rfl⟩ | exact ⟨trivial, bts_t rfl⟩ | omega | exact at_tr _ _ (by omega) | exact at_s _ _ (by omega) | exact dt (by omega) | exact df (by omega) | exact decide_eq_true (by omega) | exact decide_eq_false (by omega) | exact bts_t (by assumption) | exact bts_f (by assumption) | (rw [bts_t (by assumption)]; rfl) | (rw [bts_f (by assumption)]; rfl) | (unfold InR; omega) | exact hp | (refine ⟨by omega, ?_⟩; rw [List.length_cons]; omega) | exact ⟨by unfold InR; omega, rfl⟩ | (refine ⟨?_, ?_⟩; exact trivial; exact ei (remN v 12)) | (refine ⟨?_, ?_⟩ <;> first | omega | exact ei (quoN v 12 (by omega))) | exact ⟨by omega, ei (remN _ _)⟩ | exact ⟨by omega, ei (quoN _ _ (by omega))⟩ | exact ⟨by omega, (ei (remN _ _)).trans (ei (by rw [hc]))⟩ | (simp; done)
  refine ⟨_, _, rfl, ?_, ?_⟩
  · repeat' (first | exact AllP.n | exact trivial | exact DrawB.mk (by decide +kernel) | exact fun _ => rfl | refine AllP.c ?_ ?_)
    all_goals (try dsimp only)
    all_goals try first | exact rfl | exact ⟨trivial, rfl⟩ | exact ⟨trivial, bts_t rfl⟩ | omega | exact at_tr _ _ (by omega) | exact at_s _ _ (by omega) | exact dt (by omega) | exact df (by omega) | exact decide_eq_true (by omega) | exact decide_eq_false (by omega) | exact bts_t (by assumption) | exact bts_f (by assumption) | (rw [bts_t (by assumption)]; rfl) | (rw [bts_f (by assumption)]; rfl) | (unfold InR; omega)
  · exact .tup (.cons (wk_bool _) (.cons (.refl _) .nil))
theorem made_s2 (d : Nat) (x : Int) (r : List Int) (v : Nat) (hv : v < 1073741824) (hx : x % 1073741824 = v) (hc : v % 12 = 2) (hd : d + 1 ≤ 4) : ∃ t, leaf t ∧ MP (d + 1) (x :: r) t r := by
  have hp := place_ct x 1073741824 (by omega) (by omega)
  rw [hx] at hp
  obtain ⟨n, hn, hnum⟩ := number_ct (v / 12) (by omega)
  refine ⟨tN n, lf_num hn, ?_⟩
  unfold MP
  refine Pure.body tys_valid (fn := Go.Proofs.Tryz.f40) (by kernel_rfl) rfl (by kernel_rfl) rfl ?_
  intro w ok giv E0 _ hE
  refine H.go 200 [(3, [(3, .res (.ret (.i .i64 (v : Nat))))]), (5, [(1, .val (.i .i64 ((2 : Nat) : Int)))]), (6, [(1, .gd false)]), (15, [(1, .val (.i .i64 ((v / 12 : Nat) : Int))), (2, .res (.ret (.ag (encN n))))])] [(18, false), (33, false)] dr40 rfl ?_ ?_
  · repeat' (first | exact AllP.n | exact trivial | exact DrawB.mk (by decide +kernel) | exact fun _ => rfl | refine AllP.c ?_ ?_)
    all_goals (try dsimp only)
    all_goals try first | exact rfl | exact ⟨trivial, rfl⟩ | exact ⟨trivial, bts_t rfl⟩ | omega | exact at_tr _ _ (by omega) | exact at_s _ _ (by omega) | exact dt (by omega) | exact df (by omega) | exact decide_eq_true (by omega) | exact decide_eq_false (by omega) | exact bts_t (by assumption) | exact bts_f (by assumption) | (rw [bts_t (by assumption)]; rfl) | (rw [bts_f (by assumption)]; rfl) | (unfold InR; omega) | exact hp | (refine ⟨by omega, ?_⟩; rw [List.length_cons]; omega) | exact ⟨by unfold InR; omega, rfl⟩ | (refine ⟨?_, ?_⟩; exact trivial; exact ei (remN v 12)) | (refine ⟨?_, ?_⟩ <;> first | omega | exact ei (quoN v 12 (by omega))) | exact ⟨by omega, ei (remN _ _)⟩ | exact ⟨by omega, ei (quoN _ _ (by omega))⟩ | exact ⟨by omega, (ei (remN _ _)).trans (ei (by rw [hc]))⟩ | (simp; done) | exact hnum
  refine ⟨_, _, rfl, ?_, ?_⟩
  · repeat' (first | exact AllP.n | exact trivial | exact DrawB.mk (by decide +kernel) | exact fun _ => rfl | refine AllP.c ?_ ?_)
    all_goals (try dsimp only)
    all_goals try first | exact rfl | exact ⟨trivial, rfl⟩ | exact ⟨trivial, bts_t rfl⟩ | omega | exact at_tr _ _ (by omega) | exact at_s _ _ (by omega) | exact dt (by omega) | exact df (by omega) | exact decide_eq_true (by omega) | exact decide_eq_false (by omega) | exact bts_t (by assumption) | exact bts_f (by assumption) | (rw [bts_t (by assumption)]; rfl) | (rw [bts_f (by assumption)]; rfl) | (unfold InR; omega)
  · exact .tup (.cons (wk_num n) (.cons (.refl _) .nil))
theorem made_s3 (d : Nat) (x : Int) (r : List Int) (v : Nat) (hv : v < 1073741824) (hx : x % 1073741824 = v) (hc : v % 12 = 3) (hd : d + 1 ≤ 4) : ∃ t, leaf t ∧ MP (d + 1) (x :: r) t r := by
  have hp := place_ct x 1073741824 (by omega) (by omega)
  rw [hx] at hp
  obtain ⟨n, hn, hnum⟩ := number_ct (v / 12) (by omega)
  refine ⟨tN n, lf_num hn, ?_⟩
  unfold MP
  refine Pure.body tys_valid (fn := Go.Proofs.Tryz.f40) (by kernel_rfl) rfl (by kernel_rfl) rfl ?_
  intro w ok giv E0 _ hE
  refine H.go 200 [(3, [(3, .res (.ret (.i .i64 (v : Nat))))]), (5, [(1, .val (.i .i64 ((3 : Nat) : Int)))]), (6, [(1, .gd false)]), (15, [(1, .val (.i .i64 ((v / 12 : Nat) : Int))), (2, .res (.ret (.ag (encN n))))])] [(18, false), (33, false)] dr40 rfl ?_ ?_
  · repeat' (first | exact AllP.n | exact trivial | exact DrawB.mk (by decide +kernel) | exact fun _ => rfl | refine AllP.c ?_ ?_)
    all_goals (try dsimp only)
    all_goals try first | exact rfl | exact ⟨trivial, rfl⟩ | exact ⟨trivial, bts_t rfl⟩ | omega | exact at_tr _ _ (by omega) | exact at_s _ _ (by omega) | exact dt (by omega) | exact df (by omega) | exact decide_eq_true (by omega) | exact decide_eq_false (by omega) | exact bts_t (by assumption) | exact bts_f (by assumption) | (rw [bts_t (by assumption)]; rfl) | (rw [bts_f (by assumption)]; rfl) | (unfold InR; omega) | exact hp | (refine ⟨by omega, ?_⟩; rw [List.length_cons]; omega) | exact ⟨by unfold InR; omega, rfl⟩ | (refine ⟨?_, ?_⟩; exact trivial; exact ei (remN v 12)) | (refine ⟨?_, ?_⟩ <;> first | omega | exact ei (quoN v 12 (by omega))) | exact ⟨by omega, ei (remN _ _)⟩ | exact ⟨by omega, ei (quoN _ _ (by omega))⟩ | exact ⟨by omega, (ei (remN _ _)).trans (ei (by rw [hc]))⟩ | (simp; done) | exact hnum
  refine ⟨_, _, rfl, ?_, ?_⟩
  · repeat' (first | exact AllP.n | exact trivial | exact DrawB.mk (by decide +kernel) | exact fun _ => rfl | refine AllP.c ?_ ?_)
    all_goals (try dsimp only)
    all_goals try first | exact rfl | exact ⟨trivial, rfl⟩ | exact ⟨trivial, bts_t rfl⟩ | omega | exact at_tr _ _ (by omega) | exact at_s _ _ (by omega) | exact dt (by omega) | exact df (by omega) | exact decide_eq_true (by omega) | exact decide_eq_false (by omega) | exact bts_t (by assumption) | exact bts_f (by assumption) | (rw [bts_t (by assumption)]; rfl) | (rw [bts_f (by assumption)]; rfl) | (unfold InR; omega)
  · exact .tup (.cons (wk_num n) (.cons (.refl _) .nil))
theorem made_s4 (d : Nat) (x : Int) (r : List Int) (v : Nat) (hv : v < 1073741824) (hx : x % 1073741824 = v) (hc : v % 12 = 4) (hd : d + 1 ≤ 4) : ∃ t, leaf t ∧ MP (d + 1) (x :: r) t r := by
  have hp := place_ct x 1073741824 (by omega) (by omega)
  rw [hx] at hp
  have hq := q9_at (v / 12 % 9) (by omega)
  have hq2 := q9_le (j := v / 12 % 9) (by omega)
  refine ⟨tT (sT.extract 0 (q9 (v / 12 % 9) : Int).toNat), lf_text (q9_text (by omega)), ?_⟩
  unfold MP
  refine Pure.body tys_valid (fn := Go.Proofs.Tryz.f40) (by kernel_rfl) rfl (by kernel_rfl) rfl ?_
  intro w ok giv E0 _ hE
  refine H.go 200 [(3, [(3, .res (.ret (.i .i64 (v : Nat))))]), (5, [(1, .val (.i .i64 ((4 : Nat) : Int)))]), (6, [(1, .gd false)]), (17, [(2, .val (.i .i64 ((v / 12 : Nat) : Int))), (3, .val (.i .i64 ((v / 12 % 9 : Nat) : Int))), (4, .cell (.i .i64 (q9 (v / 12 % 9) : Nat)))])] [(18, false), (33, false)] dr40 rfl ?_ ?_
  · repeat' (first | exact AllP.n | exact trivial | exact DrawB.mk (by decide +kernel) | exact fun _ => rfl | refine AllP.c ?_ ?_)
    all_goals (try dsimp only)
    all_goals try first | exact rfl | exact ⟨trivial, rfl⟩ | exact ⟨trivial, bts_t rfl⟩ | omega | exact at_tr _ _ (by omega) | exact at_s _ _ (by omega) | exact dt (by omega) | exact df (by omega) | exact decide_eq_true (by omega) | exact decide_eq_false (by omega) | exact bts_t (by assumption) | exact bts_f (by assumption) | (rw [bts_t (by assumption)]; rfl) | (rw [bts_f (by assumption)]; rfl) | (unfold InR; omega) | exact hp | (refine ⟨by omega, ?_⟩; rw [List.length_cons]; omega) | exact ⟨by unfold InR; omega, rfl⟩ | (refine ⟨?_, ?_⟩; exact trivial; exact ei (remN v 12)) | (refine ⟨?_, ?_⟩ <;> first | omega | exact ei (quoN v 12 (by omega))) | exact ⟨by omega, ei (remN _ _)⟩ | exact ⟨by omega, ei (quoN _ _ (by omega))⟩ | exact ⟨by omega, (ei (remN _ _)).trans (ei (by rw [hc]))⟩ | (simp; done) | exact ⟨hq, by omega, by omega⟩ | exact ⟨by omega, by show ((q9 (v / 12 % 9) : Nat) : Int) ≤ 9; omega⟩
  refine ⟨_, _, rfl, ?_, ?_⟩
  · repeat' (first | exact AllP.n | exact trivial | exact DrawB.mk (by decide +kernel) | exact fun _ => rfl | refine AllP.c ?_ ?_)
    all_goals (try dsimp only)
    all_goals try first | exact rfl | exact ⟨trivial, rfl⟩ | exact ⟨trivial, bts_t rfl⟩ | omega | exact at_tr _ _ (by omega) | exact at_s _ _ (by omega) | exact dt (by omega) | exact df (by omega) | exact decide_eq_true (by omega) | exact decide_eq_false (by omega) | exact bts_t (by assumption) | exact bts_f (by assumption) | (rw [bts_t (by assumption)]; rfl) | (rw [bts_f (by assumption)]; rfl) | (unfold InR; omega)
  · exact .tup (.cons (wk_text _) (.cons (.refl _) .nil))
theorem made_s5 (d : Nat) (x : Int) (r : List Int) (v : Nat) (hv : v < 1073741824) (hx : x % 1073741824 = v) (hc : v % 12 = 5) (hd : d + 1 ≤ 4) : ∃ t, leaf t ∧ MP (d + 1) (x :: r) t r := by
  have hp := place_ct x 1073741824 (by omega) (by omega)
  rw [hx] at hp
  refine ⟨tY (sY.extract 0 (v / 12 % 5 : Nat)), lf_bytes (by simp [ByteArray.size_extract]; omega), ?_⟩
  unfold MP
  refine Pure.body tys_valid (fn := Go.Proofs.Tryz.f40) (by kernel_rfl) rfl (by kernel_rfl) rfl ?_
  intro w ok giv E0 _ hE
  refine H.go 200 [(3, [(3, .res (.ret (.i .i64 (v : Nat))))]), (5, [(1, .val (.i .i64 ((5 : Nat) : Int)))]), (6, [(1, .gd false)]), (19, [(1, .val (.i .i64 ((v / 12 : Nat) : Int))), (2, .val (.i .i64 ((v / 12 % 5 : Nat) : Int)))])] [(18, false), (33, false)] dr40 rfl ?_ ?_
  · repeat' (first | exact AllP.n | exact trivial | exact DrawB.mk (by decide +kernel) | exact fun _ => rfl | refine AllP.c ?_ ?_)
    all_goals (try dsimp only)
    all_goals try first | exact rfl | exact ⟨trivial, rfl⟩ | exact ⟨trivial, bts_t rfl⟩ | omega | exact at_tr _ _ (by omega) | exact at_s _ _ (by omega) | exact dt (by omega) | exact df (by omega) | exact decide_eq_true (by omega) | exact decide_eq_false (by omega) | exact bts_t (by assumption) | exact bts_f (by assumption) | (rw [bts_t (by assumption)]; rfl) | (rw [bts_f (by assumption)]; rfl) | (unfold InR; omega) | exact hp | (refine ⟨by omega, ?_⟩; rw [List.length_cons]; omega) | exact ⟨by unfold InR; omega, rfl⟩ | (refine ⟨?_, ?_⟩; exact trivial; exact ei (remN v 12)) | (refine ⟨?_, ?_⟩ <;> first | omega | exact ei (quoN v 12 (by omega))) | exact ⟨by omega, ei (remN _ _)⟩ | exact ⟨by omega, ei (quoN _ _ (by omega))⟩ | exact ⟨by omega, (ei (remN _ _)).trans (ei (by rw [hc]))⟩ | (simp; done) | exact ⟨by omega, by show ((v / 12 % 5 : Nat) : Int) ≤ 4; omega⟩
  refine ⟨_, _, rfl, ?_, ?_⟩
  · repeat' (first | exact AllP.n | exact trivial | exact DrawB.mk (by decide +kernel) | exact fun _ => rfl | refine AllP.c ?_ ?_)
    all_goals (try dsimp only)
    all_goals try first | exact rfl | exact ⟨trivial, rfl⟩ | exact ⟨trivial, bts_t rfl⟩ | omega | exact at_tr _ _ (by omega) | exact at_s _ _ (by omega) | exact dt (by omega) | exact df (by omega) | exact decide_eq_true (by omega) | exact decide_eq_false (by omega) | exact bts_t (by assumption) | exact bts_f (by assumption) | (rw [bts_t (by assumption)]; rfl) | (rw [bts_f (by assumption)]; rfl) | (unfold InR; omega)
  · exact .tup (.cons (wk_bytes _) (.cons (.refl _) .nil))
end Go.Px
end

