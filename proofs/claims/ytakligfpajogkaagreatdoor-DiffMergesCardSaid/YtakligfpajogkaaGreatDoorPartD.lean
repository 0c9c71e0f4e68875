/-
  What the functions that the statement reaches compute, proved (contracts of functions and the lemmas for them), a part of the proof. No conditions beyond those that each theorem names.
-/
import Derived.Test.YtakligfpajogkaaGreatDoorPartC
import Derived.Laws.MakeOwn
set_option linter.unusedVariables false
set_option linter.unusedSimpArgs false

section
namespace Go.Px
open Go.RowKit

/-! ### A literal list, some cells overwritten -/
def setAt : List D → Nat → List D → Option (List D)
  | cs, 0, [] => some cs
  | _ :: cs, 0, x :: xs => match setAt cs 0 xs with | some l => some (x :: l) | none => none
  | c :: cs, o + 1, xs => match setAt cs o xs with | some l => some (c :: l) | none => none
  | [], _, _ => none
theorem setAt_eq : ∀ {cs : List D} {o : Nat} {xs l : List D}, setAt cs o xs = some l → l = cs.take o ++ xs ++ cs.drop (o + xs.length) ∧ o + xs.length ≤ cs.length
  | [], 0, [], l, h => by simp [setAt] at h; simp [h]
  | c :: cs, 0, [], l, h => by simp [setAt] at h; simp [h]
  | [], 0, x :: xs, l, h => by simp [setAt] at h
  | [], o + 1, xs, l, h => by simp [setAt] at h
  | c :: cs, 0, x :: xs, l, h => by
    simp only [setAt] at h
    split at h
    · rename_i l' hl
      cases h
      have := setAt_eq hl
      simp only [List.take_zero, List.nil_append, Nat.zero_add] at this ⊢
      simp [this.1]
      omega
    · cases h
  | c :: cs, o + 1, xs, l, h => by
    simp only [setAt] at h
    split at h
    · rename_i l' hl
      cases h
      have := setAt_eq hl
      refine ⟨?_, by simp; omega⟩
      rw [this.1, show o + 1 + xs.length = (o + xs.length) + 1 by omega]
      simp
    · cases h
theorem getElem?_splice {α : Type} (cs xs : List α) (o : Nat) (h : o + xs.length ≤ cs.length) (k : Nat) :
    (cs.take o ++ xs ++ cs.drop (o + xs.length))[k]? = if k < o then cs[k]? else if k < o + xs.length then xs[k - o]? else cs[k]? := by
  by_cases h1 : k < o
  · rw [if_pos h1, List.append_assoc, List.getElem?_append_left (by rw [List.length_take]; omega), List.getElem?_take, if_pos h1]
  · rw [if_neg h1, List.append_assoc, List.getElem?_append_right (by rw [List.length_take]; omega), List.length_take, Nat.min_eq_left (by omega)]
    by_cases h2 : k < o + xs.length
    · rw [if_pos h2, List.getElem?_append_left (by omega)]
    · rw [if_neg h2, List.getElem?_append_right (by omega), List.getElem?_drop]
      congr 1
      omega
theorem repVals_splice {E : Env} {cs xs : List D} {vs ws : List Value} (h1 : repVals E cs vs) (h2 : repVals E xs ws) (o : Nat) :
    repVals E (cs.take o ++ xs ++ cs.drop (o + xs.length)) (vs.take o ++ ws ++ vs.drop (o + ws.length)) := by
  have hl := repVals_length h2
  rw [hl]
  refine repVals_append (repVals_append ?_ h2) ?_
  · rw [repVals_iff] at h1 ⊢
    refine ⟨by simp [h1.1], fun k d hk => ?_⟩
    rw [List.getElem?_take] at hk ⊢
    split at hk
    · rename_i hko
      rw [if_pos hko]
      exact h1.2 k d hk
    · cases hk
  · rw [repVals_iff] at h1 ⊢
    refine ⟨by simp [h1.1], fun k d hk => ?_⟩
    rw [List.getElem?_drop] at hk ⊢
    exact h1.2 _ d hk

/-- The cells of a value of a type. -/
def cellsD (ag : Bool) (d : D) : Option (List D) :=
  match ag with
  | true => match d with | .ag l => some l | _ => none
  | false => match d.cell with | true => some [d] | false => none
theorem cellsD_rep {E : Env} {ag : Bool} {d : D} {l : List D} {v : Value} (h : cellsD ag d = some l) (hr : rep E d v) : repVals E l v.cells.toList ∧ ∀ u ∈ v.cells.toList, u.oneCell' = true := by
  unfold cellsD at h
  split at h
  · split at h
    · cases h
      simp only [rep] at hr
      obtain ⟨vs, rfl, hvs, h1⟩ := hr
      simpa [Value.cells] using ⟨hvs, h1⟩
    · cases h
  · split at h
    · rename_i hc
      cases h
      have h1 := rep_oneCell hc hr
      rw [cells_oneCell h1]
      simp only [repVals]
      exact ⟨⟨v, [], rfl, hr, rfl⟩, by simpa using h1⟩
    · cases h

/-! ### build -/
def fillD (fs : List (Nat × Nat × Bool)) : List D → List (Nat × D) → Option (List D)
  | cs, [] => some cs
  | cs, (f, d) :: r => match fs[f]? with
    | none => none
    | some (o, s, ag) => match cellsD ag d with
      | none => none
      | some l => match Nat.beq l.length s with
        | false => none
        | true => match setAt cs o l with
          | none => none
          | some cs' => fillD fs cs' r
def evBuild (τ : List (Nat × TI)) (t : TypeId) (parts : List (Nat × D)) : Option (D × Prop) :=
  match get τ t with
  | none => none
  | some i => match i.k with
    | .struct fs => match fillD fs i.zero parts with | some l => some (.ag l, True) | none => none
    | .array n e => match get τ e with
      | none => none
      | some ie => match fillD ((List.range n).map fun k => (k * ie.size, ie.size, ie.k.agg)) i.zero parts with | some l => some (.ag l, True) | none => none
    | _ => none

theorem foldl_set (off : Nat) : ∀ (vs : List Value) (n : Nat) (cells : Array Value), off + n + vs.length ≤ cells.size →
    ((vs.zipIdx n).foldl (fun cs (x : Value × Nat) => cs.setIfInBounds (off + x.2) x.1) cells).toList = cells.toList.take (off + n) ++ vs ++ cells.toList.drop (off + n + vs.length)
  | [], n, cells, _ => by simp
  | v :: vs, n, cells, h => by
    simp only [List.zipIdx_cons, List.foldl_cons]
    rw [foldl_set off vs (n + 1) _ (by simp at h ⊢; omega)]
    rw [Array.toList_setIfInBounds]
    have := list_seg_step cells.toList (off + n) v vs (by simp at h ⊢; omega)
    rw [show off + (n + 1) = off + n + 1 by omega, List.length_cons]
    exact this

section
variable {P : Program} {τ : List (Nat × TI)} {E : Env} {w : World}
theorem fill_sound {fs : List (Nat × Nat × Bool)} {place : Nat → Option (Nat × Nat)} (hpl : ∀ (f o s : Nat) (ag : Bool), fs[f]? = some (o, s, ag) → place f = some (o, s)) :
    ∀ {parts : List (Nat × D)} {vparts : List (Nat × Value)} {cs l : List D} {cells : Array Value}, repVals E cs cells.toList → (∀ u ∈ cells.toList, u.oneCell' = true) →
      vparts.map (·.1) = parts.map (·.1) → (∀ (k : Nat) (p : Nat × D) (q : Nat × Value), parts[k]? = some p → vparts[k]? = some q → rep E p.2 q.2) →
      fillD fs cs parts = some l → ∃ cells', Instr.fill place cells vparts = some cells' ∧ repVals E l cells'.toList ∧ ∀ u ∈ cells'.toList, u.oneCell' = true
  | [], vparts, cs, l, cells, h, h1, hm, hr, hf => by
    simp only [List.map_nil, List.map_eq_nil_iff] at hm
    subst hm
    simp only [fillD, Option.some.injEq] at hf
    subst hf
    exact ⟨cells, rfl, h, h1⟩
  | (f, d) :: r, [], cs, l, cells, h, h1, hm, hr, hf => by simp at hm
  | (f, d) :: r, (g, v) :: vr, cs, l, cells, h, h1, hm, hr, hf => by
    simp only [List.map_cons, List.cons.injEq] at hm
    obtain ⟨rfl, hm⟩ := hm
    have hd := hr 0 (g, d) (g, v) (by simp) (by simp)
    simp only at hd
    simp only [fillD] at hf
    split at hf
    · cases hf
    · rename_i o s ag hfo
      split at hf
      · cases hf
      · rename_i lc hlc
        split at hf
        · cases hf
        · rename_i hlen
          have hlen := Nat.eq_of_beq_eq_true hlen
          split at hf
          · cases hf
          · rename_i cs' hset
            obtain ⟨hv, hv1⟩ := cellsD_rep hlc hd
            have hvl : v.cells.size = lc.length := by have := repVals_length hv; simpa using this
            have hcl : cells.size = cs.length := by have := repVals_length h; simpa using this
            obtain ⟨e1, e2⟩ := setAt_eq hset
            have hnew : repVals E cs' (v.cells.zipIdx.foldl (fun cs (x : Value × Nat) => cs.setIfInBounds (o + x.2) x.1) cells).toList := by
              have hfold : v.cells.zipIdx.foldl (fun cs (x : Value × Nat) => cs.setIfInBounds (o + x.2) x.1) cells = (v.cells.toList.zipIdx 0).foldl (fun cs (x : Value × Nat) => cs.setIfInBounds (o + x.2) x.1) cells := by
                rw [← Array.foldl_toList, Array.toList_zipIdx]
              rw [hfold, foldl_set o v.cells.toList 0 cells (by simp; omega), e1]
              have := repVals_splice h hv o
              simpa using this
            have hone : ∀ u ∈ (v.cells.zipIdx.foldl (fun cs (x : Value × Nat) => cs.setIfInBounds (o + x.2) x.1) cells).toList, u.oneCell' = true := by
              have hfold : v.cells.zipIdx.foldl (fun cs (x : Value × Nat) => cs.setIfInBounds (o + x.2) x.1) cells = (v.cells.toList.zipIdx 0).foldl (fun cs (x : Value × Nat) => cs.setIfInBounds (o + x.2) x.1) cells := by
                rw [← Array.foldl_toList, Array.toList_zipIdx]
              rw [hfold, foldl_set o v.cells.toList 0 cells (by simp; omega)]
              intro u hu
              rcases List.mem_append.1 hu with hu | hu
              · rcases List.mem_append.1 hu with hu | hu
                · exact h1 u (List.mem_of_mem_take hu)
                · exact hv1 u hu
              · exact h1 u (List.mem_of_mem_drop hu)
            obtain ⟨cells', q1, q2⟩ := fill_sound hpl hnew hone hm (fun k p q hp hq => hr (k + 1) p q (by simpa using hp) (by simpa using hq)) hf
            refine ⟨cells', ?_, q2⟩
            simp only [Instr.fill, hpl g o s ag hfo]
            rw [if_neg (by simp; omega)]
            exact q1
theorem evBuild_sound (hv : Valid P τ) {t : TypeId} {parts : List (Nat × D)} {vparts : Array (Nat × Value)} {d : D} {p : Prop}
    (hm : vparts.toList.map (·.1) = parts.map (·.1)) (hr : ∀ (k : Nat) (p : Nat × D) (q : Nat × Value), parts[k]? = some p → vparts.toList[k]? = some q → rep E p.2 q.2)
    (h : evBuild τ t parts = some (d, p)) : ∃ v, (Instr.build t vparts).run P w = .ok v w ∧ rep E d v := by
  unfold evBuild at h
  split at h
  · cases h
  · rename_i i hi
    have hT := tok hv hi
    obtain ⟨z, hz, hzs⟩ := hT.zero_run w
    have hz0 : repVals E i.zero z.cells.toList := zs_rep hzs
    have hz1 := zs_one hzs
    split at h
    · rename_i fs hk
      obtain ⟨gs, hu, hf⟩ := hT.struct hk
      split at h
      · rename_i l hl
        simp only [Option.some.injEq, Prod.mk.injEq] at h
        obtain ⟨rfl, rfl⟩ := h
        have hplaces : ∃ places : Array (Nat × Nat), (gs.mapM fun f => (do pure (f.offset, ← sizeOf f.type) : Sem (Nat × Nat))).run P w = .ok places w ∧ ∀ (f o s : Nat) (ag : Bool), fs[f]? = some (o, s, ag) → places[f]? = some (o, s) := by
          have gen : ∀ (fs : List (Nat × Nat × Bool)) (l : List Field), fieldsB P fs l = true → (l.mapM fun f => (do pure (f.offset, ← sizeOf f.type) : Sem (Nat × Nat))).run P w = .ok (fs.map fun x => (x.1, x.2.1)) w := by
            intro fs l
            induction l generalizing fs with
            | nil => intro h; cases fs with
              | nil => simp
              | cons x xs => simp [fieldsB] at h
            | cons g l ih =>
              intro h
              cases fs with
              | nil => simp [fieldsB] at h
              | cons x xs =>
                have h0 := fieldsB_get h 0 x.1 x.2.1 x.2.2 (by simp)
                obtain ⟨g', hg', ho, _, hsz, _⟩ := h0
                simp only [List.getElem?_cons_zero, Option.some.injEq] at hg'
                subst hg'
                simp only [fieldsB, Bool.and_eq_true] at h
                rw [List.mapM_cons]
                simp only [Sem.run_bind, hsz, Result.andThen_ok, Sem.run_pure, ih xs h.2, List.map_cons, ho]
          refine ⟨(fs.map fun x => (x.1, x.2.1)).toArray, ?_, fun f o s ag h => by simp [h]⟩
          rw [Array.mapM_eq_mapM_toList, Sem.run_map, gen fs gs.toList hf]
          rfl
        obtain ⟨places, hp1, hp2⟩ := hplaces
        obtain ⟨cells', q1, q2⟩ := fill_sound (place := fun f => places[f]?) hp2 hz0 hz1 hm hr hl
        refine ⟨.agg cells', ?_, by simp only [rep]; exact ⟨cells'.toList, by simp, q2⟩⟩
        simp only [Instr.build, Sem.run_bind, hz, Result.andThen_ok, run_underlying hu, hp1, q1, Sem.run_pure]
      · cases h
    · rename_i n e hk
      have hu := hT.array hk
      split at h
      · cases h
      · rename_i ie he
        have hTe := tok hv he
        split at h
        · rename_i l hl
          simp only [Option.some.injEq, Prod.mk.injEq] at h
          obtain ⟨rfl, rfl⟩ := h
          obtain ⟨cells', q1, q2⟩ := fill_sound (place := fun f => some (f * ie.size, ie.size)) (fun f o s ag h => by
            simp only [List.getElem?_map, Option.map_eq_some_iff, Prod.mk.injEq] at h
            obtain ⟨k, hk, rfl, rfl, _⟩ := h
            have : k = f := by
              rw [List.getElem?_eq_some_iff] at hk
              obtain ⟨hlt, hk⟩ := hk
              simp at hk
              exact hk.symm
            rw [this]) hz0 hz1 hm hr hl
          refine ⟨.agg cells', ?_, by simp only [rep]; exact ⟨cells'.toList, by simp, q2⟩⟩
          simp only [Instr.build, Sem.run_bind, hz, Result.andThen_ok, run_underlying hu, hTe.size_run, q1, Sem.run_pure]
        · cases h
    · cases h
end
end Go.Px
end

section
namespace Go.Px
open Go.RowKit

/-- What an operation that turns the heap comes to. -/
abbrev HOut := D × List (Nat × Root) × Nat × Prop

def boxSz (τ : List (Nat × TI)) (i : TI) : Option Nat :=
  match i.k with
  | .array n e => match get τ e with
    | some ie => match Nat.beq i.zero.length (n * ie.size) with
      | true => match Nat.beq ie.size 0 with | true => none | false => some ie.size
      | false => none
    | none => none
  | _ => some 1
def boxCap (i : TI) : Nat := match i.k with | .array n _ => n | _ => i.zero.length

def Root.setCs (R : Root) (cs : List D) : Root := match R with | ⟨E, sz, _, fz, own, giv, lit⟩ => ⟨E, sz, cs, fz, own, giv, lit⟩
theorem setCs_eq (R : Root) (cs : List D) : R.setCs cs = { R with cs := cs } := by cases R; rfl
def Root.idle (R : Root) : Root := match R with | ⟨E, sz, cs, _, _, giv, lit⟩ => ⟨E, sz, cs, 0, false, giv, lit⟩
theorem idle_eq (R : Root) : R.idle = { R with own := false, fz := 0 } := by cases R; rfl
def TI.row (i : TI) (e : TypeId) (cs : List D) (fz : Nat) (own giv lit : Bool) : Root := match i with | ⟨sz, _, _, _⟩ => ⟨e, sz, cs, fz, own, giv, lit⟩
theorem row_eq (i : TI) (e : TypeId) (cs : List D) (fz : Nat) (own giv lit : Bool) : i.row e cs fz own giv lit = ⟨e, i.size, cs, fz, own, giv, lit⟩ := by cases i; rfl
/-- No root has this number. -/
def fresh (h : List (Nat × Root)) (nx : Nat) : Bool := match get h nx with | none => true | some _ => false
theorem fresh_spec {st : St} {id : Nat} (h : fresh st.h id = true) (hid : st.nx ≤ id) : ¬ st.has id := by
  unfold fresh at h
  unfold St.has
  split at h
  · rename_i e; rw [e]; simp; omega
  · cases h
def evAlloc (τ : List (Nat × TI)) (h : List (Nat × Root)) (nx : Nat) (t : TypeId) : Option HOut :=
  match get τ t with
  | none => none
  | some i => match boxSz τ i with
    | none => none
    | some sz => match fresh h nx with
      | false => none
      | true => some (.oa nx 0, (nx, ⟨t, sz, i.zero, 0, true, false, true⟩) :: h, nx + 1, True)
def evBox (τ : List (Nat × TI)) (h : List (Nat × Root)) (nx : Nat) (t : TypeId) (d : D) : Option HOut :=
  match get τ t with
  | none => none
  | some i => match cellsD i.k.agg d with
    | none => none
    | some l => match Nat.beq l.length i.zero.length with
      | false => none
      | true => match boxSz τ i with
        | none => none
        | some sz => match fresh h nx with
          | false => none
          | true => some (.oa nx 0, (nx, ⟨t, sz, l, 0, true, false, true⟩) :: h, nx + 1, True)
def evStore (τ : List (Nat × TI)) (h : List (Nat × Root)) (t : TypeId) (da dx : D) : Option (List (Nat × Root) × Prop) :=
  match get τ t with
  | none => none
  | some i => match da with
    | .oa r off => match get h r with
      | none => none
      | some R => match R.own with
        | false => none
        | true => match cellsD i.k.agg dx with
          | none => none
          | some l => match Nat.beq l.length i.size with
            | false => none
            | true => match R.lit with
              | true => match setAt R.cs off l with
                | none => none
                | some cs => match R.fz with
                  | 0 => some ((r, R.setCs cs) :: h, True)
                  | z => some ((r, R.setCs cs) :: h, z ≤ off)
              | false => match topL l with
               | false => none
               | true => match l with
                | [d] => some ((r, R.setCs (R.cs.set off d)) :: h, R.fz ≤ off ∧ off < R.cs.length)
                | l => some ((r, R.setCs (R.cs.take off ++ l ++ R.cs.drop (off + l.length))) :: h, R.fz ≤ off ∧ off + l.length ≤ R.cs.length)
    | _ => none

section
variable {P : Program} {τ : List (Nat × TI)} {B : Base} {st : St} {a : Act} {w : World} {ρ : Nat → RC}

theorem repVals_get {E : Env} {cs : List D} {vs : List Value} (h : repVals E cs vs) (h1 : ∀ v ∈ vs, v.oneCell' = true) :
    ∀ (k : Nat) (d : D), cs[k]? = some d → ∃ v, vs[k]? = some v ∧ v.oneCell' = true ∧ rep E d v := fun k d hk => by
  obtain ⟨v, q1, q2⟩ := (repVals_iff.1 h).2 k d hk
  exact ⟨v, q1, h1 v (List.mem_of_getElem? q1), q2⟩

theorem boxSz_spec {i : TI} {sz : Nat} (h : boxSz τ i = some sz) : 0 < sz ∧ i.zero.length = boxCap i * sz := by
  unfold boxSz at h
  unfold boxCap
  split at h
  · split at h
    · split at h
      · rename_i hb
        have := Nat.eq_of_beq_eq_true hb
        split at h
        · cases h
        · rename_i hz
          cases h
          rename_i ie _ _ _
          refine ⟨?_, this⟩
          rcases Nat.eq_zero_or_pos ie.size with h0 | h0
          · rw [h0] at hz; cases hz
          · exact h0
      · cases h
    · cases h
  · cases h
    rename_i hne
    refine ⟨Nat.one_pos, ?_⟩
    cases hk : i.k <;> first | (exact absurd hk (hne _ _)) | simp

theorem zero_len {t : TypeId} {i : TI} (hT : TOK P t i) (w : World) : ∃ z, (zeroValue t).run P w = .ok z w ∧ zsIs i.zero z.cells.toList = true ∧ z.cells.size = i.zero.length := by
  obtain ⟨z, h1, h2⟩ := hT.zero_run w
  have := repVals_length (zs_rep (E := ⟨default, fun _ _ => True, fun _ => default, fun _ => False⟩) h2)
  exact ⟨z, h1, h2, by simpa using this⟩

theorem evAlloc_sound (hv : Valid P τ) (s : SatR B st a w ρ) {t : TypeId} {d : D} {h' : List (Nat × Root)} {nx' : Nat} {p : Prop}
    {id : Nat} (hid : st.nx ≤ id) (h : evAlloc τ st.h id t = some (d, h', nx', p)) (hcap : ∀ i, get τ t = some i → boxCap i ≤ maxLen) :
    ∃ v w' ρ', (Instr.alloc t true (.tuple #[])).run P w = .ok v w' ∧ SatR B ⟨st.σ, h', st.nx⟩ a w' ρ' ∧ rep (St.env B ⟨st.σ, h', st.nx⟩ w' ρ') d v ∧
      (st.env B w ρ).Le (St.env B ⟨st.σ, h', st.nx⟩ w' ρ') := by
  unfold evAlloc at h
  split at h
  · cases h
  · rename_i i hi
    have hT := tok hv hi
    split at h
    · cases h
    · rename_i sz hsz
      split at h
      · cases h
      rename_i hfr
      have hno := fresh_spec hfr hid
      simp only [Option.some.injEq, Prod.mk.injEq] at h
      obtain ⟨rfl, rfl, rfl, rfl⟩ := h
      obtain ⟨z, hz, hzs, hzl⟩ := zero_len hT w
      obtain ⟨h1, h2⟩ := boxSz_spec hsz
      obtain ⟨q1, q2⟩ := s.alloc id hno ⟨t, sz, i.zero, 0, true, false, true⟩ z.cells (boxCap i) h1 (by rw [hzl]; exact h2) (hcap i hi) (by rw [hzl]; exact Nat.le_refl _) (Nat.zero_le _)
        (fun k d hk => by
          obtain ⟨v, g1, g2, g3⟩ := repVals_get (zs_rep (E := (st.env B w ρ).at true) hzs) (zs_one hzs) k d hk
          exact ⟨v, by simpa using g1, g2, g3⟩)
      refine ⟨.pointer (some ⟨w.heap.size, 0, none⟩), _, _, ?_, q1, ?_, q2⟩
      · simp [Instr.alloc, hz, newVar, newRow]
      · simp only [rep]
        exact ⟨St.has_of (st := ⟨st.σ, (id, _) :: st.h, st.nx⟩) (by rw [get_cons, if_pos rfl]), w.heap.size, by simp [St.env], rfl⟩

theorem evBox_sound (_hv : Valid P τ) (s : SatR B st a w ρ) {t : TypeId} {dx : D} {vx : Value} (hx : rep (st.env B w ρ) dx vx) {d : D} {h' : List (Nat × Root)} {nx' : Nat} {p : Prop}
    {id : Nat} (hid : st.nx ≤ id) (h : evBox τ st.h id t dx = some (d, h', nx', p)) (hcap : ∀ i, get τ t = some i → boxCap i ≤ maxLen) :
    ∃ v w' ρ', (Instr.box t vx).run P w = .ok v w' ∧ SatR B ⟨st.σ, h', st.nx⟩ a w' ρ' ∧ rep (St.env B ⟨st.σ, h', st.nx⟩ w' ρ') d v ∧
      (st.env B w ρ).Le (St.env B ⟨st.σ, h', st.nx⟩ w' ρ') := by
  unfold evBox at h
  split at h
  · cases h
  · rename_i i hi
    split at h
    · cases h
    · rename_i l hl
      split at h
      · cases h
      · rename_i hlen
        have hlen := Nat.eq_of_beq_eq_true hlen
        split at h
        · cases h
        · rename_i sz hsz
          split at h
          · cases h
          rename_i hfr
          have hno := fresh_spec hfr hid
          simp only [Option.some.injEq, Prod.mk.injEq] at h
          obtain ⟨rfl, rfl, rfl, rfl⟩ := h
          obtain ⟨hc, hone⟩ := cellsD_rep hl hx
          have hcl : vx.cells.size = l.length := by have := repVals_length hc; simpa using this
          obtain ⟨h1, h2⟩ := boxSz_spec hsz
          obtain ⟨q1, q2⟩ := s.alloc id hno ⟨t, sz, l, 0, true, false, true⟩ vx.cells (boxCap i) h1 (by rw [hcl, hlen]; exact h2) (hcap i hi) (by rw [hcl]; exact Nat.le_refl _) (Nat.zero_le _)
            (fun k d hk => by
              obtain ⟨v, g1, g2, g3⟩ := repVals_get hc hone k d hk
              exact ⟨v, by simpa using g1, g2, g3⟩)
          refine ⟨.pointer (some ⟨w.heap.size, 0, none⟩), _, _, ?_, q1, ?_, q2⟩
          · simp [Instr.box, newVar, newRow]
          · simp only [rep]
            exact ⟨St.has_of (st := ⟨st.σ, (id, _) :: st.h, st.nx⟩) (by rw [get_cons, if_pos rfl]), w.heap.size, by simp [St.env], rfl⟩
end
end Go.Px
end

section
namespace Go.Px
open Go.RowKit
section
variable {P : Program} {τ : List (Nat × TI)} {B : Base} {st : St} {a : Act} {w : World} {ρ : Nat → RC}

/-- Some cells of an owned root are overwritten. -/
theorem SatR.splice (s : SatR B st a w ρ) {r : Nat} {R : Root} {b : Nat} {cells : Array Value} (hr : get st.h r = some R) (ho : R.own = true) (hb : (ρ r).blk = some b)
    (hc : w.heap[b]? = some (.cells cells R.E (0, 0))) (off : Nat) (l : List D) (vs : List Value) (hl : repVals ((st.env B w ρ).at R.lit) l vs) (h1 : ∀ u ∈ vs, u.oneCell' = true)
    (hfz : R.fz ≤ off) (hlen : off + l.length ≤ R.cs.length) :
    let cs' := R.cs.take off ++ l ++ R.cs.drop (off + l.length)
    let w' := w.setRow b (cells.toList.take off ++ vs ++ cells.toList.drop (off + vs.length)).toArray
    SatR B ⟨st.σ, (r, { R with cs := cs' }) :: st.h, st.nx⟩ a w' ρ ∧ (st.env B w ρ).Le (St.env B ⟨st.σ, (r, { R with cs := cs' }) :: st.h, st.nx⟩ w' ρ) := by
  intro cs' w'
  have hvl := repVals_length hl
  obtain ⟨c2, g1, g2, g3, g4, g5⟩ := s.blkOf hr hb
  have e2 : c2 = cells := by
    rw [hc] at g1
    injection g1 with g1
    injection g1 with g1 _
    exact g1.symm
  subst e2
  have hszN : c2.toList.length = c2.size := Array.length_toList ..
  have hsz : off + vs.length ≤ c2.toList.length := by omega
  refine s.change hr ho hb hc _ (by simp only [List.size_toArray, List.length_append, List.length_take, List.length_drop]; omega) (fun k hk => ?_) (setRow_size ..) (setRow_heap w b c2 _ R.E (0, 0) hc) (fun k hk => setRow_other w b k _ hk) rfl rfl rfl cs' ?_ ?_ (fun k d hk => ?_)
  · simp only [List.getElem?_toArray]
    rw [getElem?_splice _ _ _ hsz, if_pos (by omega)]
    simp
  · simp only [cs', List.length_append, List.length_take, List.length_drop]; omega
  · have := (s.roots r R hr).fz
    simp only [cs', List.length_append, List.length_take, List.length_drop]; omega
  · simp only [List.getElem?_toArray]
    rw [getElem?_splice _ _ _ hsz]
    have hk' : (R.cs.take off ++ l ++ R.cs.drop (off + l.length))[k]? = some d := hk
    rw [getElem?_splice _ _ _ hlen] at hk'
    by_cases k1 : k < off
    · rw [if_pos k1] at hk' ⊢
      obtain ⟨v, q1, q2, q3, _⟩ := g5 k d hk'
      exact ⟨v, by simpa using q1, q2, q3⟩
    · rw [if_neg k1] at hk' ⊢
      by_cases k2 : k < off + l.length
      · rw [if_pos k2] at hk'
        rw [if_pos (by omega)]
        exact repVals_get hl h1 _ d hk'
      · rw [if_neg k2] at hk'
        rw [if_neg (by omega)]
        obtain ⟨v, q1, q2, q3, _⟩ := g5 k d hk'
        exact ⟨v, by simpa using q1, q2, q3⟩

theorem evStore_sound (hv : Valid P τ) (s : SatR B st a w ρ) {t : TypeId} {da dx : D} {va vx : Value} (ha : rep (st.env B w ρ) da va) (hx : rep (st.env B w ρ) dx vx)
    {h' : List (Nat × Root)} {p : Prop} (h : evStore τ st.h t da dx = some (h', p)) (hp : p) :
    ∃ w', (Instr.storeAt t va vx).run P w = .ok () w' ∧ SatR B ⟨st.σ, h', st.nx⟩ a w' ρ ∧ (st.env B w ρ).Le (St.env B ⟨st.σ, h', st.nx⟩ w' ρ) := by
  unfold evStore at h
  simp only [setCs_eq] at h
  split at h
  · cases h
  · rename_i i hi
    have hT := tok hv hi
    split at h
    · rename_i r off
      simp only [rep] at ha
      obtain ⟨_, b, hb, rfl⟩ := ha
      split at h
      · cases h
      · rename_i R hR
        split at h
        · cases h
        · rename_i hown
          split at h
          · cases h
          · rename_i l hl
            obtain ⟨hc, hone⟩ := cellsD_rep hl hx
            have hcl : vx.cells.toList.length = l.length := repVals_length hc
            split at h
            · cases h
            · rename_i hlen
              have hlen := Nat.eq_of_beq_eq_true hlen
              obtain ⟨cells, g1, g2, g3, g4, g5⟩ := s.blkOf hR hb
              have main : (R.lit = true ∨ topL l = true) → R.fz ≤ off → off + l.length ≤ R.cs.length → ∃ w', (Instr.storeAt t (.pointer (some ⟨b, off, none⟩)) vx).run P w = .ok () w' ∧
                  SatR B ⟨st.σ, (r, { R with cs := R.cs.take off ++ l ++ R.cs.drop (off + l.length) }) :: st.h, st.nx⟩ a w' ρ ∧
                  (st.env B w ρ).Le (St.env B ⟨st.σ, (r, { R with cs := R.cs.take off ++ l ++ R.cs.drop (off + l.length) }) :: st.h, st.nx⟩ w' ρ) := by
                intro h0 h1 h2
                have hcat : repVals ((st.env B w ρ).at R.lit) l vx.cells.toList := by
                  cases hlit : R.lit with
                  | true => exact hc
                  | false => exact topL_pure l _ (h0.resolve_left (by simp [hlit])) hc
                have hst := run_storeCells_at P b off R.E vx.cells.toList 0 cells w g1 (by omega) hone
                simp only [Nat.add_zero] at hst
                refine ⟨_, ?_, s.splice hR hown hb g1 off l vx.cells.toList hcat hone h1 h2⟩
                have hsize : vx.cells.size = i.size := by rw [← hlen, ← hcl]; simp
                simp only [Instr.storeAt, Instr.sureAddr, storeVar, Sem.run_bind, Sem.run_pure, Result.andThen_ok, hT.size_run, hsize, ne_eq, not_true_eq_false, if_false]
                exact hst
              split at h
              · rename_i hlit
                split at h
                · cases h
                · rename_i cs hset
                  obtain ⟨e1, e2⟩ := setAt_eq hset
                  split at h
                  · rename_i hfz
                    simp only [Option.some.injEq, Prod.mk.injEq] at h
                    obtain ⟨rfl, rfl⟩ := h
                    rw [e1]
                    exact main (.inl hlit) (by omega) e2
                  · simp only [Option.some.injEq, Prod.mk.injEq] at h
                    obtain ⟨rfl, rfl⟩ := h
                    rw [e1]
                    exact main (.inl hlit) hp e2
              · split at h
                · cases h
                rename_i htop
                split at h
                · rename_i d _ _
                  simp only [Option.some.injEq, Prod.mk.injEq] at h
                  obtain ⟨rfl, rfl⟩ := h
                  rw [show ∀ x : D, R.cs.set off x = R.cs.take off ++ [x] ++ R.cs.drop (off + [x].length) from fun x => by
                    rw [List.set_eq_take_append_cons_drop, if_pos hp.2]
                    simp]
                  exact main (.inr htop) hp.1 (by have := hp.2; simp; omega)
                · simp only [Option.some.injEq, Prod.mk.injEq] at h
                  obtain ⟨rfl, rfl⟩ := h
                  exact main (.inr htop) hp.1 hp.2
    · cases h

/-! ### make, and literals of slices -/
def zeros (size n : Nat) (z : List D) : List D :=
  match size, z with
  | 1, [d] => List.replicate n d
  | _, z => (List.replicate n z).flatten
theorem zeros_eq (size n : Nat) (z : List D) : zeros size n z = (List.replicate n z).flatten := by
  unfold zeros
  split
  · rename_i d
    induction n with
    | zero => simp
    | succ n ih => rw [List.replicate_succ, List.replicate_succ, List.flatten_cons, ← ih]; rfl
  · rfl
def evMake (τ : List (Nat × TI)) (h : List (Nat × Root)) (nx : Nat) (t : TypeId) (dl dc : D) : Option HOut :=
  match get τ t with
  | none => none
  | some i => match i.k with
    | .slice e => match get τ e with
      | none => none
      | some ie => match Nat.beq ie.size 0 with
        | true => none
        | false => match Nat.beq ie.zero.length ie.size with
          | false => none
          | true => match dl, dc with
            | .i _ l, .i _ c => match fresh h nx with
              | false => none
              | true => some (.os nx 0 l.toNat, (nx, ie.row e (zeros ie.size l.toNat ie.zero) 0 true false false) :: h, nx + 1,
                0 ≤ l ∧ l ≤ c ∧ (ie.bytes : Int) * c ≤ 281474976710656 ∧ c ≤ 9223372036854775807)
            | _, _ => none
    | _ => none

theorem flatten_replicate_get {α : Type} (z : List α) : ∀ (n k : Nat), k < n * z.length → (List.replicate n z).flatten[k]? = z[k % z.length]?
  | 0, k, h => by simp at h
  | n + 1, k, h => by
    rw [List.replicate_succ, List.flatten_cons]
    by_cases h1 : k < z.length
    · rw [List.getElem?_append_left h1, Nat.mod_eq_of_lt h1]
    · rw [List.getElem?_append_right (by omega), flatten_replicate_get z n (k - z.length) (by rw [Nat.succ_mul] at h; omega)]
      rw [← Nat.mod_eq_sub_mod (by omega)]

theorem evMake_sound (hv : Valid P τ) (s : SatR B st a w ρ) {t : TypeId} {dl dc : D} {vl vc : Value} (hl : rep (st.env B w ρ) dl vl) (hc : rep (st.env B w ρ) dc vc)
    {d : D} {h' : List (Nat × Root)} {nx' : Nat} {p : Prop} {id : Nat} (hid : st.nx ≤ id) (h : evMake τ st.h id t dl dc = some (d, h', nx', p)) (hp : p) :
    ∃ v w' ρ', (Instr.makeSlice t vl vc).run P w = .ok v w' ∧ SatR B ⟨st.σ, h', st.nx⟩ a w' ρ' ∧ rep (St.env B ⟨st.σ, h', st.nx⟩ w' ρ') d v ∧
      (st.env B w ρ).Le (St.env B ⟨st.σ, h', st.nx⟩ w' ρ') := by
  unfold evMake at h
  simp only [row_eq] at h
  split at h
  · cases h
  · rename_i i hi
    have hT := tok hv hi
    split at h
    · rename_i e hk
      have hu := hT.slice hk
      split at h
      · cases h
      · rename_i ie he
        have hTe := tok hv he
        split at h
        · cases h
        · rename_i hpos
          have hpos : 0 < ie.size := by
            rcases Nat.eq_zero_or_pos ie.size with h0 | h0
            · rw [h0] at hpos; cases hpos
            · exact h0
          split at h
          · cases h
          · rename_i hzl
            have hzl := Nat.eq_of_beq_eq_true hzl
            split at h
            · rename_i kl l kc c
              simp only [rep] at hl hc
              subst hl hc
              split at h
              · cases h
              rename_i hfr
              have hno := fresh_spec hfr hid
              simp only [Option.some.injEq, Prod.mk.injEq] at h
              obtain ⟨rfl, rfl, rfl, rfl⟩ := h
              obtain ⟨inf, z, f1, f2, f3, f4, f5⟩ := hTe.info
              have hzv : z.cells.size = ie.size := by
                have := repVals_length (zs_rep (E := ⟨default, fun _ _ => True, fun _ => default, fun _ => False⟩) f5)
                rw [← hzl, ← this]; simp
              have hr := run_make (P := P) w t e inf z hu f1 f4 kl kc l c hp.1 hp.2.1 (by rw [f3]; exact hp.2.2.1) hp.2.2.2
              rw [f2] at hr
              have hln : l.toNat ≤ c.toNat := by have := hp.2.1; omega
              have hlc : l.toNat * ie.size ≤ c.toNat * ie.size := Nat.mul_le_mul_right _ hln
              have hzz : (zeros ie.size l.toNat ie.zero).length = l.toNat * ie.size := by rw [zeros_eq]; simp [hzl]
              obtain ⟨q1, q2⟩ := s.alloc id hno ⟨e, ie.size, zeros ie.size l.toNat ie.zero, 0, true, false, false⟩ (madeCells z.cells (c.toNat * ie.size)) c.toNat hpos (size_madeCells _ _)
                (by have := hp.2.2.2; simp only [maxLen]; omega) (by rw [hzz, size_madeCells]; exact hlc) (Nat.zero_le _) (fun k d hk => by
                  have hk : (zeros ie.size l.toNat ie.zero)[k]? = some d := hk
                  have hklt : k < l.toNat * ie.size := by
                    rw [← hzz]
                    exact (List.getElem?_eq_some_iff.1 hk).1
                  rw [zeros_eq, flatten_replicate_get _ _ _ (by rw [hzl]; exact hklt)] at hk
                  obtain ⟨v, g1, g2, g3⟩ := repVals_get (zs_rep (E := (st.env B w ρ).at false) f5) (zs_one f5) _ d hk
                  refine ⟨v, ?_, g2, g3⟩
                  rw [hzl] at g1
                  have hm : k % ie.size < z.cells.size := by rw [hzv]; exact Nat.mod_lt _ hpos
                  have hkc : k < c.toNat * ie.size := by omega
                  simp only [madeCells, Array.getElem?_map, hzv]
                  rw [Array.getElem?_eq_getElem (by simpa using hkc)]
                  simp only [Array.getElem_range, Option.map_some, Option.some.injEq]
                  have g1' : z.cells[k % ie.size]? = some v := by simpa using g1
                  rw [getElem!_def, g1'])
              refine ⟨_, _, _, hr, q1, ?_, q2⟩
              simp only [rep]
              refine ⟨St.has_of (st := ⟨st.σ, (id, _) :: st.h, st.nx⟩) (by rw [get_cons, if_pos rfl]), ?_⟩
              unfold osRep
              simp only [St.env, if_true]
              exact ⟨0, c.toNat, rfl, by omega, hln, fun _ => by omega⟩
            · cases h
    · cases h
end
end Go.Px
end

section
namespace Go.Px
open Go.RowKit
section
variable {P : Program} {τ : List (Nat × TI)} {B : Base} {st : St} {a : Act} {w : World} {ρ : Nat → RC}

theorem SatR.blk_lt (s : SatR B st a w ρ) {r : Nat} {R : Root} {b : Nat} (hr : get st.h r = some R) (hb : (ρ r).blk = some b) : b < w.heap.size := by
  obtain ⟨c, h, _⟩ := s.blkOf hr hb
  exact blk_lt_size h

/-- A new block that is no root: its cells may be read for good. -/
theorem SatR.fresh_cells (s : SatR B st a w ρ) (E : TypeId) (cells : Array Value) (cs : List D)
    (hcs : ∀ (k : Nat) (d : D), cs[k]? = some d → ∃ v, cells[k]? = some v ∧ v.oneCell' = true ∧ rep (st.env B w ρ).pure d v) :
    SatR B st a (w.alloc (.cells cells E)) ρ ∧ (st.env B w ρ).Le (st.env B (w.alloc (.cells cells E)) ρ) ∧ repCells (st.env B (w.alloc (.cells cells E)) ρ).pure cs w.heap.size 0 := by
  have hle : (st.env B w ρ).Le (st.env B (w.alloc (.cells cells E)) ρ) := SatR.env_le (by simp) (fun b hb => by show (w.heap.push _)[b]? = _; rw [Array.getElem?_push, if_neg (Nat.ne_of_lt hb)])
  refine ⟨s.alloc_frozen _, hle, ?_⟩
  rw [repCells_iff]
  intro k d hk
  obtain ⟨v, h1, h2, h3⟩ := hcs k d hk
  refine ⟨v, ?_, ⟨.inr s.ext.size, fun r R hr ho hb => ?_⟩, h2, rep_mono hle.pure d v h3⟩
  · rw [Nat.zero_add]
    show (w.alloc _).cell? _ = _
    rw [cell_of_heap (heap_alloc_new w _)]; exact h1
  · exact absurd (s.blk_lt hr hb) (Nat.lt_irrefl _)

def evBuildSlice (τ : List (Nat × TI)) (t : TypeId) (len : Nat) (parts : List (Nat × D)) : Option (D × Prop) :=
  match get τ t with
  | none => none
  | some i => match i.k with
    | .slice e => match get τ e with
      | none => none
      | some ie => match Nat.beq ie.size 0 with
        | true => none
        | false => match Nat.beq ie.zero.length ie.size with
          | false => none
          | true => match Nat.beq len 0 with
           | true => none
           | false => match Nat.ble (len * ie.size) 16777216 with
            | false => none
            | true => match Nat.ble len 16777216 with
              | false => none
              | true => match fillD ((List.range len).map fun k => (k * ie.size, ie.size, ie.k.agg)) (zeros ie.size len ie.zero) parts with
                | some l => match topL l with | true => some (.sl ie.size len l, True) | false => none
                | none => none
    | _ => none

theorem fillD_length {fs : List (Nat × Nat × Bool)} : ∀ {parts : List (Nat × D)} {cs l : List D}, fillD fs cs parts = some l → l.length = cs.length
  | [], cs, l, h => by simp [fillD] at h; simp [h]
  | (f, d) :: r, cs, l, h => by
    simp only [fillD] at h
    split at h
    · cases h
    · split at h
      · cases h
      · split at h
        · cases h
        · split at h
          · cases h
          · rename_i cs' hset
            rw [fillD_length h]
            obtain ⟨e1, e2⟩ := setAt_eq hset
            rw [e1]
            simp
            omega

theorem zero_row {E : Env} {t : TypeId} {i : TI} (hT : TOK P t i) (hzl : i.zero.length = i.size) (hpos : 0 < i.size) (w : World) (n : Nat) : ∃ z, (zeroValue t).run P w = .ok z w ∧ z.cells.size = i.size ∧
    repVals E (zeros i.size n i.zero) ((Array.range (n * i.size)).map (z.cells[· % z.cells.size]!)).toList ∧ ∀ u ∈ ((Array.range (n * i.size)).map (z.cells[· % z.cells.size]!)).toList, u.oneCell' = true := by
  obtain ⟨z, h1, h2, h3⟩ := zero_len hT w
  have hzv : z.cells.size = i.size := by rw [h3, hzl]
  have hget : ∀ k, k < n * i.size → ∃ v, z.cells[k % i.size]? = some v ∧ z.cells[k % i.size]! = v ∧ v.oneCell' = true := fun k hk => by
    have hm : k % i.size < z.cells.size := by rw [hzv]; exact Nat.mod_lt _ hpos
    refine ⟨z.cells[k % i.size], Array.getElem?_eq_getElem hm, getElem!_pos z.cells _ hm, zs_one h2 _ (by simp)⟩
  refine ⟨z, h1, hzv, ?_, fun u hu => ?_⟩
  · rw [repVals_iff, zeros_eq]
    refine ⟨by simp [hzl], fun k d hk => ?_⟩
    have hklt : k < n * i.size := by
      have := (List.getElem?_eq_some_iff.1 hk).1
      simpa [hzl] using this
    rw [flatten_replicate_get _ _ _ (by rw [hzl]; exact hklt), hzl] at hk
    obtain ⟨v, g1, g2, g3⟩ := repVals_get (zs_rep (E := E) h2) (zs_one h2) _ d hk
    obtain ⟨v', q1, q2, q3⟩ := hget k hklt
    have : v' = v := by
      have g1' : z.cells[k % i.size]? = some v := by simpa using g1
      rw [q1] at g1'
      exact Option.some.inj g1'
    subst this
    refine ⟨v', ?_, g3⟩
    simp [hklt, hzv, q2]
  · simp only [Array.toList_map, Array.toList_range, List.mem_map, List.mem_range] at hu
    obtain ⟨k, hk, rfl⟩ := hu
    obtain ⟨v', q1, q2, q3⟩ := hget k hk
    rw [hzv, q2]
    exact q3

theorem evBuildSlice_sound (hv : Valid P τ) (s : SatR B st a w ρ) {t : TypeId} {len : Nat} {parts : List (Nat × D)} {vparts : Array (Nat × Value)} {d : D} {p : Prop}
    (hm : vparts.toList.map (·.1) = parts.map (·.1)) (hr : ∀ (k : Nat) (p : Nat × D) (q : Nat × Value), parts[k]? = some p → vparts.toList[k]? = some q → rep (st.env B w ρ) p.2 q.2)
    (h : evBuildSlice τ t len parts = some (d, p)) : ∃ v w', (Instr.buildSlice t len vparts).run P w = .ok v w' ∧ SatR B st a w' ρ ∧ rep (st.env B w' ρ) d v ∧ (st.env B w ρ).Le (st.env B w' ρ) := by
  unfold evBuildSlice at h
  split at h
  · cases h
  · rename_i i hi
    have hT := tok hv hi
    split at h
    · rename_i e hk
      have hu := hT.slice hk
      split at h
      · cases h
      · rename_i ie he
        have hTe := tok hv he
        split at h
        · cases h
        · rename_i hpos
          have hpos : 0 < ie.size := by
            rcases Nat.eq_zero_or_pos ie.size with h0 | h0
            · rw [h0] at hpos; cases hpos
            · exact h0
          split at h
          · cases h
          · rename_i hzl
            have hzl := Nat.eq_of_beq_eq_true hzl
            split at h
            · cases h
            rename_i hl0
            split at h
            · cases h
            · rename_i hb1
              have hb1 := Nat.le_of_ble_eq_true hb1
              split at h
              · cases h
              · rename_i hb2
                have hb2 := Nat.le_of_ble_eq_true hb2
                split at h
                · rename_i l hl
                  split at h
                  case h_2 => cases h
                  rename_i htop
                  simp only [Option.some.injEq, Prod.mk.injEq] at h
                  obtain ⟨rfl, rfl⟩ := h
                  obtain ⟨z, z1, z2, z3, z4⟩ := zero_row (E := st.env B w ρ) hTe hzl hpos w len
                  obtain ⟨cells', q1, q2, q3⟩ := fill_sound (place := fun f => some (f * ie.size, ie.size)) (fun f o s ag h => by
                    simp only [List.getElem?_map, Option.map_eq_some_iff, Prod.mk.injEq] at h
                    obtain ⟨k, hk, rfl, rfl, _⟩ := h
                    have : k = f := by
                      rw [List.getElem?_eq_some_iff] at hk
                      obtain ⟨hlt, hk⟩ := hk
                      simp at hk
                      exact hk.symm
                    rw [this]) z3 z4 hm hr hl
                  have hll := fillD_length hl
                  rw [zeros_eq] at hll
                  simp [hzl] at hll
                  obtain ⟨f1, f2, f3⟩ := s.fresh_cells e cells' l (fun k d hk => by
                    obtain ⟨v, g1, g2, g3⟩ := repVals_get (topL_pure l _ htop q2) q3 k d hk
                    exact ⟨v, by simpa using g1, g2, g3⟩)
                  refine ⟨.slice (some ⟨w.heap.size, 0, none⟩) len len, _, ?_, f1, ?_, f2⟩
                  · have hng : ¬ (len * ie.size > 2 ^ 24) := by have : (2 : Nat) ^ 24 = 16777216 := rfl; omega
                    have h0 : ¬ (len * ie.size = 0) := by
                      intro h
                      rcases Nat.mul_eq_zero.1 h with h | h
                      · subst h; cases hl0
                      · omega
                    simp only [Instr.buildSlice, Sem.run_bind, run_underlying hu, Result.andThen_ok, hTe.size_run, if_neg hng, if_neg h0, z1, Sem.run_pure, q1, newRow, run_newObj]
                    rfl
                  · simp only [rep]
                    exact ⟨_, len, rfl, Nat.le_refl _, by simp only [maxLen]; omega, hll, fun _ => ⟨_, 0, rfl, f3⟩⟩
                · cases h
    · cases h
end
end Go.Px
end

section
namespace Go.Px
open Go.RowKit
section
variable {P : Program} {τ : List (Nat × TI)} {B : Base} {st : St} {a : Act} {w : World} {ρ : Nat → RC}

/-- The cells of a slice. -/
def evList (h : List (Nat × Root)) (size : Nat) (x : D) : Option (Nat × List D × Prop) :=
  match x with
  | .sl sz m cs => match Nat.beq sz size with | true => some (m, cs, True) | false => none
  | .nils => some (0, [], True)
  | .os r off m => match get h r with
    | none => none
    | some R => match Nat.beq R.sz size with
      | false => none
      | true => match R.lit with
       | true => none
       | false => match off with
        | 0 => some (m, R.cs.take (mulN m size), mulN m size ≤ R.cs.length)
        | off => some (m, (R.cs.drop (mulN off size)).take (mulN m size), mulN (off + m) size ≤ R.cs.length)
  | _ => none

theorem evList_sound (s : SatR B st a w ρ) {size : Nat} {x : D} {vx : Value} (hx : rep (st.env B w ρ) x vx) {m : Nat} {xs : List D} {p : Prop}
    (h : evList st.h size x = some (m, xs, p)) (hp : p) : ∃ A c news, vx = .slice A m c ∧ m ≤ c ∧ xs.length = m * size ∧ repVals (st.env B w ρ).pure xs news ∧ (∀ u ∈ news, u.oneCell' = true) ∧
      (0 < m → ∃ ad, A = some ad ∧ ∀ (j : Nat) (v : Value), news[j]? = some v → w.cell? (ad.add j) = some v) := by
  unfold evList at h
  split at h
  · rename_i sz m' cs
    simp only [rep] at hx
    obtain ⟨A, c, rfl, h1, h2, h3, h4⟩ := hx
    split at h
    · rename_i hsz
      have hsz := Nat.eq_of_beq_eq_true hsz
      subst hsz
      simp only [Option.some.injEq, Prod.mk.injEq] at h
      obtain ⟨rfl, rfl, rfl⟩ := h
      rcases Nat.eq_zero_or_pos m' with h0 | h0
      · subst h0
        have : cs = [] := List.eq_nil_of_length_eq_zero (by simpa using h3)
        subst this
        exact ⟨A, c, [], rfl, h1, by simp, by simp [repVals], by simp, fun h => absurd h (by omega)⟩
      · obtain ⟨b, o, rfl, hc⟩ := h4 h0
        obtain ⟨vs, q1, q2, q3⟩ := (Reads.of_cells hc).vals
        exact ⟨_, c, vs, rfl, h1, h3, q1, q3, fun _ => ⟨_, rfl, fun j v hj => by rw [add_at]; exact q2 j v hj⟩⟩
    · cases h
  · simp only [rep] at hx
    subst hx
    simp only [Option.some.injEq, Prod.mk.injEq] at h
    obtain ⟨rfl, rfl, rfl⟩ := h
    exact ⟨none, 0, [], rfl, Nat.le_refl _, by simp, by simp [repVals], by simp, fun h => absurd h (by omega)⟩
  · rename_i r off m'
    simp only [rep] at hx
    obtain ⟨hlt, hx⟩ := hx
    split at h
    · cases h
    · rename_i R hR
      split at h
      · cases h
      · rename_i hsz
        have hsz := Nat.eq_of_beq_eq_true hsz
        have hρ := (s.roots r R hR).sz
        split at h
        · cases h
        rename_i hlit
        have hreads : ∀ {b : Nat}, (ρ r).blk = some b → Reads (st.env B w ρ).pure R.cs b 0 := fun hb => by
          have := s.reads_at hR hb
          rwa [hlit] at this
        have key : ∀ (xs' : List D), xs' = (R.cs.drop (off * size)).take (m' * size) → (off + m') * size ≤ R.cs.length → ∃ A c news, vx = .slice A m' c ∧ m' ≤ c ∧ xs'.length = m' * size ∧ repVals (st.env B w ρ).pure xs' news ∧ (∀ u ∈ news, u.oneCell' = true) ∧
            (0 < m' → ∃ ad, A = some ad ∧ ∀ (j : Nat) (v : Value), news[j]? = some v → w.cell? (ad.add j) = some v) := by
          intro xs' hxs hle
          subst hxs
          have hlen : ((R.cs.drop (off * size)).take (m' * size)).length = m' * size := by
            rw [List.length_take, List.length_drop]
            rw [Nat.add_mul] at hle
            omega
          unfold osRep at hx
          split at hx
          · rename_i hb
            obtain ⟨rfl, rfl, rfl⟩ := hx
            exact ⟨none, 0, [], rfl, Nat.le_refl _, by simp, by simp [repVals], by simp, fun h => absurd h (by omega)⟩
          · rename_i b hb
            obtain ⟨o, k, rfl, q1, q2, q3⟩ := hx
            obtain ⟨vs, g1, g2, g3⟩ := (((hreads hb).drop (off * size)).take (m' * size)).vals
            refine ⟨_, k, vs, rfl, q2, hlen, g1, g3, fun hm => ⟨_, rfl, fun j v hj => ?_⟩⟩
            have := g2 j v hj
            rw [add_at]
            have ho : o = off * size := by
              have h3 : (ρ r).sz = R.sz := hρ
              rw [q3 (by omega), ← hsz, ← h3]
              rfl
            rw [ho]
            rwa [Nat.zero_add] at this
        split at h
        · simp only [Option.some.injEq, Prod.mk.injEq] at h
          obtain ⟨rfl, rfl, rfl⟩ := h
          rw [mulN_eq] at hp ⊢
          exact key _ (by simp) (by simpa using hp)
        · simp only [Option.some.injEq, Prod.mk.injEq] at h
          obtain ⟨rfl, rfl, rfl⟩ := h
          simp only [mulN_eq] at hp ⊢
          exact key _ rfl hp
  · cases h

def evAppend (τ : List (Nat × TI)) (h : List (Nat × Root)) (nx : Nat) (t : TypeId) (ds dx : D) : Option HOut :=
  match get τ t with
  | none => none
  | some i => match i.k with
    | .slice e => match get τ e with
      | none => none
      | some ie => match Nat.beq ie.size 0 with
        | true => none
        | false => match Nat.beq ie.zero.length ie.size with
          | false => none
          | true => match Nat.beq ie.bytes 0 with
            | true => none
            | false => match evList h ie.size dx with
              | none => none
              | some (m, xs, px) => match fresh h nx with
               | false => none
               | true => match ds with
                | .nils => some (.os nx 0 m, (nx, ie.row e xs 0 true false false) :: h, nx + 1, px ∧ m * ie.bytes ≤ 140737488355328)
                | .os r off n => match off with
                  | 0 => match get h r with
                    | none => none
                    | some R => match R.own with
                      | false => none
                      | true => match Nat.beq R.sz ie.size with
                        | false => none
                        | true => match Nat.beq R.E e with
                          | false => none
                          | true => match R.giv with
                            | false => some (.os nx 0 (n + m), (nx, ie.row e (R.cs ++ xs) R.cs.length true false R.lit) :: (r, ie.row e R.cs 0 false false R.lit) :: h, nx + 1,
                                px ∧ R.cs.length = n * ie.size ∧ (n + m) * ie.bytes ≤ 140737488355328)
                            | true => some (.os nx 0 (n + m), (nx, ie.row e (R.cs ++ xs) R.fz true true R.lit) :: (r, ie.row e [] 0 false true R.lit) :: h, nx + 1,
                                px ∧ R.cs.length = n * ie.size ∧ (n + m) * ie.bytes ≤ 140737488355328)
                  | _ => none
                | _ => none
    | _ => none

theorem run_append_zero (w : World) (t ty e : TypeId) (inf : TypeInfo) (hu : P.underlying t = some (.slice e)) (hi : P.info? e = some inf) (base : Option Addr) (n cap : Nat) (hn : n ≤ cap) (A : Option Addr) (c : Nat) :
    (Builtin.append_ #[t, t] ty #[.slice base n cap, .slice A 0 c]).run P w = .ok (.slice base n cap) w := by
  cases base <;> cases A <;> simp [Builtin.append_, run_underlying hu, sizeOf, typeInfo, hi, Builtin.lenOf, hn, Builtin.firstCells, loadCells, loadCellsFrom, storeCells]

theorem osRep_whole (g : Nat) (c : RC) (h : c.blk = some g) (n k : Nat) (hk : k = c.cap) (hn : n ≤ k) : osRep c 0 n (.slice (some ⟨g, 0, none⟩) n k) := by
  unfold osRep
  rw [h]
  exact ⟨0, k, rfl, by omega, hn, fun _ => by omega⟩

theorem evAppend_sound (hv : Valid P τ) (s : SatR B st a w ρ) {t ty : TypeId} {ds dx : D} {vs vx : Value} (hs : rep (st.env B w ρ) ds vs) (hx : rep (st.env B w ρ) dx vx)
    {d : D} {h' : List (Nat × Root)} {nx' : Nat} {p : Prop} {id : Nat} (hid : st.nx ≤ id) (h : evAppend τ st.h id t ds dx = some (d, h', nx', p)) (hp : p) :
    ∃ v w' ρ', (Builtin.append_ #[t, t] ty #[vs, vx]).run P w = .ok v w' ∧ SatR B ⟨st.σ, h', st.nx⟩ a w' ρ' ∧ rep (St.env B ⟨st.σ, h', st.nx⟩ w' ρ') d v ∧
      (st.env B w ρ).Le (St.env B ⟨st.σ, h', st.nx⟩ w' ρ') := by
  unfold evAppend at h
  simp only [row_eq] at h
  split at h
  · cases h
  rename_i i hi
  have hT := tok hv hi
  split at h
  case h_2 => cases h
  rename_i e hk
  have hu := hT.slice hk
  split at h
  · cases h
  rename_i ie he
  have hTe := tok hv he
  split at h
  · cases h
  rename_i hpos
  have hpos : 0 < ie.size := by
    rcases Nat.eq_zero_or_pos ie.size with h0 | h0
    · rw [h0] at hpos; cases hpos
    · exact h0
  split at h
  · cases h
  rename_i hzl
  have hzl := Nat.eq_of_beq_eq_true hzl
  split at h
  · cases h
  rename_i hby
  have hby : 0 < ie.bytes := by
    rcases Nat.eq_zero_or_pos ie.bytes with h0 | h0
    · rw [h0] at hby; cases hby
    · exact h0
  split at h
  · cases h
  rename_i m xs px hlist
  split at h
  · cases h
  rename_i hfr
  have hno := fresh_spec hfr hid
  have hself : ∀ (R : Root) (l : List (Nat × Root)), St.has ⟨st.σ, (id, R) :: l, st.nx⟩ id := fun R l => St.has_of (st := ⟨st.σ, (id, R) :: l, st.nx⟩) (R := R) (by rw [get_cons, if_pos rfl])
  obtain ⟨inf, z, f1, f2, f3, f4, f5⟩ := hTe.info
  have hzv : z.cells.size = ie.size := by
    have := repVals_length (zs_rep (E := ⟨default, fun _ _ => True, fun _ => default, fun _ => False⟩) f5)
    rw [← hzl, ← this]; simp
  have small : ∀ k : Nat, k * ie.bytes ≤ 140737488355328 → k ≤ 140737488355328 := fun k hk => Nat.le_trans (Nat.le_mul_of_pos_right _ hby) hk
  -- a new block with these cells
  have newblk : ∀ (cs : List D) (vals : List Value) (N cap fz : Nat) (hN : cs.length = N * ie.size) (giv lit : Bool), repVals ((st.env B w ρ).at lit) cs vals → (∀ u ∈ vals, u.oneCell' = true) → N ≤ cap → cap ≤ maxLen → fz ≤ cs.length →
      let st' : St := ⟨st.σ, (id, ⟨e, ie.size, cs, fz, true, giv, lit⟩) :: st.h, st.nx⟩
      let w' := w.drew.alloc (.cells (vals.toArray ++ Builtin.zeroCells z.cells (cap - N)) e)
      let ρ' := fun r => if r = id then (⟨some w.heap.size, ie.size, cap⟩ : RC) else ρ r
      SatR B st' a w' ρ' ∧ (st.env B w ρ).Le (st'.env B w' ρ') := by
    intro cs vals N cap fz hN giv lit hr h1 hcap hmax hfz
    have sd := s.drew
    have hled : (st.env B w ρ).Le (st.env B w.drew ρ) := SatR.env_le (Nat.le_refl _) (fun b _ => rfl)
    have hvl := repVals_length hr
    obtain ⟨q1, q2⟩ := sd.alloc id hno ⟨e, ie.size, cs, fz, true, giv, lit⟩ (vals.toArray ++ Builtin.zeroCells z.cells (cap - N)) cap hpos (by
        simp only [Array.size_append, List.size_toArray, size_zeroCells, hzv, hvl, hN, ← Nat.add_mul]
        congr 1
        omega) hmax (by simp only [Array.size_append, List.size_toArray, hvl]; omega) hfz (fun k d hk => by
        have hk : cs[k]? = some d := hk
        obtain ⟨v, g1, g2, g3⟩ := repVals_get hr h1 k d hk
        refine ⟨v, ?_, g2, rep_mono (hled.at _) d v g3⟩
        have hlt : k < vals.length := (List.getElem?_eq_some_iff.1 g1).1
        rw [Array.getElem?_append_left (by simpa using hlt)]
        simpa using g1)
    exact ⟨q1, ⟨fun b o v h1 h2 => q2.cell b o v (by exact h1) h2, q2.root, q2.nx⟩⟩
  split at h
  · -- nil
    simp only [Option.some.injEq, Prod.mk.injEq] at h
    obtain ⟨rfl, rfl, rfl, rfl⟩ := h
    simp only [rep] at hs
    subst hs
    obtain ⟨A, c, news, rfl, hmc, hxl, hn, hn1, hA⟩ := evList_sound s hx hlist hp.1
    have hnl : news.length = m * ie.size := (repVals_length hn).trans hxl
    rcases Nat.eq_zero_or_pos m with h0 | h0
    · subst h0
      have hxs : xs = [] := List.eq_nil_of_length_eq_zero (by simpa using hxl)
      obtain ⟨q1, q2⟩ := s.nilroot id hno ⟨e, ie.size, xs, 0, true, false, false⟩ hpos hxs rfl
      refine ⟨_, _, _, run_append_zero w t ty e inf hu f1 none 0 0 (Nat.le_refl _) A c, q1, ?_, q2⟩
      simp only [rep]
      exact ⟨hself _ _, by unfold osRep; simp [St.env]⟩
    · obtain ⟨ad, rfl, hcells⟩ := hA h0
      have hsm := small m hp.2
      have hr := run_append_nil (P := P) w t ty e inf z hu f1 f4 ad m c news (by rw [f2]; exact hnl) hcells h0 (by omega) (by rw [f3]; have := hp.2; omega)
      have hcap := grownCap_ge w m 0 e
      have hmax := grownCap_le_maxLen w m 0 e (by simp only [maxLen]; omega)
      obtain ⟨q1, q2⟩ := newblk xs news m (grownCap w m 0 e) 0 hxl false false hn hn1 hcap hmax (Nat.zero_le _)
      refine ⟨_, _, _, hr, q1, ?_, q2⟩
      simp only [rep]
      exact ⟨hself _ _, osRep_whole _ _ (by simp [St.env]) _ _ (by simp [St.env]) hcap⟩
  · rename_i r off n
    split at h
    case h_2 => cases h
    split at h
    · cases h
    rename_i R hR
    split at h
    · cases h
    rename_i hown
    split at h
    · cases h
    rename_i hRsz
    have hRsz := Nat.eq_of_beq_eq_true hRsz
    split at h
    · cases h
    rename_i hRE
    have hRE := Nat.eq_of_beq_eq_true hRE
    have hρsz : (ρ r).sz = R.sz := (s.roots r R hR).sz
    have hrlt : st.has r := (s.roots r R hR).lt
    have hri : r ≠ id := fun e => hno (by rw [← e]; exact hrlt)
    simp only [rep] at hs
    obtain ⟨_, hs⟩ := hs
    -- all ways at once: what becomes of the elder root
    have main : ∀ (j fz : Nat), (R.giv = false ∨ j = 0) → (j ≤ fz) → R.fz ≤ fz → fz ≤ R.cs.length → px → R.cs.length = n * ie.size → (n + m) * ie.bytes ≤ 140737488355328 →
        ∃ v w' ρ', (Builtin.append_ #[t, t] ty #[vs, vx]).run P w = .ok v w' ∧
          SatR B ⟨st.σ, (id, ⟨e, ie.size, R.cs ++ xs, fz, true, R.giv, R.lit⟩) :: (r, ⟨e, ie.size, R.cs.take j, 0, false, R.giv, R.lit⟩) :: st.h, st.nx⟩ a w' ρ' ∧
          rep (St.env B ⟨st.σ, (id, ⟨e, ie.size, R.cs ++ xs, fz, true, R.giv, R.lit⟩) :: (r, ⟨e, ie.size, R.cs.take j, 0, false, R.giv, R.lit⟩) :: st.h, st.nx⟩ w' ρ') (.os id 0 (n + m)) v ∧
          (st.env B w ρ).Le (St.env B ⟨st.σ, (id, ⟨e, ie.size, R.cs ++ xs, fz, true, R.giv, R.lit⟩) :: (r, ⟨e, ie.size, R.cs.take j, 0, false, R.giv, R.lit⟩) :: st.h, st.nx⟩ w' ρ') := by
      intro j fz hgiv hjf hfz1 hfz2 hpx hlen hfit
      obtain ⟨A, c, news, rfl, hmc, hxl, hn, hn1, hA⟩ := evList_sound s hx hlist hpx
      have hnl : news.length = m * ie.size := (repVals_length hn).trans hxl
      have hsm := small (n + m) hfit
      -- a root that is made anew, and the elder one retired
      have regrow : ∀ (olds : List Value) (cap : Nat), repVals ((st.env B w ρ).at R.lit) R.cs olds → (∀ u ∈ olds, u.oneCell' = true) → n + m ≤ cap → cap ≤ maxLen →
          ∃ ρ', SatR B ⟨st.σ, (id, ⟨e, ie.size, R.cs ++ xs, fz, true, R.giv, R.lit⟩) :: (r, ⟨e, ie.size, R.cs.take j, 0, false, R.giv, R.lit⟩) :: st.h, st.nx⟩ a
              (w.drew.alloc (.cells ((olds ++ news).toArray ++ Builtin.zeroCells z.cells (cap - (n + m))) e)) ρ' ∧
            rep (St.env B ⟨st.σ, (id, ⟨e, ie.size, R.cs ++ xs, fz, true, R.giv, R.lit⟩) :: (r, ⟨e, ie.size, R.cs.take j, 0, false, R.giv, R.lit⟩) :: st.h, st.nx⟩ (w.drew.alloc (.cells ((olds ++ news).toArray ++ Builtin.zeroCells z.cells (cap - (n + m))) e)) ρ') (.os id 0 (n + m)) (.slice (some ⟨w.heap.size, 0, none⟩) (n + m) cap) ∧
            (st.env B w ρ).Le (St.env B ⟨st.σ, (id, ⟨e, ie.size, R.cs ++ xs, fz, true, R.giv, R.lit⟩) :: (r, ⟨e, ie.size, R.cs.take j, 0, false, R.giv, R.lit⟩) :: st.h, st.nx⟩ (w.drew.alloc (.cells ((olds ++ news).toArray ++ Builtin.zeroCells z.cells (cap - (n + m))) e)) ρ') := by
        intro olds cap ho ho1 hcap hmax
        obtain ⟨q1, q2⟩ := newblk (R.cs ++ xs) (olds ++ news) (n + m) cap fz (by rw [List.length_append, hlen, hxl, Nat.add_mul]) R.giv R.lit (repVals_append ho (repVals_at R.lit hn))
          (fun u hu => (List.mem_append.1 hu).elim (ho1 u) (hn1 u)) hcap hmax (by rw [List.length_append]; omega)
        have hR' : get ((id, (⟨e, ie.size, R.cs ++ xs, fz, true, R.giv, R.lit⟩ : Root)) :: st.h) r = some R := by
          rw [get_cons, if_neg hri.symm]; exact hR
        obtain ⟨q3, q4⟩ := q1.retire hR' j hgiv
        obtain ⟨q5, q6⟩ := q3.hcongr ((id, ⟨e, ie.size, R.cs ++ xs, fz, true, R.giv, R.lit⟩) :: (r, ⟨e, ie.size, R.cs.take j, 0, false, R.giv, R.lit⟩) :: st.h) (fun q => by
          simp only [get_cons]
          by_cases h1 : id = q
          · subst h1
            simp [hri]
          · by_cases h2 : r = q
            · subst h2; simp [h1, hRE, hRsz]
            · simp [h1, h2])
        refine ⟨_, q5, ?_, ⟨fun b o v h1 h2 => ?_, fun q hq => ?_, ?_⟩⟩
        · simp only [rep]
          exact ⟨hself _ _, osRep_whole _ _ (by simp [St.env]) _ _ (by simp [St.env]) hcap⟩
        · have t1 := q2.cell b o v h1 h2
          have t2 := q4.cell b o v t1.1 t1.2
          exact q6.cell b o v t2.1 t2.2
        · exact (q6.root q (q4.nx q (q2.nx q hq))).trans ((q4.root q (q2.nx q hq)).trans (q2.root q hq))
        · exact fun q hq => q6.nx q (q4.nx q (q2.nx q hq))
      unfold osRep at hs
      split at hs
      · -- the nil slice
        rename_i hb
        obtain ⟨rfl, _, rfl⟩ := hs
        have hcs : R.cs = [] := s.reads_nil hR hb
        rcases Nat.eq_zero_or_pos m with h0 | h0
        · subst h0
          have hxs : xs = [] := List.eq_nil_of_length_eq_zero (by simpa using hxl)
          obtain ⟨q1, q2⟩ := s.nilroot id hno ⟨e, ie.size, R.cs ++ xs, fz, true, R.giv, R.lit⟩ hpos (by simp [hcs, hxs]) (by have : fz ≤ R.cs.length := hfz2; rw [hcs] at this; simpa using this)
          have hR' : get ((id, (⟨e, ie.size, R.cs ++ xs, fz, true, R.giv, R.lit⟩ : Root)) :: st.h) r = some R := by
            rw [get_cons, if_neg hri.symm]; exact hR
          obtain ⟨q3, q4⟩ := q1.retire hR' j hgiv
          obtain ⟨q5, q6⟩ := q3.hcongr ((id, ⟨e, ie.size, R.cs ++ xs, fz, true, R.giv, R.lit⟩) :: (r, ⟨e, ie.size, R.cs.take j, 0, false, R.giv, R.lit⟩) :: st.h) (fun q => by
            simp only [get_cons]
            by_cases h1 : id = q
            · subst h1
              simp [hri]
            · by_cases h2 : r = q
              · subst h2; simp [h1, hRE, hRsz]
              · simp [h1, h2])
          refine ⟨_, _, _, run_append_zero w t ty e inf hu f1 none 0 0 (Nat.le_refl _) A c, q5, ?_, ⟨fun b o v h1 h2 => ?_, fun q hq => ?_, ?_⟩⟩
          · simp only [rep]
            exact ⟨hself _ _, by unfold osRep; simp [St.env]⟩
          · have t1 := q2.cell b o v h1 h2
            have t2 := q4.cell b o v t1.1 t1.2
            exact q6.cell b o v t2.1 t2.2
          · exact (q6.root q (q4.nx q (q2.nx q hq))).trans ((q4.root q (q2.nx q hq)).trans (q2.root q hq))
          · exact fun q hq => q6.nx q (q4.nx q (q2.nx q hq))
        · obtain ⟨ad, rfl, hcells⟩ := hA h0
          simp only [Nat.zero_add] at hsm hfit
          have hr := run_append_nil (P := P) w t ty e inf z hu f1 f4 ad m c news (by rw [f2]; exact hnl) hcells h0 (by omega) (by rw [f3]; omega)
          have hcap := grownCap_ge w m 0 e
          have hmax := grownCap_le_maxLen w m 0 e (by simp only [maxLen]; omega)
          obtain ⟨ρ', q1, q2, q3⟩ := regrow [] (grownCap w m 0 e) (by rw [hcs]; simp [repVals]) (by simp) (by omega) hmax
          simp only [Nat.zero_add, List.nil_append] at q1 q2 q3 ⊢
          exact ⟨_, _, ρ', hr, q1, q2, q3⟩
      · rename_i b hb
        obtain ⟨o, cap, rfl, q1, q2, q3⟩ := hs
        have hb' : (ρ r).blk = some b := hb
        obtain ⟨cells, g1, g2, g3, g4, g5⟩ := s.blkOf hR hb'
        have hcapeq : cap = (ρ r).cap := (Nat.zero_add cap).symm.trans q1
        have ho : 0 < cap → o = 0 := fun h => by have := q3 h; simpa using this
        have hcsz : cells.size = cap * ie.size := by rw [g2, ← hcapeq, hRsz]
        -- the split of the one root into two
        have share : ∀ (w' : World) (cs' : List D), SatR B ⟨st.σ, (r, { R with cs := cs' }) :: st.h, st.nx⟩ a w' ρ → (st.env B w ρ).Le (St.env B ⟨st.σ, (r, { R with cs := cs' }) :: st.h, st.nx⟩ w' ρ) → cs' = R.cs ++ xs → (n + m ≤ cap) →
            ∃ ρ', SatR B ⟨st.σ, (id, ⟨e, ie.size, R.cs ++ xs, fz, true, R.giv, R.lit⟩) :: (r, ⟨e, ie.size, R.cs.take j, 0, false, R.giv, R.lit⟩) :: st.h, st.nx⟩ a w' ρ' ∧
              rep (St.env B ⟨st.σ, (id, ⟨e, ie.size, R.cs ++ xs, fz, true, R.giv, R.lit⟩) :: (r, ⟨e, ie.size, R.cs.take j, 0, false, R.giv, R.lit⟩) :: st.h, st.nx⟩ w' ρ') (.os id 0 (n + m)) (.slice (some ⟨b, o, none⟩) (n + m) cap) ∧
              (st.env B w ρ).Le (St.env B ⟨st.σ, (id, ⟨e, ie.size, R.cs ++ xs, fz, true, R.giv, R.lit⟩) :: (r, ⟨e, ie.size, R.cs.take j, 0, false, R.giv, R.lit⟩) :: st.h, st.nx⟩ w' ρ') := by
          intro w' cs' p1 p2 hcs' hcap
          subst hcs'
          obtain ⟨p3, p4⟩ := p1.split id (fun h => h.elim (fun h => hno (.inl h)) (fun h => hno (.inr (by
            have h : (get ((r, { R with cs := R.cs ++ xs }) :: st.h) id).isSome = true := h
            rw [get_cons, if_neg hri] at h
            exact h)))) (r := r) (R := { R with cs := R.cs ++ xs }) (by rw [get_cons, if_pos rfl]) hown fz j (by rw [List.length_append]; omega) hfz1 hjf hgiv
          obtain ⟨p5, p6⟩ := p3.hcongr ((id, ⟨e, ie.size, R.cs ++ xs, fz, true, R.giv, R.lit⟩) :: (r, ⟨e, ie.size, R.cs.take j, 0, false, R.giv, R.lit⟩) :: st.h) (fun q => by
            simp only [get_cons]
            by_cases h1 : id = q
            · subst h1
              simp [hRE, hRsz, hown]
            · by_cases h2 : r = q
              · subst h2
                simp [h1, hRE, hRsz, List.take_append_of_le_length (show j ≤ R.cs.length by omega)]
              · simp [h1, h2])
          refine ⟨_, p5, ?_, ⟨fun b o v h1 h2 => ?_, fun q hq => ?_, ?_⟩⟩
          · simp only [rep]
            refine ⟨hself _ _, ?_⟩
            unfold osRep
            simp only [St.env, if_true, hb']
            exact ⟨o, cap, rfl, by omega, hcap, fun h => by simpa using ho h⟩
          · have t1 := p2.cell b o v h1 h2
            have t2 := p4.cell b o v t1.1 t1.2
            exact p6.cell b o v t2.1 t2.2
          · exact (p6.root q (p4.nx q (p2.nx q hq))).trans ((p4.root q (p2.nx q hq)).trans (p2.root q hq))
          · exact fun q hq => p6.nx q (p4.nx q (p2.nx q hq))
        rcases Nat.eq_zero_or_pos m with h0 | h0
        · subst h0
          have hxs : xs = [] := List.eq_nil_of_length_eq_zero (by simpa using hxl)
          obtain ⟨c1, c2⟩ := s.hcongr ((r, { R with cs := R.cs }) :: st.h) (fun q => by
            rw [get_cons]
            by_cases h : r = q
            · subst h; simp [hR]
            · simp [h])
          obtain ⟨ρ', r1, r2, r3⟩ := share w R.cs c1 c2 (by simp [hxs]) (by simpa using q2)
          exact ⟨_, _, ρ', run_append_zero w t ty e inf hu f1 _ n cap q2 A c, r1, by simpa using r2, r3⟩
        · obtain ⟨ad, rfl, hcells⟩ := hA h0
          by_cases hroom : n + m ≤ cap
          · have ho0 := ho (by omega)
            subst ho0
            have hfitc : n * inf.size + news.length ≤ cells.size := by rw [hnl, hcsz, f2, ← Nat.add_mul]; exact Nat.mul_le_mul_right _ hroom
            have hr := run_append_room (P := P) w t ty e inf hu f1 b n cap cells (by rw [← hRE]; exact g1) ad m c news (by rw [f2]; exact hnl) hcells hn1 hroom hfitc
            have hcszN : cells.toList.length = cells.size := Array.length_toList ..
            have hcN : n * ie.size + news.length ≤ cells.toList.length := by rw [hcszN, ← f2]; exact hfitc
            obtain ⟨c1, c2⟩ := s.change hR hown hb' g1 (cells.toList.take (n * inf.size) ++ news ++ cells.toList.drop (n * inf.size + news.length)).toArray
              (by rw [f2]; simp only [List.size_toArray, List.length_append, List.length_take, List.length_drop]; omega)
              (fun k hk => by
                rw [f2]
                simp only [List.getElem?_toArray]
                rw [getElem?_splice _ _ _ hcN, if_pos (by omega)]
                simp)
              (setRow_size ..) (setRow_heap w b cells _ R.E (0, 0) g1) (fun k hk => setRow_other w b k _ hk) rfl rfl rfl (R.cs ++ xs)
              (by rw [List.length_append, hlen, hxl, hcsz, ← Nat.add_mul]; exact Nat.mul_le_mul_right _ hroom) (by rw [List.length_append]; omega)
              (fun k d hk => by
                rw [f2]
                simp only [List.getElem?_toArray]
                rw [getElem?_splice _ _ _ hcN]
                by_cases k1 : k < n * ie.size
                · rw [if_pos k1]
                  rw [List.getElem?_append_left (by omega)] at hk
                  obtain ⟨v, t1, t2, t3, _⟩ := g5 k d hk
                  exact ⟨v, by simpa using t1, t2, t3⟩
                · rw [if_neg k1]
                  rw [List.getElem?_append_right (by omega)] at hk
                  have hklt := (List.getElem?_eq_some_iff.1 hk).1
                  rw [if_pos (by omega), ← hlen]
                  exact repVals_get (repVals_at R.lit hn) hn1 _ d hk)
            obtain ⟨ρ', r1, r2, r3⟩ := share _ (R.cs ++ xs) c1 c2 rfl hroom
            exact ⟨_, _, ρ', hr, r1, r2, r3⟩
          · obtain ⟨olds, t1, t2, t3⟩ := (s.reads_at hR hb').vals
            have hol : olds.length = n * ie.size := (repVals_length t1).trans hlen
            have hr := run_append_grow (P := P) w t ty e inf z hu f1 f4 ⟨b, o, none⟩ n cap olds (by rw [f2]; exact hol) (fun k v hk => by
              have hn0 : 0 < cap := by
                have := (List.getElem?_eq_some_iff.1 hk).1
                rcases Nat.eq_zero_or_pos cap with h | h
                · have : n = 0 := by omega
                  rw [this] at hol; omega
                · exact h
              rw [ho hn0, add_at]; have := t2 k v hk; rwa [show ((st.env B w ρ).at R.lit).w = w by cases R.lit <;> rfl] at this) ad m c news (by rw [f2]; exact hnl) hcells (by omega) (by omega)
              (by rw [f3]; exact growslice_fits (by omega) hfit)
            have hcap2 := grownCap_ge w (n + m) cap e
            have hmax := grownCap_le_maxLen w (n + m) cap e (by simp only [maxLen]; omega)
            obtain ⟨ρ', r1, r2, r3⟩ := regrow olds (grownCap w (n + m) cap e) t1 t3 hcap2 hmax
            rw [show olds.toArray ++ news.toArray = (olds ++ news).toArray by simp] at hr
            exact ⟨_, _, ρ', hr, r1, r2, r3⟩
    split at h
    · rename_i hg
      simp only [Option.some.injEq, Prod.mk.injEq] at h
      obtain ⟨rfl, rfl, rfl, rfl⟩ := h
      have := main R.cs.length R.cs.length (.inl hg) (Nat.le_refl _) (s.roots r R hR).fz (Nat.le_refl _) hp.1 hp.2.1 hp.2.2
      rw [hg, List.take_length] at this
      exact this
    · rename_i hg
      simp only [Option.some.injEq, Prod.mk.injEq] at h
      obtain ⟨rfl, rfl, rfl, rfl⟩ := h
      have := main 0 R.fz (.inr rfl) (Nat.zero_le _) (Nat.le_refl _) (s.roots r R hR).fz hp.1 hp.2.1 hp.2.2
      rw [hg, List.take_zero] at this
      exact this
  · cases h
end
end Go.Px
end

section
namespace Go.Px
open Go.RowKit
section
variable {P : Program} {τ : List (Nat × TI)} {B : Base} {st : St} {a : Act} {w : World} {ρ : Nat → RC}

def evCopy (τ : List (Nat × TI)) (h : List (Nat × Root)) (t : TypeId) (ds dx : D) : Option (D × List (Nat × Root) × Prop) :=
  match get τ t with
  | none => none
  | some i => match i.k with
    | .slice e => match get τ e with
      | none => none
      | some ie => match evList h ie.size dx with
        | none => none
        | some (m, xs, px) => match ds with
          | .os r off n => match get h r with
            | none => none
            | some R => match R.own with
              | false => none
              | true => match Nat.beq R.sz ie.size with
                | false => none
                | true => some (.i .i64 ((min m n : Nat) : Int),
                    (r, R.setCs (R.cs.take (mulN off ie.size) ++ xs.take (mulN (min m n) ie.size) ++ R.cs.drop (mulN off ie.size + (xs.take (mulN (min m n) ie.size)).length))) :: h,
                    px ∧ R.fz ≤ mulN off ie.size ∧ mulN (off + n) ie.size ≤ R.cs.length)
          | _ => none
    | _ => none

theorem evCopy_sound (hv : Valid P τ) (s : SatR B st a w ρ) {t t2 ty : TypeId} {ds dx : D} {vs vx : Value} (hs : rep (st.env B w ρ) ds vs) (hx : rep (st.env B w ρ) dx vx)
    {d : D} {h' : List (Nat × Root)} {p : Prop} (h : evCopy τ st.h t ds dx = some (d, h', p)) (hp : p) :
    ∃ v w', (Builtin.copy_ #[t, t2] ty #[vs, vx]).run P w = .ok v w' ∧ SatR B ⟨st.σ, h', st.nx⟩ a w' ρ ∧ rep (St.env B ⟨st.σ, h', st.nx⟩ w' ρ) d v ∧
      (st.env B w ρ).Le (St.env B ⟨st.σ, h', st.nx⟩ w' ρ) := by
  unfold evCopy at h
  simp only [setCs_eq] at h
  split at h
  · cases h
  rename_i i hi
  have hT := tok hv hi
  split at h
  case h_2 => cases h
  rename_i e hk
  have hu := hT.slice hk
  split at h
  · cases h
  rename_i ie he
  have hTe := tok hv he
  split at h
  · cases h
  rename_i m xs px hlist
  split at h
  case h_2 => cases h
  rename_i r off n
  split at h
  · cases h
  rename_i R hR
  split at h
  · cases h
  rename_i hown
  split at h
  · cases h
  rename_i hRsz
  have hRsz := Nat.eq_of_beq_eq_true hRsz
  simp only [Option.some.injEq, Prod.mk.injEq] at h
  obtain ⟨rfl, rfl, rfl⟩ := h
  obtain ⟨hp1, hp2, hp3⟩ := hp
  simp only [mulN_eq] at hp2 hp3 ⊢
  obtain ⟨A, c, news, rfl, hmc, hxl, hn, hn1, hA⟩ := evList_sound s hx hlist hp1
  have hnl : news.length = m * ie.size := (repVals_length hn).trans hxl
  simp only [rep] at hs
  obtain ⟨_, hs⟩ := hs
  have hkm : min m n * ie.size ≤ m * ie.size := Nat.mul_le_mul_right _ (Nat.min_le_left ..)
  have hkn : min m n * ie.size ≤ n * ie.size := Nat.mul_le_mul_right _ (Nat.min_le_right ..)
  have hxk : (xs.take (min m n * ie.size)).length = min m n * ie.size := by rw [List.length_take]; omega
  have hadd : (off + n) * ie.size = off * ie.size + n * ie.size := Nat.add_mul ..
  have hmin : Nat.min m n = min m n := rfl
  rcases Nat.eq_zero_or_pos (min m n) with h0 | h0
  · -- nothing is copied
    have hcs : R.cs.take (off * ie.size) ++ xs.take (min m n * ie.size) ++ R.cs.drop (off * ie.size + (xs.take (min m n * ie.size)).length) = R.cs := by
      rw [h0]; simp
    rw [hcs]
    obtain ⟨c1, c2⟩ := s.hcongr ((r, { R with cs := R.cs }) :: st.h) (fun q => by
      rw [get_cons]
      by_cases h : r = q
      · subst h; simp [hR]
      · simp [h])
    refine ⟨.int .i64 0, w, ?_, c1, by rw [h0]; simp [rep], c2⟩
    obtain ⟨A2, k2, hv2⟩ := osRep_len hs
    subst hv2
    cases A <;> cases A2 <;> simp [Builtin.copy_, run_underlying hu, Builtin.lenOf, hTe.size_run, Builtin.firstCells, hmin, h0, loadCells, loadCellsFrom, storeCells, goInt]
  · have hm0 : 0 < m := by omega
    have hn0 : 0 < n := by omega
    obtain ⟨ad, rfl, hcells⟩ := hA hm0
    unfold osRep at hs
    split at hs
    · omega
    rename_i b hb
    obtain ⟨o, k, rfl, q1, q2, q3⟩ := hs
    have hb' : (ρ r).blk = some b := hb
    have hρ : (ρ r).sz = ie.size := by rw [← hRsz]; exact (s.roots r R hR).sz
    have ho : o = off * ie.size := by
      have := q3 (by omega)
      rw [this]
      show off * (ρ r).sz = _
      rw [hρ]
    obtain ⟨cells, g1, g2, g3, g4, g5⟩ := s.blkOf hR hb'
    have hnt : repVals (st.env B w ρ).pure (xs.take (min m n * ie.size)) (news.take (min m n * ie.size)) := by
      rw [repVals_iff] at hn ⊢
      refine ⟨by simp [hn.1], fun j d hj => ?_⟩
      rw [List.getElem?_take] at hj ⊢
      split at hj
      · rename_i hjk; rw [if_pos hjk]; exact hn.2 j d hj
      · cases hj
    have hntl : (news.take (min m n * ie.size)).length = min m n * ie.size := by rw [List.length_take]; omega
    have hone : ∀ u ∈ news.take (min m n * ie.size), u.oneCell' = true := fun u hu => hn1 u (List.mem_of_mem_take hu)
    obtain ⟨c1, c2⟩ := s.splice hR hown hb' g1 (off * ie.size) (xs.take (min m n * ie.size)) (news.take (min m n * ie.size)) (repVals_at R.lit hnt) hone hp2 (by omega)
    have hst := run_storeCells_at P b (off * ie.size) R.E (news.take (min m n * ie.size)) 0 cells w g1 (by omega) hone
    simp only [Nat.add_zero] at hst
    have hfc := run_firstCells_some (P := P) w ie.size (min m n) ad m c (news.take (min m n * ie.size)) hntl (fun j v hj => by
      rw [List.getElem?_take] at hj
      split at hj
      · exact hcells j v hj
      · cases hj)
    refine ⟨.int .i64 ((min m n : Nat) : Int), _, ?_, c1, by simp only [rep], c2⟩
    subst ho
    simp only [Builtin.copy_, List.getElem?_toArray, List.getElem?_cons_zero, List.getElem?_cons_succ, Sem.run_bind, run_underlying hu, Result.andThen_ok, Builtin.lenOf, Sem.run_pure, hTe.size_run, hmin, hfc, hst]
    rfl
/-! ### clear -/
def evClear (τ : List (Nat × TI)) (h : List (Nat × Root)) (t : TypeId) (ds : D) : Option (D × List (Nat × Root) × Prop) :=
  match get τ t with
  | none => none
  | some i => match i.k with
    | .slice e => match get τ e with
      | none => none
      | some ie => match Nat.beq ie.size 0 with
        | true => none
        | false => match Nat.beq ie.zero.length ie.size with
          | false => none
          | true => match ds with
            | .os r off _ => match get h r with
              | none => none
              | some R => match R.own with
                | false => none
                | true => match Nat.beq R.sz ie.size with
                  | false => none
                  | true => some (.tup [], (r, R.setCs (R.cs.take (mulN off ie.size))) :: h, R.fz ≤ mulN off ie.size ∧ mulN off ie.size ≤ R.cs.length)
            | _ => none
    | _ => none
theorem evClear_sound (hv : Valid P τ) (s : SatR B st a w ρ) {t ty : TypeId} {ds : D} {vs : Value} (hs : rep (st.env B w ρ) ds vs)
    {d : D} {h' : List (Nat × Root)} {p : Prop} (h : evClear τ st.h t ds = some (d, h', p)) (hp : p) :
    ∃ v w', (Builtin.clear_ #[t] ty #[vs]).run P w = .ok v w' ∧ SatR B ⟨st.σ, h', st.nx⟩ a w' ρ ∧ rep (St.env B ⟨st.σ, h', st.nx⟩ w' ρ) d v ∧
      (st.env B w ρ).Le (St.env B ⟨st.σ, h', st.nx⟩ w' ρ) := by
  unfold evClear at h
  simp only [setCs_eq] at h
  split at h
  · cases h
  rename_i i hi
  have hT := tok hv hi
  split at h
  case h_2 => cases h
  rename_i e hk
  have hu := hT.slice hk
  split at h
  · cases h
  rename_i ie he
  have hTe := tok hv he
  split at h
  · cases h
  rename_i hpos
  have hpos : 0 < ie.size := by
    rcases Nat.eq_zero_or_pos ie.size with h0 | h0
    · rw [h0] at hpos; cases hpos
    · exact h0
  split at h
  · cases h
  rename_i hzl
  have hzl := Nat.eq_of_beq_eq_true hzl
  split at h
  case h_2 => cases h
  rename_i r off n
  split at h
  · cases h
  rename_i R hR
  split at h
  · cases h
  rename_i hown
  split at h
  · cases h
  rename_i hRsz
  have hRsz := Nat.eq_of_beq_eq_true hRsz
  simp only [Option.some.injEq, Prod.mk.injEq] at h
  obtain ⟨rfl, rfl, rfl⟩ := h
  obtain ⟨hp1, hp2⟩ := hp
  simp only [mulN_eq] at hp1 hp2 ⊢
  simp only [rep] at hs
  obtain ⟨_, hs⟩ := hs
  have hlt : (R.cs.take (off * ie.size)).length = off * ie.size := by rw [List.length_take]; omega
  have hone : ∀ (E : Env), rep E (.tup []) (.tuple #[]) := fun E => by simp only [rep, repVals]; exact ⟨[], rfl, rfl⟩
  -- nothing in memory turns
  have still : ∀ (hrun : (Builtin.clear_ #[t] ty #[vs]).run P w = .ok (.tuple #[]) w), ∃ v w', (Builtin.clear_ #[t] ty #[vs]).run P w = .ok v w' ∧ SatR B ⟨st.σ, (r, { R with cs := R.cs.take (off * ie.size) }) :: st.h, st.nx⟩ a w' ρ ∧
      rep (St.env B ⟨st.σ, (r, { R with cs := R.cs.take (off * ie.size) }) :: st.h, st.nx⟩ w' ρ) (.tup []) v ∧ (st.env B w ρ).Le (St.env B ⟨st.σ, (r, { R with cs := R.cs.take (off * ie.size) }) :: st.h, st.nx⟩ w' ρ) := by
    intro hrun
    cases hb : (ρ r).blk with
    | none =>
      have q := (s.roots r R hR).blk
      unfold RootBlk at q
      have hb' : ((st.env B w ρ).ρ r).blk = none := hb
      rw [hb'] at q
      have hcs : R.cs.take (off * ie.size) = R.cs := by rw [q.1]; simp
      rw [hcs]
      obtain ⟨c1, c2⟩ := s.hcongr ((r, { R with cs := R.cs }) :: st.h) (fun q => by
        rw [get_cons]
        by_cases h : r = q
        · subst h; simp [hR]
        · simp [h])
      exact ⟨_, w, hrun, c1, hone _, c2⟩
    | some b =>
      obtain ⟨cells, g1, g2, g3, g4, g5⟩ := s.blkOf hR hb
      obtain ⟨c1, c2⟩ := s.change hR hown hb g1 cells rfl (fun _ _ => rfl) rfl g1 (fun _ _ => rfl) rfl rfl rfl (R.cs.take (off * ie.size)) (by rw [hlt]; omega) (by rw [hlt]; exact hp1) (fun k d hk => by
        rw [List.getElem?_take] at hk
        split at hk
        · obtain ⟨v, x1, x2, x3, _⟩ := g5 k d hk
          exact ⟨v, x1, x2, x3⟩
        · cases hk)
      exact ⟨_, w, hrun, c1, hone _, c2⟩
  rcases Nat.eq_zero_or_pos n with h0 | h0
  · subst h0
    refine still ?_
    obtain ⟨A2, k2, hv2⟩ := osRep_len hs
    subst hv2
    cases A2 <;> simp [Builtin.clear_, run_underlying hu]
  · unfold osRep at hs
    split at hs
    · omega
    rename_i b hb
    obtain ⟨o, k, rfl, q1, q2, q3⟩ := hs
    have hb' : (ρ r).blk = some b := hb
    have hρ : (ρ r).sz = ie.size := by rw [← hRsz]; exact (s.roots r R hR).sz
    have ho : o = off * ie.size := by
      have := q3 (by omega)
      rw [this]
      show off * (ρ r).sz = _
      rw [hρ]
    subst ho
    have hcap : off + k = (ρ r).cap := q1
    obtain ⟨cells, g1, g2, g3, g4, g5⟩ := s.blkOf hR hb'
    obtain ⟨z, hz1, hz2⟩ := hTe.zero_run w
    have hzv : z.cells.size = ie.size := by
      have := repVals_length (zs_rep (E := ⟨default, fun _ _ => True, fun _ => default, fun _ => False⟩) hz2)
      rw [← hzl, ← this]; simp
    let news : List Value := (Builtin.zeroCells z.cells n).toList
    have hnl : news.length = n * ie.size := by
      show (Builtin.zeroCells z.cells n).toList.length = _
      rw [Array.length_toList, size_zeroCells, hzv]
    have hn1 : ∀ u ∈ news, u.oneCell' = true := by
      intro u hu
      have hu : u ∈ (Builtin.zeroCells z.cells n).toList := hu
      rw [Array.mem_toList_iff] at hu
      unfold Builtin.zeroCells at hu
      obtain ⟨j, hj, rfl⟩ := Array.mem_map.1 hu
      have hjm : j % z.cells.size < z.cells.size := Nat.mod_lt _ (by omega)
      rw [getElem!_pos z.cells _ hjm]
      exact zs_one hz2 _ (by rw [Array.mem_toList_iff]; exact Array.getElem_mem _)
    have hroom : off * ie.size + news.length ≤ cells.size := by
      rw [hnl, g2, hRsz, ← Nat.add_mul]
      exact Nat.mul_le_mul_right _ (by omega)
    have hst := run_storeCells_at P b (off * ie.size) R.E news 0 cells w g1 (by omega) hn1
    simp only [Nat.add_zero] at hst
    have hsz2 : (cells.toList.take (off * ie.size) ++ news ++ cells.toList.drop (off * ie.size + news.length)).length = cells.size := by
      simp only [List.length_append, List.length_take, List.length_drop, Array.length_toList]
      omega
    have hlow : ∀ k : Nat, k < off * ie.size → (cells.toList.take (off * ie.size) ++ news ++ cells.toList.drop (off * ie.size + news.length)).toArray[k]? = cells[k]? := fun k hk => by
      rw [List.getElem?_toArray, List.append_assoc, List.getElem?_append_left (by rw [List.length_take, Array.length_toList]; omega), List.getElem?_take, if_pos hk]
      simp
    have hblt : b < w.heap.size := blk_lt_size g1
    obtain ⟨c1, c2⟩ := s.change (w' := w.setRow b (cells.toList.take (off * ie.size) ++ news ++ cells.toList.drop (off * ie.size + news.length)).toArray) hR hown hb' g1 _ (by simpa using hsz2) (fun k hk => hlow k (by omega))
      (setRow_size ..) (setRow_heap w b cells _ R.E (0, 0) g1) (fun k hk => setRow_other w b k _ hk) rfl rfl rfl (R.cs.take (off * ie.size)) (by rw [hlt]; omega) (by rw [hlt]; exact hp1) (fun k d hk => by
        rw [List.getElem?_take] at hk
        split at hk
        · rename_i hk2
          obtain ⟨v, x1, x2, x3, _⟩ := g5 k d hk
          exact ⟨v, by rw [hlow k hk2]; exact x1, x2, x3⟩
        · cases hk)
    refine ⟨.tuple #[], _, ?_, c1, hone _, c2⟩
    have hn0 : n ≠ 0 := by omega
    obtain ⟨m, rfl⟩ : ∃ m, n = m + 1 := ⟨n - 1, by omega⟩
    simp only [Builtin.clear_, List.getElem?_toArray, List.getElem?_cons_zero, Sem.run_bind, run_underlying hu, Result.andThen_ok, hz1]
    rw [show (Builtin.zeroCells z.cells (m + 1)).toList = news from rfl, hst]
    rfl
end
end Go.Px
end

section
namespace Go.Px
open Go.RowKit

def pr (h : List (Nat × Root)) (nx : Nat) (r : Option (D × Prop)) : Option HOut :=
  match r with
  | some (d, p) => some (d, h, nx, p)
  | none => none
def capOK (τ : List (Nat × TI)) (t : TypeId) : Bool := match get τ t with | some i => Nat.ble (boxCap i) 16777216 | none => false
def mapE (σ : List (Nat × D)) : List Operand → List D
  | [] => []
  | x :: xs => evo σ x :: mapE σ xs
def mapP (σ : List (Nat × D)) : List (Nat × Operand) → List (Nat × D)
  | [] => []
  | (i, x) :: xs => (i, evo σ x) :: mapP σ xs
def evBuiltin (τ : List (Nat × TI)) (h : List (Nat × Root)) (nx : Nat) (b : Builtin) (ts : List TypeId) (ds : List D) : Option HOut :=
  match b with
  | .len => match ts, ds with
    | [t], [d] => pr h nx (evLen τ t d)
    | _, _ => none
  | .append => match ts, ds with
    | [t, t'], [s, x] => match Nat.beq t t' with | true => evAppend τ h nx t s x | false => none
    | _, _ => none
  | .copy => match ts, ds with
    | [t, _], [s, x] => match evCopy τ h t s x with | some (d, h', p) => some (d, h', nx, p) | none => none
    | _, _ => none
  | .max => pr h nx (evMM true ds)
  | .min => pr h nx (evMM false ds)
  | .clear => match ts, ds with
    | [t], [s] => match evClear τ h t s with | some (d, h', p) => some (d, h', nx, p) | none => none
    | _, _ => none
  | _ => none
/-- x.(T), T no interface type. -/
def evAssert (τ : List (Nat × TI)) (t : TypeId) (ok : Bool) (x : D) : Option (D × Prop) :=
  match x with
  | .ifc u d => match get τ t with
    | none => none
    | some i => match i.k with
      | .iface => none
      | _ => match Nat.beq u t with
        | true => match ok with | true => some (.tup [d, .b true], True) | false => some (d, True)
        | false => none
  | _ => none
theorem evAssert_sound {P : Program} {τ : List (Nat × TI)} {E : Env} {w : World} (hv : Valid P τ) {t xt : TypeId} {ok : Bool} {dx : D} {vx : Value} {d : D} {p : Prop} (hx : rep E dx vx) (h : evAssert τ t ok dx = some (d, p)) :
    ∃ v, (Instr.typeAssert vx xt t ok).run P w = .ok v w ∧ rep E d v := by
  unfold evAssert at h
  split at h
  case h_2 => cases h
  rename_i u d0
  simp only [rep] at hx
  obtain ⟨x, rfl, hx⟩ := hx
  split at h
  · cases h
  rename_i i hi
  have hT := tok hv hi
  obtain ⟨und, hu, hni⟩ : ∃ und, P.underlying t = some und ∧ (i.k ≠ .iface → ∀ ms, und ≠ .interface ms) := by
    have q := hT.kind
    unfold kindB at q
    split at q <;> first | (rename_i h1; refine ⟨_, h1, fun _ ms e => ?_⟩; cases e; done) | (rename_i h0 h1; exact ⟨_, h1, fun hk => absurd h0 hk⟩) | (rename_i h1; exact ⟨_, h1, fun hk => absurd rfl hk⟩) | (exact absurd q (by simp))
  split at h
  · cases h
  · rename_i hk
    have hni := hni (fun e => hk e)
    split at h
    case h_2 => cases h
    rename_i ht
    have ht := Nat.eq_of_beq_eq_true ht
    subst ht
    have hrun : (Instr.typeAssert (.iface u x) xt u ok).run P w = .ok (if ok then .tuple #[x, .bool true] else x) w := by
      unfold Instr.typeAssert
      simp only [Sem.run_bind, run_underlying hu, Result.andThen_ok]
      cases und <;> first | (exact absurd rfl (hni _)) | (cases ok <;> simp)
    split at h
    · simp only [Option.some.injEq, Prod.mk.injEq] at h
      obtain ⟨rfl, _⟩ := h
      refine ⟨_, hrun, ?_⟩
      simp only [rep, if_true]
      exact ⟨[x, .bool true], rfl, by simp only [repVals]; exact ⟨x, _, rfl, hx, _, _, rfl, by simp only [rep], rfl⟩⟩
    · simp only [Option.some.injEq, Prod.mk.injEq] at h
      obtain ⟨rfl, _⟩ := h
      exact ⟨_, hrun, by simpa using hx⟩
def ev1 (τ : List (Nat × TI)) (σ : List (Nat × D)) (h : List (Nat × Root)) (nx : Nat) (hint : Hint) (o : Op) : Option HOut :=
  match o with
  | .move x => some (evo σ x, h, nx, True)
  | .assign x => some (evo σ x, h, nx, True)
  | .pick c a b => match evo σ c with
    | .b true => some (evo σ a, h, nx, True)
    | .b false => some (evo σ b, h, nx, True)
    | _ => none
  | .alloc t => match capOK τ t with | true => evAlloc τ h nx t | false => none
  | .box t x => match capOK τ t with | true => evBox τ h nx t (evo σ x) | false => none
  | .build t ps => pr h nx (evBuild τ t (mapP σ ps.toList))
  | .buildSlice t len ps => pr h nx (evBuildSlice τ t len (mapP σ ps.toList))
  | .load t x => pr h nx (evLoad τ σ h hint t x)
  | .store t a x => match evStore τ h t (evo σ a) (evo σ x) with | some (h', p) => some (.junk, h', nx, p) | none => none
  | .nilCheck x => match evo σ x with
    | .oa r off => some (.oa r off, h, nx, True)
    | .pt cs => some (.pt cs, h, nx, True)
    | .fn f cs => some (.fn f cs, h, nx, True)
    | .ifc t d => some (.ifc t d, h, nx, True)
    | _ => none
  | .binOp op t x y _ => pr h nx (evBin2 τ op t x y (evo σ x) (evo σ y))
  | .unOp op _ x => pr h nx (evUn op (evo σ x))
  | .convert src dst x => pr h nx (evConv τ src dst (evo σ x))
  | .makeInterface t x => pr h nx (evIface τ t (evo σ x))
  | .makeFunc fn first caps => match fn, first.toList with
    | .func f, [] => some (.fn f (mapE σ caps.toList), h, nx, True)
    | _, _ => none
  | .makeSlice t l c => evMake τ h nx t (evo σ l) (evo σ c)
  | .slice t x lo hi mx => pr h nx (evSlice τ σ h t x lo hi mx)
  | .fieldAddr t x f => pr h nx (evField τ σ t x f)
  | .field t x f => pr h nx (evFieldV τ t (evo σ x) f)
  | .indexAddr t x ix => pr h nx (evIndex τ σ h t x ix)
  | .index t x ix => pr h nx (evStrIdx τ t hint (evo σ x) (evo σ ix))
  | .extract t ix => pr h nx (evExtract (evo σ t) ix)
  | .call c => match c.callee with
    | .builtin b => evBuiltin τ h nx b c.argTypes.toList (mapE σ c.args.toList)
    | _ => none
  | .typeAssert x _ t ok => pr h nx (evAssert τ t ok (evo σ x))
  | _ => none
/-- What the hint says of the value. -/
def fin (hint : Hint) (r : Option HOut) : Option HOut :=
  match r with
  | none => none
  | some (d, h, nx, p) => match hint with
    | .val d' => some (d', h, nx, p ∧ d = d')
    | .wk d' => some (d', h, nx, p ∧ Wk d d')
    | .gd b => match d with
      | .b e => some (.b b, h, nx, p ∧ e = b)
      | _ => none
    | _ => some (d, h, nx, p)

section
variable {P : Program} {τ : List (Nat × TI)} {B : Base} {st : St} {a : Act} {w : World} {ρ : Nat → RC}

theorem mapE_rep (s : SatR B st a w ρ) : ∀ (xs : List Operand), repVals (st.env B w ρ) (mapE st.σ xs) (xs.map a.eval)
  | [] => by simp [mapE, repVals]
  | x :: xs => by
    simp only [mapE, List.map_cons, repVals]
    exact ⟨_, _, rfl, rep_evo s x, mapE_rep s xs⟩
theorem mapP_rep (s : SatR B st a w ρ) : ∀ (xs : List (Nat × Operand)),
    (xs.map fun (i, x) => (i, a.eval x)).map (·.1) = (mapP st.σ xs).map (·.1) ∧
    ∀ (k : Nat) (p : Nat × D) (q : Nat × Value), (mapP st.σ xs)[k]? = some p → (xs.map fun (i, x) => (i, a.eval x))[k]? = some q → rep (st.env B w ρ) p.2 q.2
  | [] => by simp [mapP]
  | (i, x) :: xs => by
    obtain ⟨h1, h2⟩ := mapP_rep s xs
    refine ⟨by simp only [mapP, List.map_cons, h1], fun k p q hp hq => ?_⟩
    cases k with
    | zero =>
      simp only [mapP, List.map_cons, List.getElem?_cons_zero, Option.some.injEq] at hp hq
      subst hp hq
      exact rep_evo s x
    | succ k =>
      simp only [mapP, List.map_cons, List.getElem?_cons_succ] at hp hq
      exact h2 k p q hp hq

/-- What one operation's evaluation says of its run. -/
def Good (P : Program) (B : Base) (st : St) (a : Act) (w : World) (o : Oper) (d : D) (h' : List (Nat × Root)) : Prop :=
  ∃ v w' ρ', ((execOp a.eval o).run P w = .ok (.value v) w' ∨ ((execOp a.eval o).run P w = .ok .skip w' ∧ v = undef)) ∧
    SatR B ⟨st.σ, h', st.nx⟩ a w' ρ' ∧ rep (St.env B ⟨st.σ, h', st.nx⟩ w' ρ') d v

theorem good_pure (s : SatR B st a w ρ) {o : Oper} {d : D} {v : Value} (hr : (execOp a.eval o).run P w = .ok (.value v) w) (hd : rep (st.env B w ρ) d v) :
    Good P B st a w o d st.h := ⟨v, w, ρ, .inl hr, s, hd⟩
theorem pr_some {h : List (Nat × Root)} {nx : Nat} {r : Option (D × Prop)} {d : D} {h' : List (Nat × Root)} {nx' : Nat} {p : Prop} (e : pr h nx r = some (d, h', nx', p)) :
    r = some (d, p) ∧ h' = h ∧ nx' = nx := by
  unfold pr at e
  split at e
  · simp only [Option.some.injEq, Prod.mk.injEq] at e
    obtain ⟨rfl, rfl, rfl, rfl⟩ := e
    exact ⟨rfl, rfl, rfl⟩
  · cases e
theorem capOK_spec {t : TypeId} (h : capOK τ t = true) : ∀ i, get τ t = some i → boxCap i ≤ maxLen := by
  intro i hi
  unfold capOK at h
  rw [hi] at h
  have := Nat.le_of_ble_eq_true h
  simp only [maxLen]
  omega

theorem ev1_sound (hv : Valid P τ) (s : SatR B st a w ρ) {hint : Hint} {o : Oper} {d : D} {h' : List (Nat × Root)} {nx' : Nat} {p : Prop}
    {id : Nat} (hid : st.nx ≤ id) (h : ev1 τ st.σ st.h id hint o.op = some (d, h', nx', p)) (hp : p) : Good P B st a w o d h' := by
  unfold ev1 at h
  split at h
  · -- move
    rename_i x ho
    simp only [Option.some.injEq, Prod.mk.injEq] at h
    obtain ⟨rfl, rfl, rfl, rfl⟩ := h
    exact good_pure s (by simp [execOp, ho]) (rep_evo s x)
  · rename_i x ho
    simp only [Option.some.injEq, Prod.mk.injEq] at h
    obtain ⟨rfl, rfl, rfl, rfl⟩ := h
    exact good_pure s (by simp [execOp, ho]) (rep_evo s x)
  · -- pick
    rename_i c x y ho
    have hc := rep_evo s c
    split at h
    · rename_i hd
      rw [hd] at hc
      simp only [rep] at hc
      simp only [Option.some.injEq, Prod.mk.injEq] at h
      obtain ⟨rfl, rfl, rfl, rfl⟩ := h
      exact good_pure s (v := a.eval x) (by simp [execOp, ho, hc, asBool]) (rep_evo s x)
    · rename_i hd
      rw [hd] at hc
      simp only [rep] at hc
      simp only [Option.some.injEq, Prod.mk.injEq] at h
      obtain ⟨rfl, rfl, rfl, rfl⟩ := h
      exact good_pure s (v := a.eval y) (by simp [execOp, ho, hc, asBool]) (rep_evo s y)
    · cases h
  · -- alloc
    rename_i t ho
    split at h
    · rename_i hc
      obtain ⟨v, w', ρ', h1, h2, h3, _⟩ := evAlloc_sound hv s hid h (capOK_spec hc)
      exact ⟨v, w', ρ', .inl (by simp [execOp, ho, h1]), h2, h3⟩
    · cases h
  · rename_i t x ho
    split at h
    · rename_i hc
      obtain ⟨v, w', ρ', h1, h2, h3, _⟩ := evBox_sound hv s (rep_evo s x) hid h (capOK_spec hc)
      exact ⟨v, w', ρ', .inl (by simp [execOp, ho, h1]), h2, h3⟩
    · cases h
  · -- build
    rename_i t ps ho
    replace h := pr_some h
    obtain ⟨h, rfl, rfl⟩ := h
    obtain ⟨m1, m2⟩ := mapP_rep s ps.toList
    obtain ⟨v, h1, h2⟩ := evBuild_sound (P := P) (w := w) (vparts := ps.map fun (i, x) => (i, a.eval x)) hv (by rw [Array.toList_map]; exact m1) (by rw [Array.toList_map]; exact m2) h
    exact good_pure s (by simp only [execOp, ho, Sem.run_bind, h1]; rfl) h2
  · rename_i t len ps ho
    replace h := pr_some h
    obtain ⟨h, rfl, rfl⟩ := h
    obtain ⟨m1, m2⟩ := mapP_rep s ps.toList
    obtain ⟨v, w', h1, h2, h3, _⟩ := evBuildSlice_sound (P := P) (vparts := ps.map fun (i, x) => (i, a.eval x)) hv s (by rw [Array.toList_map]; exact m1) (by rw [Array.toList_map]; exact m2) h
    exact ⟨v, w', ρ, .inl (by simp only [execOp, ho, Sem.run_bind, h1]; rfl), h2, h3⟩
  · rename_i t x ho
    replace h := pr_some h
    obtain ⟨h, rfl, rfl⟩ := h
    obtain ⟨v, h1, h2⟩ := evLoad_sound hv s h hp
    exact good_pure s (by simp only [execOp, ho, Sem.run_bind, h1]; rfl) h2
  · -- store
    rename_i t x y ho
    split at h
    · rename_i h'' p' hst
      simp only [Option.some.injEq, Prod.mk.injEq] at h
      obtain ⟨rfl, rfl, rfl, rfl⟩ := h
      obtain ⟨w', h1, h2, _⟩ := evStore_sound hv s (rep_evo s x) (rep_evo s y) hst hp
      exact ⟨undef, w', ρ, .inr ⟨by simp only [execOp, ho, Sem.run_bind, h1]; rfl, rfl⟩, h2, by simp only [rep]⟩
    · cases h
  · -- nilCheck
    rename_i x ho
    have hx := rep_evo s x
    split at h
    · rename_i hd
      rw [hd] at hx
      have hx' := hx
      simp only [rep] at hx
      simp only [Option.some.injEq, Prod.mk.injEq] at h
      obtain ⟨rfl, rfl, rfl, rfl⟩ := h
      obtain ⟨_, b, hb, hval⟩ := hx
      exact good_pure s (v := a.eval x) (by simp [execOp, ho, hval]) hx'
    · rename_i hd
      rw [hd] at hx
      have hx' := hx
      simp only [rep] at hx
      simp only [Option.some.injEq, Prod.mk.injEq] at h
      obtain ⟨rfl, rfl, rfl, rfl⟩ := h
      obtain ⟨b, o', hval, _⟩ := hx
      exact good_pure s (v := a.eval x) (by simp [execOp, ho, hval]) hx'
    · rename_i hd
      rw [hd] at hx
      have hx' := hx
      simp only [rep] at hx
      simp only [Option.some.injEq, Prod.mk.injEq] at h
      obtain ⟨rfl, rfl, rfl, rfl⟩ := h
      obtain ⟨vs, hval, _⟩ := hx
      exact good_pure s (v := a.eval x) (by simp [execOp, ho, hval]) hx'
    · rename_i hd
      rw [hd] at hx
      have hx' := hx
      simp only [rep] at hx
      simp only [Option.some.injEq, Prod.mk.injEq] at h
      obtain ⟨rfl, rfl, rfl, rfl⟩ := h
      obtain ⟨u, hval, _⟩ := hx
      exact good_pure s (v := a.eval x) (by simp [execOp, ho, hval]) hx'
    · cases h
  · rename_i op t x y yt ho
    replace h := pr_some h
    obtain ⟨h, rfl, rfl⟩ := h
    obtain ⟨v, h1, h2⟩ := evBin2_sound (P := P) (w := w) (x := x) (y := y) hv (rep_evo s x) (rep_evo s y) h hp
    exact good_pure s (by simp only [execOp, ho]; rw [Sem.run_bind, h1]; rfl) h2
  · rename_i op t x ho
    replace h := pr_some h
    obtain ⟨h, rfl, rfl⟩ := h
    obtain ⟨v, h1, h2⟩ := evUn_sound (P := P) (w := w) (rep_evo s x) h hp
    exact good_pure s (by simp only [execOp, ho, Sem.run_bind, h1]; rfl) h2
  · rename_i src dst x ho
    replace h := pr_some h
    obtain ⟨h, rfl, rfl⟩ := h
    obtain ⟨v, h1, h2⟩ := evConv_sound (P := P) (w := w) hv (rep_evo s x) h
    exact good_pure s (by simp only [execOp, ho, Sem.run_bind, h1]; rfl) h2
  · rename_i t x ho
    replace h := pr_some h
    obtain ⟨h, rfl, rfl⟩ := h
    obtain ⟨v, h1, h2⟩ := evIface_sound (P := P) (w := w) hv (rep_evo s x) h
    exact good_pure s (by simp only [execOp, ho, Sem.run_bind, h1]; rfl) h2
  · -- makeFunc
    rename_i fn first caps ho
    split at h
    · rename_i f hf
      simp only [Option.some.injEq, Prod.mk.injEq] at h
      obtain ⟨rfl, rfl, rfl, rfl⟩ := h
      have hfirst : first = #[] := Array.ext' (by simpa using hf)
      subst hfirst
      refine good_pure s (v := .func (.func f) #[] (caps.map a.eval)) (by simp [execOp, ho, Instr.makeFunc]) ?_
      simp only [rep]
      refine ⟨caps.toList.map a.eval, ?_, mapE_rep s caps.toList⟩
      rw [← Array.toList_map, Array.toArray_toList]
    · cases h
  · rename_i t x y ho
    obtain ⟨v, w', ρ', h1, h2, h3, _⟩ := evMake_sound hv s (rep_evo s x) (rep_evo s y) hid h hp
    exact ⟨v, w', ρ', .inl (by simp only [execOp, ho, Sem.run_bind, h1]; rfl), h2, h3⟩
  · rename_i t x lo hi mx ho
    replace h := pr_some h
    obtain ⟨h, rfl, rfl⟩ := h
    obtain ⟨v, h1, h2⟩ := evSlice_sound hv s h hp
    exact good_pure s (by simp only [execOp, ho, Sem.run_bind, h1]; rfl) h2
  · rename_i t x f ho
    replace h := pr_some h
    obtain ⟨h, rfl, rfl⟩ := h
    obtain ⟨v, h1, h2⟩ := evField_sound hv s h
    exact good_pure s (by simp only [execOp, ho, Sem.run_bind, h1]; rfl) h2
  · rename_i t x f ho
    replace h := pr_some h
    obtain ⟨h, rfl, rfl⟩ := h
    obtain ⟨v, h1, h2⟩ := evFieldV_sound (P := P) (w := w) hv (rep_evo s x) h
    exact good_pure s (by simp only [execOp, ho, Sem.run_bind, h1]; rfl) h2
  · rename_i t x ix ho
    replace h := pr_some h
    obtain ⟨h, rfl, rfl⟩ := h
    obtain ⟨v, h1, h2⟩ := evIndex_sound hv s h hp
    exact good_pure s (by simp only [execOp, ho, Sem.run_bind, h1]; rfl) h2
  · rename_i t x ix ho
    replace h := pr_some h
    obtain ⟨h, rfl, rfl⟩ := h
    obtain ⟨v, h1, h2⟩ := evStrIdx_sound (P := P) (w := w) hv (rep_evo s x) (rep_evo s ix) h hp
    exact good_pure s (by simp only [execOp, ho, Sem.run_bind, h1]; rfl) h2
  · rename_i t ix ho
    replace h := pr_some h
    obtain ⟨h, rfl, rfl⟩ := h
    obtain ⟨v, h1, h2⟩ := evExtract_sound (P := P) (w := w) (rep_evo s t) h
    exact good_pure s (by simp only [execOp, ho, Sem.run_bind, h1]; rfl) h2
  · -- builtins
    rename_i c ho
    split at h
    · rename_i b hb
      obtain ⟨callee, args, argTypes⟩ := c
      simp only at hb
      subst hb
      have hargs := mapE_rep s args.toList
      have run : ∀ {f : Sem Value} {v : Value} {w' : World}, (∀ consts, builtin b argTypes o.type consts (args.map a.eval) = (do pure (.value (← f)) : Sem Next)) → f.run P w = .ok v w' → (execOp a.eval o).run P w = .ok (.value v) w' := by
        intro f v w' h1 h2
        simp only [execOp, ho, resolve, Sem.run_bind, Sem.run_pure, Result.andThen_ok, invoke]
        rw [h1, Sem.run_bind, h2]
        rfl
      have ets : argTypes = argTypes.toList.toArray := (Array.toArray_toList).symm
      have eargs : args.map a.eval = (args.toList.map a.eval).toArray := by rw [← Array.toList_map, Array.toArray_toList]
      simp only at h
      generalize hts : argTypes.toList = ts at h ets
      generalize hds : mapE st.σ args.toList = ds at h hargs
      generalize hvs : args.toList.map a.eval = vs at hargs eargs
      unfold evBuiltin at h
      split at h
      · -- len
        split at h
        · rename_i t d1
          replace h := pr_some h
          obtain ⟨h, rfl, rfl⟩ := h
          simp only [repVals] at hargs
          obtain ⟨v1, _, rfl, h1, rfl⟩ := hargs
          obtain ⟨v, q1, q2⟩ := evLen_sound (P := P) (w := w) (ty := o.type) hv h1 h
          exact good_pure s (run (f := Builtin.len_ #[t] o.type #[v1]) (fun _ => by rw [ets, eargs]; rfl) q1) q2
        · cases h
      · -- append
        split at h
        · rename_i t t' d1 d2
          split at h
          · rename_i ht
            have ht := Nat.eq_of_beq_eq_true ht
            subst ht
            simp only [repVals] at hargs
            obtain ⟨v1, _, rfl, h1, v2, _, rfl, h2, rfl⟩ := hargs
            obtain ⟨v, w', ρ', q1, q2, q3, _⟩ := evAppend_sound (P := P) (ty := o.type) hv s h1 h2 hid h hp
            exact ⟨v, w', ρ', .inl (run (f := Builtin.append_ #[t, t] o.type #[v1, v2]) (fun _ => by rw [ets, eargs]; rfl) q1), q2, q3⟩
          · cases h
        · cases h
      · -- copy
        split at h
        · rename_i t t' d1 d2
          split at h
          · rename_i d' h'' p' hcp
            simp only [Option.some.injEq, Prod.mk.injEq] at h
            obtain ⟨rfl, rfl, rfl, rfl⟩ := h
            simp only [repVals] at hargs
            obtain ⟨v1, _, rfl, h1, v2, _, rfl, h2, rfl⟩ := hargs
            obtain ⟨v, w', q1, q2, q3, _⟩ := evCopy_sound (P := P) (t2 := t') (ty := o.type) hv s h1 h2 hcp hp
            exact ⟨v, w', ρ, .inl (run (f := Builtin.copy_ #[t, t'] o.type #[v1, v2]) (fun _ => by rw [ets, eargs]; rfl) q1), q2, q3⟩
          · cases h
        · cases h
      · replace h := pr_some h
        obtain ⟨h, rfl, rfl⟩ := h
        obtain ⟨v, q1, q2⟩ := evMM_sound (P := P) (w := w) (ts := argTypes) (t := o.type) (mx := true) hargs h
        exact good_pure s (run (f := Builtin.max_ argTypes o.type vs.toArray) (fun _ => by rw [eargs]; rfl) q1) q2
      · replace h := pr_some h
        obtain ⟨h, rfl, rfl⟩ := h
        obtain ⟨v, q1, q2⟩ := evMM_sound (P := P) (w := w) (ts := argTypes) (t := o.type) (mx := false) hargs h
        exact good_pure s (run (f := Builtin.min_ argTypes o.type vs.toArray) (fun _ => by rw [eargs]; rfl) q1) q2
      · -- clear
        split at h
        · rename_i t d1
          split at h
          · rename_i d' h'' p' hcp
            simp only [Option.some.injEq, Prod.mk.injEq] at h
            obtain ⟨rfl, rfl, rfl, rfl⟩ := h
            simp only [repVals] at hargs
            obtain ⟨v1, _, rfl, h1, rfl⟩ := hargs
            obtain ⟨v, w', q1, q2, q3, _⟩ := evClear_sound (P := P) (ty := o.type) hv s h1 hcp hp
            exact ⟨v, w', ρ, .inl (run (f := Builtin.clear_ #[t] o.type #[v1]) (fun _ => by rw [ets, eargs]; rfl) q1), q2, q3⟩
          · cases h
        · cases h
      · cases h
    · cases h
  · rename_i x xt t ok ho
    replace h := pr_some h
    obtain ⟨h, rfl, rfl⟩ := h
    obtain ⟨v, h1, h2⟩ := evAssert_sound (P := P) (w := w) (xt := xt) hv (rep_evo s x) h
    exact good_pure s (by simp only [execOp, ho, Sem.run_bind, h1]; rfl) h2
  · cases h

theorem pr_nx {h : List (Nat × Root)} {nx : Nat} {r : Option (D × Prop)} {x : HOut} (e : pr h nx r = some x) : nx ≤ x.2.2.1 := by
  obtain ⟨d, h', nx', p⟩ := x
  rw [(pr_some e).2.2]
  exact Nat.le_refl _
theorem ev1_nx {σ : List (Nat × D)} {h : List (Nat × Root)} {nx : Nat} {hint : Hint} {o : Op} {x : HOut} (e : ev1 τ σ h nx hint o = some x) : nx ≤ x.2.2.1 := by
  have q1 : ∀ {n : Nat}, n ≤ n := Nat.le_refl _
  have q2 : ∀ {n : Nat}, n ≤ n + 1 := Nat.le_succ _
  unfold ev1 at e
  split at e
  case h_4 => unfold evAlloc at e; (repeat' split at e) <;> first | (cases e; exact q2) | cases e
  case h_5 => unfold evBox at e; (repeat' split at e) <;> first | (cases e; exact q2) | cases e
  case h_16 => unfold evMake at e; (repeat' split at e) <;> first | (cases e; exact q2) | cases e
  case h_23 =>
    split at e
    · unfold evBuiltin at e
      split at e
      case h_2 =>
        split at e
        · split at e
          · unfold evAppend at e; (repeat' split at e) <;> first | (cases e; exact q2) | cases e
          · cases e
        · cases e
      all_goals ((repeat' split at e) <;> first | exact pr_nx e | (cases e; exact q1) | cases e)
    · cases e
  all_goals ((repeat' split at e) <;> first | exact pr_nx e | (cases e; exact q1) | cases e)
theorem fin_nx {hint : Hint} {nx : Nat} {r : Option HOut} (hr : ∀ x, r = some x → nx ≤ x.2.2.1) {x : HOut} (e : fin hint r = some x) : nx ≤ x.2.2.1 := by
  unfold fin at e
  split at e
  · cases e
  · have := hr _ rfl
    (repeat' split at e) <;> first | (cases e; exact this) | cases e

theorem fin_sound {hint : Hint} {r : Option HOut} {d : D} {h' : List (Nat × Root)} {nx' : Nat} {p : Prop} (h : fin hint r = some (d, h', nx', p)) (hp : p) :
    ∃ d0 q, r = some (d0, h', nx', q) ∧ q ∧ Wk d0 d := by
  unfold fin at h
  split at h
  · cases h
  · rename_i d0 h0 n0 p0
    split at h
    · simp only [Option.some.injEq, Prod.mk.injEq] at h
      obtain ⟨rfl, rfl, rfl, rfl⟩ := h
      obtain ⟨hp0, rfl⟩ := hp
      exact ⟨_, p0, rfl, hp0, .refl _⟩
    · simp only [Option.some.injEq, Prod.mk.injEq] at h
      obtain ⟨rfl, rfl, rfl, rfl⟩ := h
      obtain ⟨hp0, hw⟩ := hp
      exact ⟨_, p0, rfl, hp0, hw⟩
    · split at h
      · simp only [Option.some.injEq, Prod.mk.injEq] at h
        obtain ⟨rfl, rfl, rfl, rfl⟩ := h
        obtain ⟨hp0, rfl⟩ := hp
        exact ⟨_, p0, rfl, hp0, .refl _⟩
      · cases h
    · simp only [Option.some.injEq, Prod.mk.injEq] at h
      obtain ⟨rfl, rfl, rfl, rfl⟩ := h
      exact ⟨_, p0, rfl, hp, .refl _⟩
theorem Good.wk {o : Oper} {d d' : D} {h' : List (Nat × Root)} (h : Good P B st a w o d h') (k : Wk d d') : Good P B st a w o d' h' := by
  obtain ⟨v, w', ρ', h1, h2, h3⟩ := h
  exact ⟨v, w', ρ', h1, h2, k.rep v h3⟩
end
end Go.Px
end

section
namespace Go.Px
open Go.RowKit

def AllP : List Prop → Prop
  | [] => True
  | [p] => p
  | p :: ps => p ∧ AllP ps
theorem AllP_cons {p : Prop} {ps : List Prop} : AllP (p :: ps) ↔ p ∧ AllP ps := by
  cases ps <;> simp [AllP]
theorem AllP_append {ps qs : List Prop} : AllP (ps ++ qs) ↔ AllP ps ∧ AllP qs := by
  induction ps with
  | nil => simp [AllP]
  | cons p ps ih => rw [List.cons_append, AllP_cons, AllP_cons, ih, and_assoc]

/-! ### What a callee is handed: values without references -/
mutual
def resD (fr : Bool) (h : List (Nat × Root)) : Nat → D → Option (D × List Prop)
  | 0, _ => none
  | f + 1, d => match d with
    | .os r off n => match get h r with
      | none => none
      | some R => match R.lit with
        | true => none
        | false => match fr && R.own with
          | true => none
          | false => match off with
            | 0 => some (.sl R.sz n R.cs, [R.cs.length = mulN n R.sz])
            | off => some (.sl R.sz n ((R.cs.drop (mulN off R.sz)).take (mulN n R.sz)), [mulN (off + n) R.sz ≤ R.cs.length])
    | .oa r off => match get h r with
      | none => none
      | some R => match fr && R.own with
        | true => none
        | false => match R.lit with
          | true => match resL fr h f (R.cs.drop off) with
            | some (l, ps) => some (.pt l, ps)
            | none => none
          | false => some (.pt (R.cs.drop off), [])
    | .ag l => match resL fr h f l with | some (l, ps) => some (.ag l, ps) | none => none
    | .tup l => match resL fr h f l with | some (l, ps) => some (.tup l, ps) | none => none
    | .fn g l => match resL fr h f l with | some (l, ps) => some (.fn g l, ps) | none => none
    | .ifc t d => match resD fr h f d with | some (d, ps) => some (.ifc t d, ps) | none => none
    | .junk => none
    | d => some (d, [])
def resL (fr : Bool) (h : List (Nat × Root)) : Nat → List D → Option (List D × List Prop)
  | 0, _ => none
  | _ + 1, [] => some ([], [])
  | f + 1, d :: ds => match resD fr h f d with
    | none => none
    | some (d', ps) => match resL fr h f ds with
      | none => none
      | some (ds', qs) => some (d' :: ds', ps ++ qs)
end

def lend (E : Env) (fr : Bool) : Env := match fr with | true => E.pure | false => ⟨E.w, fun _ _ => True, E.ρ, fun _ => False⟩
theorem le_lend (E : Env) (fr : Bool) : E.pure.Le (lend E fr) := by
  cases fr
  · exact ⟨fun b o v h _ => ⟨h, trivial⟩, fun r hr => hr.elim, fun r hr => hr.elim⟩
  · exact Env.Le.refl _
theorem lend_w (E : Env) (fr : Bool) : (lend E fr).w = E.w := by cases fr <;> rfl
theorem lend_pure (E : Env) (fr : Bool) : (lend E fr).pure = lend E fr := by cases fr <;> rfl

section
variable {P : Program} {τ : List (Nat × TI)} {B : Base} {st : St} {a : Act} {w : World} {ρ : Nat → RC}

theorem reads_lend (s : SatR B st a w ρ) {r : Nat} {R : Root} {b : Nat} {fr : Bool} (hr : get st.h r = some R) (hb : (ρ r).blk = some b) (hfr : (fr && R.own) = false) :
    ∀ (k : Nat) (d : D), R.cs[k]? = some d → ∃ v, w.cell? ⟨b, k, none⟩ = some v ∧ (lend (st.env B w ρ) fr).ok b k ∧ v.oneCell' = true ∧ rep ((st.env B w ρ).at R.lit) d v := by
  obtain ⟨cells, h1, _, _, _, h5⟩ := s.blkOf hr hb
  intro k d hk
  obtain ⟨v, q1, q2, q3, q4⟩ := h5 k d hk
  refine ⟨v, by rw [cell_of_heap h1]; exact q1, ?_, q2, q3⟩
  cases fr with
  | false => exact trivial
  | true => exact q4 (by simpa using hfr)

mutual
theorem resD_sound (s : SatR B st a w ρ) {fr : Bool} : ∀ (f : Nat) (d : D) (d' : D) (ps : List Prop) (v : Value), resD fr st.h f d = some (d', ps) → AllP ps → rep (st.env B w ρ) d v →
    rep (lend (st.env B w ρ) fr) d' v
  | 0, _, _, _, _, h, _, _ => by simp [resD] at h
  | f + 1, d, d', ps, v, h, hp, hr => by
    unfold resD at h
    split at h
    · -- os
      rename_i r off n
      split at h
      · cases h
      rename_i R hR
      split at h
      · cases h
      rename_i hlit
      split at h
      · cases h
      rename_i hfr
      simp only [rep] at hr
      obtain ⟨_, hr⟩ := hr
      have hsz : (ρ r).sz = R.sz := (s.roots r R hR).sz
      have key : ∀ cs : List D, cs.length = n * R.sz → (∀ (k : Nat) (d : D), cs[k]? = some d → R.cs[off * R.sz + k]? = some d) → rep (lend (st.env B w ρ) fr) (.sl R.sz n cs) v := by
        intro cs hl hcs
        simp only [rep, lend_pure]
        unfold osRep at hr
        split at hr
        · obtain ⟨rfl, _, rfl⟩ := hr
          exact ⟨none, 0, rfl, Nat.le_refl _, Nat.zero_le _, by simpa using hl, fun h => absurd h (by omega)⟩
        · rename_i b hb
          obtain ⟨o, k, rfl, q1, q2, q3⟩ := hr
          obtain ⟨cells, _, _, hmax, _⟩ := s.blkOf hR hb
          have hcapeq : off + k = (ρ r).cap := q1
          refine ⟨_, k, rfl, q2, by omega, hl, fun hn => ⟨b, o, rfl, ?_⟩⟩
          rw [repCells_iff]
          intro j d hj
          obtain ⟨u, g1, g2, g3, g4⟩ := reads_lend s hR hb hfr _ _ (hcs j d hj)
          have ho : o = off * R.sz := by
            rw [q3 (by omega), ← hsz]; rfl
          rw [ho, lend_w]
          rw [hlit] at g4
          exact ⟨u, g1, g2, g3, rep_mono (le_lend _ fr) d u g4⟩
      split at h
      · simp only [Option.some.injEq, Prod.mk.injEq] at h
        obtain ⟨rfl, rfl⟩ := h
        simp only [AllP, mulN_eq] at hp
        exact key _ hp (fun k d hk => by simpa using hk)
      · simp only [Option.some.injEq, Prod.mk.injEq] at h
        obtain ⟨rfl, rfl⟩ := h
        simp only [AllP, mulN_eq] at hp ⊢
        refine key _ ?_ (fun k d hk => ?_)
        · rw [List.length_take, List.length_drop]
          rw [Nat.add_mul] at hp
          omega
        · rw [List.getElem?_take] at hk
          split at hk
          · rwa [List.getElem?_drop] at hk
          · cases hk
    · -- oa
      rename_i r off
      split at h
      · cases h
      rename_i R hR
      split at h
      · cases h
      rename_i hfr
      simp only [rep] at hr
      obtain ⟨_, b, hb, rfl⟩ := hr
      split at h
      · rename_i hlit
        split at h
        · rename_i l qs hl
          simp only [Option.some.injEq, Prod.mk.injEq] at h
          obtain ⟨rfl, rfl⟩ := h
          simp only [rep, lend_pure]
          refine ⟨b, off, rfl, ?_⟩
          refine resCells_sound s f (R.cs.drop off) l _ b off hl hp (fun k d hk => ?_)
          rw [List.getElem?_drop] at hk
          obtain ⟨u, g1, g2, g3, g4⟩ := reads_lend s hR hb hfr _ _ hk
          exact ⟨u, g1, g2, g3, by rw [hlit] at g4; exact g4⟩
        · cases h
      · rename_i hlit
        simp only [Option.some.injEq, Prod.mk.injEq] at h
        obtain ⟨rfl, rfl⟩ := h
        simp only [rep, lend_pure]
        refine ⟨b, off, rfl, ?_⟩
        rw [repCells_iff]
        intro k d hk
        rw [List.getElem?_drop] at hk
        obtain ⟨u, g1, g2, g3, g4⟩ := reads_lend s hR hb hfr _ _ hk
        rw [hlit] at g4
        rw [lend_w]
        exact ⟨u, g1, g2, g3, rep_mono (le_lend _ fr) d u g4⟩
    · split at h
      · rename_i l l' qs hl
        simp only [Option.some.injEq, Prod.mk.injEq] at h
        obtain ⟨rfl, rfl⟩ := h
        simp only [rep] at hr ⊢
        obtain ⟨vs, e, hv, h1⟩ := hr
        exact ⟨vs, e, resL_sound s f _ _ _ _ hl hp hv, h1⟩
      · cases h
    · split at h
      · rename_i l l' qs hl
        simp only [Option.some.injEq, Prod.mk.injEq] at h
        obtain ⟨rfl, rfl⟩ := h
        simp only [rep] at hr ⊢
        obtain ⟨vs, e, hv⟩ := hr
        exact ⟨vs, e, resL_sound s f _ _ _ _ hl hp hv⟩
      · cases h
    · split at h
      · rename_i l l' qs hl
        simp only [Option.some.injEq, Prod.mk.injEq] at h
        obtain ⟨rfl, rfl⟩ := h
        simp only [rep] at hr ⊢
        obtain ⟨vs, e, hv⟩ := hr
        exact ⟨vs, e, resL_sound s f _ _ _ _ hl hp hv⟩
      · cases h
    · split at h
      · rename_i l l' qs hl
        simp only [Option.some.injEq, Prod.mk.injEq] at h
        obtain ⟨rfl, rfl⟩ := h
        simp only [rep] at hr ⊢
        obtain ⟨u, e, hv⟩ := hr
        exact ⟨u, e, resD_sound s f _ _ _ _ hl hp hv⟩
      · cases h
    · cases h
    · rename_i n1 n2 n3 n4 n5 n6 n7
      simp only [Option.some.injEq, Prod.mk.injEq] at h
      obtain ⟨rfl, rfl⟩ := h
      have ht : topP d = true := by
        cases d <;> first | rfl | (exfalso; first | exact n1 _ _ _ rfl | exact n2 _ _ rfl | exact n3 _ rfl | exact n4 _ rfl | exact n5 _ _ rfl | exact n6 _ _ rfl)
      exact rep_mono (le_lend _ fr) _ _ (topP_pure _ _ ht hr)
theorem resL_sound (s : SatR B st a w ρ) {fr : Bool} : ∀ (f : Nat) (ds : List D) (ds' : List D) (ps : List Prop) (vs : List Value), resL fr st.h f ds = some (ds', ps) → AllP ps → repVals (st.env B w ρ) ds vs →
    repVals (lend (st.env B w ρ) fr) ds' vs
  | 0, _, _, _, _, h, _, _ => by simp [resL] at h
  | f + 1, [], ds', ps, vs, h, _, hr => by
    simp only [resL, Option.some.injEq, Prod.mk.injEq] at h
    obtain ⟨rfl, rfl⟩ := h
    simp only [repVals] at *
    exact hr
  | f + 1, d :: ds, ds', ps, vs, h, hp, hr => by
    simp only [resL] at h
    split at h
    · cases h
    · rename_i d1 p1 h1
      split at h
      · cases h
      · rename_i d2 p2 h2
        simp only [Option.some.injEq, Prod.mk.injEq] at h
        obtain ⟨rfl, rfl⟩ := h
        rw [AllP_append] at hp
        simp only [repVals] at hr ⊢
        obtain ⟨v, ws, e, q1, q2⟩ := hr
        exact ⟨v, ws, e, resD_sound s f _ _ _ _ h1 hp.1 q1, resL_sound s f _ _ _ _ h2 hp.2 q2⟩
theorem resCells_sound (s : SatR B st a w ρ) {fr : Bool} : ∀ (f : Nat) (ds : List D) (ds' : List D) (ps : List Prop) (b o : Nat), resL fr st.h f ds = some (ds', ps) → AllP ps →
    (∀ (k : Nat) (d : D), ds[k]? = some d → ∃ v, w.cell? ⟨b, o + k, none⟩ = some v ∧ (lend (st.env B w ρ) fr).ok b (o + k) ∧ v.oneCell' = true ∧ rep (st.env B w ρ) d v) →
    repCells (lend (st.env B w ρ) fr) ds' b o
  | 0, _, _, _, _, _, h, _, _ => by simp [resL] at h
  | f + 1, [], ds', ps, b, o, h, _, _ => by
    simp only [resL, Option.some.injEq, Prod.mk.injEq] at h
    obtain ⟨rfl, rfl⟩ := h
    simp only [repCells]
  | f + 1, d :: ds, ds', ps, b, o, h, hp, hr => by
    simp only [resL] at h
    split at h
    · cases h
    · rename_i d1 p1 h1
      split at h
      · cases h
      · rename_i d2 p2 h2
        simp only [Option.some.injEq, Prod.mk.injEq] at h
        obtain ⟨rfl, rfl⟩ := h
        rw [AllP_append] at hp
        simp only [repCells]
        obtain ⟨v, q1, q2, q3, q4⟩ := hr 0 d (by simp)
        refine ⟨⟨v, by rw [lend_w]; exact q1, q2, q3, resD_sound s f _ _ _ _ h1 hp.1 q4⟩, resCells_sound s f _ _ _ b (o + 1) h2 hp.2 (fun k d' hk => ?_)⟩
        have := hr (k + 1) d' (by simpa using hk)
        rwa [show o + (k + 1) = o + 1 + k by omega] at this
end
end
end Go.Px
end

section
namespace Go.Px
open Go.RowKit

/-! ### Contracts -/
def FnOK (P : Program) (f : FuncId) : Prop := ∃ fn, P.funcs[f]? = some fn ∧ (fn.name == "runtime.NumGoroutine") = false ∧ fn.body.isNone = false
def penv (w : World) (ok : Nat → Nat → Prop) : Env := ⟨w, ok, fun _ => default, fun _ => False⟩
def roPost (w : World) (ok : Nat → Nat → Prop) (r : RO) (e : Ending) (w' : World) : Prop :=
  Below w.heap.size w w' ∧ match r with
    | .ret d => ∃ v, e = .returned v ∧ rep (penv w' fun b o => ok b o ∨ w.heap.size ≤ b) d v
    | .pan d => ∃ v, e = .panicked [{ v, recovered := false }] ∧ rep (penv w' fun b o => ok b o ∨ w.heap.size ≤ b) d v
/-- Called with values that read as 'ds' (in whatever memory), the function comes to 'r', and nothing that was there has turned. -/
structure Pure (P : Program) (f : FuncId) (ds : List D) (r : RO) : Prop where
  fn : FnOK P f
  run : ∀ (w : World) (ok : Nat → Nat → Prop) (vs : List Value), repVals (penv w ok) ds vs → Calls P f vs.toArray w (roPost w ok r)

/-! ### Calls in a walk -/
mutual
def flatD : D → Bool
  | .b _ | .i _ _ | .s _ | .nils | .nilp | .nilf | .nili => true
  | .ag l | .tup l => flatL l
  | .ifc _ d => flatD d
  | _ => false
def flatL : List D → Bool
  | [] => true
  | d :: ds => match flatD d with | true => flatL ds | false => false
end
mutual
theorem flat_any {E E' : Env} : ∀ (d : D) (v : Value), flatD d = true → rep E d v → rep E' d v
  | .junk, _, _, _ => by simp only [rep]
  | .b x, v, _, q => by simp only [rep] at *; exact q
  | .i k n, v, _, q => by simp only [rep] at *; exact q
  | .s x, v, _, q => by simp only [rep] at *; exact q
  | .nils, v, _, q => by simp only [rep] at *; exact q
  | .nilf, v, _, q => by simp only [rep] at *; exact q
  | .nilp, v, _, q => by simp only [rep] at *; exact q
  | .nili, v, _, q => by simp only [rep] at *; exact q
  | .sl sz n cs, v, h, q => by simp only [flatD, Bool.false_eq_true] at h
  | .pt cs, v, h, q => by simp only [flatD, Bool.false_eq_true] at h
  | .fn f cs, v, h, q => by simp only [flatD, Bool.false_eq_true] at h
  | .os r off n, v, h, q => by simp only [flatD, Bool.false_eq_true] at h
  | .oa r off, v, h, q => by simp only [flatD, Bool.false_eq_true] at h
  | .ag cs, v, h, q => by
    simp only [rep] at *
    obtain ⟨vs, e, hv, h1⟩ := q
    exact ⟨vs, e, flatL_any cs vs (by simpa only [flatD] using h) hv, h1⟩
  | .tup cs, v, h, q => by
    simp only [rep] at *
    obtain ⟨vs, e, hv⟩ := q
    exact ⟨vs, e, flatL_any cs vs (by simpa only [flatD] using h) hv⟩
  | .ifc t d, v, h, q => by
    simp only [rep] at *
    obtain ⟨u, e, hd⟩ := q
    exact ⟨u, e, flat_any d u (by simpa only [flatD] using h) hd⟩
theorem flatL_any {E E' : Env} : ∀ (cs : List D) (vs : List Value), flatL cs = true → repVals E cs vs → repVals E' cs vs
  | [], _, _, q => by simp only [repVals] at *; exact q
  | d :: ds, vs, h, q => by
    simp only [flatL] at h
    split at h
    · rename_i hd
      simp only [repVals] at *
      obtain ⟨v, ws, e, h1, h2⟩ := q
      exact ⟨v, ws, e, flat_any d v hd h1, flatL_any ds ws h h2⟩
    · cases h
end

def appN : List Nat → List Nat → List Nat
  | [], ys => ys
  | x :: xs, ys => x :: appN xs ys
mutual
/-- The roots that a value leads to. -/
def refsD (h : List (Nat × Root)) : Nat → D → List Nat
  | 0, _ => []
  | f + 1, d => match d with
    | .os r _ _ => [r]
    | .oa r _ => match get h r with
      | some R => match R.lit with | true => r :: refsL h f R.cs | false => [r]
      | none => [r]
    | .ag l | .tup l | .fn _ l => refsL h f l
    | .ifc _ d => refsD h f d
    | _ => []
def refsL (h : List (Nat × Root)) : Nat → List D → List Nat
  | 0, _ => []
  | _ + 1, [] => []
  | f + 1, d :: ds => appN (refsD h f d) (refsL h f ds)
end
def frz (h : List (Nat × Root)) : List Nat → Option (List (Nat × Root))
  | [] => some h
  | r :: rs => match get h r with
    | none => none
    | some R => match R.own with
      | false => frz h rs
      | true => match R.giv with
        | true => none
        | false => frz ((r, R.idle) :: h) rs

def roD : RO → D
  | .ret d => d
  | .pan d => d
/-- The heap behind a call, what the callee is handed, what is asked. -/
def evCall (h : List (Nat × Root)) (ds : List D) (r : RO) : Option (List (Nat × Root) × List D × List Prop) :=
  match flatD (roD r) with
  | true => match resL false h 30 ds with
    | some (ds', ps) => some (h, ds', ps)
    | none => none
  | false => match frz h (refsL h 30 ds) with
    | none => none
    | some h' => match resL true h' 30 ds with
      | some (ds', ps) => some (h', ds', ps)
      | none => none

section
variable {P : Program} {τ : List (Nat × TI)} {B : Base} {st : St} {a : Act} {w : World} {ρ : Nat → RC}

theorem SatR.frz : ∀ (rs : List Nat) {st : St} (_ : SatR B st a w ρ) {h' : List (Nat × Root)}, frz st.h rs = some h' →
    SatR B ⟨st.σ, h', st.nx⟩ a w ρ ∧ (st.env B w ρ).Le (St.env B ⟨st.σ, h', st.nx⟩ w ρ)
  | [], st, s, h', h => by
    simp only [Px.frz, Option.some.injEq] at h
    subst h
    exact ⟨s, Env.Le.refl _⟩
  | r :: rs, st, s, h', h => by
    simp only [Px.frz] at h
    split at h
    · cases h
    · rename_i R hR
      split at h
      · exact SatR.frz rs s h
      · split at h
        · cases h
        · rename_i hg
          rw [idle_eq] at h
          obtain ⟨q1, q2⟩ := s.retire hR R.cs.length (.inl hg)
          rw [List.take_length] at q1 q2
          obtain ⟨q3, q4⟩ := SatR.frz rs q1 (h' := h') h
          exact ⟨q3, q2.trans q4⟩

theorem penv_eq (E : Env) (fr : Bool) : (lend E fr).Le (penv (lend E fr).w (lend E fr).ok) := ⟨fun _ _ _ h1 h2 => ⟨h1, h2⟩, fun r hr => by cases fr <;> exact hr.elim, fun r hr => by cases fr <;> exact hr.elim⟩

theorem evCall_sound (s : SatR B st a w ρ) {ds ds' : List D} {r : RO} {h' : List (Nat × Root)} {ps : List Prop} {vs : List Value} (hr : repVals (st.env B w ρ) ds vs)
    (h : evCall st.h ds r = some (h', ds', ps)) (hp : AllP ps) {f : FuncId} (hf : Pure P f ds' r) :
    SatR B ⟨st.σ, h', st.nx⟩ a w ρ ∧
    Calls P f vs.toArray w (fun e w' => SatR B ⟨st.σ, h', st.nx⟩ a w' ρ ∧ match r with
      | .ret d => ∃ v, e = .returned v ∧ rep (St.env B ⟨st.σ, h', st.nx⟩ w' ρ) d v
      | .pan d => ∃ v, e = .panicked [{ v, recovered := false }] ∧ rep (St.env B ⟨st.σ, h', st.nx⟩ w' ρ) d v) := by
  unfold evCall at h
  split at h
  · rename_i hflat
    split at h
    · rename_i ds1 ps1 hres
      simp only [Option.some.injEq, Prod.mk.injEq] at h
      obtain ⟨rfl, rfl, rfl⟩ := h
      refine ⟨s, ?_⟩
      have h1 := resL_sound s 30 _ _ _ _ hres hp hr
      have h2 := repVals_mono (penv_eq _ _) _ _ h1
      rw [lend_w] at h2
      refine (hf.2 w _ vs h2).mono fun e w' ⟨hb, hpost⟩ => ⟨s.below hb, ?_⟩
      cases r with
      | ret d => obtain ⟨v, e1, e2⟩ := hpost; exact ⟨v, e1, flat_any _ _ hflat e2⟩
      | pan d => obtain ⟨v, e1, e2⟩ := hpost; exact ⟨v, e1, flat_any _ _ hflat e2⟩
    · cases h
  · split at h
    · cases h
    · rename_i h1 hfrz
      split at h
      · rename_i ds1 ps1 hres
        simp only [Option.some.injEq, Prod.mk.injEq] at h
        obtain ⟨rfl, rfl, rfl⟩ := h
        obtain ⟨s1, le1⟩ := SatR.frz _ s hfrz
        refine ⟨s1, ?_⟩
        have h1' := resL_sound s1 30 _ _ _ _ hres hp (repVals_mono le1 _ _ hr)
        have h2 := repVals_mono (penv_eq _ _) _ _ h1'
        rw [lend_w] at h2
        refine (hf.2 w _ vs h2).mono fun e w' ⟨hb, hpost⟩ => ⟨s1.below hb, ?_⟩
        have hle : ∀ d v, rep (penv w' fun b o => (lend (St.env B ⟨st.σ, h1, st.nx⟩ w ρ) true).ok b o ∨ w.heap.size ≤ b) d v → rep (St.env B ⟨st.σ, h1, st.nx⟩ w' ρ) d v := by
          intro d v hd
          refine rep_mono (E := penv w' fun b o => (lend (St.env B ⟨st.σ, h1, st.nx⟩ w ρ) true).ok b o ∨ w.heap.size ≤ b) (E' := St.env B ⟨st.σ, h1, st.nx⟩ w' ρ) (Env.Le.mk (fun b o u q1 q2 => ⟨q1, ?_⟩) (fun r hr => hr.elim) (fun r hr => hr.elim)) d v hd
          rcases q2 with q2 | q2
          · exact q2
          · refine ⟨.inr (Nat.le_trans s.ext.size q2), fun r R hr ho hb2 => ?_⟩
            exact absurd (s1.blk_lt hr hb2) (Nat.not_lt.2 q2)
        cases r with
        | ret d => obtain ⟨v, e1, e2⟩ := hpost; exact ⟨v, e1, hle _ _ e2⟩
        | pan d => obtain ⟨v, e1, e2⟩ := hpost; exact ⟨v, e1, hle _ _ e2⟩
      · cases h
end
end Go.Px
end

section
namespace Go.Px
open Go.RowKit

inductive AX where
  | normal
  | ret
  | exit (id : Nat)
  | pan (d : D)

/-- What is to be shown of a piece of code's end, of its abstract state. -/
def lift (B : Base) (Q : AX → St → Prop) : Exit → Act → World → Prop
  | .normal, a, w => ∃ st, Q .normal st ∧ Sat B st a w
  | .ret, a, w => ∃ st, Q .ret st ∧ Sat B st a w
  | .exit id, a, w => ∃ st, Q (.exit id) st ∧ Sat B st a w
  | .panic chain, a, w => ∃ st d v ρ, chain = [{ v, recovered := false }] ∧ Q (.pan d) st ∧ SatR B st a w ρ ∧ rep (st.env B w ρ) d v
  | _, _, _ => False
def H (P : Program) (B : Base) (c : Code) (st : St) (Q : AX → St → Prop) : Prop := ∀ a w, Sat B st a w → c.wp P (lift B Q) a w

theorem lift_mono {B : Base} {Q Q' : AX → St → Prop} (h : ∀ x st, Q x st → Q' x st) : ∀ (e : Exit) (a : Act) (w : World), lift B Q e a w → lift B Q' e a w := by
  intro e a w hq
  cases e with
  | normal => obtain ⟨st, h1, h2⟩ := hq; exact ⟨st, h _ _ h1, h2⟩
  | exit id => obtain ⟨st, h1, h2⟩ := hq; exact ⟨st, h _ _ h1, h2⟩
  | ret => obtain ⟨st, h1, h2⟩ := hq; exact ⟨st, h _ _ h1, h2⟩
  | panic c => obtain ⟨st, d, v, ρ, h0, h1, h2⟩ := hq; exact ⟨st, d, v, ρ, h0, h _ _ h1, h2⟩
  | goto l => exact hq
  | outgrown => exact hq

theorem least (p : Nat → Prop) (h : ∃ n, p n) : ∃ n, p n ∧ ∀ k, p k → n ≤ k := by
  obtain ⟨n, hn⟩ := h
  induction n using Nat.strongRecOn with
  | _ n ih =>
    by_cases hk : ∃ k, k < n ∧ p k
    · obtain ⟨k, h1, h2⟩ := hk
      exact ih k h1 h2
    · exact ⟨n, hn, fun k hp => Nat.le_of_not_lt fun h => hk ⟨k, h, hp⟩⟩

section
variable {P : Program} {B : Base} {st : St} {Q : AX → St → Prop}

theorem H.mono {c : Code} {Q' : AX → St → Prop} (h : H P B c st Q) (hq : ∀ x st, Q x st → Q' x st) : H P B c st Q' := fun a w hs => wp_mono (h a w hs) (lift_mono hq)
theorem H.pre {c : Code} {st' : St} (h : H P B c st' Q) (hs : ∀ a w, Sat B st a w → Sat B st' a w) : H P B c st Q := fun a w h1 => h a w (hs a w h1)
theorem H.skip (h : Q .normal st) : H P B .skip st Q := fun _ _ hs => wp_skip ⟨st, h, hs⟩
theorem H.label {l : Nat} (h : Q .normal st) : H P B (.label l) st Q := fun _ _ hs => wp_label ⟨st, h, hs⟩
theorem H.exit {id : Nat} (h : Q (.exit id) st) : H P B (.exit id) st Q := fun _ _ hs => wp_exit ⟨st, h, hs⟩
theorem H.ret (h : Q .ret st) : H P B .ret st Q := fun _ _ hs => wp_ret ⟨st, h, hs⟩
def seqQ (P : Program) (B : Base) (y : Code) (Q : AX → St → Prop) : AX → St → Prop
  | .normal, st => H P B y st Q
  | x, st => Q x st
theorem H.seq {x y : Code} (h : H P B x st (seqQ P B y Q)) : H P B (.seq x y) st Q := by
  intro a w hs
  refine wp_seq (wp_mono (h a w hs) fun e a w hq => ?_)
  cases e with
  | normal => obtain ⟨st, h1, h2⟩ := hq; exact h1 a w h2
  | exit id => exact hq
  | ret => exact hq
  | panic c => exact hq
  | goto l => exact hq
  | outgrown => exact hq
theorem H.cond {c : Operand} {x y : Code} {t : Bool} (hc : evo st.σ c = .b t) (ht : t = true → H P B x st Q) (hf : t = false → H P B y st Q) : H P B (.cond c x y) st Q := by
  intro a w hs
  obtain ⟨ρ, s⟩ := hs
  have hr := rep_evo s c
  rw [hc] at hr
  simp only [rep] at hr
  exact wp_cond_split hr (fun h => ht h a w ⟨ρ, s⟩) (fun h => hf h a w ⟨ρ, s⟩)
def blockQ (id : Nat) (Q : AX → St → Prop) : AX → St → Prop
  | .exit i, st => match Nat.beq i id with | true => Q .normal st | false => Q (.exit i) st
  | x, st => Q x st
theorem H.block {id : Nat} {c : Code} (h : H P B c st (blockQ id Q)) : H P B (.block id c) st Q := by
  intro a w hs
  refine wp_block (wp_mono (h a w hs) fun e a w hq => ?_)
  cases e with
  | normal => exact hq
  | exit i =>
    obtain ⟨st, h1, h2⟩ := hq
    simp only [blockQ] at h1
    simp only [Exit.inBlock]
    by_cases e : i = id
    · subst e
      rw [if_pos rfl]
      simp only [Nat.beq_refl] at h1
      exact ⟨st, h1, h2⟩
    · rw [if_neg e]
      have : Nat.beq i id = false := by
        cases hb : Nat.beq i id with
        | false => rfl
        | true => exact absurd (Nat.eq_of_beq_eq_true hb) e
      rw [this] at h1
      exact ⟨st, h1, h2⟩
  | ret => exact hq
  | panic c => exact hq
  | goto l => exact hq
  | outgrown => exact hq
/-- A loop: a family of states, a measure. -/
def loopQ {X : Type} (B : Base) (S : X → St) (m : X → Nat) (x : X) (Q : AX → St → Prop) : AX → St → Prop
  | .normal, st => ∃ y, m y < m x ∧ ∀ a w, Sat B st a w → Sat B (S y) a w
  | e, st => Q e st
theorem H.loop {X : Type} {c : Code} (S : X → St) (m : X → Nat) (x0 : X) (h0 : ∀ a w, Sat B st a w → Sat B (S x0) a w)
    (round : ∀ x, H P B c (S x) (loopQ B S m x Q)) : H P B (.loop c) st Q := by
  intro a w hs
  have hle : ∀ a w, (∃ x, Sat B (S x) a w) → ∃ n, (∃ x, m x = n ∧ Sat B (S x) a w) ∧ ∀ k, (∃ x, m x = k ∧ Sat B (S x) a w) → n ≤ k := fun a w ⟨x, hx⟩ => least _ ⟨m x, x, rfl, hx⟩
  open Classical in
  refine wp_loop (fun a w => ∃ x, Sat B (S x) a w) (fun a w => if h : ∃ x, Sat B (S x) a w then (hle a w h).choose else 0) ⟨x0, h0 a w hs⟩ (fun a w hI => ?_)
  obtain ⟨⟨x, hxm, hx⟩, hmin⟩ := (hle a w hI).choose_spec
  refine wp_mono (round x a w hx) fun e a' w' hq => ?_
  cases e with
  | normal =>
    obtain ⟨st', ⟨y, hy, hsub⟩, h2⟩ := hq
    have hy2 := hsub a' w' h2
    have hI' : ∃ x, Sat B (S x) a' w' := ⟨y, hy2⟩
    refine ⟨hI', ?_⟩
    rw [dif_pos hI', dif_pos hI]
    have := (hle a' w' hI').choose_spec.2 (m y) ⟨y, rfl, hy2⟩
    omega
  | exit id => exact hq
  | ret => exact hq
  | panic c => exact hq
  | goto l => exact hq
  | outgrown => exact hq
end
end Go.Px
end

section
namespace Go.Px
open Go.RowKit

inductive Out where
  | go (st : St)
  | pan (st : St) (d : D)
def outQ (Q : AX → St → Prop) : Out → Prop
  | .go st => Q .normal st
  | .pan st d => Q (.pan d) st
def putS (N : Nat) (dst : Option Nat) (d : D) (σ : List (Nat × D)) : Option (List (Nat × D)) :=
  match dst with
  | none => some σ
  | some t => match Nat.blt t N with
    | true => some ((t, d) :: σ)
    | false => none
/-- Is the operation wanted? -/
def wantE (ops : Array Oper) (g : Option (Nat × Bool)) (σ : List (Nat × D)) : Option Bool :=
  match g with
  | none => some true
  | some (j, want) => match ops[j]? with
    | none => none
    | some o => match o.dst with
      | none => none
      | some t => match get σ t with
        | some (.b true) => some want
        | some (.b false) => some (!want)
        | some (.tup []) => some false
        | _ => none
def hintOf (hs : List (Nat × Hint)) (k : Nat) : Hint := match get hs k with | some h => h | none => .none
/-- A region, in the order of its text. -/
def evs (P : Program) (τ : List (Nat × TI)) (N : Nat) (ops : Array Oper) (hs : List (Nat × Hint)) : List Oper → Nat → St → List Prop → Option (Out × List Prop)
  | [], _, st, acc => some (.go st, acc)
  | o :: rest, k, st, acc => match wantE ops o.guard st.σ with
    | none => none
    | some false => match putS N o.dst (.tup []) st.σ with
      | none => none
      | some σ => evs P τ N ops hs rest (k + 1) ⟨σ, st.h, st.nx⟩ acc
    | some true => match hintOf hs k with
      | .res r => match o.op with
        | .call c => match c.callee with
          | .value f => match evo st.σ f with
            | .fn g caps => match evCall st.h (appD (mapE st.σ c.args.toList) caps) r with
              | none => none
              | some (h', ds', ps) => match r with
                | .ret d => match putS N o.dst d st.σ with
                  | none => none
                  | some σ => evs P τ N ops hs rest (k + 1) ⟨σ, h', st.nx⟩ (acc ++ (ps ++ [Pure P g ds' r]))
                | .pan d => some (.pan ⟨st.σ, h', st.nx⟩ d, acc ++ (ps ++ [Pure P g ds' r]))
            | _ => none
          | _ => none
        | .panic x => match evo st.σ x with
          | .ifc t d => some (.pan st (.ifc t d), acc)
          | _ => none
        | _ => none
      | hint => match fin hint (ev1 τ st.σ st.h st.nx hint o.op) with
        | none => none
        | some (d, h', nx', p) => match putS N o.dst d st.σ with
          | none => none
          | some σ => evs P τ N ops hs rest (k + 1) ⟨σ, h', nx'⟩ (acc ++ [p])
where appD : List D → List D → List D
  | [], ys => ys
  | x :: xs, ys => x :: appD xs ys

section
variable {P : Program} {τ : List (Nat × TI)} {B : Base} {st : St} {a : Act} {w : World} {ρ : Nat → RC}

theorem putS_sound (s : SatR B st a w ρ) {dst : Option Nat} {d : D} {v : Value} {σ : List (Nat × D)} (h : putS B.N dst d st.σ = some σ) (hd : rep (st.env B w ρ) d v) :
    SatR B ⟨σ, st.h, st.nx⟩ (a.put dst v) w ρ := by
  unfold putS at h
  split at h
  · cases h; exact s
  · rename_i t
    split at h
    · rename_i ht
      cases h
      exact s.put (by simpa [Nat.blt_eq] using ht) hd
    · cases h
theorem rep_undef (E : Env) : rep E (.tup []) undef := by
  simp only [rep, repVals]
  exact ⟨[], rfl, rfl⟩
theorem wantE_sound (s : SatR B st a w ρ) {ops : Array Oper} {o : Oper} {x : Bool} (h : wantE ops o.guard st.σ = some x) : Region.wanted o (yielded ops a.tmps) = x := by
  unfold wantE at h
  unfold Region.wanted
  split at h
  · rename_i hg; rw [hg]; simpa using h
  · rename_i j want hg
    rw [hg]
    split at h
    · cases h
    rename_i o' ho
    split at h
    · cases h
    rename_i t ht
    split at h
    · rename_i hd
      obtain ⟨v, h1, h2⟩ := s.tmps t _ hd
      simp only [rep] at h2
      subst h2
      have hy : yielded ops a.tmps j = some true := by simp [yielded, ho, ht, h1]
      have h := Option.some.inj h
      rw [← h]
      simp only [hy]
      cases want <;> rfl
    · rename_i hd
      obtain ⟨v, h1, h2⟩ := s.tmps t _ hd
      simp only [rep] at h2
      subst h2
      have hy : yielded ops a.tmps j = some false := by simp [yielded, ho, ht, h1]
      have h := Option.some.inj h
      rw [← h]
      simp only [hy]
      cases want <;> rfl
    · rename_i hd
      obtain ⟨v, h1, h2⟩ := s.tmps t _ hd
      simp only [rep, repVals] at h2
      obtain ⟨vs, rfl, rfl⟩ := h2
      have hy : yielded ops a.tmps j = none := by simp [yielded, ho, ht, h1]
      have h := Option.some.inj h
      rw [← h]
      simp only [hy]
      cases want <;> rfl
    · cases h
theorem appD_eq (xs ys : List D) : evs.appD xs ys = xs ++ ys := by
  induction xs with
  | nil => rfl
  | cons x xs ih => simp [evs.appD, ih]

theorem evs_acc {N : Nat} {ops : Array Oper} {hs : List (Nat × Hint)} : ∀ {l : List Oper} {k : Nat} {st : St} {acc : List Prop} {out : Out} {ps : List Prop},
    evs P τ N ops hs l k st acc = some (out, ps) → AllP ps → AllP acc
  | [], k, st, acc, out, ps, h, hp => by
    simp only [evs, Option.some.injEq, Prod.mk.injEq] at h
    obtain ⟨_, rfl⟩ := h
    exact hp
  | o :: rest, k, st, acc, out, ps, h, hp => by
    simp only [evs] at h
    split at h
    · cases h
    · split at h
      · cases h
      · exact evs_acc h hp
    · split at h
      · split at h
        · split at h
          · split at h
            · split at h
              · cases h
              · split at h
                · split at h
                  · cases h
                  · exact (AllP_append.1 (evs_acc h hp)).1
                · simp only [Option.some.injEq, Prod.mk.injEq] at h
                  obtain ⟨_, rfl⟩ := h
                  exact (AllP_append.1 hp).1
            · cases h
          · cases h
        · split at h
          · simp only [Option.some.injEq, Prod.mk.injEq] at h
            obtain ⟨_, rfl⟩ := h
            exact hp
          · cases h
        · cases h
      · split at h
        · cases h
        · split at h
          · cases h
          · exact (AllP_append.1 (evs_acc h hp)).1

/-- One operation, carried out, whatever follows. -/
theorem op_sound {K : Act → World → Prop} {Q : Exit → Act → World → Prop} {o : Oper} {d : D} {h' : List (Nat × Root)} {nx' : Nat} {σ : List (Nat × D)} (hnx : st.nx ≤ nx')
    (g : Good P B st a w o d h') (hput : putS B.N o.dst d st.σ = some σ) (hK : ∀ a' w', Sat B ⟨σ, h', nx'⟩ a' w' → K a' w') : o.wp P a w K Q := by
  obtain ⟨v, w', ρ', hrun, hs, hd⟩ := g
  have hs0 := hs
  have hd0 := hd
  replace hs := (hs0.bump hnx).1
  replace hd := rep_mono (hs0.bump hnx).2 _ _ hd0
  have hput' : putS B.N o.dst d (⟨st.σ, h', nx'⟩ : St).σ = some σ := hput
  unfold Oper.wp
  rcases hrun with hrun | ⟨hrun, rfl⟩
  · rw [hrun]
    exact hK _ _ ⟨ρ', putS_sound hs hput' hd⟩
  · rw [hrun]
    exact hK _ _ ⟨ρ', putS_sound hs hput' hd⟩

theorem run_call {o : Oper} {c : Call} (ho : o.op = .call c) {f : Operand} (hf : c.callee = .value f) {g : FuncId} {caps : List Value} (he : a.eval f = .func (.func g) #[] caps.toArray) (hok : FnOK P g) :
    (execOp a.eval o).run P w = .ok (.enter g ((c.args.toList.map a.eval) ++ caps).toArray) w := by
  obtain ⟨fn, h1, h2, h3⟩ := hok
  obtain ⟨callee, args, argTypes⟩ := c
  simp only at hf
  subst hf
  have eargs : args.map a.eval = (args.toList.map a.eval).toArray := by rw [← Array.toList_map, Array.toArray_toList]
  simp only [execOp, ho, resolve, he, Deferred.ofValue, Sem.run_bind, Sem.run_pure, Result.andThen_ok, invoke, callFunc, run_program, h1]
  have e2 : (fn.name == "runtime.NumGoroutine") = false := h2
  simp only [e2, h3, Bool.false_eq_true, if_false, Sem.run_pure, eargs]
  simp

theorem evs_sound (hv : Valid P τ) {ops : Array Oper} {hs : List (Nat × Hint)} {Q : AX → St → Prop} : ∀ {l : List Oper} {k : Nat} {st : St} {acc : List Prop} {out : Out} {ps : List Prop},
    evs P τ B.N ops hs l k st acc = some (out, ps) → AllP ps → outQ Q out → ∀ a w, Sat B st a w → wpList P ops (lift B Q) l a w
  | [], k, st, acc, out, ps, h, hp, hq, a, w, s => by
    simp only [evs, Option.some.injEq, Prod.mk.injEq] at h
    obtain ⟨rfl, rfl⟩ := h
    exact ⟨st, hq, s⟩
  | o :: rest, k, st, acc, out, ps, h, hp, hq, a, w, s => by
    obtain ⟨ρ, s⟩ := s
    unfold wpList
    simp only [evs] at h
    split at h
    · cases h
    · rename_i hw
      rw [wantE_sound s hw]
      split at h
      · cases h
      · rename_i σ hput
        exact evs_sound hv h hp hq _ _ ⟨ρ, putS_sound s hput (rep_undef _)⟩
    · rename_i hw
      rw [wantE_sound s hw, if_pos rfl]
      left
      split at h
      · rename_i r _
        split at h
        · rename_i c ho
          split at h
          · rename_i f hf
            split at h
            · rename_i g caps hg
              have hfr := rep_evo s f
              rw [hg] at hfr
              simp only [rep] at hfr
              obtain ⟨cvs, hfe, hcv⟩ := hfr
              have hargs := repVals_append (mapE_rep s c.args.toList) hcv
              rw [appD_eq] at h
              split at h
              · cases h
              · rename_i h' ds' qs hcall
                have fin2 : ∀ (hp2 : AllP (acc ++ (qs ++ [Pure P g ds' r]))), AllP qs ∧ Pure P g ds' r := fun hp2 => by
                  have := (AllP_append.1 (AllP_append.1 hp2).2)
                  exact ⟨this.1, this.2⟩
                split at h
                · rename_i d
                  split at h
                  · cases h
                  · rename_i σ hput
                    obtain ⟨hqs, hpure⟩ := fin2 (evs_acc h hp)
                    obtain ⟨_, hcalls⟩ := evCall_sound s hargs hcall hqs hpure
                    unfold Oper.wp
                    rw [run_call ho hf hfe hpure.1, Oper.upon_enter]
                    refine hcalls.mono fun e w' ⟨hs', hpost⟩ => ?_
                    obtain ⟨v, rfl, hd⟩ := hpost
                    exact evs_sound hv h hp hq _ _ ⟨ρ, putS_sound hs' (dst := o.dst) hput hd⟩
                · rename_i d
                  simp only [Option.some.injEq, Prod.mk.injEq] at h
                  obtain ⟨rfl, rfl⟩ := h
                  obtain ⟨hqs, hpure⟩ := fin2 hp
                  obtain ⟨_, hcalls⟩ := evCall_sound s hargs hcall hqs hpure
                  unfold Oper.wp
                  rw [run_call ho hf hfe hpure.1, Oper.upon_enter]
                  refine hcalls.mono fun e w' ⟨hs', hpost⟩ => ?_
                  obtain ⟨v, rfl, hd⟩ := hpost
                  exact ⟨_, _, v, ρ, rfl, hq, hs', hd⟩
            · cases h
          · cases h
        · rename_i x ho
          have hx := rep_evo s x
          split at h
          · rename_i t d hd
            simp only [Option.some.injEq, Prod.mk.injEq] at h
            obtain ⟨rfl, rfl⟩ := h
            rw [hd] at hx
            have hx' := hx
            simp only [rep] at hx
            obtain ⟨u, hxe, _⟩ := hx
            unfold Oper.wp
            have : (execOp a.eval o).run P w = .halt (.panic (.iface t u)) w := by
              simp [execOp, ho, Instr.panic, hxe]
            rw [this]
            rw [hxe] at hx'
            exact ⟨st, .ifc t d, .iface t u, ρ, rfl, hq, s, hx'⟩
          · cases h
        · cases h
      · split at h
        · cases h
        · rename_i d h' nx' p hfin
          split at h
          · cases h
          · rename_i σ hput
            have hp1 : p := by
              have := (AllP_append.1 (evs_acc h hp)).2
              exact this
            obtain ⟨d0, q, he, hq1, hwk⟩ := fin_sound hfin hp1
            exact op_sound (fin_nx (fun x hx => ev1_nx hx) hfin) ((ev1_sound hv s (Nat.le_refl _) he hq1).wk hwk) hput (fun a' w' h1 => evs_sound hv h hp hq a' w' h1)

theorem H.region (hv : Valid P τ) {Q : AX → St → Prop} {id : Nat} {ops : Array Oper} (hs : List (Nat × Hint)) {out : Out} {ps : List Prop}
    (h : evs P τ B.N ops hs ops.toList 0 st [] = some (out, ps)) (hp : AllP ps) (hq : outQ Q out) : H P B (.region id ops false) st Q :=
  fun a w s => wp_region_list (evs_sound hv h hp hq a w s)
end
end Go.Px
end

section
namespace Go.Px
open Go.RowKit

/-! ### What a function hands back -/
def evRV (τ : List (Nat × TI)) (st : St) : ResultVar → Option (D × Prop)
  | .tmp t => some (evo st.σ (.tmp t), True)
  | .cell x t => evLoad τ st.σ st.h .none t (.tmp x)
def evRVs (τ : List (Nat × TI)) (st : St) : List ResultVar → Option (List D × List Prop)
  | [] => some ([], [])
  | r :: rs => match evRV τ st r with
    | none => none
    | some (d, p) => match evRVs τ st rs with
      | none => none
      | some (ds, ps) => some (d :: ds, p :: ps)
def tupD : List D → D
  | [d] => d
  | ds => .tup ds
def evRet (τ : List (Nat × TI)) (st : St) (rs : List ResultVar) : Option (D × List Prop) :=
  match evRVs τ st rs with
  | none => none
  | some (ds, ps) => match frz st.h (refsL st.h 30 ds) with
    | none => none
    | some h' => match resL true h' 30 ds with
      | none => none
      | some (ds', qs) => some (tupD ds', appP ps qs)
where appP : List Prop → List Prop → List Prop
  | [], ys => ys
  | x :: xs, ys => x :: appP xs ys
def RetOK (τ : List (Nat × TI)) (rs : List ResultVar) (d : D) (st : St) : Prop := ∃ d' ps, evRet τ st rs = some (d', ps) ∧ AllP ps ∧ Wk d' d
def RetQ (τ : List (Nat × TI)) (rs : List ResultVar) (r : RO) : AX → St → Prop
  | .ret, st => match r with | .ret d => RetOK τ rs d st | .pan _ => False
  | .normal, st => match r with | .ret d => RetOK τ rs d st | .pan _ => False
  | .pan d', _ => match r with | .ret _ => False | .pan d => d' = d ∧ flatD d = true
  | .exit _, _ => False

section
variable {P : Program} {τ : List (Nat × TI)} {B : Base} {st : St} {a : Act} {w : World} {ρ : Nat → RC}
theorem appP_eq (xs ys : List Prop) : evRet.appP xs ys = xs ++ ys := by
  induction xs with
  | nil => rfl
  | cons x xs ih => simp [evRet.appP, ih]
theorem evRVs_sound (hv : Valid P τ) (s : SatR B st a w ρ) : ∀ {rs : List ResultVar} {ds : List D} {ps : List Prop}, evRVs τ st rs = some (ds, ps) → AllP ps →
    ∃ vs : List Value, (rs.mapM fun | .tmp t => pure (a.tmps.getD t undef) | .cell x t => do loadVar t (← asAddr (a.tmps.getD x undef)) : Sem (List Value)).run P w = .ok vs w ∧ repVals (st.env B w ρ) ds vs
  | [], ds, ps, h, _ => by
    simp only [evRVs, Option.some.injEq, Prod.mk.injEq] at h
    obtain ⟨rfl, rfl⟩ := h
    exact ⟨[], by simp, by simp [repVals]⟩
  | r :: rs, ds, ps, h, hp => by
    simp only [evRVs] at h
    split at h
    · cases h
    rename_i d p hr
    split at h
    · cases h
    rename_i ds' ps' hrs
    simp only [Option.some.injEq, Prod.mk.injEq] at h
    obtain ⟨rfl, rfl⟩ := h
    rw [AllP_cons] at hp
    obtain ⟨vs, q1, q2⟩ := evRVs_sound hv s hrs hp.2
    cases r with
    | tmp t =>
      simp only [evRV, Option.some.injEq, Prod.mk.injEq] at hr
      obtain ⟨rfl, rfl⟩ := hr
      refine ⟨a.tmps.getD t undef :: vs, ?_, ?_⟩
      · rw [List.mapM_cons]
        simp only [Sem.run_bind, Sem.run_pure, Result.andThen_ok, q1]
      · simp only [repVals]
        exact ⟨_, _, rfl, rep_evo s (.tmp t), q2⟩
    | cell x t =>
      simp only [evRV] at hr
      obtain ⟨v, g1, g2⟩ := evLoad_sound hv s hr hp.1
      refine ⟨v :: vs, ?_, ?_⟩
      · rw [List.mapM_cons]
        have hx : a.eval (.tmp x) = a.tmps.getD x undef := rfl
        rw [hx] at g1
        have : ∃ ad, a.tmps.getD x undef = .pointer (some ad) := by
          generalize a.tmps.getD x undef = u at g1
          cases u <;> simp [Instr.loadAt, Instr.sureAddr] at g1
          rename_i ad
          cases ad with
          | none => simp at g1
          | some ad => exact ⟨ad, rfl⟩
        obtain ⟨ad, hu⟩ := this
        rw [hu] at g1
        have g1' : (loadVar t ad).run P w = .ok v w := by simpa [Instr.loadAt, Instr.sureAddr] using g1
        simp only [Sem.run_bind, hu]
        have ha : (asAddr (.pointer (some ad))).run P w = .ok ad w := rfl
        simp only [ha, Sem.run_pure, Result.andThen_ok, g1']
        rw [q1]
        rfl
      · simp only [repVals]
        exact ⟨_, _, rfl, g2, q2⟩

theorem ret_sound (hv : Valid P τ) (s : SatR B st a w ρ) {fn : Func} {d : D} (h : RetOK τ fn.results.toList d st) :
    ∃ v, (results fn a.tmps).run P w = .ok v w ∧ rep (penv w fun b o => B.ok b o ∨ B.w.heap.size ≤ b) d v := by
  obtain ⟨d', ps, he, hp, hw⟩ := h
  unfold evRet at he
  split at he
  · cases he
  rename_i ds qs hds
  split at he
  · cases he
  rename_i h' hfrz
  split at he
  · cases he
  rename_i ds' rs hres
  simp only [Option.some.injEq, Prod.mk.injEq] at he
  obtain ⟨rfl, rfl⟩ := he
  rw [appP_eq, AllP_append] at hp
  obtain ⟨vs, q1, q2⟩ := evRVs_sound hv s hds hp.1
  obtain ⟨s1, le1⟩ := SatR.frz _ s hfrz
  have h1 := resL_sound s1 30 _ _ _ _ hres hp.2 (repVals_mono le1 _ _ q2)
  have h2 : repVals (penv w fun b o => B.ok b o ∨ B.w.heap.size ≤ b) ds' vs := by
    refine repVals_mono (E := lend (St.env B ⟨st.σ, h', st.nx⟩ w ρ) true) (E' := penv w fun b o => B.ok b o ∨ B.w.heap.size ≤ b) (Env.Le.mk (fun b o u g1 g2 => ⟨g1, g2.1⟩) (fun r hr => hr.elim) (fun r hr => hr.elim)) _ _ h1
  have hm : (fn.results.mapM fun | .tmp t => pure (a.tmps.getD t undef) | .cell x t => do loadVar t (← asAddr (a.tmps.getD x undef)) : Sem (Array Value)).run P w = .ok vs.toArray w := by
    rw [Array.mapM_eq_mapM_toList, Sem.run_map]
    have : (fn.results.toList.mapM fun | .tmp t => pure (a.tmps.getD t undef) | .cell x t => do loadVar t (← asAddr (a.tmps.getD x undef)) : Sem (List Value)).run P w = .ok vs w := q1
    rw [this]
    rfl
  have hvd : ∃ v, (results fn a.tmps).run P w = .ok v w ∧ rep (penv w fun b o => B.ok b o ∨ B.w.heap.size ≤ b) (tupD ds') v := by
    have e : (results fn a.tmps).run P w = (Result.ok vs.toArray w).andThen (fun (vs : Array Value) w' => Sem.run P (pure (if h : vs.size = 1 then vs[0] else .tuple vs)) w') := by
      unfold results
      rw [Sem.run_bind]
      exact congrArg (fun r => Result.andThen r _) hm
    rw [e]
    simp only [Result.andThen_ok, Sem.run_pure]
    refine ⟨_, rfl, ?_⟩
    have hl := repVals_length h2
    match ds', vs, h2, hl with
    | [], [], h2, _ =>
      rw [dif_neg (by simp)]
      simp only [tupD, rep]
      exact ⟨_, rfl, h2⟩
    | [d1], [v1], h2, _ =>
      simp only [repVals] at h2
      obtain ⟨_, _, e, h3, h4⟩ := h2
      cases e
      simpa [tupD] using h3
    | d1 :: d2 :: ds, v1 :: v2 :: vs, h2, _ =>
      rw [dif_neg (by simp)]
      simp only [tupD, rep]
      exact ⟨_, rfl, h2⟩
  obtain ⟨v, g1, g2⟩ := hvd
  exact ⟨v, g1, hw.rep v g2⟩

def enumD : Nat → List D → List (Nat × D)
  | _, [] => []
  | k, d :: ds => (k, d) :: enumD (k + 1) ds
theorem get_enumD : ∀ {ds : List D} {k t : Nat} {d : D}, get (enumD k ds) t = some d → k ≤ t ∧ ds[t - k]? = some d
  | [], k, t, d, h => by simp [enumD, get] at h
  | e :: ds, k, t, d, h => by
    simp only [enumD] at h
    rw [get_cons] at h
    split at h
    · rename_i hk
      subst hk
      cases h
      simp
    · have := get_enumD h
      refine ⟨by omega, ?_⟩
      rw [show t - k = (t - (k + 1)) + 1 by omega]
      simpa using this.2

/-- A function's contract, out of its body. -/
theorem Pure.of_body (hv : Valid P τ) {f : FuncId} {fn : Func} {c : Code} {ds : List D} {r : RO} (hf : P.funcs[f]? = some fn) (hb : fn.body = some c)
    (hname : (fn.name == "runtime.NumGoroutine") = false) (hn : ds.length ≤ fn.ntmps)
    (h : ∀ B : Base, B.N = fn.ntmps → (∀ b, ¬ B.giv b) → (∀ r, ¬ B.E0.dom r) → B.dl = [] → H P B c ⟨enumD 0 ds, [], 0⟩ (RetQ τ fn.results.toList r)) : Pure P f ds r := by
  refine ⟨⟨fn, hf, hname, by rw [hb]; rfl⟩, fun w ok vs hr => ?_⟩
  refine calls_of_wp hf hb ?_
  have hl := repVals_length hr
  let B : Base := ⟨w, ok, fun _ => False, fn.ntmps, penv w ok, []⟩
  have hle : (penv w ok).Le (St.env B ⟨enumD 0 ds, [], 0⟩ w fun _ => default) := ⟨fun b o v h1 h2 => ⟨h1, .inl h2, fun r R h => by simp [get] at h⟩, fun r hr => hr.elim, fun r hr => hr.elim⟩
  have s0 : SatR B ⟨enumD 0 ds, [], 0⟩ { tmps := vs.toArray ++ Array.replicate (fn.ntmps - vs.toArray.size) undef, defers := [] } w (fun _ => default) := by
    refine ⟨fun t d h => ?_, fun r R h => by simp [get] at h, fun r r' R R' b h => by simp [get] at h, ?_, rfl, ⟨rfl, rfl, rfl, Nat.le_refl _, fun _ _ _ => rfl⟩, fun r R b h => by simp [get] at h, hle⟩
    · obtain ⟨_, hd⟩ := get_enumD h
      obtain ⟨v, h1, h2⟩ := (repVals_iff.1 hr).2 _ _ hd
      refine ⟨v, ?_, rep_mono hle d v h2⟩
      have hlt : t < vs.length := by
        have := (List.getElem?_eq_some_iff.1 h1).1
        simpa using this
      rw [Array.getElem?_append_left (by simpa using hlt)]
      simpa using h1
    · simp [hl]
      show ds.length + (fn.ntmps - ds.length) = fn.ntmps
      omega
  refine wp_mono (h B rfl (fun _ h => h) (fun _ h => h) rfl _ _ ⟨_, s0⟩) fun e a' w' hq => ?_
  have done : ∀ st', Sat B st' a' w' → ∀ d, r = .ret d → RetOK τ fn.results.toList d st' → a'.defers = [] ∧ ∃ v, (results fn a'.tmps).run P w' = .ok v w' ∧ roPost w ok r (.returned v) w' := by
    intro st' ⟨ρ', s'⟩ d hd hro
    obtain ⟨v, g1, g2⟩ := ret_sound hv s' hro
    have he := s'.ext
    refine ⟨s'.defs, v, g1, ⟨he.os, he.tape, he.output, he.size, fun k hk => he.block k hk (fun h => h)⟩, ?_⟩
    subst hd
    exact ⟨v, rfl, g2⟩
  cases e with
  | normal =>
    obtain ⟨st', h1, h2⟩ := hq
    cases hr2 : r with
    | ret d => rw [hr2] at h1; exact hr2 ▸ done st' h2 d hr2 h1
    | pan d => rw [hr2] at h1; exact h1.elim
  | ret =>
    obtain ⟨st', h1, h2⟩ := hq
    cases hr2 : r with
    | ret d => rw [hr2] at h1; exact hr2 ▸ done st' h2 d hr2 h1
    | pan d => rw [hr2] at h1; exact h1.elim
  | exit id => obtain ⟨st', h1, _⟩ := hq; exact h1.elim
  | goto l => exact hq.elim
  | outgrown => exact hq.elim
  | panic chain =>
    obtain ⟨st', d', v, ρ', rfl, h1, s', hd⟩ := hq
    have he := s'.ext
    cases hr2 : r with
    | ret d => rw [hr2] at h1; exact h1.elim
    | pan d =>
      rw [hr2] at h1
      obtain ⟨rfl, hflat⟩ := h1
      exact ⟨s'.defs, ⟨he.os, he.tape, he.output, he.size, fun k hk => he.block k hk (fun h => h)⟩, v, rfl, flat_any _ _ hflat hd⟩
end
end Go.Px
end

section
namespace Go.Px
open Go.RowKit

def andL : List Prop → Prop
  | [] => True
  | [p] => p
  | p :: ps => p ∧ andL ps
theorem andL_all : ∀ {l : List Prop}, andL l → AllP l
  | [], _ => by simp [AllP]
  | [p], h => by
    rw [AllP_cons]
    exact ⟨h, by simp [AllP]⟩
  | p :: q :: ps, h => by
    rw [AllP_cons]
    exact ⟨h.1, andL_all h.2⟩

/-! ### Values and heaps in full -/
def withD {α : Type} (d : D) (k : D → α) : α :=
  match d with
  | .junk => k .junk
  | .b x => k (.b x)
  | .i t n => k (.i t n)
  | .s x => k (.s x)
  | .nils => k .nils
  | .sl sz n cs => k (.sl sz n cs)
  | .ag cs => k (.ag cs)
  | .tup ds => k (.tup ds)
  | .fn f cap => k (.fn f cap)
  | .nilf => k .nilf
  | .pt cs => k (.pt cs)
  | .nilp => k .nilp
  | .ifc t d => k (.ifc t d)
  | .nili => k .nili
  | .os r off n => k (.os r off n)
  | .oa r off => k (.oa r off)
theorem withD_eq {α : Type} (d : D) (k : D → α) : withD d k = k d := by cases d <;> rfl
def withL {α : Type} : List D → (List D → α) → α
  | [], k => k []
  | d :: l, k => withD d fun d => withL l fun l => k (d :: l)
theorem withL_eq {α : Type} : ∀ (l : List D) (k : List D → α), withL l k = k l
  | [], _ => rfl
  | d :: l, k => by simp only [withL, withD_eq]; rw [withL_eq l]
def withR {α : Type} (R : Root) (k : Root → α) : α :=
  match R with
  | ⟨E, sz, cs, fz, own, giv, lit⟩ => match own, giv, lit with
    | true, true, true => withL cs fun cs => k ⟨E, sz, cs, fz, true, true, true⟩
    | true, false, true => withL cs fun cs => k ⟨E, sz, cs, fz, true, false, true⟩
    | false, true, true => withL cs fun cs => k ⟨E, sz, cs, fz, false, true, true⟩
    | false, false, true => withL cs fun cs => k ⟨E, sz, cs, fz, false, false, true⟩
    | true, true, false => k ⟨E, sz, cs, fz, true, true, false⟩
    | true, false, false => k ⟨E, sz, cs, fz, true, false, false⟩
    | false, true, false => k ⟨E, sz, cs, fz, false, true, false⟩
    | false, false, false => k ⟨E, sz, cs, fz, false, false, false⟩
theorem withR_eq {α : Type} (R : Root) (k : Root → α) : withR R k = k R := by
  obtain ⟨E, sz, cs, fz, own, giv, lit⟩ := R
  cases own <;> cases giv <;> cases lit <;> simp only [withR, withL_eq]
def memN (r : Nat) : List Nat → Bool
  | [] => false
  | q :: l => match Nat.beq q r with | true => true | false => memN r l
def withH {α : Type} (seen : List Nat) : List (Nat × Root) → (List (Nat × Root) → α) → α
  | [], k => k []
  | (r, R) :: l, k => match memN r seen with
    | true => withH seen l k
    | false => withR R fun R => withH (r :: seen) l fun l => k ((r, R) :: l)
def ddp (seen : List Nat) : List (Nat × Root) → List (Nat × Root)
  | [] => []
  | (r, R) :: l => match memN r seen with
    | true => ddp seen l
    | false => (r, R) :: ddp (r :: seen) l
theorem withH_eq {α : Type} : ∀ (l : List (Nat × Root)) (seen : List Nat) (k : List (Nat × Root) → α), withH seen l k = k (ddp seen l)
  | [], _, _ => rfl
  | (r, R) :: l, seen, k => by
    simp only [withH, ddp]
    split
    · exact withH_eq l seen k
    · rw [withR_eq, withH_eq l]
theorem memN_spec {r : Nat} : ∀ {l : List Nat}, memN r l = true ↔ r ∈ l
  | [] => by simp [memN]
  | q :: l => by
    simp only [memN, List.mem_cons]
    split
    · rename_i h; simp [Nat.eq_of_beq_eq_true h]
    · rename_i h
      rw [memN_spec]
      have : r ≠ q := fun e => by rw [e, Nat.beq_refl] at h; cases h
      simp [this]
theorem ddp_get : ∀ (l : List (Nat × Root)) (seen : List Nat) (r : Nat), r ∉ seen → get (ddp seen l) r = get l r
  | [], _, _, _ => rfl
  | (q, R) :: l, seen, r, h => by
    simp only [ddp]
    split
    · rename_i hm
      rw [get_cons, if_neg]
      · exact ddp_get l seen r h
      · rintro rfl; exact h (memN_spec.1 hm)
    · rw [get_cons, get_cons]
      split
      · rfl
      · rename_i ne
        exact ddp_get l (q :: seen) r (by simp [h, Ne.symm ne])

/-- A number that no root has. -/
def withId {α : Type} : Nat → List (Nat × Root) → Nat → (Nat → Option α) → Option α
  | 0, _, _, _ => none
  | f + 1, h, ib, k => match get h ib with
    | none => k ib
    | some _ => withId f h (ib + 1) k
theorem withId_some {α : Type} : ∀ {f : Nat} {h : List (Nat × Root)} {ib : Nat} {k : Nat → Option α} {x : α}, withId f h ib k = some x → ∃ id, ib ≤ id ∧ k id = some x
  | 0, h, ib, k, x, e => by simp [withId] at e
  | f + 1, h, ib, k, x, e => by
    simp only [withId] at e
    split at e
    · exact ⟨ib, Nat.le_refl _, e⟩
    · obtain ⟨id, h1, h2⟩ := withId_some e
      exact ⟨id, by omega, h2⟩
/-- Operations that leave the heap. -/
def rdr (o : Op) : Bool := match o with
  | .alloc _ | .box .. | .store .. | .makeSlice .. => false
  | .call c => match c.callee with
    | .builtin .len | .builtin .max | .builtin .min => true
    | _ => false
  | _ => true
/-- Functions that are walked at the call. -/
abbrev IC := FuncId → Hint → List D → List (Nat × Root) → Nat → Nat → Option (D × List (Nat × Root) × List Prop)
/-- One operation, a call or not, at a heap. -/
def evg (P : Program) (τ : List (Nat × TI)) (ic : IC) (σ : List (Nat × D)) (h : List (Nat × Root)) (nx ib : Nat) (hint : Hint) (o : Op) : Option (D × List (Nat × Root) × List Prop) :=
  match hint with
  | .res r => match o with
    | .call c => match c.callee with
      | .value f => match evo σ f with
        | .fn g caps => match evCall h (evs.appD (mapE σ c.args.toList) caps) r with
          | none => none
          | some (h', ds', ps) => match r with
            | .ret d => some (d, h', ps ++ [Pure P g ds' r])
            | .pan _ => none
        | _ => none
      | _ => none
    | _ => none
  | .inl fn fu hs cs dr => match o with
    | .call c => match c.callee with
      | .value f => match evo σ f with
        | .fn g caps => ic g (.inl fn fu hs cs dr) (evs.appD (mapE σ c.args.toList) caps) h nx ib
        | _ => none
      | _ => none
    | _ => none
  | .mut dr hl g gn => match o with
    | .call c => match c.callee with
      | .value f => match evo σ f with
        | .fn k caps => ic k (.mut dr hl g gn) (evs.appD (mapE σ c.args.toList) caps) h nx ib
        | _ => none
      | _ => none
    | _ => none
  | hint => match rdr o with
    | true => match fin hint (ev1 τ σ h ib hint o) with
      | none => none
      | some (d, h', _, p) => some (d, h', [p])
    | false => withId 1000 h ib fun id => match fin hint (ev1 τ σ h id hint o) with
      | none => none
      | some (d, h', _, p) => some (d, h', [p])
def ICok (P : Program) (ic : IC) : Prop := ∀ (B : Base) (st : St) (a : Act) (w : World) (ρ : Nat → RC) (_ : SatR B st a w ρ) (ib : Nat) (_ : st.nx ≤ ib) (f : FuncId) (hint : Hint) (ds : List D) (d : D) (h' : List (Nat × Root)) (ps : List Prop) (vs : List Value),
  ic f hint ds st.h st.nx ib = some (d, h', ps) → AllP ps → repVals (st.env B w ρ) ds vs →
  FnOK P f ∧ Calls P f vs.toArray w fun e w' => ∃ v ρ', e = .returned v ∧ SatR B ⟨st.σ, h', st.nx⟩ a w' ρ' ∧ rep (St.env B ⟨st.σ, h', st.nx⟩ w' ρ') d v

section
variable {P : Program} {τ : List (Nat × TI)} {B : Base} {st : St} {a : Act} {w : World} {ρ : Nat → RC}

theorem evg_sound {ic : IC} (hv : Valid P τ) (hic : ICok P ic) {K : Act → World → Prop} {Q : Exit → Act → World → Prop} (s : SatR B st a w ρ) {ib : Nat} (hid : st.nx ≤ ib) {hint : Hint} {o : Oper} {d : D} {h' : List (Nat × Root)} {ps : List Prop}
    {σ : List (Nat × D)} (h : evg P τ ic st.σ st.h st.nx ib hint o.op = some (d, h', ps)) (hp : AllP ps) (hput : putS B.N o.dst d st.σ = some σ)
    (hK : ∀ a' w', Sat B ⟨σ, h', st.nx⟩ a' w' → K a' w') : o.wp P a w K Q := by
  unfold evg at h
  split at h
  · rename_i r
    split at h
    · rename_i c ho
      split at h
      · rename_i f hf
        split at h
        · rename_i g caps hg
          have hfr := rep_evo s f
          rw [hg] at hfr
          simp only [rep] at hfr
          obtain ⟨cvs, hfe, hcv⟩ := hfr
          have hargs := repVals_append (mapE_rep s c.args.toList) hcv
          rw [appD_eq] at h
          split at h
          · cases h
          · rename_i h1 ds' qs hcall
            split at h
            · rename_i d1
              simp only [Option.some.injEq, Prod.mk.injEq] at h
              obtain ⟨rfl, rfl, rfl⟩ := h
              rw [AllP_append] at hp
              obtain ⟨hqs, hpure⟩ := hp
              have hpure : Pure P g ds' (.ret d1) := hpure
              obtain ⟨_, hcalls⟩ := evCall_sound s hargs hcall hqs hpure
              unfold Oper.wp
              rw [run_call ho hf hfe hpure.1, Oper.upon_enter]
              refine hcalls.mono fun e w' ⟨hs', hpost⟩ => ?_
              obtain ⟨v, rfl, hd⟩ := hpost
              exact hK _ _ ⟨ρ, putS_sound hs' (dst := o.dst) hput hd⟩
            · cases h
        · cases h
      · cases h
    · cases h
  · split at h
    · rename_i c ho
      split at h
      · rename_i f hf
        split at h
        · rename_i g caps hg
          have hfr := rep_evo s f
          rw [hg] at hfr
          simp only [rep] at hfr
          obtain ⟨cvs, hfe, hcv⟩ := hfr
          have hargs := repVals_append (mapE_rep s c.args.toList) hcv
          rw [appD_eq] at h
          obtain ⟨hfn, hcalls⟩ := hic B st a w ρ s ib hid _ _ _ _ _ _ _ h hp hargs
          unfold Oper.wp
          rw [run_call ho hf hfe hfn, Oper.upon_enter]
          refine hcalls.mono fun e w' hpost => ?_
          obtain ⟨v, ρ', rfl, hs', hd⟩ := hpost
          exact hK _ _ ⟨ρ', putS_sound hs' (dst := o.dst) hput hd⟩
        · cases h
      · cases h
    · cases h
  · split at h
    · rename_i c ho
      split at h
      · rename_i f hf
        split at h
        · rename_i g caps hg
          have hfr := rep_evo s f
          rw [hg] at hfr
          simp only [rep] at hfr
          obtain ⟨cvs, hfe, hcv⟩ := hfr
          have hargs := repVals_append (mapE_rep s c.args.toList) hcv
          rw [appD_eq] at h
          obtain ⟨hfn, hcalls⟩ := hic B st a w ρ s ib hid _ _ _ _ _ _ _ h hp hargs
          unfold Oper.wp
          rw [run_call ho hf hfe hfn, Oper.upon_enter]
          refine hcalls.mono fun e w' hpost => ?_
          obtain ⟨v, ρ', rfl, hs', hd⟩ := hpost
          exact hK _ _ ⟨ρ', putS_sound hs' (dst := o.dst) hput hd⟩
        · cases h
      · cases h
    · cases h
  · have one : ∀ (id : Nat), ib ≤ id → (match fin hint (ev1 τ st.σ st.h id hint o.op) with | none => none | some (d, h', _, p) => some (d, h', [p])) = some (d, h', ps) → o.wp P a w K Q := by
      intro id hle h
      split at h
      · cases h
      · rename_i d0 h0 nx' p hfin
        simp only [Option.some.injEq, Prod.mk.injEq] at h
        obtain ⟨rfl, rfl, rfl⟩ := h
        have hp1 : p := hp
        obtain ⟨d0, q, he, hq1, hwk⟩ := fin_sound hfin hp1
        exact op_sound (Nat.le_refl _) ((ev1_sound hv s (Nat.le_trans hid hle) he hq1).wk hwk) hput (fun a' w' h1 => hK a' w' h1)
    split at h
    · exact one ib (Nat.le_refl _) h
    · obtain ⟨id, h1, h2⟩ := withId_some h
      exact one id h1 h2

theorem SatR.sigma (s : SatR B st a w ρ) {σ : List (Nat × D)} (h : ∀ t d, get σ t = some d → get st.σ t = some d) : SatR B ⟨σ, st.h, st.nx⟩ a w ρ :=
  ⟨fun t d hd => s.tmps t d (h t d hd), s.roots, s.inj, s.size, s.defs, s.ext, s.fresh, s.le⟩
theorem SatR.congr (s : SatR B st a w ρ) {σ : List (Nat × D)} {h' : List (Nat × Root)} (hσ : ∀ t, get σ t = get st.σ t) (hh : ∀ r, get h' r = get st.h r) : SatR B ⟨σ, h', st.nx⟩ a w ρ :=
  ((s.hcongr h' hh).1.sigma (st := ⟨st.σ, h', st.nx⟩) fun t d hd => by rw [hσ] at hd; exact hd)
end

/-! ### What an operation looks at -/
def opTs (o : Op) : List Nat := o.operands.toList.filterMap fun | .tmp t => some t | _ => none
def Agree (σ σ' : List (Nat × D)) (xs : List Operand) : Prop := ∀ x ∈ xs, evo σ x = evo σ' x
theorem agree_of {σ σ' : List (Nat × D)} {o : Op} (h : ∀ t ∈ opTs o, get σ t = get σ' t) : Agree σ σ' o.operands.toList := by
  intro x hx
  cases x with
  | tmp t =>
    have : t ∈ opTs o := List.mem_filterMap.2 ⟨.tmp t, hx, rfl⟩
    simp only [evo, h t this]
  | const v => rfl
  | func f => rfl
  | global g => rfl
theorem mapE_congr {σ σ' : List (Nat × D)} : ∀ {xs : List Operand}, Agree σ σ' xs → mapE σ xs = mapE σ' xs
  | [], _ => rfl
  | x :: xs, h => by
    simp only [mapE]
    rw [h x (by simp), mapE_congr (xs := xs) fun y hy => h y (by simp [hy])]
theorem mapP_congr {σ σ' : List (Nat × D)} : ∀ {xs : List (Nat × Operand)}, Agree σ σ' (xs.map (·.2)) → mapP σ xs = mapP σ' xs
  | [], _ => rfl
  | (i, x) :: xs, h => by
    simp only [mapP]
    rw [h x (by simp), mapP_congr (xs := xs) fun y hy => h y (by simp only [List.map_cons, List.mem_cons]; exact .inr hy)]
theorem evSlice_congr {τ : List (Nat × TI)} {σ σ' : List (Nat × D)} {h : List (Nat × Root)} {t : TypeId} {x : Operand} {lo hi mx : Option Operand}
    (hx : evo σ x = evo σ' x) (hl : ∀ y, lo = some y → evo σ y = evo σ' y) (hh : ∀ y, hi = some y → evo σ y = evo σ' y) (hm : ∀ y, mx = some y → evo σ y = evo σ' y) :
    evSlice τ σ h t x lo hi mx = evSlice τ σ' h t x lo hi mx := by
  unfold evSlice
  rw [hx]
  cases lo <;> cases hi <;> cases mx <;> simp only [Option.some.injEq, forall_eq', reduceCtorEq, false_imp_iff, implies_true] at hl hh hm <;> simp only [hl, hh, hm]
theorem ev1_congr {τ : List (Nat × TI)} {σ σ' : List (Nat × D)} {h : List (Nat × Root)} {nx : Nat} {hint : Hint} {o : Op} (hs : Agree σ σ' o.operands.toList) :
    ev1 τ σ h nx hint o = ev1 τ σ' h nx hint o := by
  cases o
  case build t ps => simp only [ev1]; rw [mapP_congr (σ := σ) (σ' := σ')]; intro x hx; exact hs x (by simpa [Op.operands] using hx)
  case buildSlice t n ps => simp only [ev1]; rw [mapP_congr (σ := σ) (σ' := σ')]; intro x hx; exact hs x (by simpa [Op.operands] using hx)
  case makeFunc fn first caps =>
    simp only [ev1]
    rw [mapE_congr (σ := σ) (σ' := σ') (xs := caps.toList)]
    intro x hx
    exact hs x (by simp [Op.operands, hx])
  case call c =>
    simp only [ev1]
    rw [mapE_congr (σ := σ) (σ' := σ') (xs := c.args.toList)]
    intro x hx
    exact hs x (by simp [Op.operands, Call.operands, hx])
  case slice t x lo hi mx =>
    simp only [ev1]
    rw [evSlice_congr (σ := σ) (σ' := σ')]
    · exact hs x (by simp [Op.operands])
    · intro y hy; subst hy; exact hs y (by cases hi <;> cases mx <;> simp [Op.operands])
    · intro y hy; subst hy; exact hs y (by cases lo <;> cases mx <;> simp [Op.operands])
    · intro y hy; subst hy; exact hs y (by cases lo <;> cases hi <;> simp [Op.operands])
  all_goals first
    | rfl
    | (simp only [Op.operands, Agree, List.forall_mem_cons, List.not_mem_nil, false_imp_iff, implies_true, and_true] at hs
       simp only [ev1, evLoad, evField, evIndex, hs])
theorem evg_congr {P : Program} {τ : List (Nat × TI)} {ic : IC} {σ σ' : List (Nat × D)} {h : List (Nat × Root)} {nx ib : Nat} {hint : Hint} {o : Op} (hs : Agree σ σ' o.operands.toList) :
    evg P τ ic σ h nx ib hint o = evg P τ ic σ' h nx ib hint o := by
  unfold evg
  split
  · split
    · rename_i c
      split
      · rename_i f hf
        rw [hs f (by simp [Op.operands, Call.operands, hf]), mapE_congr (σ := σ) (σ' := σ') (xs := c.args.toList)]
        intro x hx
        exact hs x (by simp [Op.operands, Call.operands, hx])
      · rfl
    · rfl
  · split
    · rename_i c
      split
      · rename_i f hf
        rw [hs f (by simp [Op.operands, Call.operands, hf]), mapE_congr (σ := σ) (σ' := σ') (xs := c.args.toList)]
        intro x hx
        exact hs x (by simp [Op.operands, Call.operands, hx])
      · rfl
    · rfl
  · split
    · rename_i c
      split
      · rename_i f hf
        rw [hs f (by simp [Op.operands, Call.operands, hf]), mapE_congr (σ := σ) (σ' := σ') (xs := c.args.toList)]
        intro x hx
        exact hs x (by simp [Op.operands, Call.operands, hx])
      · rfl
    · rfl
  · have : ∀ id, ev1 τ σ h id hint o = ev1 τ σ' h id hint o := fun id => ev1_congr hs
    simp only [this]
theorem wantE_congr {ops : Array Oper} {o : Oper} {σ σ' : List (Nat × D)} (h : ∀ g w, o.guard = some (g, w) → ∀ t, (ops[g]?).bind (·.dst) = some t → get σ t = get σ' t) :
    wantE ops o.guard σ = wantE ops o.guard σ' := by
  unfold wantE
  split
  · rfl
  · rename_i j want hg
    cases ho : ops[j]? with
    | none => simp
    | some o' =>
      simp only
      cases ht : o'.dst with
      | none => simp
      | some t =>
        simp only
        rw [h j want hg t (by simp [ho, ht])]
end Go.Px
end

section
namespace Go.Px
open Go.RowKit

/-! ### The order of a region's operations -/
def edges (o : Oper) : List Nat := (o.after.toList.filter (Region.binds .any)).map (·.on)
def bits (C : List (Nat × Nat)) (es : List Nat) : Nat := match es with
  | [] => 0
  | e :: es => (2 ^ e ||| (match get C e with | some m => m | none => 0)) ||| bits C es
def clos : List Oper → Nat → List (Nat × Nat) → List (Nat × Nat)
  | [], _, C => C
  | o :: os, k, C => clos os (k + 1) ((k, bits C (edges o)) :: C)
def bitC (C : List (Nat × Nat)) (i j : Nat) : Bool := match get C i with | some m => m.testBit j | none => false

/-- What is done is done with all that it waits for. -/
def DC (ops : List Oper) (L : Nat → Bool) : Prop := ∀ i o, ops[i]? = some o → L i = true → ∀ e ∈ edges o, L e = true

theorem bits_mem {C : List (Nat × Nat)} {L : Nat → Bool} (hC : ∀ e m, get C e = some m → L e = true → ∀ k, m.testBit k = true → L k = true) :
    ∀ {es : List Nat}, (∀ e ∈ es, L e = true) → ∀ k, (bits C es).testBit k = true → L k = true
  | [], _, k, h => by simp [bits] at h
  | e :: es, hes, k, h => by
    simp only [bits, Nat.testBit_or, Bool.or_eq_true] at h
    rcases h with (h | h) | h
    · rw [Nat.testBit_two_pow] at h
      simp only [decide_eq_true_eq] at h
      rw [← h]
      exact hes e (by simp)
    · split at h
      · rename_i m hm
        exact hC e m hm (hes e (by simp)) k h
      · simp at h
    · exact bits_mem hC (fun e he => hes e (by simp [he])) k h

theorem clos_spec {ops : List Oper} {L : Nat → Bool} (hL : DC ops L) : ∀ (os : List Oper) (k : Nat) (C : List (Nat × Nat)), os = ops.drop k →
    (∀ i m, get C i = some m → ∃ o, ops[i]? = some o ∧ ((∀ e ∈ edges o, L e = true) → ∀ j, m.testBit j = true → L j = true)) →
    ∀ i m, get (clos os k C) i = some m → ∃ o, ops[i]? = some o ∧ ((∀ e ∈ edges o, L e = true) → ∀ j, m.testBit j = true → L j = true)
  | [], _, C, _, h, i, m, g => h i m g
  | o :: os, k, C, hd, h, i, m, g => by
    simp only [clos] at g
    have hk : ops[k]? = some o := by
      have := congrArg (fun l => l[0]?) hd
      simp only [List.getElem?_cons_zero, List.getElem?_drop, Nat.add_zero] at this
      exact this.symm
    refine clos_spec hL os (k + 1) _ ?_ (fun i' m' g' => ?_) i m g
    · have := congrArg (fun l => l.drop 1) hd
      simpa [List.drop_drop] using this
    · rw [get_cons] at g'
      split at g'
      · rename_i e
        subst e
        cases g'
        refine ⟨o, hk, fun he => bits_mem (fun e m he' hle => ?_) he⟩
        obtain ⟨o', ho', h2⟩ := h e m he'
        exact h2 (hL e o' ho' hle)
      · exact h i' m' g'

theorem bitC_ready {ops : List Oper} {L : Nat → Bool} (hL : DC ops L) {i j : Nat} {o : Oper} (ho : ops[i]? = some o) (he : ∀ e ∈ edges o, L e = true)
    (hb : bitC (clos ops 0 []) i j = true) : L j = true := by
  unfold bitC at hb
  split at hb
  · rename_i m hm
    obtain ⟨o', ho', h2⟩ := clos_spec hL ops 0 [] (by simp) (fun i m h => by simp [get] at h) i m hm
    rw [ho] at ho'
    cases ho'
    exact h2 he j hb
  · cases hb
theorem bitC_listed {ops : List Oper} {L : Nat → Bool} (hL : DC ops L) {i j : Nat} (hi : L i = true) (hb : bitC (clos ops 0 []) i j = true) : L j = true := by
  have hb' := hb
  unfold bitC at hb'
  split at hb'
  · rename_i m hm
    obtain ⟨o', ho', h2⟩ := clos_spec hL ops 0 [] (by simp) (fun i m h => by simp [get] at h) i m hm
    exact h2 (hL i o' ho' hi) j hb'
  · cases hb'

/-! ### What is checked of a region -/
def allI : List Oper → Nat → (Nat → Oper → Bool) → Bool
  | [], _, _ => true
  | o :: os, k, f => match f k o with | true => allI os (k + 1) f | false => false
theorem allI_spec {f : Nat → Oper → Bool} : ∀ {os : List Oper} {k : Nat}, allI os k f = true → ∀ i o, os[i]? = some o → f (k + i) o = true
  | [], _, _, i, o, h => by simp at h
  | o :: os, k, h, i, o', ho => by
    simp only [allI] at h
    split at h
    · rename_i hf
      cases i with
      | zero => simp at ho; subst ho; simpa using hf
      | succ i =>
        have := allI_spec h i o' (by simpa using ho)
        rwa [show k + 1 + i = k + (i + 1) by omega] at this
    · cases h
def namesOf (ops : Array Oper) (o : Oper) : List Nat :=
  o.dst.toList ++ (opTs o.op ++ (match o.guard with | some (g, _) => ((ops[g]?).bind (·.dst)).toList | none => []))
def subs : List Nat → List Nat
  | [] => [0]
  | j :: js => subs js ++ (subs js).map (2 ^ j ||| ·)
def maskL (L : Nat → Bool) : List Nat → Nat
  | [] => 0
  | j :: js => match L j with | true => 2 ^ j ||| maskL L js | false => maskL L js
theorem maskL_mem (L : Nat → Bool) : ∀ (effs : List Nat), maskL L effs ∈ subs effs
  | [] => by simp [maskL, subs]
  | j :: js => by
    simp only [maskL, subs, List.mem_append, List.mem_map]
    split
    · exact .inr ⟨_, maskL_mem L js, rfl⟩
    · exact .inl (maskL_mem L js)
theorem maskL_bit (L : Nat → Bool) : ∀ (effs : List Nat) (k : Nat), (maskL L effs).testBit k = (effs.contains k && L k)
  | [], k => by simp [maskL]
  | j :: js, k => by
    simp only [maskL]
    split
    · rename_i h
      rw [Nat.testBit_or, Nat.testBit_two_pow, maskL_bit L js k, List.contains_cons]
      by_cases e : j = k
      · subst e; simp [h]
      · simp [e, Ne.symm e, beq_eq_false_iff_ne.2 (Ne.symm e)]
    · rename_i h
      rw [maskL_bit L js k, List.contains_cons]
      by_cases e : j = k
      · subst e; simp [h]
      · simp [beq_eq_false_iff_ne.2 (Ne.symm e)]
def consist (C : List (Nat × Nat)) (effs : List Nat) (i m : Nat) : Bool :=
  (match m.testBit i with | true => false | false => true) &&
  effs.all (fun j => (match bitC C i j with | true => m.testBit j | false => true) && (match m.testBit j with
    | false => true
    | true => (match bitC C j i with | true => false | false => true) && effs.all fun k => match bitC C j k with | true => m.testBit k | false => true))
def nextM (effs : List Nat) (i m : Nat) : Nat := match effs.contains i with | true => m ||| 2 ^ i | false => m
def drawOK (ops : Array Oper) (effs : List Nat) (items : List (Nat × Nat × Nat)) : Bool :=
  (effs.all fun j => Nat.blt j ops.size) &&
  (  allI ops.toList 0 (fun i o => (edges o).all fun e => Nat.blt e i) &&
  (allI ops.toList 0 (fun i o => (namesOf ops o).all fun t => allI ops.toList 0 fun j o' => match o'.dst with
    | none => true
    | some t' => match Nat.beq t' t with
      | false => true
      | true => Nat.beq j i || (match Nat.blt j i with | true => bitC (clos ops.toList 0 []) i j | false => bitC (clos ops.toList 0 []) j i)) &&
  (allI ops.toList 0 (fun i _ => (subs effs).all fun m => match consist (clos ops.toList 0 []) effs i m with
    | false => true
    | true => items.any fun x => Nat.beq x.1 i && (Nat.beq x.2.1 m && Nat.beq x.2.2 (nextM effs i m))))))

structure DrawOK (ops : Array Oper) (effs : List Nat) (items : List (Nat × Nat × Nat)) : Prop where
  inside : ∀ j ∈ effs, j < ops.size
  back : ∀ (i : Nat) (o : Oper), ops[i]? = some o → ∀ e ∈ edges o, e < i
  temps : ∀ (i : Nat) (o : Oper), ops[i]? = some o → ∀ t ∈ namesOf ops o, ∀ (j : Nat) (o' : Oper), ops[j]? = some o' → o'.dst = some t →
    j = i ∨ (j < i ∧ bitC (clos ops.toList 0 []) i j = true) ∨ (i < j ∧ bitC (clos ops.toList 0 []) j i = true)
  masks : ∀ (i : Nat) (o : Oper), ops[i]? = some o → ∀ m ∈ subs effs, consist (clos ops.toList 0 []) effs i m = true → (i, m, nextM effs i m) ∈ items
theorem drawOK_spec {ops : Array Oper} {effs : List Nat} {items : List (Nat × Nat × Nat)} (h : drawOK ops effs items = true) : DrawOK ops effs items := by
  unfold drawOK at h
  simp only [Bool.and_eq_true] at h
  obtain ⟨h0, h1, h2, h3⟩ := h
  have e0 : ∀ (i : Nat) (o : Oper), ops[i]? = some o → ops.toList[i]? = some o := fun i o h => by simpa using h
  refine ⟨fun j hj => by simpa [Nat.blt_eq] using List.all_eq_true.1 h0 j hj, fun i o ho e he => ?_, fun i o ho t ht j o' ho' hd => ?_, fun i o ho m hm hc => ?_⟩
  · have := allI_spec h1 i o (e0 i o ho)
    simp only [Nat.zero_add, List.all_eq_true] at this
    have := this e he
    simpa [Nat.blt_eq] using this
  · have := allI_spec h2 i o (e0 i o ho)
    simp only [Nat.zero_add, List.all_eq_true] at this
    have := allI_spec (this t ht) j o' (e0 j o' ho')
    simp only [Nat.zero_add, hd, Nat.beq_refl] at this
    simp only [Bool.or_eq_true] at this
    rcases this with h | h
    · exact .inl (Nat.eq_of_beq_eq_true h)
    · split at h
      · rename_i hlt
        exact .inr (.inl ⟨by simpa [Nat.blt_eq] using hlt, h⟩)
      · rename_i hlt
        by_cases hji : j = i
        · exact .inl hji
        · refine .inr (.inr ⟨?_, h⟩)
          have : ¬ j < i := fun hl => by
            rw [show j.blt i = true from by simpa [Nat.blt_eq] using hl] at hlt
            cases hlt
          omega
  · have := allI_spec h3 i o (e0 i o ho)
    simp only [Nat.zero_add, List.all_eq_true] at this
    have := this m hm
    rw [hc] at this
    simp only [List.any_eq_true, Bool.and_eq_true] at this
    obtain ⟨x, hx, q1, q2, q3⟩ := this
    obtain ⟨a, b, c⟩ := x
    rw [← Nat.eq_of_beq_eq_true q1, ← Nat.eq_of_beq_eq_true q2]
    have := Nat.eq_of_beq_eq_true q3
    simp only at this
    have h1 := Nat.eq_of_beq_eq_true q1
    have h2 := Nat.eq_of_beq_eq_true q2
    simp only at h1 h2
    subst h1 h2
    rw [← this]
    exact hx

/-- A down-closed set's mask is one that is consistent for what is ready. -/
theorem consist_of {ops : Array Oper} {effs : List Nat} {L : Nat → Bool} (hL : DC ops.toList L) {i : Nat} {o : Oper} (ho : ops[i]? = some o)
    (hi : L i = false) (hr : ∀ e ∈ edges o, L e = true) : consist (clos ops.toList 0 []) effs i (maskL L effs) = true := by
  have ho' : ops.toList[i]? = some o := by simpa using ho
  have hin : ∀ j ∈ effs, (maskL L effs).testBit j = L j := fun j hj => by
    rw [maskL_bit, List.contains_iff_mem.2 hj, Bool.true_and]
  unfold consist
  rw [Bool.and_eq_true, List.all_eq_true]
  refine ⟨?_, fun j hj => ?_⟩
  · rw [maskL_bit, hi, Bool.and_false]
  · rw [hin j hj, Bool.and_eq_true]
    refine ⟨?_, ?_⟩
    · split
      · rename_i hb
        exact bitC_ready hL ho' hr hb
      · rfl
    · split
      · rfl
      · rename_i hLj
        rw [Bool.and_eq_true, List.all_eq_true]
        refine ⟨?_, fun k hk => ?_⟩
        · split
          · rename_i hb
            rw [bitC_listed hL hLj hb] at hi
            cases hi
          · rfl
        · split
          · rename_i hb
            rw [hin k hk]
            exact bitC_listed hL hLj hb
          · rfl
end Go.Px
end

section
namespace Go.Px
open Go.RowKit

def SameH (h h' : List (Nat × Root)) : Prop := ∀ r, get h r = get h' r
def catP : List Prop → List Prop → List Prop
  | [], acc => acc
  | p :: ps, acc => p :: catP ps acc
theorem catP_all {ps acc : List Prop} : AllP (catP ps acc) ↔ AllP ps ∧ AllP acc := by
  induction ps with
  | nil => simp [catP, AllP]
  | cons p ps ih => rw [catP, AllP_cons, AllP_cons, ih, and_assoc]
/-- What is known: of each operation its state and value, of each mask the heap. -/
structure Tb where
  dt : List (Nat × (List (Nat × D) × D))
  T : List (Nat × List (Nat × Root))
def setT (T : List (Nat × List (Nat × Root))) (rd : Bool) (m' : Nat) (h' : List (Nat × Root)) (acc : List Prop) : List (Nat × List (Nat × Root)) × List Prop :=
  match rd with
  | true => match get T m' with
    | none => ((m', h') :: T, acc)
    | some _ => (T, acc)
  | false => match get T m' with
    | none => ((m', h') :: T, acc)
    | some h'' => (T, SameH h'' h' :: acc)

section
variable (P : Program) (τ : List (Nat × TI)) (ic : IC) (N : Nat) (ops : Array Oper) (hs : List (Nat × Hint)) (nx : Nat)
def evD : List (Nat × Nat × Nat) → Nat → List (Nat × D) → Tb → List Prop → Option ((Nat × List (Nat × D) × Tb) × List Prop)
  | [], cur, σ, tb, acc => some ((cur, σ, tb), acc)
  | (i, m, m') :: its, cur, σ, tb, acc => match ops[i]? with
    | none => none
    | some o => match get tb.T m with
      | none => none
      | some h => match Nat.beq i cur with
        | true => match wantE ops o.guard σ with
          | none => none
          | some false => match putS N o.dst (.tup []) σ with
            | none => none
            | some σ1 => match setT tb.T (Nat.beq m m') m' h acc with
              | (T', acc') => evD its (i + 1) σ1 ⟨(i, (σ, .tup [])) :: tb.dt, T'⟩ acc'
          | some true => match evg P τ ic σ h nx (nx + 1000 * i) (hintOf hs i) o.op with
            | none => none
            | some (d, h', ps) => withD d fun d => match putS N o.dst d σ with
              | none => none
              | some σ1 => match rdr o.op && Nat.beq m m' with
                | true => evD its (i + 1) σ1 ⟨(i, (σ, d)) :: tb.dt, tb.T⟩ (catP ps acc)
                | false => withH [] h' fun h' => match setT tb.T false m' h' (catP ps acc) with
                  | (T', acc') => evD its (i + 1) σ1 ⟨(i, (σ, d)) :: tb.dt, T'⟩ acc'
        | false => match get tb.dt i with
          | none => none
          | some (σi, d) => match wantE ops o.guard σi with
            | none => none
            | some false => match setT tb.T (Nat.beq m m') m' h acc with
              | (T', acc') => evD its cur σ ⟨tb.dt, T'⟩ acc'
            | some true => match evg P τ ic σi h nx (nx + 1000 * i) (hintOf hs i) o.op with
              | none => none
              | some (d', h', ps) => match rdr o.op && Nat.beq m m' with
                | true => evD its cur σ tb (catP ps ((d' = d) :: acc))
                | false => withH [] h' fun h' => match setT tb.T false m' h' (catP ps ((d' = d) :: acc)) with
                  | (T', acc') => evD its cur σ ⟨tb.dt, T'⟩ acc'

def dfOf (dt : List (Nat × (List (Nat × D) × D))) (i : Nat) : D := match get dt i with | some (_, d) => d | none => .junk
def dstOf (i : Nat) : Option Nat := (ops[i]?).bind (·.dst)
end
/-- What stands in a temporary when these are done. -/
def Vl (dst : Nat → Option Nat) (df : Nat → D) (σ0 : List (Nat × D)) (L : Nat → Bool) : Nat → Nat → Option D
  | 0, t => get σ0 t
  | n + 1, t => if L n = true ∧ dst n = some t then some (df n) else Vl dst df σ0 L n t

section
variable {dst : Nat → Option Nat} {df df' : Nat → D} {σ0 : List (Nat × D)} {L L' : Nat → Bool}
theorem Vl_df : ∀ {n t : Nat}, (∀ i, i < n → df i = df' i) → Vl dst df σ0 L n t = Vl dst df' σ0 L n t
  | 0, t, _ => rfl
  | n + 1, t, h => by
    simp only [Vl]
    rw [h n (Nat.lt_succ_self _), Vl_df fun i hi => h i (Nat.lt_succ_of_lt hi)]
theorem Vl_agree {i : Nat} : ∀ {n t : Nat}, i ≤ n → (∀ j, j < n → dst j = some t → (L j = true ↔ j < i)) → Vl dst df σ0 L n t = Vl dst df σ0 (fun _ => true) i t
  | 0, t, hi, _ => by
    have : i = 0 := by omega
    subst this; rfl
  | n + 1, t, hi, h => by
    by_cases e : i = n + 1
    · subst e
      clear hi
      have hcong : ∀ m, m ≤ n + 1 → Vl dst df σ0 L m t = Vl dst df σ0 (fun _ => true) m t := by
        intro m
        induction m with
        | zero => intro _; rfl
        | succ m ih =>
          intro hm
          simp only [Vl]
          rw [ih (by omega)]
          by_cases hd : dst m = some t
          · have := (h m (by omega) hd).2 (by omega)
            simp [this]
          · simp [hd]
      exact hcong _ (Nat.le_refl _)
    · simp only [Vl]
      rw [if_neg, Vl_agree (by omega) fun j hj hd => h j (by omega) hd]
      rintro ⟨h1, h2⟩
      have := (h n (by omega) h2).1 h1
      omega
theorem Vl_set {i : Nat} (hL : ∀ j, L' j = true ↔ L j = true ∨ j = i) : ∀ {n t : Nat}, i < n → (∀ j, i < j → j < n → dst j = dst i → dst i = some t → L j = false) →
    Vl dst df σ0 L' n t = if dst i = some t then some (df i) else Vl dst df σ0 L n t
  | 0, t, h, _ => absurd h (Nat.not_lt_zero _)
  | n + 1, t, hi, h => by
    simp only [Vl]
    by_cases e : n = i
    · subst e
      have : L' n = true := (hL n).2 (.inr rfl)
      simp only [this, true_and]
      split
      · rfl
      · rename_i hne
        simp only [hne, and_false, if_false]
        have hc : ∀ m, m ≤ n → Vl dst df σ0 L' m t = Vl dst df σ0 L m t := by
          intro m
          induction m with
          | zero => intro _; rfl
          | succ m ih =>
            intro hm
            simp only [Vl]
            rw [ih (by omega)]
            have : L' m = L m := Bool.eq_iff_iff.2 ⟨fun h => ((hL m).1 h).resolve_right (by omega), fun h => (hL m).2 (.inl h)⟩
            rw [this]
        exact hc n (Nat.le_refl _)
    · have : L' n = L n := Bool.eq_iff_iff.2 ⟨fun h => ((hL n).1 h).resolve_right e, fun h => (hL n).2 (.inl h)⟩
      rw [this, Vl_set hL (by omega) fun j h1 h2 => h j h1 (by omega)]
      by_cases hd : dst i = some t
      · simp only [hd, if_true]
        rw [if_neg]
        rintro ⟨h1, h2⟩
        rw [h n (by omega) (by omega) (h2.trans hd.symm) hd] at h1
        cases h1
      · simp only [hd, if_false]
theorem Vl_all {n t : Nat} (h : ∀ i, i < n → L i = true) : Vl dst df σ0 L n t = Vl dst df σ0 (fun _ => true) n t :=
  Vl_agree (Nat.le_refl _) fun j hj _ => ⟨fun _ => hj, fun _ => h j hj⟩
end

section
variable {P : Program} {τ : List (Nat × TI)} {ic : IC} {N : Nat} {ops : Array Oper} {hs : List (Nat × Hint)} {nx : Nat} {σ0 : List (Nat × D)}

theorem ev1_rdr {σ : List (Nat × D)} {h : List (Nat × Root)} {id : Nat} {hint : Hint} {o : Op} {x : HOut} (hr : rdr o = true) (e : ev1 τ σ h id hint o = some x) : x.2.1 = h := by
  have prh : ∀ {r : Option (D × Prop)}, pr h id r = some x → x.2.1 = h := fun e => by
    obtain ⟨d, h', nx', p⟩ := x
    exact (pr_some e).2.1
  unfold ev1 at e
  split at e
  case h_4 => cases hr
  case h_5 => cases hr
  case h_9 => cases hr
  case h_16 => cases hr
  case h_23 c =>
    split at e
    · rename_i b hb
      simp only [rdr, hb] at hr
      unfold evBuiltin at e
      split at e
      case h_2 => cases hr
      case h_3 => cases hr
      case h_6 => cases hr
      all_goals ((repeat' split at e) <;> first | exact prh e | cases e)
    · cases e
  all_goals ((repeat' split at e) <;> first | exact prh e | (cases e; rfl) | cases e)
theorem fin_rdr {h : List (Nat × Root)} {hint : Hint} {r : Option HOut} (hr : ∀ x, r = some x → x.2.1 = h) {x : HOut} (e : fin hint r = some x) : x.2.1 = h := by
  unfold fin at e
  split at e
  · cases e
  · have := hr _ rfl
    (repeat' split at e) <;> first | (cases e; exact this) | cases e
theorem evg_rdr {σ : List (Nat × D)} {h h' : List (Nat × Root)} {nx ib : Nat} {hint : Hint} {o : Op} {d : D} {ps : List Prop} (hr : rdr o = true) (e : evg P τ ic σ h nx ib hint o = some (d, h', ps)) : h' = h := by
  unfold evg at e
  split at e
  · split at e
    · rename_i c
      split at e
      · rename_i f hf
        simp only [rdr, hf] at hr
        cases hr
      · cases e
    · cases e
  · split at e
    · rename_i c
      split at e
      · rename_i f hf
        simp only [rdr, hf] at hr
        cases hr
      · cases e
    · cases e
  · split at e
    · rename_i c
      split at e
      · rename_i f hf
        simp only [rdr, hf] at hr
        cases hr
      · cases e
    · cases e
  · rw [hr] at e
    simp only at e
    split at e
    · cases e
    · rename_i hfin
      simp only [Option.some.injEq, Prod.mk.injEq] at e
      obtain ⟨rfl, rfl, rfl⟩ := e
      exact fin_rdr (fun x hx => ev1_rdr hr hx) hfin

/-- What is known of one operation at one mask. -/
def ItemOK (P : Program) (τ : List (Nat × TI)) (ic : IC) (N : Nat) (ops : Array Oper) (hs : List (Nat × Hint)) (nx : Nat) (tb : Tb) (x : Nat × Nat × Nat) : Prop :=
  ∃ o σi d h h'' σ1, ops[x.1]? = some o ∧ get tb.dt x.1 = some (σi, d) ∧ get tb.T x.2.1 = some h ∧ get tb.T x.2.2 = some h'' ∧ putS N o.dst d σi = some σ1 ∧
    ((wantE ops o.guard σi = some false ∧ d = .tup [] ∧ SameH h'' h) ∨
     (wantE ops o.guard σi = some true ∧ ∃ h' ps, evg P τ ic σi h nx (nx + 1000 * x.1) (hintOf hs x.1) o.op = some (d, h', ps) ∧ AllP ps ∧ SameH h'' h'))
structure Tb.Le (a b : Tb) : Prop where
  dt : ∀ i x, get a.dt i = some x → get b.dt i = some x
  T : ∀ m h, get a.T m = some h → get b.T m = some h
theorem Tb.Le.refl (a : Tb) : a.Le a := ⟨fun _ _ h => h, fun _ _ h => h⟩
theorem Tb.Le.trans {a b c : Tb} (h : a.Le b) (k : b.Le c) : a.Le c := ⟨fun i x e => k.dt i x (h.dt i x e), fun i x e => k.T i x (h.T i x e)⟩
theorem ItemOK.mono {a b : Tb} (h : a.Le b) {x : Nat × Nat × Nat} (k : ItemOK P τ ic N ops hs nx a x) : ItemOK P τ ic N ops hs nx b x := by
  obtain ⟨o, σi, d, h1, h2, σ1, q1, q2, q3, q4, q5, q6⟩ := k
  exact ⟨o, σi, d, h1, h2, σ1, q1, h.dt _ _ q2, h.T _ _ q3, h.T _ _ q4, q5, q6⟩
structure JD (ops : Array Oper) (σ0 : List (Nat × D)) (N : Nat) (cur : Nat) (σ : List (Nat × D)) (tb : Tb) : Prop where
  lt : ∀ i x, get tb.dt i = some x → i < cur
  ok : ∀ i σi d, get tb.dt i = some (σi, d) → ∃ o σ1, ops[i]? = some o ∧ putS N o.dst d σi = some σ1 ∧ (wantE ops o.guard σi = some false → d = .tup [])
  at_ : ∀ i σi d, get tb.dt i = some (σi, d) → ∀ t, get σi t = Vl (dstOf ops) (dfOf tb.dt) σ0 (fun _ => true) i t
  now : ∀ t, get σ t = Vl (dstOf ops) (dfOf tb.dt) σ0 (fun _ => true) cur t
theorem putS_get {dst : Option Nat} {d : D} {σ σ1 : List (Nat × D)} (h : putS N dst d σ = some σ1) (t : Nat) : get σ1 t = if dst = some t then some d else get σ t := by
  unfold putS at h
  split at h
  · cases h; simp
  · rename_i u
    split at h
    · cases h
      rw [get_cons]
      by_cases e : u = t <;> simp [e]
    · cases h
theorem JD.next {cur : Nat} {σ σ1 : List (Nat × D)} {tb : Tb} {T' : List (Nat × List (Nat × Root))} (j : JD ops σ0 N cur σ tb) {o : Oper} (ho : ops[cur]? = some o) {d : D} (hput : putS N o.dst d σ = some σ1) (hj : wantE ops o.guard σ = some false → d = .tup []) :
    JD ops σ0 N (cur + 1) σ1 ⟨(cur, (σ, d)) :: tb.dt, T'⟩ ∧ ∀ i x, get tb.dt i = some x → get ((cur, (σ, d)) :: tb.dt) i = some x := by
  have hne : ∀ i x, get tb.dt i = some x → cur ≠ i := fun i x h e => by have := j.lt i x h; omega
  have hdf : ∀ i, i < cur → dfOf tb.dt i = dfOf ((cur, (σ, d)) :: tb.dt) i := fun i hi => by
    unfold dfOf
    rw [get_cons, if_neg (by omega)]
  refine ⟨⟨fun i x h => ?_, fun i σi d' h => ?_, fun i σi d' h t => ?_, fun t => ?_⟩, fun i x h => by rw [get_cons, if_neg (hne i x h)]; exact h⟩
  · replace h : get ((cur, (σ, d)) :: tb.dt) i = some x := h
    rw [get_cons] at h
    split at h
    · omega
    · have := j.lt i x h; omega
  · replace h : get ((cur, (σ, d)) :: tb.dt) i = some (σi, d') := h
    rw [get_cons] at h
    split at h
    · rename_i e
      subst e
      cases h
      exact ⟨o, σ1, ho, hput, hj⟩
    · exact j.ok i σi d' h
  · replace h : get ((cur, (σ, d)) :: tb.dt) i = some (σi, d') := h
    rw [get_cons] at h
    split at h
    · rename_i e
      subst e
      cases h
      rw [j.now t]
      exact Vl_df fun i hi => hdf i hi
    · rw [j.at_ i σi d' h t]
      exact Vl_df fun k hk => hdf k (by have := j.lt i _ h; omega)
  · rw [putS_get hput t]
    simp only [Vl]
    have h1 : dstOf ops cur = o.dst := by simp [dstOf, ho]
    have h2 : dfOf ((cur, (σ, d)) :: tb.dt) cur = d := by simp [dfOf, get_cons]
    rw [h1, h2, j.now t]
    simp only [true_and]
    rw [Vl_df fun i hi => hdf i hi]
theorem setT_spec {T T' : List (Nat × List (Nat × Root))} {rd : Bool} {m' : Nat} {h' : List (Nat × Root)} {acc acc' : List Prop} (e : setT T rd m' h' acc = (T', acc')) (hp : AllP acc')
    (hrd : rd = true → ∀ x, get T m' = some x → x = h') : AllP acc ∧ (∀ m h, get T m = some h → get T' m = some h) ∧ ∃ h'', get T' m' = some h'' ∧ SameH h'' h' := by
  unfold setT at e
  have fresh : get T m' = none → (∀ m h, get T m = some h → get ((m', h') :: T) m = some h) := fun hn m h hm => by
    rw [get_cons, if_neg]
    · exact hm
    · rintro rfl; rw [hn] at hm; cases hm
  split at e
  · split at e
    · rename_i hn
      cases e
      exact ⟨hp, fresh hn, h', by rw [get_cons, if_pos rfl], fun _ => rfl⟩
    · rename_i x hx
      cases e
      refine ⟨hp, fun _ _ h => h, x, hx, ?_⟩
      rw [hrd rfl x hx]
      exact fun _ => rfl
  · split at e
    · rename_i hn
      cases e
      exact ⟨hp, fresh hn, h', by rw [get_cons, if_pos rfl], fun _ => rfl⟩
    · rename_i x hx
      cases e
      rw [AllP_cons] at hp
      exact ⟨hp.2, fun _ _ h => h, x, hx, hp.1⟩

theorem evD_sound : ∀ {its : List (Nat × Nat × Nat)} {cur : Nat} {σ : List (Nat × D)} {tb : Tb} {acc : List Prop} {curF : Nat} {σF : List (Nat × D)} {tbF : Tb} {ps : List Prop},
    evD P τ ic N ops hs nx its cur σ tb acc = some ((curF, σF, tbF), ps) → AllP ps → JD ops σ0 N cur σ tb →
    AllP acc ∧ JD ops σ0 N curF σF tbF ∧ tb.Le tbF ∧ (∀ x ∈ its, ItemOK P τ ic N ops hs nx tbF x)
  | [], cur, σ, tb, acc, curF, σF, tbF, ps, h, hp, j => by
    simp only [evD, Option.some.injEq, Prod.mk.injEq] at h
    obtain ⟨⟨rfl, rfl, rfl⟩, rfl⟩ := h
    exact ⟨hp, j, Tb.Le.refl _, by simp⟩
  | (i, m, m') :: its, cur, σ, tb, acc, curF, σF, tbF, ps, h, hp, j => by
    simp only [evD, withD_eq, withH_eq] at h
    split at h
    · cases h
    rename_i o ho
    split at h
    · cases h
    rename_i hh hT
    split at h
    · rename_i hi
      have hi := Nat.eq_of_beq_eq_true hi
      subst hi
      split at h
      · cases h
      · -- not wanted
        rename_i hw
        split at h
        · cases h
        rename_i σ1 hput
        generalize hset : setT _ _ _ _ _ = q at h
        obtain ⟨T', acc'⟩ := q
        simp only at h
        obtain ⟨jn, jle⟩ := j.next (T' := T') ho hput (fun _ => rfl)
        obtain ⟨r1, r2, r3, r4⟩ := evD_sound h hp jn
        obtain ⟨s1, s2, h'', s3, s4⟩ := setT_spec hset r1 (fun hb x hx => by
          rw [← Nat.eq_of_beq_eq_true hb, hT] at hx
          cases hx; rfl)
        refine ⟨s1, r2, ⟨fun k x hk => r3.dt k x (jle k x hk), fun k x hk => r3.T k x (s2 k x hk)⟩, fun x hx => ?_⟩
        rcases List.mem_cons.1 hx with rfl | hx
        · exact ⟨o, σ, .tup [], hh, h'', σ1, ho, r3.dt _ _ (by show get ((i, (σ, D.tup [])) :: tb.dt) i = _; rw [get_cons, if_pos rfl]), r3.T _ _ (s2 _ _ hT), r3.T _ _ s3, hput, .inl ⟨hw, rfl, s4⟩⟩
        · exact r4 x hx
      · rename_i hw
        split at h
        · cases h
        rename_i d h' qs hev
        split at h
        · cases h
        rename_i σ1 hput
        have fin1 : ∀ (T' : List (Nat × List (Nat × Root))) (acc' : List Prop) (h1 : List (Nat × Root)), evD P τ ic N ops hs nx its (i + 1) σ1 ⟨(i, (σ, d)) :: tb.dt, T'⟩ acc' = some ((curF, σF, tbF), ps) →
            (AllP acc' → AllP (catP qs acc) ∧ (∀ m h, get tb.T m = some h → get T' m = some h) ∧ ∃ h'', get T' m' = some h'' ∧ SameH h'' h') →
            AllP acc ∧ JD ops σ0 N curF σF tbF ∧ tb.Le tbF ∧ (∀ x ∈ (i, m, m') :: its, ItemOK P τ ic N ops hs nx tbF x) := by
          intro T' acc' _ h hset
          obtain ⟨jn, jle⟩ := j.next (T' := T') ho hput (fun h0 => by rw [hw] at h0; cases h0)
          obtain ⟨r1, r2, r3, r4⟩ := evD_sound h hp jn
          obtain ⟨s1, s2, h'', s3, s4⟩ := hset r1
          rw [catP_all] at s1
          refine ⟨s1.2, r2, ⟨fun k x hk => r3.dt k x (jle k x hk), fun k x hk => r3.T k x (s2 k x hk)⟩, fun x hx => ?_⟩
          rcases List.mem_cons.1 hx with rfl | hx
          · exact ⟨o, σ, d, hh, h'', σ1, ho, r3.dt _ _ (by show get ((i, (σ, d)) :: tb.dt) i = _; rw [get_cons, if_pos rfl]), r3.T _ _ (s2 _ _ hT), r3.T _ _ s3, hput, .inr ⟨hw, h', qs, hev, s1.1, s4⟩⟩
          · exact r4 x hx
        split at h
        · rename_i hb
          rw [Bool.and_eq_true] at hb
          refine fin1 tb.T _ h' h fun hp1 => ⟨hp1, fun _ _ h => h, hh, ?_, ?_⟩
          · rw [← Nat.eq_of_beq_eq_true hb.2]; exact hT
          · rw [evg_rdr hb.1 hev]; exact fun _ => rfl
        · generalize hset : setT _ _ _ _ _ = q at h
          obtain ⟨T', acc'⟩ := q
          simp only at h
          refine fin1 T' acc' h' h fun hp1 => ?_
          obtain ⟨s1, s2, h'', s3, s4⟩ := setT_spec hset hp1 (fun hb => by cases hb)
          exact ⟨s1, s2, h'', s3, fun r => (s4 r).trans (ddp_get h' [] r (by simp))⟩
    · split at h
      · cases h
      rename_i σi d hdt
      obtain ⟨o2, σ1, ho2, hput, hj⟩ := j.ok i σi d hdt
      have e2 : o2 = o := Option.some.inj (ho2.symm.trans ho)
      subst e2
      split at h
      · cases h
      · rename_i hw
        generalize hset : setT _ _ _ _ _ = q at h
        obtain ⟨T', acc'⟩ := q
        simp only at h
        obtain ⟨r1, r2, r3, r4⟩ := evD_sound h hp (tb := ⟨tb.dt, T'⟩) ⟨j.lt, j.ok, j.at_, j.now⟩
        obtain ⟨s1, s2, h'', s3, s4⟩ := setT_spec hset r1 (fun hb x hx => by
          rw [← Nat.eq_of_beq_eq_true hb, hT] at hx
          cases hx; rfl)
        refine ⟨s1, r2, ⟨fun k x hk => r3.dt k x hk, fun k x hk => r3.T k x (s2 k x hk)⟩, fun x hx => ?_⟩
        rcases List.mem_cons.1 hx with rfl | hx
        · exact ⟨o2, σi, d, hh, h'', σ1, ho, r3.dt _ _ hdt, r3.T _ _ (s2 _ _ hT), r3.T _ _ s3, hput, .inl ⟨hw, hj hw, s4⟩⟩
        · exact r4 x hx
      · rename_i hw
        split at h
        · cases h
        rename_i d' h' qs hev
        have fin1 : ∀ (T' : List (Nat × List (Nat × Root))) (acc' : List Prop), evD P τ ic N ops hs nx its cur σ ⟨tb.dt, T'⟩ acc' = some ((curF, σF, tbF), ps) →
            (AllP acc' → AllP (catP qs ((d' = d) :: acc)) ∧ (∀ m h, get tb.T m = some h → get T' m = some h) ∧ ∃ h'', get T' m' = some h'' ∧ SameH h'' h') →
            AllP acc ∧ JD ops σ0 N curF σF tbF ∧ tb.Le tbF ∧ (∀ x ∈ (i, m, m') :: its, ItemOK P τ ic N ops hs nx tbF x) := by
          intro T' acc' h hset
          obtain ⟨r1, r2, r3, r4⟩ := evD_sound h hp (tb := ⟨tb.dt, T'⟩) ⟨j.lt, j.ok, j.at_, j.now⟩
          obtain ⟨s1, s2, h'', s3, s4⟩ := hset r1
          rw [catP_all, AllP_cons] at s1
          obtain ⟨s0, rfl, s1⟩ := s1
          refine ⟨s1, r2, ⟨fun k x hk => r3.dt k x hk, fun k x hk => r3.T k x (s2 k x hk)⟩, fun x hx => ?_⟩
          rcases List.mem_cons.1 hx with rfl | hx
          · exact ⟨o2, σi, d', hh, h'', σ1, ho, r3.dt _ _ hdt, r3.T _ _ (s2 _ _ hT), r3.T _ _ s3, hput, .inr ⟨hw, h', qs, hev, s0, s4⟩⟩
          · exact r4 x hx
        split at h
        · rename_i hb
          rw [Bool.and_eq_true] at hb
          refine fin1 tb.T _ h fun hp1 => ⟨hp1, fun _ _ h => h, hh, ?_, ?_⟩
          · rw [← Nat.eq_of_beq_eq_true hb.2]; exact hT
          · rw [evg_rdr hb.1 hev]; exact fun _ => rfl
        · generalize hset : setT _ _ _ _ _ = q at h
          obtain ⟨T', acc'⟩ := q
          simp only at h
          refine fin1 T' acc' h fun hp1 => ?_
          obtain ⟨s1, s2, h'', s3, s4⟩ := setT_spec hset hp1 (fun hb => by cases hb)
          exact ⟨s1, s2, h'', s3, fun r => (s4 r).trans (ddp_get h' [] r (by simp))⟩
end
end Go.Px
end

