/-
  What the functions that the statement reaches compute, proved (contracts of functions and the lemmas for them), a part of the proof. No conditions beyond those that each theorem names.
-/
import Derived.Tactics
import Derived.Laws.AppendOwn
import Derived.Below
import Derived.Orders
set_option linter.unusedVariables false
set_option linter.unusedSimpArgs false

section
namespace Go.Px
open Go.RowKit

/-- Abstract values. -/
inductive D where
  | junk
  | b (x : Bool)
  | i (k : IntKind) (n : Int)
  | s (x : ByteArray)
  | nils
  | sl (sz n : Nat) (cs : List D)
  | ag (cs : List D)
  | tup (ds : List D)
  | fn (f : FuncId) (cap : List D)
  | nilf
  | pt (cs : List D)
  | nilp
  | ifc (t : TypeId) (d : D)
  | nili
  | os (r off n : Nat)
  | oa (r off : Nat)
  deriving Inhabited

structure RC where
  blk : Option Nat
  sz : Nat
  cap : Nat
  deriving Inhabited

structure Env where
  w : World
  ok : Nat → Nat → Prop
  ρ : Nat → RC
  dom : Nat → Prop

def osRep (c : RC) (off n : Nat) (v : Value) : Prop :=
  match c.blk with
  | none => v = .slice none 0 0 ∧ off = 0 ∧ n = 0
  | some b => ∃ o k, v = .slice (some ⟨b, o, none⟩) n k ∧ off + k = c.cap ∧ n ≤ k ∧ (0 < k → o = off * c.sz)

def Env.pure (E : Env) : Env := ⟨E.w, E.ok, E.ρ, fun _ => False⟩

mutual
def rep : Env → D → Value → Prop
  | _, .junk, _ => True
  | _, .b x, v => v = .bool x
  | _, .i k n, v => v = .int k n
  | _, .s x, v => v = .string x
  | _, .nils, v => v = .slice none 0 0
  | E, .sl sz n cs, v => ∃ A c, v = .slice A n c ∧ n ≤ c ∧ c ≤ maxLen ∧ cs.length = n * sz ∧ (0 < n → ∃ b o, A = some ⟨b, o, none⟩ ∧ repCells E.pure cs b o)
  | E, .ag cs, v => ∃ vs : List Value, v = .agg vs.toArray ∧ repVals E cs vs ∧ ∀ u ∈ vs, u.oneCell' = true
  | E, .tup ds, v => ∃ vs : List Value, v = .tuple vs.toArray ∧ repVals E ds vs
  | E, .fn f cap, v => ∃ vs : List Value, v = .func (.func f) #[] vs.toArray ∧ repVals E cap vs
  | _, .nilf, v => v = .nilFunc
  | E, .pt cs, v => ∃ b o, v = .pointer (some ⟨b, o, none⟩) ∧ repCells E.pure cs b o
  | _, .nilp, v => v = .pointer none
  | E, .ifc t d, v => ∃ u, v = .iface t u ∧ rep E d u
  | _, .nili, v => v = .nilIface
  | E, .os r off n, v => E.dom r ∧ osRep (E.ρ r) off n v
  | E, .oa r off, v => E.dom r ∧ ∃ b, (E.ρ r).blk = some b ∧ v = .pointer (some ⟨b, off, none⟩)
def repCells : Env → List D → Nat → Nat → Prop
  | _, [], _, _ => True
  | E, d :: ds, b, o => (∃ v, E.w.cell? ⟨b, o, none⟩ = some v ∧ E.ok b o ∧ v.oneCell' = true ∧ rep E d v) ∧ repCells E ds b (o + 1)
def repVals : Env → List D → List Value → Prop
  | _, [], vs => vs = []
  | E, d :: ds, vs => ∃ v ws, vs = v :: ws ∧ rep E d v ∧ repVals E ds ws
end

/-- What carries a representation from one environment to another one. -/
structure Env.Le (E E' : Env) : Prop where
  cell : ∀ b o v, E.w.cell? ⟨b, o, none⟩ = some v → E.ok b o → E'.w.cell? ⟨b, o, none⟩ = some v ∧ E'.ok b o
  root : ∀ r, E.dom r → E'.ρ r = E.ρ r
  nx : ∀ r, E.dom r → E'.dom r

theorem Env.Le.pure {E E' : Env} (h : E.Le E') : E.pure.Le E'.pure := ⟨h.cell, fun r hr => hr.elim, fun r hr => hr⟩
theorem Env.pure_le (E : Env) : E.pure.Le E := ⟨fun _ _ _ h1 h2 => ⟨h1, h2⟩, fun r hr => hr.elim, fun r hr => hr.elim⟩
theorem Env.Le.refl (E : Env) : E.Le E := ⟨fun _ _ _ h1 h2 => ⟨h1, h2⟩, fun _ _ => rfl, fun _ h => h⟩
theorem Env.Le.trans {E F G : Env} (h : E.Le F) (k : F.Le G) : E.Le G := ⟨fun b o v h1 h2 => k.cell b o v (h.cell b o v h1 h2).1 (h.cell b o v h1 h2).2, fun r hr => (k.root r (h.nx r hr)).trans (h.root r hr), fun r hr => k.nx r (h.nx r hr)⟩

mutual
theorem rep_mono {E E' : Env} (h : E.Le E') : ∀ (d : D) (v : Value), rep E d v → rep E' d v
  | .junk, _, _ => by simp only [rep]
  | .b x, v, q => by simp only [rep] at *; exact q
  | .i k n, v, q => by simp only [rep] at *; exact q
  | .s x, v, q => by simp only [rep] at *; exact q
  | .nils, v, q => by simp only [rep] at *; exact q
  | .nilf, v, q => by simp only [rep] at *; exact q
  | .nilp, v, q => by simp only [rep] at *; exact q
  | .nili, v, q => by simp only [rep] at *; exact q
  | .sl sz n cs, v, q => by
    simp only [rep] at *
    obtain ⟨A, c, h1, h2, h3, h4, h5⟩ := q
    exact ⟨A, c, h1, h2, h3, h4, fun hn => by obtain ⟨b, o, e, hc⟩ := h5 hn; exact ⟨b, o, e, repCells_mono h.pure cs b o hc⟩⟩
  | .ag cs, v, q => by
    simp only [rep] at *
    obtain ⟨vs, e, hv, h1⟩ := q
    exact ⟨vs, e, repVals_mono h cs vs hv, h1⟩
  | .tup cs, v, q => by
    simp only [rep] at *
    obtain ⟨vs, e, hv⟩ := q
    exact ⟨vs, e, repVals_mono h cs vs hv⟩
  | .fn f cs, v, q => by
    simp only [rep] at *
    obtain ⟨vs, e, hv⟩ := q
    exact ⟨vs, e, repVals_mono h cs vs hv⟩
  | .pt cs, v, q => by
    simp only [rep] at *
    obtain ⟨b, o, e, hc⟩ := q
    exact ⟨b, o, e, repCells_mono h.pure cs b o hc⟩
  | .ifc t d, v, q => by
    simp only [rep] at *
    obtain ⟨u, e, hd⟩ := q
    exact ⟨u, e, rep_mono h d u hd⟩
  | .os r off n, v, q => by
    simp only [rep] at *
    exact ⟨h.nx r q.1, by rw [h.root r q.1]; exact q.2⟩
  | .oa r off, v, q => by
    simp only [rep] at *
    exact ⟨h.nx r q.1, by rw [h.root r q.1]; exact q.2⟩
theorem repCells_mono {E E' : Env} (h : E.Le E') : ∀ (cs : List D) (b o : Nat), repCells E cs b o → repCells E' cs b o
  | [], _, _, _ => by simp only [repCells]
  | d :: ds, b, o, q => by
    simp only [repCells] at *
    obtain ⟨⟨v, h1, h2, h4, h3⟩, q2⟩ := q
    have := h.cell b o v h1 h2
    exact ⟨⟨v, this.1, this.2, h4, rep_mono h d v h3⟩, repCells_mono h ds b (o + 1) q2⟩
theorem repVals_mono {E E' : Env} (h : E.Le E') : ∀ (cs : List D) (vs : List Value), repVals E cs vs → repVals E' cs vs
  | [], _, q => by simp only [repVals] at *; exact q
  | d :: ds, vs, q => by
    simp only [repVals] at *
    obtain ⟨v, ws, e, h1, h2⟩ := q
    exact ⟨v, ws, e, rep_mono h d v h1, repVals_mono h ds ws h2⟩
end

theorem repCells_iff {E : Env} : ∀ (cs : List D) (b o : Nat), repCells E cs b o ↔
    ∀ (k : Nat) (d : D), cs[k]? = some d → ∃ v, E.w.cell? ⟨b, o + k, none⟩ = some v ∧ E.ok b (o + k) ∧ v.oneCell' = true ∧ rep E d v
  | [], b, o => by simp [repCells]
  | d :: ds, b, o => by
    simp only [repCells]
    rw [repCells_iff ds b (o + 1)]
    constructor
    · rintro ⟨h0, h1⟩ k d' hk
      cases k with
      | zero => simp at hk; subst hk; simpa using h0
      | succ k =>
        have := h1 k d' (by simpa using hk)
        rwa [show o + 1 + k = o + (k + 1) by omega] at this
    · intro h
      refine ⟨by simpa using h 0 d (by simp), fun k d' hk => ?_⟩
      have := h (k + 1) d' (by simpa using hk)
      rwa [show o + (k + 1) = o + 1 + k by omega] at this

theorem repCells_drop {E : Env} {cs : List D} {b o : Nat} (h : repCells E cs b o) (m : Nat) : repCells E (cs.drop m) b (o + m) := by
  rw [repCells_iff] at *
  intro k d hk
  rw [List.getElem?_drop] at hk
  have := h (m + k) d hk
  rwa [← Nat.add_assoc] at this
theorem repCells_take {E : Env} {cs : List D} {b o : Nat} (h : repCells E cs b o) (m : Nat) : repCells E (cs.take m) b o := by
  rw [repCells_iff] at *
  intro k d hk
  rw [List.getElem?_take] at hk
  split at hk
  · exact h k d hk
  · cases hk

theorem repVals_length {E : Env} : ∀ {cs : List D} {vs : List Value}, repVals E cs vs → vs.length = cs.length
  | [], _, h => by simp only [repVals] at h; subst h; rfl
  | d :: ds, vs, h => by
    simp only [repVals] at h
    obtain ⟨v, ws, rfl, _, h2⟩ := h
    simp [repVals_length h2]
theorem repVals_iff {E : Env} : ∀ {cs : List D} {vs : List Value}, repVals E cs vs ↔ vs.length = cs.length ∧ ∀ (k : Nat) (d : D), cs[k]? = some d → ∃ v, vs[k]? = some v ∧ rep E d v
  | [], vs => by
    simp only [repVals]
    constructor
    · rintro rfl; simp
    · rintro ⟨h, _⟩; exact List.eq_nil_of_length_eq_zero h
  | d :: ds, vs => by
    simp only [repVals]
    constructor
    · rintro ⟨v, ws, rfl, h1, h2⟩
      rw [repVals_iff] at h2
      refine ⟨by simp [h2.1], fun k d' hk => ?_⟩
      cases k with
      | zero => simp at hk; subst hk; exact ⟨v, by simp, h1⟩
      | succ k => simpa using h2.2 k d' (by simpa using hk)
    · rintro ⟨hl, h⟩
      cases vs with
      | nil => simp at hl
      | cons v ws =>
        refine ⟨v, ws, rfl, ?_, ?_⟩
        · obtain ⟨v', hv, hr⟩ := h 0 d (by simp)
          simp at hv; subst hv; exact hr
        · rw [repVals_iff]
          exact ⟨by simpa using hl, fun k d' hk => by simpa using h (k + 1) d' (by simpa using hk)⟩
theorem repVals_append {E : Env} {cs ds : List D} {vs ws : List Value} (h : repVals E cs vs) (k : repVals E ds ws) : repVals E (cs ++ ds) (vs ++ ws) := by
  induction cs generalizing vs with
  | nil => simp only [repVals] at h; subst h; simpa using k
  | cons d cs ih =>
    simp only [repVals] at h
    obtain ⟨v, us, rfl, h1, h2⟩ := h
    simp only [List.cons_append, repVals]
    exact ⟨v, us ++ ws, rfl, h1, ih h2⟩

/-- Values of one cell. -/
def D.cell : D → Bool
  | .ag _ | .tup _ | .junk => false
  | _ => true
theorem rep_oneCell {E : Env} {d : D} {v : Value} (hd : d.cell = true) (h : rep E d v) : v.oneCell' = true := by
  cases d <;> simp only [D.cell, Bool.false_eq_true] at hd <;> simp only [rep] at h
  all_goals first
    | (subst h; rfl)
    | (obtain ⟨_, _, rfl, _⟩ := h; rfl)
    | (obtain ⟨_, rfl, _⟩ := h; rfl)
    | (obtain ⟨_, _, _, rfl⟩ := h; rfl)
    | skip
  case os r off n =>
    obtain ⟨_, h⟩ := h
    unfold osRep at h
    split at h
    · obtain ⟨rfl, _⟩ := h; rfl
    · obtain ⟨_, _, rfl, _⟩ := h; rfl
theorem cells_oneCell {v : Value} (h : v.oneCell' = true) : v.cells = #[v] := by
  cases v <;> simp_all [Value.oneCell', Value.cells]

theorem rep_of_pure {E : Env} {d : D} {v : Value} (h : rep E.pure d v) : rep E d v := rep_mono E.pure_le d v h
mutual
/-- No reference to a root stands in it. -/
def topP : D → Bool
  | .os _ _ _ | .oa _ _ => false
  | .ag l | .tup l | .fn _ l => topL l
  | .ifc _ d => topP d
  | _ => true
def topL : List D → Bool
  | [] => true
  | d :: ds => match topP d with | true => topL ds | false => false
end
mutual
theorem topP_pure {E : Env} : ∀ (d : D) (v : Value), topP d = true → rep E d v → rep E.pure d v
  | .junk, _, _, _ => by simp only [rep]
  | .b x, v, _, q => by simp only [rep] at *; exact q
  | .i k n, v, _, q => by simp only [rep] at *; exact q
  | .s x, v, _, q => by simp only [rep] at *; exact q
  | .nils, v, _, q => by simp only [rep] at *; exact q
  | .nilf, v, _, q => by simp only [rep] at *; exact q
  | .nilp, v, _, q => by simp only [rep] at *; exact q
  | .nili, v, _, q => by simp only [rep] at *; exact q
  | .sl sz n cs, v, _, q => by simp only [rep] at *; exact q
  | .pt cs, v, _, q => by simp only [rep] at *; exact q
  | .ag cs, v, h, q => by
    simp only [rep] at *
    obtain ⟨vs, e, hv, h1⟩ := q
    exact ⟨vs, e, topL_pure cs vs (by simpa only [topP] using h) hv, h1⟩
  | .tup cs, v, h, q => by
    simp only [rep] at *
    obtain ⟨vs, e, hv⟩ := q
    exact ⟨vs, e, topL_pure cs vs (by simpa only [topP] using h) hv⟩
  | .fn f cs, v, h, q => by
    simp only [rep] at *
    obtain ⟨vs, e, hv⟩ := q
    exact ⟨vs, e, topL_pure cs vs (by simpa only [topP] using h) hv⟩
  | .ifc t d, v, h, q => by
    simp only [rep] at *
    obtain ⟨u, e, hd⟩ := q
    exact ⟨u, e, topP_pure d u (by simpa only [topP] using h) hd⟩
  | .os r off n, v, h, q => by simp only [topP, Bool.false_eq_true] at h
  | .oa r off, v, h, q => by simp only [topP, Bool.false_eq_true] at h
theorem topL_pure {E : Env} : ∀ (cs : List D) (vs : List Value), topL cs = true → repVals E cs vs → repVals E.pure cs vs
  | [], _, _, q => by simp only [repVals] at *; exact q
  | d :: ds, vs, h, q => by
    simp only [topL] at h
    split at h
    · rename_i hd
      simp only [repVals] at *
      obtain ⟨v, ws, e, h1, h2⟩ := q
      exact ⟨v, ws, e, topP_pure d v hd h1, topL_pure ds ws h h2⟩
    · cases h
end
/-- Where a root's cells are told: boxes may hold references, rows may not. -/
def Env.at (E : Env) (lit : Bool) : Env := match lit with | true => E | false => E.pure
theorem Env.Le.at {E E' : Env} (h : E.Le E') (lit : Bool) : (E.at lit).Le (E'.at lit) := by cases lit <;> simp only [Env.at] <;> first | exact h | exact h.pure
theorem rep_of_at {E : Env} {lit : Bool} {d : D} {v : Value} (h : rep (E.at lit) d v) : rep E d v := by cases lit <;> simp only [Env.at] at h <;> first | exact h | exact rep_of_pure h
theorem rep_at {E : Env} (lit : Bool) {d : D} {v : Value} (h : rep E.pure d v) : rep (E.at lit) d v := by cases lit <;> simp only [Env.at] <;> first | exact h | exact rep_of_pure h
theorem repVals_of_pure {E : Env} {ds : List D} {vs : List Value} (h : repVals E.pure ds vs) : repVals E ds vs := repVals_mono E.pure_le ds vs h
theorem repVals_at {E : Env} (lit : Bool) {ds : List D} {vs : List Value} (h : repVals E.pure ds vs) : repVals (E.at lit) ds vs := by cases lit <;> simp only [Env.at] <;> first | exact h | exact repVals_of_pure h
theorem repVals_of_at {E : Env} {lit : Bool} {ds : List D} {vs : List Value} (h : repVals (E.at lit) ds vs) : repVals E ds vs := by cases lit <;> simp only [Env.at] at h <;> first | exact h | exact repVals_of_pure h
mutual
/-- nil and the empty slice are one. -/
inductive Wk : D → D → Prop
  | refl (d : D) : Wk d d
  | nils (sz : Nat) : Wk .nils (.sl sz 0 [])
  | ag {l l' : List D} (h : WkL l l') : Wk (.ag l) (.ag l')
  | tup {l l' : List D} (h : WkL l l') : Wk (.tup l) (.tup l')
inductive WkL : List D → List D → Prop
  | nil : WkL [] []
  | cons {d d' : D} {l l' : List D} (h : Wk d d') (t : WkL l l') : WkL (d :: l) (d' :: l')
end
mutual
theorem Wk.rep {E : Env} : ∀ {d d' : D}, Wk d d' → ∀ v, rep E d v → rep E d' v
  | _, _, .refl d, v, h => h
  | _, _, .nils sz, v, h => by
    simp only [Px.rep] at *
    subst h
    exact ⟨none, 0, rfl, Nat.le_refl _, Nat.zero_le _, by simp, fun h => absurd h (by omega)⟩
  | _, _, .ag hl, v, h => by
    simp only [Px.rep] at *
    obtain ⟨vs, e, hv, h1⟩ := h
    exact ⟨vs, e, hl.rep vs hv, h1⟩
  | _, _, .tup hl, v, h => by
    simp only [Px.rep] at *
    obtain ⟨vs, e, hv⟩ := h
    exact ⟨vs, e, hl.rep vs hv⟩
theorem WkL.rep {E : Env} : ∀ {l l' : List D}, WkL l l' → ∀ vs, repVals E l vs → repVals E l' vs
  | _, _, .nil, vs, h => h
  | _, _, .cons hd ht, vs, h => by
    simp only [repVals] at *
    obtain ⟨v, ws, e, h1, h2⟩ := h
    exact ⟨v, ws, e, hd.rep v h1, ht.rep ws h2⟩
end

end Go.Px
end

section
namespace Go.Px
open Go.RowKit

def get {α : Type} : List (Nat × α) → Nat → Option α
  | [], _ => none
  | (k, v) :: l, t => match Nat.beq k t with | true => some v | false => get l t
theorem get_cons {α : Type} (k : Nat) (v : α) (l : List (Nat × α)) (t : Nat) : get ((k, v) :: l) t = if k = t then some v else get l t := by
  simp only [get]
  by_cases h : k = t
  · subst h; simp
  · have : Nat.beq k t = false := by
      cases hb : Nat.beq k t with
      | false => rfl
      | true => exact absurd (Nat.eq_of_beq_eq_true hb) h
    simp [this, h]

structure Root where
  E : TypeId
  sz : Nat
  cs : List D
  fz : Nat
  own : Bool
  giv : Bool
  lit : Bool
  deriving Inhabited

structure Base where
  w : World
  ok : Nat → Nat → Prop
  giv : Nat → Prop
  N : Nat
  E0 : Env
  dl : List Deferred

structure St where
  σ : List (Nat × D)
  h : List (Nat × Root)
  nx : Nat

def okOf (B : Base) (h : List (Nat × Root)) (ρ : Nat → RC) (b o : Nat) : Prop :=
  (B.ok b o ∨ B.w.heap.size ≤ b) ∧ ∀ r R, get h r = some R → R.own = true → (ρ r).blk = some b → o < R.fz

def St.has (st : St) (r : Nat) : Prop := r < st.nx ∨ (get st.h r).isSome = true
theorem St.has_of {st : St} {r : Nat} {R : Root} (h : get st.h r = some R) : st.has r := .inr (by rw [h]; rfl)
def St.env (B : Base) (st : St) (w : World) (ρ : Nat → RC) : Env := ⟨w, okOf B st.h ρ, ρ, st.has⟩

def RootBlk (E : Env) (R : Root) (c : RC) : Prop :=
  match c.blk with
  | none => R.cs = [] ∧ c.cap = 0
  | some b => ∃ cells, E.w.heap[b]? = some (.cells cells R.E (0, 0)) ∧ cells.size = c.cap * R.sz ∧ c.cap ≤ maxLen ∧ R.cs.length ≤ cells.size ∧
      ∀ (k : Nat) (d : D), R.cs[k]? = some d → ∃ v, cells[k]? = some v ∧ v.oneCell' = true ∧ rep (E.at R.lit) d v ∧ (R.own = false → E.ok b k)

structure RootOK (E : Env) (r : Nat) (R : Root) : Prop where
  lt : E.dom r
  sz : (E.ρ r).sz = R.sz
  pos : 0 < R.sz
  fz : R.fz ≤ R.cs.length
  blk : RootBlk E R (E.ρ r)

structure Ext (B : Base) (w : World) : Prop where
  os : w.os = B.w.os
  tape : w.tape = B.w.tape
  output : w.output = B.w.output
  size : B.w.heap.size ≤ w.heap.size
  block : ∀ b, b < B.w.heap.size → ¬ B.giv b → w.heap[b]? = B.w.heap[b]?

structure SatR (B : Base) (st : St) (a : Act) (w : World) (ρ : Nat → RC) : Prop where
  tmps : ∀ t d, get st.σ t = some d → ∃ v, a.tmps[t]? = some v ∧ rep (st.env B w ρ) d v
  roots : ∀ r R, get st.h r = some R → RootOK (st.env B w ρ) r R
  inj : ∀ r r' R R' b, get st.h r = some R → get st.h r' = some R' → R.own = true → R'.own = true → (ρ r).blk = some b → (ρ r').blk = some b → r = r'
  size : a.tmps.size = B.N
  defs : a.defers = B.dl
  ext : Ext B w
  fresh : ∀ r R b, get st.h r = some R → R.own = true → (ρ r).blk = some b → (R.giv = false → B.w.heap.size ≤ b) ∧ (B.w.heap.size ≤ b ∨ B.giv b)
  le : B.E0.Le (st.env B w ρ)
def Sat (B : Base) (st : St) (a : Act) (w : World) : Prop := ∃ ρ, SatR B st a w ρ

theorem blk_lt_size {w : World} {b : Nat} {o : Obj} (h : w.heap[b]? = some o) : b < w.heap.size := (Array.getElem?_eq_some_iff.1 h).1
theorem cell_of_heap {w : World} {b : Nat} {cells : Array Value} {E : TypeId} {f : Nat × Nat} (h : w.heap[b]? = some (.cells cells E f)) (o : Nat) : w.cell? ⟨b, o, none⟩ = cells[o]? := by
  simp [World.cell?, h]
theorem heap_of_cell {w : World} {b o : Nat} {v : Value} (h : w.cell? ⟨b, o, none⟩ = some v) : b < w.heap.size := World.block_lt_of_cell? w ⟨b, o, none⟩ h
theorem cell_same {w w' : World} {b : Nat} (h : w'.heap[b]? = w.heap[b]?) (o : Nat) : w'.cell? ⟨b, o, none⟩ = w.cell? ⟨b, o, none⟩ := by simp [World.cell?, h]

theorem RootBlk.mono {E E' : Env} {R : Root} {c : RC} (h : RootBlk E R c) (hle : E.Le E') (hb : ∀ b, c.blk = some b → E'.w.heap[b]? = E.w.heap[b]?)
    (hok : ∀ b k, c.blk = some b → E.ok b k → k < R.cs.length → E'.ok b k) : RootBlk E' R c := by
  unfold RootBlk at *
  cases hc : c.blk with
  | none => simpa [hc] using h
  | some b =>
    simp only [hc] at h ⊢
    obtain ⟨cells, h1, h2, h3, h4, h5⟩ := h
    refine ⟨cells, by rw [hb b hc]; exact h1, h2, h3, h4, fun k d hk => ?_⟩
    obtain ⟨v, q1, q2, q3, q4⟩ := h5 k d hk
    exact ⟨v, q1, q2, rep_mono (hle.at _) d v q3, fun ho => hok b k hc (q4 ho) (by
      rcases Nat.lt_or_ge k R.cs.length with h | h
      · exact h
      · rw [List.getElem?_eq_none h] at hk; cases hk)⟩

section
variable {B : Base} {st : St} {a : Act} {w w' : World} {ρ : Nat → RC}

/-- A value into a temporary. -/
theorem SatR.put (s : SatR B st a w ρ) {t : Nat} {d : D} {v : Value} (ht : t < B.N) (hd : rep (st.env B w ρ) d v) :
    SatR B { st with σ := (t, d) :: st.σ } (a.put (some t) v) w ρ where
  tmps := by
    intro t' d' h
    rw [get_cons] at h
    have hs := s.size
    by_cases e : t = t'
    · subst e
      simp only [if_true, Option.some.injEq] at h
      subst h
      exact ⟨v, by simp [Act.put, hs, ht], hd⟩
    · rw [if_neg e] at h
      obtain ⟨v', h1, h2⟩ := s.tmps t' d' h
      refine ⟨v', ?_, h2⟩
      simp only [Act.put]
      rw [Array.getElem?_setIfInBounds_ne e]
      exact h1
  roots := s.roots
  inj := s.inj
  size := by simp [Act.put, s.size]
  defs := s.defs
  ext := s.ext
  fresh := s.fresh
  le := s.le

theorem SatR.forget (s : SatR B st a w ρ) {t : Nat} (ht : t < B.N) (v : Value) : SatR B { st with σ := (t, .junk) :: st.σ } (a.put (some t) v) w ρ :=
  s.put ht (by simp only [rep])

/-- The world goes on: what was there is as it was. -/
theorem SatR.env_le (_hsz : w.heap.size ≤ w'.heap.size) (hb : ∀ b, b < w.heap.size → w'.heap[b]? = w.heap[b]?) : (st.env B w ρ).Le (st.env B w' ρ) where
  cell := fun b o v h1 h2 => ⟨by
    show w'.cell? _ = _
    rw [cell_same (hb b (heap_of_cell h1))]; exact h1, h2⟩
  root := fun _ _ => rfl
  nx := fun _ h => h
theorem SatR.world (s : SatR B st a w ρ) (hsz : w.heap.size ≤ w'.heap.size) (hb : ∀ b, b < w.heap.size → w'.heap[b]? = w.heap[b]?)
    (ho : w'.os = w.os) (ht : w'.tape = w.tape) (hout : w'.output = w.output) : SatR B st a w' ρ := by
  have hle := SatR.env_le (B := B) (st := st) (ρ := ρ) hsz hb
  refine ⟨fun t d h => ?_, fun r R h => ?_, s.inj, s.size, s.defs, ?_, s.fresh, s.le.trans hle⟩
  · obtain ⟨v, h1, h2⟩ := s.tmps t d h
    exact ⟨v, h1, rep_mono hle d v h2⟩
  · have q := s.roots r R h
    refine ⟨q.lt, q.sz, q.pos, q.fz, q.blk.mono hle (fun b hc => ?_) (fun b k _ h _ => h)⟩
    have qb := q.blk
    unfold RootBlk at qb
    have hc' : ((st.env B w ρ).ρ r).blk = some b := hc
    rw [hc'] at qb
    obtain ⟨cells, h1, _⟩ := qb
    exact hb b (blk_lt_size h1)
  · exact ⟨ho.trans s.ext.os, ht.trans s.ext.tape, hout.trans s.ext.output, Nat.le_trans s.ext.size hsz, fun b h1 h2 => (hb b (Nat.lt_of_lt_of_le h1 s.ext.size)).trans (s.ext.block b h1 h2)⟩
theorem SatR.below (s : SatR B st a w ρ) (h : Below w.heap.size w w') : SatR B st a w' ρ := s.world h.size h.block h.os h.tape h.output
theorem SatR.alloc_frozen (s : SatR B st a w ρ) (o : Obj) : SatR B st a (w.alloc o) ρ :=
  s.below ((Below.refl _ _).alloc (Nat.le_refl _) o)
theorem SatR.drew (s : SatR B st a w ρ) : SatR B st a w.drew ρ := s.below (Below.refl _ _).drew

/-- A new block, and a root for it. -/
theorem SatR.alloc (s : SatR B st a w ρ) (id : Nat) (hid : ¬ st.has id) (R : Root) (cells : Array Value) (cap : Nat) (hpos : 0 < R.sz) (hsz : cells.size = cap * R.sz) (hcap : cap ≤ maxLen)
    (hlen : R.cs.length ≤ cells.size) (hfz : R.fz ≤ R.cs.length) (hcs : ∀ (k : Nat) (d : D), R.cs[k]? = some d → ∃ v, cells[k]? = some v ∧ v.oneCell' = true ∧ rep ((st.env B w ρ).at R.lit) d v) :
    let ρ' := fun r => if r = id then (⟨some w.heap.size, R.sz, cap⟩ : RC) else ρ r
    let st' : St := { st with h := (id, R) :: st.h }
    SatR B st' a (w.alloc (.cells cells R.E)) ρ' ∧ (st.env B w ρ).Le (st'.env B (w.alloc (.cells cells R.E)) ρ') := by
  intro ρ' st'
  have hnew : ∀ r, st.has r → ρ' r = ρ r := fun r h => by
    have : r ≠ id := fun e => hid (e ▸ h)
    simp [ρ', this]
  have hself : st'.has id := St.has_of (R := R) (by show get ((id, R) :: st.h) id = _; rw [get_cons, if_pos rfl])
  have hhas : ∀ r, st.has r → st'.has r := fun r h => h.imp (fun h => h) (fun h => by
    show (get ((id, R) :: st.h) r).isSome = true
    rw [get_cons]; split
    · rfl
    · exact h)
  have hlt : ∀ r R', get st.h r = some R' → st.has r := fun r R' h => (s.roots r R' h).lt
  have hblk : ∀ r R' b, get st.h r = some R' → (ρ r).blk = some b → b < w.heap.size := fun r R' b h hb => by
    have q := (s.roots r R' h).blk
    unfold RootBlk at q
    have hb' : ((st.env B w ρ).ρ r).blk = some b := hb
    rw [hb'] at q
    obtain ⟨c, h1, _⟩ := q
    exact blk_lt_size h1
  have hle : (st.env B w ρ).Le (st'.env B (w.alloc (.cells cells R.E)) ρ') := by
    refine ⟨fun b o v h1 h2 => ⟨?_, ?_⟩, hnew, hhas⟩
    · show (w.alloc _).cell? _ = _
      rw [cell_same (heap_alloc_old w _ b (heap_of_cell h1))]; exact h1
    · refine ⟨h2.1, fun r R' hr ho hb => ?_⟩
      have hr' : get ((id, R) :: st.h) r = some R' := hr
      rw [get_cons] at hr'
      by_cases e : id = r
      · subst e
        simp only [ρ', if_true, Option.some.injEq] at hb
        exact absurd (heap_of_cell h1) (by rw [← hb]; exact Nat.lt_irrefl _)
      · rw [if_neg e] at hr'
        rw [hnew r (hlt r R' hr')] at hb
        exact h2.2 r R' hr' ho hb
  refine ⟨⟨fun t d h => ?_, fun r R' h => ?_, ?_, s.size, s.defs, ?_, ?_, s.le.trans hle⟩, hle⟩
  · obtain ⟨v, h1, h2⟩ := s.tmps t d h
    exact ⟨v, h1, rep_mono hle d v h2⟩
  · have h' : get ((id, R) :: st.h) r = some R' := h
    rw [get_cons] at h'
    by_cases e : id = r
    · subst e
      simp only [if_true, Option.some.injEq] at h'
      subst h'
      refine ⟨hself, by simp [St.env, ρ'], hpos, hfz, ?_⟩
      unfold RootBlk
      simp only [St.env, ρ', if_true]
      refine ⟨cells, heap_alloc_new w _, hsz, hcap, hlen, fun k d hk => ?_⟩
      obtain ⟨v, q1, q2, q3⟩ := hcs k d hk
      refine ⟨v, q1, q2, rep_mono (hle.at _) d v q3, fun ho => ⟨.inr s.ext.size, fun r R' hr ho' hb => ?_⟩⟩
      have hr' : get ((id, R) :: st.h) r = some R' := hr
      rw [get_cons] at hr'
      by_cases e : id = r
      · subst e
        simp only [if_true, Option.some.injEq] at hr'
        subst hr'
        rw [ho] at ho'; cases ho'
      · rw [if_neg e] at hr'
        have hb' : (ρ r).blk = some w.heap.size := by
          have := hb
          simp only [if_neg (Ne.symm e)] at this
          exact this
        exact absurd (hblk r R' _ hr' hb') (Nat.lt_irrefl _)
    · rw [if_neg e] at h'
      have q := s.roots r R' h'
      have hρ : (st'.env B (w.alloc (.cells cells R.E)) ρ').ρ r = (st.env B w ρ).ρ r := hnew r q.lt
      refine ⟨hhas _ q.lt, by rw [hρ]; exact q.sz, q.pos, q.fz, ?_⟩
      rw [hρ]
      refine q.blk.mono hle (fun b hc => heap_alloc_old w _ b (hblk r R' b h' hc)) (fun b k hc hok _ => ?_)
      refine ⟨hok.1, fun r2 R2 hr2 ho2 hb2 => ?_⟩
      have hr2' : get ((id, R) :: st.h) r2 = some R2 := hr2
      rw [get_cons] at hr2'
      by_cases e2 : id = r2
      · subst e2
        simp only [ρ', if_true, Option.some.injEq] at hb2
        have := hblk r R' b h' hc
        omega
      · rw [if_neg e2] at hr2'
        rw [hnew r2 (hlt r2 R2 hr2')] at hb2
        exact hok.2 r2 R2 hr2' ho2 hb2
  · intro r1 r2 R1 R2 b h1 h2 o1 o2 b1 b2
    have h1' : get ((id, R) :: st.h) r1 = some R1 := h1
    have h2' : get ((id, R) :: st.h) r2 = some R2 := h2
    rw [get_cons] at h1' h2'
    by_cases e1 : id = r1 <;> by_cases e2 : id = r2
    · exact e1.symm.trans e2
    · exfalso
      rw [if_neg e2] at h2'
      subst e1
      simp only [ρ', if_true, Option.some.injEq] at b1
      rw [hnew r2 (hlt _ _ h2')] at b2
      have := hblk _ _ _ h2' b2
      omega
    · exfalso
      rw [if_neg e1] at h1'
      subst e2
      simp only [ρ', if_true, Option.some.injEq] at b2
      rw [hnew r1 (hlt _ _ h1')] at b1
      have := hblk _ _ _ h1' b1
      omega
    · rw [if_neg e1] at h1'
      rw [if_neg e2] at h2'
      rw [hnew _ (hlt _ _ h1')] at b1
      rw [hnew _ (hlt _ _ h2')] at b2
      exact s.inj r1 r2 R1 R2 b h1' h2' o1 o2 b1 b2
  · have e := s.ext
    exact ⟨e.os, e.tape, e.output, by simp; have := e.size; omega, fun b h1 h2 => (heap_alloc_old w _ b (Nat.lt_of_lt_of_le h1 e.size)).trans (e.block b h1 h2)⟩
  · intro r R' b h o hb
    have h' : get ((id, R) :: st.h) r = some R' := h
    rw [get_cons] at h'
    by_cases e : id = r
    · subst e
      simp only [if_true, Option.some.injEq] at h'
      subst h'
      simp only [ρ', if_true, Option.some.injEq] at hb
      subst hb
      exact ⟨fun _ => s.ext.size, .inl s.ext.size⟩
    · rw [if_neg e] at h'
      rw [hnew _ (hlt _ _ h')] at hb
      exact s.fresh r R' b h' o hb
end
end Go.Px
end

section
namespace Go.Px
open Go.RowKit
section
variable {B : Base} {st : St} {a : Act} {w w' : World} {ρ : Nat → RC}

theorem SatR.blkOf (s : SatR B st a w ρ) {r : Nat} {R : Root} {b : Nat} (hr : get st.h r = some R) (hb : (ρ r).blk = some b) :
    ∃ cells, w.heap[b]? = some (.cells cells R.E (0, 0)) ∧ cells.size = (ρ r).cap * R.sz ∧ (ρ r).cap ≤ maxLen ∧ R.cs.length ≤ cells.size ∧
      ∀ (k : Nat) (d : D), R.cs[k]? = some d → ∃ v, cells[k]? = some v ∧ v.oneCell' = true ∧ rep ((st.env B w ρ).at R.lit) d v ∧ (R.own = false → okOf B st.h ρ b k) := by
  have q := (s.roots r R hr).blk
  unfold RootBlk at q
  have hb' : ((st.env B w ρ).ρ r).blk = some b := hb
  rw [hb'] at q
  exact q

theorem St.has_cons {σ : List (Nat × D)} {h : List (Nat × Root)} {nx q r : Nat} {R : Root} (k : St.has ⟨σ, h, nx⟩ q) : St.has ⟨σ, (r, R) :: h, nx⟩ q :=
  k.imp (fun h => h) (fun k => by
    show (get ((r, R) :: h) q).isSome = true
    rw [get_cons]; split
    · rfl
    · exact k)
/-- Another abstraction of the same memory. -/
theorem SatR.reheap (s : SatR B st a w ρ) (h' : List (Nat × Root)) (nx' : Nat) (ρ' : Nat → RC) (hnx : ∀ r, st.has r → St.has ⟨st.σ, h', nx'⟩ r) (hρ : ∀ r, st.has r → ρ' r = ρ r)
    (hok : ∀ b o, okOf B st.h ρ b o → okOf B h' ρ' b o)
    (hroots : (st.env B w ρ).Le (St.env B ⟨st.σ, h', nx'⟩ w ρ') → ∀ r R, get h' r = some R → RootOK (St.env B ⟨st.σ, h', nx'⟩ w ρ') r R)
    (hinj : ∀ r r' R R' b, get h' r = some R → get h' r' = some R' → R.own = true → R'.own = true → (ρ' r).blk = some b → (ρ' r').blk = some b → r = r')
    (hfresh : ∀ r R b, get h' r = some R → R.own = true → (ρ' r).blk = some b → (R.giv = false → B.w.heap.size ≤ b) ∧ (B.w.heap.size ≤ b ∨ B.giv b)) :
    SatR B ⟨st.σ, h', nx'⟩ a w ρ' ∧ (st.env B w ρ).Le (St.env B ⟨st.σ, h', nx'⟩ w ρ') := by
  have hle : (st.env B w ρ).Le (St.env B ⟨st.σ, h', nx'⟩ w ρ') := ⟨fun b o v h1 h2 => ⟨h1, hok b o h2⟩, hρ, hnx⟩
  exact ⟨⟨fun t d h => by
    obtain ⟨v, h1, h2⟩ := s.tmps t d h
    exact ⟨v, h1, rep_mono hle d v h2⟩, hroots hle, hinj, s.size, s.defs, s.ext, hfresh, s.le.trans hle⟩, hle⟩

/-- A root that is no longer written. -/
theorem SatR.retire (s : SatR B st a w ρ) {r : Nat} {R : Root} (hr : get st.h r = some R) (j : Nat) (hg : R.giv = false ∨ j = 0) :
    SatR B ⟨st.σ, (r, { R with cs := R.cs.take j, own := false, fz := 0 }) :: st.h, st.nx⟩ a w ρ ∧ (st.env B w ρ).Le (St.env B ⟨st.σ, (r, { R with cs := R.cs.take j, own := false, fz := 0 }) :: st.h, st.nx⟩ w ρ) := by
  have hok : ∀ b o, okOf B st.h ρ b o → okOf B ((r, { R with cs := R.cs.take j, own := false, fz := 0 }) :: st.h) ρ b o := fun b o h => ⟨h.1, fun r' R' h1 h2 h3 => by
    rw [get_cons] at h1
    split at h1
    · cases h1; cases h2
    · exact h.2 r' R' h1 h2 h3⟩
  have hhas : ∀ q, st.has q → St.has ⟨st.σ, (r, { R with cs := R.cs.take j, own := false, fz := 0 }) :: st.h, st.nx⟩ q := fun q h => St.has_cons h
  refine s.reheap _ _ ρ hhas (fun _ _ => rfl) hok (fun hle r' R' h' => ?_) ?_ ?_
  · rw [get_cons] at h'
    split at h'
    · rename_i e
      subst e
      simp only [Option.some.injEq] at h'
      subst h'
      have q := s.roots r R hr
      refine ⟨hhas _ q.lt, q.sz, q.pos, Nat.zero_le _, ?_⟩
      have qb := q.blk
      unfold RootBlk at qb ⊢
      show match (ρ r).blk with | none => _ | some b => _
      have : ((st.env B w ρ).ρ r) = ρ r := rfl
      rw [this] at qb
      cases hb : (ρ r).blk with
      | none => simp only [hb] at qb; exact ⟨by simp [qb.1], qb.2⟩
      | some b =>
        simp only [hb] at qb
        obtain ⟨cells, h1, h2, h3, h4, h5⟩ := qb
        refine ⟨cells, h1, h2, h3, by simp only [List.length_take]; omega, fun k d hk => ?_⟩
        rw [List.getElem?_take] at hk
        have hkj : k < j := by
          rcases Nat.lt_or_ge k j with h | h
          · exact h
          · rw [if_neg (by omega)] at hk; cases hk
        rw [if_pos hkj] at hk
        have hg' : R.giv = false := hg.resolve_right (by omega)
        obtain ⟨v, q1, q2, q3, q4⟩ := h5 k d hk
        refine ⟨v, q1, q2, rep_mono (hle.at _) d v q3, fun _ => ?_⟩
        cases ho : R.own with
        | false => exact hok b k (q4 ho)
        | true =>
          refine ⟨.inr ((s.fresh r R b hr ho hb).1 hg'), fun r2 R2 g2 o2 b2 => ?_⟩
          rw [get_cons] at g2
          split at g2
          · cases g2; cases o2
          · rename_i ne
            exact absurd (s.inj r r2 R R2 b hr g2 ho o2 hb b2) ne
    · have q := s.roots r' R' h'
      exact ⟨hhas _ q.lt, q.sz, q.pos, q.fz, q.blk.mono hle (fun _ _ => rfl) (fun b k _ h _ => hok b k h)⟩
  · intro r1 r2 R1 R2 b g1 g2 o1 o2 b1 b2
    rw [get_cons] at g1 g2
    split at g1
    · cases g1; cases o1
    · split at g2
      · cases g2; cases o2
      · exact s.inj r1 r2 R1 R2 b g1 g2 o1 o2 b1 b2
  · intro r1 R1 b g1 o1 b1
    rw [get_cons] at g1
    split at g1
    · cases g1; cases o1
    · exact s.fresh r1 R1 b g1 o1 b1

/-- What counts of the heap is what is found in it. -/
theorem SatR.hcongr (s : SatR B st a w ρ) (h' : List (Nat × Root)) (he : ∀ r, get h' r = get st.h r) :
    SatR B ⟨st.σ, h', st.nx⟩ a w ρ ∧ (st.env B w ρ).Le (St.env B ⟨st.σ, h', st.nx⟩ w ρ) := by
  have hok : ∀ b o, okOf B st.h ρ b o → okOf B h' ρ b o := fun b o h => ⟨h.1, fun r R h1 h2 h3 => h.2 r R (by rw [← he]; exact h1) h2 h3⟩
  have hhas : ∀ q, st.has q → St.has ⟨st.σ, h', st.nx⟩ q := fun q h => h.imp (fun h => h) (fun h => by show (get h' q).isSome = true; rw [he]; exact h)
  refine s.reheap h' st.nx ρ hhas (fun _ _ => rfl) hok (fun hle r R h => ?_) ?_ ?_
  · rw [he] at h
    have q := s.roots r R h
    exact ⟨hhas _ q.lt, q.sz, q.pos, q.fz, q.blk.mono hle (fun _ _ => rfl) (fun b k _ h _ => hok b k h)⟩
  · intro r1 r2 R1 R2 b g1 g2
    rw [he] at g1 g2
    exact s.inj r1 r2 R1 R2 b g1 g2
  · intro r R b g
    rw [he] at g
    exact s.fresh r R b g

/-- More ids are spent. -/
theorem SatR.bump (s : SatR B st a w ρ) {nx' : Nat} (hn : st.nx ≤ nx') : SatR B ⟨st.σ, st.h, nx'⟩ a w ρ ∧ (st.env B w ρ).Le (St.env B ⟨st.σ, st.h, nx'⟩ w ρ) := by
  have hhas : ∀ q, st.has q → St.has ⟨st.σ, st.h, nx'⟩ q := fun q h => h.imp (fun h => Nat.lt_of_lt_of_le h hn) (fun h => h)
  refine s.reheap st.h nx' ρ hhas (fun _ _ => rfl) (fun _ _ h => h) (fun hle r R h => ?_) s.inj s.fresh
  have q := s.roots r R h
  exact ⟨hhas _ q.lt, q.sz, q.pos, q.fz, q.blk.mono hle (fun _ _ => rfl) (fun b k _ h _ => h)⟩

/-- A root that is the nil slice. -/
theorem SatR.nilroot (s : SatR B st a w ρ) (id : Nat) (hid : ¬ st.has id) (R : Root) (hpos : 0 < R.sz) (hcs : R.cs = []) (hfz : R.fz = 0) :
    let ρ' := fun q => if q = id then (⟨none, R.sz, 0⟩ : RC) else ρ q
    SatR B ⟨st.σ, (id, R) :: st.h, st.nx⟩ a w ρ' ∧ (st.env B w ρ).Le (St.env B ⟨st.σ, (id, R) :: st.h, st.nx⟩ w ρ') := by
  intro ρ'
  have hlt : ∀ r R', get st.h r = some R' → st.has r := fun r R' h => (s.roots r R' h).lt
  have hρ : ∀ q, st.has q → ρ' q = ρ q := fun q h => by
    have : q ≠ id := fun e => hid (e ▸ h)
    simp [ρ', this]
  have hself : St.has ⟨st.σ, (id, R) :: st.h, st.nx⟩ id := St.has_of (R := R) (by show get ((id, R) :: st.h) id = _; rw [get_cons, if_pos rfl])
  have hhas : ∀ q, st.has q → St.has ⟨st.σ, (id, R) :: st.h, st.nx⟩ q := fun q h => St.has_cons h
  have hρn : (ρ' id).blk = none := by simp [ρ']
  have old : ∀ q Q, get ((id, R) :: st.h) q = some Q → (q = id ∧ Q = R) ∨ get st.h q = some Q := by
    intro q Q h
    rw [get_cons] at h
    split at h
    · rename_i e; cases h; exact .inl ⟨e.symm, rfl⟩
    · exact .inr h
  have hok : ∀ b o, okOf B st.h ρ b o → okOf B ((id, R) :: st.h) ρ' b o := fun b o h => ⟨h.1, fun q Q h1 h2 h3 => by
    rcases old q Q h1 with ⟨rfl, rfl⟩ | h1
    · rw [hρn] at h3; cases h3
    · rw [hρ q (hlt q Q h1)] at h3
      exact h.2 q Q h1 h2 h3⟩
  refine s.reheap _ _ ρ' hhas hρ hok (fun hle q Q hq => ?_) ?_ ?_
  · rcases old q Q hq with ⟨rfl, rfl⟩ | h1
    · refine ⟨hself, by simp [St.env, ρ'], hpos, by rw [hfz]; exact Nat.zero_le _, ?_⟩
      unfold RootBlk
      simp only [St.env, ρ', if_true]
      exact ⟨hcs, trivial⟩
    · have qq := s.roots q Q h1
      refine ⟨hhas _ qq.lt, by show (ρ' q).sz = _; rw [hρ q qq.lt]; exact qq.sz, qq.pos, qq.fz, ?_⟩
      show RootBlk _ _ (ρ' q)
      rw [hρ q qq.lt]
      exact qq.blk.mono hle (fun _ _ => rfl) (fun b j _ h _ => hok b j h)
  · intro r1 r2 R1 R2 b g1 g2 o1 o2 b1 b2
    rcases old r1 R1 g1 with ⟨rfl, rfl⟩ | g1
    · rw [hρn] at b1; cases b1
    · rcases old r2 R2 g2 with ⟨rfl, rfl⟩ | g2
      · rw [hρn] at b2; cases b2
      · rw [hρ r1 (hlt r1 R1 g1)] at b1
        rw [hρ r2 (hlt r2 R2 g2)] at b2
        exact s.inj r1 r2 R1 R2 b g1 g2 o1 o2 b1 b2
  · intro r1 R1 b g1 o1 b1
    rcases old r1 R1 g1 with ⟨rfl, rfl⟩ | g1
    · rw [hρn] at b1; cases b1
    · rw [hρ r1 (hlt r1 R1 g1)] at b1
      exact s.fresh r1 R1 b g1 o1 b1

/-- The cells of an owned root turn. -/
theorem SatR.change (s : SatR B st a w ρ) {r : Nat} {R : Root} {b : Nat} {cells : Array Value} (hr : get st.h r = some R) (ho : R.own = true) (hb : (ρ r).blk = some b)
    (hc : w.heap[b]? = some (.cells cells R.E (0, 0))) (cells' : Array Value) (hs : cells'.size = cells.size) (hsame : ∀ k : Nat, k < R.fz → cells'[k]? = cells[k]?)
    (hsz : w'.heap.size = w.heap.size) (hw : w'.heap[b]? = some (.cells cells' R.E (0, 0))) (hoth : ∀ k, k ≠ b → w'.heap[k]? = w.heap[k]?)
    (hos : w'.os = w.os) (htape : w'.tape = w.tape) (hout : w'.output = w.output)
    (cs' : List D) (hl : cs'.length ≤ cells.size) (hfz : R.fz ≤ cs'.length)
    (hcs : ∀ (k : Nat) (d : D), cs'[k]? = some d → ∃ v, cells'[k]? = some v ∧ v.oneCell' = true ∧ rep ((st.env B w ρ).at R.lit) d v) :
    SatR B ⟨st.σ, (r, { R with cs := cs' }) :: st.h, st.nx⟩ a w' ρ ∧ (st.env B w ρ).Le (St.env B ⟨st.σ, (r, { R with cs := cs' }) :: st.h, st.nx⟩ w' ρ) := by
  have hok : ∀ b o, okOf B st.h ρ b o → okOf B ((r, { R with cs := cs' }) :: st.h) ρ b o := fun b' o h => ⟨h.1, fun r' R' h1 h2 h3 => by
    rw [get_cons] at h1
    split at h1
    · rename_i e; subst e; cases h1; exact h.2 r R hr ho h3
    · exact h.2 r' R' h1 h2 h3⟩
  have hcell : ∀ b' o v, w.cell? ⟨b', o, none⟩ = some v → okOf B st.h ρ b' o → w'.cell? ⟨b', o, none⟩ = some v := by
    intro b' o v h1 h2
    by_cases e : b' = b
    · subst e
      rw [cell_of_heap hc] at h1
      rw [cell_of_heap hw, hsame o (h2.2 r R hr ho hb)]
      exact h1
    · rw [cell_same (hoth b' e)]; exact h1
  have hhas : ∀ q, st.has q → St.has ⟨st.σ, (r, { R with cs := cs' }) :: st.h, st.nx⟩ q := fun q h => St.has_cons h
  have hle : (st.env B w ρ).Le (St.env B ⟨st.σ, (r, { R with cs := cs' }) :: st.h, st.nx⟩ w' ρ) :=
    ⟨fun b o v h1 h2 => ⟨hcell b o v h1 h2, hok b o h2⟩, fun _ _ => rfl, hhas⟩
  refine ⟨⟨fun t d h => ?_, fun r' R' h' => ?_, ?_, s.size, s.defs, ?_, ?_, s.le.trans hle⟩, hle⟩
  · obtain ⟨v, h1, h2⟩ := s.tmps t d h
    exact ⟨v, h1, rep_mono hle d v h2⟩
  · rw [get_cons] at h'
    split at h'
    · rename_i e
      subst e
      simp only [Option.some.injEq] at h'
      subst h'
      have q := s.roots r R hr
      obtain ⟨c2, g1, g2, g3, g4, g5⟩ := s.blkOf hr hb
      have e2 : c2 = cells := by rw [hc] at g1; cases g1; rfl
      subst e2
      refine ⟨hhas _ q.lt, q.sz, q.pos, hfz, ?_⟩
      unfold RootBlk
      show match (ρ r).blk with | none => _ | some b => _
      rw [hb]
      refine ⟨cells', hw, by rw [hs]; exact g2, g3, by rw [hs]; exact hl, fun k d hk => ?_⟩
      obtain ⟨v, q1, q2, q3⟩ := hcs k d hk
      exact ⟨v, q1, q2, rep_mono (hle.at _) d v q3, fun h => by rw [show ({ R with cs := cs' } : Root).own = R.own from rfl, ho] at h; cases h⟩
    · rename_i ne
      have q := s.roots r' R' h'
      refine ⟨hhas _ q.lt, q.sz, q.pos, q.fz, ?_⟩
      have qb := q.blk
      unfold RootBlk at qb ⊢
      show match (ρ r').blk with | none => _ | some b => _
      have : ((st.env B w ρ).ρ r') = ρ r' := rfl
      rw [this] at qb
      cases hb' : (ρ r').blk with
      | none => simp only [hb'] at qb; exact qb
      | some b' =>
        simp only [hb'] at qb
        obtain ⟨c3, h1, h2, h3, h4, h5⟩ := qb
        by_cases e : b' = b
        · subst e
          have hown : R'.own = false := by
            cases ho' : R'.own with
            | false => rfl
            | true => exact absurd (s.inj r r' R R' b' hr h' ho ho' hb hb') ne
          have eAll : cells = c3 ∧ R.E = R'.E := by
            have : w.heap[b']? = some (.cells c3 R'.E (0, 0)) := h1
            rw [hc] at this
            injection this with this
            injection this with t1 t2
            exact ⟨t1, t2⟩
          have e3 : c3 = cells := eAll.1.symm
          have eE : R'.E = R.E := eAll.2.symm
          subst e3
          refine ⟨cells', by rw [eE]; exact hw, by rw [hs]; exact h2, h3, by rw [hs]; exact h4, fun k d hk => ?_⟩
          obtain ⟨v, q1, q2, q3, q4⟩ := h5 k d hk
          have hk2 := q4 hown
          refine ⟨v, ?_, q2, rep_mono (hle.at _) d v q3, fun _ => hok b' k hk2⟩
          rw [hsame k (hk2.2 r R hr ho hb)]
          exact q1
        · refine ⟨c3, (hoth b' e).trans h1, h2, h3, h4, fun k d hk => ?_⟩
          obtain ⟨v, q1, q2, q3, q4⟩ := h5 k d hk
          exact ⟨v, q1, q2, rep_mono (hle.at _) d v q3, fun h => hok b' k (q4 h)⟩
  · intro r1 r2 R1 R2 b' g1 g2 o1 o2 b1 b2
    have up : ∀ r' R', get ((r, { R with cs := cs' }) :: st.h) r' = some R' → ∃ R'', get st.h r' = some R'' ∧ R''.own = R'.own := by
      intro r' R' g
      rw [get_cons] at g
      split at g
      · rename_i e; subst e; cases g; exact ⟨R, hr, rfl⟩
      · exact ⟨R', g, rfl⟩
    obtain ⟨S1, t1, e1⟩ := up r1 R1 g1
    obtain ⟨S2, t2, e2⟩ := up r2 R2 g2
    exact s.inj r1 r2 S1 S2 b' t1 t2 (e1.trans o1) (e2.trans o2) b1 b2
  · have e := s.ext
    refine ⟨hos.trans e.os, htape.trans e.tape, hout.trans e.output, by rw [hsz]; exact e.size, fun k h1 h2 => ?_⟩
    by_cases ek : k = b
    · subst ek
      rcases (s.fresh r R k hr ho hb).2 with h | h
      · omega
      · exact absurd h h2
    · rw [hoth k ek]; exact e.block k h1 h2
  · intro r1 R1 b' g1 o1 b1
    rw [get_cons] at g1
    split at g1
    · rename_i e; subst e; cases g1; exact s.fresh r R b' hr ho b1
    · exact s.fresh r1 R1 b' g1 o1 b1

/-- Two roots at one block: the elder one is a beginning that is no longer written. -/
theorem SatR.split (s : SatR B st a w ρ) (id : Nat) (hid : ¬ st.has id) {r : Nat} {R : Root} (hr : get st.h r = some R) (ho : R.own = true) (k j : Nat) (hk : k ≤ R.cs.length) (hfz : R.fz ≤ k) (hjk : j ≤ k) (hg : R.giv = false ∨ j = 0) :
    let st' : St := ⟨st.σ, (id, { R with fz := k }) :: (r, { R with cs := R.cs.take j, own := false, fz := 0 }) :: st.h, st.nx⟩
    let ρ' := fun q => if q = id then ρ r else ρ q
    SatR B st' a w ρ' ∧ (st.env B w ρ).Le (st'.env B w ρ') := by
  intro st' ρ'
  have hrlt : st.has r := (s.roots r R hr).lt
  have hlt : ∀ r R', get st.h r = some R' → st.has r := fun r R' h => (s.roots r R' h).lt
  have hρ : ∀ q, st.has q → ρ' q = ρ q := fun q h => by
    have : q ≠ id := fun e => hid (e ▸ h)
    simp [ρ', this]
  have hself : st'.has id := St.has_of (R := { R with fz := k }) (by show get ((id, { R with fz := k }) :: _) id = _; rw [get_cons, if_pos rfl])
  have hhas : ∀ q, st.has q → st'.has q := fun q h => St.has_cons (St.has_cons h)
  have hρn : ρ' id = ρ r := by simp [ρ']
  have cases3 : ∀ q Q, get st'.h q = some Q → (id = q ∧ Q = { R with fz := k }) ∨ (q = r ∧ Q = { R with cs := R.cs.take j, own := false, fz := 0 }) ∨ (q ≠ r ∧ q ≠ id ∧ get st.h q = some Q) := by
    intro q Q h
    have h' : get ((id, { R with fz := k }) :: (r, { R with cs := R.cs.take j, own := false, fz := 0 }) :: st.h) q = some Q := h
    rw [get_cons, get_cons] at h'
    split at h'
    · rename_i e; cases h'; exact .inl ⟨e, rfl⟩
    · rename_i e1
      split at h'
      · rename_i e; cases h'; exact .inr (.inl ⟨e.symm, rfl⟩)
      · rename_i e; exact .inr (.inr ⟨fun h => e h.symm, fun h => e1 h.symm, h'⟩)
  have hok : ∀ b o, okOf B st.h ρ b o → okOf B st'.h ρ' b o := fun b o h => ⟨h.1, fun q Q h1 h2 h3 => by
    rcases cases3 q Q h1 with ⟨rfl, rfl⟩ | ⟨rfl, rfl⟩ | ⟨_, _, h1⟩
    · rw [hρn] at h3
      exact Nat.lt_of_lt_of_le (h.2 r R hr ho h3) hfz
    · cases h2
    · rw [hρ q (hlt q Q h1)] at h3
      exact h.2 q Q h1 h2 h3⟩
  refine s.reheap st'.h st'.nx ρ' hhas hρ hok (fun hle q Q hq => ?_) ?_ ?_
  · rcases cases3 q Q hq with ⟨rfl, rfl⟩ | ⟨rfl, rfl⟩ | ⟨n1, n2, h1⟩
    · have q := s.roots r R hr
      refine ⟨hself, by show (ρ' id).sz = _; rw [hρn]; exact q.sz, q.pos, hk, ?_⟩
      show RootBlk _ _ (ρ' id)
      rw [hρn]
      have qb := q.blk
      unfold RootBlk at qb ⊢
      have : ((st.env B w ρ).ρ r) = ρ r := rfl
      rw [this] at qb
      cases hb : (ρ r).blk with
      | none => simp only [hb] at qb; exact qb
      | some b =>
        simp only [hb] at qb
        obtain ⟨cells, h1, h2, h3, h4, h5⟩ := qb
        refine ⟨cells, h1, h2, h3, h4, fun m d hj => ?_⟩
        obtain ⟨v, q1, q2, q3, q4⟩ := h5 m d hj
        exact ⟨v, q1, q2, rep_mono (hle.at _) d v q3, fun h => by rw [show ({ R with fz := k } : Root).own = R.own from rfl, ho] at h; cases h⟩
    · have qq := s.roots q R hr
      refine ⟨hhas _ qq.lt, by show (ρ' q).sz = _; rw [hρ q hrlt]; exact qq.sz, qq.pos, Nat.zero_le _, ?_⟩
      show RootBlk _ _ (ρ' q)
      rw [hρ q hrlt]
      have qb := qq.blk
      unfold RootBlk at qb ⊢
      have : ((st.env B w ρ).ρ q) = ρ q := rfl
      rw [this] at qb
      cases hb : (ρ q).blk with
      | none => simp only [hb] at qb; exact ⟨by simp [qb.1], qb.2⟩
      | some b =>
        simp only [hb] at qb
        obtain ⟨cells, h1, h2, h3, h4, h5⟩ := qb
        refine ⟨cells, h1, h2, h3, by simp only [List.length_take]; omega, fun m d hj => ?_⟩
        rw [List.getElem?_take] at hj
        split at hj
        · rename_i hmj
          have hg' : R.giv = false := hg.resolve_right (by omega)
          obtain ⟨v, q1, q2, q3, q4⟩ := h5 m d hj
          refine ⟨v, q1, q2, rep_mono (hle.at _) d v q3, fun _ => ⟨.inr ((s.fresh q R b hr ho hb).1 hg'), fun r2 R2 g2 o2 b2 => ?_⟩⟩
          rcases cases3 r2 R2 g2 with ⟨rfl, rfl⟩ | ⟨rfl, rfl⟩ | ⟨m1, m2, g3⟩
          · exact Nat.lt_of_lt_of_le hmj hjk
          · cases o2
          · have b2' : (ρ' r2).blk = some b := b2
            rw [hρ r2 (hlt r2 R2 g3)] at b2'
            exact absurd (s.inj q r2 R R2 b hr g3 ho o2 hb b2') (Ne.symm m1)
        · cases hj
    · have qq := s.roots q Q h1
      refine ⟨hhas _ qq.lt, by show (ρ' q).sz = _; rw [hρ q qq.lt]; exact qq.sz, qq.pos, qq.fz, ?_⟩
      show RootBlk _ _ (ρ' q)
      rw [hρ q qq.lt]
      exact qq.blk.mono hle (fun _ _ => rfl) (fun b j _ h _ => hok b j h)
  · intro r1 r2 R1 R2 b g1 g2 o1 o2 b1 b2
    rcases cases3 r1 R1 g1 with ⟨rfl, rfl⟩ | ⟨rfl, rfl⟩ | ⟨m1, n1, g1⟩
    · rcases cases3 r2 R2 g2 with ⟨rfl, rfl⟩ | ⟨rfl, rfl⟩ | ⟨m2, n2, g2⟩
      · rfl
      · cases o2
      · rw [hρn] at b1
        rw [hρ r2 (hlt r2 R2 g2)] at b2
        exact absurd (s.inj r r2 R R2 b hr g2 ho o2 b1 b2) (Ne.symm m2)
    · cases o1
    · rcases cases3 r2 R2 g2 with ⟨rfl, rfl⟩ | ⟨rfl, rfl⟩ | ⟨m2, n2, g2⟩
      · rw [hρn] at b2
        rw [hρ r1 (hlt r1 R1 g1)] at b1
        exact absurd (s.inj r r1 R R1 b hr g1 ho o1 b2 b1) (Ne.symm m1)
      · cases o2
      · rw [hρ r1 (hlt r1 R1 g1)] at b1
        rw [hρ r2 (hlt r2 R2 g2)] at b2
        exact s.inj r1 r2 R1 R2 b g1 g2 o1 o2 b1 b2
  · intro r1 R1 b g1 o1 b1
    rcases cases3 r1 R1 g1 with ⟨rfl, rfl⟩ | ⟨rfl, rfl⟩ | ⟨m1, n1, g1⟩
    · rw [hρn] at b1
      exact s.fresh r R b hr ho b1
    · cases o1
    · rw [hρ r1 (hlt r1 R1 g1)] at b1
      exact s.fresh r1 R1 b g1 o1 b1
end
end Go.Px
end

