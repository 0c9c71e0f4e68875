/-
  What the functions that the statement reaches compute, proved (contracts of functions and the lemmas for them), a part of the proof. No conditions beyond those that each theorem names.
-/
import Derived.Test.YtakligfpajogkaaGreatDoorPartA
import Derived.WalkSpells
import Derived.Laws.Small
import Derived.Laws.Closers25
import Derived.Laws.Cover1
import Derived.Laws.Strings2
import Derived.Laws.Strings3
import Derived.Laws.Slices
set_option linter.unusedVariables false
set_option linter.unusedSimpArgs false

section
namespace Go.Px
open Go.RowKit

/-! ### Types -/
inductive TK where
  | int (k : IntKind) | bool | str | slice (e : TypeId) | struct (fs : List (Nat × Nat × Bool)) | array (n : Nat) (e : TypeId) | ptr (e : TypeId) | func | iface | other
structure TI where
  size : Nat
  bytes : Nat
  k : TK
  zero : List D
def zIs : D → Value → Bool
  | .b x, .bool y => x == y
  | .i k n, .int k' n' => k == k' && n == n'
  | .s bs, .string cs => bs.size == 0 && cs.size == 0
  | .nils, .slice none 0 0 => true
  | .nilp, .pointer none => true
  | .nili, .nilIface => true
  | .nilf, .nilFunc => true
  | _, _ => false
def zsIs : List D → List Value → Bool
  | [], [] => true
  | z :: zs, v :: vs => zIs z v && zsIs zs vs
  | _, _ => false
theorem bytes_empty {b : ByteArray} (h : b.size = 0) : b = ⟨#[]⟩ := by
  obtain ⟨⟨l⟩⟩ := b
  cases l with
  | nil => rfl
  | cons a l => exact absurd h (by simp [ByteArray.size])
theorem zIs_rep {E : Env} {z : D} {v : Value} (h : zIs z v = true) : rep E z v ∧ v.oneCell' = true := by
  unfold zIs at h
  split at h
  case h_3 =>
    simp only [Bool.and_eq_true, beq_iff_eq] at h
    rw [bytes_empty h.1, bytes_empty h.2]
    simp [rep, Value.oneCell']
  all_goals simp_all [rep, Value.oneCell']
theorem zs_rep {E : Env} : ∀ {zs : List D} {vs : List Value}, zsIs zs vs = true → repVals E zs vs
  | [], [], _ => by simp [repVals]
  | [], _ :: _, h => by simp [zsIs] at h
  | _ :: _, [], h => by simp [zsIs] at h
  | z :: zs, v :: vs, h => by
    simp only [zsIs, Bool.and_eq_true] at h
    simp only [repVals]
    exact ⟨v, vs, rfl, (zIs_rep h.1).1, zs_rep h.2⟩
theorem zs_one : ∀ {zs : List D} {vs : List Value}, zsIs zs vs = true → ∀ v ∈ vs, v.oneCell' = true
  | [], [], _ => by simp
  | [], _ :: _, h => by simp [zsIs] at h
  | _ :: _, [], h => by simp [zsIs] at h
  | z :: zs, v :: vs, h => by
    simp only [zsIs, Bool.and_eq_true] at h
    intro u hu
    rcases List.mem_cons.1 hu with rfl | hu
    · exact (zIs_rep (E := ⟨default, fun _ _ => True, fun _ => default, fun _ => False⟩) h.1).2
    · exact zs_one h.2 u hu

def aggB (P : Program) (t : TypeId) : Bool := match P.underlying t with | some (.struct _) | some (.array _ _) => true | _ => false
def fieldsB (P : Program) : List (Nat × Nat × Bool) → List Field → Bool
  | [], [] => true
  | (o, s, ag) :: fs, g :: gs => (g.offset == o && ((P.info? g.type).map (·.size) == some s) && (P.underlying g.type).isSome && aggB P g.type == ag && decide (0 < s)) && fieldsB P fs gs
  | _, _ => false
def kindB (P : Program) (t : TypeId) (k : TK) : Bool :=
  match k, P.underlying t with
  | .int k, some (.int k') => k == k'
  | .bool, some .bool => true
  | .str, some .string => true
  | .slice e, some (.slice e') => e == e'
  | .array n e, some (.array n' e') => n == n' && e == e'
  | .ptr e, some (.pointer e') => e == e'
  | .struct fs, some (.struct gs) => fieldsB P fs gs.toList
  | .iface, some (.interface _) => true
  | .func, some (.func _ _ _) => true
  | _, _ => false
def tokB (P : Program) (t : TypeId) (i : TI) : Bool :=
  match P.info? t with
  | some inf => inf.size == i.size && inf.bytes == i.bytes && (match inf.zero with | some z => zsIs i.zero z.cells.toList | none => false) && kindB P t i.k
  | none => false
def Valid (P : Program) (τ : List (Nat × TI)) : Prop := ∀ t i, get τ t = some i → tokB P t i = true
def validB (P : Program) (τ : List (Nat × TI)) : Bool := τ.all fun x => tokB P x.1 x.2
theorem valid_of {P : Program} {τ : List (Nat × TI)} (h : validB P τ = true) : Valid P τ := by
  intro t i hg
  induction τ with
  | nil => simp [get] at hg
  | cons x l ih =>
    simp only [validB, List.all_cons, Bool.and_eq_true] at h
    obtain ⟨k, v⟩ := x
    rw [get_cons] at hg
    split at hg
    · rename_i e; subst e; cases hg; exact h.1
    · exact ih h.2 hg

structure TOK (P : Program) (t : TypeId) (i : TI) : Prop where
  info : ∃ inf z, P.info? t = some inf ∧ inf.size = i.size ∧ inf.bytes = i.bytes ∧ inf.zero = some z ∧ zsIs i.zero z.cells.toList = true
  kind : kindB P t i.k = true
theorem tok {P : Program} {τ : List (Nat × TI)} (hv : Valid P τ) {t : TypeId} {i : TI} (h : get τ t = some i) : TOK P t i := by
  have q := hv t i h
  unfold tokB at q
  cases hi : P.info? t with
  | none => simp [hi] at q
  | some inf =>
    simp only [hi, Bool.and_eq_true, beq_iff_eq] at q
    obtain ⟨⟨⟨q1, q2⟩, q3⟩, q4⟩ := q
    cases hz : inf.zero with
    | none => simp [hz] at q3
    | some z =>
      simp only [hz] at q3
      exact ⟨⟨inf, z, hi, q1, q2, hz, q3⟩, q4⟩
section
variable {P : Program} {t : TypeId} {i : TI}
theorem TOK.size_run (h : TOK P t i) (w : World) : (sizeOf t).run P w = .ok i.size w := by
  obtain ⟨inf, z, h1, h2, _⟩ := h.info
  simp [sizeOf, typeInfo, h1, h2]
theorem TOK.zero_run (h : TOK P t i) (w : World) : ∃ z, (zeroValue t).run P w = .ok z w ∧ zsIs i.zero z.cells.toList = true := by
  obtain ⟨inf, z, h1, _, _, h4, h5⟩ := h.info
  exact ⟨z, by simp [zeroValue, typeInfo, h1, h4], h5⟩
theorem TOK.slice (h : TOK P t i) {e : TypeId} (hk : i.k = .slice e) : P.underlying t = some (.slice e) := by
  have q := h.kind
  rw [hk] at q
  unfold kindB at q
  split at q <;> simp_all
theorem TOK.array (h : TOK P t i) {n : Nat} {e : TypeId} (hk : i.k = .array n e) : P.underlying t = some (.array n e) := by
  have q := h.kind
  rw [hk] at q
  unfold kindB at q
  split at q <;> simp_all
theorem TOK.str (h : TOK P t i) (hk : i.k = .str) : P.underlying t = some .string := by
  have q := h.kind
  rw [hk] at q
  unfold kindB at q
  split at q <;> simp_all
theorem TOK.int (h : TOK P t i) {k : IntKind} (hk : i.k = .int k) : P.underlying t = some (.int k) := by
  have q := h.kind
  rw [hk] at q
  unfold kindB at q
  split at q <;> simp_all
theorem TOK.bool (h : TOK P t i) (hk : i.k = .bool) : P.underlying t = some .bool := by
  have q := h.kind
  rw [hk] at q
  unfold kindB at q
  split at q <;> simp_all
theorem TOK.ptr (h : TOK P t i) {e : TypeId} (hk : i.k = .ptr e) : P.underlying t = some (.pointer e) := by
  have q := h.kind
  rw [hk] at q
  unfold kindB at q
  split at q <;> simp_all
theorem TOK.struct (h : TOK P t i) {fs : List (Nat × Nat × Bool)} (hk : i.k = .struct fs) : ∃ gs, P.underlying t = some (.struct gs) ∧ fieldsB P fs gs.toList = true := by
  have q := h.kind
  rw [hk] at q
  unfold kindB at q
  split at q <;> simp_all
def TK.agg : TK → Bool | .struct _ | .array _ _ => true | _ => false
theorem TOK.agg (h : TOK P t i) (w : World) : (isAgg t).run P w = .ok i.k.agg w := by
  have q := h.kind
  unfold isAgg
  rw [Sem.run_bind]
  unfold kindB at q
  split at q
  all_goals first
    | (rename_i hk hu; rw [run_underlying hu]; simp [hk, TK.agg]; done)
    | (exact absurd q (by simp))
theorem fieldsB_get {P : Program} : ∀ {fs : List (Nat × Nat × Bool)} {gs : List Field}, fieldsB P fs gs = true → ∀ (f o s : Nat) (ag : Bool), fs[f]? = some (o, s, ag) →
    ∃ g, gs[f]? = some g ∧ g.offset = o ∧ 0 < s ∧ (∀ w, (sizeOf g.type).run P w = .ok s w) ∧ (∀ w, (isAgg g.type).run P w = .ok ag w)
  | [], _, _, f, o, s, ag, hf => by simp at hf
  | _ :: _, [], h, _, _, _, _, _ => by simp [fieldsB] at h
  | (o', s', ag') :: fs, g :: gs, h, f, o, s, ag, hf => by
    simp only [fieldsB, Bool.and_eq_true, beq_iff_eq, decide_eq_true_eq] at h
    cases f with
    | zero =>
      simp only [List.getElem?_cons_zero, Option.some.injEq, Prod.mk.injEq] at hf
      obtain ⟨rfl, rfl, rfl⟩ := hf
      refine ⟨g, by simp, h.1.1.1.1.1, h.1.2, fun w => ?_, fun w => ?_⟩
      · obtain ⟨inf, hi, hs⟩ := Option.map_eq_some_iff.1 h.1.1.1.1.2
        simp [sizeOf, typeInfo, hi, hs]
      · obtain ⟨d, hd⟩ := Option.isSome_iff_exists.1 h.1.1.1.2
        have ha := h.1.1.2
        unfold aggB at ha
        unfold isAgg
        rw [Sem.run_bind, run_underlying hd]
        rw [hd] at ha
        rw [← ha]
        cases d <;> simp
    | succ f =>
      simpa using fieldsB_get h.2 f o s ag (by simpa using hf)
end

/-! ### Operands -/
def ofV0 : Value → D
  | .bool b => .b b
  | .int k n => .i k n
  | .string s => .s s
  | .slice none 0 0 => .nils
  | .pointer none => .nilp
  | .nilIface => .nili
  | .nilFunc => .nilf
  | .func (.func f) ⟨[]⟩ ⟨[]⟩ => .fn f []
  | .tuple ⟨[]⟩ => .tup []
  | _ => .junk
theorem rep_ofV0 (E : Env) (v : Value) : rep E (ofV0 v) v := by
  unfold ofV0
  split <;> simp [rep, repVals]
def ofL : List Value → Option (List D)
  | [] => some []
  | v :: l => match (ofV0 v).cell with
    | false => none
    | true => match ofL l with
      | none => none
      | some ds => some (ofV0 v :: ds)
theorem rep_ofL (E : Env) : ∀ {l : List Value} {ds : List D}, ofL l = some ds → repVals E ds l ∧ ∀ u ∈ l, u.oneCell' = true
  | [], ds, h => by simp only [ofL, Option.some.injEq] at h; subst h; simp [repVals]
  | v :: l, ds, h => by
    simp only [ofL] at h
    split at h
    · cases h
    · rename_i hc
      split at h
      · cases h
      · rename_i ds' hl
        cases h
        obtain ⟨h1, h2⟩ := rep_ofL E hl
        refine ⟨by simp only [repVals]; exact ⟨v, l, rfl, rep_ofV0 E v, h1⟩, fun u hu => ?_⟩
        rcases List.mem_cons.1 hu with rfl | hu
        · exact rep_oneCell hc (rep_ofV0 E u)
        · exact h2 u hu
def ofV : Value → D
  | .agg ⟨l⟩ => match ofL l with | some ds => .ag ds | none => .junk
  | v => ofV0 v
theorem rep_ofV (E : Env) (v : Value) : rep E (ofV v) v := by
  unfold ofV
  split
  · rename_i l
    split
    · rename_i ds hds
      simp only [rep]
      obtain ⟨h1, h2⟩ := rep_ofL E hds
      exact ⟨l, rfl, h1, h2⟩
    · simp only [rep]
  · exact rep_ofV0 E v
def evo (σ : List (Nat × D)) : Operand → D
  | .tmp t => match get σ t with | some d => d | none => .junk
  | .const v => ofV v
  | .func f => .fn f []
  | .global _ => .junk
theorem rep_evo {B : Base} {st : St} {a : Act} {w : World} {ρ : Nat → RC} (s : SatR B st a w ρ) (x : Operand) : rep (st.env B w ρ) (evo st.σ x) (a.eval x) := by
  cases x with
  | tmp t =>
    simp only [evo, Act.eval]
    cases h : get st.σ t with
    | none => simp [rep]
    | some d =>
      obtain ⟨v, h1, h2⟩ := s.tmps t d h
      simpa [h1] using h2
  | const v => exact rep_ofV _ v
  | func f => simp [evo, Act.eval, rep, repVals]
  | global g => simp [evo, rep]
end Go.Px
end

section
namespace Go.Px
open Go.RowKit

/-- How a call ends. -/
inductive RO where
  | ret (d : D)
  | pan (d : D)
inductive Hint where
  | none
  | val (d : D)
  | cells (l : List D)
  | cell (d : D)
  | gd (b : Bool)
  | res (r : RO)
  | wk (d : D)
  | own
  | mut (d : D) (hl : List (Nat × Root)) (g gn : List (Nat × Nat))
  | inl (fn : Func) (fuel : Nat) (hs : List (Nat × List (Nat × Hint))) (cs : List (Nat × Bool)) (dr : List (Nat × (List Nat × List (Nat × Nat × Nat))))

def addN (off a : Nat) : Nat := match off with | 0 => a | _ => off + a
theorem addN_eq (off a : Nat) : addN off a = off + a := by unfold addN; split <;> omega
def mulN (a sz : Nat) : Nat := match sz with | 1 => a | _ => a * sz
theorem mulN_eq (a sz : Nat) : mulN a sz = a * sz := by unfold mulN; split <;> simp
def takeE : Nat → List D → Option (List D)
  | 0, _ => some []
  | n + 1, c :: cs => match takeE n cs with | some l => some (c :: l) | none => none
  | _ + 1, [] => none
theorem takeE_eq : ∀ {n : Nat} {cs l : List D}, takeE n cs = some l → cs.take n = l ∧ l.length = n
  | 0, cs, l, h => by simp [takeE] at h; subst h; simp
  | n + 1, [], l, h => by simp [takeE] at h
  | n + 1, c :: cs, l, h => by
    simp only [takeE] at h
    split at h
    · rename_i l' h'
      cases h
      have := takeE_eq h'
      simp [this.1, this.2]
    · cases h

theorem add_at (b o j : Nat) : (⟨b, o, none⟩ : Addr).add j = ⟨b, o + j, none⟩ := by unfold Addr.add; split <;> simp_all

/-- The cells from an address on. -/
def Reads (E : Env) (cs : List D) (b o : Nat) : Prop := ∀ (k : Nat) (d : D), cs[k]? = some d → ∃ v, E.w.cell? ⟨b, o + k, none⟩ = some v ∧ v.oneCell' = true ∧ rep E d v
theorem Reads.drop {E : Env} {cs : List D} {b o : Nat} (h : Reads E cs b o) (m : Nat) : Reads E (cs.drop m) b (o + m) := fun k d hk => by
  rw [List.getElem?_drop] at hk
  have := h (m + k) d hk
  rwa [← Nat.add_assoc] at this
theorem Reads.take {E : Env} {cs : List D} {b o : Nat} (h : Reads E cs b o) (m : Nat) : Reads E (cs.take m) b o := fun k d hk => by
  rw [List.getElem?_take] at hk
  split at hk
  · exact h k d hk
  · cases hk
theorem Reads.of_cells {E : Env} {cs : List D} {b o : Nat} (h : repCells E cs b o) : Reads E cs b o := fun k d hk => by
  obtain ⟨v, h1, _, h3, h4⟩ := (repCells_iff cs b o).1 h k d hk
  exact ⟨v, h1, h3, h4⟩
theorem Reads.vals {E : Env} : ∀ {cs : List D} {b o : Nat}, Reads E cs b o → ∃ vs : List Value, repVals E cs vs ∧ (∀ (j : Nat) (v : Value), vs[j]? = some v → E.w.cell? ⟨b, o + j, none⟩ = some v) ∧ ∀ v ∈ vs, v.oneCell' = true
  | [], b, o, _ => ⟨[], by simp [repVals], by simp, by simp⟩
  | d :: cs, b, o, h => by
    obtain ⟨v, h1, h2, h3⟩ := h 0 d (by simp)
    have h' : Reads E cs b (o + 1) := by simpa using h.drop 1
    obtain ⟨vs, q1, q2, q3⟩ := h'.vals
    refine ⟨v :: vs, by simp only [repVals]; exact ⟨v, vs, rfl, h3, q1⟩, fun j u hj => ?_, fun u hu => ?_⟩
    · cases j with
      | zero => simp at hj; subst hj; simpa using h1
      | succ j =>
        have := q2 j u (by simpa using hj)
        rwa [show o + 1 + j = o + (j + 1) by omega] at this
    · rcases List.mem_cons.1 hu with rfl | hu
      · exact h2
      · exact q3 u hu

def rd (i : TI) (hint : Hint) (cs : List D) : Option (D × Prop) :=
  match i.k.agg with
  | true => match hint with
    | .cells l => some (.ag l, cs.take i.size = l ∧ l.length = i.size)
    | _ => match takeE i.size cs with | some l => some (.ag l, True) | none => none
  | false => match hint with
    | .cell d => some (d, cs[0]? = some d)
    | _ => match cs with | c :: _ => some (c, True) | [] => none

theorem rd_sound {P : Program} {t : TypeId} {i : TI} (hT : TOK P t i) {E : Env} {cs : List D} {b o : Nat} (hr : Reads E cs b o) {hint : Hint} {d : D} {p : Prop}
    (h : rd i hint cs = some (d, p)) (hp : p) : ∃ v, (loadVar t ⟨b, o, none⟩).run P E.w = .ok v E.w ∧ rep E d v := by
  have hagg := hT.agg E.w
  have hsz := hT.size_run E.w
  unfold rd at h
  cases ha : i.k.agg with
  | true =>
    have key : ∀ l : List D, cs.take i.size = l → l.length = i.size → ∃ v, (loadVar t ⟨b, o, none⟩).run P E.w = .ok v E.w ∧ rep E (.ag l) v := by
      intro l hl hn
      obtain ⟨vs, q1, q2, q3⟩ := (hl ▸ hr.take i.size : Reads E l b o).vals
      have hlen := repVals_length q1
      refine ⟨.agg vs.toArray, ?_, by simp only [rep]; exact ⟨vs, rfl, q1, q3⟩⟩
      have hload := run_loadCells_list (P := P) E.w ⟨b, o, none⟩ vs (fun j v hj => by rw [add_at]; exact q2 j v hj)
      rw [hlen, hn] at hload
      simp [loadVar, hagg, ha, hsz, hload]
    rw [ha] at h
    simp only at h
    split at h
    · rename_i l
      simp only [Option.some.injEq, Prod.mk.injEq] at h
      obtain ⟨rfl, rfl⟩ := h
      exact key l hp.1 hp.2
    · split at h
      · rename_i l hl
        simp only [Option.some.injEq, Prod.mk.injEq] at h
        obtain ⟨rfl, rfl⟩ := h
        have := takeE_eq hl
        exact key l this.1 this.2
      · cases h
  | false =>
    have key : ∀ d : D, cs[0]? = some d → ∃ v, (loadVar t ⟨b, o, none⟩).run P E.w = .ok v E.w ∧ rep E d v := by
      intro d hd
      obtain ⟨v, q1, _, q3⟩ := hr 0 d hd
      refine ⟨v, ?_, q3⟩
      rw [Nat.add_zero] at q1
      simp [loadVar, hagg, ha, q1]
    rw [ha] at h
    simp only at h
    split at h
    · rename_i d'
      simp only [Option.some.injEq, Prod.mk.injEq] at h
      obtain ⟨rfl, rfl⟩ := h
      exact key _ hp
    · split at h
      · rename_i c l
        simp only [Option.some.injEq, Prod.mk.injEq] at h
        obtain ⟨rfl, rfl⟩ := h
        exact key _ (by simp)
      · cases h

section
variable {B : Base} {st : St} {a : Act} {w : World} {ρ : Nat → RC}
theorem SatR.reads_at (s : SatR B st a w ρ) {r : Nat} {R : Root} {b : Nat} (hr : get st.h r = some R) (hb : (ρ r).blk = some b) : Reads ((st.env B w ρ).at R.lit) R.cs b 0 := by
  obtain ⟨cells, h1, _, _, _, h5⟩ := s.blkOf hr hb
  intro k d hk
  obtain ⟨v, q1, q2, q3, _⟩ := h5 k d hk
  refine ⟨v, ?_, q2, q3⟩
  have : ((st.env B w ρ).at R.lit).w = w := by cases R.lit <;> rfl
  rw [this, Nat.zero_add, cell_of_heap h1]
  exact q1
theorem Reads.of_at {E : Env} {lit : Bool} {cs : List D} {b o : Nat} (h : Reads (E.at lit) cs b o) : Reads E cs b o := fun k d hk => by
  obtain ⟨v, h1, h2, h3⟩ := h k d hk
  refine ⟨v, ?_, h2, rep_of_at h3⟩
  have : (E.at lit).w = E.w := by cases lit <;> rfl
  rwa [this] at h1
theorem Reads.of_pure {E : Env} {cs : List D} {b o : Nat} (h : Reads E.pure cs b o) : Reads E cs b o := Reads.of_at (lit := false) h
theorem SatR.reads (s : SatR B st a w ρ) {r : Nat} {R : Root} {b : Nat} (hr : get st.h r = some R) (hb : (ρ r).blk = some b) : Reads (st.env B w ρ) R.cs b 0 := (s.reads_at hr hb).of_at
theorem SatR.reads_nil (s : SatR B st a w ρ) {r : Nat} {R : Root} (hr : get st.h r = some R) (hb : (ρ r).blk = none) : R.cs = [] := by
  have q := (s.roots r R hr).blk
  unfold RootBlk at q
  have hb' : ((st.env B w ρ).ρ r).blk = none := hb
  rw [hb'] at q
  exact q.1
end

def evLoad (τ : List (Nat × TI)) (σ : List (Nat × D)) (h : List (Nat × Root)) (hint : Hint) (t : TypeId) (x : Operand) : Option (D × Prop) :=
  match get τ t with
  | none => none
  | some i => match evo σ x with
    | .oa r off => match get h r with | some R => rd i hint (R.cs.drop off) | none => none
    | .pt cs => rd i hint cs
    | _ => none

section
variable {P : Program} {τ : List (Nat × TI)} {B : Base} {st : St} {a : Act} {w : World} {ρ : Nat → RC}
theorem evLoad_sound (hv : Valid P τ) (s : SatR B st a w ρ) {hint : Hint} {t : TypeId} {x : Operand} {d : D} {p : Prop}
    (h : evLoad τ st.σ st.h hint t x = some (d, p)) (hp : p) : ∃ v, (Instr.loadAt t (a.eval x)).run P w = .ok v w ∧ rep (st.env B w ρ) d v := by
  unfold evLoad at h
  cases hτ : get τ t with
  | none => simp [hτ] at h
  | some i =>
    have hT := tok hv hτ
    have hx := rep_evo s x
    simp only [hτ] at h
    split at h
    · rename_i r off he
      rw [he] at hx
      simp only [rep] at hx
      obtain ⟨_, b, hb, hval⟩ := hx
      split at h
      · rename_i R hR
        have := rd_sound hT (((s.reads hR hb).drop off)) h hp
        simpa [hval, Instr.loadAt, Instr.sureAddr, St.env] using this
      · cases h
    · rename_i cs he
      rw [he] at hx
      simp only [rep] at hx
      obtain ⟨b, o, hval, hc⟩ := hx
      have := rd_sound hT (Reads.of_cells hc).of_pure h hp
      simpa [hval, Instr.loadAt, Instr.sureAddr, St.env] using this
    · cases h

/-! ### Addresses -/
def evField (τ : List (Nat × TI)) (σ : List (Nat × D)) (t : TypeId) (x : Operand) (f : Nat) : Option (D × Prop) :=
  match get τ t with
  | none => none
  | some i => match i.k with
    | .struct fs => match fs[f]? with
      | some (o, _, _) => match evo σ x with
        | .oa r off => some (.oa r (addN off o), True)
        | .pt cs => some (.pt (cs.drop o), True)
        | _ => none
      | none => none
    | _ => none
theorem evField_sound (hv : Valid P τ) (s : SatR B st a w ρ) {t : TypeId} {x : Operand} {f : Nat} {d : D} {p : Prop}
    (h : evField τ st.σ t x f = some (d, p)) : ∃ v, (Instr.fieldAt t (a.eval x) f).run P w = .ok v w ∧ rep (st.env B w ρ) d v := by
  unfold evField at h
  cases hτ : get τ t with
  | none => simp [hτ] at h
  | some i =>
    have hT := tok hv hτ
    have hx := rep_evo s x
    simp only [hτ] at h
    split at h
    · rename_i fs hk
      obtain ⟨gs, hu, hf⟩ := hT.struct hk
      split at h
      · rename_i o sz ag hfo
        obtain ⟨g, hg, ho, hs, hsz, _⟩ := fieldsB_get hf f o sz ag hfo
        have hg' : gs[f]? = some g := by simpa using hg
        have place : ∀ b off : Nat, (Instr.fieldAt t (.pointer (some ⟨b, off, none⟩)) f).run P w = .ok (.pointer (some ⟨b, off + o, none⟩)) w := by
          intro b off
          simp [Instr.fieldAt, run_underlying hu, hg', Instr.sureAddr, fieldPlace, hsz, Nat.ne_of_gt hs, ho, add_at]
        split at h
        · rename_i r off he
          rw [he] at hx
          simp only [Option.some.injEq, Prod.mk.injEq] at h
          obtain ⟨rfl, _⟩ := h
          simp only [rep] at hx
          obtain ⟨hlt, b, hb, hval⟩ := hx
          exact ⟨_, by rw [hval]; exact place b off, by simp only [rep]; exact ⟨hlt, b, hb, by rw [addN_eq]⟩⟩
        · rename_i cs he
          rw [he] at hx
          simp only [Option.some.injEq, Prod.mk.injEq] at h
          obtain ⟨rfl, _⟩ := h
          simp only [rep] at hx
          obtain ⟨b, off, hval, hc⟩ := hx
          exact ⟨_, by rw [hval]; exact place b off, by simp only [rep]; exact ⟨b, off + o, rfl, repCells_drop hc o⟩⟩
        · cases h
      · cases h
    · cases h

def evIndex (τ : List (Nat × TI)) (σ : List (Nat × D)) (h : List (Nat × Root)) (t : TypeId) (x ix : Operand) : Option (D × Prop) :=
  match get τ t with
  | none => none
  | some i => match evo σ ix with
    | .i _ k => match i.k with
      | .slice e => match get τ e with
        | none => none
        | some ie => match evo σ x with
          | .sl sz n cs => match Nat.beq sz ie.size with | true => some (.pt (cs.drop (mulN k.toNat sz)), 0 ≤ k ∧ k < (n : Int)) | false => none
          | .os r off n => match get h r with
            | some R => match Nat.beq R.sz ie.size with | true => some (.oa r (mulN (addN off k.toNat) R.sz), 0 ≤ k ∧ k < (n : Int)) | false => none
            | none => none
          | _ => none
      | .array n e => match get τ e with
        | none => none
        | some ie => match evo σ x with
          | .oa r off => some (.oa r (addN off (mulN k.toNat ie.size)), 0 ≤ k ∧ k < (n : Int))
          | .pt cs => some (.pt (cs.drop (mulN k.toNat ie.size)), 0 ≤ k ∧ k < (n : Int))
          | _ => none
      | _ => none
    | _ => none

theorem evIndex_sound (hv : Valid P τ) (s : SatR B st a w ρ) {t : TypeId} {x ix : Operand} {d : D} {p : Prop}
    (h : evIndex τ st.σ st.h t x ix = some (d, p)) (hp : p) : ∃ v, (Instr.indexAt t (a.eval x) (a.eval ix)).run P w = .ok v w ∧ rep (st.env B w ρ) d v := by
  unfold evIndex at h
  cases hτ : get τ t with
  | none => simp [hτ] at h
  | some i =>
    have hT := tok hv hτ
    have hx := rep_evo s x
    have hix := rep_evo s ix
    simp only [hτ] at h
    split at h
    · rename_i kk k hek
      rw [hek] at hix
      simp only [rep] at hix
      rw [hix]
      split at h
      · rename_i e hk
        have hu := hT.slice hk
        split at h
        · cases h
        · rename_i ie he
          have hTe := tok hv he
          have run : ∀ b o len cap : Nat, 0 ≤ k ∧ k < (len : Int) → (Instr.indexAt t (.slice (some ⟨b, o, none⟩) len cap) (.int kk k)).run P w = .ok (.pointer (some ⟨b, o + k.toNat * ie.size, none⟩)) w := by
            intro b o len cap hk
            simp [Instr.indexAt, asIntOf, run_underlying hu, hk, hTe.size_run, add_at]
          split at h
          · rename_i sz n cs hd
            rw [hd] at hx
            split at h
            · rename_i hsz
              have hsz := Nat.eq_of_beq_eq_true hsz
              subst hsz
              simp only [Option.some.injEq, Prod.mk.injEq] at h
              obtain ⟨rfl, rfl⟩ := h
              simp only [rep] at hx
              obtain ⟨A, c, hval, _, _, _, hc⟩ := hx
              obtain ⟨b, o, rfl, hc2⟩ := hc (by omega)
              refine ⟨_, by rw [hval]; exact run b o n c hp, ?_⟩
              simp only [rep, mulN_eq]
              exact ⟨b, _, rfl, repCells_drop hc2 _⟩
            · cases h
          · rename_i r off n hd
            rw [hd] at hx
            split at h
            · rename_i R hR
              split at h
              · rename_i hsz
                have hsz := Nat.eq_of_beq_eq_true hsz
                simp only [Option.some.injEq, Prod.mk.injEq] at h
                obtain ⟨rfl, rfl⟩ := h
                simp only [rep] at hx
                obtain ⟨hlt, hx⟩ := hx
                unfold osRep at hx
                have hρsz := (s.roots r R hR).sz
                split at hx
                · omega
                · rename_i b hb
                  obtain ⟨o, c, hval, h1, h2, h3⟩ := hx
                  refine ⟨_, by rw [hval]; exact run b o n c hp, ?_⟩
                  simp only [rep, mulN_eq, addN_eq]
                  refine ⟨hlt, b, hb, ?_⟩
                  have e1 : o = off * R.sz := by rw [h3 (by omega)]; rw [hρsz]
                  rw [e1, ← hsz, Nat.add_mul]
              · cases h
            · cases h
          · cases h
      · rename_i n e hk
        have hu := hT.array hk
        split at h
        · cases h
        · rename_i ie he
          have hTe := tok hv he
          have run : ∀ b o : Nat, 0 ≤ k ∧ k < (n : Int) → (Instr.indexAt t (.pointer (some ⟨b, o, none⟩)) (.int kk k)).run P w = .ok (.pointer (some ⟨b, o + k.toNat * ie.size, none⟩)) w := by
            intro b o hk
            simp [Instr.indexAt, asIntOf, run_underlying hu, hk, hTe.size_run, add_at, Instr.sureAddr]
          split at h
          · rename_i r off hd
            rw [hd] at hx
            simp only [Option.some.injEq, Prod.mk.injEq] at h
            obtain ⟨rfl, rfl⟩ := h
            simp only [rep] at hx
            obtain ⟨hlt, b, hb, hval⟩ := hx
            exact ⟨_, by rw [hval]; exact run b off hp, by simp only [rep, mulN_eq, addN_eq]; exact ⟨hlt, b, hb, rfl⟩⟩
          · rename_i cs hd
            rw [hd] at hx
            simp only [Option.some.injEq, Prod.mk.injEq] at h
            obtain ⟨rfl, rfl⟩ := h
            simp only [rep] at hx
            obtain ⟨b, o, hval, hc⟩ := hx
            exact ⟨_, by rw [hval]; exact run b o hp, by simp only [rep, mulN_eq]; exact ⟨b, _, rfl, repCells_drop hc _⟩⟩
          · cases h
      · cases h
    · cases h
end
end Go.Px
end

