/-
  What the functions that the statement reaches compute, proved (contracts of functions and the lemmas for them), a part of the proof. No conditions beyond those that each theorem names.
-/
import Derived.Test.YtakligfpajogkaaGreatDoorPartB
import Derived.IntWalk
set_option linter.unusedVariables false
set_option linter.unusedSimpArgs false

section
namespace Go.Px
open Go.RowKit

def InR (n : Int) : Prop := -9223372036854775808 ≤ n ∧ n ≤ 9223372036854775807
def byteAt (s : ByteArray) (i : Int) : Int := ((s.data.toList.getD i.toNat 0).toNat : Int)

/-- + - * of an int: as it is, where it fits; of other kinds: wrapped. -/
def arith (k : IntKind) (n : Int) : Option (D × Prop) :=
  match k with
  | .i64 => some (.i .i64 n, InR n)
  | k => some (.i k (k.wrap n), True)
def bits2 (op : BinOp) (k : IntKind) (x y : Int) : Int :=
  match op with
  | .and => k.wrap (BitVec.ofInt k.bits x &&& BitVec.ofInt k.bits y).toNat
  | .or => k.wrap (BitVec.ofInt k.bits x ||| BitVec.ofInt k.bits y).toNat
  | .xor => k.wrap (BitVec.ofInt k.bits x ^^^ BitVec.ofInt k.bits y).toNat
  | _ => k.wrap (BitVec.ofInt k.bits x &&& ~~~ BitVec.ofInt k.bits y).toNat
def evBin (τ : List (Nat × TI)) (op : BinOp) (t : TypeId) (dx dy : D) : Option (D × Prop) :=
  match dx, dy with
  | .i k a, .i k' b => match op with
    | .shl => some (.i k (k.wrap (a * 2 ^ min b.toNat k.bits)), 0 ≤ b)
    | .shr => some (.i k (a.fdiv (2 ^ min b.toNat k.bits)), 0 ≤ b)
    | op => match decide (k = k') with
      | false => none
      | true => match op with
        | .add => arith k (a + b)
        | .sub => arith k (a - b)
        | .mul => arith k (a * b)
        | .quo => some (.i k (k.wrap (a.tdiv b)), b ≠ 0)
        | .rem => some (.i k (a.tmod b), b ≠ 0)
        | .and => some (.i k (bits2 .and k a b), True)
        | .or => some (.i k (bits2 .or k a b), True)
        | .xor => some (.i k (bits2 .xor k a b), True)
        | .andNot => some (.i k (bits2 .andNot k a b), True)
        | .eql => some (.b (a == b), True)
        | .neq => some (.b (a != b), True)
        | .lss => some (.b (decide (a < b)), True)
        | .leq => some (.b (decide (a ≤ b)), True)
        | .gtr => some (.b (decide (a > b)), True)
        | .geq => some (.b (decide (a ≥ b)), True)
        | _ => none
  | .s a, .s b => match op with
    | .add => some (.s (a ++ b), ((a.size + b.size : Nat) : Int) ≤ 9223372036854775807)
    | .eql => some (.b (a.toList == b.toList), True)
    | .neq => some (.b (!(a.toList == b.toList)), True)
    | .lss => some (.b (Op.bytesLess a.toList b.toList), True)
    | .leq => some (.b (Op.bytesLess a.toList b.toList || a.toList == b.toList), True)
    | .gtr => some (.b (!(Op.bytesLess a.toList b.toList || a.toList == b.toList)), True)
    | .geq => some (.b (!(Op.bytesLess a.toList b.toList)), True)
    | _ => none
  | .b a, .b b => match get τ t with
    | some i => match i.k with
      | .bool => match op with
        | .eql => some (.b (a == b), True)
        | .neq => some (.b (!(a == b)), True)
        | _ => none
      | _ => none
    | none => none
  | .nils, .nils => match get τ t with
    | some i => match i.k with
      | .slice _ => match op with
        | .eql => some (.b true, True)
        | .neq => some (.b false, True)
        | _ => none
      | _ => none
    | none => none
  | .nili, .ifc _ _ => match get τ t with
    | some i => match i.k with | .iface => (match op with | .eql => some (.b false, True) | .neq => some (.b true, True) | _ => none) | _ => none
    | none => none
  | .ifc _ _, .nili => match get τ t with
    | some i => match i.k with | .iface => (match op with | .eql => some (.b false, True) | .neq => some (.b true, True) | _ => none) | _ => none
    | none => none
  | _, _ => none

theorem TOK.iface {P : Program} {t : TypeId} {i : TI} (h : TOK P t i) (hk : i.k = .iface) : ∃ ms, P.underlying t = some (.interface ms) := by
  have q := h.kind
  rw [hk] at q
  unfold kindB at q
  split at q <;> simp_all

theorem equalIn_iface1 {P : Program} (w : World) (d : Nat) (t u : TypeId) (x : Value) (ms) (h : P.underlying t = some (.interface ms)) : (Op.equalIn (d + 1) t .nilIface (.iface u x)).run P w = .ok false w := by
  simp [Op.equalIn, run_underlying h]
theorem equalIn_iface2 {P : Program} (w : World) (d : Nat) (t u : TypeId) (x : Value) (ms) (h : P.underlying t = some (.interface ms)) : (Op.equalIn (d + 1) t (.iface u x) .nilIface).run P w = .ok false w := by
  simp [Op.equalIn, run_underlying h]
theorem equal_iface1 {P : Program} (w : World) (t u : TypeId) (x : Value) (ms) (h : P.underlying t = some (.interface ms)) : (Op.equal t .nilIface (.iface u x)).run P w = .ok false w := equalIn_iface1 w 9999 t u x ms h
theorem equal_iface2 {P : Program} (w : World) (t u : TypeId) (x : Value) (ms) (h : P.underlying t = some (.interface ms)) : (Op.equal t (.iface u x) .nilIface).run P w = .ok false w := equalIn_iface2 w 9999 t u x ms h
theorem equalIn_iface0 {P : Program} (w : World) (d : Nat) (t : TypeId) (ms) (h : P.underlying t = some (.interface ms)) : (Op.equalIn (d + 1) t .nilIface .nilIface).run P w = .ok true w := by
  simp [Op.equalIn, run_underlying h]
theorem equal_iface0 {P : Program} (w : World) (t : TypeId) (ms) (h : P.underlying t = some (.interface ms)) : (Op.equal t .nilIface .nilIface).run P w = .ok true w := equalIn_iface0 w 9999 t ms h
theorem equalIn_nils {P : Program} (w : World) (d : Nat) (t e : TypeId) (h : P.underlying t = some (.slice e)) : (Op.equalIn (d + 1) t (.slice none 0 0) (.slice none 0 0)).run P w = .ok true w := by
  simp [Op.equalIn, run_underlying h]
theorem equal_nils {P : Program} (w : World) (t e : TypeId) (h : P.underlying t = some (.slice e)) : (Op.equal t (.slice none 0 0) (.slice none 0 0)).run P w = .ok true w := equalIn_nils w 9999 t e h

section
variable {P : Program} {τ : List (Nat × TI)} {E : Env} {w : World}
theorem arith_sound {k : IntKind} {n : Int} {d : D} {p : Prop} (h : arith k n = some (d, p)) (hp : p) : rep E d (.int k (k.wrap n)) := by
  unfold arith at h
  split at h
  · simp only [Option.some.injEq, Prod.mk.injEq] at h
    obtain ⟨rfl, rfl⟩ := h
    simp only [rep]
    rw [IntWalk.i64_in n hp]
  · simp only [Option.some.injEq, Prod.mk.injEq] at h
    obtain ⟨rfl, rfl⟩ := h
    simp only [rep]

theorem evBin_sound (hv : Valid P τ) {op : BinOp} {t : TypeId} {x y : Operand} {dx dy : D} {vx vy : Value} {d : D} {p : Prop} (hx : rep E dx vx) (hy : rep E dy vy)
    (h : evBin τ op t dx dy = some (d, p)) (hp : p) : ∃ v, (do eqGuard op t x y vx vy; binOp op t vx vy : Sem Value).run P w = .ok v w ∧ rep E d v := by
  unfold evBin at h
  split at h
  · -- ints
    rename_i k a k' b
    simp only [rep] at hx hy
    subst hx hy
    have hg : (eqGuard op t x y (.int k a) (.int k' b)).run P w = .ok () w := by
      unfold eqGuard
      split <;> rfl
    rw [Sem.run_bind, hg]
    simp only [Result.andThen_ok]
    split at h
    · simp only [Option.some.injEq, Prod.mk.injEq] at h
      obtain ⟨rfl, rfl⟩ := h
      exact ⟨_, by simp [binOp, Op.shift, show ¬ b < 0 by omega]; rfl, by simp only [rep]⟩
    · simp only [Option.some.injEq, Prod.mk.injEq] at h
      obtain ⟨rfl, rfl⟩ := h
      exact ⟨_, by simp [binOp, Op.shift, show ¬ b < 0 by omega]; rfl, by simp only [rep]⟩
    · rename_i n1 n2
      split at h
      · cases h
      · rename_i hk
        have hk := of_decide_eq_true hk
        subst hk
        split at h
        · exact ⟨.int k (k.wrap (a + b)), by simp [binOp, Op.intArith], arith_sound h hp⟩
        · exact ⟨.int k (k.wrap (a - b)), by simp [binOp, Op.intArith], arith_sound h hp⟩
        · exact ⟨.int k (k.wrap (a * b)), by simp [binOp, Op.intArith], arith_sound h hp⟩
        · simp only [Option.some.injEq, Prod.mk.injEq] at h
          obtain ⟨rfl, rfl⟩ := h
          exact ⟨.int k (k.wrap (a.tdiv b)), by simp [binOp, Op.intDiv, hp], by simp only [rep]⟩
        · simp only [Option.some.injEq, Prod.mk.injEq] at h
          obtain ⟨rfl, rfl⟩ := h
          exact ⟨.int k (a.tmod b), by simp [binOp, Op.intDiv, hp], by simp only [rep]⟩
        · simp only [Option.some.injEq, Prod.mk.injEq] at h
          obtain ⟨rfl, rfl⟩ := h
          exact ⟨.int k (bits2 .and k a b), by simp [binOp, Op.intBits, bits2], by simp only [rep]⟩
        · simp only [Option.some.injEq, Prod.mk.injEq] at h
          obtain ⟨rfl, rfl⟩ := h
          exact ⟨.int k (bits2 .or k a b), by simp [binOp, Op.intBits, bits2], by simp only [rep]⟩
        · simp only [Option.some.injEq, Prod.mk.injEq] at h
          obtain ⟨rfl, rfl⟩ := h
          exact ⟨.int k (bits2 .xor k a b), by simp [binOp, Op.intBits, bits2], by simp only [rep]⟩
        · simp only [Option.some.injEq, Prod.mk.injEq] at h
          obtain ⟨rfl, rfl⟩ := h
          exact ⟨.int k (bits2 .andNot k a b), by simp [binOp, Op.intBits, bits2], by simp only [rep]⟩
        · simp only [Option.some.injEq, Prod.mk.injEq] at h
          obtain ⟨rfl, rfl⟩ := h
          exact ⟨.bool (a == b), by simp [binOp, Op.intCmp], by simp only [rep]⟩
        · simp only [Option.some.injEq, Prod.mk.injEq] at h
          obtain ⟨rfl, rfl⟩ := h
          exact ⟨.bool (a != b), by simp [binOp, Op.intCmp], by simp only [rep]⟩
        · simp only [Option.some.injEq, Prod.mk.injEq] at h
          obtain ⟨rfl, rfl⟩ := h
          exact ⟨.bool (decide (a < b)), by simp [binOp, Op.intCmp], by simp only [rep]⟩
        · simp only [Option.some.injEq, Prod.mk.injEq] at h
          obtain ⟨rfl, rfl⟩ := h
          exact ⟨.bool (decide (a ≤ b)), by simp [binOp, Op.intCmp], by simp only [rep]⟩
        · simp only [Option.some.injEq, Prod.mk.injEq] at h
          obtain ⟨rfl, rfl⟩ := h
          exact ⟨.bool (decide (a > b)), by simp [binOp, Op.intCmp], by simp only [rep]⟩
        · simp only [Option.some.injEq, Prod.mk.injEq] at h
          obtain ⟨rfl, rfl⟩ := h
          exact ⟨.bool (decide (a ≥ b)), by simp [binOp, Op.intCmp], by simp only [rep]⟩
        · cases h
  · rename_i a b
    simp only [rep] at hx hy
    subst hx hy
    have hg : (eqGuard op t x y (.string a) (.string b)).run P w = .ok () w := by
      unfold eqGuard
      split <;> rfl
    rw [Sem.run_bind, hg]
    simp only [Result.andThen_ok]
    split at h
    all_goals first
      | (simp only [Option.some.injEq, Prod.mk.injEq] at h
         obtain ⟨rfl, rfl⟩ := h
         first
          | (exact ⟨_, by simp only [binOp, Op.stringOp]; rfl, by simp only [rep]⟩)
          | (refine ⟨.string (a ++ b), ?_, by simp only [rep]⟩
             have hq : ¬ (((a.size + b.size : Nat) : Int) > IntKind.i64.max) := by
               have : IntKind.i64.max = 9223372036854775807 := rfl
               omega
             simp only [binOp, Op.stringOp, if_neg hq, Sem.run_pure]))
      | cases h
  · rename_i a b
    simp only [rep] at hx hy
    subst hx hy
    have hg : (eqGuard op t x y (.bool a) (.bool b)).run P w = .ok () w := by
      unfold eqGuard
      split <;> rfl
    rw [Sem.run_bind, hg]
    simp only [Result.andThen_ok]
    split at h
    · rename_i i hi
      split at h
      · rename_i hk
        have hu := (tok hv hi).bool hk
        split at h
        · simp only [Option.some.injEq, Prod.mk.injEq] at h
          obtain ⟨rfl, rfl⟩ := h
          exact ⟨_, run_eql_bool w t a b hu, by simp only [rep]⟩
        · simp only [Option.some.injEq, Prod.mk.injEq] at h
          obtain ⟨rfl, rfl⟩ := h
          exact ⟨_, run_neq_bool w t a b hu, by simp only [rep]⟩
        · cases h
      · cases h
    · cases h
  · simp only [rep] at hx hy
    subst hx hy
    have hg : (eqGuard op t x y (.slice none 0 0) (.slice none 0 0)).run P w = .ok () w := by
      unfold eqGuard
      split <;> rfl
    rw [Sem.run_bind, hg]
    simp only [Result.andThen_ok]
    split at h
    · rename_i i hi
      split at h
      · rename_i e hk
        have hu := (tok hv hi).slice hk
        split at h
        · simp only [Option.some.injEq, Prod.mk.injEq] at h
          obtain ⟨rfl, rfl⟩ := h
          exact ⟨.bool true, by simp only [binOp]; rw [Sem.run_bind, equal_nils w t e hu]; rfl, by simp only [rep]⟩
        · simp only [Option.some.injEq, Prod.mk.injEq] at h
          obtain ⟨rfl, rfl⟩ := h
          exact ⟨.bool false, by simp only [binOp]; rw [Sem.run_bind, equal_nils w t e hu]; rfl, by simp only [rep]⟩
        · cases h
      · cases h
    · cases h
  · rename_i t0 d0
    simp only [rep] at hx hy
    obtain ⟨u, rfl, _⟩ := hy
    subst hx
    have hg : (eqGuard op t x y .nilIface (.iface t0 u)).run P w = .ok () w := by
      unfold eqGuard
      split <;> rfl
    rw [Sem.run_bind, hg]
    simp only [Result.andThen_ok]
    split at h
    · rename_i i hi
      split at h
      · rename_i hk
        obtain ⟨ms, hu⟩ := (tok hv hi).iface hk
        split at h
        · simp only [Option.some.injEq, Prod.mk.injEq] at h
          obtain ⟨rfl, rfl⟩ := h
          exact ⟨.bool false, by simp only [binOp]; rw [Sem.run_bind, equal_iface1 w t t0 u ms hu]; rfl, by simp only [rep]⟩
        · simp only [Option.some.injEq, Prod.mk.injEq] at h
          obtain ⟨rfl, rfl⟩ := h
          exact ⟨.bool true, by simp only [binOp]; rw [Sem.run_bind, equal_iface1 w t t0 u ms hu]; rfl, by simp only [rep]⟩
        · cases h
      · cases h
    · cases h
  · rename_i t0 d0
    simp only [rep] at hx hy
    obtain ⟨u, rfl, _⟩ := hx
    subst hy
    have hg : (eqGuard op t x y (.iface t0 u) .nilIface).run P w = .ok () w := by
      unfold eqGuard
      split <;> rfl
    rw [Sem.run_bind, hg]
    simp only [Result.andThen_ok]
    split at h
    · rename_i i hi
      split at h
      · rename_i hk
        obtain ⟨ms, hu⟩ := (tok hv hi).iface hk
        split at h
        · simp only [Option.some.injEq, Prod.mk.injEq] at h
          obtain ⟨rfl, rfl⟩ := h
          exact ⟨.bool false, by simp only [binOp]; rw [Sem.run_bind, equal_iface2 w t t0 u ms hu]; rfl, by simp only [rep]⟩
        · simp only [Option.some.injEq, Prod.mk.injEq] at h
          obtain ⟨rfl, rfl⟩ := h
          exact ⟨.bool true, by simp only [binOp]; rw [Sem.run_bind, equal_iface2 w t t0 u ms hu]; rfl, by simp only [rep]⟩
        · cases h
      · cases h
    · cases h
  · cases h
def isC (x : Operand) : Bool := match x with | .const _ => true | _ => false
def evBin2 (τ : List (Nat × TI)) (op : BinOp) (t : TypeId) (x y : Operand) (dx dy : D) : Option (D × Prop) :=
  match dx, dy with
  | .nili, .nili => match isC y with
    | true => match get τ t with
      | some i => match i.k with | .iface => (match op with | .eql => some (.b true, True) | .neq => some (.b false, True) | _ => none) | _ => none
      | none => none
    | false => none
  | dx, dy => evBin τ op t dx dy
theorem evBin2_sound (hv : Valid P τ) {op : BinOp} {t : TypeId} {x y : Operand} {dx dy : D} {vx vy : Value} {d : D} {p : Prop} (hx : rep E dx vx) (hy : rep E dy vy)
    (h : evBin2 τ op t x y dx dy = some (d, p)) (hp : p) : ∃ v, (do eqGuard op t x y vx vy; binOp op t vx vy : Sem Value).run P w = .ok v w ∧ rep E d v := by
  unfold evBin2 at h
  split at h
  · simp only [rep] at hx hy
    subst hx hy
    split at h
    case h_2 => cases h
    rename_i hc
    have hg : (eqGuard op t x y .nilIface .nilIface).run P w = .ok () w := by
      cases y with
      | const c =>
        cases op <;> simp [eqGuard]
      | _ => simp [isC] at hc
    rw [Sem.run_bind, hg]
    simp only [Result.andThen_ok]
    split at h
    · rename_i i hi
      split at h
      · rename_i hk
        obtain ⟨ms, hu⟩ := (tok hv hi).iface hk
        split at h
        · simp only [Option.some.injEq, Prod.mk.injEq] at h
          obtain ⟨rfl, rfl⟩ := h
          exact ⟨.bool true, by simp only [binOp]; rw [Sem.run_bind, equal_iface0 w t ms hu]; rfl, by simp only [rep]⟩
        · simp only [Option.some.injEq, Prod.mk.injEq] at h
          obtain ⟨rfl, rfl⟩ := h
          exact ⟨.bool false, by simp only [binOp]; rw [Sem.run_bind, equal_iface0 w t ms hu]; rfl, by simp only [rep]⟩
        · cases h
      · cases h
    · cases h
  · exact evBin_sound hv hx hy h hp
end
end Go.Px
end

section
namespace Go.Px
open Go.RowKit

section
variable {P : Program} {τ : List (Nat × TI)} {B : Base} {st : St} {a : Act} {w : World} {ρ : Nat → RC}

/-! ### Slicing -/
def intOfD : D → Option Int
  | .i _ n => some n
  | _ => none
def loOf (σ : List (Nat × D)) : Option Operand → Option Int
  | none => some 0
  | some x => intOfD (evo σ x)
/-- 's[lo:hi]' at a length; what is asked. -/
def evSlice (τ : List (Nat × TI)) (σ : List (Nat × D)) (h : List (Nat × Root)) (t : TypeId) (x : Operand) (lo hi mx : Option Operand) : Option (D × Prop) :=
  match get τ t with
  | none => none
  | some i => match i.k with
    | .str => match mx with
      | some _ => none
      | none => match evo σ x with
        | .s s => match lo, hi with
          | none, none => some (.s s, True)
          | some l, none => match intOfD (evo σ l) with
            | some l => some (.s (s.extract l.toNat s.size), 0 ≤ l ∧ l ≤ (s.size : Int))
            | none => none
          | none, some h => match intOfD (evo σ h) with
            | some h => some (.s (s.extract 0 h.toNat), 0 ≤ h ∧ h ≤ (s.size : Int))
            | none => none
          | some l, some h => match intOfD (evo σ l), intOfD (evo σ h) with
            | some l, some h => some (.s (s.extract l.toNat h.toNat), 0 ≤ l ∧ l ≤ h ∧ h ≤ (s.size : Int))
            | _, _ => none
        | _ => none
    | .slice e => match get τ e with
      | none => none
      | some ie => match evo σ x with
        | .sl sz n cs => match Nat.beq sz ie.size with
          | false => none
          | true => match lo, hi, mx with
            | none, none, none => some (.sl sz n cs, True)
            | some l, none, none => match intOfD (evo σ l) with
              | some l => some (.sl sz (n - l.toNat) (cs.drop (mulN l.toNat sz)), 0 ≤ l ∧ l ≤ (n : Int))
              | none => none
            | none, some h, none => match intOfD (evo σ h) with
              | some h => some (.sl sz h.toNat (cs.take (mulN h.toNat sz)), 0 ≤ h ∧ h ≤ (n : Int))
              | none => none
            | some l, some h, none => match intOfD (evo σ l), intOfD (evo σ h) with
              | some l, some h => some (.sl sz (h.toNat - l.toNat) ((cs.drop (mulN l.toNat sz)).take (mulN (h.toNat - l.toNat) sz)), 0 ≤ l ∧ l ≤ h ∧ h ≤ (n : Int))
              | _, _ => none
            | none, some h, some m => match intOfD (evo σ h), intOfD (evo σ m) with
              | some h, some m => some (.sl sz h.toNat (cs.take (mulN h.toNat sz)), 0 ≤ h ∧ h ≤ m ∧ m ≤ (n : Int))
              | _, _ => none
            | _, _, _ => none
        | .os r off n => match get h r with
          | none => none
          | some R => match Nat.beq R.sz ie.size with
            | false => none
            | true => match lo, hi, mx with
              | none, none, none => some (.os r off n, True)
              | some l, none, none => match intOfD (evo σ l) with
                | some l => some (.os r (addN off l.toNat) (n - l.toNat), 0 ≤ l ∧ l ≤ (n : Int))
                | none => none
              | none, some h, none => match intOfD (evo σ h) with
                | some h => some (.os r off h.toNat, 0 ≤ h ∧ h ≤ (n : Int))
                | none => none
              | some l, some h, none => match intOfD (evo σ l), intOfD (evo σ h) with
                | some l, some h => some (.os r (addN off l.toNat) (h.toNat - l.toNat), 0 ≤ l ∧ l ≤ h ∧ h ≤ (n : Int))
                | _, _ => none
              | _, _, _ => none
        | .nils => match lo, hi, mx with
          | none, none, none => some (.nils, True)
          | _, _, _ => none
        | _ => none
    | _ => none

theorem rep_int {E : Env} {d : D} {v : Value} {n : Int} (h : rep E d v) (hd : intOfD d = some n) : ∃ k, v = .int k n := by
  cases d <;> simp only [intOfD, Option.some.injEq, reduceCtorEq] at hd
  subst hd
  simp only [rep] at h
  exact ⟨_, h⟩

theorem rep_sub {E : Env} {sz n c : Nat} {cs : List D} {A : Option Addr} (_hn : n ≤ c) (hc : c ≤ maxLen) (hl : cs.length = n * sz) (hr : 0 < n → ∃ b o, A = some ⟨b, o, none⟩ ∧ repCells E.pure cs b o)
    (l h m : Nat) (h1 : l ≤ h) (h2 : h ≤ n) (h3 : h ≤ m) (h4 : m ≤ c) :
    rep E (.sl sz (h - l) ((cs.drop (l * sz)).take ((h - l) * sz))) (sliced A l h m sz) := by
  simp only [rep, sliced]
  refine ⟨_, _, rfl, by omega, by omega, ?_, fun hp => ?_⟩
  · rw [List.length_take, List.length_drop, hl, ← Nat.mul_sub_right_distrib]
    exact Nat.min_eq_left (Nat.mul_le_mul_right _ (by omega))
  · obtain ⟨b, o, rfl, hc⟩ := hr (by omega)
    refine ⟨b, o + l * sz, ?_, repCells_take (repCells_drop hc _) _⟩
    rw [if_neg (by omega)]
    simp [add_at]

theorem osRep_sub {c : RC} {off n : Nat} {v : Value} (h : osRep c off n v) {sz : Nat} (hsz : c.sz = sz) (l e : Nat) (h1 : l ≤ e) (h2 : e ≤ n) :
    ∃ A len cap, v = .slice A len cap ∧ len = n ∧ n ≤ cap ∧ osRep c (off + l) (e - l) (sliced A l e cap sz) := by
  unfold osRep at *
  split at h
  · obtain ⟨rfl, rfl, rfl⟩ := h
    refine ⟨none, 0, 0, rfl, rfl, Nat.le_refl _, ?_⟩
    obtain rfl : e = 0 := by omega
    obtain rfl : l = 0 := by omega
    simp [sliced]
  · rename_i b hb
    obtain ⟨o, k, rfl, q1, q2, q3⟩ := h
    refine ⟨_, _, k, rfl, rfl, q2, ?_⟩
    simp only [sliced]
    by_cases hk : k = l
    · rw [if_pos hk]
      exact ⟨o, k - l, by rfl, by omega, by omega, fun h => by omega⟩
    · rw [if_neg hk]
      refine ⟨o + l * sz, k - l, by simp [add_at], by omega, by omega, fun _ => ?_⟩
      rw [q3 (by omega), hsz, Nat.add_mul]

theorem evSlice_sound (hv : Valid P τ) (s : SatR B st a w ρ) {t : TypeId} {x : Operand} {lo hi mx : Option Operand} {d : D} {p : Prop}
    (h : evSlice τ st.σ st.h t x lo hi mx = some (d, p)) (hp : p) :
    ∃ v, (Instr.sliceAt t (a.eval x) (lo.map a.eval) (hi.map a.eval) (mx.map a.eval)).run P w = .ok v w ∧ rep (st.env B w ρ) d v := by
  unfold evSlice at h
  cases hτ : get τ t with
  | none => simp [hτ] at h
  | some i =>
    have hT := tok hv hτ
    have hx := rep_evo s x
    simp only [hτ] at h
    split at h
    · rename_i hk
      have hu := hT.str hk
      split at h
      · cases h
      · split at h
        · rename_i str hd
          rw [hd] at hx
          simp only [rep] at hx
          rw [hx]
          split at h
          · simp only [Option.some.injEq, Prod.mk.injEq] at h
            obtain ⟨rfl, rfl⟩ := h
            refine ⟨.string (str.extract 0 str.size), ?_, by simp [rep]⟩
            simp [Instr.sliceAt, run_underlying hu, run_slice_string_all w t str hu]
          · rename_i l
            have hl := rep_evo s l
            split at h
            · rename_i li hli
              obtain ⟨kl, hl⟩ := rep_int hl hli
              simp only [Option.some.injEq, Prod.mk.injEq] at h
              obtain ⟨rfl, rfl⟩ := h
              refine ⟨.string (str.extract li.toNat str.size), ?_, by simp only [rep]⟩
              simp [Instr.sliceAt, run_underlying hu, run_slice_string_l w t str hu kl li hp.1 hp.2, hl]
            · cases h
          · rename_i hh
            have hh' := rep_evo s hh
            split at h
            · rename_i li hli
              obtain ⟨kl, hl⟩ := rep_int hh' hli
              simp only [Option.some.injEq, Prod.mk.injEq] at h
              obtain ⟨rfl, rfl⟩ := h
              refine ⟨.string (str.extract 0 li.toNat), ?_, by simp only [rep]⟩
              simp [Instr.sliceAt, run_underlying hu, run_slice_string_h w t str hu kl li hp.1 hp.2, hl]
            · cases h
          · rename_i l hh
            have hl' := rep_evo s l
            have hh' := rep_evo s hh
            split at h
            · rename_i li hj hli hhj
              obtain ⟨kl, hl⟩ := rep_int hl' hli
              obtain ⟨kh, hh2⟩ := rep_int hh' hhj
              simp only [Option.some.injEq, Prod.mk.injEq] at h
              obtain ⟨rfl, rfl⟩ := h
              refine ⟨.string (str.extract li.toNat hj.toNat), ?_, by simp only [rep]⟩
              simp [Instr.sliceAt, run_underlying hu, run_slice_string w t str kl kh li hj hu hp.1 hp.2.1 hp.2.2, hl, hh2]
            · cases h
        · cases h
    · rename_i e hk
      have hu := hT.slice hk
      have hel : P.elem t = e := by simp [Program.elem, hu]
      have hu' : P.underlying t = some (.slice (P.elem t)) := by rw [hel]; exact hu
      split at h
      · cases h
      · rename_i ie he
        have hTe := tok hv he
        have hsize : (sizeOf (P.elem t)).run P w = .ok ie.size w := by rw [hel]; exact hTe.size_run w
        split at h
        · rename_i sz n cs hd
          rw [hd] at hx
          split at h
          · cases h
          · rename_i hsz
            have hsz := Nat.eq_of_beq_eq_true hsz
            simp only [rep] at hx
            obtain ⟨A, c, hval, h1, h2, h3, h4⟩ := hx
            rw [hval]
            have sub := rep_sub (E := st.env B w ρ) h1 h2 h3 h4
            split at h
            · simp only [Option.some.injEq, Prod.mk.injEq] at h
              obtain ⟨rfl, rfl⟩ := h
              refine ⟨sliced A 0 n c sz, ?_, ?_⟩
              · simp [run_sliceAt_slice w t _ _ _ _ hu', run_slice_all w t A n c hu', hsize, hsz]
              · have := sub 0 n c (Nat.zero_le _) (Nat.le_refl _) h1 (Nat.le_refl _)
                simpa [← h3] using this
            · rename_i l
              have hl' := rep_evo s l
              split at h
              · rename_i li hli
                obtain ⟨kl, hl⟩ := rep_int hl' hli
                simp only [Option.some.injEq, Prod.mk.injEq] at h
                obtain ⟨rfl, rfl⟩ := h
                refine ⟨sliced A li.toNat n c sz, ?_, ?_⟩
                · simp [run_sliceAt_slice w t _ _ _ _ hu', run_slice_l w t A n c hu' kl li hp.1 hp.2, hsize, hsz, hl]
                · have := sub li.toNat n c (by omega) (Nat.le_refl _) h1 (Nat.le_refl _)
                  rw [mulN_eq]
                  rwa [List.take_of_length_le (by rw [List.length_drop, h3, Nat.mul_sub_right_distrib]; exact Nat.le_refl _)] at this
              · cases h
            · rename_i hh
              have hl' := rep_evo s hh
              split at h
              · rename_i li hli
                obtain ⟨kl, hl⟩ := rep_int hl' hli
                simp only [Option.some.injEq, Prod.mk.injEq] at h
                obtain ⟨rfl, rfl⟩ := h
                refine ⟨sliced A 0 li.toNat c sz, ?_, ?_⟩
                · simp [run_sliceAt_slice w t _ _ _ _ hu', run_slice_h w t A n c hu' kl li hp.1 (by omega), hsize, hsz, hl]
                · have := sub 0 li.toNat c (by omega) (by omega) (by omega) (Nat.le_refl _)
                  rw [mulN_eq]
                  simpa using this
              · cases h
            · rename_i l hh
              have hl' := rep_evo s l
              have hh' := rep_evo s hh
              split at h
              · rename_i li hj hli hhj
                obtain ⟨kl, hl⟩ := rep_int hl' hli
                obtain ⟨kh, hh2⟩ := rep_int hh' hhj
                simp only [Option.some.injEq, Prod.mk.injEq] at h
                obtain ⟨rfl, rfl⟩ := h
                refine ⟨sliced A li.toNat hj.toNat c sz, ?_, ?_⟩
                · simp [run_sliceAt_slice w t _ _ _ _ hu', run_slice_lh w t A n c hu' kl kh li hj hp.1 hp.2.1 (by omega), hsize, hsz, hl, hh2]
                · have := sub li.toNat hj.toNat c (by omega) (by omega) (by omega) (Nat.le_refl _)
                  rw [mulN_eq, mulN_eq]
                  exact this
              · cases h
            · rename_i hh m
              have hm' := rep_evo s m
              have hh' := rep_evo s hh
              split at h
              · rename_i hj mj hhj hmj
                obtain ⟨kh, hh2⟩ := rep_int hh' hhj
                obtain ⟨km, hm2⟩ := rep_int hm' hmj
                simp only [Option.some.injEq, Prod.mk.injEq] at h
                obtain ⟨rfl, rfl⟩ := h
                refine ⟨sliced A 0 hj.toNat mj.toNat sz, ?_, ?_⟩
                · simp [run_sliceAt_slice w t _ _ _ _ hu', run_slice_hm w t A n c hu' kh km hj mj hp.1 hp.2.1 (by omega), hsize, hsz, hh2, hm2]
                · have := sub 0 hj.toNat mj.toNat (by omega) (by omega) (by omega) (by omega)
                  rw [mulN_eq]
                  simpa using this
              · cases h
            · cases h
        · rename_i r off n hd
          rw [hd] at hx
          split at h
          · cases h
          · rename_i R hR
            split at h
            · cases h
            · rename_i hsz
              have hsz := Nat.eq_of_beq_eq_true hsz
              have hρ : (ρ r).sz = ie.size := by rw [← hsz]; exact (s.roots r R hR).sz
              simp only [rep] at hx
              obtain ⟨hlt, hx⟩ := hx
              have sub := fun l e h1 h2 => osRep_sub hx hρ l e h1 h2
              split at h
              · simp only [Option.some.injEq, Prod.mk.injEq] at h
                obtain ⟨rfl, rfl⟩ := h
                obtain ⟨A, len, cap, hval, rfl, q1, q2⟩ := sub 0 n (Nat.zero_le _) (Nat.le_refl _)
                refine ⟨sliced A 0 len cap ie.size, ?_, ?_⟩
                · rw [hval]
                  simp [run_sliceAt_slice w t _ _ _ _ hu', run_slice_all w t A len cap hu', hsize]
                · simp only [rep]
                  exact ⟨hlt, by simpa using q2⟩
              · rename_i l
                have hl' := rep_evo s l
                split at h
                · rename_i li hli
                  obtain ⟨kl, hl⟩ := rep_int hl' hli
                  simp only [Option.some.injEq, Prod.mk.injEq] at h
                  obtain ⟨rfl, rfl⟩ := h
                  obtain ⟨A, len, cap, hval, rfl, q1, q2⟩ := sub li.toNat n (by omega) (Nat.le_refl _)
                  refine ⟨sliced A li.toNat len cap ie.size, ?_, ?_⟩
                  · rw [hval]
                    simp [run_sliceAt_slice w t _ _ _ _ hu', run_slice_l w t A len cap hu' kl li hp.1 hp.2, hsize, hl]
                  · simp only [rep, addN_eq]
                    exact ⟨hlt, q2⟩
                · cases h
              · rename_i hh
                have hl' := rep_evo s hh
                split at h
                · rename_i li hli
                  obtain ⟨kl, hl⟩ := rep_int hl' hli
                  simp only [Option.some.injEq, Prod.mk.injEq] at h
                  obtain ⟨rfl, rfl⟩ := h
                  obtain ⟨A, len, cap, hval, rfl, q1, q2⟩ := sub 0 li.toNat (by omega) (by omega)
                  refine ⟨sliced A 0 li.toNat cap ie.size, ?_, ?_⟩
                  · rw [hval]
                    simp [run_sliceAt_slice w t _ _ _ _ hu', run_slice_h w t A len cap hu' kl li hp.1 (by omega), hsize, hl]
                  · simp only [rep]
                    exact ⟨hlt, by simpa using q2⟩
                · cases h
              · rename_i l hh
                have hl' := rep_evo s l
                have hh' := rep_evo s hh
                split at h
                · rename_i li hj hli hhj
                  obtain ⟨kl, hl⟩ := rep_int hl' hli
                  obtain ⟨kh, hh2⟩ := rep_int hh' hhj
                  simp only [Option.some.injEq, Prod.mk.injEq] at h
                  obtain ⟨rfl, rfl⟩ := h
                  obtain ⟨A, len, cap, hval, rfl, q1, q2⟩ := sub li.toNat hj.toNat (by omega) (by omega)
                  refine ⟨sliced A li.toNat hj.toNat cap ie.size, ?_, ?_⟩
                  · rw [hval]
                    simp [run_sliceAt_slice w t _ _ _ _ hu', run_slice_lh w t A len cap hu' kl kh li hj hp.1 hp.2.1 (by omega), hsize, hl, hh2]
                  · simp only [rep, addN_eq]
                    exact ⟨hlt, q2⟩
                · cases h
              · cases h
        · rename_i hd
          rw [hd] at hx
          simp only [rep] at hx
          split at h
          · simp only [Option.some.injEq, Prod.mk.injEq] at h
            obtain ⟨rfl, rfl⟩ := h
            refine ⟨sliced none 0 0 0 ie.size, ?_, by simp [rep, sliced]⟩
            rw [hx]
            simp [run_sliceAt_slice w t _ _ _ _ hu', run_slice_all w t none 0 0 hu', hsize]
          · cases h
        · cases h
    · cases h
end
end Go.Px
end

section
namespace Go.Px
open Go.RowKit

def evUn (op : UnOp) (d : D) : Option (D × Prop) :=
  match op, d with
  | .not, .b x => some (.b (!x), True)
  | .neg, .i k n => arith k (0 - n)
  | _, _ => none
def evConv (τ : List (Nat × TI)) (src dst : TypeId) (d : D) : Option (D × Prop) :=
  match get τ src, get τ dst with
  | some _, some j => match j.k, d with
    | .int k, .i _ n => some (.i k (k.wrap n), True)
    | .str, .s x => some (.s x, True)
    | _, _ => none
  | _, _ => none
def evLen (τ : List (Nat × TI)) (t : TypeId) (d : D) : Option (D × Prop) :=
  match get τ t with
  | none => none
  | some i => match i.k with
    | .str => match d with
      | .s x => some (.i .i64 (x.size : Int), True)
      | _ => none
    | .slice _ => match d with
      | .sl _ n _ => some (.i .i64 (n : Int), True)
      | .os _ _ n => some (.i .i64 (n : Int), True)
      | .nils => some (.i .i64 0, True)
      | _ => none
    | _ => none
def evExtract (d : D) (k : Nat) : Option (D × Prop) :=
  match d with
  | .tup ds => match ds[k]? with | some d => some (d, True) | none => none
  | _ => none
def evStrIdx (τ : List (Nat × TI)) (t : TypeId) (hint : Hint) (x ix : D) : Option (D × Prop) :=
  match get τ t with
  | none => none
  | some i => match i.k with
    | .str => match x, ix with
      | .s s, .i _ n => some (.i .u8 (byteAt s n), 0 ≤ n ∧ n < (s.size : Int))
      | _, _ => none
    | .array n e => match get τ e with
      | none => none
      | some ie => match ie.k.agg with
        | true => none
        | false => match Nat.beq ie.size 1 with
          | false => none
          | true => match x, ix with
            | .ag cs, .i _ k => match hint with
              | .cell d => some (d, cs[k.toNat]? = some d ∧ 0 ≤ k ∧ k < (n : Int))
              | _ => match cs[k.toNat]? with
                | some d => some (d, 0 ≤ k ∧ k < (n : Int))
                | none => none
            | _, _ => none
    | _ => none
def partE (o s : Nat) (ag : Bool) (l : List D) : Option D :=
  match ag with
  | true => match takeE s (l.drop o) with | some l => some (.ag l) | none => none
  | false => l[o]?
def evFieldV (τ : List (Nat × TI)) (t : TypeId) (x : D) (f : Nat) : Option (D × Prop) :=
  match get τ t with
  | none => none
  | some i => match i.k with
    | .struct fs => match fs[f]? with
      | some (o, s, ag) => match x with
        | .ag l => match partE o s ag l with | some d => some (d, True) | none => none
        | _ => none
      | none => none
    | _ => none
def evIface (τ : List (Nat × TI)) (t : TypeId) (d : D) : Option (D × Prop) :=
  match get τ t with
  | none => none
  | some i => match i.k with
    | .iface | .other => none
    | _ => some (.ifc t d, True)
def evMM (mx : Bool) (ds : List D) : Option (D × Prop) :=
  match ds with
  | [.i k x, .i _ y] => some (.i k (match mx with | true => if y > x then y else x | false => if y < x then y else x), True)
  | [.i k x, .i _ y, .i _ z] => some (.i k (match mx with
      | true => if z > (if y > x then y else x) then z else (if y > x then y else x)
      | false => if z < (if y < x then y else x) then z else (if y < x then y else x)), True)
  | _ => none
def evAssertT (x : D) (asserted : TypeId) : Option (D × Prop) :=
  match x with
  | .ifc t d => match Nat.beq t asserted with
    | true => some (.tup [d, .b true], True)
    | false => none
  | _ => none

section
variable {P : Program} {τ : List (Nat × TI)} {E : Env} {w : World}
theorem evUn_sound {op : UnOp} {dx : D} {vx : Value} {d : D} {p : Prop} (hx : rep E dx vx) (h : evUn op dx = some (d, p)) (hp : p) :
    ∃ v, (Op.unary op vx).run P w = .ok v w ∧ rep E d v := by
  unfold evUn at h
  split at h
  · simp only [rep] at hx
    subst hx
    simp only [Option.some.injEq, Prod.mk.injEq] at h
    obtain ⟨rfl, rfl⟩ := h
    exact ⟨_, by simp only [Op.unary]; rfl, by simp only [rep]⟩
  · rename_i k n
    simp only [rep] at hx
    subst hx
    exact ⟨.int k (k.wrap (0 - n)), by simp [Op.unary, Op.intArith], arith_sound h hp⟩
  · cases h
theorem TOK.some {P : Program} {t : TypeId} {i : TI} (h : TOK P t i) : ∃ d, P.underlying t = some d := by
  have q := h.kind
  unfold kindB at q
  split at q
  all_goals first
    | (rename_i hu; exact ⟨_, hu⟩)
    | (exact absurd q (by simp))
theorem evConv_sound (hv : Valid P τ) {src dst : TypeId} {dx : D} {vx : Value} {d : D} {p : Prop} (hx : rep E dx vx) (h : evConv τ src dst dx = some (d, p)) :
    ∃ v, (convert src dst vx).run P w = .ok v w ∧ rep E d v := by
  unfold evConv at h
  split at h
  · rename_i i j hi hj
    obtain ⟨ds, hs⟩ := (tok hv hi).some
    split at h
    · rename_i k k' n hk
      have hu := (tok hv hj).int hk
      simp only [rep] at hx
      subst hx
      simp only [Option.some.injEq, Prod.mk.injEq] at h
      obtain ⟨rfl, rfl⟩ := h
      refine ⟨.int k (k.wrap n), ?_, by simp only [rep]⟩
      unfold convert
      simp [run_underlying hs, run_underlying hu, Conv.intToInt]
    · rename_i x hk
      have hu := (tok hv hj).str hk
      simp only [rep] at hx
      subst hx
      simp only [Option.some.injEq, Prod.mk.injEq] at h
      obtain ⟨rfl, rfl⟩ := h
      refine ⟨.string x, ?_, by simp only [rep]⟩
      unfold convert
      simp [run_underlying hs, run_underlying hu]
    · cases h
  · cases h
theorem osRep_len {c : RC} {off n : Nat} {v : Value} (h : osRep c off n v) : ∃ A k, v = .slice A n k := by
  unfold osRep at h
  split at h
  · obtain ⟨rfl, _, rfl⟩ := h; exact ⟨_, _, rfl⟩
  · obtain ⟨o, k, rfl, _⟩ := h; exact ⟨_, _, rfl⟩
theorem evLen_sound (hv : Valid P τ) {t ty : TypeId} {dx : D} {vx : Value} {d : D} {p : Prop} (hx : rep E dx vx) (h : evLen τ t dx = some (d, p)) :
    ∃ v, (Builtin.len_ #[t] ty #[vx]).run P w = .ok v w ∧ rep E d v := by
  unfold evLen at h
  split at h
  · cases h
  · rename_i i hi
    have hT := tok hv hi
    split at h
    · rename_i hk
      split at h
      · rename_i x
        simp only [rep] at hx
        subst hx
        simp only [Option.some.injEq, Prod.mk.injEq] at h
        obtain ⟨rfl, rfl⟩ := h
        exact ⟨_, run_len_string w t ty x (hT.str hk), by simp only [rep, goInt]⟩
      · cases h
    · rename_i e hk
      have hu := hT.slice hk
      have hu' : P.underlying t = some (.slice (P.elem t)) := by simp [Program.elem, hu]
      split at h
      · simp only [rep] at hx
        obtain ⟨A, c, rfl, _⟩ := hx
        simp only [Option.some.injEq, Prod.mk.injEq] at h
        obtain ⟨rfl, rfl⟩ := h
        exact ⟨_, run_len_slice w t ty A _ c hu', by simp only [rep, goInt]⟩
      · simp only [rep] at hx
        obtain ⟨A, c, rfl⟩ := osRep_len hx.2
        simp only [Option.some.injEq, Prod.mk.injEq] at h
        obtain ⟨rfl, rfl⟩ := h
        exact ⟨_, run_len_slice w t ty A _ c hu', by simp only [rep, goInt]⟩
      · simp only [rep] at hx
        subst hx
        simp only [Option.some.injEq, Prod.mk.injEq] at h
        obtain ⟨rfl, rfl⟩ := h
        exact ⟨_, run_len_slice w t ty none 0 0 hu', by simp [rep, goInt]⟩
      · cases h
    · cases h
theorem evExtract_sound {dx : D} {vx : Value} {k : Nat} {d : D} {p : Prop} (hx : rep E dx vx) (h : evExtract dx k = some (d, p)) :
    ∃ v, (Instr.extract vx k).run P w = .ok v w ∧ rep E d v := by
  unfold evExtract at h
  split at h
  · rename_i ds
    simp only [rep] at hx
    obtain ⟨vs, rfl, hvs⟩ := hx
    split at h
    · rename_i d' hd
      simp only [Option.some.injEq, Prod.mk.injEq] at h
      obtain ⟨rfl, rfl⟩ := h
      obtain ⟨v, h1, h2⟩ := (repVals_iff.1 hvs).2 k _ hd
      exact ⟨v, by simp [Instr.extract, h1], h2⟩
    · cases h
  · cases h
theorem evStrIdx_sound (hv : Valid P τ) {t : TypeId} {hint : Hint} {dx di : D} {vx vi : Value} {d : D} {p : Prop} (hx : rep E dx vx) (hi : rep E di vi) (h : evStrIdx τ t hint dx di = some (d, p)) (hp : p) :
    ∃ v, (Instr.index t vx vi).run P w = .ok v w ∧ rep E d v := by
  unfold evStrIdx at h
  split at h
  · cases h
  · rename_i i hti
    have hT := tok hv hti
    split at h
    · rename_i hk
      have hu := hT.str hk
      split at h
      · rename_i s k n
        simp only [rep] at hx hi
        subst hx hi
        simp only [Option.some.injEq, Prod.mk.injEq] at h
        obtain ⟨rfl, rfl⟩ := h
        refine ⟨.int .u8 (byteAt s n), ?_, by simp only [rep]⟩
        rw [run_index_string w t s k n hu, dif_pos hp]
        have hlt : n.toNat < s.data.size := by have : s.data.size = s.size := rfl; omega
        congr 2
        simp only [byteAt, List.getD_eq_getElem?_getD, Array.getElem?_toList, Array.getElem?_eq_getElem hlt, Option.getD_some]
        rfl
      · cases h
    · rename_i n e hk
      have hu := hT.array hk
      split at h
      · cases h
      · rename_i ie he
        have hTe := tok hv he
        split at h
        · cases h
        · rename_i hag
          split at h
          · cases h
          · rename_i hsz
            have hsz := Nat.eq_of_beq_eq_true hsz
            split at h
            · rename_i cs kk k
              simp only [rep] at hx hi
              obtain ⟨vs, rfl, hvs, _⟩ := hx
              subst hi
              have run : ∀ d, cs[k.toNat]? = some d → 0 ≤ k ∧ k < (n : Int) → ∃ v, (Instr.index t (.agg vs.toArray) (.int kk k)).run P w = .ok v w ∧ rep E d v := by
                intro d hd hk2
                obtain ⟨v, h1, h2⟩ := (repVals_iff.1 hvs).2 _ _ hd
                refine ⟨v, ?_, h2⟩
                simp [Instr.index, asIntOf, run_underlying hu, hk2, part, hTe.agg, hag, hTe.size_run, hsz, h1]
              split at h
              · simp only [Option.some.injEq, Prod.mk.injEq] at h
                obtain ⟨rfl, rfl⟩ := h
                exact run _ hp.1 hp.2
              · split at h
                · rename_i d' hd
                  simp only [Option.some.injEq, Prod.mk.injEq] at h
                  obtain ⟨rfl, rfl⟩ := h
                  exact run _ hd hp
                · cases h
            · cases h
    · cases h
theorem part_run {l : List D} {vs : List Value} (hvs : repVals E l vs) (hone : ∀ u ∈ vs, u.oneCell' = true) {o s : Nat} {ag : Bool} {d : D} (h : partE o s ag l = some d) {ft : TypeId}
    (hsz : ∀ w, (sizeOf ft).run P w = .ok s w) (hag : ∀ w, (isAgg ft).run P w = .ok ag w) : ∃ v, (part ft vs.toArray o).run P w = .ok v w ∧ rep E d v := by
  unfold partE at h
  split at h
  · split at h
    · rename_i l' hl
      cases h
      have := takeE_eq hl
      refine ⟨.agg (vs.toArray.extract o (o + s)), by simp [part, hag, hsz], ?_⟩
      simp only [rep]
      refine ⟨(vs.drop o).take s, by simp, ?_, fun u hu => hone u (List.mem_of_mem_drop (List.mem_of_mem_take hu))⟩
      rw [← this.1]
      rw [repVals_iff] at hvs ⊢
      refine ⟨by simp [hvs.1], fun k d hk => ?_⟩
      rw [List.getElem?_take] at hk
      split at hk
      · rename_i hks
        rw [List.getElem?_drop] at hk
        obtain ⟨v, h1, h2⟩ := hvs.2 _ _ hk
        exact ⟨v, by rw [List.getElem?_take, if_pos hks, List.getElem?_drop]; exact h1, h2⟩
      · cases hk
    · cases h
  · obtain ⟨v, h1, h2⟩ := (repVals_iff.1 hvs).2 _ _ h
    exact ⟨v, by simp [part, hag, h1], h2⟩
theorem evFieldV_sound (hv : Valid P τ) {t : TypeId} {dx : D} {vx : Value} {f : Nat} {d : D} {p : Prop} (hx : rep E dx vx) (h : evFieldV τ t dx f = some (d, p)) :
    ∃ v, (Instr.field t vx f).run P w = .ok v w ∧ rep E d v := by
  unfold evFieldV at h
  split at h
  · cases h
  · rename_i i hi
    have hT := tok hv hi
    split at h
    · rename_i fs hk
      obtain ⟨gs, hu, hf⟩ := hT.struct hk
      split at h
      · rename_i o s ag hfo
        obtain ⟨g, hg, ho, _, hsz, hag⟩ := fieldsB_get hf f o s ag hfo
        have hg' : gs[f]? = some g := by simpa using hg
        split at h
        · rename_i l
          simp only [rep] at hx
          obtain ⟨vs, rfl, hvs, hone⟩ := hx
          split at h
          · rename_i d' hd
            simp only [Option.some.injEq, Prod.mk.injEq] at h
            obtain ⟨rfl, rfl⟩ := h
            obtain ⟨v, h1, h2⟩ := part_run (P := P) (w := w) hvs hone hd hsz hag
            exact ⟨v, by simp [Instr.field, run_underlying hu, hg', asAgg, ho, h1], h2⟩
          · cases h
        · cases h
      · cases h
    · cases h
theorem evIface_sound (hv : Valid P τ) {t : TypeId} {dx : D} {vx : Value} {d : D} {p : Prop} (hx : rep E dx vx) (h : evIface τ t dx = some (d, p)) :
    ∃ v, (Instr.makeInterface t vx).run P w = .ok v w ∧ rep E d v := by
  unfold evIface at h
  split at h
  · cases h
  · rename_i i hi
    have hT := tok hv hi
    have hk := hT.kind
    split at h
    · cases h
    · cases h
    · rename_i n1 n2
      simp only [Option.some.injEq, Prod.mk.injEq] at h
      obtain ⟨rfl, rfl⟩ := h
      refine ⟨.iface t vx, ?_, by simp only [rep]; exact ⟨vx, rfl, hx⟩⟩
      unfold kindB at hk
      split at hk
      all_goals first
        | (rename_i hkk hu; simp [Instr.makeInterface, run_underlying hu]; done)
        | (rename_i hkk hu; exact absurd hkk n1)
        | (cases hk)
theorem evMM_sound {mx : Bool} {ds : List D} {vs : List Value} {ts : Array TypeId} {t : TypeId} {d : D} {p : Prop} (hx : repVals E ds vs) (h : evMM mx ds = some (d, p)) :
    ∃ v, (match mx with | true => Builtin.max_ ts t vs.toArray | false => Builtin.min_ ts t vs.toArray : Sem Value).run P w = .ok v w ∧ rep E d v := by
  unfold evMM at h
  split at h
  · simp only [repVals, rep] at hx
    obtain ⟨_, _, rfl, rfl, _, _, rfl, rfl, rfl⟩ := hx
    simp only [Option.some.injEq, Prod.mk.injEq] at h
    obtain ⟨rfl, rfl⟩ := h
    cases mx
    · exact ⟨_, run_min_int2 w ts t _ _ _ _, by simp only [rep]⟩
    · exact ⟨_, run_max_int2 w ts t _ _ _ _, by simp only [rep]⟩
  · simp only [repVals, rep] at hx
    obtain ⟨_, _, rfl, rfl, _, _, rfl, rfl, _, _, rfl, rfl, rfl⟩ := hx
    simp only [Option.some.injEq, Prod.mk.injEq] at h
    obtain ⟨rfl, rfl⟩ := h
    cases mx
    · exact ⟨_, run_min_int3 w ts t _ _ _ _ _ _, by simp only [rep]⟩
    · exact ⟨_, run_max_int3 w ts t _ _ _ _ _ _, by simp only [rep]⟩
  · cases h
end
end Go.Px
end

