/-
  What the functions that the statement reaches compute, proved (contracts of functions and the lemmas for them), a part of the proof. No conditions beyond those that each theorem names.
-/
import Derived.Test.YtakligfpajogkaaGreatDoorPartG
import Derived.Laws.Strings
set_option linter.unusedVariables false
set_option linter.unusedSimpArgs false

section
namespace Go.Px
open Go.RowKit

/-! ### What the program's values are, in plain Lean -/
structure Nm where
  neg : Bool
  m : List Nat
  e : Int
inductive Tr where
  | mk (kind : Int) (b : Bool) (n : Nm) (s : ByteArray) (k : List ByteArray) (v : List Tr)
namespace Tr
def kind : Tr → Int | .mk x _ _ _ _ _ => x
def b : Tr → Bool | .mk _ x _ _ _ _ => x
def n : Tr → Nm | .mk _ _ x _ _ _ => x
def s : Tr → ByteArray | .mk _ _ _ x _ _ => x
def k : Tr → List ByteArray | .mk _ _ _ _ x _ => x
def v : Tr → List Tr | .mk _ _ _ _ _ x => x
end Tr
def u32 (n : Nat) : D := .i .u32 n
mutual
def encT : Tr → List D
  | .mk x b n s k v => [.i .i64 x, .b b, .b n.neg, .sl 1 n.m.length (n.m.map u32), .i .i64 n.e, .s s, .sl 1 k.length (k.map D.s), .sl 8 v.length (encs v)]
def encs : List Tr → List D
  | [] => []
  | t :: ts => encT t ++ encs ts
end
def enc (t : Tr) : List D := [.i .i64 t.kind, .b t.b, .b t.n.neg, .sl 1 t.n.m.length (t.n.m.map u32), .i .i64 t.n.e, .s t.s, .sl 1 t.k.length (t.k.map D.s), .sl 8 t.v.length (encs t.v)]
theorem encT_eq (t : Tr) : encT t = enc t := by cases t; simp only [encT, enc, Tr.kind, Tr.b, Tr.n, Tr.s, Tr.k, Tr.v]
theorem enc_len (t : Tr) : (enc t).length = 8 := rfl
theorem encs_nil : encs [] = [] := by simp only [encs]
theorem encs_cons (t : Tr) (ts : List Tr) : encs (t :: ts) = enc t ++ encs ts := by simp only [encs, encT_eq]
theorem encs_len : ∀ (ts : List Tr), (encs ts).length = ts.length * 8
  | [] => by simp [encs_nil]
  | t :: ts => by rw [encs_cons, List.length_append, encs_len ts, enc_len, List.length_cons]; omega
theorem encs_append : ∀ (ts us : List Tr), encs (ts ++ us) = encs ts ++ encs us
  | [], us => by simp [encs_nil]
  | t :: ts, us => by rw [List.cons_append, encs_cons, encs_cons, encs_append ts us, List.append_assoc]
theorem encs_drop : ∀ (ts : List Tr) (k : Nat), (encs ts).drop (k * 8) = encs (ts.drop k)
  | ts, 0 => by simp
  | [], k + 1 => by simp [encs_nil]
  | t :: ts, k + 1 => by
    rw [encs_cons, List.drop_succ_cons, ← encs_drop ts k, show (k + 1) * 8 = (enc t).length + k * 8 by rw [enc_len]; omega, ← List.drop_drop, List.drop_left]
theorem encs_take : ∀ (ts : List Tr) (k : Nat), (encs ts).take (k * 8) = encs (ts.take k)
  | ts, 0 => by simp [encs_nil]
  | [], k + 1 => by simp [encs_nil]
  | t :: ts, k + 1 => by
    rw [encs_cons, List.take_succ_cons, encs_cons, ← encs_take ts k, show (k + 1) * 8 = (enc t).length + k * 8 by rw [enc_len]; omega, List.take_length_add_append]
theorem encs_at (ts : List Tr) (k : Nat) (h : k < ts.length) : ((encs ts).drop (k * 8)).take 8 = enc ts[k] := by
  rw [encs_drop, List.drop_eq_getElem_cons h, encs_cons]
  exact List.take_left' (enc_len _)
theorem bts_inj {a b : ByteArray} : a.toList = b.toList ↔ a = b := by
  constructor
  · intro h
    rw [ByteArray.toList_eq, ByteArray.toList_eq] at h
    exact ByteArray.ext (Array.toList_inj.mp h)
  · rintro rfl; rfl
theorem bts_eq (a b : ByteArray) : (a.toList == b.toList) = decide (a = b) := by
  rw [Bool.eq_iff_iff]
  simp only [beq_iff_eq, decide_eq_true_eq, bts_inj]
theorem bts_t {a b : ByteArray} (h : a = b) : (a.toList == b.toList) = true := by rw [bts_eq]; exact decide_eq_true h
theorem bts_f {a b : ByteArray} (h : a ≠ b) : (a.toList == b.toList) = false := by rw [bts_eq]; exact decide_eq_false h
def nul : Tr := .mk 0 false ⟨false, [], 0⟩ ⟨#[]⟩ [] []
theorem wk_nul : Wk (.ag [.i .i64 0, .b false, .b false, .nils, .i .i64 0, .s ⟨#[]⟩, .nils, .nils]) (.ag (enc nul)) := by
  unfold enc
  simp only [nul, Tr.kind, Tr.b, Tr.n, Tr.s, Tr.k, Tr.v, List.map_nil, List.length_nil, encs_nil]
  exact .ag (.cons (.refl _) (.cons (.refl _) (.cons (.refl _) (.cons (.nils 1) (.cons (.refl _) (.cons (.refl _) (.cons (.nils 1) (.cons (.nils 8) .nil))))))))
theorem at_tr (ts : List Tr) (i : Nat) (h : i < ts.length) : ((encs ts).drop (mulN (i : Int).toNat 8)).take 8 = enc ts[i] ∧ (enc ts[i]).length = 8 := by
  rw [mulN_eq, Int.toNat_natCast]
  exact ⟨encs_at ts i h, enc_len _⟩
theorem at_s (l : List ByteArray) (i : Nat) (h : i < l.length) : ((l.map D.s).drop (mulN (i : Int).toNat 1))[0]? = some (.s l[i]) := by
  simp [mulN_eq, h]
theorem at_u (l : List Nat) (i : Nat) (h : i < l.length) : ((l.map u32).drop (mulN (i : Int).toNat 1))[0]? = some (u32 l[i]) := by
  simp [mulN_eq, h]
theorem dt {p : Prop} [Decidable p] (h : p) : True ∧ decide p = true := ⟨trivial, decide_eq_true h⟩
theorem df {p : Prop} [Decidable p] (h : ¬ p) : True ∧ decide p = false := ⟨trivial, decide_eq_false h⟩
end Go.Px
end

section
namespace Go.Px
open Go.RowKit

def cutK (t : Tr) : List ByteArray := if t.kind = 7 then t.k.take (min t.k.length t.v.length) else []
def cutV (t : Tr) : List Tr := if t.kind = 7 then t.v.take (min t.k.length t.v.length) else []

theorem cut_ct (t : Tr) : Pure Go.Proofs.Tryz.prog 139 [.ag (enc t)] (.ret (.tup [.sl 1 (cutK t).length ((cutK t).map D.s), .sl 8 (cutV t).length (encs (cutV t))])) := by
  refine Pure.body tys_valid (fn := Go.Proofs.Tryz.f139) (by kernel_rfl) rfl (by kernel_rfl) rfl ?_
  intro w ok giv E0 _ hE
  by_cases hk : t.kind = 7
  · refine H.go 40 [(3, [(6, .val (.i .i64 ((min t.k.length t.v.length : Nat) : Int)))])] [(7, false)] dr139 rfl ?_ ?_
    · repeat' (first | exact AllP.n | exact trivial | exact DrawB.mk (by decide +kernel) | refine AllP.c ?_ ?_)
      · omega
      · omega
      · refine ⟨trivial, ?_⟩
        simp only [D.i.injEq, true_and]
        split <;> omega
      · simp [hk]
    · refine ⟨_, _, rfl, ?_, ?_⟩
      · repeat' (first | exact AllP.n | exact trivial | refine AllP.c ?_ ?_)
      · have h1 : (cutK t).length = min t.k.length t.v.length := by simp [cutK, hk]
        have h2 : (cutV t).length = min t.k.length t.v.length := by simp [cutV, hk]
        simp only [tupD, mulN_eq, Int.toNat_natCast, encs_take, h1, h2]
        simp only [cutK, cutV, hk, if_true, Nat.mul_one, List.map_take]
        exact .refl _
  · refine H.go 40 [] [(7, true)] dr139 rfl ?_ ?_
    · repeat' (first | exact AllP.n | exact trivial | exact DrawB.mk (by decide +kernel) | refine AllP.c ?_ ?_)
      simpa using hk
    · refine ⟨_, _, rfl, ?_, ?_⟩
      · repeat' (first | exact AllP.n | exact trivial | refine AllP.c ?_ ?_)
      · simp only [cutK, cutV, hk, if_false, tupD, encs_nil]
        exact .tup (.cons (.nils 1) (.cons (.nils 8) .nil))
end Go.Px
end

section
namespace Go.Px
open Go.RowKit

/-- The first place of a name, or -1. -/
def idx : List ByteArray → ByteArray → Int
  | [], _ => -1
  | y :: k, x => if y = x then 0 else if idx k x < 0 then -1 else idx k x + 1
theorem idx_ge : ∀ (k : List ByteArray) (x : ByteArray), -1 ≤ idx k x
  | [], _ => by simp [idx]
  | y :: k, x => by
    have := idx_ge k x
    simp only [idx]
    split
    · omega
    · split <;> omega
theorem idx_no : ∀ (k : List ByteArray) (x : ByteArray), (∀ (j : Nat) (h : j < k.length), k[j] ≠ x) → idx k x = -1
  | [], _, _ => rfl
  | y :: k, x, h => by
    have h0 := h 0 (by simp)
    have := idx_no k x fun j hj => h (j + 1) (by simpa using hj)
    simp only [idx]
    rw [if_neg (by simpa using h0), if_pos (by omega)]
theorem idx_at : ∀ (k : List ByteArray) (x : ByteArray) (i : Nat) (hi : i < k.length), k[i] = x → (∀ (j : Nat) (h : j < i), k[j] ≠ x) → idx k x = i
  | y :: k, x, 0, hi, h, _ => by simp only [idx]; rw [if_pos (by simpa using h)]; rfl
  | y :: k, x, i + 1, hi, h, hj => by
    have h0 := hj 0 (by omega)
    have := idx_at k x i (by simpa using hi) (by simpa using h) fun j hj' => hj (j + 1) (by omega)
    simp only [idx]
    rw [if_neg (by simpa using h0), if_neg (by omega)]
    omega
theorem idx_cases (k : List ByteArray) (x : ByteArray) : (idx k x = -1 ∧ ∀ (j : Nat) (h : j < k.length), k[j] ≠ x) ∨ ∃ (i : Nat) (h : i < k.length), idx k x = i ∧ k[i] = x := by
  by_cases h : ∃ (i : Nat) (h : i < k.length), k[i] = x
  · obtain ⟨i, hi, hm⟩ := least (fun i => ∃ h : i < k.length, k[i] = x) h
    obtain ⟨h1, h2⟩ := hi
    exact .inr ⟨i, h1, idx_at k x i h1 h2 fun j hj he => by have := hm j ⟨by omega, he⟩; omega, h2⟩
  · have : ∀ (j : Nat) (h : j < k.length), k[j] ≠ x := fun j hj he => h ⟨j, hj, he⟩
    exact .inl ⟨idx_no k x this, this⟩
theorem index_ct (k : List ByteArray) (x : ByteArray) (hk : k.length < 2^62) : Pure Go.Proofs.Tryz.prog 140 [.sl 1 k.length (k.map D.s), .s x] (.ret (.i .i64 (idx k x))) := by
  refine Pure.body tys_valid (fn := Go.Proofs.Tryz.f140) (by kernel_rfl) rfl (by kernel_rfl) rfl ?_
  intro w ok giv E0 _ hE
  refine H.go 40 [] [] [] rfl ?_ ?_
  · repeat' (first | exact AllP.n | exact trivial | exact DrawB.mk (by decide +kernel) | refine AllP.c ?_ ?_)
  refine H.loopI (fun i => i ≤ k.length ∧ ∀ (j : Nat) (h : j < i) (h2 : j < k.length), k[j] ≠ x) (fun i : Nat => ⟨[(0, .sl 1 k.length (k.map D.s)), (1, .s x), (7, .i .i64 k.length), (8, .i .i64 i)], [], 0⟩) (fun i => k.length - i) 0 ⟨Nat.zero_le _, fun j h => absurd h (Nat.not_lt_zero _)⟩ ?_ ?_
  · intro a w s
    exact s.ren hE [] ⟨⟨rfl, rfl⟩, ⟨rfl, rfl⟩, ⟨rfl, rfl⟩, ⟨rfl, rfl⟩, trivial⟩ trivial rfl
  rintro i ⟨h1, h2⟩
  by_cases hi : i < k.length
  · by_cases he : k[i] = x
    · refine H.go 40 [(4, [(4, .cell (.s k[i]))])] [(9, true), (16, true)] [] rfl ?_ ?_
      · repeat' (first | exact AllP.n | exact trivial | exact DrawB.mk (by decide +kernel) | refine AllP.c ?_ ?_)
        · simp [he]
        · simp [mulN_eq, hi]
        · omega
        · simp [hi]
      · refine ⟨_, _, rfl, ?_, ?_⟩
        · repeat' (first | exact AllP.n | exact trivial | refine AllP.c ?_ ?_)
        · rw [idx_at k x i hi he fun j hj => h2 j hj (by omega)]
          exact .refl _
    · refine H.go 40 [(4, [(4, .cell (.s k[i]))])] [(9, true), (16, false)] [] rfl ?_ ?_
      · repeat' (first | exact AllP.n | exact trivial | exact DrawB.mk (by decide +kernel) | refine AllP.c ?_ ?_)
        · unfold InR; omega
        · exact bts_f (Ne.symm he)
        · simp [mulN_eq, hi]
        · omega
        · simp [hi]
      · refine loopN (i + 1) ⟨by omega, ?_⟩ (by show k.length - (i + 1) < k.length - i; omega) fun a w s => s.ren hE [] ⟨⟨rfl, rfl⟩, ⟨rfl, rfl⟩, ⟨rfl, rfl⟩, ⟨rfl, rfl⟩, trivial⟩ trivial rfl
        intro j hj hj2
        rcases Nat.lt_or_ge j i with h | h
        · exact h2 j h hj2
        · have : j = i := by omega
          subst this; exact he
  · refine H.go 40 [] [(9, false)] [] rfl ?_ ?_
    · repeat' (first | exact AllP.n | exact trivial | exact DrawB.mk (by decide +kernel) | refine AllP.c ?_ ?_)
      simp; omega
    · refine H.go 40 [] [] [] rfl ?_ ?_
      · repeat' (first | exact AllP.n | exact trivial | exact DrawB.mk (by decide +kernel) | refine AllP.c ?_ ?_)
      · refine ⟨_, _, rfl, ?_, ?_⟩
        · repeat' (first | exact AllP.n | exact trivial | refine AllP.c ?_ ?_)
        · rw [idx_no k x fun j hj => h2 j (by omega) hj]
          exact .refl _

/-- A member. -/
def memb (t : Tr) (x : ByteArray) : Option Tr := if 0 ≤ idx (cutK t) x then (cutV t)[(idx (cutK t) x).toNat]? else none
theorem cut_len (t : Tr) : (cutK t).length = (cutV t).length := by
  unfold cutK cutV
  split <;> simp
def Small (t : Tr) : Prop := t.k.length < 2^62
theorem member_ct (t : Tr) (x : ByteArray) (hs : t.k.length < 2^62) : Pure Go.Proofs.Tryz.prog 82 [.ag (enc t), .s x] (.ret (.tup [.ag (enc ((memb t x).getD nul)), .b (memb t x).isSome])) := by
  have hk : (cutK t).length < 2^62 := by
    unfold cutK
    split
    · simp; omega
    · simp
  refine Pure.body tys_valid (fn := Go.Proofs.Tryz.f82) (by kernel_rfl) rfl (by kernel_rfl) rfl ?_
  intro w ok giv E0 _ hE
  rcases idx_cases (cutK t) x with ⟨h1, h2⟩ | ⟨i, hi, h1, h2⟩
  · have hm : memb t x = none := by unfold memb; rw [if_neg (by omega)]
    have hi := index_ct (cutK t) x hk
    rw [h1] at hi
    refine H.go 40 [(1, [(1, .res (.ret (.tup [.sl 1 (cutK t).length ((cutK t).map D.s), .sl 8 (cutV t).length (encs (cutV t))])))]), (2, [(2, .res (.ret (.i .i64 (-1))))])] [] dr82 rfl ?_ ?_
    · repeat' (first | exact AllP.n | exact trivial | exact DrawB.mk (by decide +kernel) | exact cut_ct t | exact hi | refine AllP.c ?_ ?_)
    · refine ⟨_, _, rfl, ?_, ?_⟩
      · repeat' (first | exact AllP.n | exact trivial | refine AllP.c ?_ ?_)
      · rw [hm]
        exact .tup (.cons wk_nul (.cons (.refl _) .nil))
  · have hi' : i < (cutV t).length := by rw [← cut_len]; exact hi
    have hm : memb t x = some (cutV t)[i] := by unfold memb; rw [if_pos (by omega), h1]; simp [hi']
    have hid := index_ct (cutK t) x hk
    rw [h1] at hid
    refine H.go 40 [(1, [(1, .res (.ret (.tup [.sl 1 (cutK t).length ((cutK t).map D.s), .sl 8 (cutV t).length (encs (cutV t))])))]), (2, [(2, .res (.ret (.i .i64 (i : Nat))))]), (4, [(3, .cells (enc (cutV t)[i]))])] [(18, true)] dr82 rfl ?_ ?_
    · repeat' (first | exact AllP.n | exact trivial | exact DrawB.mk (by decide +kernel) | exact cut_ct t | exact hid | refine AllP.c ?_ ?_)
      · exact at_tr _ i hi'
      · omega
      · simp
    · refine ⟨_, _, rfl, ?_, ?_⟩
      · repeat' (first | exact AllP.n | exact trivial | refine AllP.c ?_ ?_)
      · rw [hm]
        exact .refl _
end Go.Px
end

section
namespace Go.Px
open Go.RowKit

theorem place_ct (v n : Int) (hn : 0 < n) (hn2 : n < 2^62) : Pure Go.Proofs.Tryz.prog 13 [.i .i64 v, .i .i64 n] (.ret (.i .i64 (v % n))) := by
  refine Pure.body tys_valid (fn := Go.Proofs.Tryz.f13) (by kernel_rfl) rfl (by kernel_rfl) rfl ?_
  intro w ok giv E0 _ hE
  have h0 : v.tmod n = if 0 ≤ v.tmod n then v % n else v % n - n := by
    have h1 := Int.emod_nonneg v (by omega : n ≠ 0)
    have h2 := Int.emod_lt_of_pos v hn
    rw [Int.tmod_eq_emod]
    split <;> split <;> omega
  have h1 := Int.emod_nonneg v (by omega : n ≠ 0)
  have h2 := Int.emod_lt_of_pos v hn
  by_cases h : 0 ≤ v.tmod n
  · rw [if_pos h] at h0
    refine H.go 40 [] [(10, false)] [] rfl ?_ ?_
    · repeat' (first | exact AllP.n | exact trivial | exact DrawB.mk (by decide +kernel) | refine AllP.c ?_ ?_)
      · simpa using h
      · omega
    · refine ⟨_, _, rfl, ?_, ?_⟩
      · repeat' (first | exact AllP.n | exact trivial | refine AllP.c ?_ ?_)
      · rw [← h0]; exact .refl _
  · rw [if_neg h] at h0
    refine H.go 40 [(3, [(2, .val (.i .i64 (v % n)))])] [(10, true)] [] rfl ?_ ?_
    · repeat' (first | exact AllP.n | exact trivial | exact DrawB.mk (by decide +kernel) | refine AllP.c ?_ ?_)
      · refine ⟨by unfold InR; omega, by congr 1; omega⟩
      · simp; omega
      · omega
    · refine ⟨_, _, rfl, ?_, ?_⟩
      · repeat' (first | exact AllP.n | exact trivial | refine AllP.c ?_ ?_)
      · exact .refl _

def names8 : List ByteArray := [⟨#[97]⟩, ⟨#[98]⟩, ⟨#[99]⟩, ⟨#[100, 100]⟩, ⟨#[101]⟩, ⟨#[]⟩, ⟨#[120, 47, 121]⟩, ⟨#[122, 126]⟩]
theorem names8_ct : Pure Go.Proofs.Tryz.prog 31 [] (.ret (.sl 1 8 (names8.map D.s))) := by
  refine Pure.body tys_valid (fn := Go.Proofs.Tryz.f31) (by kernel_rfl) rfl (by kernel_rfl) rfl ?_
  intro w ok giv E0 _ hE
  refine H.go 40 [] [] [] rfl ?_ ?_
  · repeat' (first | exact AllP.n | exact trivial | exact DrawB.mk (by decide +kernel) | refine AllP.c ?_ ?_)
  · refine ⟨_, _, rfl, ?_, ?_⟩
    · repeat' (first | exact AllP.n | exact trivial | refine AllP.c ?_ ?_)
    · exact .refl _
end Go.Px
end

section
namespace Go.Px
open Go.RowKit

theorem memb_at (t : Tr) (x : ByteArray) (i : Nat) (h1 : i < t.k.length) (h2 : i < t.v.length) (hk : t.kind = 7) (hx : t.k[i] = x) (hn : ∀ (j : Nat) (h : j < i) (h2 : j < t.k.length), t.k[j] ≠ x) : memb t x = some t.v[i] := by
  have hi : i < (cutK t).length := by simp [cutK, hk]; omega
  have : idx (cutK t) x = i := by
    refine idx_at _ x i hi (by simp [cutK, hk, hx]) fun j hj => ?_
    have := hn j hj (by omega)
    simpa [cutK, hk] using this
  unfold memb
  have hv : i < (cutV t).length := by simp [cutV, hk]; omega
  rw [if_pos (by omega), this, Int.toNat_natCast, List.getElem?_eq_getElem hv]
  simp [cutV, hk]
theorem memb_no (t : Tr) (x : ByteArray) (hn : t.kind = 7 → ∀ (j : Nat) (h1 : j < t.k.length) (h2 : j < t.v.length), t.k[j] ≠ x) : memb t x = none := by
  unfold memb
  rw [idx_no, if_neg (by omega)]
  intro j hj
  by_cases hk : t.kind = 7
  · have hj' := hj
    simp only [cutK, hk, if_true, List.length_take] at hj'
    have := hn hk j (by omega) (by omega)
    simpa [cutK, hk] using this
  · simp [cutK, hk] at hj

theorem rmember_ct (t : Tr) (x : ByteArray) (hs : t.k.length < 2^62) (hs2 : t.v.length < 2^62) : Pure Go.Proofs.Tryz.prog 32 [.ag (enc t), .s x] (.ret (.tup [.ag (enc ((memb t x).getD nul)), .b (memb t x).isSome])) := by
  refine Pure.body tys_valid (fn := Go.Proofs.Tryz.f32) (by kernel_rfl) rfl (by kernel_rfl) rfl ?_
  intro w ok giv E0 _ hE
  refine H.go 40 [] [] dr32 rfl ?_ ?_
  · repeat' (first | exact AllP.n | exact trivial | exact DrawB.mk (by decide +kernel) | refine AllP.c ?_ ?_)
  refine H.loopI (fun i => (i ≤ t.k.length ∧ i ≤ t.v.length) ∧ ∀ (j : Nat) (h : j < i) (h2 : j < t.k.length), t.k[j] ≠ x)
    (fun i : Nat => ⟨[(1, .s x), (2, .oa 0 0), (4, .oa 1 0), (5, .b false), (6, .i .i64 i)], [(0, ⟨30, 1, enc t, 0, true, false, true⟩), (1, ⟨30, 1, [.i .i64 0, .b false, .b false, .nils, .i .i64 0, .s ⟨#[]⟩, .nils, .nils], 0, true, false, true⟩)], 0⟩) (fun i => t.k.length - i) 0 ⟨⟨Nat.zero_le _, Nat.zero_le _⟩, fun j h => absurd h (Nat.not_lt_zero _)⟩ ?_ ?_
  · intro a w s
    refine s.ren hE [] ?_ ?_ rfl
    · repeat' (first | exact trivial | exact rfl | refine ⟨?_, ?_⟩)
    · repeat' (first | exact trivial | exact rfl | refine ⟨?_, ?_⟩)
  rintro i ⟨⟨h1, h1'⟩, h2⟩
  by_cases hi : i < t.k.length
  · by_cases hi' : i < t.v.length
    · by_cases hk : t.kind = 7
      · by_cases he : t.k[i] = x
        · have hm := memb_at t x i hi hi' hk he h2
          refine H.go 40 [(2, [(5, .gd true), (12, .gd true)]), (4, [(4, .cell (.s t.k[i]))]), (5, [(4, .cells (enc t.v[i]))])] [(23, true), (32, true)] dr32 rfl ?_ ?_
          · repeat' (first | exact AllP.n | exact trivial | exact DrawB.mk (by decide +kernel) | refine AllP.c ?_ ?_)
            all_goals first | omega | exact at_tr _ _ (by omega) | exact at_s _ _ (by omega) | exact dt (by omega) | exact df (by omega) | exact decide_eq_true (by omega) | exact decide_eq_false (by omega) | exact bts_t (by assumption) | exact bts_f (by assumption) | (unfold InR; omega) | simp [*]
          · refine ⟨_, _, rfl, ?_, ?_⟩
            · repeat' (first | exact AllP.n | exact trivial | refine AllP.c ?_ ?_)
            · rw [hm]; exact .refl _
        · refine H.go 40 [(2, [(5, .gd true), (12, .gd true)]), (4, [(4, .cell (.s t.k[i]))])] [(23, true), (32, false)] dr32 rfl ?_ ?_
          · repeat' (first | exact AllP.n | exact trivial | exact DrawB.mk (by decide +kernel) | refine AllP.c ?_ ?_)
            all_goals first | omega | exact at_tr _ _ (by omega) | exact at_s _ _ (by omega) | exact dt (by omega) | exact df (by omega) | exact decide_eq_true (by omega) | exact decide_eq_false (by omega) | exact bts_t (by assumption) | exact bts_f (by assumption) | (unfold InR; omega) | simp [*]
          · refine loopN (i + 1) ⟨⟨by omega, by omega⟩, ?_⟩ (by show t.k.length - (i + 1) < t.k.length - i; omega) fun a w s => s.ren hE [] ?_ ?_ rfl
            · intro j hj hj2
              rcases Nat.lt_or_ge j i with h | h
              · exact h2 j h hj2
              · have : j = i := by omega
                subst this; exact he
            · repeat' (first | exact trivial | exact rfl | refine ⟨?_, ?_⟩)
            · repeat' (first | exact trivial | exact rfl | refine ⟨?_, ?_⟩)
      · have hm : memb t x = none := memb_no t x fun h => absurd h hk
        refine H.go 40 [(2, [(5, .gd true), (12, .gd true)])] [(23, false)] dr32 rfl ?_ ?_
        · repeat' (first | exact AllP.n | exact trivial | exact DrawB.mk (by decide +kernel) | refine AllP.c ?_ ?_)
          all_goals first | omega | exact at_tr _ _ (by omega) | exact at_s _ _ (by omega) | exact dt (by omega) | exact df (by omega) | exact decide_eq_true (by omega) | exact decide_eq_false (by omega) | exact bts_t (by assumption) | exact bts_f (by assumption) | (unfold InR; omega) | simp [*]
        refine H.go 40 [] [] dr32 rfl ?_ ?_
        · repeat' (first | exact AllP.n | exact trivial | exact DrawB.mk (by decide +kernel) | refine AllP.c ?_ ?_)
        refine ⟨_, _, rfl, ?_, ?_⟩
        · repeat' (first | exact AllP.n | exact trivial | refine AllP.c ?_ ?_)
        · rw [hm]; exact .tup (.cons wk_nul (.cons (.refl _) .nil))
    · have hm : memb t x = none := memb_no t x fun _ j h3 h4 => h2 j (by omega) h3
      refine H.go 40 [(2, [(5, .gd true), (12, .gd false)])] [] dr32 rfl ?_ ?_
      · repeat' (first | exact AllP.n | exact trivial | exact DrawB.mk (by decide +kernel) | refine AllP.c ?_ ?_)
        all_goals first | omega | exact at_tr _ _ (by omega) | exact at_s _ _ (by omega) | exact dt (by omega) | exact df (by omega) | exact decide_eq_true (by omega) | exact decide_eq_false (by omega) | exact bts_t (by assumption) | exact bts_f (by assumption) | (unfold InR; omega) | simp [*]
      refine H.go 40 [] [] dr32 rfl ?_ ?_
      · repeat' (first | exact AllP.n | exact trivial | exact DrawB.mk (by decide +kernel) | refine AllP.c ?_ ?_)
      refine ⟨_, _, rfl, ?_, ?_⟩
      · repeat' (first | exact AllP.n | exact trivial | refine AllP.c ?_ ?_)
      · rw [hm]; exact .tup (.cons wk_nul (.cons (.refl _) .nil))
  · have hm : memb t x = none := memb_no t x fun _ j h3 h4 => h2 j (by omega) h3
    refine H.go 40 [(2, [(5, .gd false), (12, .gd false)])] [] dr32 rfl ?_ ?_
    · repeat' (first | exact AllP.n | exact trivial | exact DrawB.mk (by decide +kernel) | refine AllP.c ?_ ?_)
      all_goals first | omega | exact at_tr _ _ (by omega) | exact at_s _ _ (by omega) | exact dt (by omega) | exact df (by omega) | exact decide_eq_true (by omega) | exact decide_eq_false (by omega) | exact bts_t (by assumption) | exact bts_f (by assumption) | (unfold InR; omega) | simp [*]
    refine H.go 40 [] [] dr32 rfl ?_ ?_
    · repeat' (first | exact AllP.n | exact trivial | exact DrawB.mk (by decide +kernel) | refine AllP.c ?_ ?_)
    refine ⟨_, _, rfl, ?_, ?_⟩
    · repeat' (first | exact AllP.n | exact trivial | refine AllP.c ?_ ?_)
    · rw [hm]; exact .tup (.cons wk_nul (.cons (.refl _) .nil))
end Go.Px
end

section
namespace Go.Px
open Go.RowKit

def gtb (a b : ByteArray) : Bool := !(Op.bytesLess a.toList b.toList || a.toList == b.toList)
/-- Of a list of members: name set to v. -/
def setK (has : Bool) (x : ByteArray) (v : Tr) : Bool → List (ByteArray × Tr) → List (ByteArray × Tr)
  | false, [] => [(x, v)]
  | true, [] => []
  | true, p :: r => p :: setK has x v true r
  | false, p :: r => if p.1 = x then (x, v) :: setK has x v true r else if has = false ∧ gtb p.1 x = true then (x, v) :: p :: setK has x v true r else p :: setK has x v false r
def mems (t : Tr) : List (ByteArray × Tr) := (cutK t).zip (cutV t)
def obj (l : List (ByteArray × Tr)) : Tr := .mk 7 false ⟨false, [], 0⟩ ⟨#[]⟩ (l.map (·.1)) (l.map (·.2))
def tset (t : Tr) (x : ByteArray) (v : Tr) : Tr := obj (setK (memb t x).isSome x v false (mems t))
structure SX where
  i : Nat
  d : Bool
  n : Nat
  ck : List D
  f : Nat
  cv : List D
  g : Nat
def SI (t : Tr) (x : ByteArray) (v : Tr) (hb : Bool) (y : SX) : Prop :=
  ∃ l : List (ByteArray × Tr), y.i ≤ (mems t).length ∧ y.n ≤ 2 * y.i ∧ y.n = l.length ∧ y.ck = l.map (fun p => D.s p.1) ∧ y.cv = encs (l.map (·.2)) ∧ setK hb x v false (mems t) = l ++ setK hb x v y.d ((mems t).drop y.i)
def SS (t : Tr) (x : ByteArray) (v : Tr) (hb : Bool) : SX → St
  | ⟨i, d, n, ck, f, cv, g⟩ => ⟨[(1, .s x), (3, .oa 0 0), (5, .oa 1 0), (6, .oa 2 0), (7, .oa 3 0), (8, .b d), (10, .b hb), (11, .i .i64 i)],
   [(0, ⟨30, 1, enc t, 0, true, false, true⟩), (1, ⟨30, 1, enc v, 0, true, false, true⟩), (2, ⟨30, 1, [.i .i64 0, .b false, .b false, .nils, .i .i64 0, .s ⟨#[]⟩, .nils, .nils], 0, true, false, true⟩),
    (3, ⟨30, 1, [.i .i64 7, .b false, .b false, .nils, .i .i64 0, .s ⟨#[]⟩, .os 10 0 n, .os 11 0 n], 0, true, false, true⟩),
    (10, ⟨9, 1, ck, f, true, false, false⟩), (11, ⟨30, 8, cv, g, true, false, false⟩)], 0⟩
theorem SI.next {t : Tr} {x : ByteArray} {v : Tr} {hb d d' : Bool} {i n f g f' g' : Nat} {ck cv : List D} (h : SI t x v hb ⟨i, d, n, ck, f, cv, g⟩) (p : ByteArray × Tr) (hi : i < (mems t).length)
    (hs : setK hb x v d ((mems t).drop i) = p :: setK hb x v d' ((mems t).drop (i + 1))) : SI t x v hb ⟨i + 1, d', n + 1, ck ++ [D.s p.1], f', cv ++ enc p.2, g'⟩ := by
  obtain ⟨l, _, h2, h3, h4, h5, h6⟩ := h
  simp only at h2 h3 h4 h5 h6
  refine ⟨l ++ [p], hi, by simp only; omega, by simp [h3], by simp [h4], by simp [h5, encs_append, encs_cons, encs_nil], ?_⟩
  rw [h6, hs]
  simp
theorem SI.next2 {t : Tr} {x : ByteArray} {v : Tr} {hb d d' : Bool} {i n f g f' g' : Nat} {ck cv : List D} (h : SI t x v hb ⟨i, d, n, ck, f, cv, g⟩) (p q : ByteArray × Tr) (hi : i < (mems t).length)
    (hs : setK hb x v d ((mems t).drop i) = p :: q :: setK hb x v d' ((mems t).drop (i + 1))) : SI t x v hb ⟨i + 1, d', n + 1 + 1, ck ++ [D.s p.1] ++ [D.s q.1], f', cv ++ enc p.2 ++ enc q.2, g'⟩ := by
  obtain ⟨l, _, h2, h3, h4, h5, h6⟩ := h
  simp only at h2 h3 h4 h5 h6
  refine ⟨l ++ [p, q], hi, by simp only; omega, by simp [h3], by simp [h4], by simp [h5, encs_append, encs_cons, encs_nil], ?_⟩
  rw [h6, hs]
  simp
theorem SI.lens {t : Tr} {x : ByteArray} {v : Tr} {hb d : Bool} {i n f g : Nat} {ck cv : List D} (h : SI t x v hb ⟨i, d, n, ck, f, cv, g⟩) : i ≤ (mems t).length ∧ n ≤ 2 * i ∧ ck.length = n ∧ cv.length = n * 8 := by
  obtain ⟨l, h1, h2, h3, h4, h5, h6⟩ := h
  simp only at h1 h2 h3 h4 h5 h6
  refine ⟨h1, h2, by simp [h4, h3], by rw [h5, encs_len, h3]; simp⟩
theorem wk_obj (l : List (ByteArray × Tr)) : Wk (.ag [.i .i64 7, .b false, .b false, .nils, .i .i64 0, .s ⟨#[]⟩, .sl 1 l.length (l.map fun p => D.s p.1), .sl 8 l.length (encs (l.map (·.2)))]) (.ag (enc (obj l))) := by
  unfold enc
  simp only [obj, Tr.kind, Tr.b, Tr.n, Tr.s, Tr.k, Tr.v, List.map_nil, List.length_nil, List.length_map, List.map_map]
  exact .ag (.cons (.refl _) (.cons (.refl _) (.cons (.refl _) (.cons (.nils 1) (.cons (.refl _) (.cons (.refl _) (.cons (.refl _) (.cons (.refl _) .nil))))))))
theorem SI.fin {t : Tr} {x : ByteArray} {v : Tr} {hb d : Bool} {i n f g : Nat} {ck cv : List D} (h : SI t x v hb ⟨i, d, n, ck, f, cv, g⟩) (hd : (mems t).drop i = []) :
    (d = true → Wk (.ag [.i .i64 7, .b false, .b false, .nils, .i .i64 0, .s ⟨#[]⟩, .sl 1 n ck, .sl 8 n cv]) (.ag (enc (obj (setK hb x v false (mems t)))))) ∧
    (d = false → Wk (.ag [.i .i64 7, .b false, .b false, .nils, .i .i64 0, .s ⟨#[]⟩, .sl 1 (n + 1) (ck ++ [D.s x]), .sl 8 (n + 1) (cv ++ enc v)]) (.ag (enc (obj (setK hb x v false (mems t)))))) := by
  obtain ⟨l, h1, h2, h3, h4, h5, h6⟩ := h
  simp only at h1 h2 h3 h4 h5 h6
  rw [hd] at h6
  refine ⟨fun e => ?_, fun e => ?_⟩
  · subst e
    rw [h6]
    simp only [setK, List.append_nil]
    rw [h3, h4, h5]
    exact wk_obj l
  · subst e
    rw [h6]
    simp only [setK]
    have := wk_obj (l ++ [(x, v)])
    simp only [List.length_append, List.length_cons, List.length_nil, List.map_append, List.map_cons, List.map_nil, encs_append, encs_cons, encs_nil, List.append_nil] at this
    rw [h3, h4, h5]
    exact this
theorem mems_len (t : Tr) : (mems t).length = (cutK t).length := by simp [mems, cut_len]
theorem mems_at (t : Tr) (i : Nat) (hk : t.kind = 7) (h1 : i < t.k.length) (h2 : i < t.v.length) : ∃ h : i < (mems t).length, (mems t)[i] = (t.k[i], t.v[i]) := by
  have h : i < (mems t).length := by rw [mems_len]; simp [cutK, hk]; omega
  refine ⟨h, ?_⟩
  simp [mems, cutK, cutV, hk]
theorem mems_end (t : Tr) (i : Nat) (h : i ≤ (mems t).length) (hc : ¬ (i < t.k.length ∧ i < t.v.length ∧ t.kind = 7)) : (mems t).drop i = [] := by
  apply List.drop_eq_nil_of_le
  rw [mems_len]
  by_cases hk : t.kind = 7
  · simp [cutK, hk]; omega
  · simp [cutK, hk]

set_option maxRecDepth 100000 in
theorem set_ct (t : Tr) (x : ByteArray) (v : Tr) (hs : t.k.length < 2^30) (hs2 : t.v.length < 2^30) : Pure Go.Proofs.Tryz.prog 33 [.ag (enc t), .s x, .ag (enc v)] (.ret (.ag (enc (tset t x v)))) := by
  unfold tset
  have hm := rmember_ct t x (by omega) (by omega)
  generalize (memb t x).isSome = hb at hm ⊢
  generalize (memb t x).getD nul = mm at hm
  refine Pure.body tys_valid (fn := Go.Proofs.Tryz.f33) (by kernel_rfl) rfl (by kernel_rfl) rfl ?_
  intro w ok giv E0 _ hE
  refine H.go 40 [(3, [(2, .res (.ret (.tup [.ag (enc mm), .b hb])))])] [] dr33 rfl ?_ ?_
  · repeat' (first | exact AllP.n | exact trivial | exact DrawB.mk (by decide +kernel) | exact hm | refine AllP.c ?_ ?_)
  refine H.loopI (SI t x v hb) (SS t x v hb) (fun y => (mems t).length - y.i) ⟨0, false, 0, [], 0, [], 0⟩ ⟨[], Nat.zero_le _, Nat.zero_le _, rfl, rfl, encs_nil.symm, by simp⟩ ?_ ?_
  · intro a w s
    refine Sat.ren hE [] ?_ ?_ rfl ((s.adoptC 3 6 10 9 1 rfl rfl rfl rfl rfl rfl).adoptC 3 7 11 30 8 rfl rfl rfl rfl rfl rfl)
    · repeat' (first | exact trivial | exact rfl | apply And.intro)
    · repeat' (first | exact trivial | exact rfl | apply And.intro)
  rintro ⟨i, d, n, ck, f, cv, g⟩ hI
  obtain ⟨h1, h2, h3, h4⟩ := hI.lens
  have hml : (mems t).length ≤ t.k.length := by rw [mems_len]; unfold cutK; split <;> simp; omega
  by_cases hc : i < t.k.length ∧ i < t.v.length ∧ t.kind = 7
  · obtain ⟨hi, hi', hk⟩ := hc
    obtain ⟨him, hat⟩ := mems_at t i hk hi hi'
    have hdr : (mems t).drop i = (t.k[i], t.v[i]) :: (mems t).drop (i + 1) := by rw [List.drop_eq_getElem_cons him, hat]
    cases d with
    | true =>
      refine H.go 60 [(5, [(5, .gd true), (12, .gd true)]), (13, [(6, .cell (.s t.k[i])), (15, .cells (enc t.v[i]))])] [(35, true)] dr33 rfl ?_ ?_
      · repeat' (first | exact AllP.n | exact trivial | exact DrawB.mk (by decide +kernel) | exact fun _ => rfl | refine AllP.c ?_ ?_)
        all_goals (try dsimp only)
        all_goals first | exact rfl | first | omega | exact at_tr _ _ (by omega) | exact at_s _ _ (by omega) | exact dt (by omega) | exact df (by omega) | exact decide_eq_true (by omega) | exact decide_eq_false (by omega) | exact bts_t (by assumption) | exact bts_f (by assumption) | (unfold InR; omega) | exact ⟨trivial, rfl⟩ | exact ⟨trivial, h3, by omega⟩ | exact ⟨trivial, by omega, by omega⟩ | assumption | (simp [hk]; done) | (refine ⟨trivial, ?_, ?_⟩ <;> (try simp) <;> omega) | (simp; omega) | trace_state
      refine loopN ⟨i + 1, true, n + 1, ck ++ [D.s t.k[i]], ck.length, cv ++ enc t.v[i], cv.length⟩ (hI.next (t.k[i], t.v[i]) him (by rw [hdr]; simp [setK])) (by show (mems t).length - (i + 1) < (mems t).length - i; omega) fun a w s => s.ren hE [(10, 8000), (11, 17000)] ?_ ?_ rfl
      · repeat' (first | exact trivial | exact rfl | apply And.intro)
      · repeat' (first | exact trivial | exact rfl | apply And.intro)
    | false =>
      by_cases he : t.k[i] = x
      · refine H.go 60 [(5, [(5, .gd true), (12, .gd true)]), (7, [(7, .cell (.s t.k[i]))])] [(35, true), (38, true)] dr33 rfl ?_ ?_
        · repeat' (first | exact AllP.n | exact trivial | exact DrawB.mk (by decide +kernel) | exact fun _ => rfl | refine AllP.c ?_ ?_)
          all_goals (try dsimp only)
          all_goals first | exact rfl | first | omega | exact at_tr _ _ (by omega) | exact at_s _ _ (by omega) | exact dt (by omega) | exact df (by omega) | exact decide_eq_true (by omega) | exact decide_eq_false (by omega) | exact bts_t (by assumption) | exact bts_f (by assumption) | (unfold InR; omega) | exact ⟨trivial, rfl⟩ | exact ⟨trivial, h3, by omega⟩ | exact ⟨trivial, by omega, by omega⟩ | assumption | (simp [hk]; done) | (refine ⟨trivial, ?_, ?_⟩ <;> (try simp) <;> omega) | (simp; omega) | trace_state
        refine loopN ⟨i + 1, true, n + 1, ck ++ [D.s x], ck.length, cv ++ enc v, cv.length⟩ (hI.next (x, v) him (by rw [hdr]; simp [setK, he])) (by show (mems t).length - (i + 1) < (mems t).length - i; omega) fun a w s => s.ren hE [(10, 4000), (11, 9000)] ?_ ?_ rfl
        · repeat' (first | exact trivial | exact rfl | apply And.intro)
        · repeat' (first | exact trivial | exact rfl | apply And.intro)
      · cases hb with
        | true =>
          refine H.go 60 [(5, [(5, .gd true), (12, .gd true)]), (7, [(7, .cell (.s t.k[i]))]), (13, [(6, .cell (.s t.k[i])), (15, .cells (enc t.v[i]))])] [(35, true), (38, false)] dr33 rfl ?_ ?_
          · repeat' (first | exact AllP.n | exact trivial | exact DrawB.mk (by decide +kernel) | exact fun _ => rfl | refine AllP.c ?_ ?_)
            all_goals (try dsimp only)
            all_goals first | exact rfl | first | omega | exact at_tr _ _ (by omega) | exact at_s _ _ (by omega) | exact dt (by omega) | exact df (by omega) | exact decide_eq_true (by omega) | exact decide_eq_false (by omega) | exact bts_t (by assumption) | exact bts_f (by assumption) | (unfold InR; omega) | exact ⟨trivial, rfl⟩ | exact ⟨trivial, h3, by omega⟩ | exact ⟨trivial, by omega, by omega⟩ | assumption | (simp [hk]; done) | (refine ⟨trivial, ?_, ?_⟩ <;> (try simp) <;> omega) | (simp; omega) | trace_state
          refine loopN ⟨i + 1, false, n + 1, ck ++ [D.s t.k[i]], ck.length, cv ++ enc t.v[i], cv.length⟩ (hI.next (t.k[i], t.v[i]) him (by rw [hdr]; simp [setK, he])) (by show (mems t).length - (i + 1) < (mems t).length - i; omega) fun a w s => s.ren hE [(10, 8000), (11, 17000)] ?_ ?_ rfl
          · repeat' (first | exact trivial | exact rfl | apply And.intro)
          · repeat' (first | exact trivial | exact rfl | apply And.intro)
        | false =>
          cases hg : gtb t.k[i] x with
          | true =>
            refine H.go 60 [(5, [(5, .gd true), (12, .gd true)]), (7, [(7, .cell (.s t.k[i]))]), (10, [(11, .cell (.s t.k[i]))]), (13, [(6, .cell (.s t.k[i])), (15, .cells (enc t.v[i]))])] [(35, true), (38, false), (62, true)] dr33 rfl ?_ ?_
            · repeat' (first | exact AllP.n | exact trivial | exact DrawB.mk (by decide +kernel) | exact fun _ => rfl | refine AllP.c ?_ ?_)
              all_goals (try dsimp only)
              all_goals first | exact rfl | first | omega | exact at_tr _ _ (by omega) | exact at_s _ _ (by omega) | exact dt (by omega) | exact df (by omega) | exact decide_eq_true (by omega) | exact decide_eq_false (by omega) | exact bts_t (by assumption) | exact bts_f (by assumption) | (unfold InR; omega) | exact ⟨trivial, rfl⟩ | exact ⟨trivial, h3, by omega⟩ | exact ⟨trivial, by omega, by omega⟩ | assumption | (simp [hk]; done) | (refine ⟨trivial, ?_, ?_⟩ <;> (try simp) <;> omega) | (simp; omega) | trace_state
            refine loopN ⟨i + 1, true, n + 1 + 1, ck ++ [D.s x] ++ [D.s t.k[i]], (ck ++ [D.s x]).length, cv ++ enc v ++ enc t.v[i], (cv ++ enc v).length⟩ (hI.next2 (x, v) (t.k[i], t.v[i]) him (by rw [hdr]; simp [setK, he, hg])) (by show (mems t).length - (i + 1) < (mems t).length - i; omega) fun a w s => s.ren hE [(10, 8000), (11, 17000)] ?_ ?_ rfl
            · repeat' (first | exact trivial | exact rfl | apply And.intro)
            · repeat' (first | exact trivial | exact rfl | apply And.intro)
          | false =>
            refine H.go 60 [(5, [(5, .gd true), (12, .gd true)]), (7, [(7, .cell (.s t.k[i]))]), (10, [(11, .cell (.s t.k[i]))]), (13, [(6, .cell (.s t.k[i])), (15, .cells (enc t.v[i]))])] [(35, true), (38, false), (62, false)] dr33 rfl ?_ ?_
            · repeat' (first | exact AllP.n | exact trivial | exact DrawB.mk (by decide +kernel) | exact fun _ => rfl | refine AllP.c ?_ ?_)
              all_goals (try dsimp only)
              all_goals first | exact rfl | first | omega | exact at_tr _ _ (by omega) | exact at_s _ _ (by omega) | exact dt (by omega) | exact df (by omega) | exact decide_eq_true (by omega) | exact decide_eq_false (by omega) | exact bts_t (by assumption) | exact bts_f (by assumption) | (unfold InR; omega) | exact ⟨trivial, rfl⟩ | exact ⟨trivial, h3, by omega⟩ | exact ⟨trivial, by omega, by omega⟩ | assumption | (simp [hk]; done) | (refine ⟨trivial, ?_, ?_⟩ <;> (try simp) <;> omega) | (simp; omega) | trace_state
            refine loopN ⟨i + 1, false, n + 1, ck ++ [D.s t.k[i]], ck.length, cv ++ enc t.v[i], cv.length⟩ (hI.next (t.k[i], t.v[i]) him (by rw [hdr]; simp [setK, he, hg])) (by show (mems t).length - (i + 1) < (mems t).length - i; omega) fun a w s => s.ren hE [(10, 8000), (11, 17000)] ?_ ?_ rfl
            · repeat' (first | exact trivial | exact rfl | apply And.intro)
            · repeat' (first | exact trivial | exact rfl | apply And.intro)
  · have hF := hI.fin (mems_end t i h1 hc)
    by_cases c1 : i < t.k.length
    · by_cases c2 : i < t.v.length
      · have hk : t.kind ≠ 7 := fun h => hc ⟨c1, c2, h⟩
        refine H.go 60 [(5, [(5, .gd true), (12, .gd true)])] [(35, false)] dr33 rfl ?_ ?_
        · repeat' (first | exact AllP.n | exact trivial | exact DrawB.mk (by decide +kernel) | exact fun _ => rfl | refine AllP.c ?_ ?_)
          all_goals (try dsimp only)
          all_goals first | exact rfl | first | omega | exact at_tr _ _ (by omega) | exact at_s _ _ (by omega) | exact dt (by omega) | exact df (by omega) | exact decide_eq_true (by omega) | exact decide_eq_false (by omega) | exact bts_t (by assumption) | exact bts_f (by assumption) | (unfold InR; omega) | exact ⟨trivial, rfl⟩ | exact ⟨trivial, h3, by omega⟩ | exact ⟨trivial, by omega, by omega⟩ | assumption | (simp [hk]; done) | (refine ⟨trivial, ?_, ?_⟩ <;> (try simp) <;> omega) | (simp; omega) | trace_state
        cases d with
        | true =>
          refine H.go 60 [] [] dr33 rfl ?_ ?_
          · repeat' (first | exact AllP.n | exact trivial | exact DrawB.mk (by decide +kernel) | exact fun _ => rfl | refine AllP.c ?_ ?_)
            all_goals (try dsimp only)
            all_goals first | exact rfl | first | omega | exact at_tr _ _ (by omega) | exact at_s _ _ (by omega) | exact dt (by omega) | exact df (by omega) | exact decide_eq_true (by omega) | exact decide_eq_false (by omega) | exact bts_t (by assumption) | exact bts_f (by assumption) | (unfold InR; omega) | exact ⟨trivial, rfl⟩ | exact ⟨trivial, h3, by omega⟩ | exact ⟨trivial, by omega, by omega⟩ | assumption | (simp [hk]; done) | (refine ⟨trivial, ?_, ?_⟩ <;> (try simp) <;> omega) | (simp; omega) | trace_state
          refine ⟨_, _, rfl, ?_, ?_⟩
          · repeat' (first | exact AllP.n | exact trivial | exact DrawB.mk (by decide +kernel) | exact fun _ => rfl | refine AllP.c ?_ ?_)
            all_goals (try dsimp only)
            all_goals first | exact rfl | first | omega | exact at_tr _ _ (by omega) | exact at_s _ _ (by omega) | exact dt (by omega) | exact df (by omega) | exact decide_eq_true (by omega) | exact decide_eq_false (by omega) | exact bts_t (by assumption) | exact bts_f (by assumption) | (unfold InR; omega) | (simp [Root.idle, mulN_eq, h3, h4, enc_len]; done) | (simp [Root.idle, mulN_eq, h3, h4, enc_len]; omega) | trace_state
          · exact hF.1 rfl
        | false =>
          refine H.go 60 [] [] dr33 rfl ?_ ?_
          · repeat' (first | exact AllP.n | exact trivial | exact DrawB.mk (by decide +kernel) | exact fun _ => rfl | refine AllP.c ?_ ?_)
            all_goals (try dsimp only)
            all_goals first | exact rfl | first | omega | exact at_tr _ _ (by omega) | exact at_s _ _ (by omega) | exact dt (by omega) | exact df (by omega) | exact decide_eq_true (by omega) | exact decide_eq_false (by omega) | exact bts_t (by assumption) | exact bts_f (by assumption) | (unfold InR; omega) | exact ⟨trivial, rfl⟩ | exact ⟨trivial, h3, by omega⟩ | exact ⟨trivial, by omega, by omega⟩ | assumption | (simp [hk]; done) | (refine ⟨trivial, ?_, ?_⟩ <;> (try simp) <;> omega) | (simp; omega) | trace_state
          refine ⟨_, _, rfl, ?_, ?_⟩
          · repeat' (first | exact AllP.n | exact trivial | exact DrawB.mk (by decide +kernel) | exact fun _ => rfl | refine AllP.c ?_ ?_)
            all_goals (try dsimp only)
            all_goals first | exact rfl | first | omega | exact at_tr _ _ (by omega) | exact at_s _ _ (by omega) | exact dt (by omega) | exact df (by omega) | exact decide_eq_true (by omega) | exact decide_eq_false (by omega) | exact bts_t (by assumption) | exact bts_f (by assumption) | (unfold InR; omega) | (simp [Root.idle, mulN_eq, h3, h4, enc_len]; done) | (simp [Root.idle, mulN_eq, h3, h4, enc_len]; omega) | trace_state
          · exact hF.2 rfl
      · refine H.go 60 [(5, [(5, .gd true), (12, .gd false)])] [] dr33 rfl ?_ ?_
        · repeat' (first | exact AllP.n | exact trivial | exact DrawB.mk (by decide +kernel) | exact fun _ => rfl | refine AllP.c ?_ ?_)
          all_goals (try dsimp only)
          all_goals first | exact rfl | first | omega | exact at_tr _ _ (by omega) | exact at_s _ _ (by omega) | exact dt (by omega) | exact df (by omega) | exact decide_eq_true (by omega) | exact decide_eq_false (by omega) | exact bts_t (by assumption) | exact bts_f (by assumption) | (unfold InR; omega) | exact ⟨trivial, rfl⟩ | exact ⟨trivial, h3, by omega⟩ | exact ⟨trivial, by omega, by omega⟩ | assumption | (simp [hk]; done) | (refine ⟨trivial, ?_, ?_⟩ <;> (try simp) <;> omega) | (simp; omega) | trace_state
        cases d with
        | true =>
          refine H.go 60 [] [] dr33 rfl ?_ ?_
          · repeat' (first | exact AllP.n | exact trivial | exact DrawB.mk (by decide +kernel) | exact fun _ => rfl | refine AllP.c ?_ ?_)
            all_goals (try dsimp only)
            all_goals first | exact rfl | first | omega | exact at_tr _ _ (by omega) | exact at_s _ _ (by omega) | exact dt (by omega) | exact df (by omega) | exact decide_eq_true (by omega) | exact decide_eq_false (by omega) | exact bts_t (by assumption) | exact bts_f (by assumption) | (unfold InR; omega) | exact ⟨trivial, rfl⟩ | exact ⟨trivial, h3, by omega⟩ | exact ⟨trivial, by omega, by omega⟩ | assumption | (simp [hk]; done) | (refine ⟨trivial, ?_, ?_⟩ <;> (try simp) <;> omega) | (simp; omega) | trace_state
          refine ⟨_, _, rfl, ?_, ?_⟩
          · repeat' (first | exact AllP.n | exact trivial | exact DrawB.mk (by decide +kernel) | exact fun _ => rfl | refine AllP.c ?_ ?_)
            all_goals (try dsimp only)
            all_goals first | exact rfl | first | omega | exact at_tr _ _ (by omega) | exact at_s _ _ (by omega) | exact dt (by omega) | exact df (by omega) | exact decide_eq_true (by omega) | exact decide_eq_false (by omega) | exact bts_t (by assumption) | exact bts_f (by assumption) | (unfold InR; omega) | (simp [Root.idle, mulN_eq, h3, h4, enc_len]; done) | (simp [Root.idle, mulN_eq, h3, h4, enc_len]; omega) | trace_state
          · exact hF.1 rfl
        | false =>
          refine H.go 60 [] [] dr33 rfl ?_ ?_
          · repeat' (first | exact AllP.n | exact trivial | exact DrawB.mk (by decide +kernel) | exact fun _ => rfl | refine AllP.c ?_ ?_)
            all_goals (try dsimp only)
            all_goals first | exact rfl | first | omega | exact at_tr _ _ (by omega) | exact at_s _ _ (by omega) | exact dt (by omega) | exact df (by omega) | exact decide_eq_true (by omega) | exact decide_eq_false (by omega) | exact bts_t (by assumption) | exact bts_f (by assumption) | (unfold InR; omega) | exact ⟨trivial, rfl⟩ | exact ⟨trivial, h3, by omega⟩ | exact ⟨trivial, by omega, by omega⟩ | assumption | (simp [hk]; done) | (refine ⟨trivial, ?_, ?_⟩ <;> (try simp) <;> omega) | (simp; omega) | trace_state
          refine ⟨_, _, rfl, ?_, ?_⟩
          · repeat' (first | exact AllP.n | exact trivial | exact DrawB.mk (by decide +kernel) | exact fun _ => rfl | refine AllP.c ?_ ?_)
            all_goals (try dsimp only)
            all_goals first | exact rfl | first | omega | exact at_tr _ _ (by omega) | exact at_s _ _ (by omega) | exact dt (by omega) | exact df (by omega) | exact decide_eq_true (by omega) | exact decide_eq_false (by omega) | exact bts_t (by assumption) | exact bts_f (by assumption) | (unfold InR; omega) | (simp [Root.idle, mulN_eq, h3, h4, enc_len]; done) | (simp [Root.idle, mulN_eq, h3, h4, enc_len]; omega) | trace_state
          · exact hF.2 rfl
    · refine H.go 60 [(5, [(5, .gd false), (12, .gd false)])] [] dr33 rfl ?_ ?_
      · repeat' (first | exact AllP.n | exact trivial | exact DrawB.mk (by decide +kernel) | exact fun _ => rfl | refine AllP.c ?_ ?_)
        all_goals (try dsimp only)
        all_goals first | exact rfl | first | omega | exact at_tr _ _ (by omega) | exact at_s _ _ (by omega) | exact dt (by omega) | exact df (by omega) | exact decide_eq_true (by omega) | exact decide_eq_false (by omega) | exact bts_t (by assumption) | exact bts_f (by assumption) | (unfold InR; omega) | exact ⟨trivial, rfl⟩ | exact ⟨trivial, h3, by omega⟩ | exact ⟨trivial, by omega, by omega⟩ | assumption | (simp [hk]; done) | (refine ⟨trivial, ?_, ?_⟩ <;> (try simp) <;> omega) | (simp; omega) | trace_state
      cases d with
      | true =>
        refine H.go 60 [] [] dr33 rfl ?_ ?_
        · repeat' (first | exact AllP.n | exact trivial | exact DrawB.mk (by decide +kernel) | exact fun _ => rfl | refine AllP.c ?_ ?_)
          all_goals (try dsimp only)
          all_goals first | exact rfl | first | omega | exact at_tr _ _ (by omega) | exact at_s _ _ (by omega) | exact dt (by omega) | exact df (by omega) | exact decide_eq_true (by omega) | exact decide_eq_false (by omega) | exact bts_t (by assumption) | exact bts_f (by assumption) | (unfold InR; omega) | exact ⟨trivial, rfl⟩ | exact ⟨trivial, h3, by omega⟩ | exact ⟨trivial, by omega, by omega⟩ | assumption | (simp [hk]; done) | (refine ⟨trivial, ?_, ?_⟩ <;> (try simp) <;> omega) | (simp; omega) | trace_state
        refine ⟨_, _, rfl, ?_, ?_⟩
        · repeat' (first | exact AllP.n | exact trivial | exact DrawB.mk (by decide +kernel) | exact fun _ => rfl | refine AllP.c ?_ ?_)
          all_goals (try dsimp only)
          all_goals first | exact rfl | first | omega | exact at_tr _ _ (by omega) | exact at_s _ _ (by omega) | exact dt (by omega) | exact df (by omega) | exact decide_eq_true (by omega) | exact decide_eq_false (by omega) | exact bts_t (by assumption) | exact bts_f (by assumption) | (unfold InR; omega) | (simp [Root.idle, mulN_eq, h3, h4, enc_len]; done) | (simp [Root.idle, mulN_eq, h3, h4, enc_len]; omega) | trace_state
        · exact hF.1 rfl
      | false =>
        refine H.go 60 [] [] dr33 rfl ?_ ?_
        · repeat' (first | exact AllP.n | exact trivial | exact DrawB.mk (by decide +kernel) | exact fun _ => rfl | refine AllP.c ?_ ?_)
          all_goals (try dsimp only)
          all_goals first | exact rfl | first | omega | exact at_tr _ _ (by omega) | exact at_s _ _ (by omega) | exact dt (by omega) | exact df (by omega) | exact decide_eq_true (by omega) | exact decide_eq_false (by omega) | exact bts_t (by assumption) | exact bts_f (by assumption) | (unfold InR; omega) | exact ⟨trivial, rfl⟩ | exact ⟨trivial, h3, by omega⟩ | exact ⟨trivial, by omega, by omega⟩ | assumption | (simp [hk]; done) | (refine ⟨trivial, ?_, ?_⟩ <;> (try simp) <;> omega) | (simp; omega) | trace_state
        refine ⟨_, _, rfl, ?_, ?_⟩
        · repeat' (first | exact AllP.n | exact trivial | exact DrawB.mk (by decide +kernel) | exact fun _ => rfl | refine AllP.c ?_ ?_)
          all_goals (try dsimp only)
          all_goals first | exact rfl | first | omega | exact at_tr _ _ (by omega) | exact at_s _ _ (by omega) | exact dt (by omega) | exact df (by omega) | exact decide_eq_true (by omega) | exact decide_eq_false (by omega) | exact bts_t (by assumption) | exact bts_f (by assumption) | (unfold InR; omega) | (simp [Root.idle, mulN_eq, h3, h4, enc_len]; done) | (simp [Root.idle, mulN_eq, h3, h4, enc_len]; omega) | trace_state
        · exact hF.2 rfl
end Go.Px
end

section
namespace Go.Px
open Go.RowKit

def norm (l : List Nat) : List Nat := (l.reverse.dropWhile (· == 0)).reverse
theorem norm_zero (l : List Nat) (m : Nat) (hm : m < l.length) (h : l[m] = 0) : norm (l.take (m + 1)) = norm (l.take m) := by
  unfold norm
  rw [List.take_succ_eq_append_getElem hm, List.reverse_append, h]
  simp
theorem norm_ne (l : List Nat) (m : Nat) (hm : m < l.length) (h : l[m] ≠ 0) : norm (l.take (m + 1)) = l.take (m + 1) := by
  unfold norm
  rw [List.take_succ_eq_append_getElem hm, List.reverse_append]
  simp [h]
theorem norm_le (l : List Nat) : (norm l).length ≤ l.length := by
  unfold norm
  have := (List.dropWhile_sublist (l := l.reverse) (· == 0)).length_le
  simpa using this
theorem norm_take (l : List Nat) : l.take (norm l).length = norm l := by
  have h : norm l <+: l := by
    unfold norm
    rw [← List.reverse_suffix, List.reverse_reverse]
    exact List.dropWhile_suffix _
  exact (List.prefix_iff_eq_take.1 h).symm
theorem rnorm_ct (l : List Nat) (hl : l.length < 2^40) : Pure Go.Proofs.Tryz.prog 220 [.sl 1 l.length (l.map u32)] (.ret (.sl 1 (norm l).length ((norm l).map u32))) := by
  refine Pure.body tys_valid (fn := Go.Proofs.Tryz.f220) (by kernel_rfl) rfl (by kernel_rfl) rfl ?_
  intro w ok giv E0 _ hE
  have hle := norm_le l
  have htk := norm_take l
  refine H.go 40 [] [] [] rfl ?_ ?_
  · repeat' (first | exact AllP.n | exact trivial | exact DrawB.mk (by decide +kernel) | exact fun _ => rfl | refine AllP.c ?_ ?_)
    all_goals (try dsimp only)
    all_goals first | exact rfl | first | omega | exact at_tr _ _ (by omega) | exact at_s _ _ (by omega) | exact dt (by omega) | exact df (by omega) | exact decide_eq_true (by omega) | exact decide_eq_false (by omega) | exact bts_t (by assumption) | exact bts_f (by assumption) | (unfold InR; omega) | trace_state
  refine H.loopI (fun m : Nat => m ≤ l.length ∧ norm (l.take m) = norm l) (fun m => ⟨[(0, .sl 1 l.length (l.map u32)), (2, .nils), (3, .i .i64 (m : Nat))], [], 0⟩) (fun m => m) l.length ⟨Nat.le_refl _, by rw [List.take_length]⟩ ?_ ?_
  · intro a w s
    refine s.ren hE [] ?_ ?_ rfl
    · repeat' (first | exact trivial | exact rfl | apply And.intro)
    · repeat' (first | exact trivial | exact rfl | apply And.intro)
  rintro m ⟨hm, hn⟩
  have out : m = (norm l).length → ∀ σ : List (Nat × D), get σ 0 = some (.sl 1 l.length (l.map u32)) → get σ 3 = some (.i .i64 (m : Nat)) → get σ 2 = some .nils → H Go.Proofs.Tryz.prog ⟨w, ok, giv, Go.Proofs.Tryz.f220.ntmps, E0, []⟩ (match Go.Proofs.Tryz.f220.body with | some (.seq _ (.seq _ (.seq _ c))) => c | _ => .skip) ⟨σ, [], 0⟩ (RetQ tys Go.Proofs.Tryz.f220.results.toList (.ret (.sl 1 (norm l).length ((norm l).map u32)))) := by
    intro he σ q0 q3 q2
    subst he
    refine H.to [] [(0, .sl 1 l.length (l.map u32)), (2, .nils), (3, .i .i64 ((norm l).length : Nat))] [] 0 ⟨⟨rfl, q0⟩, ⟨rfl, q2⟩, ⟨rfl, q3⟩, trivial⟩ trivial rfl hE ?_
    refine H.go 40 [] [] dr220 rfl ?_ ?_
    · repeat' (first | exact AllP.n | exact trivial | exact DrawB.mk (by decide +kernel) | exact fun _ => rfl | refine AllP.c ?_ ?_)
      all_goals (try dsimp only)
      all_goals first | exact rfl | first | omega | exact at_tr _ _ (by omega) | exact at_s _ _ (by omega) | exact dt (by omega) | exact df (by omega) | exact decide_eq_true (by omega) | exact decide_eq_false (by omega) | exact bts_t (by assumption) | exact bts_f (by assumption) | (unfold InR; omega) | (refine ⟨?_, ?_⟩ <;> (try simp) <;> omega) | trace_state
    refine ⟨_, _, rfl, ?_, ?_⟩
    · repeat' (first | exact AllP.n | exact trivial | exact DrawB.mk (by decide +kernel) | exact fun _ => rfl | refine AllP.c ?_ ?_)
      all_goals (try dsimp only)
      all_goals first | exact rfl | first | omega | exact at_tr _ _ (by omega) | exact at_s _ _ (by omega) | exact dt (by omega) | exact df (by omega) | exact decide_eq_true (by omega) | exact decide_eq_false (by omega) | exact bts_t (by assumption) | exact bts_f (by assumption) | (unfold InR; omega) | (simp [Root.idle, mulN_eq, hle]; done) | trace_state
    · simp only [tupD, mulN_eq, Nat.mul_one, Int.toNat_natCast, ← List.map_take, htk]
      exact .refl _
  rcases Nat.eq_zero_or_pos m with h0 | h0
  · subst h0
    refine H.go 40 [(2, [(2, .gd false)])] [] [] rfl ?_ ?_
    · repeat' (first | exact AllP.n | exact trivial | exact DrawB.mk (by decide +kernel) | exact fun _ => rfl | refine AllP.c ?_ ?_)
      all_goals (try dsimp only)
      all_goals first | exact rfl | first | omega | exact at_tr _ _ (by omega) | exact at_s _ _ (by omega) | exact dt (by omega) | exact df (by omega) | exact decide_eq_true (by omega) | exact decide_eq_false (by omega) | exact bts_t (by assumption) | exact bts_f (by assumption) | (unfold InR; omega) | trace_state
    exact out (by rw [← hn]; rfl) _ rfl rfl rfl
  · have hlt : m - 1 < l.length := by omega
    have hld : ((l.map u32).drop (mulN ((m : Int) - 1).toNat 1))[0]? = some (u32 l[m-1]) := by
      rw [show ((m : Int) - 1) = ((m - 1 : Nat) : Int) by omega]
      exact at_u l (m - 1) hlt
    by_cases hz : l[m-1] = 0
    · refine H.go 40 [(2, [(2, .gd true), (7, .cell (u32 l[m-1]))]), (3, [(1, .val (.i .i64 ((m - 1 : Nat) : Int)))])] [(15, true)] [] rfl ?_ ?_
      · repeat' (first | exact AllP.n | exact trivial | exact DrawB.mk (by decide +kernel) | exact fun _ => rfl | refine AllP.c ?_ ?_)
        all_goals (try dsimp only)
        all_goals first | exact rfl | first | omega | exact at_tr _ _ (by omega) | exact at_s _ _ (by omega) | exact dt (by omega) | exact df (by omega) | exact decide_eq_true (by omega) | exact decide_eq_false (by omega) | exact bts_t (by assumption) | exact bts_f (by assumption) | (unfold InR; omega) | exact hld | (simp [hz]; done) | (refine ⟨by unfold InR; omega, ?_⟩; congr 1; omega) | trace_state
      refine loopN (m - 1) ⟨by omega, ?_⟩ (by show m - 1 < m; omega) fun a w s => s.ren hE [] ?_ ?_ rfl
      · have := norm_zero l (m - 1) hlt hz
        rw [show m - 1 + 1 = m by omega] at this
        rw [← this]; exact hn
      · repeat' (first | exact trivial | exact rfl | apply And.intro)
      · repeat' (first | exact trivial | exact rfl | apply And.intro)
    · refine H.go 40 [(2, [(2, .gd true), (7, .cell (u32 l[m-1]))])] [(15, false)] [] rfl ?_ ?_
      · repeat' (first | exact AllP.n | exact trivial | exact DrawB.mk (by decide +kernel) | exact fun _ => rfl | refine AllP.c ?_ ?_)
        all_goals (try dsimp only)
        all_goals first | exact rfl | first | omega | exact at_tr _ _ (by omega) | exact at_s _ _ (by omega) | exact dt (by omega) | exact df (by omega) | exact decide_eq_true (by omega) | exact decide_eq_false (by omega) | exact bts_t (by assumption) | exact bts_f (by assumption) | (unfold InR; omega) | exact hld | (simp [hz]; done) | trace_state
      refine out ?_ _ rfl rfl rfl
      have := norm_ne l (m - 1) hlt hz
      rw [show m - 1 + 1 = m by omega, hn] at this
      rw [this, List.length_take, Nat.min_eq_left hm]
theorem norm_ct (l : List Nat) (hl : l.length < 2^40) : Pure Go.Proofs.Tryz.prog 242 [.sl 1 l.length (l.map u32)] (.ret (.sl 1 (norm l).length ((norm l).map u32))) := by
  refine Pure.body tys_valid (fn := Go.Proofs.Tryz.f242) (by kernel_rfl) rfl (by kernel_rfl) rfl ?_
  intro w ok giv E0 _ hE
  have hle := norm_le l
  have htk := norm_take l
  refine H.go 40 [] [] [] rfl ?_ ?_
  · repeat' (first | exact AllP.n | exact trivial | exact DrawB.mk (by decide +kernel) | exact fun _ => rfl | refine AllP.c ?_ ?_)
    all_goals (try dsimp only)
    all_goals first | exact rfl | first | omega | exact at_tr _ _ (by omega) | exact at_s _ _ (by omega) | exact dt (by omega) | exact df (by omega) | exact decide_eq_true (by omega) | exact decide_eq_false (by omega) | exact bts_t (by assumption) | exact bts_f (by assumption) | (unfold InR; omega) | trace_state
  refine H.loopI (fun m : Nat => m ≤ l.length ∧ norm (l.take m) = norm l) (fun m => ⟨[(0, .sl 1 l.length (l.map u32)), (2, .nils), (3, .i .i64 (m : Nat))], [], 0⟩) (fun m => m) l.length ⟨Nat.le_refl _, by rw [List.take_length]⟩ ?_ ?_
  · intro a w s
    refine s.ren hE [] ?_ ?_ rfl
    · repeat' (first | exact trivial | exact rfl | apply And.intro)
    · repeat' (first | exact trivial | exact rfl | apply And.intro)
  rintro m ⟨hm, hn⟩
  have out : m = (norm l).length → ∀ σ : List (Nat × D), get σ 0 = some (.sl 1 l.length (l.map u32)) → get σ 3 = some (.i .i64 (m : Nat)) → get σ 2 = some .nils → H Go.Proofs.Tryz.prog ⟨w, ok, giv, Go.Proofs.Tryz.f242.ntmps, E0, []⟩ (match Go.Proofs.Tryz.f242.body with | some (.seq _ (.seq _ (.seq _ c))) => c | _ => .skip) ⟨σ, [], 0⟩ (RetQ tys Go.Proofs.Tryz.f242.results.toList (.ret (.sl 1 (norm l).length ((norm l).map u32)))) := by
    intro he σ q0 q3 q2
    subst he
    refine H.to [] [(0, .sl 1 l.length (l.map u32)), (2, .nils), (3, .i .i64 ((norm l).length : Nat))] [] 0 ⟨⟨rfl, q0⟩, ⟨rfl, q2⟩, ⟨rfl, q3⟩, trivial⟩ trivial rfl hE ?_
    rcases Nat.eq_zero_or_pos (norm l).length with h0 | h0
    · refine H.go 40 [] [(20, true)] [] rfl ?_ ?_
      · repeat' (first | exact AllP.n | exact trivial | exact DrawB.mk (by decide +kernel) | exact fun _ => rfl | refine AllP.c ?_ ?_)
        all_goals (try dsimp only)
        all_goals first | exact rfl | first | omega | exact at_tr _ _ (by omega) | exact at_s _ _ (by omega) | exact dt (by omega) | exact df (by omega) | exact decide_eq_true (by omega) | exact decide_eq_false (by omega) | exact bts_t (by assumption) | exact bts_f (by assumption) | (unfold InR; omega) | (simp [h0]; done) | trace_state
      refine ⟨_, _, rfl, ?_, ?_⟩
      · repeat' (first | exact AllP.n | exact trivial | exact DrawB.mk (by decide +kernel) | exact fun _ => rfl | refine AllP.c ?_ ?_)
        all_goals (try dsimp only)
        all_goals first | exact rfl | first | omega | exact at_tr _ _ (by omega) | exact at_s _ _ (by omega) | exact dt (by omega) | exact df (by omega) | exact decide_eq_true (by omega) | exact decide_eq_false (by omega) | exact bts_t (by assumption) | exact bts_f (by assumption) | (unfold InR; omega) | trace_state
      · rw [h0, List.eq_nil_of_length_eq_zero h0]
        exact .nils 1
    · refine H.go 40 [] [(20, false)] [] rfl ?_ ?_
      · repeat' (first | exact AllP.n | exact trivial | exact DrawB.mk (by decide +kernel) | exact fun _ => rfl | refine AllP.c ?_ ?_)
        all_goals (try dsimp only)
        all_goals first | exact rfl | first | omega | exact at_tr _ _ (by omega) | exact at_s _ _ (by omega) | exact dt (by omega) | exact df (by omega) | exact decide_eq_true (by omega) | exact decide_eq_false (by omega) | exact bts_t (by assumption) | exact bts_f (by assumption) | (unfold InR; omega) | (simp [mulN, zeros]; omega) | (simp [mulN, zeros]; done) | (simp; intro h; simp [h] at h0) | trace_state
      refine ⟨_, _, rfl, ?_, ?_⟩
      · repeat' (first | exact AllP.n | exact trivial | exact DrawB.mk (by decide +kernel) | exact fun _ => rfl | refine AllP.c ?_ ?_)
        all_goals (try dsimp only)
        all_goals first | exact rfl | first | omega | exact at_tr _ _ (by omega) | exact at_s _ _ (by omega) | exact dt (by omega) | exact df (by omega) | exact decide_eq_true (by omega) | exact decide_eq_false (by omega) | exact bts_t (by assumption) | exact bts_f (by assumption) | (unfold InR; omega) | (simp [Root.idle, mulN, zeros, hle]; done) | (simp [Root.idle, mulN, zeros, hle]; omega) | trace_state
      · have h1 : min l.length (norm l).length = (norm l).length := Nat.min_eq_right hle
        simp only [tupD, Root.idle, Root.setCs, mulN_eq, Nat.mul_one, Int.toNat_natCast, zeros, Nat.zero_mul, List.take_zero, List.nil_append, Nat.zero_add, h1, ← List.map_take, htk, List.length_map, List.drop_replicate, Nat.sub_self, List.replicate_zero, List.append_nil]
        exact .refl _
  rcases Nat.eq_zero_or_pos m with h0 | h0
  · subst h0
    refine H.go 40 [(2, [(2, .gd false)])] [] [] rfl ?_ ?_
    · repeat' (first | exact AllP.n | exact trivial | exact DrawB.mk (by decide +kernel) | exact fun _ => rfl | refine AllP.c ?_ ?_)
      all_goals (try dsimp only)
      all_goals first | exact rfl | first | omega | exact at_tr _ _ (by omega) | exact at_s _ _ (by omega) | exact dt (by omega) | exact df (by omega) | exact decide_eq_true (by omega) | exact decide_eq_false (by omega) | exact bts_t (by assumption) | exact bts_f (by assumption) | (unfold InR; omega) | trace_state
    exact out (by rw [← hn]; rfl) _ rfl rfl rfl
  · have hlt : m - 1 < l.length := by omega
    have hld : ((l.map u32).drop (mulN ((m : Int) - 1).toNat 1))[0]? = some (u32 l[m-1]) := by
      rw [show ((m : Int) - 1) = ((m - 1 : Nat) : Int) by omega]
      exact at_u l (m - 1) hlt
    by_cases hz : l[m-1] = 0
    · refine H.go 40 [(2, [(2, .gd true), (7, .cell (u32 l[m-1]))]), (3, [(1, .val (.i .i64 ((m - 1 : Nat) : Int)))])] [(16, true)] [] rfl ?_ ?_
      · repeat' (first | exact AllP.n | exact trivial | exact DrawB.mk (by decide +kernel) | exact fun _ => rfl | refine AllP.c ?_ ?_)
        all_goals (try dsimp only)
        all_goals first | exact rfl | first | omega | exact at_tr _ _ (by omega) | exact at_s _ _ (by omega) | exact dt (by omega) | exact df (by omega) | exact decide_eq_true (by omega) | exact decide_eq_false (by omega) | exact bts_t (by assumption) | exact bts_f (by assumption) | (unfold InR; omega) | exact hld | (simp [hz]; done) | (refine ⟨by unfold InR; omega, ?_⟩; congr 1; omega) | trace_state
      refine loopN (m - 1) ⟨by omega, ?_⟩ (by show m - 1 < m; omega) fun a w s => s.ren hE [] ?_ ?_ rfl
      · have := norm_zero l (m - 1) hlt hz
        rw [show m - 1 + 1 = m by omega] at this
        rw [← this]; exact hn
      · repeat' (first | exact trivial | exact rfl | apply And.intro)
      · repeat' (first | exact trivial | exact rfl | apply And.intro)
    · refine H.go 40 [(2, [(2, .gd true), (7, .cell (u32 l[m-1]))])] [(16, false)] [] rfl ?_ ?_
      · repeat' (first | exact AllP.n | exact trivial | exact DrawB.mk (by decide +kernel) | exact fun _ => rfl | refine AllP.c ?_ ?_)
        all_goals (try dsimp only)
        all_goals first | exact rfl | first | omega | exact at_tr _ _ (by omega) | exact at_s _ _ (by omega) | exact dt (by omega) | exact df (by omega) | exact decide_eq_true (by omega) | exact decide_eq_false (by omega) | exact bts_t (by assumption) | exact bts_f (by assumption) | (unfold InR; omega) | exact hld | (simp [hz]; done) | trace_state
      refine out ?_ _ rfl rfl rfl
      have := norm_ne l (m - 1) hlt hz
      rw [show m - 1 + 1 = m by omega, hn] at this
      rw [this, List.length_take, Nat.min_eq_left hm]
end Go.Px
end

section
namespace Go.Px
open Go.RowKit

theorem wrapU64 {n : Int} (h0 : 0 ≤ n) (h1 : n < 18446744073709551616) : IntKind.wrap .u64 n = n := by
  simp [IntKind.wrap, IntKind.bits, IntKind.signed]
  omega
theorem wrapU32 {n : Int} (h0 : 0 ≤ n) (h1 : n < 4294967296) : IntKind.wrap .u32 n = n := by
  simp [IntKind.wrap, IntKind.bits, IntKind.signed]
  omega
/-- A division by one limb, from the top: the quotient's limbs, what is left. -/
def qd (b : Nat) : List Nat → List Nat × Nat
  | [] => ([], 0)
  | x :: xs => (((qd b xs).2 * 4294967296 + x) / b :: (qd b xs).1, ((qd b xs).2 * 4294967296 + x) % b)
theorem qd_len (b : Nat) : ∀ l : List Nat, (qd b l).1.length = l.length
  | [] => rfl
  | x :: xs => by simp [qd, qd_len b xs]
theorem qd_lt (b : Nat) (hb : 0 < b) : ∀ l : List Nat, (qd b l).2 < b
  | [] => hb
  | x :: xs => Nat.mod_lt _ hb
theorem drop_cons {l : List Nat} {m : Nat} (h : m < l.length) : l.drop m = l[m] :: l.drop (m + 1) := List.drop_eq_getElem_cons h

theorem set_repl (m : Nat) (a q : D) (l : List D) : (List.replicate (m + 1) a ++ l).set m q = List.replicate m a ++ q :: l := by
  rw [List.replicate_succ', List.append_assoc, List.set_append_right _ _ (by simp)]
  simp
structure SY where
  m : Nat
  r : Nat
  cs : List D
theorem rsmall_ct (l : List Nat) (b : Nat) (hb : 0 < b) (hb2 : b < 4294967296) (hl : l.length < 2^40) (hx : ∀ x ∈ l, x < 4294967296) : Pure Go.Proofs.Tryz.prog 213 [.sl 1 l.length (l.map u32), u32 b] (.ret (.tup [.sl 1 (norm (qd b l).1).length ((norm (qd b l).1).map u32), u32 (qd b l).2])) := by
  refine Pure.body tys_valid (fn := Go.Proofs.Tryz.f213) (by kernel_rfl) rfl (by kernel_rfl) rfl ?_
  intro w ok giv E0 _ hE
  refine H.go 40 [] [] dr213 rfl ?_ ?_
  · repeat' (first | exact AllP.n | exact trivial | exact DrawB.mk (by decide +kernel) | exact fun _ => rfl | refine AllP.c ?_ ?_)
    all_goals (try dsimp only)
    all_goals first | exact rfl | first | omega | exact at_tr _ _ (by omega) | exact at_s _ _ (by omega) | exact dt (by omega) | exact df (by omega) | exact decide_eq_true (by omega) | exact decide_eq_false (by omega) | exact bts_t (by assumption) | exact bts_f (by assumption) | (unfold InR; omega) | (simp; omega) | trace_state
  refine H.loopI (fun y : SY => y.m ≤ l.length ∧ y.r = (qd b (l.drop y.m)).2 ∧ y.cs = List.replicate y.m (u32 0) ++ (qd b (l.drop y.m)).1.map u32) (fun y => match y with | ⟨m, r, cs⟩ => ⟨[(0, .sl 1 l.length (l.map u32)), (1, u32 b), (4, .nils), (5, .i .u32 0), (6, .os 0 0 l.length), (7, .i .u64 (r : Nat)), (8, .i .i64 ((m : Int) - 1))],
    [(0, ⟨159, 1, cs, 0, true, false, false⟩)], 0⟩) (fun y => y.m) ⟨l.length, 0, List.replicate l.length (u32 0)⟩ ⟨Nat.le_refl _, by simp [qd], by simp [qd]⟩ ?_ ?_
  · intro a w s
    refine s.ren hE [] ?_ ?_ rfl
    · repeat' (first | exact trivial | exact rfl | apply And.intro)
    · repeat' (first | exact trivial | exact rfl | apply And.intro)
  rintro ⟨m, r, cs⟩ ⟨hm, hr, hcs⟩
  simp only at hm hr hcs
  have hrb : r < b := by rw [hr]; exact qd_lt b hb _
  have hcl : cs.length = l.length := by rw [hcs]; simp [qd_len]; omega
  rcases Nat.eq_zero_or_pos m with h0 | h0
  · subst h0
    rw [List.drop_zero] at hr hcs
    simp only [List.replicate_zero, List.nil_append] at hcs
    subst hcs hr
    refine H.go 60 [] [(16, false)] dr213 rfl ?_ ?_
    · repeat' (first | exact AllP.n | exact trivial | exact DrawB.mk (by decide +kernel) | exact fun _ => rfl | refine AllP.c ?_ ?_)
      all_goals (try dsimp only)
      all_goals first | exact rfl | first | omega | exact at_tr _ _ (by omega) | exact at_s _ _ (by omega) | exact dt (by omega) | exact df (by omega) | exact decide_eq_true (by omega) | exact decide_eq_false (by omega) | exact bts_t (by assumption) | exact bts_f (by assumption) | (unfold InR; omega) | trace_state
    have hn := rnorm_ct (qd b l).1 (by rw [qd_len]; exact hl)
    rw [qd_len] at hn
    have hqlt := qd_lt b hb l
    have w1 : IntKind.wrap .u32 (((qd b l).2 : Nat) : Int) = ((qd b l).2 : Nat) := wrapU32 (by omega) (by omega)
    refine H.go 60 [(9, [(1, .res (.ret (.sl 1 (norm (qd b l).1).length ((norm (qd b l).1).map u32)))), (3, .val (u32 (qd b l).2))])] [] dr213 rfl ?_ ?_
    · repeat' (first | exact AllP.n | exact trivial | exact DrawB.mk (by decide +kernel) | exact fun _ => rfl | refine AllP.c ?_ ?_)
      all_goals (try dsimp only)
      all_goals first | exact rfl | first | omega | exact at_tr _ _ (by omega) | exact at_s _ _ (by omega) | exact dt (by omega) | exact df (by omega) | exact decide_eq_true (by omega) | exact decide_eq_false (by omega) | exact bts_t (by assumption) | exact bts_f (by assumption) | (unfold InR; omega) | exact hn | (refine ⟨trivial, ?_⟩; rw [w1]; rfl) | (simp [Root.idle, mulN_eq, qd_len]; done) | trace_state
    refine ⟨_, _, rfl, ?_, ?_⟩
    · repeat' (first | exact AllP.n | exact trivial | exact DrawB.mk (by decide +kernel) | exact fun _ => rfl | refine AllP.c ?_ ?_)
      all_goals (try dsimp only)
      all_goals first | exact rfl | first | omega | exact at_tr _ _ (by omega) | exact at_s _ _ (by omega) | exact dt (by omega) | exact df (by omega) | exact decide_eq_true (by omega) | exact decide_eq_false (by omega) | exact bts_t (by assumption) | exact bts_f (by assumption) | (unfold InR; omega) | trace_state
    · exact .refl _
  · have hlt : m - 1 < l.length := by omega
    have hxl : l[m-1] < 4294967296 := hx _ (List.getElem_mem _)
    have hld : ((l.map u32).drop (mulN ((m : Int) - 1).toNat 1))[0]? = some (u32 l[m-1]) := by
      rw [show ((m : Int) - 1) = ((m - 1 : Nat) : Int) by omega]
      exact at_u l (m - 1) hlt
    have hc2 : r * 4294967296 + l[m-1] < b * 4294967296 := by
      have : (r + 1) * 4294967296 ≤ b * 4294967296 := Nat.mul_le_mul_right _ hrb
      omega
    have hq2 : (r * 4294967296 + l[m-1]) / b < 4294967296 := Nat.div_lt_of_lt_mul hc2
    have hr2 : (r * 4294967296 + l[m-1]) % b < b := Nat.mod_lt _ hb
    have wb : IntKind.wrap .u64 (b : Int) = b := wrapU64 (by omega) (by omega)
    have wx : IntKind.wrap .u64 (l[m-1] : Int) = l[m-1] := wrapU64 (by omega) (by omega)
    have p32 : (2 : Int) ^ min (Int.toNat 32) IntKind.u64.bits = 4294967296 := by decide
    have e7 : D.i .u64 (IntKind.wrap .u64 (IntKind.wrap .u64 ((r : Int) * 2 ^ min (Int.toNat 32) IntKind.u64.bits) + IntKind.wrap .u64 (l[m-1] : Int))) = D.i .u64 ((r * 4294967296 + l[m-1] : Nat) : Int) := by
      rw [wx, p32, wrapU64 (n := (r : Int) * 4294967296) (by omega) (by omega), wrapU64 (by omega) (by omega)]
      congr 1
    have eq : D.i .u32 (IntKind.wrap .u32 (IntKind.wrap .u64 (((r * 4294967296 + l[m-1] : Nat) : Int).tdiv (IntKind.wrap .u64 (b : Int))))) = u32 ((r * 4294967296 + l[m-1]) / b) := by
      have q0 : (0 : Int) ≤ (((r * 4294967296 + l[m-1]) / b : Nat) : Int) := Int.natCast_nonneg _
      have q1 : (((r * 4294967296 + l[m-1]) / b : Nat) : Int) < 4294967296 := Int.ofNat_lt.2 hq2
      rw [wb, ← Int.ofNat_tdiv, wrapU64 q0 (Int.lt_trans q1 (by decide)), wrapU32 q0 q1]
      rfl
    have em : D.i .u64 (((r * 4294967296 + l[m-1] : Nat) : Int).tmod (IntKind.wrap .u64 (b : Int))) = D.i .u64 (((r * 4294967296 + l[m-1]) % b : Nat) : Int) := by
      rw [wb, ← Int.ofNat_tmod]
    have nb : IntKind.wrap .u64 (b : Int) ≠ 0 := by rw [wb]; omega
    have tn : ((m : Int) - 1).toNat = m - 1 := by omega
    refine H.go 60 [(6, [(5, .cell (u32 l[m-1])), (7, .val (.i .u64 ((r * 4294967296 + l[m-1] : Nat) : Int)))]), (7, [(6, .val (u32 ((r * 4294967296 + l[m-1]) / b)))]), (8, [(3, .val (.i .u64 (((r * 4294967296 + l[m-1]) % b : Nat) : Int)))]), (5, [(1, .val (.i .i64 (((m - 1 : Nat) : Int) - 1)))])] [(16, true)] dr213 rfl ?_ ?_
    · repeat' (first | exact AllP.n | exact trivial | exact DrawB.mk (by decide +kernel) | exact fun _ => rfl | refine AllP.c ?_ ?_)
      all_goals (try dsimp only)
      all_goals first | exact rfl | first | omega | exact at_tr _ _ (by omega) | exact at_s _ _ (by omega) | exact dt (by omega) | exact df (by omega) | exact decide_eq_true (by omega) | exact decide_eq_false (by omega) | exact bts_t (by assumption) | exact bts_f (by assumption) | (unfold InR; omega) | exact hld | exact ⟨trivial, e7⟩ | exact ⟨trivial, eq⟩ | exact ⟨nb, em⟩ | exact nb | (refine ⟨by unfold InR; omega, ?_⟩; congr 1; omega) | (simp only [mulN_eq, addN_eq, tn]; omega) | trace_state
    refine loopN ⟨m - 1, (r * 4294967296 + l[m-1]) % b, cs.set (mulN (addN 0 ((m : Int) - 1).toNat) 1) (u32 ((r * 4294967296 + l[m-1]) / b))⟩ ⟨by show m - 1 ≤ l.length; omega, ?_, ?_⟩ (by show m - 1 < m; omega) fun a w s => s.ren hE [] ?_ ?_ rfl
    · show _ = (qd b (l.drop (m - 1))).2
      rw [drop_cons hlt, show m - 1 + 1 = m by omega]
      simp only [qd, ← hr]
    · show cs.set _ _ = List.replicate (m - 1) (u32 0) ++ (qd b (l.drop (m - 1))).1.map u32
      rw [drop_cons hlt, show m - 1 + 1 = m by omega, hcs]
      simp only [qd, List.map_cons, ← hr, mulN_eq, addN_eq, tn, Nat.zero_add, Nat.mul_one]
      have := set_repl (m - 1) (u32 0) (u32 ((r * 4294967296 + l[m-1]) / b)) ((qd b (l.drop m)).1.map u32)
      rw [show m - 1 + 1 = m by omega] at this
      exact this
    · repeat' (first | exact trivial | exact rfl | apply And.intro)
    · repeat' (first | exact trivial | exact rfl | apply And.intro)
end Go.Px
end

section
namespace Go.Px
open Go.RowKit

/-! ### Limbs and their number -/
def lv : List Nat → Nat
  | [] => 0
  | x :: xs => x + 4294967296 * lv xs
theorem qd_val (b : Nat) : ∀ l : List Nat, lv l = b * lv (qd b l).1 + (qd b l).2
  | [] => by simp [lv, qd]
  | x :: xs => by
    have ih := qd_val b xs
    have h := Nat.div_add_mod ((qd b xs).2 * 4294967296 + x) b
    simp only [lv, qd]
    rw [ih, Nat.mul_add b, ← Nat.mul_assoc b 4294967296, Nat.mul_comm b 4294967296, Nat.mul_assoc 4294967296 b]
    generalize b * lv (qd b xs).1 = p
    omega
theorem qd_limb (b : Nat) (hb : 0 < b) : ∀ l : List Nat, (∀ x ∈ l, x < 4294967296) → ∀ x ∈ (qd b l).1, x < 4294967296
  | [], _, x, h => by simp [qd] at h
  | y :: ys, hl, x, h => by
    simp only [qd, List.mem_cons] at h
    rcases h with rfl | h
    · have h1 := qd_lt b hb ys
      have h2 := hl y (by simp)
      refine Nat.div_lt_of_lt_mul ?_
      have : ((qd b ys).2 + 1) * 4294967296 ≤ b * 4294967296 := Nat.mul_le_mul_right _ h1
      omega
    · exact qd_limb b hb ys (fun z hz => hl z (by simp [hz])) x h
theorem lv_append_zero : ∀ (l : List Nat) (k : Nat), lv (l ++ List.replicate k 0) = lv l
  | [], k => by
    induction k with
    | zero => rfl
    | succ k ih => simp only [List.nil_append, List.replicate_succ, lv] at *; omega
  | x :: xs, k => by simp only [List.cons_append, lv, lv_append_zero xs k]
theorem norm_split (l : List Nat) : ∃ k, l = norm l ++ List.replicate k 0 := by
  unfold norm
  refine ⟨(l.reverse.takeWhile (· == 0)).length, ?_⟩
  have h1 := List.takeWhile_append_dropWhile (p := (· == 0)) (l := l.reverse)
  have h2 : l.reverse.takeWhile (· == 0) = List.replicate (l.reverse.takeWhile (· == 0)).length 0 := by
    apply List.eq_replicate_of_mem
    intro x hx
    have ha := List.all_takeWhile (p := (fun x : Nat => x == 0)) (l := l.reverse)
    have := List.all_eq_true.1 ha x hx
    simpa using this
  have h3 := congrArg List.reverse h1
  rw [List.reverse_append, List.reverse_reverse, h2, List.reverse_replicate] at h3
  simpa using h3.symm
theorem lv_norm (l : List Nat) : lv (norm l) = lv l := by
  obtain ⟨k, h⟩ := norm_split l
  conv => rhs; rw [h]
  rw [lv_append_zero]
/-- The limbs of a number. -/
def limbs (n : Nat) : List Nat := if h : n = 0 then [] else n % 4294967296 :: limbs (n / 4294967296)
termination_by n
decreasing_by omega
theorem limbs_zero : limbs 0 = [] := by rw [limbs]; simp
theorem limbs_pos {n : Nat} (h : n ≠ 0) : limbs n = n % 4294967296 :: limbs (n / 4294967296) := by rw [limbs]; simp [h]
theorem lv_limbs (n : Nat) : lv (limbs n) = n := by
  induction n using Nat.strongRecOn with
  | _ n ih =>
    by_cases h : n = 0
    · subst h; rw [limbs_zero]; rfl
    · rw [limbs_pos h]
      simp only [lv]
      rw [ih _ (by omega)]
      omega
theorem limbs_lt (n : Nat) : ∀ x ∈ limbs n, x < 4294967296 := by
  induction n using Nat.strongRecOn with
  | _ n ih =>
    by_cases h : n = 0
    · subst h; rw [limbs_zero]; simp
    · rw [limbs_pos h]
      intro x hx
      rcases List.mem_cons.1 hx with rfl | hx
      · omega
      · exact ih _ (by omega) x hx
theorem norm_nil : norm [] = [] := rfl
theorem norm_cons (x : Nat) (xs : List Nat) : norm (x :: xs) = if norm xs = [] ∧ x = 0 then [] else x :: norm xs := by
  unfold norm
  rw [List.reverse_cons, List.dropWhile_append]
  by_cases h : (xs.reverse.dropWhile (· == 0)).isEmpty = true
  · have h' := List.isEmpty_iff.1 h
    rw [if_pos h, h']
    by_cases hx : x = 0 <;> simp [hx]
  · have h' : xs.reverse.dropWhile (· == 0) ≠ [] := fun e => h (List.isEmpty_iff.2 e)
    rw [if_neg h, if_neg (by simp [h'])]
    simp
theorem norm_eq : ∀ (l : List Nat), (∀ x ∈ l, x < 4294967296) → norm l = limbs (lv l)
  | [], _ => by rw [norm_nil]; simp only [lv]; rw [limbs_zero]
  | x :: xs, h => by
    have hx := h x (by simp)
    have ih := norm_eq xs fun y hy => h y (by simp [hy])
    rw [norm_cons]
    simp only [lv]
    by_cases h0 : x + 4294967296 * lv xs = 0
    · have h1 : lv xs = 0 := by omega
      have h2 : x = 0 := by omega
      rw [h1] at ih ⊢
      rw [limbs_zero] at ih
      rw [if_pos ⟨ih, h2⟩, h2, limbs_zero]
    · rw [limbs_pos h0]
      have e1 : (x + 4294967296 * lv xs) % 4294967296 = x := by omega
      have e2 : (x + 4294967296 * lv xs) / 4294967296 = lv xs := by omega
      rw [e1, e2, ← ih, if_neg]
      rintro ⟨h1, h2⟩
      rw [ih] at h1
      have := congrArg lv h1
      rw [lv_limbs] at this
      simp only [lv] at this
      omega
end Go.Px
end

section
namespace Go.Px
open Go.RowKit

theorem limbs_norm (n : Nat) : norm (limbs n) = limbs n := by rw [norm_eq _ (limbs_lt n), lv_limbs]
theorem qd_limbs (b u : Nat) (hb : 0 < b) : norm (qd b (limbs u)).1 = limbs (u / b) ∧ (qd b (limbs u)).2 = u % b := by
  have h1 := qd_val b (limbs u)
  have h2 := qd_lt b hb (limbs u)
  rw [lv_limbs] at h1
  rw [norm_eq _ (qd_limb b hb _ (limbs_lt u))]
  generalize lv (qd b (limbs u)).1 = q at h1
  generalize (qd b (limbs u)).2 = r at h1 h2 ⊢
  have e1 : u / b = q := by rw [h1, Nat.mul_add_div hb, Nat.div_eq_of_lt h2, Nat.add_zero]
  have e2 : u % b = r := by rw [h1, Nat.mul_add_mod, Nat.mod_eq_of_lt h2]
  exact ⟨by rw [e1], e2.symm⟩
theorem limbs_div_len (b u : Nat) (hb : 0 < b) : (limbs (u / b)).length ≤ (limbs u).length := by
  rw [← (qd_limbs b u hb).1]
  refine Nat.le_trans (norm_le _) ?_
  rw [qd_len]
  exact Nat.le_refl _
theorem rsmall_n (u b : Nat) (hb : 0 < b) (hb2 : b < 4294967296) (hl : (limbs u).length < 2^40) :
    Pure Go.Proofs.Tryz.prog 213 [.sl 1 (limbs u).length ((limbs u).map u32), u32 b] (.ret (.tup [.sl 1 (limbs (u / b)).length ((limbs (u / b)).map u32), u32 (u % b)])) := by
  have h := rsmall_ct (limbs u) b hb hb2 hl (limbs_lt u)
  rw [(qd_limbs b u hb).1, (qd_limbs b u hb).2] at h
  exact h
/-- Without its tens; how many there are. -/
def strip (v : Nat) : Nat := if h : v = 0 then 0 else if v % 10 = 0 then strip (v / 10) else v
termination_by v
decreasing_by omega
def tz (v : Nat) : Nat := if h : v = 0 then 0 else if v % 10 = 0 then tz (v / 10) + 1 else 0
termination_by v
decreasing_by omega
theorem strip_step {v : Nat} (h : v ≠ 0) (h2 : v % 10 = 0) : strip v = strip (v / 10) ∧ tz v = tz (v / 10) + 1 := by
  constructor
  · rw [strip]; simp [h, h2]
  · rw [tz]; simp [h, h2]
theorem strip_stop {v : Nat} (h : v = 0 ∨ v % 10 ≠ 0) : strip v = v ∧ tz v = 0 := by
  constructor
  · rw [strip]; rcases h with h | h
    · simp [h]
    · by_cases h0 : v = 0
      · simp [h0]
      · simp [h0, h]
  · rw [tz]; rcases h with h | h
    · simp [h]
    · by_cases h0 : v = 0
      · simp [h0]
      · simp [h0, h]
theorem lv_lt : ∀ (l : List Nat), (∀ x ∈ l, x < 4294967296) → lv l < 2 ^ (32 * l.length)
  | [], _ => by simp [lv]
  | x :: xs, h => by
    have := lv_lt xs fun y hy => h y (by simp [hy])
    have hx := h x (by simp)
    simp only [lv, List.length_cons]
    rw [show 32 * (xs.length + 1) = 32 * xs.length + 32 by omega, Nat.pow_add]
    have e : (2 : Nat) ^ 32 = 4294967296 := by decide
    rw [e]
    omega
theorem tz_pow (v : Nat) (h : v ≠ 0) : 2 ^ tz v ≤ v := by
  induction v using Nat.strongRecOn with
  | _ v ih =>
    by_cases h2 : v % 10 = 0
    · rw [(strip_step h h2).2, Nat.pow_succ]
      have := ih (v / 10) (by omega) (by omega)
      omega
    · rw [(strip_stop (.inr h2)).2]
      simp
      omega
theorem tz_lt (l : List Nat) (h : ∀ x ∈ l, x < 4294967296) : tz (lv l) ≤ 32 * l.length := by
  by_cases h0 : lv l = 0
  · rw [(strip_stop (.inl h0)).2]; omega
  · have h1 := tz_pow _ h0
    have h2 := lv_lt l h
    have h3 : 2 ^ tz (lv l) < 2 ^ (32 * l.length) := Nat.lt_of_le_of_lt h1 h2
    have := (Nat.pow_lt_pow_iff_right (by decide : 1 < 2)).1 h3
    omega
theorem rtrim_ct (l : List Nat) (hl : l.length < 2^40) (hx : ∀ x ∈ l, x < 4294967296) : Pure Go.Proofs.Tryz.prog 192 [.sl 1 l.length (l.map u32)] (.ret (.tup [.sl 1 (limbs (strip (lv l))).length ((limbs (strip (lv l))).map u32), .i .i64 (tz (lv l) : Nat)])) := by
  have htz := tz_lt l hx
  have hn := rnorm_ct l hl
  have hnl := norm_le l
  rw [norm_eq l hx] at hn hnl
  refine Pure.body tys_valid (fn := Go.Proofs.Tryz.f192) (by kernel_rfl) rfl (by kernel_rfl) rfl ?_
  intro w ok giv E0 _ hE
  refine H.go 60 [(1, [(1, .res (.ret (.sl 1 (limbs (lv l)).length ((limbs (lv l)).map u32))))])] [] [] rfl ?_ ?_
  · repeat' (first | exact AllP.n | exact trivial | exact DrawB.mk (by decide +kernel) | exact fun _ => rfl | refine AllP.c ?_ ?_)
    all_goals (try dsimp only)
    all_goals first | exact rfl | first | omega | exact at_tr _ _ (by omega) | exact at_s _ _ (by omega) | exact dt (by omega) | exact df (by omega) | exact decide_eq_true (by omega) | exact decide_eq_false (by omega) | exact bts_t (by assumption) | exact bts_f (by assumption) | (unfold InR; omega) | exact hn | trace_state
  refine H.loopI (fun y : Nat × Nat => (limbs y.1).length ≤ l.length ∧ strip (lv l) = strip y.1 ∧ tz (lv l) = y.2 + tz y.1) (fun y => match y with | (u, n) => ⟨[(2, .nils), (3, .i .i64 0), (4, .sl 1 (limbs u).length ((limbs u).map u32)), (5, .i .i64 (n : Nat))], [], 0⟩) (fun y => y.1) (lv l, 0) ⟨hnl, rfl, (Nat.zero_add _).symm⟩ ?_ ?_
  · intro a w s
    refine s.ren hE [] ?_ ?_ rfl
    · repeat' (first | exact trivial | exact rfl | apply And.intro)
    · repeat' (first | exact trivial | exact rfl | apply And.intro)
  rintro ⟨u, n⟩ ⟨h1, h2, h3⟩
  simp only at h1 h2 h3
  by_cases h0 : u = 0
  · subst h0
    have hs := strip_stop (v := 0) (.inl rfl)
    refine H.go 60 [] [(12, false)] [] rfl ?_ ?_
    · repeat' (first | exact AllP.n | exact trivial | exact DrawB.mk (by decide +kernel) | exact fun _ => rfl | refine AllP.c ?_ ?_)
      all_goals (try dsimp only)
      all_goals first | exact rfl | first | omega | exact at_tr _ _ (by omega) | exact at_s _ _ (by omega) | exact dt (by omega) | exact df (by omega) | exact decide_eq_true (by omega) | exact decide_eq_false (by omega) | exact bts_t (by assumption) | exact bts_f (by assumption) | (unfold InR; omega) | (rw [limbs_zero]; rfl) | trace_state
    refine H.go 60 [] [] [] rfl ?_ ?_
    · repeat' (first | exact AllP.n | exact trivial | exact DrawB.mk (by decide +kernel) | exact fun _ => rfl | refine AllP.c ?_ ?_)
      all_goals (try dsimp only)
      all_goals first | exact rfl | first | omega | exact at_tr _ _ (by omega) | exact at_s _ _ (by omega) | exact dt (by omega) | exact df (by omega) | exact decide_eq_true (by omega) | exact decide_eq_false (by omega) | exact bts_t (by assumption) | exact bts_f (by assumption) | (unfold InR; omega) | trace_state
    refine ⟨_, _, rfl, ?_, ?_⟩
    · repeat' (first | exact AllP.n | exact trivial | exact DrawB.mk (by decide +kernel) | exact fun _ => rfl | refine AllP.c ?_ ?_)
      all_goals (try dsimp only)
      all_goals first | exact rfl | first | omega | exact at_tr _ _ (by omega) | exact at_s _ _ (by omega) | exact dt (by omega) | exact df (by omega) | exact decide_eq_true (by omega) | exact decide_eq_false (by omega) | exact bts_t (by assumption) | exact bts_f (by assumption) | (unfold InR; omega) | trace_state
    · rw [h2, h3, hs.1, hs.2]
      exact .refl _
  · have hpos : 0 < (limbs u).length := by rw [limbs_pos h0]; simp
    have hc := rsmall_n u 10 (by omega) (by omega) (by omega)
    by_cases hr : u % 10 = 0
    · have hs := strip_step h0 hr
      rw [hr] at hc
      refine H.go 60 [(4, [(1, .res (.ret (.tup [.sl 1 (limbs (u / 10)).length ((limbs (u / 10)).map u32), u32 0])))])] [(12, true)] [] rfl ?_ ?_
      · repeat' (first | exact AllP.n | exact trivial | exact DrawB.mk (by decide +kernel) | exact fun _ => rfl | refine AllP.c ?_ ?_)
        all_goals (try dsimp only)
        all_goals first | exact rfl | first | omega | exact at_tr _ _ (by omega) | exact at_s _ _ (by omega) | exact dt (by omega) | exact df (by omega) | exact decide_eq_true (by omega) | exact decide_eq_false (by omega) | exact bts_t (by assumption) | exact bts_f (by assumption) | (unfold InR; omega) | exact hc | trace_state
      refine loopN (u / 10, n + 1) ⟨Nat.le_trans (limbs_div_len 10 u (by omega)) h1, by rw [h2, hs.1], by show tz (lv l) = n + 1 + tz (u / 10); rw [h3, hs.2]; omega⟩ (by show u / 10 < u; omega) fun a w s => s.ren hE [] ?_ ?_ rfl
      · repeat' (first | exact trivial | exact rfl | apply And.intro)
      · repeat' (first | exact trivial | exact rfl | apply And.intro)
    · have hs := strip_stop (v := u) (.inr hr)
      refine H.go 60 [(4, [(1, .res (.ret (.tup [.sl 1 (limbs (u / 10)).length ((limbs (u / 10)).map u32), u32 (u % 10)])))])] [(12, true), (19, true)] [] rfl ?_ ?_
      · repeat' (first | exact AllP.n | exact trivial | exact DrawB.mk (by decide +kernel) | exact fun _ => rfl | refine AllP.c ?_ ?_)
        all_goals (try dsimp only)
        all_goals first | exact rfl | first | omega | exact at_tr _ _ (by omega) | exact at_s _ _ (by omega) | exact dt (by omega) | exact df (by omega) | exact decide_eq_true (by omega) | exact decide_eq_false (by omega) | exact bts_t (by assumption) | exact bts_f (by assumption) | (unfold InR; omega) | exact hc | (simp [hr]; done) | (simp; omega) | trace_state
      refine H.go 60 [] [] [] rfl ?_ ?_
      · repeat' (first | exact AllP.n | exact trivial | exact DrawB.mk (by decide +kernel) | exact fun _ => rfl | refine AllP.c ?_ ?_)
        all_goals (try dsimp only)
        all_goals first | exact rfl | first | omega | exact at_tr _ _ (by omega) | exact at_s _ _ (by omega) | exact dt (by omega) | exact df (by omega) | exact decide_eq_true (by omega) | exact decide_eq_false (by omega) | exact bts_t (by assumption) | exact bts_f (by assumption) | (unfold InR; omega) | trace_state
      refine ⟨_, _, rfl, ?_, ?_⟩
      · repeat' (first | exact AllP.n | exact trivial | exact DrawB.mk (by decide +kernel) | exact fun _ => rfl | refine AllP.c ?_ ?_)
        all_goals (try dsimp only)
        all_goals first | exact rfl | first | omega | exact at_tr _ _ (by omega) | exact at_s _ _ (by omega) | exact dt (by omega) | exact df (by omega) | exact decide_eq_true (by omega) | exact decide_eq_false (by omega) | exact bts_t (by assumption) | exact bts_f (by assumption) | (unfold InR; omega) | trace_state
      · rw [h2, h3, hs.1, hs.2]
        exact .refl _
end Go.Px
end

section
namespace Go.Px
open Go.RowKit

theorem or64 (r x : Nat) (hr : r < 4294967296) (hx : x < 4294967296) : bits2 .or .u64 ((r : Int) * 4294967296) (x : Int) = ((r * 4294967296 + x : Nat) : Int) := by
  have e1 : ((r : Int) * 4294967296) = ((r * 4294967296 : Nat) : Int) := by omega
  rw [e1]
  have h1 : r * 4294967296 < 18446744073709551616 := by omega
  have h2 : x < 18446744073709551616 := by omega
  have e2 : r * 4294967296 ||| x = r * 4294967296 + x := by
    have := Nat.two_pow_add_eq_or_of_lt (i := 32) (b := x) hx r
    simp only [Nat.reducePow] at this
    rw [Nat.mul_comm]
    exact this.symm
  have e3 : (BitVec.ofInt IntKind.u64.bits ((r * 4294967296 : Nat) : Int) ||| BitVec.ofInt IntKind.u64.bits (x : Int)).toNat = r * 4294967296 + x := by
    generalize r * 4294967296 = y at *
    rw [BitVec.toNat_or, BitVec.ofInt_natCast, BitVec.ofInt_natCast, BitVec.toNat_ofNat, BitVec.toNat_ofNat]
    simp only [IntKind.bits, Nat.reducePow]
    rw [Nat.mod_eq_of_lt h1, Nat.mod_eq_of_lt h2, e2]
  show IntKind.wrap .u64 (((BitVec.ofInt IntKind.u64.bits ((r * 4294967296 : Nat) : Int) ||| BitVec.ofInt IntKind.u64.bits (x : Int)).toNat : Nat) : Int) = _
  rw [e3]
  exact wrapU64 (by omega) (by omega)
theorem small_ct (l : List Nat) (b : Nat) (hb : 0 < b) (hb2 : b < 4294967296) (hl : l.length < 2^40) (hx : ∀ x ∈ l, x < 4294967296) : Pure Go.Proofs.Tryz.prog 243 [.sl 1 l.length (l.map u32), u32 b] (.ret (.tup [.sl 1 (norm (qd b l).1).length ((norm (qd b l).1).map u32), u32 (qd b l).2])) := by
  refine Pure.body tys_valid (fn := Go.Proofs.Tryz.f243) (by kernel_rfl) rfl (by kernel_rfl) rfl ?_
  intro w ok giv E0 _ hE
  refine H.go 40 [] [] dr243 rfl ?_ ?_
  · repeat' (first | exact AllP.n | exact trivial | exact DrawB.mk (by decide +kernel) | exact fun _ => rfl | refine AllP.c ?_ ?_)
    all_goals (try dsimp only)
    all_goals first | exact rfl | first | omega | exact at_tr _ _ (by omega) | exact at_s _ _ (by omega) | exact dt (by omega) | exact df (by omega) | exact decide_eq_true (by omega) | exact decide_eq_false (by omega) | exact bts_t (by assumption) | exact bts_f (by assumption) | (unfold InR; omega) | (simp; omega) | trace_state
  refine H.loopI (fun y : SY => y.m ≤ l.length ∧ y.r = (qd b (l.drop y.m)).2 ∧ y.cs = List.replicate y.m (u32 0) ++ (qd b (l.drop y.m)).1.map u32) (fun y => match y with | ⟨m, r, cs⟩ => ⟨[(0, .sl 1 l.length (l.map u32)), (1, u32 b), (4, .nils), (5, .i .u32 0), (6, .os 0 0 l.length), (7, .i .u64 (r : Nat)), (8, .i .i64 ((m : Int) - 1))],
    [(0, ⟨159, 1, cs, 0, true, false, false⟩)], 0⟩) (fun y => y.m) ⟨l.length, 0, List.replicate l.length (u32 0)⟩ ⟨Nat.le_refl _, by simp [qd], by simp [qd]⟩ ?_ ?_
  · intro a w s
    refine s.ren hE [] ?_ ?_ rfl
    · repeat' (first | exact trivial | exact rfl | apply And.intro)
    · repeat' (first | exact trivial | exact rfl | apply And.intro)
  rintro ⟨m, r, cs⟩ ⟨hm, hr, hcs⟩
  simp only at hm hr hcs
  have hrb : r < b := by rw [hr]; exact qd_lt b hb _
  have hcl : cs.length = l.length := by rw [hcs]; simp [qd_len]; omega
  rcases Nat.eq_zero_or_pos m with h0 | h0
  · subst h0
    rw [List.drop_zero] at hr hcs
    simp only [List.replicate_zero, List.nil_append] at hcs
    subst hcs hr
    refine H.go 60 [] [(16, false)] dr243 rfl ?_ ?_
    · repeat' (first | exact AllP.n | exact trivial | exact DrawB.mk (by decide +kernel) | exact fun _ => rfl | refine AllP.c ?_ ?_)
      all_goals (try dsimp only)
      all_goals first | exact rfl | first | omega | exact at_tr _ _ (by omega) | exact at_s _ _ (by omega) | exact dt (by omega) | exact df (by omega) | exact decide_eq_true (by omega) | exact decide_eq_false (by omega) | exact bts_t (by assumption) | exact bts_f (by assumption) | (unfold InR; omega) | trace_state
    have hn := norm_ct (qd b l).1 (by rw [qd_len]; exact hl)
    rw [qd_len] at hn
    have hqlt := qd_lt b hb l
    have w1 : IntKind.wrap .u32 (((qd b l).2 : Nat) : Int) = ((qd b l).2 : Nat) := wrapU32 (by omega) (by omega)
    refine H.go 60 [(9, [(1, .res (.ret (.sl 1 (norm (qd b l).1).length ((norm (qd b l).1).map u32)))), (3, .val (u32 (qd b l).2))])] [] dr243 rfl ?_ ?_
    · repeat' (first | exact AllP.n | exact trivial | exact DrawB.mk (by decide +kernel) | exact fun _ => rfl | refine AllP.c ?_ ?_)
      all_goals (try dsimp only)
      all_goals first | exact rfl | first | omega | exact at_tr _ _ (by omega) | exact at_s _ _ (by omega) | exact dt (by omega) | exact df (by omega) | exact decide_eq_true (by omega) | exact decide_eq_false (by omega) | exact bts_t (by assumption) | exact bts_f (by assumption) | (unfold InR; omega) | exact hn | (refine ⟨trivial, ?_⟩; rw [w1]; rfl) | (simp [Root.idle, mulN_eq, qd_len]; done) | trace_state
    refine ⟨_, _, rfl, ?_, ?_⟩
    · repeat' (first | exact AllP.n | exact trivial | exact DrawB.mk (by decide +kernel) | exact fun _ => rfl | refine AllP.c ?_ ?_)
      all_goals (try dsimp only)
      all_goals first | exact rfl | first | omega | exact at_tr _ _ (by omega) | exact at_s _ _ (by omega) | exact dt (by omega) | exact df (by omega) | exact decide_eq_true (by omega) | exact decide_eq_false (by omega) | exact bts_t (by assumption) | exact bts_f (by assumption) | (unfold InR; omega) | trace_state
    · exact .refl _
  · have hlt : m - 1 < l.length := by omega
    have hxl : l[m-1] < 4294967296 := hx _ (List.getElem_mem _)
    have hld : ((l.map u32).drop (mulN ((m : Int) - 1).toNat 1))[0]? = some (u32 l[m-1]) := by
      rw [show ((m : Int) - 1) = ((m - 1 : Nat) : Int) by omega]
      exact at_u l (m - 1) hlt
    have hc2 : r * 4294967296 + l[m-1] < b * 4294967296 := by
      have : (r + 1) * 4294967296 ≤ b * 4294967296 := Nat.mul_le_mul_right _ hrb
      omega
    have hq2 : (r * 4294967296 + l[m-1]) / b < 4294967296 := Nat.div_lt_of_lt_mul hc2
    have hr2 : (r * 4294967296 + l[m-1]) % b < b := Nat.mod_lt _ hb
    have wb : IntKind.wrap .u64 (b : Int) = b := wrapU64 (by omega) (by omega)
    have wx : IntKind.wrap .u64 (l[m-1] : Int) = l[m-1] := wrapU64 (by omega) (by omega)
    have p32 : (2 : Int) ^ min (Int.toNat 32) IntKind.u64.bits = 4294967296 := by decide
    have e7 : D.i .u64 (bits2 .or .u64 (IntKind.wrap .u64 ((r : Int) * 2 ^ min (Int.toNat 32) IntKind.u64.bits)) (IntKind.wrap .u64 (l[m-1] : Int))) = D.i .u64 ((r * 4294967296 + l[m-1] : Nat) : Int) := by
      rw [wx, p32, wrapU64 (n := (r : Int) * 4294967296) (by omega) (by omega)]
      congr 1
      exact or64 r l[m-1] (by omega) hxl
    have eq : D.i .u32 (IntKind.wrap .u32 (IntKind.wrap .u64 (((r * 4294967296 + l[m-1] : Nat) : Int).tdiv (IntKind.wrap .u64 (b : Int))))) = u32 ((r * 4294967296 + l[m-1]) / b) := by
      have q0 : (0 : Int) ≤ (((r * 4294967296 + l[m-1]) / b : Nat) : Int) := Int.natCast_nonneg _
      have q1 : (((r * 4294967296 + l[m-1]) / b : Nat) : Int) < 4294967296 := Int.ofNat_lt.2 hq2
      rw [wb, ← Int.ofNat_tdiv, wrapU64 q0 (Int.lt_trans q1 (by decide)), wrapU32 q0 q1]
      rfl
    have em : D.i .u64 (((r * 4294967296 + l[m-1] : Nat) : Int).tmod (IntKind.wrap .u64 (b : Int))) = D.i .u64 (((r * 4294967296 + l[m-1]) % b : Nat) : Int) := by
      rw [wb, ← Int.ofNat_tmod]
    have nb : IntKind.wrap .u64 (b : Int) ≠ 0 := by rw [wb]; omega
    have tn : ((m : Int) - 1).toNat = m - 1 := by omega
    refine H.go 60 [(6, [(5, .cell (u32 l[m-1])), (7, .val (.i .u64 ((r * 4294967296 + l[m-1] : Nat) : Int)))]), (7, [(6, .val (u32 ((r * 4294967296 + l[m-1]) / b)))]), (8, [(3, .val (.i .u64 (((r * 4294967296 + l[m-1]) % b : Nat) : Int)))]), (5, [(1, .val (.i .i64 (((m - 1 : Nat) : Int) - 1)))])] [(16, true)] dr243 rfl ?_ ?_
    · repeat' (first | exact AllP.n | exact trivial | exact DrawB.mk (by decide +kernel) | exact fun _ => rfl | refine AllP.c ?_ ?_)
      all_goals (try dsimp only)
      all_goals first | exact rfl | first | omega | exact at_tr _ _ (by omega) | exact at_s _ _ (by omega) | exact dt (by omega) | exact df (by omega) | exact decide_eq_true (by omega) | exact decide_eq_false (by omega) | exact bts_t (by assumption) | exact bts_f (by assumption) | (unfold InR; omega) | exact hld | exact ⟨trivial, e7⟩ | exact ⟨trivial, eq⟩ | exact ⟨nb, em⟩ | exact nb | (refine ⟨by unfold InR; omega, ?_⟩; congr 1; omega) | (simp only [mulN_eq, addN_eq, tn]; omega) | trace_state
    refine loopN ⟨m - 1, (r * 4294967296 + l[m-1]) % b, cs.set (mulN (addN 0 ((m : Int) - 1).toNat) 1) (u32 ((r * 4294967296 + l[m-1]) / b))⟩ ⟨by show m - 1 ≤ l.length; omega, ?_, ?_⟩ (by show m - 1 < m; omega) fun a w s => s.ren hE [] ?_ ?_ rfl
    · show _ = (qd b (l.drop (m - 1))).2
      rw [drop_cons hlt, show m - 1 + 1 = m by omega]
      simp only [qd, ← hr]
    · show cs.set _ _ = List.replicate (m - 1) (u32 0) ++ (qd b (l.drop (m - 1))).1.map u32
      rw [drop_cons hlt, show m - 1 + 1 = m by omega, hcs]
      simp only [qd, List.map_cons, ← hr, mulN_eq, addN_eq, tn, Nat.zero_add, Nat.mul_one]
      have := set_repl (m - 1) (u32 0) (u32 ((r * 4294967296 + l[m-1]) / b)) ((qd b (l.drop m)).1.map u32)
      rw [show m - 1 + 1 = m by omega] at this
      exact this
    · repeat' (first | exact trivial | exact rfl | apply And.intro)
    · repeat' (first | exact trivial | exact rfl | apply And.intro)
theorem small_n (u b : Nat) (hb : 0 < b) (hb2 : b < 4294967296) (hl : (limbs u).length < 2^40) :
    Pure Go.Proofs.Tryz.prog 243 [.sl 1 (limbs u).length ((limbs u).map u32), u32 b] (.ret (.tup [.sl 1 (limbs (u / b)).length ((limbs (u / b)).map u32), u32 (u % b)])) := by
  have h := small_ct (limbs u) b hb hb2 hl (limbs_lt u)
  rw [(qd_limbs b u hb).1, (qd_limbs b u hb).2] at h
  exact h
theorem trim_ct (l : List Nat) (hl : l.length < 2^40) (hx : ∀ x ∈ l, x < 4294967296) : Pure Go.Proofs.Tryz.prog 221 [.sl 1 l.length (l.map u32)] (.ret (.tup [.sl 1 (limbs (strip (lv l))).length ((limbs (strip (lv l))).map u32), .i .i64 (tz (lv l) : Nat)])) := by
  have htz := tz_lt l hx
  have hn := norm_ct l hl
  have hnl := norm_le l
  rw [norm_eq l hx] at hn hnl
  refine Pure.body tys_valid (fn := Go.Proofs.Tryz.f221) (by kernel_rfl) rfl (by kernel_rfl) rfl ?_
  intro w ok giv E0 _ hE
  refine H.go 60 [(1, [(1, .res (.ret (.sl 1 (limbs (lv l)).length ((limbs (lv l)).map u32))))])] [] [] rfl ?_ ?_
  · repeat' (first | exact AllP.n | exact trivial | exact DrawB.mk (by decide +kernel) | exact fun _ => rfl | refine AllP.c ?_ ?_)
    all_goals (try dsimp only)
    all_goals first | exact rfl | first | omega | exact at_tr _ _ (by omega) | exact at_s _ _ (by omega) | exact dt (by omega) | exact df (by omega) | exact decide_eq_true (by omega) | exact decide_eq_false (by omega) | exact bts_t (by assumption) | exact bts_f (by assumption) | (unfold InR; omega) | exact hn | trace_state
  refine H.loopI (fun y : Nat × Nat => (limbs y.1).length ≤ l.length ∧ strip (lv l) = strip y.1 ∧ tz (lv l) = y.2 + tz y.1) (fun y => match y with | (u, n) => ⟨[(2, .nils), (3, .i .i64 0), (0, .sl 1 (limbs u).length ((limbs u).map u32)), (4, .i .i64 (n : Nat))], [], 0⟩) (fun y => y.1) (lv l, 0) ⟨hnl, rfl, (Nat.zero_add _).symm⟩ ?_ ?_
  · intro a w s
    refine s.ren hE [] ?_ ?_ rfl
    · repeat' (first | exact trivial | exact rfl | apply And.intro)
    · repeat' (first | exact trivial | exact rfl | apply And.intro)
  rintro ⟨u, n⟩ ⟨h1, h2, h3⟩
  simp only at h1 h2 h3
  by_cases h0 : u = 0
  · subst h0
    have hs := strip_stop (v := 0) (.inl rfl)
    refine H.go 60 [] [(11, false)] [] rfl ?_ ?_
    · repeat' (first | exact AllP.n | exact trivial | exact DrawB.mk (by decide +kernel) | exact fun _ => rfl | refine AllP.c ?_ ?_)
      all_goals (try dsimp only)
      all_goals first | exact rfl | first | omega | exact at_tr _ _ (by omega) | exact at_s _ _ (by omega) | exact dt (by omega) | exact df (by omega) | exact decide_eq_true (by omega) | exact decide_eq_false (by omega) | exact bts_t (by assumption) | exact bts_f (by assumption) | (unfold InR; omega) | (rw [limbs_zero]; rfl) | trace_state
    refine H.go 60 [] [] [] rfl ?_ ?_
    · repeat' (first | exact AllP.n | exact trivial | exact DrawB.mk (by decide +kernel) | exact fun _ => rfl | refine AllP.c ?_ ?_)
      all_goals (try dsimp only)
      all_goals first | exact rfl | first | omega | exact at_tr _ _ (by omega) | exact at_s _ _ (by omega) | exact dt (by omega) | exact df (by omega) | exact decide_eq_true (by omega) | exact decide_eq_false (by omega) | exact bts_t (by assumption) | exact bts_f (by assumption) | (unfold InR; omega) | trace_state
    refine ⟨_, _, rfl, ?_, ?_⟩
    · repeat' (first | exact AllP.n | exact trivial | exact DrawB.mk (by decide +kernel) | exact fun _ => rfl | refine AllP.c ?_ ?_)
      all_goals (try dsimp only)
      all_goals first | exact rfl | first | omega | exact at_tr _ _ (by omega) | exact at_s _ _ (by omega) | exact dt (by omega) | exact df (by omega) | exact decide_eq_true (by omega) | exact decide_eq_false (by omega) | exact bts_t (by assumption) | exact bts_f (by assumption) | (unfold InR; omega) | trace_state
    · rw [h2, h3, hs.1, hs.2]
      exact .refl _
  · have hpos : 0 < (limbs u).length := by rw [limbs_pos h0]; simp
    have hc := small_n u 10 (by omega) (by omega) (by omega)
    by_cases hr : u % 10 = 0
    · have hs := strip_step h0 hr
      rw [hr] at hc
      refine H.go 60 [(4, [(1, .res (.ret (.tup [.sl 1 (limbs (u / 10)).length ((limbs (u / 10)).map u32), u32 0])))])] [(11, true)] [] rfl ?_ ?_
      · repeat' (first | exact AllP.n | exact trivial | exact DrawB.mk (by decide +kernel) | exact fun _ => rfl | refine AllP.c ?_ ?_)
        all_goals (try dsimp only)
        all_goals first | exact rfl | first | omega | exact at_tr _ _ (by omega) | exact at_s _ _ (by omega) | exact dt (by omega) | exact df (by omega) | exact decide_eq_true (by omega) | exact decide_eq_false (by omega) | exact bts_t (by assumption) | exact bts_f (by assumption) | (unfold InR; omega) | exact hc | trace_state
      refine loopN (u / 10, n + 1) ⟨Nat.le_trans (limbs_div_len 10 u (by omega)) h1, by rw [h2, hs.1], by show tz (lv l) = n + 1 + tz (u / 10); rw [h3, hs.2]; omega⟩ (by show u / 10 < u; omega) fun a w s => s.ren hE [] ?_ ?_ rfl
      · repeat' (first | exact trivial | exact rfl | apply And.intro)
      · repeat' (first | exact trivial | exact rfl | apply And.intro)
    · have hs := strip_stop (v := u) (.inr hr)
      refine H.go 60 [(4, [(1, .res (.ret (.tup [.sl 1 (limbs (u / 10)).length ((limbs (u / 10)).map u32), u32 (u % 10)])))])] [(11, true), (18, true)] [] rfl ?_ ?_
      · repeat' (first | exact AllP.n | exact trivial | exact DrawB.mk (by decide +kernel) | exact fun _ => rfl | refine AllP.c ?_ ?_)
        all_goals (try dsimp only)
        all_goals first | exact rfl | first | omega | exact at_tr _ _ (by omega) | exact at_s _ _ (by omega) | exact dt (by omega) | exact df (by omega) | exact decide_eq_true (by omega) | exact decide_eq_false (by omega) | exact bts_t (by assumption) | exact bts_f (by assumption) | (unfold InR; omega) | exact hc | (simp [hr]; done) | (simp; omega) | trace_state
      refine H.go 60 [] [] [] rfl ?_ ?_
      · repeat' (first | exact AllP.n | exact trivial | exact DrawB.mk (by decide +kernel) | exact fun _ => rfl | refine AllP.c ?_ ?_)
        all_goals (try dsimp only)
        all_goals first | exact rfl | first | omega | exact at_tr _ _ (by omega) | exact at_s _ _ (by omega) | exact dt (by omega) | exact df (by omega) | exact decide_eq_true (by omega) | exact decide_eq_false (by omega) | exact bts_t (by assumption) | exact bts_f (by assumption) | (unfold InR; omega) | trace_state
      refine ⟨_, _, rfl, ?_, ?_⟩
      · repeat' (first | exact AllP.n | exact trivial | exact DrawB.mk (by decide +kernel) | exact fun _ => rfl | refine AllP.c ?_ ?_)
        all_goals (try dsimp only)
        all_goals first | exact rfl | first | omega | exact at_tr _ _ (by omega) | exact at_s _ _ (by omega) | exact dt (by omega) | exact df (by omega) | exact decide_eq_true (by omega) | exact decide_eq_false (by omega) | exact bts_t (by assumption) | exact bts_f (by assumption) | (unfold InR; omega) | trace_state
      · rw [h2, h3, hs.1, hs.2]
        exact .refl _
end Go.Px
end

section
namespace Go.Px
open Go.RowKit

def encN (n : Nm) : List D := [.b n.neg, .sl 1 n.m.length (n.m.map u32), .i .i64 n.e]
/-- Numbers that may be. -/
def NOK (n : Nm) : Prop := n = ⟨false, [], 0⟩ ∨ ∃ v, v ≠ 0 ∧ v % 10 ≠ 0 ∧ n.m = limbs v ∧ n.m.length ≤ 90 ∧ -1200 ≤ n.e ∧ n.e ≤ 1200
theorem limbs_top (v : Nat) (h : v ≠ 0) : ∀ (hl : (limbs v).length - 1 < (limbs v).length), (limbs v)[(limbs v).length - 1] ≠ 0 := by
  intro hl hz
  have h1 := norm_zero (limbs v) _ hl hz
  have h2 : (limbs v).length - 1 + 1 = (limbs v).length := by omega
  rw [h2, List.take_length, limbs_norm] at h1
  have h3 := congrArg List.length h1
  have h4 := norm_le ((limbs v).take ((limbs v).length - 1))
  rw [← h3, List.length_take] at h4
  omega
theorem check_ok (n : Nm) (h : NOK n) : Pure Go.Proofs.Tryz.prog 193 [.ag (encN n)] (.ret (.b true)) := by
  refine Pure.body tys_valid (fn := Go.Proofs.Tryz.f193) (by kernel_rfl) rfl (by kernel_rfl) rfl ?_
  intro w ok giv E0 _ hE
  rcases h with h | ⟨v, h0, h10, hm, hl, he1, he2⟩
  · subst h
    refine H.go 60 [] [] [] rfl ?_ ?_
    · repeat' (first | exact AllP.n | exact trivial | exact DrawB.mk (by decide +kernel) | exact fun _ => rfl | refine AllP.c ?_ ?_)
      all_goals (try dsimp only)
      all_goals first | exact rfl | first | omega | exact at_tr _ _ (by omega) | exact at_s _ _ (by omega) | exact dt (by omega) | exact df (by omega) | exact decide_eq_true (by omega) | exact decide_eq_false (by omega) | exact bts_t (by assumption) | exact bts_f (by assumption) | (unfold InR; omega) | trace_state
    refine ⟨_, _, rfl, ?_, ?_⟩
    · repeat' (first | exact AllP.n | exact trivial | exact DrawB.mk (by decide +kernel) | exact fun _ => rfl | refine AllP.c ?_ ?_)
      all_goals (try dsimp only)
      all_goals first | exact rfl | first | omega | exact at_tr _ _ (by omega) | exact at_s _ _ (by omega) | exact dt (by omega) | exact df (by omega) | exact decide_eq_true (by omega) | exact decide_eq_false (by omega) | exact bts_t (by assumption) | exact bts_f (by assumption) | (unfold InR; omega) | trace_state
    · exact .refl _
  · have hp : 0 < n.m.length := by rw [hm, limbs_pos h0]; simp
    have hlt : n.m.length - 1 < n.m.length := by omega
    have hld : ((n.m.map u32).drop (mulN ((n.m.length : Int) - 1).toNat 1))[0]? = some (u32 n.m[n.m.length - 1]) := by
      rw [show ((n.m.length : Int) - 1) = ((n.m.length - 1 : Nat) : Int) by omega]
      exact at_u n.m _ hlt
    have htop : n.m[n.m.length - 1] ≠ 0 := by
      have := limbs_top v h0
      rw [← hm] at this
      exact this _
    have hc := trim_ct n.m (by omega) (by rw [hm]; exact limbs_lt v)
    rw [hm, lv_limbs, (strip_stop (.inr h10)).1, (strip_stop (.inr h10)).2, ← hm] at hc
    refine H.go 60 [(4, [(2, .gd false), (8, .cell (u32 n.m[n.m.length - 1])), (11, .gd false), (16, .gd false)]), (6, [(2, .res (.ret (.tup [.sl 1 n.m.length (n.m.map u32), .i .i64 0])))])] [(10, false), (39, false)] [] rfl ?_ ?_
    · repeat' (first | exact AllP.n | exact trivial | exact DrawB.mk (by decide +kernel) | exact fun _ => rfl | refine AllP.c ?_ ?_)
      all_goals (try dsimp only)
      all_goals first | exact rfl | first | omega | exact at_tr _ _ (by omega) | exact at_s _ _ (by omega) | exact dt (by omega) | exact df (by omega) | exact decide_eq_true (by omega) | exact decide_eq_false (by omega) | exact bts_t (by assumption) | exact bts_f (by assumption) | (unfold InR; omega) | exact hc | exact hld | (refine ⟨trivial, ?_⟩; simp; omega) | (simp; omega) | trace_state
    refine ⟨_, _, rfl, ?_, ?_⟩
    · repeat' (first | exact AllP.n | exact trivial | exact DrawB.mk (by decide +kernel) | exact fun _ => rfl | refine AllP.c ?_ ?_)
      all_goals (try dsimp only)
      all_goals first | exact rfl | first | omega | exact at_tr _ _ (by omega) | exact at_s _ _ (by omega) | exact dt (by omega) | exact df (by omega) | exact decide_eq_true (by omega) | exact decide_eq_false (by omega) | exact bts_t (by assumption) | exact bts_f (by assumption) | (unfold InR; omega) | trace_state
    · exact .refl _
theorem rcheck_ok (n : Nm) (h : NOK n) : Pure Go.Proofs.Tryz.prog 167 [.ag (encN n)] (.ret (.b true)) := by
  refine Pure.body tys_valid (fn := Go.Proofs.Tryz.f167) (by kernel_rfl) rfl (by kernel_rfl) rfl ?_
  intro w ok giv E0 _ hE
  rcases h with h | ⟨v, h0, h10, hm, hl, he1, he2⟩
  · subst h
    refine H.go 60 [] [] [] rfl ?_ ?_
    · repeat' (first | exact AllP.n | exact trivial | exact DrawB.mk (by decide +kernel) | exact fun _ => rfl | refine AllP.c ?_ ?_)
      all_goals (try dsimp only)
      all_goals first | exact rfl | first | omega | exact at_tr _ _ (by omega) | exact at_s _ _ (by omega) | exact dt (by omega) | exact df (by omega) | exact decide_eq_true (by omega) | exact decide_eq_false (by omega) | exact bts_t (by assumption) | exact bts_f (by assumption) | (unfold InR; omega) | trace_state
    refine ⟨_, _, rfl, ?_, ?_⟩
    · repeat' (first | exact AllP.n | exact trivial | exact DrawB.mk (by decide +kernel) | exact fun _ => rfl | refine AllP.c ?_ ?_)
      all_goals (try dsimp only)
      all_goals first | exact rfl | first | omega | exact at_tr _ _ (by omega) | exact at_s _ _ (by omega) | exact dt (by omega) | exact df (by omega) | exact decide_eq_true (by omega) | exact decide_eq_false (by omega) | exact bts_t (by assumption) | exact bts_f (by assumption) | (unfold InR; omega) | trace_state
    · exact .refl _
  · have hp : 0 < n.m.length := by rw [hm, limbs_pos h0]; simp
    have hlt : n.m.length - 1 < n.m.length := by omega
    have hld : ((n.m.map u32).drop (mulN ((n.m.length : Int) - 1).toNat 1))[0]? = some (u32 n.m[n.m.length - 1]) := by
      rw [show ((n.m.length : Int) - 1) = ((n.m.length - 1 : Nat) : Int) by omega]
      exact at_u n.m _ hlt
    have htop : n.m[n.m.length - 1] ≠ 0 := by
      have := limbs_top v h0
      rw [← hm] at this
      exact this _
    have hc := rsmall_n v 10 (by omega) (by omega) (by rw [← hm]; omega)
    rw [← hm] at hc
    refine H.go 60 [(4, [(2, .gd false), (8, .cell (u32 n.m[n.m.length - 1])), (11, .gd false), (16, .gd false)]), (6, [(2, .res (.ret (.tup [.sl 1 (limbs (v / 10)).length ((limbs (v / 10)).map u32), u32 (v % 10)])))]), (7, [(1, .gd true)])] [(10, false), (39, false)] [] rfl ?_ ?_
    · repeat' (first | exact AllP.n | exact trivial | exact DrawB.mk (by decide +kernel) | exact fun _ => rfl | refine AllP.c ?_ ?_)
      all_goals (try dsimp only)
      all_goals first | exact rfl | first | omega | exact at_tr _ _ (by omega) | exact at_s _ _ (by omega) | exact dt (by omega) | exact df (by omega) | exact decide_eq_true (by omega) | exact decide_eq_false (by omega) | exact bts_t (by assumption) | exact bts_f (by assumption) | (unfold InR; omega) | exact hc | exact hld | (refine ⟨trivial, ?_⟩; simp; omega) | (simp; omega) | trace_state
    refine ⟨_, _, rfl, ?_, ?_⟩
    · repeat' (first | exact AllP.n | exact trivial | exact DrawB.mk (by decide +kernel) | exact fun _ => rfl | refine AllP.c ?_ ?_)
      all_goals (try dsimp only)
      all_goals first | exact rfl | first | omega | exact at_tr _ _ (by omega) | exact at_s _ _ (by omega) | exact dt (by omega) | exact df (by omega) | exact decide_eq_true (by omega) | exact decide_eq_false (by omega) | exact bts_t (by assumption) | exact bts_f (by assumption) | (unfold InR; omega) | trace_state
    · exact .refl _
end Go.Px
end

section
namespace Go.Px
open Go.RowKit

theorem strip_ok {v : Nat} (h : v ≠ 0) : strip v ≠ 0 ∧ strip v % 10 ≠ 0 ∧ strip v ≤ v := by
  induction v using Nat.strongRecOn with
  | _ v ih =>
    by_cases h2 : v % 10 = 0
    · rw [(strip_step h h2).1]
      have := ih (v / 10) (by omega) (by omega)
      exact ⟨this.1, this.2.1, by omega⟩
    · rw [(strip_stop (.inr h2)).1]
      exact ⟨h, h2, Nat.le_refl _⟩
theorem limbs_mono : ∀ {a b : Nat}, a ≤ b → (limbs a).length ≤ (limbs b).length := by
  intro a
  induction a using Nat.strongRecOn with
  | _ a ih =>
    intro b hab
    by_cases h : a = 0
    · subst h; rw [limbs_zero]; simp
    · rw [limbs_pos h, limbs_pos (by omega : b ≠ 0)]
      have := ih (a / 4294967296) (by omega) (b := b / 4294967296) (by omega)
      simp only [List.length_cons]
      omega
theorem limbs_lv_len (l : List Nat) (hx : ∀ x ∈ l, x < 4294967296) : (limbs (lv l)).length ≤ l.length := by
  rw [← norm_eq l hx]; exact norm_le l
def num0 : Nm := ⟨false, [], 0⟩
def mkN (neg : Bool) (v : Nat) (e : Int) : Nm := if v = 0 then num0 else ⟨neg, limbs (strip v), e + tz v⟩
theorem mkN_ok (neg : Bool) (l : List Nat) (e : Int) (hl : l.length ≤ 3) (hx : ∀ x ∈ l, x < 4294967296) (h1 : -100 ≤ e) (h2 : e ≤ 100) : NOK (mkN neg (lv l) e) := by
  unfold mkN
  by_cases h : lv l = 0
  · rw [if_pos h]; exact .inl rfl
  · rw [if_neg h]
    have hs := strip_ok h
    have ht := tz_lt l hx
    have hm := limbs_mono hs.2.2
    have hv := limbs_lv_len l hx
    exact .inr ⟨strip (lv l), hs.1, hs.2.1, rfl, by show (limbs _).length ≤ 90; omega, by show -1200 ≤ e + _; omega, by show e + _ ≤ 1200; omega⟩
theorem make_ct (neg : Bool) (l : List Nat) (e : Int) (hl : l.length ≤ 3) (hx : ∀ x ∈ l, x < 4294967296) (h1 : -100 ≤ e) (h2 : e ≤ 100) :
    Pure Go.Proofs.Tryz.prog 142 [.b neg, .sl 1 l.length (l.map u32), .i .i64 e] (.ret (.tup [.ag (encN (mkN neg (lv l) e)), .b true])) := by
  have hc := rtrim_ct l (by omega) hx
  have ht := tz_lt l hx
  refine Pure.body tys_valid (fn := Go.Proofs.Tryz.f142) (by kernel_rfl) rfl (by kernel_rfl) rfl ?_
  intro w ok giv E0 _ hE
  by_cases h : lv l = 0
  · have hs := strip_stop (v := 0) (.inl rfl)
    rw [h, hs.1, hs.2, limbs_zero] at hc
    unfold mkN
    rw [if_pos h]
    refine H.go 60 [(1, [(1, .res (.ret (.tup [.sl 1 0 [], .i .i64 0])))])] [] dr142 rfl ?_ ?_
    · repeat' (first | exact AllP.n | exact trivial | exact DrawB.mk (by decide +kernel) | exact fun _ => rfl | refine AllP.c ?_ ?_)
      all_goals (try dsimp only)
      all_goals first | exact rfl | first | omega | exact at_tr _ _ (by omega) | exact at_s _ _ (by omega) | exact dt (by omega) | exact df (by omega) | exact decide_eq_true (by omega) | exact decide_eq_false (by omega) | exact bts_t (by assumption) | exact bts_f (by assumption) | (unfold InR; omega) | exact hc | trace_state
    refine ⟨_, _, rfl, ?_, ?_⟩
    · repeat' (first | exact AllP.n | exact trivial | exact DrawB.mk (by decide +kernel) | exact fun _ => rfl | refine AllP.c ?_ ?_)
      all_goals (try dsimp only)
      all_goals first | exact rfl | first | omega | exact at_tr _ _ (by omega) | exact at_s _ _ (by omega) | exact dt (by omega) | exact df (by omega) | exact decide_eq_true (by omega) | exact decide_eq_false (by omega) | exact bts_t (by assumption) | exact bts_f (by assumption) | (unfold InR; omega) | trace_state
    · exact .tup (.cons (.ag (.cons (.refl _) (.cons (.nils 1) (.cons (.refl _) .nil)))) (.cons (.refl _) .nil))
  · have hs := strip_ok h
    have hm := limbs_mono hs.2.2
    have hv := limbs_lv_len l hx
    have hp : 0 < (limbs (strip (lv l))).length := by rw [limbs_pos hs.1]; simp
    unfold mkN
    rw [if_neg h]
    refine H.go 60 [(1, [(1, .res (.ret (.tup [.sl 1 (limbs (strip (lv l))).length ((limbs (strip (lv l))).map u32), .i .i64 (tz (lv l) : Nat)])))]), (4, [(3, .gd false), (7, .gd false), (11, .gd false), (15, .gd false), (21, .gd false)])] [(17, false), (45, false)] dr142 rfl ?_ ?_
    · repeat' (first | exact AllP.n | exact trivial | exact DrawB.mk (by decide +kernel) | exact fun _ => rfl | refine AllP.c ?_ ?_)
      all_goals (try dsimp only)
      all_goals first | exact rfl | first | omega | exact at_tr _ _ (by omega) | exact at_s _ _ (by omega) | exact dt (by omega) | exact df (by omega) | exact decide_eq_true (by omega) | exact decide_eq_false (by omega) | exact bts_t (by assumption) | exact bts_f (by assumption) | (unfold InR; omega) | exact hc | (refine ⟨trivial, ?_⟩; simp; omega) | (simp; omega) | trace_state
    refine ⟨_, _, rfl, ?_, ?_⟩
    · repeat' (first | exact AllP.n | exact trivial | exact DrawB.mk (by decide +kernel) | exact fun _ => rfl | refine AllP.c ?_ ?_)
      all_goals (try dsimp only)
      all_goals first | exact rfl | first | omega | exact at_tr _ _ (by omega) | exact at_s _ _ (by omega) | exact dt (by omega) | exact df (by omega) | exact decide_eq_true (by omega) | exact decide_eq_false (by omega) | exact bts_t (by assumption) | exact bts_f (by assumption) | (unfold InR; omega) | trace_state
    · exact .refl _
end Go.Px
end

section
namespace Go.Px
open Go.RowKit

theorem wrapU64_neg {n : Int} (h0 : n < 0) (h1 : -9223372036854775808 ≤ n) : IntKind.wrap .u64 (-(IntKind.wrap .u64 n)) = -n := by
  simp [IntKind.wrap, IntKind.bits, IntKind.signed]
  omega
theorem wrapU32_mod (n : Nat) : IntKind.wrap .u32 (n : Int) = ((n % 4294967296 : Nat) : Int) := by
  simp [IntKind.wrap, IntKind.bits, IntKind.signed]
theorem of_ct (v : Int) (h1 : -4611686018427387904 ≤ v) (h2 : v ≤ 4611686018427387904) : Pure Go.Proofs.Tryz.prog 141 [.i .i64 v] (.ret (.ag (encN (mkN (decide (v < 0)) v.natAbs 0)))) := by
  have hlv : lv [v.natAbs % 4294967296, v.natAbs / 4294967296] = v.natAbs := by simp only [lv]; omega
  have hc : Pure Go.Proofs.Tryz.prog 142 [.b (decide (v < 0)), .sl 1 2 [u32 (v.natAbs % 4294967296), u32 (v.natAbs / 4294967296)], .i .i64 0] (.ret (.tup [.ag (encN (mkN (decide (v < 0)) v.natAbs 0)), .b true])) := by
    have := make_ct (decide (v < 0)) [v.natAbs % 4294967296, v.natAbs / 4294967296] 0 (by simp) (by intro x hx; simp at hx; omega) (by omega) (by omega)
    rw [hlv] at this
    exact this
  have e3 : D.i .u32 (IntKind.wrap .u32 ((v.natAbs : Nat) : Int)) = u32 (v.natAbs % 4294967296) := by rw [wrapU32_mod]; rfl
  have p32 : (2 : Int) ^ min (Int.toNat 32) IntKind.u64.bits = 4294967296 := by decide
  have e4 : D.i .u64 (((v.natAbs : Nat) : Int).fdiv (2 ^ min (Int.toNat 32) IntKind.u64.bits)) = D.i .u64 ((v.natAbs / 4294967296 : Nat) : Int) := by
    rw [p32, Int.fdiv_eq_ediv_of_nonneg _ (by omega)]
    congr 1
  have e5 : D.i .u32 (IntKind.wrap .u32 ((v.natAbs / 4294967296 : Nat) : Int)) = u32 (v.natAbs / 4294967296) := by rw [wrapU32_mod, Nat.mod_eq_of_lt (by omega)]; rfl
  refine Pure.body tys_valid (fn := Go.Proofs.Tryz.f141) (by kernel_rfl) rfl (by kernel_rfl) rfl ?_
  intro w ok giv E0 _ hE
  by_cases hn : v < 0
  · have e1 : D.i .u64 (IntKind.wrap .u64 (0 - IntKind.wrap .u64 v)) = D.i .u64 (v.natAbs : Nat) := by
      rw [Int.zero_sub, wrapU64_neg hn (by omega)]
      congr 1
      omega
    have e2 := e1
    refine H.go 60 [(3, [(1, .val (.i .u64 (v.natAbs : Nat)))]), (4, [(3, .val (u32 (v.natAbs % 4294967296))), (5, .val (.i .u64 (v.natAbs / 4294967296 : Nat))), (6, .val (u32 (v.natAbs / 4294967296))), (8, .res (.ret (.tup [.ag (encN (mkN (decide (v < 0)) v.natAbs 0)), .b true])))])] [(9, true)] dr141 rfl ?_ ?_
    · repeat' (first | exact AllP.n | exact trivial | exact DrawB.mk (by decide +kernel) | exact fun _ => rfl | refine AllP.c ?_ ?_)
      all_goals (try dsimp only)
      all_goals first | exact rfl | first | omega | exact at_tr _ _ (by omega) | exact at_s _ _ (by omega) | exact dt (by omega) | exact df (by omega) | exact decide_eq_true (by omega) | exact decide_eq_false (by omega) | exact bts_t (by assumption) | exact bts_f (by assumption) | (unfold InR; omega) | exact hc | exact ⟨trivial, e1⟩ | exact ⟨trivial, e2⟩ | exact ⟨trivial, e3⟩ | exact ⟨by omega, e4⟩ | exact ⟨trivial, e5⟩ | trace_state
    refine ⟨_, _, rfl, ?_, ?_⟩
    · repeat' (first | exact AllP.n | exact trivial | exact DrawB.mk (by decide +kernel) | exact fun _ => rfl | refine AllP.c ?_ ?_)
      all_goals (try dsimp only)
      all_goals first | exact rfl | first | omega | exact at_tr _ _ (by omega) | exact at_s _ _ (by omega) | exact dt (by omega) | exact df (by omega) | exact decide_eq_true (by omega) | exact decide_eq_false (by omega) | exact bts_t (by assumption) | exact bts_f (by assumption) | (unfold InR; omega) | trace_state
    · exact .refl _
  · have e1 : D.i .u64 (IntKind.wrap .u64 v) = D.i .u64 (v.natAbs : Nat) := by
      rw [wrapU64 (by omega) (by omega)]
      congr 1
      omega
    have e2 := e1
    refine H.go 60 [(1, [(1, .val (.i .u64 (v.natAbs : Nat)))]), (4, [(3, .val (u32 (v.natAbs % 4294967296))), (5, .val (.i .u64 (v.natAbs / 4294967296 : Nat))), (6, .val (u32 (v.natAbs / 4294967296))), (8, .res (.ret (.tup [.ag (encN (mkN (decide (v < 0)) v.natAbs 0)), .b true])))])] [(9, false)] dr141 rfl ?_ ?_
    · repeat' (first | exact AllP.n | exact trivial | exact DrawB.mk (by decide +kernel) | exact fun _ => rfl | refine AllP.c ?_ ?_)
      all_goals (try dsimp only)
      all_goals first | exact rfl | first | omega | exact at_tr _ _ (by omega) | exact at_s _ _ (by omega) | exact dt (by omega) | exact df (by omega) | exact decide_eq_true (by omega) | exact decide_eq_false (by omega) | exact bts_t (by assumption) | exact bts_f (by assumption) | (unfold InR; omega) | exact hc | exact ⟨trivial, e1⟩ | exact ⟨trivial, e2⟩ | exact ⟨trivial, e3⟩ | exact ⟨by omega, e4⟩ | exact ⟨trivial, e5⟩ | trace_state
    refine ⟨_, _, rfl, ?_, ?_⟩
    · repeat' (first | exact AllP.n | exact trivial | exact DrawB.mk (by decide +kernel) | exact fun _ => rfl | refine AllP.c ?_ ?_)
      all_goals (try dsimp only)
      all_goals first | exact rfl | first | omega | exact at_tr _ _ (by omega) | exact at_s _ _ (by omega) | exact dt (by omega) | exact df (by omega) | exact decide_eq_true (by omega) | exact decide_eq_false (by omega) | exact bts_t (by assumption) | exact bts_f (by assumption) | (unfold InR; omega) | trace_state
    · exact .refl _
end Go.Px
end

section
namespace Go.Px
open Go.RowKit

theorem wrapI64 {n : Int} (h0 : -9223372036854775808 ≤ n) (h1 : n ≤ 9223372036854775807) : IntKind.wrap .i64 n = n := by
  simp [IntKind.wrap, IntKind.bits, IntKind.signed]
  omega
theorem ei {a b : Int} (h : a = b) : D.i .i64 a = D.i .i64 b := by rw [h]
theorem quoN (v k : Nat) (h : v < 2^62) : IntKind.wrap .i64 ((v : Int).tdiv (k : Int)) = ((v / k : Nat) : Int) := by
  rw [← Int.ofNat_tdiv]
  have h2 : v / k ≤ v := Nat.div_le_self v k
  generalize v / k = q at h2
  exact wrapI64 (by omega) (by omega)
theorem remN (v k : Nat) : (v : Int).tmod (k : Int) = ((v % k : Nat) : Int) := (Int.ofNat_tmod v k).symm
theorem number_ct (v : Nat) (hv : v < 1073741824) : ∃ n, NOK n ∧ Pure Go.Proofs.Tryz.prog 86 [.i .i64 (v : Nat)] (.ret (.ag (encN n))) := by
  have q5 := quoN v 5 (by omega)
  have r5 := remN v 5
  have ofOK : ∀ x : Int, -4611686018427387904 ≤ x → x ≤ 4611686018427387904 → NOK (mkN (decide (x < 0)) x.natAbs 0) := by
    intro x h1 h2
    have hlv : lv [x.natAbs % 4294967296, x.natAbs / 4294967296] = x.natAbs := by simp only [lv]; omega
    have := mkN_ok (decide (x < 0)) [x.natAbs % 4294967296, x.natAbs / 4294967296] 0 (by simp) (by intro x hx; simp at hx; omega) (by omega) (by omega)
    rw [hlv] at this
    exact this
  by_cases c0 : v % 5 = 0
  · refine ⟨_, ofOK (((v / 5 % 60 : Nat) : Int) - 20) (by omega) (by omega), ?_⟩
    have a1 : D.i .i64 (IntKind.wrap .i64 ((v : Int).tdiv 5)) = D.i .i64 ((v / 5 : Nat) : Int) := ei q5
    have a2 : D.i .i64 (((v / 5 : Nat) : Int).tmod 60) = D.i .i64 ((v / 5 % 60 : Nat) : Int) := ei (remN _ 60)
    have a0 : D.i .i64 ((v : Int).tmod 5) = D.i .i64 0 := ei (by rw [show (5 : Int) = ((5 : Nat) : Int) from rfl, r5, c0]; rfl)
    refine Pure.body tys_valid (fn := Go.Proofs.Tryz.f86) (by kernel_rfl) rfl (by kernel_rfl) rfl ?_
    intro w ok giv E0 _ hE
    refine H.go 60 [(1, [(1, .val (.i .i64 0))]), (3, [(1, .val (.i .i64 (v / 5 : Nat))), (2, .val (.i .i64 (v / 5 % 60 : Nat))), (4, .res (.ret (.ag (encN (mkN (decide (((v / 5 % 60 : Nat) : Int) - 20 < 0)) (((v / 5 % 60 : Nat) : Int) - 20).natAbs 0)))))])] [] dr86 rfl ?_ ?_
    · repeat' (first | exact AllP.n | exact trivial | exact DrawB.mk (by decide +kernel) | exact fun _ => rfl | refine AllP.c ?_ ?_)
      all_goals (try dsimp only)
      all_goals first | exact rfl | first | omega | exact at_tr _ _ (by omega) | exact at_s _ _ (by omega) | exact dt (by omega) | exact df (by omega) | exact decide_eq_true (by omega) | exact decide_eq_false (by omega) | exact bts_t (by assumption) | exact bts_f (by assumption) | (unfold InR; omega) | exact of_ct _ (by omega) (by omega) | exact hc | exact ⟨trivial, by assumption⟩ | exact ⟨by omega, by assumption⟩ | (refine ⟨by unfold InR; omega, ?_⟩; assumption) | (refine ⟨trivial, ?_⟩; simp; omega) | trace_state
    refine ⟨_, _, rfl, ?_, ?_⟩
    · repeat' (first | exact AllP.n | exact trivial | exact DrawB.mk (by decide +kernel) | exact fun _ => rfl | refine AllP.c ?_ ?_)
      all_goals (try dsimp only)
      all_goals first | exact rfl | first | omega | exact at_tr _ _ (by omega) | exact at_s _ _ (by omega) | exact dt (by omega) | exact df (by omega) | exact decide_eq_true (by omega) | exact decide_eq_false (by omega) | exact bts_t (by assumption) | exact bts_f (by assumption) | (unfold InR; omega) | trace_state
    · exact .refl _
  have tail : ∀ (neg : Bool) (l : List Nat) (e : Int), l.length ≤ 3 → (∀ x ∈ l, x < 4294967296) → -100 ≤ e → e ≤ 100 → NOK (mkN neg (lv l) e) ∧ Pure Go.Proofs.Tryz.prog 142 [.b neg, .sl 1 l.length (l.map u32), .i .i64 e] (.ret (.tup [.ag (encN (mkN neg (lv l) e)), .b true])) :=
    fun neg l e h1 h2 h3 h4 => ⟨mkN_ok neg l e h1 h2 h3 h4, make_ct neg l e h1 h2 h3 h4⟩
  by_cases c1 : v % 5 = 1
  · obtain ⟨hk, hc⟩ := tail (((v / 5 % 2 : Nat) : Int) == 1) [v / 10 % 2000] (((v / 7 % 9 : Nat) : Int) - 5) (by simp) (by intro x hx; simp at hx; omega) (by omega) (by omega)
    refine ⟨_, hk, ?_⟩
    have a0 : D.i .i64 ((v : Int).tmod 5) = D.i .i64 1 := ei (by rw [show (5 : Int) = ((5 : Nat) : Int) from rfl, r5, c1]; rfl)
    have a1 : D.i .i64 (IntKind.wrap .i64 ((v : Int).tdiv 5)) = D.i .i64 ((v / 5 : Nat) : Int) := ei q5
    have a2 : D.i .i64 (((v / 5 : Nat) : Int).tmod 2) = D.i .i64 ((v / 5 % 2 : Nat) : Int) := ei (remN _ 2)
    have a3 : D.i .i64 (IntKind.wrap .i64 ((v : Int).tdiv 10)) = D.i .i64 ((v / 10 : Nat) : Int) := ei (quoN v 10 (by omega))
    have a4 : D.i .i64 (((v / 10 : Nat) : Int).tmod 2000) = D.i .i64 ((v / 10 % 2000 : Nat) : Int) := ei (remN _ 2000)
    have a5 : D.i .u32 (IntKind.wrap .u32 ((v / 10 % 2000 : Nat) : Int)) = u32 (v / 10 % 2000) := by rw [wrapU32 (by omega) (by omega)]; rfl
    have a6 : D.i .i64 (IntKind.wrap .i64 ((v : Int).tdiv 7)) = D.i .i64 ((v / 7 : Nat) : Int) := ei (quoN v 7 (by omega))
    have a7 : D.i .i64 (((v / 7 : Nat) : Int).tmod 9) = D.i .i64 ((v / 7 % 9 : Nat) : Int) := ei (remN _ 9)
    refine Pure.body tys_valid (fn := Go.Proofs.Tryz.f86) (by kernel_rfl) rfl (by kernel_rfl) rfl ?_
    intro w ok giv E0 _ hE
    refine H.go 60 [(1, [(1, .val (.i .i64 1))]), (5, [(1, .val (.i .i64 (v / 5 : Nat))), (2, .val (.i .i64 (v / 5 % 2 : Nat))), (5, .val (.i .i64 (v / 10 : Nat))), (6, .val (.i .i64 (v / 10 % 2000 : Nat))), (7, .val (u32 (v / 10 % 2000))), (10, .val (.i .i64 (v / 7 : Nat))), (11, .val (.i .i64 (v / 7 % 9 : Nat))), (13, .res (.ret (.tup [.ag (encN (mkN (((v / 5 % 2 : Nat) : Int) == 1) (lv [v / 10 % 2000]) (((v / 7 % 9 : Nat) : Int) - 5))), .b true])))])] [] dr86 rfl ?_ ?_
    · repeat' (first | exact AllP.n | exact trivial | exact DrawB.mk (by decide +kernel) | exact fun _ => rfl | refine AllP.c ?_ ?_)
      all_goals (try dsimp only)
      all_goals first | exact rfl | first | omega | exact at_tr _ _ (by omega) | exact at_s _ _ (by omega) | exact dt (by omega) | exact df (by omega) | exact decide_eq_true (by omega) | exact decide_eq_false (by omega) | exact bts_t (by assumption) | exact bts_f (by assumption) | (unfold InR; omega) | exact of_ct _ (by omega) (by omega) | exact hc | exact ⟨trivial, by assumption⟩ | exact ⟨by omega, by assumption⟩ | (refine ⟨by unfold InR; omega, ?_⟩; assumption) | (refine ⟨trivial, ?_⟩; simp; omega) | trace_state
    refine ⟨_, _, rfl, ?_, ?_⟩
    · repeat' (first | exact AllP.n | exact trivial | exact DrawB.mk (by decide +kernel) | exact fun _ => rfl | refine AllP.c ?_ ?_)
      all_goals (try dsimp only)
      all_goals first | exact rfl | first | omega | exact at_tr _ _ (by omega) | exact at_s _ _ (by omega) | exact dt (by omega) | exact df (by omega) | exact decide_eq_true (by omega) | exact decide_eq_false (by omega) | exact bts_t (by assumption) | exact bts_f (by assumption) | (unfold InR; omega) | trace_state
    · exact .refl _
  by_cases c2 : v % 5 = 2
  · obtain ⟨hk, hc⟩ := tail false [v, v / 3, v % 7] 0 (by simp) (by intro x hx; simp at hx; omega) (by omega) (by omega)
    refine ⟨_, hk, ?_⟩
    have a0 : D.i .i64 ((v : Int).tmod 5) = D.i .i64 2 := ei (by rw [show (5 : Int) = ((5 : Nat) : Int) from rfl, r5, c2]; rfl)
    have a1 : D.i .u32 (IntKind.wrap .u32 (v : Int)) = u32 v := by rw [wrapU32 (by omega) (by omega)]; rfl
    have a2 : D.i .i64 (IntKind.wrap .i64 ((v : Int).tdiv 3)) = D.i .i64 ((v / 3 : Nat) : Int) := ei (quoN v 3 (by omega))
    have a3 : D.i .u32 (IntKind.wrap .u32 ((v / 3 : Nat) : Int)) = u32 (v / 3) := by rw [wrapU32 (by omega) (by omega)]; rfl
    have a4 : D.i .i64 ((v : Int).tmod 7) = D.i .i64 ((v % 7 : Nat) : Int) := ei (remN _ 7)
    have a5 : D.i .u32 (IntKind.wrap .u32 ((v % 7 : Nat) : Int)) = u32 (v % 7) := by rw [wrapU32 (by omega) (by omega)]; rfl
    refine Pure.body tys_valid (fn := Go.Proofs.Tryz.f86) (by kernel_rfl) rfl (by kernel_rfl) rfl ?_
    intro w ok giv E0 _ hE
    refine H.go 60 [(1, [(1, .val (.i .i64 2))]), (8, [(1, .val (u32 v)), (3, .val (.i .i64 (v / 3 : Nat))), (4, .val (u32 (v / 3))), (6, .val (.i .i64 (v % 7 : Nat))), (7, .val (u32 (v % 7))), (9, .res (.ret (.tup [.ag (encN (mkN false (lv [v, v / 3, v % 7]) 0)), .b true])))])] [] dr86 rfl ?_ ?_
    · repeat' (first | exact AllP.n | exact trivial | exact DrawB.mk (by decide +kernel) | exact fun _ => rfl | refine AllP.c ?_ ?_)
      all_goals (try dsimp only)
      all_goals first | exact rfl | first | omega | exact at_tr _ _ (by omega) | exact at_s _ _ (by omega) | exact dt (by omega) | exact df (by omega) | exact decide_eq_true (by omega) | exact decide_eq_false (by omega) | exact bts_t (by assumption) | exact bts_f (by assumption) | (unfold InR; omega) | exact of_ct _ (by omega) (by omega) | exact hc | exact ⟨trivial, by assumption⟩ | exact ⟨by omega, by assumption⟩ | (refine ⟨by unfold InR; omega, ?_⟩; assumption) | (refine ⟨trivial, ?_⟩; simp; omega) | trace_state
    refine ⟨_, _, rfl, ?_, ?_⟩
    · repeat' (first | exact AllP.n | exact trivial | exact DrawB.mk (by decide +kernel) | exact fun _ => rfl | refine AllP.c ?_ ?_)
      all_goals (try dsimp only)
      all_goals first | exact rfl | first | omega | exact at_tr _ _ (by omega) | exact at_s _ _ (by omega) | exact dt (by omega) | exact df (by omega) | exact decide_eq_true (by omega) | exact decide_eq_false (by omega) | exact bts_t (by assumption) | exact bts_f (by assumption) | (unfold InR; omega) | trace_state
    · exact .refl _
  by_cases c3 : v % 5 = 3
  · obtain ⟨hk, hc⟩ := tail (((v % 2 : Nat) : Int) == 1) [5, v] (-((v / 5 % 30 : Nat) : Int)) (by simp) (by intro x hx; simp at hx; omega) (by omega) (by omega)
    refine ⟨_, hk, ?_⟩
    have a0 : D.i .i64 ((v : Int).tmod 5) = D.i .i64 3 := ei (by rw [show (5 : Int) = ((5 : Nat) : Int) from rfl, r5, c3]; rfl)
    have a1 : D.i .i64 ((v : Int).tmod 2) = D.i .i64 ((v % 2 : Nat) : Int) := ei (remN _ 2)
    have a2 : D.i .u32 (IntKind.wrap .u32 (v : Int)) = u32 v := by rw [wrapU32 (by omega) (by omega)]; rfl
    have a3 : D.i .i64 (IntKind.wrap .i64 ((v : Int).tdiv 5)) = D.i .i64 ((v / 5 : Nat) : Int) := ei q5
    have a4 : D.i .i64 (((v / 5 : Nat) : Int).tmod 30) = D.i .i64 ((v / 5 % 30 : Nat) : Int) := ei (remN _ 30)
    have a6 : D.i .i64 (0 - ((v / 5 % 30 : Nat) : Int)) = D.i .i64 (-((v / 5 % 30 : Nat) : Int)) := ei (Int.zero_sub _)
    refine Pure.body tys_valid (fn := Go.Proofs.Tryz.f86) (by kernel_rfl) rfl (by kernel_rfl) rfl ?_
    intro w ok giv E0 _ hE
    refine H.go 60 [(1, [(1, .val (.i .i64 3))]), (11, [(1, .val (.i .i64 (v % 2 : Nat))), (4, .val (u32 v)), (7, .val (.i .i64 (v / 5 : Nat))), (8, .val (.i .i64 (v / 5 % 30 : Nat))), (9, .val (.i .i64 (-((v / 5 % 30 : Nat) : Int)))), (10, .res (.ret (.tup [.ag (encN (mkN (((v % 2 : Nat) : Int) == 1) (lv [5, v]) (-((v / 5 % 30 : Nat) : Int)))), .b true])))])] [] dr86 rfl ?_ ?_
    · repeat' (first | exact AllP.n | exact trivial | exact DrawB.mk (by decide +kernel) | exact fun _ => rfl | refine AllP.c ?_ ?_)
      all_goals (try dsimp only)
      all_goals first | exact rfl | first | omega | exact at_tr _ _ (by omega) | exact at_s _ _ (by omega) | exact dt (by omega) | exact df (by omega) | exact decide_eq_true (by omega) | exact decide_eq_false (by omega) | exact bts_t (by assumption) | exact bts_f (by assumption) | (unfold InR; omega) | exact of_ct _ (by omega) (by omega) | exact hc | exact ⟨trivial, by assumption⟩ | exact ⟨by omega, by assumption⟩ | (refine ⟨by unfold InR; omega, ?_⟩; assumption) | (refine ⟨trivial, ?_⟩; simp; omega) | trace_state
    refine ⟨_, _, rfl, ?_, ?_⟩
    · repeat' (first | exact AllP.n | exact trivial | exact DrawB.mk (by decide +kernel) | exact fun _ => rfl | refine AllP.c ?_ ?_)
      all_goals (try dsimp only)
      all_goals first | exact rfl | first | omega | exact at_tr _ _ (by omega) | exact at_s _ _ (by omega) | exact dt (by omega) | exact df (by omega) | exact decide_eq_true (by omega) | exact decide_eq_false (by omega) | exact bts_t (by assumption) | exact bts_f (by assumption) | (unfold InR; omega) | trace_state
    · exact .refl _
  · refine ⟨_, ofOK (v : Int) (by omega) (by omega), ?_⟩
    have c4 : v % 5 = 4 := by omega
    have a0 : D.i .i64 ((v : Int).tmod 5) = D.i .i64 4 := ei (by rw [show (5 : Int) = ((5 : Nat) : Int) from rfl, r5, c4]; rfl)
    refine Pure.body tys_valid (fn := Go.Proofs.Tryz.f86) (by kernel_rfl) rfl (by kernel_rfl) rfl ?_
    intro w ok giv E0 _ hE
    refine H.go 60 [(1, [(1, .val (.i .i64 4))]), (13, [(1, .res (.ret (.ag (encN (mkN (decide ((v : Int) < 0)) (v : Int).natAbs 0)))))])] [] dr86 rfl ?_ ?_
    · repeat' (first | exact AllP.n | exact trivial | exact DrawB.mk (by decide +kernel) | exact fun _ => rfl | refine AllP.c ?_ ?_)
      all_goals (try dsimp only)
      all_goals first | exact rfl | first | omega | exact at_tr _ _ (by omega) | exact at_s _ _ (by omega) | exact dt (by omega) | exact df (by omega) | exact decide_eq_true (by omega) | exact decide_eq_false (by omega) | exact bts_t (by assumption) | exact bts_f (by assumption) | (unfold InR; omega) | exact of_ct _ (by omega) (by omega) | exact hc | exact ⟨trivial, by assumption⟩ | exact ⟨by omega, by assumption⟩ | (refine ⟨by unfold InR; omega, ?_⟩; assumption) | (refine ⟨trivial, ?_⟩; simp; omega) | trace_state
    refine ⟨_, _, rfl, ?_, ?_⟩
    · repeat' (first | exact AllP.n | exact trivial | exact DrawB.mk (by decide +kernel) | exact fun _ => rfl | refine AllP.c ?_ ?_)
      all_goals (try dsimp only)
      all_goals first | exact rfl | first | omega | exact at_tr _ _ (by omega) | exact at_s _ _ (by omega) | exact dt (by omega) | exact df (by omega) | exact decide_eq_true (by omega) | exact decide_eq_false (by omega) | exact bts_t (by assumption) | exact bts_f (by assumption) | (unfold InR; omega) | trace_state
    · exact .refl _
end Go.Px
end

section
namespace Go.Px
open Go.RowKit
theorem is_ok (n : Nm) (h : NOK n) : Pure Go.Proofs.Tryz.prog 104 [.ag (encN n)] (.ret (.ag (encN n))) := by
  have hc := rcheck_ok n h
  refine Pure.body tys_valid (fn := Go.Proofs.Tryz.f104) (by kernel_rfl) rfl (by kernel_rfl) rfl ?_
  intro w ok giv E0 _ hE
  refine H.go 60 [(1, [(1, .res (.ret (.b true)))])] [] dr104 rfl ?_ ?_
  · repeat' (first | exact AllP.n | exact trivial | exact DrawB.mk (by decide +kernel) | exact fun _ => rfl | refine AllP.c ?_ ?_)
    all_goals (try dsimp only)
    all_goals first | exact rfl | first | omega | exact at_tr _ _ (by omega) | exact at_s _ _ (by omega) | exact dt (by omega) | exact df (by omega) | exact decide_eq_true (by omega) | exact decide_eq_false (by omega) | exact bts_t (by assumption) | exact bts_f (by assumption) | (unfold InR; omega) | exact hc | trace_state
  refine ⟨_, _, rfl, ?_, ?_⟩
  · repeat' (first | exact AllP.n | exact trivial | exact DrawB.mk (by decide +kernel) | exact fun _ => rfl | refine AllP.c ?_ ?_)
    all_goals (try dsimp only)
    all_goals first | exact rfl | first | omega | exact at_tr _ _ (by omega) | exact at_s _ _ (by omega) | exact dt (by omega) | exact df (by omega) | exact decide_eq_true (by omega) | exact decide_eq_false (by omega) | exact bts_t (by assumption) | exact bts_f (by assumption) | (unfold InR; omega) | trace_state
  · exact .refl _
theorem ofn_ok (n : Nm) (h : NOK n) : Pure Go.Proofs.Tryz.prog 190 [.ag (encN n)] (.ret (.ag (encN n))) := by
  have hc := check_ok n h
  refine Pure.body tys_valid (fn := Go.Proofs.Tryz.f190) (by kernel_rfl) rfl (by kernel_rfl) rfl ?_
  intro w ok giv E0 _ hE
  refine H.go 60 [(1, [(1, .res (.ret (.b true)))])] [] dr190 rfl ?_ ?_
  · repeat' (first | exact AllP.n | exact trivial | exact DrawB.mk (by decide +kernel) | exact fun _ => rfl | refine AllP.c ?_ ?_)
    all_goals (try dsimp only)
    all_goals first | exact rfl | first | omega | exact at_tr _ _ (by omega) | exact at_s _ _ (by omega) | exact dt (by omega) | exact df (by omega) | exact decide_eq_true (by omega) | exact decide_eq_false (by omega) | exact bts_t (by assumption) | exact bts_f (by assumption) | (unfold InR; omega) | exact hc | trace_state
  refine ⟨_, _, rfl, ?_, ?_⟩
  · repeat' (first | exact AllP.n | exact trivial | exact DrawB.mk (by decide +kernel) | exact fun _ => rfl | refine AllP.c ?_ ?_)
    all_goals (try dsimp only)
    all_goals first | exact rfl | first | omega | exact at_tr _ _ (by omega) | exact at_s _ _ (by omega) | exact dt (by omega) | exact df (by omega) | exact decide_eq_true (by omega) | exact decide_eq_false (by omega) | exact bts_t (by assumption) | exact bts_f (by assumption) | (unfold InR; omega) | trace_state
  · exact .refl _
end Go.Px
end

section
namespace Go.Px
open Go.RowKit

theorem limb_ct (l : List Nat) (i : Nat) (hx : ∀ x ∈ l, x < 4294967296) : Pure Go.Proofs.Tryz.prog 168 [.sl 1 l.length (l.map u32), .i .i64 (i : Nat)] (.ret (.i .u64 (l.getD i 0 : Nat))) := by
  refine Pure.body tys_valid (fn := Go.Proofs.Tryz.f168) (by kernel_rfl) rfl (by kernel_rfl) rfl ?_
  intro w ok giv E0 _ hE
  by_cases hi : i < l.length
  · have hxi : l[i] < 4294967296 := hx _ (List.getElem_mem _)
    have e1 : D.i .u64 (IntKind.wrap .u64 (l[i] : Int)) = D.i .u64 (l[i] : Nat) := by rw [wrapU64 (by omega) (by omega)]
    have hg : l.getD i 0 = l[i] := by simp [List.getD, hi]
    rw [hg]
    refine H.go 60 [(2, [(3, .cell (u32 l[i])), (4, .val (.i .u64 (l[i] : Nat)))])] [(8, true)] [] rfl ?_ ?_
    · repeat' (first | exact AllP.n | exact trivial | exact DrawB.mk (by decide +kernel) | exact fun _ => rfl | refine AllP.c ?_ ?_)
      all_goals (try dsimp only)
      all_goals first | exact rfl | first | omega | exact at_tr _ _ (by omega) | exact at_s _ _ (by omega) | exact dt (by omega) | exact df (by omega) | exact decide_eq_true (by omega) | exact decide_eq_false (by omega) | exact bts_t (by assumption) | exact bts_f (by assumption) | (unfold InR; omega) | exact at_u l i hi | exact ⟨trivial, e1⟩ | trace_state
    refine ⟨_, _, rfl, ?_, ?_⟩
    · repeat' (first | exact AllP.n | exact trivial | exact DrawB.mk (by decide +kernel) | exact fun _ => rfl | refine AllP.c ?_ ?_)
      all_goals (try dsimp only)
      all_goals first | exact rfl | first | omega | exact at_tr _ _ (by omega) | exact at_s _ _ (by omega) | exact dt (by omega) | exact df (by omega) | exact decide_eq_true (by omega) | exact decide_eq_false (by omega) | exact bts_t (by assumption) | exact bts_f (by assumption) | (unfold InR; omega) | trace_state
    · exact .refl _
  · have hg : l.getD i 0 = 0 := by simp [List.getD, List.getElem?_eq_none (by omega : l.length ≤ i)]
    rw [hg]
    refine H.go 60 [] [(8, false)] [] rfl ?_ ?_
    · repeat' (first | exact AllP.n | exact trivial | exact DrawB.mk (by decide +kernel) | exact fun _ => rfl | refine AllP.c ?_ ?_)
      all_goals (try dsimp only)
      all_goals first | exact rfl | first | omega | exact at_tr _ _ (by omega) | exact at_s _ _ (by omega) | exact dt (by omega) | exact df (by omega) | exact decide_eq_true (by omega) | exact decide_eq_false (by omega) | exact bts_t (by assumption) | exact bts_f (by assumption) | (unfold InR; omega) | trace_state
    refine ⟨_, _, rfl, ?_, ?_⟩
    · repeat' (first | exact AllP.n | exact trivial | exact DrawB.mk (by decide +kernel) | exact fun _ => rfl | refine AllP.c ?_ ?_)
      all_goals (try dsimp only)
      all_goals first | exact rfl | first | omega | exact at_tr _ _ (by omega) | exact at_s _ _ (by omega) | exact dt (by omega) | exact df (by omega) | exact decide_eq_true (by omega) | exact decide_eq_false (by omega) | exact bts_t (by assumption) | exact bts_f (by assumption) | (unfold InR; omega) | trace_state
    · exact .refl _
end Go.Px
end

section
namespace Go.Px
open Go.RowKit

theorem lv_step (l : List Nat) (k : Nat) : lv (l.drop k) = l.getD k 0 + 4294967296 * lv (l.drop (k + 1)) := by
  by_cases h : k < l.length
  · rw [drop_cons h]
    simp [lv, List.getD, h]
  · rw [List.drop_eq_nil_of_le (by omega), List.drop_eq_nil_of_le (by omega)]
    simp [lv, List.getD, List.getElem?_eq_none (by omega : l.length ≤ k)]
theorem getD_lt (l : List Nat) (hx : ∀ x ∈ l, x < 4294967296) (k : Nat) : l.getD k 0 < 4294967296 := by
  by_cases h : k < l.length
  · simp only [List.getD, List.getElem?_eq_getElem h, Option.getD_some]
    exact hx _ (List.getElem_mem _)
  · simp [List.getD, List.getElem?_eq_none (by omega : l.length ≤ k)]
theorem lv_lift (a b : List Nat) (ha : ∀ x ∈ a, x < 4294967296) : ∀ k, lv (a.drop k) < lv (b.drop k) → lv a < lv b
  | 0, h => by simpa using h
  | k + 1, h => by
    refine lv_lift a b ha k ?_
    rw [lv_step a k, lv_step b k]
    have := getD_lt a ha k
    omega
def cmpZ (a b : Nat) : Int := if a < b then -1 else if b < a then 1 else 0
theorem rcmp_ct (a b : List Nat) (ha : ∀ x ∈ a, x < 4294967296) (hb : ∀ x ∈ b, x < 4294967296) (hla : a.length < 2^40) (hlb : b.length < 2^40) :
    Pure Go.Proofs.Tryz.prog 105 [.sl 1 a.length (a.map u32), .sl 1 b.length (b.map u32)] (.ret (.i .i64 (cmpZ (lv a) (lv b)))) := by
  refine Pure.body tys_valid (fn := Go.Proofs.Tryz.f105) (by kernel_rfl) rfl (by kernel_rfl) rfl ?_
  intro w ok giv E0 _ hE
  refine H.go 60 [(1, [(4, .val (.i .i64 (max a.length b.length : Nat)))])] [] dr105 rfl ?_ ?_
  · repeat' (first | exact AllP.n | exact trivial | exact DrawB.mk (by decide +kernel) | exact fun _ => rfl | refine AllP.c ?_ ?_)
    all_goals (try dsimp only)
    all_goals first | exact rfl | first | omega | exact at_tr _ _ (by omega) | exact at_s _ _ (by omega) | exact dt (by omega) | exact df (by omega) | exact decide_eq_true (by omega) | exact decide_eq_false (by omega) | exact bts_t (by assumption) | exact bts_f (by assumption) | (unfold InR; omega) | (refine ⟨trivial, ?_⟩; congr 1; simp; omega) | (refine ⟨trivial, ?_⟩; simp only [D.i.injEq, true_and]; split <;> omega) | trace_state
  refine H.loopI (fun m : Nat => m ≤ max a.length b.length ∧ lv (a.drop m) = lv (b.drop m)) (fun m => ⟨[(0, .sl 1 a.length (a.map u32)), (1, .sl 1 b.length (b.map u32)), (5, .i .i64 ((m : Int) - 1))], [], 0⟩) (fun m => m) (max a.length b.length) ⟨Nat.le_refl _, by rw [List.drop_eq_nil_of_le (by omega), List.drop_eq_nil_of_le (by omega)]⟩ ?_ ?_
  · intro a w s
    refine s.ren hE [] ?_ ?_ rfl
    · repeat' (first | exact trivial | exact rfl | apply And.intro)
    · repeat' (first | exact trivial | exact rfl | apply And.intro)
  rintro m ⟨hm, he⟩
  rcases Nat.eq_zero_or_pos m with h0 | h0
  · subst h0
    have hz : cmpZ (lv a) (lv b) = 0 := by
      have : lv a = lv b := by simpa using he
      unfold cmpZ
      rw [if_neg (by omega), if_neg (by omega)]
    refine H.go 60 [] [(13, false)] dr105 rfl ?_ ?_
    · repeat' (first | exact AllP.n | exact trivial | exact DrawB.mk (by decide +kernel) | exact fun _ => rfl | refine AllP.c ?_ ?_)
      all_goals (try dsimp only)
      all_goals first | exact rfl | first | omega | exact at_tr _ _ (by omega) | exact at_s _ _ (by omega) | exact dt (by omega) | exact df (by omega) | exact decide_eq_true (by omega) | exact decide_eq_false (by omega) | exact bts_t (by assumption) | exact bts_f (by assumption) | (unfold InR; omega) | trace_state
    refine H.go 60 [] [] dr105 rfl ?_ ?_
    · repeat' (first | exact AllP.n | exact trivial | exact DrawB.mk (by decide +kernel) | exact fun _ => rfl | refine AllP.c ?_ ?_)
      all_goals (try dsimp only)
      all_goals first | exact rfl | first | omega | exact at_tr _ _ (by omega) | exact at_s _ _ (by omega) | exact dt (by omega) | exact df (by omega) | exact decide_eq_true (by omega) | exact decide_eq_false (by omega) | exact bts_t (by assumption) | exact bts_f (by assumption) | (unfold InR; omega) | trace_state
    refine ⟨_, _, rfl, ?_, ?_⟩
    · repeat' (first | exact AllP.n | exact trivial | exact DrawB.mk (by decide +kernel) | exact fun _ => rfl | refine AllP.c ?_ ?_)
      all_goals (try dsimp only)
      all_goals first | exact rfl | first | omega | exact at_tr _ _ (by omega) | exact at_s _ _ (by omega) | exact dt (by omega) | exact df (by omega) | exact decide_eq_true (by omega) | exact decide_eq_false (by omega) | exact bts_t (by assumption) | exact bts_f (by assumption) | (unfold InR; omega) | trace_state
    · rw [hz]; exact .refl _
  · obtain ⟨k, rfl⟩ : ∃ k, m = k + 1 := ⟨m - 1, by omega⟩
    have hk : (((k + 1 : Nat) : Int) - 1) = (k : Int) := by omega
    have ca := limb_ct a k ha
    have cb := limb_ct b k hb
    have sa := lv_step a k
    have sb := lv_step b k
    refine H.to [] [(0, .sl 1 a.length (a.map u32)), (1, .sl 1 b.length (b.map u32)), (5, .i .i64 (k : Nat))] [] 0 ⟨⟨rfl, rfl⟩, ⟨rfl, rfl⟩, ⟨rfl, congrArg some (congrArg (D.i .i64) hk)⟩, trivial⟩ trivial rfl hE ?_
    rcases Nat.lt_trichotomy (a.getD k 0) (b.getD k 0) with hlt | heq | hgt
    · have hz : cmpZ (lv a) (lv b) = -1 := by
        have := lv_lift a b ha k (by omega)
        unfold cmpZ
        rw [if_pos this]
      refine H.go 60 [(4, [(2, .res (.ret (.i .u64 (a.getD k 0 : Nat)))), (5, .res (.ret (.i .u64 (b.getD k 0 : Nat))))])] [(13, true), (22, true)] dr105 rfl ?_ ?_
      · repeat' (first | exact AllP.n | exact trivial | exact DrawB.mk (by decide +kernel) | exact fun _ => rfl | refine AllP.c ?_ ?_)
        all_goals (try dsimp only)
        all_goals first | exact rfl | first | omega | exact at_tr _ _ (by omega) | exact at_s _ _ (by omega) | exact dt (by omega) | exact df (by omega) | exact decide_eq_true (by omega) | exact decide_eq_false (by omega) | exact bts_t (by assumption) | exact bts_f (by assumption) | (unfold InR; omega) | exact ca | exact cb | trace_state
      refine ⟨_, _, rfl, ?_, ?_⟩
      · repeat' (first | exact AllP.n | exact trivial | exact DrawB.mk (by decide +kernel) | exact fun _ => rfl | refine AllP.c ?_ ?_)
        all_goals (try dsimp only)
        all_goals first | exact rfl | first | omega | exact at_tr _ _ (by omega) | exact at_s _ _ (by omega) | exact dt (by omega) | exact df (by omega) | exact decide_eq_true (by omega) | exact decide_eq_false (by omega) | exact bts_t (by assumption) | exact bts_f (by assumption) | (unfold InR; omega) | trace_state
      · rw [hz]; exact .refl _
    · refine H.go 60 [(4, [(2, .res (.ret (.i .u64 (a.getD k 0 : Nat)))), (5, .res (.ret (.i .u64 (b.getD k 0 : Nat))))]), (6, [(2, .res (.ret (.i .u64 (a.getD k 0 : Nat)))), (5, .res (.ret (.i .u64 (b.getD k 0 : Nat))))])] [(13, true), (22, false), (29, false)] dr105 rfl ?_ ?_
      · repeat' (first | exact AllP.n | exact trivial | exact DrawB.mk (by decide +kernel) | exact fun _ => rfl | refine AllP.c ?_ ?_)
        all_goals (try dsimp only)
        all_goals first | exact rfl | first | omega | exact at_tr _ _ (by omega) | exact at_s _ _ (by omega) | exact dt (by omega) | exact df (by omega) | exact decide_eq_true (by omega) | exact decide_eq_false (by omega) | exact bts_t (by assumption) | exact bts_f (by assumption) | (unfold InR; omega) | exact ca | exact cb | trace_state
      refine loopN k ⟨by omega, by omega⟩ (by show k < k + 1; omega) fun a w s => s.ren hE [] ?_ ?_ rfl
      · repeat' (first | exact trivial | exact rfl | apply And.intro)
      · repeat' (first | exact trivial | exact rfl | apply And.intro)
    · have hz : cmpZ (lv a) (lv b) = 1 := by
        have := lv_lift b a hb k (by omega)
        unfold cmpZ
        rw [if_neg (by omega), if_pos this]
      refine H.go 60 [(4, [(2, .res (.ret (.i .u64 (a.getD k 0 : Nat)))), (5, .res (.ret (.i .u64 (b.getD k 0 : Nat))))]), (6, [(2, .res (.ret (.i .u64 (a.getD k 0 : Nat)))), (5, .res (.ret (.i .u64 (b.getD k 0 : Nat))))])] [(13, true), (22, false), (29, true)] dr105 rfl ?_ ?_
      · repeat' (first | exact AllP.n | exact trivial | exact DrawB.mk (by decide +kernel) | exact fun _ => rfl | refine AllP.c ?_ ?_)
        all_goals (try dsimp only)
        all_goals first | exact rfl | first | omega | exact at_tr _ _ (by omega) | exact at_s _ _ (by omega) | exact dt (by omega) | exact df (by omega) | exact decide_eq_true (by omega) | exact decide_eq_false (by omega) | exact bts_t (by assumption) | exact bts_f (by assumption) | (unfold InR; omega) | exact ca | exact cb | trace_state
      refine ⟨_, _, rfl, ?_, ?_⟩
      · repeat' (first | exact AllP.n | exact trivial | exact DrawB.mk (by decide +kernel) | exact fun _ => rfl | refine AllP.c ?_ ?_)
        all_goals (try dsimp only)
        all_goals first | exact rfl | first | omega | exact at_tr _ _ (by omega) | exact at_s _ _ (by omega) | exact dt (by omega) | exact df (by omega) | exact decide_eq_true (by omega) | exact decide_eq_false (by omega) | exact bts_t (by assumption) | exact bts_f (by assumption) | (unfold InR; omega) | trace_state
      · rw [hz]; exact .refl _
end Go.Px
end

section
namespace Go.Px
open Go.RowKit

theorem SameH.swap {r1 r2 : Nat} {R1 R2 : Root} {l : List (Nat × Root)} (h : Nat.beq r1 r2 = false) : SameH ((r1, R1) :: (r2, R2) :: l) ((r2, R2) :: (r1, R1) :: l) := by
  have hne : r1 ≠ r2 := fun e => by rw [e, Nat.beq_refl] at h; cases h
  intro r
  simp only [get_cons]
  by_cases h1 : r1 = r
  · subst h1; simp [Ne.symm hne]
  · simp [h1]
def sameN (a b : Nm) : Bool := decide (a.neg = b.neg ∧ a.e = b.e ∧ lv a.m = lv b.m)
theorem NOK.limb {n : Nm} (h : NOK n) : (∀ x ∈ n.m, x < 4294967296) ∧ n.m.length ≤ 90 := by
  rcases h with h | ⟨v, _, _, hm, hl, _⟩
  · subst h; simp
  · exact ⟨by rw [hm]; exact limbs_lt v, hl⟩
theorem rsameN_ok (a b : Nm) (ha : NOK a) (hb : NOK b) : Pure Go.Proofs.Tryz.prog 59 [.ag (encN a), .ag (encN b)] (.ret (.b (sameN a b))) := by
  have ca := is_ok a ha
  have cb := is_ok b hb
  have cc := rcmp_ct a.m b.m ha.limb.1 hb.limb.1 (by have := ha.limb.2; omega) (by have := hb.limb.2; omega)
  refine Pure.body tys_valid (fn := Go.Proofs.Tryz.f59) (by kernel_rfl) rfl (by kernel_rfl) rfl ?_
  intro w ok giv E0 _ hE
  by_cases hn : a.neg = b.neg
  · by_cases he : a.e = b.e
    · by_cases hm : lv a.m = lv b.m
      · have hz : cmpZ (lv a.m) (lv b.m) = 0 := by unfold cmpZ; rw [if_neg (by omega), if_neg (by omega)]
        refine H.go 60 [(1, [(1, .res (.ret (.ag (encN a)))), (3, .res (.ret (.ag (encN b))))]), (2, [(5, .gd true), (12, .gd true), (17, .res (.ret (.i .i64 (cmpZ (lv a.m) (lv b.m))))), (18, .gd true)])] [] dr59 rfl ?_ ?_
        · repeat' (first | exact AllP.n | exact trivial | exact DrawB.mk (by decide +kernel) | exact fun _ => rfl | refine AllP.c ?_ ?_)
          all_goals (try dsimp only)
          all_goals first | exact rfl | first | omega | exact at_tr _ _ (by omega) | exact at_s _ _ (by omega) | exact dt (by omega) | exact df (by omega) | exact decide_eq_true (by omega) | exact decide_eq_false (by omega) | exact bts_t (by assumption) | exact bts_f (by assumption) | (unfold InR; omega) | exact SameH.swap rfl | exact ⟨trivial, hz⟩ | exact ca | exact cb | exact cc | (refine ⟨trivial, ?_⟩; simp [hn]; done) | (refine ⟨trivial, ?_⟩; simp [he]; done) | (refine ⟨trivial, ?_⟩; simp [cmpZ, hm]; done) | (refine ⟨trivial, ?_⟩; rw [hz]; rfl) | trace_state
        refine ⟨_, _, rfl, ?_, ?_⟩
        · repeat' (first | exact AllP.n | exact trivial | exact DrawB.mk (by decide +kernel) | exact fun _ => rfl | refine AllP.c ?_ ?_)
          all_goals (try dsimp only)
          all_goals first | exact rfl | first | omega | exact at_tr _ _ (by omega) | exact at_s _ _ (by omega) | exact dt (by omega) | exact df (by omega) | exact decide_eq_true (by omega) | exact decide_eq_false (by omega) | exact bts_t (by assumption) | exact bts_f (by assumption) | (unfold InR; omega) | trace_state
        · rw [show sameN a b = true from by simp [sameN, hn, he, hm]]
          exact .refl _
      · have hz : (cmpZ (lv a.m) (lv b.m) == 0) = false := by
          unfold cmpZ
          split
          · rfl
          · split
            · rfl
            · omega
        refine H.go 60 [(1, [(1, .res (.ret (.ag (encN a)))), (3, .res (.ret (.ag (encN b))))]), (2, [(5, .gd true), (12, .gd true), (17, .res (.ret (.i .i64 (cmpZ (lv a.m) (lv b.m))))), (18, .gd false)])] [] dr59 rfl ?_ ?_
        · repeat' (first | exact AllP.n | exact trivial | exact DrawB.mk (by decide +kernel) | exact fun _ => rfl | refine AllP.c ?_ ?_)
          all_goals (try dsimp only)
          all_goals first | exact rfl | first | omega | exact at_tr _ _ (by omega) | exact at_s _ _ (by omega) | exact dt (by omega) | exact df (by omega) | exact decide_eq_true (by omega) | exact decide_eq_false (by omega) | exact bts_t (by assumption) | exact bts_f (by assumption) | (unfold InR; omega) | exact SameH.swap rfl | exact ⟨trivial, hz⟩ | exact ca | exact cb | exact cc | (refine ⟨trivial, ?_⟩; simp [hn]; done) | (refine ⟨trivial, ?_⟩; simp [he]; done) | (refine ⟨trivial, ?_⟩; simp [cmpZ, hm]; done) | (refine ⟨trivial, ?_⟩; rw [hz]; rfl) | trace_state
        refine ⟨_, _, rfl, ?_, ?_⟩
        · repeat' (first | exact AllP.n | exact trivial | exact DrawB.mk (by decide +kernel) | exact fun _ => rfl | refine AllP.c ?_ ?_)
          all_goals (try dsimp only)
          all_goals first | exact rfl | first | omega | exact at_tr _ _ (by omega) | exact at_s _ _ (by omega) | exact dt (by omega) | exact df (by omega) | exact decide_eq_true (by omega) | exact decide_eq_false (by omega) | exact bts_t (by assumption) | exact bts_f (by assumption) | (unfold InR; omega) | trace_state
        · rw [show sameN a b = false from by simp [sameN, hn, he, hm]]
          exact .refl _
    · refine H.go 60 [(1, [(1, .res (.ret (.ag (encN a)))), (3, .res (.ret (.ag (encN b))))]), (2, [(5, .gd true), (12, .gd false)])] [] dr59 rfl ?_ ?_
      · repeat' (first | exact AllP.n | exact trivial | exact DrawB.mk (by decide +kernel) | exact fun _ => rfl | refine AllP.c ?_ ?_)
        all_goals (try dsimp only)
        all_goals first | exact rfl | first | omega | exact at_tr _ _ (by omega) | exact at_s _ _ (by omega) | exact dt (by omega) | exact df (by omega) | exact decide_eq_true (by omega) | exact decide_eq_false (by omega) | exact bts_t (by assumption) | exact bts_f (by assumption) | (unfold InR; omega) | exact SameH.swap rfl | exact ⟨trivial, hz⟩ | exact ca | exact cb | exact cc | (refine ⟨trivial, ?_⟩; simp [hn]; done) | (refine ⟨trivial, ?_⟩; simp [he]; done) | (refine ⟨trivial, ?_⟩; simp [cmpZ, hm]; done) | (refine ⟨trivial, ?_⟩; rw [hz]; rfl) | trace_state
      refine ⟨_, _, rfl, ?_, ?_⟩
      · repeat' (first | exact AllP.n | exact trivial | exact DrawB.mk (by decide +kernel) | exact fun _ => rfl | refine AllP.c ?_ ?_)
        all_goals (try dsimp only)
        all_goals first | exact rfl | first | omega | exact at_tr _ _ (by omega) | exact at_s _ _ (by omega) | exact dt (by omega) | exact df (by omega) | exact decide_eq_true (by omega) | exact decide_eq_false (by omega) | exact bts_t (by assumption) | exact bts_f (by assumption) | (unfold InR; omega) | trace_state
      · rw [show sameN a b = false from by simp [sameN, hn, he]]
        exact .refl _
  · refine H.go 60 [(1, [(1, .res (.ret (.ag (encN a)))), (3, .res (.ret (.ag (encN b))))]), (2, [(5, .gd false), (12, .gd false)])] [] dr59 rfl ?_ ?_
    · repeat' (first | exact AllP.n | exact trivial | exact DrawB.mk (by decide +kernel) | exact fun _ => rfl | refine AllP.c ?_ ?_)
      all_goals (try dsimp only)
      all_goals first | exact rfl | first | omega | exact at_tr _ _ (by omega) | exact at_s _ _ (by omega) | exact dt (by omega) | exact df (by omega) | exact decide_eq_true (by omega) | exact decide_eq_false (by omega) | exact bts_t (by assumption) | exact bts_f (by assumption) | (unfold InR; omega) | exact SameH.swap rfl | exact ⟨trivial, hz⟩ | exact ca | exact cb | exact cc | (refine ⟨trivial, ?_⟩; simp [hn]; done) | (refine ⟨trivial, ?_⟩; simp [he]; done) | (refine ⟨trivial, ?_⟩; simp [cmpZ, hm]; done) | (refine ⟨trivial, ?_⟩; rw [hz]; rfl) | trace_state
    refine ⟨_, _, rfl, ?_, ?_⟩
    · repeat' (first | exact AllP.n | exact trivial | exact DrawB.mk (by decide +kernel) | exact fun _ => rfl | refine AllP.c ?_ ?_)
      all_goals (try dsimp only)
      all_goals first | exact rfl | first | omega | exact at_tr _ _ (by omega) | exact at_s _ _ (by omega) | exact dt (by omega) | exact df (by omega) | exact decide_eq_true (by omega) | exact decide_eq_false (by omega) | exact bts_t (by assumption) | exact bts_f (by assumption) | (unfold InR; omega) | trace_state
    · rw [show sameN a b = false from by simp [sameN, hn]]
      exact .refl _
end Go.Px
end

section
namespace Go.Px
open Go.RowKit

theorem equalU_ct (a b : List Nat) (hla : a.length < 2^40) (hlb : b.length < 2^40) : Pure Go.Proofs.Tryz.prog 191 [.sl 1 a.length (a.map u32), .sl 1 b.length (b.map u32)] (.ret (.b (decide (a = b)))) := by
  refine Pure.body tys_valid (fn := Go.Proofs.Tryz.f191) (by kernel_rfl) rfl (by kernel_rfl) rfl ?_
  intro w ok giv E0 _ hE
  by_cases hl : a.length = b.length
  · refine H.go 60 [] [(10, false)] dr191 rfl ?_ ?_
    · repeat' (first | exact AllP.n | exact trivial | exact DrawB.mk (by decide +kernel) | exact fun _ => rfl | refine AllP.c ?_ ?_)
      all_goals (try dsimp only)
      all_goals first | exact rfl | first | omega | exact at_tr _ _ (by omega) | exact at_s _ _ (by omega) | exact dt (by omega) | exact df (by omega) | exact decide_eq_true (by omega) | exact decide_eq_false (by omega) | exact bts_t (by assumption) | exact bts_f (by assumption) | (unfold InR; omega) | (simp [hl]; done) | trace_state
    refine H.loopI (fun i : Nat => i ≤ a.length ∧ a.take i = b.take i) (fun i => ⟨[(0, .sl 1 a.length (a.map u32)), (1, .sl 1 b.length (b.map u32)), (12, .i .i64 (a.length : Nat)), (13, .i .i64 (i : Nat))], [], 0⟩) (fun i => a.length - i) 0 ⟨Nat.zero_le _, by simp⟩ ?_ ?_
    · intro a w s
      refine s.ren hE [] ?_ ?_ rfl
      · repeat' (first | exact trivial | exact rfl | apply And.intro)
      · repeat' (first | exact trivial | exact rfl | apply And.intro)
    rintro i ⟨hi, ht⟩
    by_cases hlt : i < a.length
    · have hlt' : i < b.length := by omega
      by_cases he : a[i] = b[i]
      · refine H.go 60 [(6, [(3, .cell (u32 a[i])), (7, .cell (u32 b[i]))])] [(14, true), (24, false)] dr191 rfl ?_ ?_
        · repeat' (first | exact AllP.n | exact trivial | exact DrawB.mk (by decide +kernel) | exact fun _ => rfl | refine AllP.c ?_ ?_)
          all_goals (try dsimp only)
          all_goals first | exact rfl | first | omega | exact at_tr _ _ (by omega) | exact at_s _ _ (by omega) | exact dt (by omega) | exact df (by omega) | exact decide_eq_true (by omega) | exact decide_eq_false (by omega) | exact bts_t (by assumption) | exact bts_f (by assumption) | (unfold InR; omega) | exact at_u a i hlt | exact at_u b i hlt' | (simp [he]; done) | trace_state
        refine loopN (i + 1) ⟨by omega, by rw [List.take_succ_eq_append_getElem hlt, List.take_succ_eq_append_getElem hlt', ht, he]⟩ (by show a.length - (i + 1) < a.length - i; omega) fun a w s => s.ren hE [] ?_ ?_ rfl
        · repeat' (first | exact trivial | exact rfl | apply And.intro)
        · repeat' (first | exact trivial | exact rfl | apply And.intro)
      · have hne : a ≠ b := fun h => he (by subst h; rfl)
        refine H.go 60 [(6, [(3, .cell (u32 a[i])), (7, .cell (u32 b[i]))])] [(14, true), (24, true)] dr191 rfl ?_ ?_
        · repeat' (first | exact AllP.n | exact trivial | exact DrawB.mk (by decide +kernel) | exact fun _ => rfl | refine AllP.c ?_ ?_)
          all_goals (try dsimp only)
          all_goals first | exact rfl | first | omega | exact at_tr _ _ (by omega) | exact at_s _ _ (by omega) | exact dt (by omega) | exact df (by omega) | exact decide_eq_true (by omega) | exact decide_eq_false (by omega) | exact bts_t (by assumption) | exact bts_f (by assumption) | (unfold InR; omega) | exact at_u a i hlt | exact at_u b i hlt' | (simp; omega) | trace_state
        refine ⟨_, _, rfl, ?_, ?_⟩
        · repeat' (first | exact AllP.n | exact trivial | exact DrawB.mk (by decide +kernel) | exact fun _ => rfl | refine AllP.c ?_ ?_)
          all_goals (try dsimp only)
          all_goals first | exact rfl | first | omega | exact at_tr _ _ (by omega) | exact at_s _ _ (by omega) | exact dt (by omega) | exact df (by omega) | exact decide_eq_true (by omega) | exact decide_eq_false (by omega) | exact bts_t (by assumption) | exact bts_f (by assumption) | (unfold InR; omega) | trace_state
        · rw [decide_eq_false hne]; exact .refl _
    · have heq : a = b := by
        have e1 : i = a.length := by omega
        rw [e1, List.take_length, hl, List.take_length] at ht
        exact ht
      refine H.go 60 [] [(14, false)] dr191 rfl ?_ ?_
      · repeat' (first | exact AllP.n | exact trivial | exact DrawB.mk (by decide +kernel) | exact fun _ => rfl | refine AllP.c ?_ ?_)
        all_goals (try dsimp only)
        all_goals first | exact rfl | first | omega | exact at_tr _ _ (by omega) | exact at_s _ _ (by omega) | exact dt (by omega) | exact df (by omega) | exact decide_eq_true (by omega) | exact decide_eq_false (by omega) | exact bts_t (by assumption) | exact bts_f (by assumption) | (unfold InR; omega) | trace_state
      refine H.go 60 [] [] dr191 rfl ?_ ?_
      · repeat' (first | exact AllP.n | exact trivial | exact DrawB.mk (by decide +kernel) | exact fun _ => rfl | refine AllP.c ?_ ?_)
        all_goals (try dsimp only)
        all_goals first | exact rfl | first | omega | exact at_tr _ _ (by omega) | exact at_s _ _ (by omega) | exact dt (by omega) | exact df (by omega) | exact decide_eq_true (by omega) | exact decide_eq_false (by omega) | exact bts_t (by assumption) | exact bts_f (by assumption) | (unfold InR; omega) | trace_state
      refine ⟨_, _, rfl, ?_, ?_⟩
      · repeat' (first | exact AllP.n | exact trivial | exact DrawB.mk (by decide +kernel) | exact fun _ => rfl | refine AllP.c ?_ ?_)
        all_goals (try dsimp only)
        all_goals first | exact rfl | first | omega | exact at_tr _ _ (by omega) | exact at_s _ _ (by omega) | exact dt (by omega) | exact df (by omega) | exact decide_eq_true (by omega) | exact decide_eq_false (by omega) | exact bts_t (by assumption) | exact bts_f (by assumption) | (unfold InR; omega) | trace_state
      · rw [decide_eq_true heq]; exact .refl _
  · have hne : a ≠ b := fun h => hl (by rw [h])
    refine H.go 60 [] [(10, true)] dr191 rfl ?_ ?_
    · repeat' (first | exact AllP.n | exact trivial | exact DrawB.mk (by decide +kernel) | exact fun _ => rfl | refine AllP.c ?_ ?_)
      all_goals (try dsimp only)
      all_goals first | exact rfl | first | omega | exact at_tr _ _ (by omega) | exact at_s _ _ (by omega) | exact dt (by omega) | exact df (by omega) | exact decide_eq_true (by omega) | exact decide_eq_false (by omega) | exact bts_t (by assumption) | exact bts_f (by assumption) | (unfold InR; omega) | (simp; omega) | trace_state
    refine ⟨_, _, rfl, ?_, ?_⟩
    · repeat' (first | exact AllP.n | exact trivial | exact DrawB.mk (by decide +kernel) | exact fun _ => rfl | refine AllP.c ?_ ?_)
      all_goals (try dsimp only)
      all_goals first | exact rfl | first | omega | exact at_tr _ _ (by omega) | exact at_s _ _ (by omega) | exact dt (by omega) | exact df (by omega) | exact decide_eq_true (by omega) | exact decide_eq_false (by omega) | exact bts_t (by assumption) | exact bts_f (by assumption) | (unfold InR; omega) | trace_state
    · rw [decide_eq_false hne]; exact .refl _
theorem equalS_ct (a b : List ByteArray) (hla : a.length < 2^40) (hlb : b.length < 2^40) : Pure Go.Proofs.Tryz.prog 103 [.sl 1 a.length (a.map D.s), .sl 1 b.length (b.map D.s)] (.ret (.b (decide (a = b)))) := by
  refine Pure.body tys_valid (fn := Go.Proofs.Tryz.f103) (by kernel_rfl) rfl (by kernel_rfl) rfl ?_
  intro w ok giv E0 _ hE
  by_cases hl : a.length = b.length
  · refine H.go 60 [] [(10, false)] dr103 rfl ?_ ?_
    · repeat' (first | exact AllP.n | exact trivial | exact DrawB.mk (by decide +kernel) | exact fun _ => rfl | refine AllP.c ?_ ?_)
      all_goals (try dsimp only)
      all_goals first | exact rfl | first | omega | exact at_tr _ _ (by omega) | exact at_s _ _ (by omega) | exact dt (by omega) | exact df (by omega) | exact decide_eq_true (by omega) | exact decide_eq_false (by omega) | exact bts_t (by assumption) | exact bts_f (by assumption) | (unfold InR; omega) | (simp [hl]; done) | trace_state
    refine H.loopI (fun i : Nat => i ≤ a.length ∧ a.take i = b.take i) (fun i => ⟨[(0, .sl 1 a.length (a.map D.s)), (1, .sl 1 b.length (b.map D.s)), (12, .i .i64 (a.length : Nat)), (13, .i .i64 (i : Nat))], [], 0⟩) (fun i => a.length - i) 0 ⟨Nat.zero_le _, by simp⟩ ?_ ?_
    · intro a w s
      refine s.ren hE [] ?_ ?_ rfl
      · repeat' (first | exact trivial | exact rfl | apply And.intro)
      · repeat' (first | exact trivial | exact rfl | apply And.intro)
    rintro i ⟨hi, ht⟩
    by_cases hlt : i < a.length
    · have hlt' : i < b.length := by omega
      by_cases he : a[i] = b[i]
      · refine H.go 60 [(6, [(3, .cell (.s a[i])), (7, .cell (.s b[i]))])] [(14, true), (24, false)] dr103 rfl ?_ ?_
        · repeat' (first | exact AllP.n | exact trivial | exact DrawB.mk (by decide +kernel) | exact fun _ => rfl | refine AllP.c ?_ ?_)
          all_goals (try dsimp only)
          all_goals first | exact rfl | first | omega | exact at_tr _ _ (by omega) | exact at_s _ _ (by omega) | exact dt (by omega) | exact df (by omega) | exact decide_eq_true (by omega) | exact decide_eq_false (by omega) | exact bts_t (by assumption) | exact bts_f (by assumption) | (unfold InR; omega) | exact at_s a i hlt | exact at_s b i hlt' | (rw [bts_eq]; simp [he]; done) | trace_state
        refine loopN (i + 1) ⟨by omega, by rw [List.take_succ_eq_append_getElem hlt, List.take_succ_eq_append_getElem hlt', ht, he]⟩ (by show a.length - (i + 1) < a.length - i; omega) fun a w s => s.ren hE [] ?_ ?_ rfl
        · repeat' (first | exact trivial | exact rfl | apply And.intro)
        · repeat' (first | exact trivial | exact rfl | apply And.intro)
      · have hne : a ≠ b := fun h => he (by subst h; rfl)
        refine H.go 60 [(6, [(3, .cell (.s a[i])), (7, .cell (.s b[i]))])] [(14, true), (24, true)] dr103 rfl ?_ ?_
        · repeat' (first | exact AllP.n | exact trivial | exact DrawB.mk (by decide +kernel) | exact fun _ => rfl | refine AllP.c ?_ ?_)
          all_goals (try dsimp only)
          all_goals first | exact rfl | first | omega | exact at_tr _ _ (by omega) | exact at_s _ _ (by omega) | exact dt (by omega) | exact df (by omega) | exact decide_eq_true (by omega) | exact decide_eq_false (by omega) | exact bts_t (by assumption) | exact bts_f (by assumption) | (unfold InR; omega) | exact at_s a i hlt | exact at_s b i hlt' | (rw [bts_eq]; simp [he]; done) | trace_state
        refine ⟨_, _, rfl, ?_, ?_⟩
        · repeat' (first | exact AllP.n | exact trivial | exact DrawB.mk (by decide +kernel) | exact fun _ => rfl | refine AllP.c ?_ ?_)
          all_goals (try dsimp only)
          all_goals first | exact rfl | first | omega | exact at_tr _ _ (by omega) | exact at_s _ _ (by omega) | exact dt (by omega) | exact df (by omega) | exact decide_eq_true (by omega) | exact decide_eq_false (by omega) | exact bts_t (by assumption) | exact bts_f (by assumption) | (unfold InR; omega) | trace_state
        · rw [decide_eq_false hne]; exact .refl _
    · have heq : a = b := by
        have e1 : i = a.length := by omega
        rw [e1, List.take_length, hl, List.take_length] at ht
        exact ht
      refine H.go 60 [] [(14, false)] dr103 rfl ?_ ?_
      · repeat' (first | exact AllP.n | exact trivial | exact DrawB.mk (by decide +kernel) | exact fun _ => rfl | refine AllP.c ?_ ?_)
        all_goals (try dsimp only)
        all_goals first | exact rfl | first | omega | exact at_tr _ _ (by omega) | exact at_s _ _ (by omega) | exact dt (by omega) | exact df (by omega) | exact decide_eq_true (by omega) | exact decide_eq_false (by omega) | exact bts_t (by assumption) | exact bts_f (by assumption) | (unfold InR; omega) | trace_state
      refine H.go 60 [] [] dr103 rfl ?_ ?_
      · repeat' (first | exact AllP.n | exact trivial | exact DrawB.mk (by decide +kernel) | exact fun _ => rfl | refine AllP.c ?_ ?_)
        all_goals (try dsimp only)
        all_goals first | exact rfl | first | omega | exact at_tr _ _ (by omega) | exact at_s _ _ (by omega) | exact dt (by omega) | exact df (by omega) | exact decide_eq_true (by omega) | exact decide_eq_false (by omega) | exact bts_t (by assumption) | exact bts_f (by assumption) | (unfold InR; omega) | trace_state
      refine ⟨_, _, rfl, ?_, ?_⟩
      · repeat' (first | exact AllP.n | exact trivial | exact DrawB.mk (by decide +kernel) | exact fun _ => rfl | refine AllP.c ?_ ?_)
        all_goals (try dsimp only)
        all_goals first | exact rfl | first | omega | exact at_tr _ _ (by omega) | exact at_s _ _ (by omega) | exact dt (by omega) | exact df (by omega) | exact decide_eq_true (by omega) | exact decide_eq_false (by omega) | exact bts_t (by assumption) | exact bts_f (by assumption) | (unfold InR; omega) | trace_state
      · rw [decide_eq_true heq]; exact .refl _
  · have hne : a ≠ b := fun h => hl (by rw [h])
    refine H.go 60 [] [(10, true)] dr103 rfl ?_ ?_
    · repeat' (first | exact AllP.n | exact trivial | exact DrawB.mk (by decide +kernel) | exact fun _ => rfl | refine AllP.c ?_ ?_)
      all_goals (try dsimp only)
      all_goals first | exact rfl | first | omega | exact at_tr _ _ (by omega) | exact at_s _ _ (by omega) | exact dt (by omega) | exact df (by omega) | exact decide_eq_true (by omega) | exact decide_eq_false (by omega) | exact bts_t (by assumption) | exact bts_f (by assumption) | (unfold InR; omega) | (simp; omega) | trace_state
    refine ⟨_, _, rfl, ?_, ?_⟩
    · repeat' (first | exact AllP.n | exact trivial | exact DrawB.mk (by decide +kernel) | exact fun _ => rfl | refine AllP.c ?_ ?_)
      all_goals (try dsimp only)
      all_goals first | exact rfl | first | omega | exact at_tr _ _ (by omega) | exact at_s _ _ (by omega) | exact dt (by omega) | exact df (by omega) | exact decide_eq_true (by omega) | exact decide_eq_false (by omega) | exact bts_t (by assumption) | exact bts_f (by assumption) | (unfold InR; omega) | trace_state
    · rw [decide_eq_false hne]; exact .refl _
end Go.Px
end

section
namespace Go.Px
open Go.RowKit

def sameM (a b : Nm) : Bool := decide (a.neg = b.neg ∧ a.e = b.e ∧ a.m = b.m)
theorem NOK.canon {a b : Nm} (ha : NOK a) (hb : NOK b) : (lv a.m = lv b.m) ↔ (a.m = b.m) := by
  have key : ∀ {n : Nm}, NOK n → n.m = limbs (lv n.m) := by
    intro n h
    rcases h with h | ⟨v, _, _, hm, _⟩
    · subst h; simp only [lv]; rw [limbs_zero]
    · rw [hm, lv_limbs]
  exact ⟨fun h => by rw [key ha, key hb, h], fun h => by rw [h]⟩
theorem sameM_eq {a b : Nm} (ha : NOK a) (hb : NOK b) : sameN a b = sameM a b := by
  unfold sameN sameM
  rw [decide_eq_decide, NOK.canon ha hb]
theorem sameM_iff {a b : Nm} : sameM a b = true ↔ a = b := by
  obtain ⟨n1, m1, e1⟩ := a
  obtain ⟨n2, m2, e2⟩ := b
  simp only [sameM, decide_eq_true_eq, Nm.mk.injEq]
  exact ⟨fun h => ⟨h.1, h.2.2, h.2.1⟩, fun h => ⟨h.1, h.2.2, h.2.1⟩⟩
theorem sameM_ok (a b : Nm) (ha : NOK a) (hb : NOK b) : Pure Go.Proofs.Tryz.prog 137 [.ag (encN a), .ag (encN b)] (.ret (.b (sameM a b))) := by
  have ca := ofn_ok a ha
  have cb := ofn_ok b hb
  have cc := equalU_ct a.m b.m (by have := ha.limb.2; omega) (by have := hb.limb.2; omega)
  refine Pure.body tys_valid (fn := Go.Proofs.Tryz.f137) (by kernel_rfl) rfl (by kernel_rfl) rfl ?_
  intro w ok giv E0 _ hE
  by_cases hn : a.neg = b.neg
  · by_cases he : a.e = b.e
    · refine H.go 60 [(1, [(1, .res (.ret (.ag (encN a)))), (3, .res (.ret (.ag (encN b))))]), (2, [(5, .gd true), (12, .gd true), (17, .res (.ret (.b (decide (a.m = b.m)))))])] [] dr137 rfl ?_ ?_
      · repeat' (first | exact AllP.n | exact trivial | exact DrawB.mk (by decide +kernel) | exact fun _ => rfl | refine AllP.c ?_ ?_)
        all_goals (try dsimp only)
        all_goals first | exact rfl | first | omega | exact at_tr _ _ (by omega) | exact at_s _ _ (by omega) | exact dt (by omega) | exact df (by omega) | exact decide_eq_true (by omega) | exact decide_eq_false (by omega) | exact bts_t (by assumption) | exact bts_f (by assumption) | (unfold InR; omega) | exact ca | exact cb | exact cc | (refine ⟨trivial, ?_⟩; simp [hn]; done) | (refine ⟨trivial, ?_⟩; simp [he]; done) | trace_state
      refine ⟨_, _, rfl, ?_, ?_⟩
      · repeat' (first | exact AllP.n | exact trivial | exact DrawB.mk (by decide +kernel) | exact fun _ => rfl | refine AllP.c ?_ ?_)
        all_goals (try dsimp only)
        all_goals first | exact rfl | first | omega | exact at_tr _ _ (by omega) | exact at_s _ _ (by omega) | exact dt (by omega) | exact df (by omega) | exact decide_eq_true (by omega) | exact decide_eq_false (by omega) | exact bts_t (by assumption) | exact bts_f (by assumption) | (unfold InR; omega) | trace_state
      · rw [show sameM a b = decide (a.m = b.m) from by simp [sameM, hn, he]]
        exact .refl _

    · refine H.go 60 [(1, [(1, .res (.ret (.ag (encN a)))), (3, .res (.ret (.ag (encN b))))]), (2, [(5, .gd true), (12, .gd false)])] [] dr137 rfl ?_ ?_
      · repeat' (first | exact AllP.n | exact trivial | exact DrawB.mk (by decide +kernel) | exact fun _ => rfl | refine AllP.c ?_ ?_)
        all_goals (try dsimp only)
        all_goals first | exact rfl | first | omega | exact at_tr _ _ (by omega) | exact at_s _ _ (by omega) | exact dt (by omega) | exact df (by omega) | exact decide_eq_true (by omega) | exact decide_eq_false (by omega) | exact bts_t (by assumption) | exact bts_f (by assumption) | (unfold InR; omega) | exact ca | exact cb | exact cc | (refine ⟨trivial, ?_⟩; simp [hn]; done) | (refine ⟨trivial, ?_⟩; simp [he]; done) | trace_state
      refine ⟨_, _, rfl, ?_, ?_⟩
      · repeat' (first | exact AllP.n | exact trivial | exact DrawB.mk (by decide +kernel) | exact fun _ => rfl | refine AllP.c ?_ ?_)
        all_goals (try dsimp only)
        all_goals first | exact rfl | first | omega | exact at_tr _ _ (by omega) | exact at_s _ _ (by omega) | exact dt (by omega) | exact df (by omega) | exact decide_eq_true (by omega) | exact decide_eq_false (by omega) | exact bts_t (by assumption) | exact bts_f (by assumption) | (unfold InR; omega) | trace_state
      · rw [show sameM a b = false from by simp [sameM, hn, he]]
        exact .refl _
  · refine H.go 60 [(1, [(1, .res (.ret (.ag (encN a)))), (3, .res (.ret (.ag (encN b))))]), (2, [(5, .gd false), (12, .gd false)])] [] dr137 rfl ?_ ?_
    · repeat' (first | exact AllP.n | exact trivial | exact DrawB.mk (by decide +kernel) | exact fun _ => rfl | refine AllP.c ?_ ?_)
      all_goals (try dsimp only)
      all_goals first | exact rfl | first | omega | exact at_tr _ _ (by omega) | exact at_s _ _ (by omega) | exact dt (by omega) | exact df (by omega) | exact decide_eq_true (by omega) | exact decide_eq_false (by omega) | exact bts_t (by assumption) | exact bts_f (by assumption) | (unfold InR; omega) | exact ca | exact cb | exact cc | (refine ⟨trivial, ?_⟩; simp [hn]; done) | (refine ⟨trivial, ?_⟩; simp [he]; done) | trace_state
    refine ⟨_, _, rfl, ?_, ?_⟩
    · repeat' (first | exact AllP.n | exact trivial | exact DrawB.mk (by decide +kernel) | exact fun _ => rfl | refine AllP.c ?_ ?_)
      all_goals (try dsimp only)
      all_goals first | exact rfl | first | omega | exact at_tr _ _ (by omega) | exact at_s _ _ (by omega) | exact dt (by omega) | exact df (by omega) | exact decide_eq_true (by omega) | exact decide_eq_false (by omega) | exact bts_t (by assumption) | exact bts_f (by assumption) | (unfold InR; omega) | trace_state
    · rw [show sameM a b = false from by simp [sameM, hn]]
      exact .refl _
end Go.Px
end

section
namespace Go.Px
open Go.RowKit

/-- A value, as an object. -/
def objOf (t : Tr) : Tr := if t.kind = 7 then t else .mk 7 false num0 ⟨#[]⟩ [] []
theorem wk_obj0 : Wk (.ag [.i .i64 7, .b false, .b false, .nils, .i .i64 0, .s ⟨#[]⟩, .nils, .nils]) (.ag (enc (.mk 7 false num0 ⟨#[]⟩ [] []))) := by
  unfold enc
  simp only [num0, Tr.kind, Tr.b, Tr.n, Tr.s, Tr.k, Tr.v, List.map_nil, List.length_nil, encs_nil]
  exact .ag (.cons (.refl _) (.cons (.refl _) (.cons (.refl _) (.cons (.nils 1) (.cons (.refl _) (.cons (.refl _) (.cons (.nils 1) (.cons (.nils 8) .nil))))))))
theorem object_ct (t : Tr) : Pure Go.Proofs.Tryz.prog 108 [.ag (enc t)] (.ret (.ag (enc (objOf t)))) := by
  refine Pure.body tys_valid (fn := Go.Proofs.Tryz.f108) (by kernel_rfl) rfl (by kernel_rfl) rfl ?_
  intro w ok giv E0 _ hE
  unfold objOf
  by_cases hk : t.kind = 7
  · rw [if_pos hk]
    refine H.go 60 [] [(5, false)] dr108 rfl ?_ ?_
    · repeat' (first | exact AllP.n | exact trivial | exact DrawB.mk (by decide +kernel) | exact fun _ => rfl | refine AllP.c ?_ ?_)
      all_goals (try dsimp only)
      all_goals first | exact rfl | first | omega | exact at_tr _ _ (by omega) | exact at_s _ _ (by omega) | exact dt (by omega) | exact df (by omega) | exact decide_eq_true (by omega) | exact decide_eq_false (by omega) | exact bts_t (by assumption) | exact bts_f (by assumption) | (unfold InR; omega) | (simp [hk]; done) | trace_state
    refine ⟨_, _, rfl, ?_, ?_⟩
    · repeat' (first | exact AllP.n | exact trivial | exact DrawB.mk (by decide +kernel) | exact fun _ => rfl | refine AllP.c ?_ ?_)
      all_goals (try dsimp only)
      all_goals first | exact rfl | first | omega | exact at_tr _ _ (by omega) | exact at_s _ _ (by omega) | exact dt (by omega) | exact df (by omega) | exact decide_eq_true (by omega) | exact decide_eq_false (by omega) | exact bts_t (by assumption) | exact bts_f (by assumption) | (unfold InR; omega) | trace_state
    · exact .refl _
  · rw [if_neg hk]
    refine H.go 60 [] [(5, true)] dr108 rfl ?_ ?_
    · repeat' (first | exact AllP.n | exact trivial | exact DrawB.mk (by decide +kernel) | exact fun _ => rfl | refine AllP.c ?_ ?_)
      all_goals (try dsimp only)
      all_goals first | exact rfl | first | omega | exact at_tr _ _ (by omega) | exact at_s _ _ (by omega) | exact dt (by omega) | exact df (by omega) | exact decide_eq_true (by omega) | exact decide_eq_false (by omega) | exact bts_t (by assumption) | exact bts_f (by assumption) | (unfold InR; omega) | (simp [hk]; done) | trace_state
    refine ⟨_, _, rfl, ?_, ?_⟩
    · repeat' (first | exact AllP.n | exact trivial | exact DrawB.mk (by decide +kernel) | exact fun _ => rfl | refine AllP.c ?_ ?_)
      all_goals (try dsimp only)
      all_goals first | exact rfl | first | omega | exact at_tr _ _ (by omega) | exact at_s _ _ (by omega) | exact dt (by omega) | exact df (by omega) | exact decide_eq_true (by omega) | exact decide_eq_false (by omega) | exact bts_t (by assumption) | exact bts_f (by assumption) | (unfold InR; omega) | trace_state
    · exact wk_obj0
end Go.Px
end

section
namespace Go.Px
open Go.RowKit

theorem isNaN_ct (x : ByteArray) : Pure Go.Proofs.Tryz.prog 166 [.s x] (.ret (.b false)) := by
  refine Pure.body tys_valid (fn := Go.Proofs.Tryz.f166) (by kernel_rfl) rfl (by kernel_rfl) rfl ?_
  intro w ok giv E0 _ hE
  have h : (!(x.toList == x.toList)) = false := by simp
  refine H.go 60 [(1, [(2, .gd false)])] [] dr166 rfl ?_ ?_
  · repeat' (first | exact AllP.n | exact trivial | exact DrawB.mk (by decide +kernel) | exact fun _ => rfl | refine AllP.c ?_ ?_)
    all_goals (try dsimp only)
    all_goals first | exact rfl | first | omega | exact at_tr _ _ (by omega) | exact at_s _ _ (by omega) | exact dt (by omega) | exact df (by omega) | exact decide_eq_true (by omega) | exact decide_eq_false (by omega) | exact bts_t (by assumption) | exact bts_f (by assumption) | (unfold InR; omega) | exact ⟨trivial, h⟩ | trace_state
  refine ⟨_, _, rfl, ?_, ?_⟩
  · repeat' (first | exact AllP.n | exact trivial | exact DrawB.mk (by decide +kernel) | exact fun _ => rfl | refine AllP.c ?_ ?_)
    all_goals (try dsimp only)
    all_goals first | exact rfl | first | omega | exact at_tr _ _ (by omega) | exact at_s _ _ (by omega) | exact dt (by omega) | exact df (by omega) | exact decide_eq_true (by omega) | exact decide_eq_false (by omega) | exact bts_t (by assumption) | exact bts_f (by assumption) | (unfold InR; omega) | trace_state
  · exact .refl _
theorem less_ct (x y : ByteArray) : Pure Go.Proofs.Tryz.prog 237 [.s x, .s y] (.ret (.b (Op.bytesLess x.toList y.toList))) := by
  have hc := isNaN_ct x
  refine Pure.body tys_valid (fn := Go.Proofs.Tryz.f237) (by kernel_rfl) rfl (by kernel_rfl) rfl ?_
  intro w ok giv E0 _ hE
  refine H.go 60 [(1, [(1, .res (.ret (.b false)))])] [] dr237 rfl ?_ ?_
  · repeat' (first | exact AllP.n | exact trivial | exact DrawB.mk (by decide +kernel) | exact fun _ => rfl | refine AllP.c ?_ ?_)
    all_goals (try dsimp only)
    all_goals first | exact rfl | first | omega | exact at_tr _ _ (by omega) | exact at_s _ _ (by omega) | exact dt (by omega) | exact df (by omega) | exact decide_eq_true (by omega) | exact decide_eq_false (by omega) | exact bts_t (by assumption) | exact bts_f (by assumption) | (unfold InR; omega) | exact hc | trace_state
  refine ⟨_, _, rfl, ?_, ?_⟩
  · repeat' (first | exact AllP.n | exact trivial | exact DrawB.mk (by decide +kernel) | exact fun _ => rfl | refine AllP.c ?_ ?_)
    all_goals (try dsimp only)
    all_goals first | exact rfl | first | omega | exact at_tr _ _ (by omega) | exact at_s _ _ (by omega) | exact dt (by omega) | exact df (by omega) | exact decide_eq_true (by omega) | exact decide_eq_false (by omega) | exact bts_t (by assumption) | exact bts_f (by assumption) | (unfold InR; omega) | trace_state
  · exact .refl _
end Go.Px
end

section
namespace Go.Px
open Go.RowKit

def keepR (ι : List (Nat × Nat)) (hl' : List (Nat × Root)) : List (Nat × Root) → Bool
  | [] => true
  | (r, _) :: l => (Nat.beq (io ι r) r && okRef hl' 0 r) && keepR ι hl' l
theorem keepR_spec {ι : List (Nat × Nat)} {hl' : List (Nat × Root)} : ∀ {l : List (Nat × Root)}, keepR ι hl' l = true → ∀ r, (get l r).isSome = true → io ι r = r ∧ okRef hl' 0 r = true
  | [], _, r, h => by simp [get] at h
  | (q, Q) :: l, k, r, h => by
    simp only [keepR, Bool.and_eq_true] at k
    rw [get_cons] at h
    split at h
    · rename_i e; subst e; exact ⟨Nat.eq_of_beq_eq_true k.1.1, k.1.2⟩
    · exact keepR_spec k.2 r h
/-- What a function that turns its roots hands back: a value, or a reference to what it leaves. -/
def RetV (τ : List (Nat × TI)) (rs : List ResultVar) (d : D) (hl hl' : List (Nat × Root)) (st : St) : Prop :=
  ∃ ι ds qs h1 ds' ps, evRVs τ st rs = some (ds, qs) ∧ AllP qs ∧ frz st.h (refsL st.h 30 ds) = some h1 ∧ resL true h1 30 ds = some (ds', ps) ∧ AllP ps ∧ Wk (tupD ds') d ∧
    renH ι hl' 0 h1 hl' ∧ injR ι hl' = true ∧ keepR ι hl' hl = true
def RetR (τ : List (Nat × TI)) (rs : List ResultVar) (d : D) (hl hl' : List (Nat × Root)) (st : St) : Prop :=
  ∃ ι ds qs, evRVs τ st rs = some (ds, qs) ∧ AllP qs ∧ renD ι hl' 0 d (some (tupD ds)) ∧ renH ι hl' 0 st.h hl' ∧ injR ι hl' = true ∧ keepR ι hl' hl = true
def MutQ (τ : List (Nat × TI)) (rs : List ResultVar) (d : D) (hl hl' : List (Nat × Root)) : AX → St → Prop
  | .ret, st => RetV τ rs d hl hl' st ∨ RetR τ rs d hl hl' st
  | .normal, st => RetV τ rs d hl hl' st ∨ RetR τ rs d hl hl' st
  | _, _ => False
section
variable {P : Program} {τ : List (Nat × TI)}
theorem tup_results {fn : Func} {a : Act} {w : World} {E : Env} {vs : List Value} {ds : List D}
    (h : (fn.results.toList.mapM fun | .tmp t => pure (a.tmps.getD t undef) | .cell x t => do loadVar t (← asAddr (a.tmps.getD x undef)) : Sem (List Value)).run P w = .ok vs w) (hr : repVals E ds vs) :
    ∃ v, (results fn a.tmps).run P w = .ok v w ∧ rep E (tupD ds) v := by
  have hm : (fn.results.mapM fun | .tmp t => pure (a.tmps.getD t undef) | .cell x t => do loadVar t (← asAddr (a.tmps.getD x undef)) : Sem (Array Value)).run P w = .ok vs.toArray w := by
    rw [Array.mapM_eq_mapM_toList, Sem.run_map, h]
    rfl
  have e : (results fn a.tmps).run P w = (Result.ok vs.toArray w).andThen (fun (vs : Array Value) w' => Sem.run P (pure (if h : vs.size = 1 then vs[0] else .tuple vs)) w') := by
    unfold results
    rw [Sem.run_bind]
    exact congrArg (fun r => Result.andThen r _) hm
  rw [e]
  simp only [Result.andThen_ok, Sem.run_pure]
  refine ⟨_, rfl, ?_⟩
  have hl := repVals_length hr
  match ds, vs, hr, hl with
  | [], [], h2, _ =>
    rw [dif_neg (by simp)]
    simp only [tupD, rep]
    exact ⟨_, rfl, h2⟩
  | [d1], [v1], h2, _ =>
    simp only [repVals] at h2
    obtain ⟨_, _, e, h3, h4⟩ := h2
    cases e
    simpa [tupD] using h3
  | d1 :: d2 :: ds, v1 :: v2 :: vs, h2, _ =>
    rw [dif_neg (by simp)]
    simp only [tupD, rep]
    exact ⟨_, rfl, h2⟩
theorem Mut.body (hv : Valid P τ) {f : FuncId} {fn : Func} {c : Code} {ds : List D} {d : D} {hl hl' : List (Nat × Root)} (hf : P.funcs[f]? = some fn) (hb : fn.body = some c)
    (hname : (fn.name == "runtime.NumGoroutine") = false) (hn : Nat.ble ds.length fn.ntmps = true)
    (h : ∀ (w : World) (ok : Nat → Nat → Prop) (giv : Nat → Prop) (E0 : Env), (∀ r, E0.dom r → (get hl r).isSome = true) → H P ⟨w, ok, giv, fn.ntmps, E0, []⟩ c ⟨enumD 0 ds, hl, 0⟩ (MutQ τ fn.results.toList d hl hl')) :
    Mut P f ds hl d hl' := by
  refine ⟨⟨fn, hf, hname, by rw [hb]; rfl⟩, fun B a w ρ vs s hw hE hr => ?_⟩
  have hn := Nat.le_of_ble_eq_true hn
  refine calls_of_wp hf hb ?_
  have hlen := repVals_length hr
  let B' : Base := ⟨B.w, B.ok, B.giv, fn.ntmps, B.E0, []⟩
  have s0 : SatR B' ⟨enumD 0 ds, hl, 0⟩ { tmps := vs.toArray ++ Array.replicate (fn.ntmps - vs.toArray.size) undef, defers := [] } w ρ := by
    refine ⟨fun t d h => ?_, s.roots, s.inj, ?_, rfl, ⟨s.ext.os, s.ext.tape, s.ext.output, s.ext.size, s.ext.block⟩, s.fresh, s.le⟩
    · obtain ⟨_, hd⟩ := get_enumD h
      obtain ⟨v, h1, h2⟩ := (repVals_iff.1 hr).2 _ _ hd
      refine ⟨v, ?_, h2⟩
      have hlt : t < vs.length := by
        have := (List.getElem?_eq_some_iff.1 h1).1
        simpa using this
      show (vs.toArray ++ _)[t]? = some v
      rw [Array.getElem?_append_left (by simpa using hlt)]
      simpa using h1
    · simp [hlen]
      show ds.length + (fn.ntmps - ds.length) = fn.ntmps
      omega
  refine wp_mono (h B.w B.ok B.giv B.E0 hE _ _ ⟨ρ, s0⟩) fun e a' w' hq => ?_
  have back : ∀ {ρ2 : Nat → RC}, SatR B' ⟨[], hl', 0⟩ a' w' ρ2 → SatR B ⟨[], hl', 0⟩ a w' ρ2 := fun {ρ2} s2 =>
    ⟨fun t d h => by simp [get] at h, s2.roots, s2.inj, s.size, s.defs, ⟨s2.ext.os, s2.ext.tape, s2.ext.output, s2.ext.size, s2.ext.block⟩, s2.fresh, s2.le⟩
  have done : ∀ st', (RetV τ fn.results.toList d hl hl' st' ∨ RetR τ fn.results.toList d hl hl' st') → Sat B' st' a' w' → a'.defers = [] ∧ ∃ v, (results fn a'.tmps).run P w' = .ok v w' ∧
      ∃ u ρ', (Ending.returned v) = .returned u ∧ SatR B ⟨[], hl', 0⟩ a w' ρ' ∧ rep (St.env B ⟨[], hl', 0⟩ w' ρ') d u := by
    rintro st' hret ⟨ρ', s'⟩
    rcases hret with ⟨ι, ds1, qs, h1, ds', ps, q1, q2, q3, q4, q5, q6, q7, q8, q9⟩ | ⟨ι, ds1, qs, q1, q2, q3, q7, q8, q9⟩
    · obtain ⟨vs1, g1, g2⟩ := evRVs_sound hv s' q1 q2
      obtain ⟨s1, le1⟩ := SatR.frz _ s' q3
      have g3 := resL_sound s1 30 _ _ _ _ q4 q5 (repVals_mono le1 _ _ g2)
      obtain ⟨v, g4, g5⟩ := tup_results g1 g3
      obtain ⟨s2, le2, _⟩ := s1.ren2 (B := B') (st := ⟨st'.σ, h1, st'.nx⟩) (σ' := []) (h' := hl') (nx' := 0) ι trivial q7 q8 (fun r hr => keepR_spec q9 r (hE r hr))
      refine ⟨s'.defs, v, g4, v, _, rfl, back s2, ?_⟩
      have g6 := q6.rep v g5
      simp only [lend] at g6
      exact rep_of_pure (rep_mono le2 _ _ g6)
    · obtain ⟨vs1, g1, g2⟩ := evRVs_sound hv s' q1 q2
      obtain ⟨v, g4, g5⟩ := tup_results g1 g2
      obtain ⟨s2, le2, ren⟩ := s'.ren2 (B := B') (σ' := []) (h' := hl') (nx' := 0) ι trivial q7 q8 (fun r hr => keepR_spec q9 r (hE r hr))
      exact ⟨s'.defs, v, g4, v, _, rfl, back s2, ren q3 g5⟩
  cases e with
  | normal => obtain ⟨st', h1, h2⟩ := hq; exact done st' h1 h2
  | ret => obtain ⟨st', h1, h2⟩ := hq; exact done st' h1 h2
  | exit id => obtain ⟨st', h1, _⟩ := hq; exact h1.elim
  | goto l => exact hq.elim
  | outgrown => exact hq.elim
  | panic chain => obtain ⟨st', d', v, ρ', _, h1, _⟩ := hq; exact h1.elim
end
end Go.Px
end

