/-
  What the functions that the statement reaches compute, proved (contracts of functions and the lemmas for them), a part of the proof. No conditions beyond those that each theorem names.
-/
import Derived.Test.YtakligfpajogkaaGreatDoorPartK
set_option linter.unusedVariables false
set_option linter.unusedSimpArgs false

section
namespace Go.Px
open Go.RowKit

structure AX2 where
  i : Nat
  cv : List D
  g : Nat
  m : List Int
def AS (d v : Nat) : AX2 → St
  | ⟨i, cv, g, m⟩ => ⟨[(0, .sl 1 m.length (m.map iD)), (1, .i .i64 ((d + 1 : Nat) : Int)), (4, .oa 0 0), (6, .i .i64 v), (8, .oa 1 0), (9, .i .i64 i)],
   [(0, ⟨30, 1, [.i .i64 0, .b false, .b false, .nils, .i .i64 0, .s ⟨#[]⟩, .nils, .nils], 0, true, false, true⟩), (1, ⟨30, 1, [.i .i64 6, .b false, .b false, .nils, .i .i64 0, .s ⟨#[]⟩, .nils, .os 21 0 i], 0, true, false, true⟩), (21, ⟨30, 8, cv, g, true, false, false⟩)], 0⟩
def OS (d v : Nat) : Nat × List (ByteArray × Tr) × List Int → St
  | (i, l, m) => ⟨[(0, .sl 1 m.length (m.map iD)), (1, .i .i64 ((d + 1 : Nat) : Int)), (4, .oa 0 0), (6, .i .i64 v), (12, .oa 1 0), (13, .i .i64 i)],
   [(0, ⟨30, 1, [.i .i64 0, .b false, .b false, .nils, .i .i64 0, .s ⟨#[]⟩, .nils, .nils], 0, true, false, true⟩), (1, ⟨30, 1, enc (obj l), 0, true, false, true⟩)], 0⟩
theorem obj_len (l : List (ByteArray × Tr)) : (obj l).k.length = l.length ∧ (obj l).v.length = l.length := by simp [obj, Tr.k, Tr.v]
theorem made_s6 (d : Nat) (x : Int) (r : List Int) (v : Nat) (hv : v < 1073741824) (hx : x % 1073741824 = v) (hc : v % 12 = 6) (hd : d + 1 ≤ 4) (hr : r.length < 2^40) (ih : ∀ l : List Int, l.length < 2^40 → ∃ t r, GT d t ∧ r.length ≤ l.length ∧ MP d l t r) :
    ∃ t m, GT (d + 1) t ∧ m.length ≤ r.length ∧ MP (d + 1) (x :: r) t m := by
  have hp := place_ct x 1073741824 (by omega) (by omega)
  rw [hx] at hp
  -- what the rounds come to
  have rounds : ∀ k : Nat, ∃ (ts : List Tr) (m : List Int), ts.length = k ∧ (∀ u ∈ ts, GT d u) ∧ m.length ≤ r.length ∧ ∃ f : Nat → List Int, f 0 = r ∧ f k = m ∧ (∀ j, (f j).length ≤ r.length) ∧ ∀ (j : Nat) (h : j < ts.length), MP d (f j) ts[j] (f (j + 1)) := by
    intro k
    induction k with
    | zero => exact ⟨[], r, rfl, fun u h => by simp at h, Nat.le_refl _, fun _ => r, rfl, rfl, fun _ => Nat.le_refl _, fun j h => by simp at h⟩
    | succ k ihk =>
      obtain ⟨ts, m, h1, h2, h3, f, f0, f1, f2, f3⟩ := ihk
      obtain ⟨t, m', g1, g2, g3⟩ := ih m (by omega)
      refine ⟨ts ++ [t], m', by simp [h1], fun u hu => ?_, by omega, fun j => if j ≤ k then f j else m', by simp [f0], by show (if k + 1 ≤ k then f (k + 1) else m') = m'; rw [if_neg (by omega)], fun j => ?_, fun j hj => ?_⟩
      · rcases List.mem_append.1 hu with hu | hu
        · exact h2 u hu
        · obtain rfl : u = t := by simpa using hu
          exact g1
      · by_cases hjk : j ≤ k
        · simp only [hjk, if_true]; exact f2 j
        · simp only [hjk, if_false]; omega
      · simp only [List.length_append, List.length_cons, List.length_nil] at hj
        by_cases hjk : j < k
        · have hj2 : j < ts.length := by omega
          rw [List.getElem_append_left hj2]
          have a1 : j ≤ k := by omega
          have a2 : j + 1 ≤ k := by omega
          simp only [a1, a2, if_true]
          exact f3 j hj2
        · have hjk : j = k := by omega
          subst hjk
          rw [List.getElem_append_right (by omega)]
          have a2 : ¬ (j + 1 ≤ j) := by omega
          simp only [Nat.le_refl, if_true, a2, if_false, h1, Nat.sub_self, List.getElem_cons_zero, f1]
          exact g3
  obtain ⟨ts, m, t1, t2, t3, f, f0, f1, f2, f3⟩ := rounds (v / 12 % 4)
  refine ⟨.mk 6 false N0 S0 [] ts, m, .inr (.inl ⟨ts, rfl, by omega, t2⟩), t3, ?_⟩
  unfold MP
  refine Pure.body tys_valid (fn := Go.Proofs.Tryz.f40) (by kernel_rfl) rfl (by kernel_rfl) rfl ?_
  intro w ok giv E0 _ hE
  refine H.go 200 [(3, [(3, .res (.ret (.i .i64 (v : Nat))))]), (5, [(1, .val (.i .i64 ((6 : Nat) : Int)))]), (6, [(1, .gd false)])] [(18, false), (33, false)] dr40 rfl ?_ ?_
  · repeat' (first | exact AllP.n | exact trivial | exact DrawB.mk (by decide +kernel) | exact fun _ => rfl | refine AllP.c ?_ ?_)
    all_goals (try dsimp only)
    all_goals try first | exact rfl | exact ⟨trivial, rfl⟩ | exact ⟨trivial, bts_t rfl⟩ | omega | exact at_tr _ _ (by omega) | exact at_s _ _ (by omega) | exact dt (by omega) | exact df (by omega) | exact decide_eq_true (by omega) | exact decide_eq_false (by omega) | exact bts_t (by assumption) | exact bts_f (by assumption) | (rw [bts_t (by assumption)]; rfl) | (rw [bts_f (by assumption)]; rfl) | (unfold InR; omega) | exact hp | (refine ⟨by omega, ?_⟩; rw [List.length_cons]; omega) | exact ⟨by unfold InR; omega, rfl⟩ | (refine ⟨?_, ?_⟩; exact trivial; exact ei (remN v 12)) | (refine ⟨?_, ?_⟩ <;> first | omega | exact ei (quoN v 12 (by omega))) | exact ⟨by omega, ei (remN _ _)⟩ | exact ⟨by omega, ei (quoN _ _ (by omega))⟩ | exact ⟨by omega, (ei (remN _ _)).trans (ei (by rw [hc]))⟩ | (simp; done) | exact (by assumption : MP _ _ _ _) | (refine ⟨trivial, ?_, ?_⟩ <;> (try simp) <;> omega) | (refine ⟨by unfold InR; omega, ei ?_⟩; omega) | exact ⟨trivial, wk_objn⟩ | exact SameH.of (by repeat' (first | exact trivial | exact rfl | apply And.intro)) (by repeat' (first | exact trivial | exact rfl | apply And.intro))
  refine H.loopI (fun y => y.i ≤ ts.length ∧ y.m = f y.i ∧ y.cv = encs (ts.take y.i)) (AS d v) (fun y => ts.length - y.i) ⟨0, [], 0, r⟩ ⟨Nat.zero_le _, f0.symm, by simp [encs_nil]⟩ ?_ ?_
  · intro a w s
    exact Sat.ren hE [] (by repeat' (first | exact trivial | exact rfl | apply And.intro)) (by repeat' (first | exact trivial | exact rfl | apply And.intro)) rfl (s.adoptC 1 7 21 30 8 rfl rfl rfl rfl rfl rfl)
  rintro ⟨i, cv, g, m1⟩ ⟨h1, h2, h3⟩
  simp only at h1 h2 h3
  subst h2 h3
  have hcv : (encs (ts.take i)).length = i * 8 := by rw [encs_len, List.length_take]; omega
  have hm := f2 i
  by_cases hi : i < ts.length
  · have hmp := f3 i hi
    have hmp2 : MP d (f i) ts[i] (f (i + 1)) := hmp
    refine H.go 200 [(25, [(2, .val (.i .i64 ((v / 12 : Nat) : Int))), (3, .val (.i .i64 ((v / 12 % 4 : Nat) : Int)))]), (27, [(2, .val (.i .i64 ((d : Nat) : Int))), (3, .res (.ret (.tup [.ag (enc ts[i]), .sl 1 (f (i + 1)).length ((f (i + 1)).map iD)])))])] [(84, true)] dr40 rfl ?_ ?_
    · repeat' (first | exact AllP.n | exact trivial | exact DrawB.mk (by decide +kernel) | exact fun _ => rfl | refine AllP.c ?_ ?_)
      all_goals (try dsimp only)
      all_goals try first | exact rfl | exact ⟨trivial, rfl⟩ | exact ⟨trivial, bts_t rfl⟩ | omega | exact at_tr _ _ (by omega) | exact at_s _ _ (by omega) | exact dt (by omega) | exact df (by omega) | exact decide_eq_true (by omega) | exact decide_eq_false (by omega) | exact bts_t (by assumption) | exact bts_f (by assumption) | (rw [bts_t (by assumption)]; rfl) | (rw [bts_f (by assumption)]; rfl) | (unfold InR; omega) | exact hp | (refine ⟨by omega, ?_⟩; rw [List.length_cons]; omega) | exact ⟨by unfold InR; omega, rfl⟩ | (refine ⟨?_, ?_⟩; exact trivial; exact ei (remN v 12)) | (refine ⟨?_, ?_⟩ <;> first | omega | exact ei (quoN v 12 (by omega))) | exact ⟨by omega, ei (remN _ _)⟩ | exact ⟨by omega, ei (quoN _ _ (by omega))⟩ | exact ⟨by omega, (ei (remN _ _)).trans (ei (by rw [hc]))⟩ | (simp; done) | exact (by assumption : MP _ _ _ _) | (refine ⟨trivial, ?_, ?_⟩ <;> (try simp) <;> omega) | (refine ⟨by unfold InR; omega, ei ?_⟩; omega) | exact ⟨trivial, wk_objn⟩ | exact SameH.of (by repeat' (first | exact trivial | exact rfl | apply And.intro)) (by repeat' (first | exact trivial | exact rfl | apply And.intro))
    exact loopN ⟨i + 1, encs (ts.take i) ++ enc ts[i], (encs (ts.take i)).length, f (i + 1)⟩ ⟨hi, rfl, by simp only; rw [List.take_succ_eq_append_getElem hi, encs_append, encs_cons, encs_nil, List.append_nil]⟩ (by show ts.length - (i + 1) < ts.length - i; omega) fun a w s => s.ren hE [(21, 3)] (by repeat' (first | exact trivial | exact rfl | apply And.intro)) (by repeat' (first | exact trivial | exact rfl | apply And.intro)) rfl
  · obtain rfl : i = ts.length := by omega
    rw [List.take_length] at hcv ⊢
    have hfm : f ts.length = m := by rw [t1]; exact f1
    rw [hfm]
    refine H.go 200 [(25, [(2, .val (.i .i64 ((v / 12 : Nat) : Int))), (3, .val (.i .i64 ((v / 12 % 4 : Nat) : Int)))])] [(84, false)] dr40 rfl ?_ ?_
    · repeat' (first | exact AllP.n | exact trivial | exact DrawB.mk (by decide +kernel) | exact fun _ => rfl | refine AllP.c ?_ ?_)
      all_goals (try dsimp only)
      all_goals try first | exact rfl | exact ⟨trivial, rfl⟩ | exact ⟨trivial, bts_t rfl⟩ | omega | exact at_tr _ _ (by omega) | exact at_s _ _ (by omega) | exact dt (by omega) | exact df (by omega) | exact decide_eq_true (by omega) | exact decide_eq_false (by omega) | exact bts_t (by assumption) | exact bts_f (by assumption) | (rw [bts_t (by assumption)]; rfl) | (rw [bts_f (by assumption)]; rfl) | (unfold InR; omega) | exact hp | (refine ⟨by omega, ?_⟩; rw [List.length_cons]; omega) | exact ⟨by unfold InR; omega, rfl⟩ | (refine ⟨?_, ?_⟩; exact trivial; exact ei (remN v 12)) | (refine ⟨?_, ?_⟩ <;> first | omega | exact ei (quoN v 12 (by omega))) | exact ⟨by omega, ei (remN _ _)⟩ | exact ⟨by omega, ei (quoN _ _ (by omega))⟩ | exact ⟨by omega, (ei (remN _ _)).trans (ei (by rw [hc]))⟩ | (simp; done) | exact (by assumption : MP _ _ _ _) | (refine ⟨trivial, ?_, ?_⟩ <;> (try simp) <;> omega) | (refine ⟨by unfold InR; omega, ei ?_⟩; omega) | exact ⟨trivial, wk_objn⟩ | exact SameH.of (by repeat' (first | exact trivial | exact rfl | apply And.intro)) (by repeat' (first | exact trivial | exact rfl | apply And.intro))
    refine H.go 200 [] [] dr40 rfl ?_ ?_
    · repeat' (first | exact AllP.n | exact trivial | exact DrawB.mk (by decide +kernel) | exact fun _ => rfl | refine AllP.c ?_ ?_)
      all_goals (try dsimp only)
      all_goals try first | exact rfl | exact ⟨trivial, rfl⟩ | exact ⟨trivial, bts_t rfl⟩ | omega | exact at_tr _ _ (by omega) | exact at_s _ _ (by omega) | exact dt (by omega) | exact df (by omega) | exact decide_eq_true (by omega) | exact decide_eq_false (by omega) | exact bts_t (by assumption) | exact bts_f (by assumption) | (rw [bts_t (by assumption)]; rfl) | (rw [bts_f (by assumption)]; rfl) | (unfold InR; omega) | exact hp | (refine ⟨by omega, ?_⟩; rw [List.length_cons]; omega) | exact ⟨by unfold InR; omega, rfl⟩ | (refine ⟨?_, ?_⟩; exact trivial; exact ei (remN v 12)) | (refine ⟨?_, ?_⟩ <;> first | omega | exact ei (quoN v 12 (by omega))) | exact ⟨by omega, ei (remN _ _)⟩ | exact ⟨by omega, ei (quoN _ _ (by omega))⟩ | exact ⟨by omega, (ei (remN _ _)).trans (ei (by rw [hc]))⟩ | (simp; done) | exact (by assumption : MP _ _ _ _) | (refine ⟨trivial, ?_, ?_⟩ <;> (try simp) <;> omega) | (refine ⟨by unfold InR; omega, ei ?_⟩; omega) | exact ⟨trivial, wk_objn⟩ | exact SameH.of (by repeat' (first | exact trivial | exact rfl | apply And.intro)) (by repeat' (first | exact trivial | exact rfl | apply And.intro))
    refine ⟨_, _, rfl, ?_, ?_⟩
    · repeat' (first | exact AllP.n | exact trivial | exact DrawB.mk (by decide +kernel) | exact fun _ => rfl | refine AllP.c ?_ ?_)
      all_goals (try dsimp only)
      all_goals try first | exact rfl | exact ⟨trivial, rfl⟩ | exact ⟨trivial, bts_t rfl⟩ | omega | exact at_tr _ _ (by omega) | exact at_s _ _ (by omega) | exact dt (by omega) | exact df (by omega) | exact decide_eq_true (by omega) | exact decide_eq_false (by omega) | exact bts_t (by assumption) | exact bts_f (by assumption) | (rw [bts_t (by assumption)]; rfl) | (rw [bts_f (by assumption)]; rfl) | (unfold InR; omega) | (simp [Root.idle, mulN_eq, encs_len]; done)
    · exact .tup (.cons (wk_arr ts) (.cons (.refl _) .nil))
theorem made_s7 (d : Nat) (x : Int) (r : List Int) (v : Nat) (hv : v < 1073741824) (hx : x % 1073741824 = v) (hc : v % 12 = 7) (hd : d + 1 ≤ 4) (hr : r.length < 2^40) (ih : ∀ l : List Int, l.length < 2^40 → ∃ t r, GT d t ∧ r.length ≤ l.length ∧ MP d l t r) :
    ∃ t m, GT (d + 1) t ∧ m.length ≤ r.length ∧ MP (d + 1) (x :: r) t m := by
  have hp := place_ct x 1073741824 (by omega) (by omega)
  rw [hx] at hp
  -- what the rounds come to
  have rounds : ∀ k : Nat, ∃ (ts : List Tr) (m : List Int), ts.length = k ∧ (∀ u ∈ ts, GT d u) ∧ m.length ≤ r.length ∧ ∃ f : Nat → List Int, f 0 = r ∧ f k = m ∧ (∀ j, (f j).length ≤ r.length) ∧ ∀ (j : Nat) (h : j < ts.length), MP d (f j) ts[j] (f (j + 1)) := by
    intro k
    induction k with
    | zero => exact ⟨[], r, rfl, fun u h => by simp at h, Nat.le_refl _, fun _ => r, rfl, rfl, fun _ => Nat.le_refl _, fun j h => by simp at h⟩
    | succ k ihk =>
      obtain ⟨ts, m, h1, h2, h3, f, f0, f1, f2, f3⟩ := ihk
      obtain ⟨t, m', g1, g2, g3⟩ := ih m (by omega)
      refine ⟨ts ++ [t], m', by simp [h1], fun u hu => ?_, by omega, fun j => if j ≤ k then f j else m', by simp [f0], by show (if k + 1 ≤ k then f (k + 1) else m') = m'; rw [if_neg (by omega)], fun j => ?_, fun j hj => ?_⟩
      · rcases List.mem_append.1 hu with hu | hu
        · exact h2 u hu
        · obtain rfl : u = t := by simpa using hu
          exact g1
      · by_cases hjk : j ≤ k
        · simp only [hjk, if_true]; exact f2 j
        · simp only [hjk, if_false]; omega
      · simp only [List.length_append, List.length_cons, List.length_nil] at hj
        by_cases hjk : j < k
        · have hj2 : j < ts.length := by omega
          rw [List.getElem_append_left hj2]
          have a1 : j ≤ k := by omega
          have a2 : j + 1 ≤ k := by omega
          simp only [a1, a2, if_true]
          exact f3 j hj2
        · have hjk : j = k := by omega
          subst hjk
          rw [List.getElem_append_right (by omega)]
          have a2 : ¬ (j + 1 ≤ j) := by omega
          simp only [Nat.le_refl, if_true, a2, if_false, h1, Nat.sub_self, List.getElem_cons_zero, f1]
          exact g3
  obtain ⟨ts, m, t1, t2, t3, f, f0, f1, f2, f3⟩ := rounds (v / 12 % 4)
  refine ⟨.mk 6 false N0 S0 [] ts, m, .inr (.inl ⟨ts, rfl, by omega, t2⟩), t3, ?_⟩
  unfold MP
  refine Pure.body tys_valid (fn := Go.Proofs.Tryz.f40) (by kernel_rfl) rfl (by kernel_rfl) rfl ?_
  intro w ok giv E0 _ hE
  refine H.go 200 [(3, [(3, .res (.ret (.i .i64 (v : Nat))))]), (5, [(1, .val (.i .i64 ((7 : Nat) : Int)))]), (6, [(1, .gd false)])] [(18, false), (33, false)] dr40 rfl ?_ ?_
  · repeat' (first | exact AllP.n | exact trivial | exact DrawB.mk (by decide +kernel) | exact fun _ => rfl | refine AllP.c ?_ ?_)
    all_goals (try dsimp only)
    all_goals try first | exact rfl | exact ⟨trivial, rfl⟩ | exact ⟨trivial, bts_t rfl⟩ | omega | exact at_tr _ _ (by omega) | exact at_s _ _ (by omega) | exact dt (by omega) | exact df (by omega) | exact decide_eq_true (by omega) | exact decide_eq_false (by omega) | exact bts_t (by assumption) | exact bts_f (by assumption) | (rw [bts_t (by assumption)]; rfl) | (rw [bts_f (by assumption)]; rfl) | (unfold InR; omega) | exact hp | (refine ⟨by omega, ?_⟩; rw [List.length_cons]; omega) | exact ⟨by unfold InR; omega, rfl⟩ | (refine ⟨?_, ?_⟩; exact trivial; exact ei (remN v 12)) | (refine ⟨?_, ?_⟩ <;> first | omega | exact ei (quoN v 12 (by omega))) | exact ⟨by omega, ei (remN _ _)⟩ | exact ⟨by omega, ei (quoN _ _ (by omega))⟩ | exact ⟨by omega, (ei (remN _ _)).trans (ei (by rw [hc]))⟩ | (simp; done) | exact (by assumption : MP _ _ _ _) | (refine ⟨trivial, ?_, ?_⟩ <;> (try simp) <;> omega) | (refine ⟨by unfold InR; omega, ei ?_⟩; omega) | exact ⟨trivial, wk_objn⟩ | exact SameH.of (by repeat' (first | exact trivial | exact rfl | apply And.intro)) (by repeat' (first | exact trivial | exact rfl | apply And.intro))
  refine H.loopI (fun y => y.i ≤ ts.length ∧ y.m = f y.i ∧ y.cv = encs (ts.take y.i)) (AS d v) (fun y => ts.length - y.i) ⟨0, [], 0, r⟩ ⟨Nat.zero_le _, f0.symm, by simp [encs_nil]⟩ ?_ ?_
  · intro a w s
    exact Sat.ren hE [] (by repeat' (first | exact trivial | exact rfl | apply And.intro)) (by repeat' (first | exact trivial | exact rfl | apply And.intro)) rfl (s.adoptC 1 7 21 30 8 rfl rfl rfl rfl rfl rfl)
  rintro ⟨i, cv, g, m1⟩ ⟨h1, h2, h3⟩
  simp only at h1 h2 h3
  subst h2 h3
  have hcv : (encs (ts.take i)).length = i * 8 := by rw [encs_len, List.length_take]; omega
  have hm := f2 i
  by_cases hi : i < ts.length
  · have hmp := f3 i hi
    have hmp2 : MP d (f i) ts[i] (f (i + 1)) := hmp
    refine H.go 200 [(25, [(2, .val (.i .i64 ((v / 12 : Nat) : Int))), (3, .val (.i .i64 ((v / 12 % 4 : Nat) : Int)))]), (27, [(2, .val (.i .i64 ((d : Nat) : Int))), (3, .res (.ret (.tup [.ag (enc ts[i]), .sl 1 (f (i + 1)).length ((f (i + 1)).map iD)])))])] [(84, true)] dr40 rfl ?_ ?_
    · repeat' (first | exact AllP.n | exact trivial | exact DrawB.mk (by decide +kernel) | exact fun _ => rfl | refine AllP.c ?_ ?_)
      all_goals (try dsimp only)
      all_goals try first | exact rfl | exact ⟨trivial, rfl⟩ | exact ⟨trivial, bts_t rfl⟩ | omega | exact at_tr _ _ (by omega) | exact at_s _ _ (by omega) | exact dt (by omega) | exact df (by omega) | exact decide_eq_true (by omega) | exact decide_eq_false (by omega) | exact bts_t (by assumption) | exact bts_f (by assumption) | (rw [bts_t (by assumption)]; rfl) | (rw [bts_f (by assumption)]; rfl) | (unfold InR; omega) | exact hp | (refine ⟨by omega, ?_⟩; rw [List.length_cons]; omega) | exact ⟨by unfold InR; omega, rfl⟩ | (refine ⟨?_, ?_⟩; exact trivial; exact ei (remN v 12)) | (refine ⟨?_, ?_⟩ <;> first | omega | exact ei (quoN v 12 (by omega))) | exact ⟨by omega, ei (remN _ _)⟩ | exact ⟨by omega, ei (quoN _ _ (by omega))⟩ | exact ⟨by omega, (ei (remN _ _)).trans (ei (by rw [hc]))⟩ | (simp; done) | exact (by assumption : MP _ _ _ _) | (refine ⟨trivial, ?_, ?_⟩ <;> (try simp) <;> omega) | (refine ⟨by unfold InR; omega, ei ?_⟩; omega) | exact ⟨trivial, wk_objn⟩ | exact SameH.of (by repeat' (first | exact trivial | exact rfl | apply And.intro)) (by repeat' (first | exact trivial | exact rfl | apply And.intro))
    exact loopN ⟨i + 1, encs (ts.take i) ++ enc ts[i], (encs (ts.take i)).length, f (i + 1)⟩ ⟨hi, rfl, by simp only; rw [List.take_succ_eq_append_getElem hi, encs_append, encs_cons, encs_nil, List.append_nil]⟩ (by show ts.length - (i + 1) < ts.length - i; omega) fun a w s => s.ren hE [(21, 3)] (by repeat' (first | exact trivial | exact rfl | apply And.intro)) (by repeat' (first | exact trivial | exact rfl | apply And.intro)) rfl
  · obtain rfl : i = ts.length := by omega
    rw [List.take_length] at hcv ⊢
    have hfm : f ts.length = m := by rw [t1]; exact f1
    rw [hfm]
    refine H.go 200 [(25, [(2, .val (.i .i64 ((v / 12 : Nat) : Int))), (3, .val (.i .i64 ((v / 12 % 4 : Nat) : Int)))])] [(84, false)] dr40 rfl ?_ ?_
    · repeat' (first | exact AllP.n | exact trivial | exact DrawB.mk (by decide +kernel) | exact fun _ => rfl | refine AllP.c ?_ ?_)
      all_goals (try dsimp only)
      all_goals try first | exact rfl | exact ⟨trivial, rfl⟩ | exact ⟨trivial, bts_t rfl⟩ | omega | exact at_tr _ _ (by omega) | exact at_s _ _ (by omega) | exact dt (by omega) | exact df (by omega) | exact decide_eq_true (by omega) | exact decide_eq_false (by omega) | exact bts_t (by assumption) | exact bts_f (by assumption) | (rw [bts_t (by assumption)]; rfl) | (rw [bts_f (by assumption)]; rfl) | (unfold InR; omega) | exact hp | (refine ⟨by omega, ?_⟩; rw [List.length_cons]; omega) | exact ⟨by unfold InR; omega, rfl⟩ | (refine ⟨?_, ?_⟩; exact trivial; exact ei (remN v 12)) | (refine ⟨?_, ?_⟩ <;> first | omega | exact ei (quoN v 12 (by omega))) | exact ⟨by omega, ei (remN _ _)⟩ | exact ⟨by omega, ei (quoN _ _ (by omega))⟩ | exact ⟨by omega, (ei (remN _ _)).trans (ei (by rw [hc]))⟩ | (simp; done) | exact (by assumption : MP _ _ _ _) | (refine ⟨trivial, ?_, ?_⟩ <;> (try simp) <;> omega) | (refine ⟨by unfold InR; omega, ei ?_⟩; omega) | exact ⟨trivial, wk_objn⟩ | exact SameH.of (by repeat' (first | exact trivial | exact rfl | apply And.intro)) (by repeat' (first | exact trivial | exact rfl | apply And.intro))
    refine H.go 200 [] [] dr40 rfl ?_ ?_
    · repeat' (first | exact AllP.n | exact trivial | exact DrawB.mk (by decide +kernel) | exact fun _ => rfl | refine AllP.c ?_ ?_)
      all_goals (try dsimp only)
      all_goals try first | exact rfl | exact ⟨trivial, rfl⟩ | exact ⟨trivial, bts_t rfl⟩ | omega | exact at_tr _ _ (by omega) | exact at_s _ _ (by omega) | exact dt (by omega) | exact df (by omega) | exact decide_eq_true (by omega) | exact decide_eq_false (by omega) | exact bts_t (by assumption) | exact bts_f (by assumption) | (rw [bts_t (by assumption)]; rfl) | (rw [bts_f (by assumption)]; rfl) | (unfold InR; omega) | exact hp | (refine ⟨by omega, ?_⟩; rw [List.length_cons]; omega) | exact ⟨by unfold InR; omega, rfl⟩ | (refine ⟨?_, ?_⟩; exact trivial; exact ei (remN v 12)) | (refine ⟨?_, ?_⟩ <;> first | omega | exact ei (quoN v 12 (by omega))) | exact ⟨by omega, ei (remN _ _)⟩ | exact ⟨by omega, ei (quoN _ _ (by omega))⟩ | exact ⟨by omega, (ei (remN _ _)).trans (ei (by rw [hc]))⟩ | (simp; done) | exact (by assumption : MP _ _ _ _) | (refine ⟨trivial, ?_, ?_⟩ <;> (try simp) <;> omega) | (refine ⟨by unfold InR; omega, ei ?_⟩; omega) | exact ⟨trivial, wk_objn⟩ | exact SameH.of (by repeat' (first | exact trivial | exact rfl | apply And.intro)) (by repeat' (first | exact trivial | exact rfl | apply And.intro))
    refine ⟨_, _, rfl, ?_, ?_⟩
    · repeat' (first | exact AllP.n | exact trivial | exact DrawB.mk (by decide +kernel) | exact fun _ => rfl | refine AllP.c ?_ ?_)
      all_goals (try dsimp only)
      all_goals try first | exact rfl | exact ⟨trivial, rfl⟩ | exact ⟨trivial, bts_t rfl⟩ | omega | exact at_tr _ _ (by omega) | exact at_s _ _ (by omega) | exact dt (by omega) | exact df (by omega) | exact decide_eq_true (by omega) | exact decide_eq_false (by omega) | exact bts_t (by assumption) | exact bts_f (by assumption) | (rw [bts_t (by assumption)]; rfl) | (rw [bts_f (by assumption)]; rfl) | (unfold InR; omega) | (simp [Root.idle, mulN_eq, encs_len]; done)
    · exact .tup (.cons (wk_arr ts) (.cons (.refl _) .nil))
theorem made_s8 (d : Nat) (x : Int) (r : List Int) (v : Nat) (hv : v < 1073741824) (hx : x % 1073741824 = v) (hc : v % 12 = 8) (hd : d + 1 ≤ 4) (hr : r.length < 2^40) (ih : ∀ l : List Int, l.length < 2^40 → ∃ t r, GT d t ∧ r.length ≤ l.length ∧ MP d l t r) :
    ∃ t m, GT (d + 1) t ∧ m.length ≤ r.length ∧ MP (d + 1) (x :: r) t m := by
  have hp := place_ct x 1073741824 (by omega) (by omega)
  rw [hx] at hp
  -- what the rounds come to
  have rounds : ∀ k : Nat, ∃ (ts : List Tr) (m : List Int), ts.length = k ∧ (∀ u ∈ ts, GT d u) ∧ m.length ≤ r.length ∧ ∃ f : Nat → List Int, f 0 = r ∧ f k = m ∧ (∀ j, (f j).length ≤ r.length) ∧ ∀ (j : Nat) (h : j < ts.length), MP d (f j) ts[j] (f (j + 1)) := by
    intro k
    induction k with
    | zero => exact ⟨[], r, rfl, fun u h => by simp at h, Nat.le_refl _, fun _ => r, rfl, rfl, fun _ => Nat.le_refl _, fun j h => by simp at h⟩
    | succ k ihk =>
      obtain ⟨ts, m, h1, h2, h3, f, f0, f1, f2, f3⟩ := ihk
      obtain ⟨t, m', g1, g2, g3⟩ := ih m (by omega)
      refine ⟨ts ++ [t], m', by simp [h1], fun u hu => ?_, by omega, fun j => if j ≤ k then f j else m', by simp [f0], by show (if k + 1 ≤ k then f (k + 1) else m') = m'; rw [if_neg (by omega)], fun j => ?_, fun j hj => ?_⟩
      · rcases List.mem_append.1 hu with hu | hu
        · exact h2 u hu
        · obtain rfl : u = t := by simpa using hu
          exact g1
      · by_cases hjk : j ≤ k
        · simp only [hjk, if_true]; exact f2 j
        · simp only [hjk, if_false]; omega
      · simp only [List.length_append, List.length_cons, List.length_nil] at hj
        by_cases hjk : j < k
        · have hj2 : j < ts.length := by omega
          rw [List.getElem_append_left hj2]
          have a1 : j ≤ k := by omega
          have a2 : j + 1 ≤ k := by omega
          simp only [a1, a2, if_true]
          exact f3 j hj2
        · have hjk : j = k := by omega
          subst hjk
          rw [List.getElem_append_right (by omega)]
          have a2 : ¬ (j + 1 ≤ j) := by omega
          simp only [Nat.le_refl, if_true, a2, if_false, h1, Nat.sub_self, List.getElem_cons_zero, f1]
          exact g3
  obtain ⟨ts, m, t1, t2, t3, f, f0, f1, f2, f3⟩ := rounds (v / 12 % 4)
  refine ⟨.mk 6 false N0 S0 [] ts, m, .inr (.inl ⟨ts, rfl, by omega, t2⟩), t3, ?_⟩
  unfold MP
  refine Pure.body tys_valid (fn := Go.Proofs.Tryz.f40) (by kernel_rfl) rfl (by kernel_rfl) rfl ?_
  intro w ok giv E0 _ hE
  refine H.go 200 [(3, [(3, .res (.ret (.i .i64 (v : Nat))))]), (5, [(1, .val (.i .i64 ((8 : Nat) : Int)))]), (6, [(1, .gd false)])] [(18, false), (33, false)] dr40 rfl ?_ ?_
  · repeat' (first | exact AllP.n | exact trivial | exact DrawB.mk (by decide +kernel) | exact fun _ => rfl | refine AllP.c ?_ ?_)
    all_goals (try dsimp only)
    all_goals try first | exact rfl | exact ⟨trivial, rfl⟩ | exact ⟨trivial, bts_t rfl⟩ | omega | exact at_tr _ _ (by omega) | exact at_s _ _ (by omega) | exact dt (by omega) | exact df (by omega) | exact decide_eq_true (by omega) | exact decide_eq_false (by omega) | exact bts_t (by assumption) | exact bts_f (by assumption) | (rw [bts_t (by assumption)]; rfl) | (rw [bts_f (by assumption)]; rfl) | (unfold InR; omega) | exact hp | (refine ⟨by omega, ?_⟩; rw [List.length_cons]; omega) | exact ⟨by unfold InR; omega, rfl⟩ | (refine ⟨?_, ?_⟩; exact trivial; exact ei (remN v 12)) | (refine ⟨?_, ?_⟩ <;> first | omega | exact ei (quoN v 12 (by omega))) | exact ⟨by omega, ei (remN _ _)⟩ | exact ⟨by omega, ei (quoN _ _ (by omega))⟩ | exact ⟨by omega, (ei (remN _ _)).trans (ei (by rw [hc]))⟩ | (simp; done) | exact (by assumption : MP _ _ _ _) | (refine ⟨trivial, ?_, ?_⟩ <;> (try simp) <;> omega) | (refine ⟨by unfold InR; omega, ei ?_⟩; omega) | exact ⟨trivial, wk_objn⟩ | exact SameH.of (by repeat' (first | exact trivial | exact rfl | apply And.intro)) (by repeat' (first | exact trivial | exact rfl | apply And.intro))
  refine H.loopI (fun y => y.i ≤ ts.length ∧ y.m = f y.i ∧ y.cv = encs (ts.take y.i)) (AS d v) (fun y => ts.length - y.i) ⟨0, [], 0, r⟩ ⟨Nat.zero_le _, f0.symm, by simp [encs_nil]⟩ ?_ ?_
  · intro a w s
    exact Sat.ren hE [] (by repeat' (first | exact trivial | exact rfl | apply And.intro)) (by repeat' (first | exact trivial | exact rfl | apply And.intro)) rfl (s.adoptC 1 7 21 30 8 rfl rfl rfl rfl rfl rfl)
  rintro ⟨i, cv, g, m1⟩ ⟨h1, h2, h3⟩
  simp only at h1 h2 h3
  subst h2 h3
  have hcv : (encs (ts.take i)).length = i * 8 := by rw [encs_len, List.length_take]; omega
  have hm := f2 i
  by_cases hi : i < ts.length
  · have hmp := f3 i hi
    have hmp2 : MP d (f i) ts[i] (f (i + 1)) := hmp
    refine H.go 200 [(25, [(2, .val (.i .i64 ((v / 12 : Nat) : Int))), (3, .val (.i .i64 ((v / 12 % 4 : Nat) : Int)))]), (27, [(2, .val (.i .i64 ((d : Nat) : Int))), (3, .res (.ret (.tup [.ag (enc ts[i]), .sl 1 (f (i + 1)).length ((f (i + 1)).map iD)])))])] [(84, true)] dr40 rfl ?_ ?_
    · repeat' (first | exact AllP.n | exact trivial | exact DrawB.mk (by decide +kernel) | exact fun _ => rfl | refine AllP.c ?_ ?_)
      all_goals (try dsimp only)
      all_goals try first | exact rfl | exact ⟨trivial, rfl⟩ | exact ⟨trivial, bts_t rfl⟩ | omega | exact at_tr _ _ (by omega) | exact at_s _ _ (by omega) | exact dt (by omega) | exact df (by omega) | exact decide_eq_true (by omega) | exact decide_eq_false (by omega) | exact bts_t (by assumption) | exact bts_f (by assumption) | (rw [bts_t (by assumption)]; rfl) | (rw [bts_f (by assumption)]; rfl) | (unfold InR; omega) | exact hp | (refine ⟨by omega, ?_⟩; rw [List.length_cons]; omega) | exact ⟨by unfold InR; omega, rfl⟩ | (refine ⟨?_, ?_⟩; exact trivial; exact ei (remN v 12)) | (refine ⟨?_, ?_⟩ <;> first | omega | exact ei (quoN v 12 (by omega))) | exact ⟨by omega, ei (remN _ _)⟩ | exact ⟨by omega, ei (quoN _ _ (by omega))⟩ | exact ⟨by omega, (ei (remN _ _)).trans (ei (by rw [hc]))⟩ | (simp; done) | exact (by assumption : MP _ _ _ _) | (refine ⟨trivial, ?_, ?_⟩ <;> (try simp) <;> omega) | (refine ⟨by unfold InR; omega, ei ?_⟩; omega) | exact ⟨trivial, wk_objn⟩ | exact SameH.of (by repeat' (first | exact trivial | exact rfl | apply And.intro)) (by repeat' (first | exact trivial | exact rfl | apply And.intro))
    exact loopN ⟨i + 1, encs (ts.take i) ++ enc ts[i], (encs (ts.take i)).length, f (i + 1)⟩ ⟨hi, rfl, by simp only; rw [List.take_succ_eq_append_getElem hi, encs_append, encs_cons, encs_nil, List.append_nil]⟩ (by show ts.length - (i + 1) < ts.length - i; omega) fun a w s => s.ren hE [(21, 3)] (by repeat' (first | exact trivial | exact rfl | apply And.intro)) (by repeat' (first | exact trivial | exact rfl | apply And.intro)) rfl
  · obtain rfl : i = ts.length := by omega
    rw [List.take_length] at hcv ⊢
    have hfm : f ts.length = m := by rw [t1]; exact f1
    rw [hfm]
    refine H.go 200 [(25, [(2, .val (.i .i64 ((v / 12 : Nat) : Int))), (3, .val (.i .i64 ((v / 12 % 4 : Nat) : Int)))])] [(84, false)] dr40 rfl ?_ ?_
    · repeat' (first | exact AllP.n | exact trivial | exact DrawB.mk (by decide +kernel) | exact fun _ => rfl | refine AllP.c ?_ ?_)
      all_goals (try dsimp only)
      all_goals try first | exact rfl | exact ⟨trivial, rfl⟩ | exact ⟨trivial, bts_t rfl⟩ | omega | exact at_tr _ _ (by omega) | exact at_s _ _ (by omega) | exact dt (by omega) | exact df (by omega) | exact decide_eq_true (by omega) | exact decide_eq_false (by omega) | exact bts_t (by assumption) | exact bts_f (by assumption) | (rw [bts_t (by assumption)]; rfl) | (rw [bts_f (by assumption)]; rfl) | (unfold InR; omega) | exact hp | (refine ⟨by omega, ?_⟩; rw [List.length_cons]; omega) | exact ⟨by unfold InR; omega, rfl⟩ | (refine ⟨?_, ?_⟩; exact trivial; exact ei (remN v 12)) | (refine ⟨?_, ?_⟩ <;> first | omega | exact ei (quoN v 12 (by omega))) | exact ⟨by omega, ei (remN _ _)⟩ | exact ⟨by omega, ei (quoN _ _ (by omega))⟩ | exact ⟨by omega, (ei (remN _ _)).trans (ei (by rw [hc]))⟩ | (simp; done) | exact (by assumption : MP _ _ _ _) | (refine ⟨trivial, ?_, ?_⟩ <;> (try simp) <;> omega) | (refine ⟨by unfold InR; omega, ei ?_⟩; omega) | exact ⟨trivial, wk_objn⟩ | exact SameH.of (by repeat' (first | exact trivial | exact rfl | apply And.intro)) (by repeat' (first | exact trivial | exact rfl | apply And.intro))
    refine H.go 200 [] [] dr40 rfl ?_ ?_
    · repeat' (first | exact AllP.n | exact trivial | exact DrawB.mk (by decide +kernel) | exact fun _ => rfl | refine AllP.c ?_ ?_)
      all_goals (try dsimp only)
      all_goals try first | exact rfl | exact ⟨trivial, rfl⟩ | exact ⟨trivial, bts_t rfl⟩ | omega | exact at_tr _ _ (by omega) | exact at_s _ _ (by omega) | exact dt (by omega) | exact df (by omega) | exact decide_eq_true (by omega) | exact decide_eq_false (by omega) | exact bts_t (by assumption) | exact bts_f (by assumption) | (rw [bts_t (by assumption)]; rfl) | (rw [bts_f (by assumption)]; rfl) | (unfold InR; omega) | exact hp | (refine ⟨by omega, ?_⟩; rw [List.length_cons]; omega) | exact ⟨by unfold InR; omega, rfl⟩ | (refine ⟨?_, ?_⟩; exact trivial; exact ei (remN v 12)) | (refine ⟨?_, ?_⟩ <;> first | omega | exact ei (quoN v 12 (by omega))) | exact ⟨by omega, ei (remN _ _)⟩ | exact ⟨by omega, ei (quoN _ _ (by omega))⟩ | exact ⟨by omega, (ei (remN _ _)).trans (ei (by rw [hc]))⟩ | (simp; done) | exact (by assumption : MP _ _ _ _) | (refine ⟨trivial, ?_, ?_⟩ <;> (try simp) <;> omega) | (refine ⟨by unfold InR; omega, ei ?_⟩; omega) | exact ⟨trivial, wk_objn⟩ | exact SameH.of (by repeat' (first | exact trivial | exact rfl | apply And.intro)) (by repeat' (first | exact trivial | exact rfl | apply And.intro))
    refine ⟨_, _, rfl, ?_, ?_⟩
    · repeat' (first | exact AllP.n | exact trivial | exact DrawB.mk (by decide +kernel) | exact fun _ => rfl | refine AllP.c ?_ ?_)
      all_goals (try dsimp only)
      all_goals try first | exact rfl | exact ⟨trivial, rfl⟩ | exact ⟨trivial, bts_t rfl⟩ | omega | exact at_tr _ _ (by omega) | exact at_s _ _ (by omega) | exact dt (by omega) | exact df (by omega) | exact decide_eq_true (by omega) | exact decide_eq_false (by omega) | exact bts_t (by assumption) | exact bts_f (by assumption) | (rw [bts_t (by assumption)]; rfl) | (rw [bts_f (by assumption)]; rfl) | (unfold InR; omega) | (simp [Root.idle, mulN_eq, encs_len]; done)
    · exact .tup (.cons (wk_arr ts) (.cons (.refl _) .nil))
theorem made_s9 (d : Nat) (x : Int) (r : List Int) (v : Nat) (hv : v < 1073741824) (hx : x % 1073741824 = v) (hc : v % 12 = 9) (hd : d + 1 ≤ 4) (hr : r.length < 2^40) (ih : ∀ l : List Int, l.length < 2^40 → ∃ t r, GT d t ∧ r.length ≤ l.length ∧ MP d l t r) :
    ∃ t m, GT (d + 1) t ∧ m.length ≤ r.length ∧ MP (d + 1) (x :: r) t m ∧ t.kind = 7 := by
  have hp := place_ct x 1073741824 (by omega) (by omega)
  rw [hx] at hp
  have rounds : ∀ k : Nat, k ≤ 3 → ∃ (f : Nat → List Int) (g : Nat → List (ByteArray × Tr)) (u : Nat → Tr), f 0 = r ∧ g 0 = [] ∧ (∀ j, (f j).length ≤ r.length) ∧ (∀ j, j ≤ k → (g j).length ≤ j ∧ SL ((g j).map (·.1)) ∧ ∀ p ∈ g j, GT d p.2) ∧
      ∀ (j : Nat) (h : j < k), MP d (f j) (u j) (f (j + 1)) ∧ tset (obj (g j)) (names8[(v / 48 + 3 * j) % 8]'(by simp [names8]; omega)) (u j) = obj (g (j + 1)) := by
    intro k
    induction k with
    | zero => exact fun _ => ⟨fun _ => r, fun _ => [], fun _ => tNull, rfl, rfl, fun _ => Nat.le_refl _, fun j _ => ⟨Nat.zero_le _, ⟨by simp, fun x h => by simp at h⟩, fun p h => by simp at h⟩, fun j h => absurd h (Nat.not_lt_zero _)⟩
    | succ k ihk =>
      intro hk
      obtain ⟨f, g, u, f0, g0, f2, g1, h1⟩ := ihk (by omega)
      obtain ⟨t, m', a1, a2, a3⟩ := ih (f k) (by have := f2 k; omega)
      obtain ⟨b1, b2, b3⟩ := g1 k (Nat.le_refl _)
      obtain ⟨q, c1, c2, c3, c4⟩ := GT.set (x := names8[(v / 48 + 3 * k) % 8]'(by simp [names8]; omega)) (names8_N8 _ (List.getElem_mem _)) b2 b3 a1
      have hfk := f2 k
      refine ⟨fun j => if j ≤ k then f j else m', fun j => if j ≤ k then g j else q, fun j => if j < k then u j else t, by simp [f0], by simp [g0], fun j => ?_, fun j hj => ?_, fun j hj => ?_⟩
      · by_cases hjk : j ≤ k
        · simp only [hjk, if_true]; exact f2 j
        · simp only [hjk, if_false]; omega
      · by_cases hjk : j ≤ k
        · simp only [hjk, if_true]; exact g1 j hjk
        · simp only [hjk, if_false]; exact ⟨by omega, c3, c4⟩
      · by_cases hjk : j < k
        · have e1 : j ≤ k := by omega
          have e2 : j + 1 ≤ k := by omega
          simp only [e1, e2, hjk, if_true]
          exact h1 j hjk
        · have hjk : j = k := by omega
          subst hjk
          have e2 : ¬ (j + 1 ≤ j) := by omega
          have e3 : ¬ (j < j) := by omega
          simp only [Nat.le_refl, if_true, e2, e3, if_false]
          exact ⟨a3, c1⟩
  obtain ⟨f, g, u, f0, g0, f2, g1, hst⟩ := rounds (v / 12 % 4) (by omega)
  obtain ⟨e1, e2, e3⟩ := g1 (v / 12 % 4) (Nat.le_refl _)
  refine ⟨obj (g (v / 12 % 4)), f (v / 12 % 4), .inr (.inr ⟨_, rfl, by omega, e2, e3⟩), f2 _, ?_, by simp [obj, Tr.kind]⟩
  unfold MP
  refine Pure.body tys_valid (fn := Go.Proofs.Tryz.f40) (by kernel_rfl) rfl (by kernel_rfl) rfl ?_
  intro w ok giv E0 _ hE
  refine H.go 200 [(3, [(3, .res (.ret (.i .i64 (v : Nat))))]), (5, [(1, .val (.i .i64 ((9 : Nat) : Int)))]), (6, [(1, .gd false)]), (31, [(0, .wk (.ag (enc (obj []))))])] [(18, false), (33, false)] dr40 rfl ?_ ?_
  · repeat' (first | exact AllP.n | exact trivial | exact DrawB.mk (by decide +kernel) | exact fun _ => rfl | refine AllP.c ?_ ?_)
    all_goals (try dsimp only)
    all_goals try first | exact rfl | exact ⟨trivial, rfl⟩ | exact ⟨trivial, bts_t rfl⟩ | omega | exact at_tr _ _ (by omega) | exact at_s _ _ (by omega) | exact dt (by omega) | exact df (by omega) | exact decide_eq_true (by omega) | exact decide_eq_false (by omega) | exact bts_t (by assumption) | exact bts_f (by assumption) | (rw [bts_t (by assumption)]; rfl) | (rw [bts_f (by assumption)]; rfl) | (unfold InR; omega) | exact hp | (refine ⟨by omega, ?_⟩; rw [List.length_cons]; omega) | exact ⟨by unfold InR; omega, rfl⟩ | (refine ⟨?_, ?_⟩; exact trivial; exact ei (remN v 12)) | (refine ⟨?_, ?_⟩ <;> first | omega | exact ei (quoN v 12 (by omega))) | exact ⟨by omega, ei (remN _ _)⟩ | exact ⟨by omega, ei (quoN _ _ (by omega))⟩ | exact ⟨by omega, (ei (remN _ _)).trans (ei (by rw [hc]))⟩ | (simp; done) | exact (by assumption : MP _ _ _ _) | (refine ⟨trivial, ?_, ?_⟩ <;> (try simp) <;> omega) | (refine ⟨by unfold InR; omega, ei ?_⟩; omega) | exact ⟨trivial, wk_objn⟩ | exact SameH.of (by repeat' (first | exact trivial | exact rfl | apply And.intro)) (by repeat' (first | exact trivial | exact rfl | apply And.intro))
  refine H.loopI (fun y : Nat × List (ByteArray × Tr) × List Int => y.1 ≤ v / 12 % 4 ∧ y.2.1 = g y.1 ∧ y.2.2 = f y.1) (OS d v) (fun y => v / 12 % 4 - y.1) (0, [], r) ⟨Nat.zero_le _, g0.symm, f0.symm⟩ ?_ ?_
  · intro a w s
    exact s.ren hE [] (by repeat' (first | exact trivial | exact rfl | apply And.intro)) (by repeat' (first | exact trivial | exact rfl | apply And.intro)) rfl
  rintro ⟨i, l, m1⟩ ⟨h1, h2, h3⟩
  simp only at h1 h2 h3
  subst h2 h3
  have hm := f2 i
  by_cases hi : i < v / 12 % 4
  · obtain ⟨hmp, hset⟩ := hst i hi
    have hn : (v / 48 + 3 * i) % 8 < names8.length := by simp [names8]; omega
    have hgi := g1 i (by omega)
    have hsc := set_ct (obj (g i)) (names8[(v / 48 + 3 * i) % 8]'hn) (u i) (by rw [(obj_len _).1]; omega) (by rw [(obj_len _).2]; omega)
    rw [hset] at hsc
    have hns := at_s names8 ((v / 48 + 3 * i) % 8) hn
    refine H.go 200 [(33, [(2, .val (.i .i64 ((v / 12 : Nat) : Int))), (3, .val (.i .i64 ((v / 12 % 4 : Nat) : Int)))]), (35, [(2, .val (.i .i64 ((d : Nat) : Int))), (3, .res (.ret (.tup [.ag (enc (u i)), .sl 1 (f (i + 1)).length ((f (i + 1)).map iD)])))]), (36, [(1, .res (.ret (.sl 1 8 (names8.map D.s)))), (3, .val (.i .i64 ((v / 48 : Nat) : Int))), (5, .val (.i .i64 ((3 * i : Nat) : Int))), (6, .val (.i .i64 ((v / 48 + 3 * i : Nat) : Int))), (7, .val (.i .i64 (((v / 48 + 3 * i) % 8 : Nat) : Int))), (9, .cell (.s (names8[(v / 48 + 3 * i) % 8]'hn))), (11, .res (.ret (.ag (enc (obj (g (i + 1)))))))])] [(108, true)] dr40 rfl ?_ ?_
    · repeat' (first | exact AllP.n | exact trivial | exact DrawB.mk (by decide +kernel) | exact fun _ => rfl | refine AllP.c ?_ ?_)
      all_goals (try dsimp only)
      all_goals try first | exact rfl | exact ⟨trivial, rfl⟩ | exact ⟨trivial, bts_t rfl⟩ | omega | exact at_tr _ _ (by omega) | exact at_s _ _ (by omega) | exact dt (by omega) | exact df (by omega) | exact decide_eq_true (by omega) | exact decide_eq_false (by omega) | exact bts_t (by assumption) | exact bts_f (by assumption) | (rw [bts_t (by assumption)]; rfl) | (rw [bts_f (by assumption)]; rfl) | (unfold InR; omega) | exact hp | (refine ⟨by omega, ?_⟩; rw [List.length_cons]; omega) | exact ⟨by unfold InR; omega, rfl⟩ | (refine ⟨?_, ?_⟩; exact trivial; exact ei (remN v 12)) | (refine ⟨?_, ?_⟩ <;> first | omega | exact ei (quoN v 12 (by omega))) | exact ⟨by omega, ei (remN _ _)⟩ | exact ⟨by omega, ei (quoN _ _ (by omega))⟩ | exact ⟨by omega, (ei (remN _ _)).trans (ei (by rw [hc]))⟩ | (simp; done) | exact (by assumption : MP _ _ _ _) | (refine ⟨trivial, ?_, ?_⟩ <;> (try simp) <;> omega) | (refine ⟨by unfold InR; omega, ei ?_⟩; omega) | exact ⟨trivial, wk_objn⟩ | exact SameH.of (by repeat' (first | exact trivial | exact rfl | apply And.intro)) (by repeat' (first | exact trivial | exact rfl | apply And.intro)) | exact hsc | exact hns | exact names8_ct | (refine ⟨by omega, ?_⟩; omega)
    exact loopN (i + 1, g (i + 1), f (i + 1)) ⟨hi, rfl, rfl⟩ (by show v / 12 % 4 - (i + 1) < v / 12 % 4 - i; omega) fun a w s => s.ren hE [] (by repeat' (first | exact trivial | exact rfl | apply And.intro)) (by repeat' (first | exact trivial | exact rfl | apply And.intro)) rfl
  · obtain rfl : i = v / 12 % 4 := by omega
    refine H.go 200 [(33, [(2, .val (.i .i64 ((v / 12 : Nat) : Int))), (3, .val (.i .i64 ((v / 12 % 4 : Nat) : Int)))])] [(108, false)] dr40 rfl ?_ ?_
    · repeat' (first | exact AllP.n | exact trivial | exact DrawB.mk (by decide +kernel) | exact fun _ => rfl | refine AllP.c ?_ ?_)
      all_goals (try dsimp only)
      all_goals try first | exact rfl | exact ⟨trivial, rfl⟩ | exact ⟨trivial, bts_t rfl⟩ | omega | exact at_tr _ _ (by omega) | exact at_s _ _ (by omega) | exact dt (by omega) | exact df (by omega) | exact decide_eq_true (by omega) | exact decide_eq_false (by omega) | exact bts_t (by assumption) | exact bts_f (by assumption) | (rw [bts_t (by assumption)]; rfl) | (rw [bts_f (by assumption)]; rfl) | (unfold InR; omega) | exact hp | (refine ⟨by omega, ?_⟩; rw [List.length_cons]; omega) | exact ⟨by unfold InR; omega, rfl⟩ | (refine ⟨?_, ?_⟩; exact trivial; exact ei (remN v 12)) | (refine ⟨?_, ?_⟩ <;> first | omega | exact ei (quoN v 12 (by omega))) | exact ⟨by omega, ei (remN _ _)⟩ | exact ⟨by omega, ei (quoN _ _ (by omega))⟩ | exact ⟨by omega, (ei (remN _ _)).trans (ei (by rw [hc]))⟩ | (simp; done) | exact (by assumption : MP _ _ _ _) | (refine ⟨trivial, ?_, ?_⟩ <;> (try simp) <;> omega) | (refine ⟨by unfold InR; omega, ei ?_⟩; omega) | exact ⟨trivial, wk_objn⟩ | exact SameH.of (by repeat' (first | exact trivial | exact rfl | apply And.intro)) (by repeat' (first | exact trivial | exact rfl | apply And.intro))
    refine H.go 200 [] [] dr40 rfl ?_ ?_
    · repeat' (first | exact AllP.n | exact trivial | exact DrawB.mk (by decide +kernel) | exact fun _ => rfl | refine AllP.c ?_ ?_)
      all_goals (try dsimp only)
      all_goals try first | exact rfl | exact ⟨trivial, rfl⟩ | exact ⟨trivial, bts_t rfl⟩ | omega | exact at_tr _ _ (by omega) | exact at_s _ _ (by omega) | exact dt (by omega) | exact df (by omega) | exact decide_eq_true (by omega) | exact decide_eq_false (by omega) | exact bts_t (by assumption) | exact bts_f (by assumption) | (rw [bts_t (by assumption)]; rfl) | (rw [bts_f (by assumption)]; rfl) | (unfold InR; omega) | exact hp | (refine ⟨by omega, ?_⟩; rw [List.length_cons]; omega) | exact ⟨by unfold InR; omega, rfl⟩ | (refine ⟨?_, ?_⟩; exact trivial; exact ei (remN v 12)) | (refine ⟨?_, ?_⟩ <;> first | omega | exact ei (quoN v 12 (by omega))) | exact ⟨by omega, ei (remN _ _)⟩ | exact ⟨by omega, ei (quoN _ _ (by omega))⟩ | exact ⟨by omega, (ei (remN _ _)).trans (ei (by rw [hc]))⟩ | (simp; done) | exact (by assumption : MP _ _ _ _) | (refine ⟨trivial, ?_, ?_⟩ <;> (try simp) <;> omega) | (refine ⟨by unfold InR; omega, ei ?_⟩; omega) | exact ⟨trivial, wk_objn⟩ | exact SameH.of (by repeat' (first | exact trivial | exact rfl | apply And.intro)) (by repeat' (first | exact trivial | exact rfl | apply And.intro))
    refine ⟨_, _, rfl, ?_, ?_⟩
    · repeat' (first | exact AllP.n | exact trivial | exact DrawB.mk (by decide +kernel) | exact fun _ => rfl | refine AllP.c ?_ ?_)
      all_goals (try dsimp only)
      all_goals try first | exact rfl | exact ⟨trivial, rfl⟩ | exact ⟨trivial, bts_t rfl⟩ | omega | exact at_tr _ _ (by omega) | exact at_s _ _ (by omega) | exact dt (by omega) | exact df (by omega) | exact decide_eq_true (by omega) | exact decide_eq_false (by omega) | exact bts_t (by assumption) | exact bts_f (by assumption) | (rw [bts_t (by assumption)]; rfl) | (rw [bts_f (by assumption)]; rfl) | (unfold InR; omega) | (simp [Root.idle, mulN_eq, encs_len]; done)
    · exact .refl _
theorem made_s10 (d : Nat) (x : Int) (r : List Int) (v : Nat) (hv : v < 1073741824) (hx : x % 1073741824 = v) (hc : v % 12 = 10) (hd : d + 1 ≤ 4) (hr : r.length < 2^40) (ih : ∀ l : List Int, l.length < 2^40 → ∃ t r, GT d t ∧ r.length ≤ l.length ∧ MP d l t r) :
    ∃ t m, GT (d + 1) t ∧ m.length ≤ r.length ∧ MP (d + 1) (x :: r) t m ∧ t.kind = 7 := by
  have hp := place_ct x 1073741824 (by omega) (by omega)
  rw [hx] at hp
  have rounds : ∀ k : Nat, k ≤ 3 → ∃ (f : Nat → List Int) (g : Nat → List (ByteArray × Tr)) (u : Nat → Tr), f 0 = r ∧ g 0 = [] ∧ (∀ j, (f j).length ≤ r.length) ∧ (∀ j, j ≤ k → (g j).length ≤ j ∧ SL ((g j).map (·.1)) ∧ ∀ p ∈ g j, GT d p.2) ∧
      ∀ (j : Nat) (h : j < k), MP d (f j) (u j) (f (j + 1)) ∧ tset (obj (g j)) (names8[(v / 48 + 3 * j) % 8]'(by simp [names8]; omega)) (u j) = obj (g (j + 1)) := by
    intro k
    induction k with
    | zero => exact fun _ => ⟨fun _ => r, fun _ => [], fun _ => tNull, rfl, rfl, fun _ => Nat.le_refl _, fun j _ => ⟨Nat.zero_le _, ⟨by simp, fun x h => by simp at h⟩, fun p h => by simp at h⟩, fun j h => absurd h (Nat.not_lt_zero _)⟩
    | succ k ihk =>
      intro hk
      obtain ⟨f, g, u, f0, g0, f2, g1, h1⟩ := ihk (by omega)
      obtain ⟨t, m', a1, a2, a3⟩ := ih (f k) (by have := f2 k; omega)
      obtain ⟨b1, b2, b3⟩ := g1 k (Nat.le_refl _)
      obtain ⟨q, c1, c2, c3, c4⟩ := GT.set (x := names8[(v / 48 + 3 * k) % 8]'(by simp [names8]; omega)) (names8_N8 _ (List.getElem_mem _)) b2 b3 a1
      have hfk := f2 k
      refine ⟨fun j => if j ≤ k then f j else m', fun j => if j ≤ k then g j else q, fun j => if j < k then u j else t, by simp [f0], by simp [g0], fun j => ?_, fun j hj => ?_, fun j hj => ?_⟩
      · by_cases hjk : j ≤ k
        · simp only [hjk, if_true]; exact f2 j
        · simp only [hjk, if_false]; omega
      · by_cases hjk : j ≤ k
        · simp only [hjk, if_true]; exact g1 j hjk
        · simp only [hjk, if_false]; exact ⟨by omega, c3, c4⟩
      · by_cases hjk : j < k
        · have e1 : j ≤ k := by omega
          have e2 : j + 1 ≤ k := by omega
          simp only [e1, e2, hjk, if_true]
          exact h1 j hjk
        · have hjk : j = k := by omega
          subst hjk
          have e2 : ¬ (j + 1 ≤ j) := by omega
          have e3 : ¬ (j < j) := by omega
          simp only [Nat.le_refl, if_true, e2, e3, if_false]
          exact ⟨a3, c1⟩
  obtain ⟨f, g, u, f0, g0, f2, g1, hst⟩ := rounds (v / 12 % 4) (by omega)
  obtain ⟨e1, e2, e3⟩ := g1 (v / 12 % 4) (Nat.le_refl _)
  refine ⟨obj (g (v / 12 % 4)), f (v / 12 % 4), .inr (.inr ⟨_, rfl, by omega, e2, e3⟩), f2 _, ?_, by simp [obj, Tr.kind]⟩
  unfold MP
  refine Pure.body tys_valid (fn := Go.Proofs.Tryz.f40) (by kernel_rfl) rfl (by kernel_rfl) rfl ?_
  intro w ok giv E0 _ hE
  refine H.go 200 [(3, [(3, .res (.ret (.i .i64 (v : Nat))))]), (5, [(1, .val (.i .i64 ((10 : Nat) : Int)))]), (6, [(1, .gd false)]), (31, [(0, .wk (.ag (enc (obj []))))])] [(18, false), (33, false)] dr40 rfl ?_ ?_
  · repeat' (first | exact AllP.n | exact trivial | exact DrawB.mk (by decide +kernel) | exact fun _ => rfl | refine AllP.c ?_ ?_)
    all_goals (try dsimp only)
    all_goals try first | exact rfl | exact ⟨trivial, rfl⟩ | exact ⟨trivial, bts_t rfl⟩ | omega | exact at_tr _ _ (by omega) | exact at_s _ _ (by omega) | exact dt (by omega) | exact df (by omega) | exact decide_eq_true (by omega) | exact decide_eq_false (by omega) | exact bts_t (by assumption) | exact bts_f (by assumption) | (rw [bts_t (by assumption)]; rfl) | (rw [bts_f (by assumption)]; rfl) | (unfold InR; omega) | exact hp | (refine ⟨by omega, ?_⟩; rw [List.length_cons]; omega) | exact ⟨by unfold InR; omega, rfl⟩ | (refine ⟨?_, ?_⟩; exact trivial; exact ei (remN v 12)) | (refine ⟨?_, ?_⟩ <;> first | omega | exact ei (quoN v 12 (by omega))) | exact ⟨by omega, ei (remN _ _)⟩ | exact ⟨by omega, ei (quoN _ _ (by omega))⟩ | exact ⟨by omega, (ei (remN _ _)).trans (ei (by rw [hc]))⟩ | (simp; done) | exact (by assumption : MP _ _ _ _) | (refine ⟨trivial, ?_, ?_⟩ <;> (try simp) <;> omega) | (refine ⟨by unfold InR; omega, ei ?_⟩; omega) | exact ⟨trivial, wk_objn⟩ | exact SameH.of (by repeat' (first | exact trivial | exact rfl | apply And.intro)) (by repeat' (first | exact trivial | exact rfl | apply And.intro))
  refine H.loopI (fun y : Nat × List (ByteArray × Tr) × List Int => y.1 ≤ v / 12 % 4 ∧ y.2.1 = g y.1 ∧ y.2.2 = f y.1) (OS d v) (fun y => v / 12 % 4 - y.1) (0, [], r) ⟨Nat.zero_le _, g0.symm, f0.symm⟩ ?_ ?_
  · intro a w s
    exact s.ren hE [] (by repeat' (first | exact trivial | exact rfl | apply And.intro)) (by repeat' (first | exact trivial | exact rfl | apply And.intro)) rfl
  rintro ⟨i, l, m1⟩ ⟨h1, h2, h3⟩
  simp only at h1 h2 h3
  subst h2 h3
  have hm := f2 i
  by_cases hi : i < v / 12 % 4
  · obtain ⟨hmp, hset⟩ := hst i hi
    have hn : (v / 48 + 3 * i) % 8 < names8.length := by simp [names8]; omega
    have hgi := g1 i (by omega)
    have hsc := set_ct (obj (g i)) (names8[(v / 48 + 3 * i) % 8]'hn) (u i) (by rw [(obj_len _).1]; omega) (by rw [(obj_len _).2]; omega)
    rw [hset] at hsc
    have hns := at_s names8 ((v / 48 + 3 * i) % 8) hn
    refine H.go 200 [(33, [(2, .val (.i .i64 ((v / 12 : Nat) : Int))), (3, .val (.i .i64 ((v / 12 % 4 : Nat) : Int)))]), (35, [(2, .val (.i .i64 ((d : Nat) : Int))), (3, .res (.ret (.tup [.ag (enc (u i)), .sl 1 (f (i + 1)).length ((f (i + 1)).map iD)])))]), (36, [(1, .res (.ret (.sl 1 8 (names8.map D.s)))), (3, .val (.i .i64 ((v / 48 : Nat) : Int))), (5, .val (.i .i64 ((3 * i : Nat) : Int))), (6, .val (.i .i64 ((v / 48 + 3 * i : Nat) : Int))), (7, .val (.i .i64 (((v / 48 + 3 * i) % 8 : Nat) : Int))), (9, .cell (.s (names8[(v / 48 + 3 * i) % 8]'hn))), (11, .res (.ret (.ag (enc (obj (g (i + 1)))))))])] [(108, true)] dr40 rfl ?_ ?_
    · repeat' (first | exact AllP.n | exact trivial | exact DrawB.mk (by decide +kernel) | exact fun _ => rfl | refine AllP.c ?_ ?_)
      all_goals (try dsimp only)
      all_goals try first | exact rfl | exact ⟨trivial, rfl⟩ | exact ⟨trivial, bts_t rfl⟩ | omega | exact at_tr _ _ (by omega) | exact at_s _ _ (by omega) | exact dt (by omega) | exact df (by omega) | exact decide_eq_true (by omega) | exact decide_eq_false (by omega) | exact bts_t (by assumption) | exact bts_f (by assumption) | (rw [bts_t (by assumption)]; rfl) | (rw [bts_f (by assumption)]; rfl) | (unfold InR; omega) | exact hp | (refine ⟨by omega, ?_⟩; rw [List.length_cons]; omega) | exact ⟨by unfold InR; omega, rfl⟩ | (refine ⟨?_, ?_⟩; exact trivial; exact ei (remN v 12)) | (refine ⟨?_, ?_⟩ <;> first | omega | exact ei (quoN v 12 (by omega))) | exact ⟨by omega, ei (remN _ _)⟩ | exact ⟨by omega, ei (quoN _ _ (by omega))⟩ | exact ⟨by omega, (ei (remN _ _)).trans (ei (by rw [hc]))⟩ | (simp; done) | exact (by assumption : MP _ _ _ _) | (refine ⟨trivial, ?_, ?_⟩ <;> (try simp) <;> omega) | (refine ⟨by unfold InR; omega, ei ?_⟩; omega) | exact ⟨trivial, wk_objn⟩ | exact SameH.of (by repeat' (first | exact trivial | exact rfl | apply And.intro)) (by repeat' (first | exact trivial | exact rfl | apply And.intro)) | exact hsc | exact hns | exact names8_ct | (refine ⟨by omega, ?_⟩; omega)
    exact loopN (i + 1, g (i + 1), f (i + 1)) ⟨hi, rfl, rfl⟩ (by show v / 12 % 4 - (i + 1) < v / 12 % 4 - i; omega) fun a w s => s.ren hE [] (by repeat' (first | exact trivial | exact rfl | apply And.intro)) (by repeat' (first | exact trivial | exact rfl | apply And.intro)) rfl
  · obtain rfl : i = v / 12 % 4 := by omega
    refine H.go 200 [(33, [(2, .val (.i .i64 ((v / 12 : Nat) : Int))), (3, .val (.i .i64 ((v / 12 % 4 : Nat) : Int)))])] [(108, false)] dr40 rfl ?_ ?_
    · repeat' (first | exact AllP.n | exact trivial | exact DrawB.mk (by decide +kernel) | exact fun _ => rfl | refine AllP.c ?_ ?_)
      all_goals (try dsimp only)
      all_goals try first | exact rfl | exact ⟨trivial, rfl⟩ | exact ⟨trivial, bts_t rfl⟩ | omega | exact at_tr _ _ (by omega) | exact at_s _ _ (by omega) | exact dt (by omega) | exact df (by omega) | exact decide_eq_true (by omega) | exact decide_eq_false (by omega) | exact bts_t (by assumption) | exact bts_f (by assumption) | (rw [bts_t (by assumption)]; rfl) | (rw [bts_f (by assumption)]; rfl) | (unfold InR; omega) | exact hp | (refine ⟨by omega, ?_⟩; rw [List.length_cons]; omega) | exact ⟨by unfold InR; omega, rfl⟩ | (refine ⟨?_, ?_⟩; exact trivial; exact ei (remN v 12)) | (refine ⟨?_, ?_⟩ <;> first | omega | exact ei (quoN v 12 (by omega))) | exact ⟨by omega, ei (remN _ _)⟩ | exact ⟨by omega, ei (quoN _ _ (by omega))⟩ | exact ⟨by omega, (ei (remN _ _)).trans (ei (by rw [hc]))⟩ | (simp; done) | exact (by assumption : MP _ _ _ _) | (refine ⟨trivial, ?_, ?_⟩ <;> (try simp) <;> omega) | (refine ⟨by unfold InR; omega, ei ?_⟩; omega) | exact ⟨trivial, wk_objn⟩ | exact SameH.of (by repeat' (first | exact trivial | exact rfl | apply And.intro)) (by repeat' (first | exact trivial | exact rfl | apply And.intro))
    refine H.go 200 [] [] dr40 rfl ?_ ?_
    · repeat' (first | exact AllP.n | exact trivial | exact DrawB.mk (by decide +kernel) | exact fun _ => rfl | refine AllP.c ?_ ?_)
      all_goals (try dsimp only)
      all_goals try first | exact rfl | exact ⟨trivial, rfl⟩ | exact ⟨trivial, bts_t rfl⟩ | omega | exact at_tr _ _ (by omega) | exact at_s _ _ (by omega) | exact dt (by omega) | exact df (by omega) | exact decide_eq_true (by omega) | exact decide_eq_false (by omega) | exact bts_t (by assumption) | exact bts_f (by assumption) | (rw [bts_t (by assumption)]; rfl) | (rw [bts_f (by assumption)]; rfl) | (unfold InR; omega) | exact hp | (refine ⟨by omega, ?_⟩; rw [List.length_cons]; omega) | exact ⟨by unfold InR; omega, rfl⟩ | (refine ⟨?_, ?_⟩; exact trivial; exact ei (remN v 12)) | (refine ⟨?_, ?_⟩ <;> first | omega | exact ei (quoN v 12 (by omega))) | exact ⟨by omega, ei (remN _ _)⟩ | exact ⟨by omega, ei (quoN _ _ (by omega))⟩ | exact ⟨by omega, (ei (remN _ _)).trans (ei (by rw [hc]))⟩ | (simp; done) | exact (by assumption : MP _ _ _ _) | (refine ⟨trivial, ?_, ?_⟩ <;> (try simp) <;> omega) | (refine ⟨by unfold InR; omega, ei ?_⟩; omega) | exact ⟨trivial, wk_objn⟩ | exact SameH.of (by repeat' (first | exact trivial | exact rfl | apply And.intro)) (by repeat' (first | exact trivial | exact rfl | apply And.intro))
    refine ⟨_, _, rfl, ?_, ?_⟩
    · repeat' (first | exact AllP.n | exact trivial | exact DrawB.mk (by decide +kernel) | exact fun _ => rfl | refine AllP.c ?_ ?_)
      all_goals (try dsimp only)
      all_goals try first | exact rfl | exact ⟨trivial, rfl⟩ | exact ⟨trivial, bts_t rfl⟩ | omega | exact at_tr _ _ (by omega) | exact at_s _ _ (by omega) | exact dt (by omega) | exact df (by omega) | exact decide_eq_true (by omega) | exact decide_eq_false (by omega) | exact bts_t (by assumption) | exact bts_f (by assumption) | (rw [bts_t (by assumption)]; rfl) | (rw [bts_f (by assumption)]; rfl) | (unfold InR; omega) | (simp [Root.idle, mulN_eq, encs_len]; done)
    · exact .refl _
theorem made_s11 (d : Nat) (x : Int) (r : List Int) (v : Nat) (hv : v < 1073741824) (hx : x % 1073741824 = v) (hc : v % 12 = 11) (hd : d + 1 ≤ 4) (hr : r.length < 2^40) (ih : ∀ l : List Int, l.length < 2^40 → ∃ t r, GT d t ∧ r.length ≤ l.length ∧ MP d l t r) :
    ∃ t m, GT (d + 1) t ∧ m.length ≤ r.length ∧ MP (d + 1) (x :: r) t m ∧ t.kind = 7 := by
  have hp := place_ct x 1073741824 (by omega) (by omega)
  rw [hx] at hp
  have rounds : ∀ k : Nat, k ≤ 3 → ∃ (f : Nat → List Int) (g : Nat → List (ByteArray × Tr)) (u : Nat → Tr), f 0 = r ∧ g 0 = [] ∧ (∀ j, (f j).length ≤ r.length) ∧ (∀ j, j ≤ k → (g j).length ≤ j ∧ SL ((g j).map (·.1)) ∧ ∀ p ∈ g j, GT d p.2) ∧
      ∀ (j : Nat) (h : j < k), MP d (f j) (u j) (f (j + 1)) ∧ tset (obj (g j)) (names8[(v / 48 + 3 * j) % 8]'(by simp [names8]; omega)) (u j) = obj (g (j + 1)) := by
    intro k
    induction k with
    | zero => exact fun _ => ⟨fun _ => r, fun _ => [], fun _ => tNull, rfl, rfl, fun _ => Nat.le_refl _, fun j _ => ⟨Nat.zero_le _, ⟨by simp, fun x h => by simp at h⟩, fun p h => by simp at h⟩, fun j h => absurd h (Nat.not_lt_zero _)⟩
    | succ k ihk =>
      intro hk
      obtain ⟨f, g, u, f0, g0, f2, g1, h1⟩ := ihk (by omega)
      obtain ⟨t, m', a1, a2, a3⟩ := ih (f k) (by have := f2 k; omega)
      obtain ⟨b1, b2, b3⟩ := g1 k (Nat.le_refl _)
      obtain ⟨q, c1, c2, c3, c4⟩ := GT.set (x := names8[(v / 48 + 3 * k) % 8]'(by simp [names8]; omega)) (names8_N8 _ (List.getElem_mem _)) b2 b3 a1
      have hfk := f2 k
      refine ⟨fun j => if j ≤ k then f j else m', fun j => if j ≤ k then g j else q, fun j => if j < k then u j else t, by simp [f0], by simp [g0], fun j => ?_, fun j hj => ?_, fun j hj => ?_⟩
      · by_cases hjk : j ≤ k
        · simp only [hjk, if_true]; exact f2 j
        · simp only [hjk, if_false]; omega
      · by_cases hjk : j ≤ k
        · simp only [hjk, if_true]; exact g1 j hjk
        · simp only [hjk, if_false]; exact ⟨by omega, c3, c4⟩
      · by_cases hjk : j < k
        · have e1 : j ≤ k := by omega
          have e2 : j + 1 ≤ k := by omega
          simp only [e1, e2, hjk, if_true]
          exact h1 j hjk
        · have hjk : j = k := by omega
          subst hjk
          have e2 : ¬ (j + 1 ≤ j) := by omega
          have e3 : ¬ (j < j) := by omega
          simp only [Nat.le_refl, if_true, e2, e3, if_false]
          exact ⟨a3, c1⟩
  obtain ⟨f, g, u, f0, g0, f2, g1, hst⟩ := rounds (v / 12 % 4) (by omega)
  obtain ⟨e1, e2, e3⟩ := g1 (v / 12 % 4) (Nat.le_refl _)
  refine ⟨obj (g (v / 12 % 4)), f (v / 12 % 4), .inr (.inr ⟨_, rfl, by omega, e2, e3⟩), f2 _, ?_, by simp [obj, Tr.kind]⟩
  unfold MP
  refine Pure.body tys_valid (fn := Go.Proofs.Tryz.f40) (by kernel_rfl) rfl (by kernel_rfl) rfl ?_
  intro w ok giv E0 _ hE
  refine H.go 200 [(3, [(3, .res (.ret (.i .i64 (v : Nat))))]), (5, [(1, .val (.i .i64 ((11 : Nat) : Int)))]), (6, [(1, .gd false)]), (31, [(0, .wk (.ag (enc (obj []))))])] [(18, false), (33, false)] dr40 rfl ?_ ?_
  · repeat' (first | exact AllP.n | exact trivial | exact DrawB.mk (by decide +kernel) | exact fun _ => rfl | refine AllP.c ?_ ?_)
    all_goals (try dsimp only)
    all_goals try first | exact rfl | exact ⟨trivial, rfl⟩ | exact ⟨trivial, bts_t rfl⟩ | omega | exact at_tr _ _ (by omega) | exact at_s _ _ (by omega) | exact dt (by omega) | exact df (by omega) | exact decide_eq_true (by omega) | exact decide_eq_false (by omega) | exact bts_t (by assumption) | exact bts_f (by assumption) | (rw [bts_t (by assumption)]; rfl) | (rw [bts_f (by assumption)]; rfl) | (unfold InR; omega) | exact hp | (refine ⟨by omega, ?_⟩; rw [List.length_cons]; omega) | exact ⟨by unfold InR; omega, rfl⟩ | (refine ⟨?_, ?_⟩; exact trivial; exact ei (remN v 12)) | (refine ⟨?_, ?_⟩ <;> first | omega | exact ei (quoN v 12 (by omega))) | exact ⟨by omega, ei (remN _ _)⟩ | exact ⟨by omega, ei (quoN _ _ (by omega))⟩ | exact ⟨by omega, (ei (remN _ _)).trans (ei (by rw [hc]))⟩ | (simp; done) | exact (by assumption : MP _ _ _ _) | (refine ⟨trivial, ?_, ?_⟩ <;> (try simp) <;> omega) | (refine ⟨by unfold InR; omega, ei ?_⟩; omega) | exact ⟨trivial, wk_objn⟩ | exact SameH.of (by repeat' (first | exact trivial | exact rfl | apply And.intro)) (by repeat' (first | exact trivial | exact rfl | apply And.intro))
  refine H.loopI (fun y : Nat × List (ByteArray × Tr) × List Int => y.1 ≤ v / 12 % 4 ∧ y.2.1 = g y.1 ∧ y.2.2 = f y.1) (OS d v) (fun y => v / 12 % 4 - y.1) (0, [], r) ⟨Nat.zero_le _, g0.symm, f0.symm⟩ ?_ ?_
  · intro a w s
    exact s.ren hE [] (by repeat' (first | exact trivial | exact rfl | apply And.intro)) (by repeat' (first | exact trivial | exact rfl | apply And.intro)) rfl
  rintro ⟨i, l, m1⟩ ⟨h1, h2, h3⟩
  simp only at h1 h2 h3
  subst h2 h3
  have hm := f2 i
  by_cases hi : i < v / 12 % 4
  · obtain ⟨hmp, hset⟩ := hst i hi
    have hn : (v / 48 + 3 * i) % 8 < names8.length := by simp [names8]; omega
    have hgi := g1 i (by omega)
    have hsc := set_ct (obj (g i)) (names8[(v / 48 + 3 * i) % 8]'hn) (u i) (by rw [(obj_len _).1]; omega) (by rw [(obj_len _).2]; omega)
    rw [hset] at hsc
    have hns := at_s names8 ((v / 48 + 3 * i) % 8) hn
    refine H.go 200 [(33, [(2, .val (.i .i64 ((v / 12 : Nat) : Int))), (3, .val (.i .i64 ((v / 12 % 4 : Nat) : Int)))]), (35, [(2, .val (.i .i64 ((d : Nat) : Int))), (3, .res (.ret (.tup [.ag (enc (u i)), .sl 1 (f (i + 1)).length ((f (i + 1)).map iD)])))]), (36, [(1, .res (.ret (.sl 1 8 (names8.map D.s)))), (3, .val (.i .i64 ((v / 48 : Nat) : Int))), (5, .val (.i .i64 ((3 * i : Nat) : Int))), (6, .val (.i .i64 ((v / 48 + 3 * i : Nat) : Int))), (7, .val (.i .i64 (((v / 48 + 3 * i) % 8 : Nat) : Int))), (9, .cell (.s (names8[(v / 48 + 3 * i) % 8]'hn))), (11, .res (.ret (.ag (enc (obj (g (i + 1)))))))])] [(108, true)] dr40 rfl ?_ ?_
    · repeat' (first | exact AllP.n | exact trivial | exact DrawB.mk (by decide +kernel) | exact fun _ => rfl | refine AllP.c ?_ ?_)
      all_goals (try dsimp only)
      all_goals try first | exact rfl | exact ⟨trivial, rfl⟩ | exact ⟨trivial, bts_t rfl⟩ | omega | exact at_tr _ _ (by omega) | exact at_s _ _ (by omega) | exact dt (by omega) | exact df (by omega) | exact decide_eq_true (by omega) | exact decide_eq_false (by omega) | exact bts_t (by assumption) | exact bts_f (by assumption) | (rw [bts_t (by assumption)]; rfl) | (rw [bts_f (by assumption)]; rfl) | (unfold InR; omega) | exact hp | (refine ⟨by omega, ?_⟩; rw [List.length_cons]; omega) | exact ⟨by unfold InR; omega, rfl⟩ | (refine ⟨?_, ?_⟩; exact trivial; exact ei (remN v 12)) | (refine ⟨?_, ?_⟩ <;> first | omega | exact ei (quoN v 12 (by omega))) | exact ⟨by omega, ei (remN _ _)⟩ | exact ⟨by omega, ei (quoN _ _ (by omega))⟩ | exact ⟨by omega, (ei (remN _ _)).trans (ei (by rw [hc]))⟩ | (simp; done) | exact (by assumption : MP _ _ _ _) | (refine ⟨trivial, ?_, ?_⟩ <;> (try simp) <;> omega) | (refine ⟨by unfold InR; omega, ei ?_⟩; omega) | exact ⟨trivial, wk_objn⟩ | exact SameH.of (by repeat' (first | exact trivial | exact rfl | apply And.intro)) (by repeat' (first | exact trivial | exact rfl | apply And.intro)) | exact hsc | exact hns | exact names8_ct | (refine ⟨by omega, ?_⟩; omega)
    exact loopN (i + 1, g (i + 1), f (i + 1)) ⟨hi, rfl, rfl⟩ (by show v / 12 % 4 - (i + 1) < v / 12 % 4 - i; omega) fun a w s => s.ren hE [] (by repeat' (first | exact trivial | exact rfl | apply And.intro)) (by repeat' (first | exact trivial | exact rfl | apply And.intro)) rfl
  · obtain rfl : i = v / 12 % 4 := by omega
    refine H.go 200 [(33, [(2, .val (.i .i64 ((v / 12 : Nat) : Int))), (3, .val (.i .i64 ((v / 12 % 4 : Nat) : Int)))])] [(108, false)] dr40 rfl ?_ ?_
    · repeat' (first | exact AllP.n | exact trivial | exact DrawB.mk (by decide +kernel) | exact fun _ => rfl | refine AllP.c ?_ ?_)
      all_goals (try dsimp only)
      all_goals try first | exact rfl | exact ⟨trivial, rfl⟩ | exact ⟨trivial, bts_t rfl⟩ | omega | exact at_tr _ _ (by omega) | exact at_s _ _ (by omega) | exact dt (by omega) | exact df (by omega) | exact decide_eq_true (by omega) | exact decide_eq_false (by omega) | exact bts_t (by assumption) | exact bts_f (by assumption) | (rw [bts_t (by assumption)]; rfl) | (rw [bts_f (by assumption)]; rfl) | (unfold InR; omega) | exact hp | (refine ⟨by omega, ?_⟩; rw [List.length_cons]; omega) | exact ⟨by unfold InR; omega, rfl⟩ | (refine ⟨?_, ?_⟩; exact trivial; exact ei (remN v 12)) | (refine ⟨?_, ?_⟩ <;> first | omega | exact ei (quoN v 12 (by omega))) | exact ⟨by omega, ei (remN _ _)⟩ | exact ⟨by omega, ei (quoN _ _ (by omega))⟩ | exact ⟨by omega, (ei (remN _ _)).trans (ei (by rw [hc]))⟩ | (simp; done) | exact (by assumption : MP _ _ _ _) | (refine ⟨trivial, ?_, ?_⟩ <;> (try simp) <;> omega) | (refine ⟨by unfold InR; omega, ei ?_⟩; omega) | exact ⟨trivial, wk_objn⟩ | exact SameH.of (by repeat' (first | exact trivial | exact rfl | apply And.intro)) (by repeat' (first | exact trivial | exact rfl | apply And.intro))
    refine H.go 200 [] [] dr40 rfl ?_ ?_
    · repeat' (first | exact AllP.n | exact trivial | exact DrawB.mk (by decide +kernel) | exact fun _ => rfl | refine AllP.c ?_ ?_)
      all_goals (try dsimp only)
      all_goals try first | exact rfl | exact ⟨trivial, rfl⟩ | exact ⟨trivial, bts_t rfl⟩ | omega | exact at_tr _ _ (by omega) | exact at_s _ _ (by omega) | exact dt (by omega) | exact df (by omega) | exact decide_eq_true (by omega) | exact decide_eq_false (by omega) | exact bts_t (by assumption) | exact bts_f (by assumption) | (rw [bts_t (by assumption)]; rfl) | (rw [bts_f (by assumption)]; rfl) | (unfold InR; omega) | exact hp | (refine ⟨by omega, ?_⟩; rw [List.length_cons]; omega) | exact ⟨by unfold InR; omega, rfl⟩ | (refine ⟨?_, ?_⟩; exact trivial; exact ei (remN v 12)) | (refine ⟨?_, ?_⟩ <;> first | omega | exact ei (quoN v 12 (by omega))) | exact ⟨by omega, ei (remN _ _)⟩ | exact ⟨by omega, ei (quoN _ _ (by omega))⟩ | exact ⟨by omega, (ei (remN _ _)).trans (ei (by rw [hc]))⟩ | (simp; done) | exact (by assumption : MP _ _ _ _) | (refine ⟨trivial, ?_, ?_⟩ <;> (try simp) <;> omega) | (refine ⟨by unfold InR; omega, ei ?_⟩; omega) | exact ⟨trivial, wk_objn⟩ | exact SameH.of (by repeat' (first | exact trivial | exact rfl | apply And.intro)) (by repeat' (first | exact trivial | exact rfl | apply And.intro))
    refine ⟨_, _, rfl, ?_, ?_⟩
    · repeat' (first | exact AllP.n | exact trivial | exact DrawB.mk (by decide +kernel) | exact fun _ => rfl | refine AllP.c ?_ ?_)
      all_goals (try dsimp only)
      all_goals try first | exact rfl | exact ⟨trivial, rfl⟩ | exact ⟨trivial, bts_t rfl⟩ | omega | exact at_tr _ _ (by omega) | exact at_s _ _ (by omega) | exact dt (by omega) | exact df (by omega) | exact decide_eq_true (by omega) | exact decide_eq_false (by omega) | exact bts_t (by assumption) | exact bts_f (by assumption) | (rw [bts_t (by assumption)]; rfl) | (rw [bts_f (by assumption)]; rfl) | (unfold InR; omega) | (simp [Root.idle, mulN_eq, encs_len]; done)
    · exact .refl _
end Go.Px
end

section
namespace Go.Px
open Go.RowKit
theorem vcases (x : Int) : ∃ v : Nat, v < 1073741824 ∧ x % 1073741824 = v := ⟨(x % 1073741824).toNat, by omega, by omega⟩
theorem made_ok : ∀ (d : Nat), d ≤ 4 → ∀ l : List Int, l.length < 2^40 → ∃ t r, GT d t ∧ r.length ≤ l.length ∧ MP d l t r
  | 0, _, [], _ => ⟨tNull, [], leaf_GT lf_null, Nat.le_refl _, made_nil 0⟩
  | 0, _, x :: r, hl => by
    obtain ⟨v, hv, hx⟩ := vcases x
    have key : ∀ {P : Prop}, (∃ t, leaf t ∧ MP 0 (x :: r) t r) → ∃ t m, GT 0 t ∧ m.length ≤ (x :: r).length ∧ MP 0 (x :: r) t m := fun ⟨t, h1, h2⟩ => ⟨t, r, leaf_GT h1, by simp, h2⟩
    have h12 : v % 12 < 12 := Nat.mod_lt _ (by omega)
    match hc : v % 12, h12 with
    | 0, _ => exact key (P := True) (made_z0 x r v hv hx hc)
    | 1, _ => exact key (P := True) (made_z1 x r v hv hx hc)
    | 2, _ => exact key (P := True) (made_z2 x r v hv hx hc)
    | 3, _ => exact key (P := True) (made_z3 x r v hv hx hc)
    | 4, _ => exact key (P := True) (made_z4 x r v hv hx hc)
    | 5, _ => exact key (P := True) (made_z5 x r v hv hx hc)
    | 6, _ => exact key (P := True) (made_z6 x r v hv hx hc)
    | 7, _ => exact key (P := True) (made_z7 x r v hv hx hc)
    | 8, _ => exact key (P := True) (made_z8 x r v hv hx hc)
    | 9, _ => exact key (P := True) (made_z9 x r v hv hx hc)
    | 10, _ => exact key (P := True) (made_z10 x r v hv hx hc)
    | 11, _ => exact key (P := True) (made_z11 x r v hv hx hc)
  | d + 1, _, [], _ => ⟨tNull, [], leaf_GT lf_null, Nat.le_refl _, made_nil (d + 1)⟩
  | d + 1, hd, x :: r, hl => by
    obtain ⟨v, hv, hx⟩ := vcases x
    have hr : r.length < 2^40 := by simp only [List.length_cons] at hl; omega
    have ih := made_ok d (by omega)
    have key : (∃ t, leaf t ∧ MP (d + 1) (x :: r) t r) → ∃ t m, GT (d + 1) t ∧ m.length ≤ (x :: r).length ∧ MP (d + 1) (x :: r) t m := fun ⟨t, h1, h2⟩ => ⟨t, r, leaf_GT h1, by simp, h2⟩
    have key2 : (∃ t m, GT (d + 1) t ∧ m.length ≤ r.length ∧ MP (d + 1) (x :: r) t m) → ∃ t m, GT (d + 1) t ∧ m.length ≤ (x :: r).length ∧ MP (d + 1) (x :: r) t m := fun ⟨t, m, h1, h2, h3⟩ => ⟨t, m, h1, by simp only [List.length_cons]; omega, h3⟩
    have key3 : (∃ t m, GT (d + 1) t ∧ m.length ≤ r.length ∧ MP (d + 1) (x :: r) t m ∧ t.kind = 7) → ∃ t m, GT (d + 1) t ∧ m.length ≤ (x :: r).length ∧ MP (d + 1) (x :: r) t m := fun ⟨t, m, h1, h2, h3, _⟩ => ⟨t, m, h1, by simp only [List.length_cons]; omega, h3⟩
    have h12 : v % 12 < 12 := Nat.mod_lt _ (by omega)
    match hc : v % 12, h12 with
    | 0, _ => exact key (made_s0 d x r v hv hx hc hd)
    | 1, _ => exact key (made_s1 d x r v hv hx hc hd)
    | 2, _ => exact key (made_s2 d x r v hv hx hc hd)
    | 3, _ => exact key (made_s3 d x r v hv hx hc hd)
    | 4, _ => exact key (made_s4 d x r v hv hx hc hd)
    | 5, _ => exact key (made_s5 d x r v hv hx hc hd)
    | 6, _ => exact key2 (made_s6 d x r v hv hx hc hd hr ih)
    | 7, _ => exact key2 (made_s7 d x r v hv hx hc hd hr ih)
    | 8, _ => exact key2 (made_s8 d x r v hv hx hc hd hr ih)
    | 9, _ => exact key3 (made_s9 d x r v hv hx hc hd hr ih)
    | 10, _ => exact key3 (made_s10 d x r v hv hx hc hd hr ih)
    | 11, _ => exact key3 (made_s11 d x r v hv hx hc hd hr ih)
/-- erratumlaw00.Made. -/
theorem Made_of {d : Nat} {l : List Int} {t : Tr} {r : List Int} (h : MP d l t r) : Pure Go.Proofs.Tryz.prog 11 [.sl 1 l.length (l.map iD), .i .i64 d] (.ret (.ag (enc t))) := by
  unfold MP at h
  refine Pure.body tys_valid (fn := Go.Proofs.Tryz.f11) (by kernel_rfl) rfl (by kernel_rfl) rfl ?_
  intro w ok giv E0 _ hE
  refine H.go 200 [(1, [(2, .res (.ret (.tup [.ag (enc t), .sl 1 r.length (r.map iD)])))])] [] dr11 rfl ?_ ?_
  · repeat' (first | exact AllP.n | exact trivial | exact DrawB.mk (by decide +kernel) | exact fun _ => rfl | refine AllP.c ?_ ?_)
    all_goals (try dsimp only)
    all_goals try first | exact rfl | exact ⟨trivial, rfl⟩ | exact ⟨trivial, bts_t rfl⟩ | omega | exact at_tr _ _ (by omega) | exact at_s _ _ (by omega) | exact dt (by omega) | exact df (by omega) | exact decide_eq_true (by omega) | exact decide_eq_false (by omega) | exact bts_t (by assumption) | exact bts_f (by assumption) | (rw [bts_t (by assumption)]; rfl) | (rw [bts_f (by assumption)]; rfl) | (unfold InR; omega) | exact h
  refine ⟨_, _, rfl, ?_, ?_⟩
  · repeat' (first | exact AllP.n | exact trivial | exact DrawB.mk (by decide +kernel) | exact fun _ => rfl | refine AllP.c ?_ ?_)
    all_goals (try dsimp only)
    all_goals try first | exact rfl | exact ⟨trivial, rfl⟩ | exact ⟨trivial, bts_t rfl⟩ | omega | exact at_tr _ _ (by omega) | exact at_s _ _ (by omega) | exact dt (by omega) | exact df (by omega) | exact decide_eq_true (by omega) | exact decide_eq_false (by omega) | exact bts_t (by assumption) | exact bts_f (by assumption) | (rw [bts_t (by assumption)]; rfl) | (rw [bts_f (by assumption)]; rfl) | (unfold InR; omega)
  · exact .refl _
theorem Made_ok (d : Nat) (hd : d ≤ 4) (l : List Int) (hl : l.length < 2^40) : ∃ t, GT d t ∧ Pure Go.Proofs.Tryz.prog 11 [.sl 1 l.length (l.map iD), .i .i64 d] (.ret (.ag (enc t))) := by
  obtain ⟨t, r, h1, _, h3⟩ := made_ok d hd l hl
  exact ⟨t, h1, Made_of h3⟩
/-- Made of numbers that begin with 45: an object. -/
theorem Made_obj (d : Nat) (hd : d + 1 ≤ 4) (l : List Int) (hl : l.length < 2^39) : ∃ k, k.length ≤ 3 ∧ SL (k.map (·.1)) ∧ (∀ p ∈ k, GT d p.2) ∧ Pure Go.Proofs.Tryz.prog 11 [.sl 1 (l.length + 1) (iD 45 :: l.map iD), .i .i64 ((d + 1 : Nat) : Int)] (.ret (.ag (enc (obj k)))) := by
  obtain ⟨t, m, h1, _, h3, h4⟩ := made_s9 d 45 l 45 (by omega) (by decide) (by decide) hd (by omega) (made_ok d (by omega))
  have h5 := Made_of h3
  rcases h1 with h1 | ⟨v, rfl, _⟩ | ⟨k, rfl, hk, hs, hp⟩
  · exact absurd h4 h1.2.2
  · simp [Tr.kind] at h4
  · exact ⟨k, hk, hs, hp, h5⟩
end Go.Px
end

section
namespace Go.Px
open Go.RowKit

/-! ### Names of two objects -/
theorem mem_dd2 : ∀ {l : List ByteArray} {x : ByteArray}, x ∈ l → x ∈ dd l
  | [], x, h => h
  | [_], x, h => h
  | a :: b :: l, x, h => by
    simp only [dd]
    split
    · rename_i e
      rcases List.mem_cons.1 h with h | h
      · subst h; subst e; exact mem_dd2 (by simp)
      · exact mem_dd2 h
    · rcases List.mem_cons.1 h with h | h
      · subst h; exact List.mem_cons_self
      · exact List.mem_cons_of_mem _ (mem_dd2 h)
theorem dd_SL : ∀ {l : List ByteArray}, (l.map rk).Pairwise (· ≤ ·) → (∀ x ∈ l, x ∈ N8) → SL (dd l)
  | [], _, h => ⟨by simp [dd], fun x hx => by simp [dd] at hx⟩
  | [a], _, h => ⟨by simp [dd], fun x hx => by simp [dd] at hx; subst hx; exact h x (by simp)⟩
  | a :: b :: l, hp, h => by
    have hp2 := hp
    simp only [List.map_cons, List.pairwise_cons] at hp2
    have ih := dd_SL (l := b :: l) (by simp only [List.map_cons, List.pairwise_cons]; exact hp2.2) (fun x hx => h x (List.mem_cons_of_mem _ hx))
    simp only [dd]
    split
    · exact ih
    · rename_i hne
      refine ⟨?_, fun x hx => ?_⟩
      · simp only [List.map_cons, List.pairwise_cons]
        refine ⟨fun z hz => ?_, ih.1⟩
        obtain ⟨y, hy, rfl⟩ := List.mem_map.1 hz
        have hy := mem_dd hy
        have hab : rk a < rk b := by
          have h1 := hp2.1 (rk b) (by simp)
          have h2 : rk a ≠ rk b := fun e => hne (rk_inj a (h a (by simp)) b (h b (by simp)) e)
          omega
        rcases List.mem_cons.1 hy with e | hy
        · rw [e]; exact hab
        · have := hp2.2.1 (rk y) (List.mem_map.2 ⟨y, hy, rfl⟩)
          omega
      · rcases List.mem_cons.1 hx with e | hx
        · rw [e]; exact h a (by simp)
        · exact ih.2 x hx
theorem sortS_rk {l : List ByteArray} (h : ∀ x ∈ l, x ∈ N8) : ((sortS l).map rk).Pairwise (· ≤ ·) := by
  have hs : (sortL (l.map b2l)).Pairwise (fun x y => decide (x ≤ y) = true) := by
    unfold sortL
    refine List.pairwise_mergeSort (fun a b c h1 h2 => ?_) (fun a b => ?_) _
    · simp only [decide_eq_true_eq] at *
      exact List.le_trans h1 h2
    · simp only [Bool.or_eq_true, decide_eq_true_eq]
      exact List.le_total a b
  rw [List.pairwise_map]
  unfold sortS
  rw [List.pairwise_map]
  refine hs.imp_of_mem fun {x y} hx hy hxy => ?_
  have back : ∀ z ∈ sortL (l.map b2l), l2b z ∈ N8 ∧ b2l (l2b z) = z := fun z hz => by
    unfold sortL at hz
    rw [List.mem_mergeSort] at hz
    obtain ⟨u, hu, rfl⟩ := List.mem_map.1 hz
    rw [l2b_b2l]
    exact ⟨h u hu, rfl⟩
  obtain ⟨h1, h2⟩ := back x hx
  obtain ⟨h3, h4⟩ := back y hy
  have := rk_le _ h1 _ h3
  rw [h2, h4, hxy] at this
  simpa using this.symm
theorem nmS_SL {a b : List (ByteArray × Tr)} (ha : SL (a.map (·.1))) (hb : SL (b.map (·.1))) : SL (nmS (obj a) (obj b)) ∧ ∀ x, x ∈ nmS (obj a) (obj b) ↔ x ∈ a.map (·.1) ∨ x ∈ b.map (·.1) := by
  have hm : ∀ x ∈ (obj a).k ++ (obj b).k, x ∈ N8 := fun x hx => by
    rcases List.mem_append.1 hx with h | h
    · exact ha.2 x h
    · exact hb.2 x h
  refine ⟨dd_SL (sortS_rk hm) fun x hx => hm x (mem_sortS.1 hx), fun x => ?_⟩
  unfold nmS
  constructor
  · intro h
    exact List.mem_append.1 (mem_sortS.1 (mem_dd h))
  · intro h
    exact mem_dd2 (mem_sortS.2 (List.mem_append.2 h))
theorem N8_SL : SL N8 := ⟨by decide +kernel, fun _ h => h⟩
theorem SL.filter {l : List ByteArray} (h : SL l) (p : ByteArray → Bool) : SL (l.filter p) := by
  refine ⟨?_, fun x hx => h.2 x (List.mem_filter.1 hx).1⟩
  have := h.1
  rw [List.pairwise_map] at this ⊢
  exact this.filter p
noncomputable def dn8 (a b : Tr) : List ByteArray := N8.filter fun x => !alike a b x
theorem alike_none {a b : List (ByteArray × Tr)} {x : ByteArray} (h1 : x ∉ a.map (·.1)) (h2 : x ∉ b.map (·.1)) : alike (obj a) (obj b) x = true := by
  unfold alike
  rw [memb_obj, memb_obj]
  have e1 : look a x = none := by
    cases h : look a x with
    | none => rfl
    | some v => exact absurd (look_isSome.1 (by rw [h]; rfl)) h1
  have e2 : look b x = none := by
    cases h : look b x with
    | none => rfl
    | some v => exact absurd (look_isSome.1 (by rw [h]; rfl)) h2
  rw [e1, e2]
  simp
theorem objOf_obj (a : List (ByteArray × Tr)) : objOf (obj a) = obj a := by simp [objOf, obj, Tr.kind]
theorem dnames_eq {a b : List (ByteArray × Tr)} (ha : SL (a.map (·.1))) (hb : SL (b.map (·.1))) : dnames (obj a) (obj b) = dn8 (obj a) (obj b) := by
  unfold dnames dn8
  rw [objOf_obj]
  obtain ⟨h1, h2⟩ := nmS_SL ha hb
  refine (h1.filter _).eq (N8_SL.filter _) fun x => ?_
  rw [List.mem_filter, List.mem_filter]
  constructor
  · rintro ⟨h, h3⟩
    exact ⟨h1.2 x h, h3⟩
  · rintro ⟨h, h3⟩
    refine ⟨(h2 x).2 ?_, h3⟩
    by_cases e1 : x ∈ a.map (·.1)
    · exact .inl e1
    · by_cases e2 : x ∈ b.map (·.1)
      · exact .inr e2
      · rw [alike_none e1 e2] at h3; simp at h3
theorem alike_self (a : Tr) (x : ByteArray) : alike a a x = true := by simp [alike]
def badB (x : ByteArray) : Bool := (x.toList == (⟨#[]⟩ : ByteArray).toList) || (x.toList == (⟨#[120, 47, 121]⟩ : ByteArray).toList) || (x.toList == (⟨#[122, 126]⟩ : ByteArray).toList)
theorem nameB_N8 : ∀ x ∈ N8, nameB x = !badB x := by decide +kernel
theorem maskB_one {l : List ByteArray} (h : ∀ x ∈ l, x ∈ N8) (hl : l.length ≤ 60) : maskB (l.map fun x => [x]) = l.all fun x => !badB x := by
  unfold maskB
  rw [List.length_map, decide_eq_true hl, Bool.true_and, List.any_map]
  have : ∀ x ∈ l, (badP ∘ fun x => [x]) x = badB x := fun x hx => by
    simp only [Function.comp, badP, List.length_cons, List.length_nil, List.any_cons, List.any_nil, Bool.or_false, nameB_N8 x (h x hx), Bool.not_not]
    rfl
  rw [Bool.eq_iff_iff]
  simp only [Bool.not_eq_true', List.any_eq_false, List.all_eq_true]
  constructor
  · intro h2 x hx
    have h3 := h2 x hx
    rw [this x hx] at h3
    simpa using h3
  · intro h2 x hx
    rw [this x hx]
    simpa using h2 x hx
theorem masked_obj {a b : List (ByteArray × Tr)} (ha : SL (a.map (·.1))) (hb : SL (b.map (·.1))) :
    maskedS (obj a) (obj b) = (⟨3, [], obj (withV (obj b) (dn8 (obj a) (obj b))), (dn8 (obj a) (obj b)).map fun x => [x]⟩, (dn8 (obj a) (obj b)).all fun x => !badB x) := by
  have hN : ∀ x ∈ dn8 (obj a) (obj b), x ∈ N8 := fun x hx => (List.mem_filter.1 hx).1
  have hlen : (dn8 (obj a) (obj b)).length ≤ 60 := Nat.le_trans (List.length_filter_le _ _) (by decide)
  unfold maskedS
  by_cases he : obj a = obj b
  · have hd : dn8 (obj a) (obj b) = [] := by
      unfold dn8
      rw [List.filter_eq_nil_iff]
      intro x _
      rw [he, alike_self]; simp
    rw [if_pos he, hd]
    simp [withV]
  · rw [if_neg he, if_neg (by simp [obj, Tr.kind]), dnames_eq ha hb, maskB_one hN hlen]
end Go.Px
end

section
namespace Go.Px
open Go.RowKit
theorem sameStrs_ct (a b : List ByteArray) (hla : a.length < 2^40) (hlb : b.length < 2^40) : Pure Go.Proofs.Tryz.prog 35 [.sl 1 a.length (a.map D.s), .sl 1 b.length (b.map D.s)] (.ret (.b (decide (a = b)))) := by
  refine Pure.body tys_valid (fn := Go.Proofs.Tryz.f35) (by kernel_rfl) rfl (by kernel_rfl) rfl ?_
  intro w ok giv E0 _ hE
  by_cases hl : a.length = b.length
  · skip
    refine H.go 200 [] [(10, false)] dr35 rfl ?_ ?_
    · repeat' (first | exact AllP.n | exact trivial | exact DrawB.mk (by decide +kernel) | exact fun _ => rfl | refine AllP.c ?_ ?_)
      all_goals (try dsimp only)
      all_goals try first | exact rfl | exact ⟨trivial, rfl⟩ | exact ⟨trivial, bts_t rfl⟩ | omega | exact at_tr _ _ (by omega) | exact at_s _ _ (by omega) | exact dt (by omega) | exact df (by omega) | exact decide_eq_true (by omega) | exact decide_eq_false (by omega) | exact bts_t (by assumption) | exact bts_f (by assumption) | (rw [bts_t (by assumption)]; rfl) | (rw [bts_f (by assumption)]; rfl) | (unfold InR; omega) | (simp [hl]; done)
    refine H.loopI (fun i : Nat => i ≤ a.length ∧ a.take i = b.take i) (fun i => ⟨[(0, .sl 1 a.length (a.map D.s)), (1, .sl 1 b.length (b.map D.s)), (5, .i .i64 i)], [], 0⟩) (fun i => a.length - i) 0 ⟨Nat.zero_le _, by simp⟩ ?_ ?_
    · intro a w s
      exact s.ren hE [] (by repeat' (first | exact trivial | exact rfl | apply And.intro)) (by repeat' (first | exact trivial | exact rfl | apply And.intro)) rfl
    rintro i ⟨hi, ht⟩
    by_cases hlt : i < a.length
    · have hlt' : i < b.length := by omega
      by_cases he : a[i] = b[i]
      · skip
        refine H.go 200 [(6, [(3, .cell (.s a[i])), (7, .cell (.s b[i]))])] [(14, true), (25, false)] dr35 rfl ?_ ?_
        · repeat' (first | exact AllP.n | exact trivial | exact DrawB.mk (by decide +kernel) | exact fun _ => rfl | refine AllP.c ?_ ?_)
          all_goals (try dsimp only)
          all_goals try first | exact rfl | exact ⟨trivial, rfl⟩ | exact ⟨trivial, bts_t rfl⟩ | omega | exact at_tr _ _ (by omega) | exact at_s _ _ (by omega) | exact dt (by omega) | exact df (by omega) | exact decide_eq_true (by omega) | exact decide_eq_false (by omega) | exact bts_t (by assumption) | exact bts_f (by assumption) | (rw [bts_t (by assumption)]; rfl) | (rw [bts_f (by assumption)]; rfl) | (unfold InR; omega) | exact at_s a i hlt | exact at_s b i hlt' | (rw [bts_eq]; simp [he]; done)
        exact loopN (i + 1) ⟨by omega, by rw [List.take_succ_eq_append_getElem hlt, List.take_succ_eq_append_getElem hlt', ht, he]⟩ (by show a.length - (i + 1) < a.length - i; omega) fun a w s => s.ren hE [] (by repeat' (first | exact trivial | exact rfl | apply And.intro)) (by repeat' (first | exact trivial | exact rfl | apply And.intro)) rfl
      · have hne : a ≠ b := fun h => he (by subst h; rfl)
        refine H.go 200 [(6, [(3, .cell (.s a[i])), (7, .cell (.s b[i]))])] [(14, true), (25, true)] dr35 rfl ?_ ?_
        · repeat' (first | exact AllP.n | exact trivial | exact DrawB.mk (by decide +kernel) | exact fun _ => rfl | refine AllP.c ?_ ?_)
          all_goals (try dsimp only)
          all_goals try first | exact rfl | exact ⟨trivial, rfl⟩ | exact ⟨trivial, bts_t rfl⟩ | omega | exact at_tr _ _ (by omega) | exact at_s _ _ (by omega) | exact dt (by omega) | exact df (by omega) | exact decide_eq_true (by omega) | exact decide_eq_false (by omega) | exact bts_t (by assumption) | exact bts_f (by assumption) | (rw [bts_t (by assumption)]; rfl) | (rw [bts_f (by assumption)]; rfl) | (unfold InR; omega) | exact at_s a i hlt | exact at_s b i hlt' | (rw [bts_eq]; simp [he]; done)
        refine ⟨_, _, rfl, ?_, ?_⟩
        · repeat' (first | exact AllP.n | exact trivial | exact DrawB.mk (by decide +kernel) | exact fun _ => rfl | refine AllP.c ?_ ?_)
          all_goals (try dsimp only)
          all_goals try first | exact rfl | exact ⟨trivial, rfl⟩ | exact ⟨trivial, bts_t rfl⟩ | omega | exact at_tr _ _ (by omega) | exact at_s _ _ (by omega) | exact dt (by omega) | exact df (by omega) | exact decide_eq_true (by omega) | exact decide_eq_false (by omega) | exact bts_t (by assumption) | exact bts_f (by assumption) | (rw [bts_t (by assumption)]; rfl) | (rw [bts_f (by assumption)]; rfl) | (unfold InR; omega)
        · rw [decide_eq_false hne]; exact .refl _
    · have heq : a = b := by
        have e1 : i = a.length := by omega
        rw [e1, List.take_length, hl, List.take_length] at ht
        exact ht
      refine H.go 200 [] [(14, false)] dr35 rfl ?_ ?_
      · repeat' (first | exact AllP.n | exact trivial | exact DrawB.mk (by decide +kernel) | exact fun _ => rfl | refine AllP.c ?_ ?_)
        all_goals (try dsimp only)
        all_goals try first | exact rfl | exact ⟨trivial, rfl⟩ | exact ⟨trivial, bts_t rfl⟩ | omega | exact at_tr _ _ (by omega) | exact at_s _ _ (by omega) | exact dt (by omega) | exact df (by omega) | exact decide_eq_true (by omega) | exact decide_eq_false (by omega) | exact bts_t (by assumption) | exact bts_f (by assumption) | (rw [bts_t (by assumption)]; rfl) | (rw [bts_f (by assumption)]; rfl) | (unfold InR; omega)
      refine H.go 200 [] [] dr35 rfl ?_ ?_
      · repeat' (first | exact AllP.n | exact trivial | exact DrawB.mk (by decide +kernel) | exact fun _ => rfl | refine AllP.c ?_ ?_)
        all_goals (try dsimp only)
        all_goals try first | exact rfl | exact ⟨trivial, rfl⟩ | exact ⟨trivial, bts_t rfl⟩ | omega | exact at_tr _ _ (by omega) | exact at_s _ _ (by omega) | exact dt (by omega) | exact df (by omega) | exact decide_eq_true (by omega) | exact decide_eq_false (by omega) | exact bts_t (by assumption) | exact bts_f (by assumption) | (rw [bts_t (by assumption)]; rfl) | (rw [bts_f (by assumption)]; rfl) | (unfold InR; omega)
      refine ⟨_, _, rfl, ?_, ?_⟩
      · repeat' (first | exact AllP.n | exact trivial | exact DrawB.mk (by decide +kernel) | exact fun _ => rfl | refine AllP.c ?_ ?_)
        all_goals (try dsimp only)
        all_goals try first | exact rfl | exact ⟨trivial, rfl⟩ | exact ⟨trivial, bts_t rfl⟩ | omega | exact at_tr _ _ (by omega) | exact at_s _ _ (by omega) | exact dt (by omega) | exact df (by omega) | exact decide_eq_true (by omega) | exact decide_eq_false (by omega) | exact bts_t (by assumption) | exact bts_f (by assumption) | (rw [bts_t (by assumption)]; rfl) | (rw [bts_f (by assumption)]; rfl) | (unfold InR; omega)
      · rw [decide_eq_true heq]; exact .refl _
  · have hne : a ≠ b := fun h => hl (by rw [h])
    refine H.go 200 [] [(10, true)] dr35 rfl ?_ ?_
    · repeat' (first | exact AllP.n | exact trivial | exact DrawB.mk (by decide +kernel) | exact fun _ => rfl | refine AllP.c ?_ ?_)
      all_goals (try dsimp only)
      all_goals try first | exact rfl | exact ⟨trivial, rfl⟩ | exact ⟨trivial, bts_t rfl⟩ | omega | exact at_tr _ _ (by omega) | exact at_s _ _ (by omega) | exact dt (by omega) | exact df (by omega) | exact decide_eq_true (by omega) | exact decide_eq_false (by omega) | exact bts_t (by assumption) | exact bts_f (by assumption) | (rw [bts_t (by assumption)]; rfl) | (rw [bts_f (by assumption)]; rfl) | (unfold InR; omega) | (simp; omega)
    refine ⟨_, _, rfl, ?_, ?_⟩
    · repeat' (first | exact AllP.n | exact trivial | exact DrawB.mk (by decide +kernel) | exact fun _ => rfl | refine AllP.c ?_ ?_)
      all_goals (try dsimp only)
      all_goals try first | exact rfl | exact ⟨trivial, rfl⟩ | exact ⟨trivial, bts_t rfl⟩ | omega | exact at_tr _ _ (by omega) | exact at_s _ _ (by omega) | exact dt (by omega) | exact df (by omega) | exact decide_eq_true (by omega) | exact decide_eq_false (by omega) | exact bts_t (by assumption) | exact bts_f (by assumption) | (rw [bts_t (by assumption)]; rfl) | (rw [bts_f (by assumption)]; rfl) | (unfold InR; omega)
    · rw [decide_eq_false hne]; exact .refl _

/-- How many names differ among the first ones; is one of them none? -/
noncomputable def cnt (a b : Tr) (i : Nat) : Nat := ((N8.take i).filter fun x => !alike a b x).length
noncomputable def bads (a b : Tr) (i : Nat) : Bool := ((N8.take i).filter fun x => !alike a b x).any badB
theorem cnt_next {a b : Tr} {i : Nat} (hi : i < N8.length) : cnt a b (i + 1) = cnt a b i + (if alike a b N8[i] = true then 0 else 1) := by
  unfold cnt
  rw [List.take_succ_eq_append_getElem hi, List.filter_append, List.length_append]
  cases h : alike a b N8[i] <;> simp [h]
theorem bads_next {a b : Tr} {i : Nat} (hi : i < N8.length) : bads a b (i + 1) = (bads a b i || (!alike a b N8[i] && badB N8[i])) := by
  unfold bads
  rw [List.take_succ_eq_append_getElem hi, List.filter_append, List.any_append]
  cases h : alike a b N8[i] <;> simp [h]
theorem bads_all (a b : Tr) : bads a b 8 = !((dn8 a b).all fun x => !badB x) := by
  unfold bads dn8
  have : N8.take 8 = N8 := by decide +kernel
  rw [this, List.not_all_eq_any_not]
  simp
theorem cnt_all (a b : Tr) : cnt a b 8 = (dn8 a b).length := by
  unfold cnt dn8
  have : N8.take 8 = N8 := by decide +kernel
  rw [this]
theorem dn8_at {a b : Tr} {i : Nat} (hi : i < N8.length) (h : alike a b N8[i] = false) : ∃ hc : cnt a b i < (dn8 a b).length, (dn8 a b)[cnt a b i] = N8[i] := by
  have e : dn8 a b = ((N8.take i).filter fun x => !alike a b x) ++ (N8[i] :: ((N8.drop (i + 1)).filter fun x => !alike a b x)) := by
    unfold dn8
    conv => lhs; rw [← List.take_append_drop i N8, List.drop_eq_getElem_cons hi]
    rw [List.filter_append, List.filter_cons, if_pos (by simp [h])]
  have hl : cnt a b i < (dn8 a b).length := by
    rw [e, List.length_append]
    show ((N8.take i).filter fun x => !alike a b x).length < _
    simp
  refine ⟨hl, ?_⟩
  have : (dn8 a b)[cnt a b i]? = some N8[i] := by
    have hc : cnt a b i = ((N8.take i).filter fun x => !alike a b x).length := rfl
    rw [e, hc, List.getElem?_append_right (Nat.le_refl _)]
    simp
  rw [List.getElem?_eq_getElem hl] at this
  exact Option.some.inj this
theorem look_withV {b : List (ByteArray × Tr)} {l : List ByteArray} {x : ByteArray} (hx : x ∈ l) : look (withV (obj b) l) x = look b x := by
  induction l with
  | nil => simp at hx
  | cons y l ih =>
    unfold withV
    rw [List.filterMap_cons, memb_obj]
    by_cases e : y = x
    · subst e
      cases h : look b y with
      | none =>
        simp only [Option.map_none]
        by_cases hy : y ∈ l
        · rw [← h]; exact ih hy
        · have : look (withV (obj b) l) y = none := by
            cases h2 : look (withV (obj b) l) y with
            | none => rfl
            | some v =>
              exfalso
              have := look_some h2
              unfold withV at this
              obtain ⟨z, hz, he⟩ := List.mem_filterMap.1 this
              cases hm : memb (obj b) z with
              | none => rw [hm] at he; cases he
              | some u => rw [hm] at he; simp at he; rw [he.1] at hz; exact hy hz
          exact this
      | some v => simp [look]
    · have hx2 : x ∈ l := by
        rcases List.mem_cons.1 hx with h | h
        · exact absurd h.symm e
        · exact h
      cases h : look b y with
      | none => simp only [Option.map_none]; exact ih hx2
      | some v =>
        simp only [Option.map_some, look, e, if_false]
        exact ih hx2
end Go.Px
end

section
namespace Go.Px
open Go.RowKit

def MX2 (a b : List (ByteArray × Tr)) (P : Pch) (e : Int) : Nat × Bool × Nat → St
  | (i, bad, at_) => ⟨[(5, .oa 30 0), (6, .oa 31 0), (7, .oa 32 0), (8, .i .i64 e), (9, .b bad), (10, .i .i64 at_), (42, .sl 1 8 (N8.map D.s)), (43, .i .i64 8), (44, .i .i64 i)],
    [(30, ⟨30, 1, enc (obj a), 0, true, false, true⟩), (31, ⟨30, 1, enc (obj b), 0, true, false, true⟩), (32, ⟨48, 1, encP P, 0, true, false, true⟩)], 0⟩
theorem GTo {d : Nat} {k : List (ByteArray × Tr)} (h1 : k.length ≤ 3) (h2 : SL (k.map (·.1))) (h3 : ∀ p ∈ k, GT d p.2) : GT (d + 1) (obj k) := .inr (.inr ⟨k, rfl, h1, h2, h3⟩)
theorem OKT_of {d : Nat} {t : Tr} (h : GT d t) (hd : d ≤ 4) : OKT t := by
  obtain ⟨h1, h2, h3⟩ := h.spec
  have hn : nb d ≤ 121 := by
    rcases (by omega : d = 0 ∨ d = 1 ∨ d = 2 ∨ d = 3 ∨ d = 4) with rfl | rfl | rfl | rfl | rfl <;> decide
  exact ⟨h1, by omega, by omega⟩
set_option maxHeartbeats 4000000 in
set_option maxRecDepth 100000 in
theorem diffMasks_ct (l k : List Int) : Pure Go.Proofs.Tryz.prog 8 [.sl 1 l.length (l.map iD), .sl 1 k.length (k.map iD)] (.ret (.b true)) := by
  have haw := awake20_ct
  refine Pure.body tys_valid (fn := Go.Proofs.Tryz.f8) (by kernel_rfl) rfl (by kernel_rfl) rfl ?_
  intro w ok giv E0 _ hE
  by_cases hl40 : l.length > 40
  · skip
    refine H.go 200 [(1, [(2, .gd true)]), (2, [(0, .res (.ret (.b true)))])] [] dr8 rfl ?_ ?_
    · repeat' (first | exact AllP.n | exact trivial | exact DrawB.mk (by decide +kernel) | exact fun _ => rfl | refine AllP.c ?_ ?_)
      all_goals (try dsimp only)
      all_goals try first | exact rfl | exact ⟨trivial, rfl⟩ | exact ⟨trivial, bts_t rfl⟩ | omega | exact at_tr _ _ (by omega) | exact at_s _ _ (by omega) | exact dt (by omega) | exact df (by omega) | exact decide_eq_true (by omega) | exact decide_eq_false (by omega) | exact bts_t (by assumption) | exact bts_f (by assumption) | (rw [bts_t (by assumption)]; rfl) | (rw [bts_f (by assumption)]; rfl) | (unfold InR; omega) | exact haw
    refine ⟨_, _, rfl, ?_, ?_⟩
    · repeat' (first | exact AllP.n | exact trivial | exact DrawB.mk (by decide +kernel) | exact fun _ => rfl | refine AllP.c ?_ ?_)
      all_goals (try dsimp only)
      all_goals try first | exact rfl | exact ⟨trivial, rfl⟩ | exact ⟨trivial, bts_t rfl⟩ | omega | exact at_tr _ _ (by omega) | exact at_s _ _ (by omega) | exact dt (by omega) | exact df (by omega) | exact decide_eq_true (by omega) | exact decide_eq_false (by omega) | exact bts_t (by assumption) | exact bts_f (by assumption) | (rw [bts_t (by assumption)]; rfl) | (rw [bts_f (by assumption)]; rfl) | (unfold InR; omega)
    · exact .refl _
  by_cases hk40 : k.length > 40
  · skip
    refine H.go 200 [(1, [(2, .gd false), (6, .gd true)]), (2, [(0, .res (.ret (.b true)))])] [] dr8 rfl ?_ ?_
    · repeat' (first | exact AllP.n | exact trivial | exact DrawB.mk (by decide +kernel) | exact fun _ => rfl | refine AllP.c ?_ ?_)
      all_goals (try dsimp only)
      all_goals try first | exact rfl | exact ⟨trivial, rfl⟩ | exact ⟨trivial, bts_t rfl⟩ | omega | exact at_tr _ _ (by omega) | exact at_s _ _ (by omega) | exact dt (by omega) | exact df (by omega) | exact decide_eq_true (by omega) | exact decide_eq_false (by omega) | exact bts_t (by assumption) | exact bts_f (by assumption) | (rw [bts_t (by assumption)]; rfl) | (rw [bts_f (by assumption)]; rfl) | (unfold InR; omega) | exact haw
    refine ⟨_, _, rfl, ?_, ?_⟩
    · repeat' (first | exact AllP.n | exact trivial | exact DrawB.mk (by decide +kernel) | exact fun _ => rfl | refine AllP.c ?_ ?_)
      all_goals (try dsimp only)
      all_goals try first | exact rfl | exact ⟨trivial, rfl⟩ | exact ⟨trivial, bts_t rfl⟩ | omega | exact at_tr _ _ (by omega) | exact at_s _ _ (by omega) | exact dt (by omega) | exact df (by omega) | exact decide_eq_true (by omega) | exact decide_eq_false (by omega) | exact bts_t (by assumption) | exact bts_f (by assumption) | (rw [bts_t (by assumption)]; rfl) | (rw [bts_f (by assumption)]; rfl) | (unfold InR; omega)
    · exact .refl _
  have hl : l.length < 2^39 := by omega
  have hk : k.length < 2^39 := by omega
  obtain ⟨a, a1, a2, a3, hma⟩ := Made_obj 2 (by omega) l hl
  obtain ⟨b, b1, b2, b3, hmb⟩ := Made_obj 2 (by omega) k hk
  rw [Nat.add_comm l.length 1] at hma
  rw [Nat.add_comm k.length 1] at hmb
  have ga := GTo a1 a2 a3
  have gb := GTo b1 b2 b3
  have oa := OKT_of ga (by omega)
  have ob := OKT_of gb (by omega)
  have va := oa.1
  have vb := ob.1
  have hdf := diff3_ct (obj a) (obj b) 0 oa ob
  have hms := masked_obj a2 b2
  have hmem : ∀ (c : List (ByteArray × Tr)), c.length ≤ 3 → ∀ x, Pure Go.Proofs.Tryz.prog 32 [.ag (enc (obj c)), .s x] (.ret (.tup [.ag (enc ((memb (obj c) x).getD nul)), .b (memb (obj c) x).isSome])) := fun c hc x => rmember_ct (obj c) x (by rw [(obj_len c).1]; omega) (by rw [(obj_len c).2]; omega)
  have hrs : ∀ x, Pure Go.Proofs.Tryz.prog 18 [.ag (enc ((memb (obj a) x).getD nul)), .ag (enc ((memb (obj b) x).getD nul))] (.ret (.b (teq ((memb (obj a) x).getD nul) ((memb (obj b) x).getD nul)))) := fun x => rsame_ct _ _ (membD_VT va) (membD_VT vb)
  cases hG : (dn8 (obj a) (obj b)).all fun x => !badB x with
  | true =>
    have hd3 : diff3 (obj a) (obj b) = (⟨3, [], obj (withV (obj b) (dn8 (obj a) (obj b))), (dn8 (obj a) (obj b)).map fun x => [x]⟩, 0) := by unfold diff3; rw [hms, hG]; rfl
    rw [hd3] at hdf
    have hgood : ∀ x ∈ dn8 (obj a) (obj b), badB x = false := fun x hx => by have := List.all_eq_true.1 hG x hx; simpa using this
    refine H.go 200 [(1, [(2, .gd false), (6, .gd false)]), (3, [(0, .own), (3, .res (.ret (.ag (enc (obj a))))), (4, .own), (7, .res (.ret (.ag (enc (obj b)))))]), (4, [(2, .res (.ret (.tup [.ag (encP ⟨3, [], obj (withV (obj b) (dn8 (obj a) (obj b))), (dn8 (obj a) (obj b)).map fun x => [x]⟩), .i .i64 0])))])] [] dr8 rfl ?_ ?_
    · repeat' (first | exact AllP.n | exact trivial | exact DrawB.mk (by decide +kernel) | exact fun _ => rfl | refine AllP.c ?_ ?_)
      all_goals (try dsimp only)
      all_goals try first | exact rfl | exact ⟨trivial, rfl⟩ | exact ⟨trivial, bts_t rfl⟩ | omega | exact at_tr _ _ (by omega) | exact at_s _ _ (by omega) | exact dt (by omega) | exact df (by omega) | exact decide_eq_true (by omega) | exact decide_eq_false (by omega) | exact bts_t (by assumption) | exact bts_f (by assumption) | (rw [bts_t (by assumption)]; rfl) | (rw [bts_f (by assumption)]; rfl) | (unfold InR; omega) | (show (D.i .i64 45 :: l.map iD).length = 1 + l.length; simp; omega) | (show (D.i .i64 45 :: k.map iD).length = 1 + k.length; simp; omega) | (show (D.i .i64 45 :: l.map iD).length = mulN (1 + l.length) 1; rw [mulN_eq]; simp; omega) | (show (D.i .i64 45 :: k.map iD).length = mulN (1 + k.length) 1; rw [mulN_eq]; simp; omega) | exact hma | exact hmb | exact hdf | exact hx | exact ra | exact rb | exact rs | exact haw | (refine ⟨trivial, ?_⟩; simp [mulN_eq]; done) | (refine ⟨?_, ?_⟩ <;> (try simp) <;> omega) | (refine ⟨?_, ?_, ?_⟩ <;> (try simp) <;> omega) | (simp [mulN_eq]; omega) | (simp [mulN_eq]; done)
    refine H.loopI (fun y : Nat × Bool × Nat => y.1 ≤ 8 ∧ y.2.1 = false ∧ y.2.2 = cnt (obj a) (obj b) y.1) (MX2 a b ⟨3, [], obj (withV (obj b) (dn8 (obj a) (obj b))), (dn8 (obj a) (obj b)).map fun x => [x]⟩ 0) (fun y => 8 - y.1) (0, false, 0) ⟨by decide, rfl, rfl⟩ ?_ ?_
    · intro a w s
      exact s.ren hE [(30, 4), (31, 5), (32, 6)] (by repeat' (first | exact trivial | exact rfl | apply And.intro)) (by repeat' (first | exact trivial | exact rfl | apply And.intro)) rfl
    rintro ⟨i, bad, at_⟩ ⟨h1, h2, h3⟩
    simp only at h1 h2 h3
    by_cases hi : i < 8
    · have hi8 : i < N8.length := hi
      have hx := at_s N8 i hi8
      have ra := hmem a a1 N8[i]
      have rb := hmem b b1 N8[i]
      have rs := hrs N8[i]
      have hcn := cnt_next (a := obj a) (b := obj b) hi8
      have hbn := bads_next (a := obj a) (b := obj b) hi8
      cases hal : alike (obj a) (obj b) N8[i] with
      | true =>
        have hq : (memb (obj a) N8[i]).isSome = (memb (obj b) N8[i]).isSome := Classical.byContradiction fun h => by rw [alike_ne h] at hal; cases hal
        have hq2 : ((memb (obj a) N8[i]).isSome == (memb (obj b) N8[i]).isSome) = true := by rw [hq]; simp
        rw [← alike_eq hq, hal] at rs
        rw [hal] at hcn hbn
        refine H.go 200 [(8, [(1, .cell (.s N8[i]))]), (9, [(2, .res (.ret (.tup [.ag (enc ((memb (obj a) N8[i]).getD nul)), .b (memb (obj a) N8[i]).isSome])))]), (10, [(2, .res (.ret (.tup [.ag (enc ((memb (obj b) N8[i]).getD nul)), .b (memb (obj b) N8[i]).isSome])))]), (11, [(3, .gd true), (6, .res (.ret (.b true)))])] [(45, true), (67, true)] dr8 rfl ?_ ?_
        · repeat' (first | exact AllP.n | exact trivial | exact DrawB.mk (by decide +kernel) | exact fun _ => rfl | refine AllP.c ?_ ?_)
          all_goals (try dsimp only)
          all_goals try first | exact rfl | exact ⟨trivial, rfl⟩ | exact ⟨trivial, bts_t rfl⟩ | omega | exact at_tr _ _ (by omega) | exact at_s _ _ (by omega) | exact dt (by omega) | exact df (by omega) | exact decide_eq_true (by omega) | exact decide_eq_false (by omega) | exact bts_t (by assumption) | exact bts_f (by assumption) | (rw [bts_t (by assumption)]; rfl) | (rw [bts_f (by assumption)]; rfl) | (unfold InR; omega) | (show (D.i .i64 45 :: l.map iD).length = 1 + l.length; simp; omega) | (show (D.i .i64 45 :: k.map iD).length = 1 + k.length; simp; omega) | (show (D.i .i64 45 :: l.map iD).length = mulN (1 + l.length) 1; rw [mulN_eq]; simp; omega) | (show (D.i .i64 45 :: k.map iD).length = mulN (1 + k.length) 1; rw [mulN_eq]; simp; omega) | exact hma | exact hmb | exact hdf | exact hx | exact ra | exact rb | exact rs | exact haw | (refine ⟨trivial, ?_⟩; simp [mulN_eq]; done) | (refine ⟨?_, ?_⟩ <;> (try simp) <;> omega) | (refine ⟨?_, ?_, ?_⟩ <;> (try simp) <;> omega) | (simp [mulN_eq]; omega) | (simp [mulN_eq]; done) | exact ⟨trivial, hq2⟩
        exact loopN (i + 1, bad, at_) ⟨by simp only; omega, h2, by simp only; rw [hcn, h3]; rfl⟩ (by show 8 - (i + 1) < 8 - i; omega) fun a w s => s.ren hE [] (by repeat' (first | exact trivial | exact rfl | apply And.intro)) (by repeat' (first | exact trivial | exact rfl | apply And.intro)) rfl
      | false =>
        rw [hal] at hcn hbn
        obtain ⟨hc, hce⟩ := dn8_at hi8 hal
        have hmn : N8[i] ∈ dn8 (obj a) (obj b) := by rw [← hce]; exact List.getElem_mem _
        have hnb := hgood _ hmn
        unfold badB at hnb
        simp only [Bool.or_eq_false_iff] at hnb
        obtain ⟨⟨n1, n2⟩, n3⟩ := hnb
        have hpv : memb (obj (withV (obj b) (dn8 (obj a) (obj b)))) N8[i] = memb (obj b) N8[i] := by rw [memb_obj, memb_obj]; exact look_withV hmn
        have hwl : (withV (obj b) (dn8 (obj a) (obj b))).length ≤ 8 := Nat.le_trans (List.length_filterMap_le _ _) (Nat.le_trans (List.length_filter_le _ _) (by decide))
        have rp := rmember_ct (obj (withV (obj b) (dn8 (obj a) (obj b)))) N8[i] (by rw [(obj_len _).1]; omega) (by rw [(obj_len _).2]; omega)
        rw [hpv] at rp
        have rz := rsame_ct _ _ (membD_VT (x := N8[i]) vb) (membD_VT (x := N8[i]) vb)
        rw [teq_t rfl] at rz
        have rss := sameStrs_ct [N8[i]] [N8[i]] (by simp) (by simp)
        have hc8 : (dn8 (obj a) (obj b)).length ≤ 8 := Nat.le_trans (List.length_filter_le _ _) (by decide)
        rw [decide_eq_true rfl] at rss
        subst h2 h3
        have hcell : ((((dn8 (obj a) (obj b)).map fun x => [x]).map pth).drop (mulN ((cnt (obj a) (obj b) i : Nat) : Int).toNat 1))[0]? = some (pth [N8[i]]) := by
          have := at_p ((dn8 (obj a) (obj b)).map fun x => [x]) (cnt (obj a) (obj b) i) (by rw [List.length_map]; exact hc)
          rw [this, List.getElem_map, hce]
        by_cases hq : (memb (obj a) N8[i]).isSome = (memb (obj b) N8[i]).isSome
        · have hq2 : ((memb (obj a) N8[i]).isSome == (memb (obj b) N8[i]).isSome) = true := by rw [hq]; simp
          rw [← alike_eq hq, hal] at rs
          refine H.go 200 [(8, [(1, .cell (.s N8[i]))]), (9, [(2, .res (.ret (.tup [.ag (enc ((memb (obj a) N8[i]).getD nul)), .b (memb (obj a) N8[i]).isSome])))]), (10, [(2, .res (.ret (.tup [.ag (enc ((memb (obj b) N8[i]).getD nul)), .b (memb (obj b) N8[i]).isSome])))]), (11, [(3, .gd true), (6, .res (.ret (.b false)))]), (12, [(3, .gd false), (7, .gd false), (11, .gd false)]), (13, [(3, .gd false)]), (14, [(3, .res (.ret (.tup [.ag (enc ((memb (obj b) N8[i]).getD nul)), .b (memb (obj b) N8[i]).isSome])))]), (15, [(4, .gd false), (10, .cell (pth [N8[i]])), (13, .res (.ret (.b true))), (19, .gd false), (24, .res (.ret (.b true)))]), (17, [(1, .val (.i .i64 ((cnt (obj a) (obj b) i + 1 : Nat) : Int)))])] [(45, true), (67, false), (119, false)] dr8 rfl ?_ ?_
          · repeat' (first | exact AllP.n | exact trivial | exact DrawB.mk (by decide +kernel) | exact fun _ => rfl | refine AllP.c ?_ ?_)
            all_goals (try dsimp only)
            all_goals try first | exact rfl | exact ⟨trivial, rfl⟩ | exact ⟨trivial, bts_t rfl⟩ | omega | exact at_tr _ _ (by omega) | exact at_s _ _ (by omega) | exact dt (by omega) | exact df (by omega) | exact decide_eq_true (by omega) | exact decide_eq_false (by omega) | exact bts_t (by assumption) | exact bts_f (by assumption) | (rw [bts_t (by assumption)]; rfl) | (rw [bts_f (by assumption)]; rfl) | (unfold InR; omega) | (show (D.i .i64 45 :: l.map iD).length = 1 + l.length; simp; omega) | (show (D.i .i64 45 :: k.map iD).length = 1 + k.length; simp; omega) | (show (D.i .i64 45 :: l.map iD).length = mulN (1 + l.length) 1; rw [mulN_eq]; simp; omega) | (show (D.i .i64 45 :: k.map iD).length = mulN (1 + k.length) 1; rw [mulN_eq]; simp; omega) | exact hma | exact hmb | exact hdf | exact hx | exact ra | exact rb | exact rs | exact haw | (refine ⟨trivial, ?_⟩; simp [mulN_eq]; done) | (refine ⟨?_, ?_⟩ <;> (try simp) <;> omega) | (refine ⟨?_, ?_, ?_⟩ <;> (try simp) <;> omega) | (simp [mulN_eq]; omega) | (simp [mulN_eq]; done) | exact ⟨trivial, hq2⟩ | exact ⟨trivial, n1⟩ | exact ⟨trivial, n2⟩ | exact ⟨trivial, n3⟩ | exact rp | exact rz | exact rss | exact hcell | (refine ⟨trivial, decide_eq_false ?_⟩; simp only [List.length_map]; omega) | (refine ⟨by unfold InR; omega, ei ?_⟩; omega) | (simp only [List.length_map]; omega) | (refine ⟨trivial, ?_⟩; simp; done)
          exact loopN (i + 1, false, cnt (obj a) (obj b) i + 1) ⟨by simp only; omega, rfl, by simp only; rw [hcn]; rfl⟩ (by show 8 - (i + 1) < 8 - i; omega) fun a w s => s.ren hE [] (by repeat' (first | exact trivial | exact rfl | apply And.intro)) (by repeat' (first | exact trivial | exact rfl | apply And.intro)) rfl
        · have hq2 : ((memb (obj a) N8[i]).isSome == (memb (obj b) N8[i]).isSome) = false := beq_false_of_ne hq
          refine H.go 200 [(8, [(1, .cell (.s N8[i]))]), (9, [(2, .res (.ret (.tup [.ag (enc ((memb (obj a) N8[i]).getD nul)), .b (memb (obj a) N8[i]).isSome])))]), (10, [(2, .res (.ret (.tup [.ag (enc ((memb (obj b) N8[i]).getD nul)), .b (memb (obj b) N8[i]).isSome])))]), (11, [(3, .gd false)]), (12, [(3, .gd false), (7, .gd false), (11, .gd false)]), (13, [(3, .gd false)]), (14, [(3, .res (.ret (.tup [.ag (enc ((memb (obj b) N8[i]).getD nul)), .b (memb (obj b) N8[i]).isSome])))]), (15, [(4, .gd false), (10, .cell (pth [N8[i]])), (13, .res (.ret (.b true))), (19, .gd false), (24, .res (.ret (.b true)))]), (17, [(1, .val (.i .i64 ((cnt (obj a) (obj b) i + 1 : Nat) : Int)))])] [(45, true), (67, false), (119, false)] dr8 rfl ?_ ?_
          · repeat' (first | exact AllP.n | exact trivial | exact DrawB.mk (by decide +kernel) | exact fun _ => rfl | refine AllP.c ?_ ?_)
            all_goals (try dsimp only)
            all_goals try first | exact rfl | exact ⟨trivial, rfl⟩ | exact ⟨trivial, bts_t rfl⟩ | omega | exact at_tr _ _ (by omega) | exact at_s _ _ (by omega) | exact dt (by omega) | exact df (by omega) | exact decide_eq_true (by omega) | exact decide_eq_false (by omega) | exact bts_t (by assumption) | exact bts_f (by assumption) | (rw [bts_t (by assumption)]; rfl) | (rw [bts_f (by assumption)]; rfl) | (unfold InR; omega) | (show (D.i .i64 45 :: l.map iD).length = 1 + l.length; simp; omega) | (show (D.i .i64 45 :: k.map iD).length = 1 + k.length; simp; omega) | (show (D.i .i64 45 :: l.map iD).length = mulN (1 + l.length) 1; rw [mulN_eq]; simp; omega) | (show (D.i .i64 45 :: k.map iD).length = mulN (1 + k.length) 1; rw [mulN_eq]; simp; omega) | exact hma | exact hmb | exact hdf | exact hx | exact ra | exact rb | exact rs | exact haw | (refine ⟨trivial, ?_⟩; simp [mulN_eq]; done) | (refine ⟨?_, ?_⟩ <;> (try simp) <;> omega) | (refine ⟨?_, ?_, ?_⟩ <;> (try simp) <;> omega) | (simp [mulN_eq]; omega) | (simp [mulN_eq]; done) | exact ⟨trivial, hq2⟩ | exact ⟨trivial, n1⟩ | exact ⟨trivial, n2⟩ | exact ⟨trivial, n3⟩ | exact rp | exact rz | exact rss | exact hcell | (refine ⟨trivial, decide_eq_false ?_⟩; simp only [List.length_map]; omega) | (refine ⟨by unfold InR; omega, ei ?_⟩; omega) | (simp only [List.length_map]; omega) | (refine ⟨trivial, ?_⟩; simp; done)
          exact loopN (i + 1, false, cnt (obj a) (obj b) i + 1) ⟨by simp only; omega, rfl, by simp only; rw [hcn]; rfl⟩ (by show 8 - (i + 1) < 8 - i; omega) fun a w s => s.ren hE [] (by repeat' (first | exact trivial | exact rfl | apply And.intro)) (by repeat' (first | exact trivial | exact rfl | apply And.intro)) rfl
    · obtain rfl : i = 8 := by omega
      subst h2 h3
      have hca := cnt_all (obj a) (obj b)
      rw [hca]
      refine H.go 200 [] [(45, false)] dr8 rfl ?_ ?_
      · repeat' (first | exact AllP.n | exact trivial | exact DrawB.mk (by decide +kernel) | exact fun _ => rfl | refine AllP.c ?_ ?_)
        all_goals (try dsimp only)
        all_goals try first | exact rfl | exact ⟨trivial, rfl⟩ | exact ⟨trivial, bts_t rfl⟩ | omega | exact at_tr _ _ (by omega) | exact at_s _ _ (by omega) | exact dt (by omega) | exact df (by omega) | exact decide_eq_true (by omega) | exact decide_eq_false (by omega) | exact bts_t (by assumption) | exact bts_f (by assumption) | (rw [bts_t (by assumption)]; rfl) | (rw [bts_f (by assumption)]; rfl) | (unfold InR; omega) | (show (D.i .i64 45 :: l.map iD).length = 1 + l.length; simp; omega) | (show (D.i .i64 45 :: k.map iD).length = 1 + k.length; simp; omega) | (show (D.i .i64 45 :: l.map iD).length = mulN (1 + l.length) 1; rw [mulN_eq]; simp; omega) | (show (D.i .i64 45 :: k.map iD).length = mulN (1 + k.length) 1; rw [mulN_eq]; simp; omega) | exact hma | exact hmb | exact hdf | exact hx | exact ra | exact rb | exact rs | exact haw | (refine ⟨trivial, ?_⟩; simp [mulN_eq]; done) | (refine ⟨?_, ?_⟩ <;> (try simp) <;> omega) | (refine ⟨?_, ?_, ?_⟩ <;> (try simp) <;> omega) | (simp [mulN_eq]; omega) | (simp [mulN_eq]; done)
      refine H.go 200 [(21, [(1, .gd true), (7, .gd true), (10, .res (.ret (.b true)))])] [] dr8 rfl ?_ ?_
      · repeat' (first | exact AllP.n | exact trivial | exact DrawB.mk (by decide +kernel) | exact fun _ => rfl | refine AllP.c ?_ ?_)
        all_goals (try dsimp only)
        all_goals try first | exact rfl | exact ⟨trivial, rfl⟩ | exact ⟨trivial, bts_t rfl⟩ | omega | exact at_tr _ _ (by omega) | exact at_s _ _ (by omega) | exact dt (by omega) | exact df (by omega) | exact decide_eq_true (by omega) | exact decide_eq_false (by omega) | exact bts_t (by assumption) | exact bts_f (by assumption) | (rw [bts_t (by assumption)]; rfl) | (rw [bts_f (by assumption)]; rfl) | (unfold InR; omega) | (show (D.i .i64 45 :: l.map iD).length = 1 + l.length; simp; omega) | (show (D.i .i64 45 :: k.map iD).length = 1 + k.length; simp; omega) | (show (D.i .i64 45 :: l.map iD).length = mulN (1 + l.length) 1; rw [mulN_eq]; simp; omega) | (show (D.i .i64 45 :: k.map iD).length = mulN (1 + k.length) 1; rw [mulN_eq]; simp; omega) | exact hma | exact hmb | exact hdf | exact hx | exact ra | exact rb | exact rs | exact haw | (refine ⟨trivial, ?_⟩; simp [mulN_eq]; done) | (refine ⟨?_, ?_⟩ <;> (try simp) <;> omega) | (refine ⟨?_, ?_, ?_⟩ <;> (try simp) <;> omega) | (simp [mulN_eq]; omega) | (simp [mulN_eq]; done)
      refine ⟨_, _, rfl, ?_, ?_⟩
      · repeat' (first | exact AllP.n | exact trivial | exact DrawB.mk (by decide +kernel) | exact fun _ => rfl | refine AllP.c ?_ ?_)
        all_goals (try dsimp only)
        all_goals try first | exact rfl | exact ⟨trivial, rfl⟩ | exact ⟨trivial, bts_t rfl⟩ | omega | exact at_tr _ _ (by omega) | exact at_s _ _ (by omega) | exact dt (by omega) | exact df (by omega) | exact decide_eq_true (by omega) | exact decide_eq_false (by omega) | exact bts_t (by assumption) | exact bts_f (by assumption) | (rw [bts_t (by assumption)]; rfl) | (rw [bts_f (by assumption)]; rfl) | (unfold InR; omega)
      · exact .refl _
  | false =>
    have hd3 : diff3 (obj a) (obj b) = (pch0, 7) := by unfold diff3; rw [hms, hG]; rfl
    rw [hd3] at hdf
    refine H.go 200 [(1, [(2, .gd false), (6, .gd false)]), (3, [(0, .own), (3, .res (.ret (.ag (enc (obj a))))), (4, .own), (7, .res (.ret (.ag (enc (obj b)))))]), (4, [(2, .res (.ret (.tup [.ag (encP pch0), .i .i64 7])))])] [] dr8 rfl ?_ ?_
    · repeat' (first | exact AllP.n | exact trivial | exact DrawB.mk (by decide +kernel) | exact fun _ => rfl | refine AllP.c ?_ ?_)
      all_goals (try dsimp only)
      all_goals try first | exact rfl | exact ⟨trivial, rfl⟩ | exact ⟨trivial, bts_t rfl⟩ | omega | exact at_tr _ _ (by omega) | exact at_s _ _ (by omega) | exact dt (by omega) | exact df (by omega) | exact decide_eq_true (by omega) | exact decide_eq_false (by omega) | exact bts_t (by assumption) | exact bts_f (by assumption) | (rw [bts_t (by assumption)]; rfl) | (rw [bts_f (by assumption)]; rfl) | (unfold InR; omega) | (show (D.i .i64 45 :: l.map iD).length = 1 + l.length; simp; omega) | (show (D.i .i64 45 :: k.map iD).length = 1 + k.length; simp; omega) | (show (D.i .i64 45 :: l.map iD).length = mulN (1 + l.length) 1; rw [mulN_eq]; simp; omega) | (show (D.i .i64 45 :: k.map iD).length = mulN (1 + k.length) 1; rw [mulN_eq]; simp; omega) | exact hma | exact hmb | exact hdf | exact hx | exact ra | exact rb | exact rs | exact haw | (refine ⟨trivial, ?_⟩; simp [mulN_eq]; done) | (refine ⟨?_, ?_⟩ <;> (try simp) <;> omega) | (refine ⟨?_, ?_, ?_⟩ <;> (try simp) <;> omega) | (simp [mulN_eq]; omega) | (simp [mulN_eq]; done)
    refine H.loopI (fun y : Nat × Bool × Nat => y.1 ≤ 8 ∧ y.2.1 = bads (obj a) (obj b) y.1 ∧ y.2.2 = 0) (MX2 a b pch0 7) (fun y => 8 - y.1) (0, false, 0) ⟨by decide, rfl, rfl⟩ ?_ ?_
    · intro a w s
      exact s.ren hE [(30, 4), (31, 5), (32, 6)] (by repeat' (first | exact trivial | exact rfl | apply And.intro)) (by repeat' (first | exact trivial | exact rfl | apply And.intro)) rfl
    rintro ⟨i, bad, at_⟩ ⟨h1, h2, h3⟩
    simp only at h1 h2 h3
    by_cases hi : i < 8
    · have hi8 : i < N8.length := hi
      have hx := at_s N8 i hi8
      have ra := hmem a a1 N8[i]
      have rb := hmem b b1 N8[i]
      have rs := hrs N8[i]
      have hcn := cnt_next (a := obj a) (b := obj b) hi8
      have hbn := bads_next (a := obj a) (b := obj b) hi8
      cases hal : alike (obj a) (obj b) N8[i] with
      | true =>
        have hq : (memb (obj a) N8[i]).isSome = (memb (obj b) N8[i]).isSome := Classical.byContradiction fun h => by rw [alike_ne h] at hal; cases hal
        have hq2 : ((memb (obj a) N8[i]).isSome == (memb (obj b) N8[i]).isSome) = true := by rw [hq]; simp
        rw [← alike_eq hq, hal] at rs
        rw [hal] at hcn hbn
        refine H.go 200 [(8, [(1, .cell (.s N8[i]))]), (9, [(2, .res (.ret (.tup [.ag (enc ((memb (obj a) N8[i]).getD nul)), .b (memb (obj a) N8[i]).isSome])))]), (10, [(2, .res (.ret (.tup [.ag (enc ((memb (obj b) N8[i]).getD nul)), .b (memb (obj b) N8[i]).isSome])))]), (11, [(3, .gd true), (6, .res (.ret (.b true)))])] [(45, true), (67, true)] dr8 rfl ?_ ?_
        · repeat' (first | exact AllP.n | exact trivial | exact DrawB.mk (by decide +kernel) | exact fun _ => rfl | refine AllP.c ?_ ?_)
          all_goals (try dsimp only)
          all_goals try first | exact rfl | exact ⟨trivial, rfl⟩ | exact ⟨trivial, bts_t rfl⟩ | omega | exact at_tr _ _ (by omega) | exact at_s _ _ (by omega) | exact dt (by omega) | exact df (by omega) | exact decide_eq_true (by omega) | exact decide_eq_false (by omega) | exact bts_t (by assumption) | exact bts_f (by assumption) | (rw [bts_t (by assumption)]; rfl) | (rw [bts_f (by assumption)]; rfl) | (unfold InR; omega) | (show (D.i .i64 45 :: l.map iD).length = 1 + l.length; simp; omega) | (show (D.i .i64 45 :: k.map iD).length = 1 + k.length; simp; omega) | (show (D.i .i64 45 :: l.map iD).length = mulN (1 + l.length) 1; rw [mulN_eq]; simp; omega) | (show (D.i .i64 45 :: k.map iD).length = mulN (1 + k.length) 1; rw [mulN_eq]; simp; omega) | exact hma | exact hmb | exact hdf | exact hx | exact ra | exact rb | exact rs | exact haw | (refine ⟨trivial, ?_⟩; simp [mulN_eq]; done) | (refine ⟨?_, ?_⟩ <;> (try simp) <;> omega) | (refine ⟨?_, ?_, ?_⟩ <;> (try simp) <;> omega) | (simp [mulN_eq]; omega) | (simp [mulN_eq]; done) | exact ⟨trivial, hq2⟩
        exact loopN (i + 1, bad, at_) ⟨by simp only; omega, by simp only; rw [hbn, h2]; simp, h3⟩ (by show 8 - (i + 1) < 8 - i; omega) fun a w s => s.ren hE [] (by repeat' (first | exact trivial | exact rfl | apply And.intro)) (by repeat' (first | exact trivial | exact rfl | apply And.intro)) rfl
      | false =>
        rw [hal] at hcn hbn
        subst h3
        by_cases hq : (memb (obj a) N8[i]).isSome = (memb (obj b) N8[i]).isSome
        · have hq2 : ((memb (obj a) N8[i]).isSome == (memb (obj b) N8[i]).isSome) = true := by rw [hq]; simp
          rw [← alike_eq hq, hal] at rs
          cases hb0 : bads (obj a) (obj b) i with
          | true =>
            rw [hb0] at h2 hbn
            subst h2
            refine H.go 200 [(8, [(1, .cell (.s N8[i]))]), (9, [(2, .res (.ret (.tup [.ag (enc ((memb (obj a) N8[i]).getD nul)), .b (memb (obj a) N8[i]).isSome])))]), (10, [(2, .res (.ret (.tup [.ag (enc ((memb (obj b) N8[i]).getD nul)), .b (memb (obj b) N8[i]).isSome])))]), (11, [(3, .gd true), (6, .res (.ret (.b false)))])] [(45, true), (67, false)] dr8 rfl ?_ ?_
            · repeat' (first | exact AllP.n | exact trivial | exact DrawB.mk (by decide +kernel) | exact fun _ => rfl | refine AllP.c ?_ ?_)
              all_goals (try dsimp only)
              all_goals try first | exact rfl | exact ⟨trivial, rfl⟩ | exact ⟨trivial, bts_t rfl⟩ | omega | exact at_tr _ _ (by omega) | exact at_s _ _ (by omega) | exact dt (by omega) | exact df (by omega) | exact decide_eq_true (by omega) | exact decide_eq_false (by omega) | exact bts_t (by assumption) | exact bts_f (by assumption) | (rw [bts_t (by assumption)]; rfl) | (rw [bts_f (by assumption)]; rfl) | (unfold InR; omega) | (show (D.i .i64 45 :: l.map iD).length = 1 + l.length; simp; omega) | (show (D.i .i64 45 :: k.map iD).length = 1 + k.length; simp; omega) | (show (D.i .i64 45 :: l.map iD).length = mulN (1 + l.length) 1; rw [mulN_eq]; simp; omega) | (show (D.i .i64 45 :: k.map iD).length = mulN (1 + k.length) 1; rw [mulN_eq]; simp; omega) | exact hma | exact hmb | exact hdf | exact hx | exact ra | exact rb | exact rs | exact haw | (refine ⟨trivial, ?_⟩; simp [mulN_eq]; done) | (refine ⟨?_, ?_⟩ <;> (try simp) <;> omega) | (refine ⟨?_, ?_, ?_⟩ <;> (try simp) <;> omega) | (simp [mulN_eq]; omega) | (simp [mulN_eq]; done) | exact ⟨trivial, hq2⟩ | exact ⟨trivial, e1⟩ | exact ⟨trivial, e2⟩ | exact ⟨trivial, e3⟩
            exact loopN (i + 1, true, 0) ⟨by simp only; omega, by simp only; rw [hbn]; rfl, rfl⟩ (by show 8 - (i + 1) < 8 - i; omega) fun a w s => s.ren hE [] (by repeat' (first | exact trivial | exact rfl | apply And.intro)) (by repeat' (first | exact trivial | exact rfl | apply And.intro)) rfl
          | false =>
            rw [hb0] at h2 hbn
            subst h2
            cases e1 : (N8[i].toList == (⟨#[]⟩ : ByteArray).toList) with
            | true =>
              have hbb : badB N8[i] = true := by unfold badB; simp only [e1, Bool.true_or, Bool.false_or]
              rw [hbb] at hbn
              refine H.go 200 [(8, [(1, .cell (.s N8[i]))]), (9, [(2, .res (.ret (.tup [.ag (enc ((memb (obj a) N8[i]).getD nul)), .b (memb (obj a) N8[i]).isSome])))]), (10, [(2, .res (.ret (.tup [.ag (enc ((memb (obj b) N8[i]).getD nul)), .b (memb (obj b) N8[i]).isSome])))]), (11, [(3, .gd true), (6, .res (.ret (.b false)))]), (12, [(3, .gd true)])] [(45, true), (67, false)] dr8 rfl ?_ ?_
              · repeat' (first | exact AllP.n | exact trivial | exact DrawB.mk (by decide +kernel) | exact fun _ => rfl | refine AllP.c ?_ ?_)
                all_goals (try dsimp only)
                all_goals try first | exact rfl | exact ⟨trivial, rfl⟩ | exact ⟨trivial, bts_t rfl⟩ | omega | exact at_tr _ _ (by omega) | exact at_s _ _ (by omega) | exact dt (by omega) | exact df (by omega) | exact decide_eq_true (by omega) | exact decide_eq_false (by omega) | exact bts_t (by assumption) | exact bts_f (by assumption) | (rw [bts_t (by assumption)]; rfl) | (rw [bts_f (by assumption)]; rfl) | (unfold InR; omega) | (show (D.i .i64 45 :: l.map iD).length = 1 + l.length; simp; omega) | (show (D.i .i64 45 :: k.map iD).length = 1 + k.length; simp; omega) | (show (D.i .i64 45 :: l.map iD).length = mulN (1 + l.length) 1; rw [mulN_eq]; simp; omega) | (show (D.i .i64 45 :: k.map iD).length = mulN (1 + k.length) 1; rw [mulN_eq]; simp; omega) | exact hma | exact hmb | exact hdf | exact hx | exact ra | exact rb | exact rs | exact haw | (refine ⟨trivial, ?_⟩; simp [mulN_eq]; done) | (refine ⟨?_, ?_⟩ <;> (try simp) <;> omega) | (refine ⟨?_, ?_, ?_⟩ <;> (try simp) <;> omega) | (simp [mulN_eq]; omega) | (simp [mulN_eq]; done) | exact ⟨trivial, hq2⟩ | exact ⟨trivial, e1⟩ | exact ⟨trivial, e2⟩ | exact ⟨trivial, e3⟩
              exact loopN (i + 1, true, 0) ⟨by simp only; omega, by simp only; rw [hbn]; rfl, rfl⟩ (by show 8 - (i + 1) < 8 - i; omega) fun a w s => s.ren hE [] (by repeat' (first | exact trivial | exact rfl | apply And.intro)) (by repeat' (first | exact trivial | exact rfl | apply And.intro)) rfl
            | false =>
              cases e2 : (N8[i].toList == (⟨#[120, 47, 121]⟩ : ByteArray).toList) with
              | true =>
                have hbb : badB N8[i] = true := by unfold badB; simp only [e1, e2, Bool.true_or, Bool.false_or]
                rw [hbb] at hbn
                refine H.go 200 [(8, [(1, .cell (.s N8[i]))]), (9, [(2, .res (.ret (.tup [.ag (enc ((memb (obj a) N8[i]).getD nul)), .b (memb (obj a) N8[i]).isSome])))]), (10, [(2, .res (.ret (.tup [.ag (enc ((memb (obj b) N8[i]).getD nul)), .b (memb (obj b) N8[i]).isSome])))]), (11, [(3, .gd true), (6, .res (.ret (.b false)))]), (12, [(3, .gd false), (7, .gd true)])] [(45, true), (67, false)] dr8 rfl ?_ ?_
                · repeat' (first | exact AllP.n | exact trivial | exact DrawB.mk (by decide +kernel) | exact fun _ => rfl | refine AllP.c ?_ ?_)
                  all_goals (try dsimp only)
                  all_goals try first | exact rfl | exact ⟨trivial, rfl⟩ | exact ⟨trivial, bts_t rfl⟩ | omega | exact at_tr _ _ (by omega) | exact at_s _ _ (by omega) | exact dt (by omega) | exact df (by omega) | exact decide_eq_true (by omega) | exact decide_eq_false (by omega) | exact bts_t (by assumption) | exact bts_f (by assumption) | (rw [bts_t (by assumption)]; rfl) | (rw [bts_f (by assumption)]; rfl) | (unfold InR; omega) | (show (D.i .i64 45 :: l.map iD).length = 1 + l.length; simp; omega) | (show (D.i .i64 45 :: k.map iD).length = 1 + k.length; simp; omega) | (show (D.i .i64 45 :: l.map iD).length = mulN (1 + l.length) 1; rw [mulN_eq]; simp; omega) | (show (D.i .i64 45 :: k.map iD).length = mulN (1 + k.length) 1; rw [mulN_eq]; simp; omega) | exact hma | exact hmb | exact hdf | exact hx | exact ra | exact rb | exact rs | exact haw | (refine ⟨trivial, ?_⟩; simp [mulN_eq]; done) | (refine ⟨?_, ?_⟩ <;> (try simp) <;> omega) | (refine ⟨?_, ?_, ?_⟩ <;> (try simp) <;> omega) | (simp [mulN_eq]; omega) | (simp [mulN_eq]; done) | exact ⟨trivial, hq2⟩ | exact ⟨trivial, e1⟩ | exact ⟨trivial, e2⟩ | exact ⟨trivial, e3⟩
                exact loopN (i + 1, true, 0) ⟨by simp only; omega, by simp only; rw [hbn]; rfl, rfl⟩ (by show 8 - (i + 1) < 8 - i; omega) fun a w s => s.ren hE [] (by repeat' (first | exact trivial | exact rfl | apply And.intro)) (by repeat' (first | exact trivial | exact rfl | apply And.intro)) rfl
              | false =>
                cases e3 : (N8[i].toList == (⟨#[122, 126]⟩ : ByteArray).toList) with
                | true =>
                  have hbb : badB N8[i] = true := by unfold badB; simp only [e1, e2, e3, Bool.true_or, Bool.false_or]
                  rw [hbb] at hbn
                  refine H.go 200 [(8, [(1, .cell (.s N8[i]))]), (9, [(2, .res (.ret (.tup [.ag (enc ((memb (obj a) N8[i]).getD nul)), .b (memb (obj a) N8[i]).isSome])))]), (10, [(2, .res (.ret (.tup [.ag (enc ((memb (obj b) N8[i]).getD nul)), .b (memb (obj b) N8[i]).isSome])))]), (11, [(3, .gd true), (6, .res (.ret (.b false)))]), (12, [(3, .gd false), (7, .gd false), (11, .gd true)])] [(45, true), (67, false)] dr8 rfl ?_ ?_
                  · repeat' (first | exact AllP.n | exact trivial | exact DrawB.mk (by decide +kernel) | exact fun _ => rfl | refine AllP.c ?_ ?_)
                    all_goals (try dsimp only)
                    all_goals try first | exact rfl | exact ⟨trivial, rfl⟩ | exact ⟨trivial, bts_t rfl⟩ | omega | exact at_tr _ _ (by omega) | exact at_s _ _ (by omega) | exact dt (by omega) | exact df (by omega) | exact decide_eq_true (by omega) | exact decide_eq_false (by omega) | exact bts_t (by assumption) | exact bts_f (by assumption) | (rw [bts_t (by assumption)]; rfl) | (rw [bts_f (by assumption)]; rfl) | (unfold InR; omega) | (show (D.i .i64 45 :: l.map iD).length = 1 + l.length; simp; omega) | (show (D.i .i64 45 :: k.map iD).length = 1 + k.length; simp; omega) | (show (D.i .i64 45 :: l.map iD).length = mulN (1 + l.length) 1; rw [mulN_eq]; simp; omega) | (show (D.i .i64 45 :: k.map iD).length = mulN (1 + k.length) 1; rw [mulN_eq]; simp; omega) | exact hma | exact hmb | exact hdf | exact hx | exact ra | exact rb | exact rs | exact haw | (refine ⟨trivial, ?_⟩; simp [mulN_eq]; done) | (refine ⟨?_, ?_⟩ <;> (try simp) <;> omega) | (refine ⟨?_, ?_, ?_⟩ <;> (try simp) <;> omega) | (simp [mulN_eq]; omega) | (simp [mulN_eq]; done) | exact ⟨trivial, hq2⟩ | exact ⟨trivial, e1⟩ | exact ⟨trivial, e2⟩ | exact ⟨trivial, e3⟩
                  exact loopN (i + 1, true, 0) ⟨by simp only; omega, by simp only; rw [hbn]; rfl, rfl⟩ (by show 8 - (i + 1) < 8 - i; omega) fun a w s => s.ren hE [] (by repeat' (first | exact trivial | exact rfl | apply And.intro)) (by repeat' (first | exact trivial | exact rfl | apply And.intro)) rfl
                | false =>
                  have hbb : badB N8[i] = false := by unfold badB; simp only [e1, e2, e3, Bool.true_or, Bool.false_or]
                  rw [hbb] at hbn
                  refine H.go 200 [(8, [(1, .cell (.s N8[i]))]), (9, [(2, .res (.ret (.tup [.ag (enc ((memb (obj a) N8[i]).getD nul)), .b (memb (obj a) N8[i]).isSome])))]), (10, [(2, .res (.ret (.tup [.ag (enc ((memb (obj b) N8[i]).getD nul)), .b (memb (obj b) N8[i]).isSome])))]), (11, [(3, .gd true), (6, .res (.ret (.b false)))]), (12, [(3, .gd false), (7, .gd false), (11, .gd false)]), (13, [(3, .gd true)])] [(45, true), (67, false)] dr8 rfl ?_ ?_
                  · repeat' (first | exact AllP.n | exact trivial | exact DrawB.mk (by decide +kernel) | exact fun _ => rfl | refine AllP.c ?_ ?_)
                    all_goals (try dsimp only)
                    all_goals try first | exact rfl | exact ⟨trivial, rfl⟩ | exact ⟨trivial, bts_t rfl⟩ | omega | exact at_tr _ _ (by omega) | exact at_s _ _ (by omega) | exact dt (by omega) | exact df (by omega) | exact decide_eq_true (by omega) | exact decide_eq_false (by omega) | exact bts_t (by assumption) | exact bts_f (by assumption) | (rw [bts_t (by assumption)]; rfl) | (rw [bts_f (by assumption)]; rfl) | (unfold InR; omega) | (show (D.i .i64 45 :: l.map iD).length = 1 + l.length; simp; omega) | (show (D.i .i64 45 :: k.map iD).length = 1 + k.length; simp; omega) | (show (D.i .i64 45 :: l.map iD).length = mulN (1 + l.length) 1; rw [mulN_eq]; simp; omega) | (show (D.i .i64 45 :: k.map iD).length = mulN (1 + k.length) 1; rw [mulN_eq]; simp; omega) | exact hma | exact hmb | exact hdf | exact hx | exact ra | exact rb | exact rs | exact haw | (refine ⟨trivial, ?_⟩; simp [mulN_eq]; done) | (refine ⟨?_, ?_⟩ <;> (try simp) <;> omega) | (refine ⟨?_, ?_, ?_⟩ <;> (try simp) <;> omega) | (simp [mulN_eq]; omega) | (simp [mulN_eq]; done) | exact ⟨trivial, hq2⟩ | exact ⟨trivial, e1⟩ | exact ⟨trivial, e2⟩ | exact ⟨trivial, e3⟩
                  exact loopN (i + 1, false, 0) ⟨by simp only; omega, by simp only; rw [hbn]; rfl, rfl⟩ (by show 8 - (i + 1) < 8 - i; omega) fun a w s => s.ren hE [] (by repeat' (first | exact trivial | exact rfl | apply And.intro)) (by repeat' (first | exact trivial | exact rfl | apply And.intro)) rfl
        · have hq2 : ((memb (obj a) N8[i]).isSome == (memb (obj b) N8[i]).isSome) = false := beq_false_of_ne hq
          cases hb0 : bads (obj a) (obj b) i with
          | true =>
            rw [hb0] at h2 hbn
            subst h2
            refine H.go 200 [(8, [(1, .cell (.s N8[i]))]), (9, [(2, .res (.ret (.tup [.ag (enc ((memb (obj a) N8[i]).getD nul)), .b (memb (obj a) N8[i]).isSome])))]), (10, [(2, .res (.ret (.tup [.ag (enc ((memb (obj b) N8[i]).getD nul)), .b (memb (obj b) N8[i]).isSome])))]), (11, [(3, .gd false)])] [(45, true), (67, false)] dr8 rfl ?_ ?_
            · repeat' (first | exact AllP.n | exact trivial | exact DrawB.mk (by decide +kernel) | exact fun _ => rfl | refine AllP.c ?_ ?_)
              all_goals (try dsimp only)
              all_goals try first | exact rfl | exact ⟨trivial, rfl⟩ | exact ⟨trivial, bts_t rfl⟩ | omega | exact at_tr _ _ (by omega) | exact at_s _ _ (by omega) | exact dt (by omega) | exact df (by omega) | exact decide_eq_true (by omega) | exact decide_eq_false (by omega) | exact bts_t (by assumption) | exact bts_f (by assumption) | (rw [bts_t (by assumption)]; rfl) | (rw [bts_f (by assumption)]; rfl) | (unfold InR; omega) | (show (D.i .i64 45 :: l.map iD).length = 1 + l.length; simp; omega) | (show (D.i .i64 45 :: k.map iD).length = 1 + k.length; simp; omega) | (show (D.i .i64 45 :: l.map iD).length = mulN (1 + l.length) 1; rw [mulN_eq]; simp; omega) | (show (D.i .i64 45 :: k.map iD).length = mulN (1 + k.length) 1; rw [mulN_eq]; simp; omega) | exact hma | exact hmb | exact hdf | exact hx | exact ra | exact rb | exact rs | exact haw | (refine ⟨trivial, ?_⟩; simp [mulN_eq]; done) | (refine ⟨?_, ?_⟩ <;> (try simp) <;> omega) | (refine ⟨?_, ?_, ?_⟩ <;> (try simp) <;> omega) | (simp [mulN_eq]; omega) | (simp [mulN_eq]; done) | exact ⟨trivial, hq2⟩ | exact ⟨trivial, e1⟩ | exact ⟨trivial, e2⟩ | exact ⟨trivial, e3⟩
            exact loopN (i + 1, true, 0) ⟨by simp only; omega, by simp only; rw [hbn]; rfl, rfl⟩ (by show 8 - (i + 1) < 8 - i; omega) fun a w s => s.ren hE [] (by repeat' (first | exact trivial | exact rfl | apply And.intro)) (by repeat' (first | exact trivial | exact rfl | apply And.intro)) rfl
          | false =>
            rw [hb0] at h2 hbn
            subst h2
            cases e1 : (N8[i].toList == (⟨#[]⟩ : ByteArray).toList) with
            | true =>
              have hbb : badB N8[i] = true := by unfold badB; simp only [e1, Bool.true_or, Bool.false_or]
              rw [hbb] at hbn
              refine H.go 200 [(8, [(1, .cell (.s N8[i]))]), (9, [(2, .res (.ret (.tup [.ag (enc ((memb (obj a) N8[i]).getD nul)), .b (memb (obj a) N8[i]).isSome])))]), (10, [(2, .res (.ret (.tup [.ag (enc ((memb (obj b) N8[i]).getD nul)), .b (memb (obj b) N8[i]).isSome])))]), (11, [(3, .gd false)]), (12, [(3, .gd true)])] [(45, true), (67, false)] dr8 rfl ?_ ?_
              · repeat' (first | exact AllP.n | exact trivial | exact DrawB.mk (by decide +kernel) | exact fun _ => rfl | refine AllP.c ?_ ?_)
                all_goals (try dsimp only)
                all_goals try first | exact rfl | exact ⟨trivial, rfl⟩ | exact ⟨trivial, bts_t rfl⟩ | omega | exact at_tr _ _ (by omega) | exact at_s _ _ (by omega) | exact dt (by omega) | exact df (by omega) | exact decide_eq_true (by omega) | exact decide_eq_false (by omega) | exact bts_t (by assumption) | exact bts_f (by assumption) | (rw [bts_t (by assumption)]; rfl) | (rw [bts_f (by assumption)]; rfl) | (unfold InR; omega) | (show (D.i .i64 45 :: l.map iD).length = 1 + l.length; simp; omega) | (show (D.i .i64 45 :: k.map iD).length = 1 + k.length; simp; omega) | (show (D.i .i64 45 :: l.map iD).length = mulN (1 + l.length) 1; rw [mulN_eq]; simp; omega) | (show (D.i .i64 45 :: k.map iD).length = mulN (1 + k.length) 1; rw [mulN_eq]; simp; omega) | exact hma | exact hmb | exact hdf | exact hx | exact ra | exact rb | exact rs | exact haw | (refine ⟨trivial, ?_⟩; simp [mulN_eq]; done) | (refine ⟨?_, ?_⟩ <;> (try simp) <;> omega) | (refine ⟨?_, ?_, ?_⟩ <;> (try simp) <;> omega) | (simp [mulN_eq]; omega) | (simp [mulN_eq]; done) | exact ⟨trivial, hq2⟩ | exact ⟨trivial, e1⟩ | exact ⟨trivial, e2⟩ | exact ⟨trivial, e3⟩
              exact loopN (i + 1, true, 0) ⟨by simp only; omega, by simp only; rw [hbn]; rfl, rfl⟩ (by show 8 - (i + 1) < 8 - i; omega) fun a w s => s.ren hE [] (by repeat' (first | exact trivial | exact rfl | apply And.intro)) (by repeat' (first | exact trivial | exact rfl | apply And.intro)) rfl
            | false =>
              cases e2 : (N8[i].toList == (⟨#[120, 47, 121]⟩ : ByteArray).toList) with
              | true =>
                have hbb : badB N8[i] = true := by unfold badB; simp only [e1, e2, Bool.true_or, Bool.false_or]
                rw [hbb] at hbn
                refine H.go 200 [(8, [(1, .cell (.s N8[i]))]), (9, [(2, .res (.ret (.tup [.ag (enc ((memb (obj a) N8[i]).getD nul)), .b (memb (obj a) N8[i]).isSome])))]), (10, [(2, .res (.ret (.tup [.ag (enc ((memb (obj b) N8[i]).getD nul)), .b (memb (obj b) N8[i]).isSome])))]), (11, [(3, .gd false)]), (12, [(3, .gd false), (7, .gd true)])] [(45, true), (67, false)] dr8 rfl ?_ ?_
                · repeat' (first | exact AllP.n | exact trivial | exact DrawB.mk (by decide +kernel) | exact fun _ => rfl | refine AllP.c ?_ ?_)
                  all_goals (try dsimp only)
                  all_goals try first | exact rfl | exact ⟨trivial, rfl⟩ | exact ⟨trivial, bts_t rfl⟩ | omega | exact at_tr _ _ (by omega) | exact at_s _ _ (by omega) | exact dt (by omega) | exact df (by omega) | exact decide_eq_true (by omega) | exact decide_eq_false (by omega) | exact bts_t (by assumption) | exact bts_f (by assumption) | (rw [bts_t (by assumption)]; rfl) | (rw [bts_f (by assumption)]; rfl) | (unfold InR; omega) | (show (D.i .i64 45 :: l.map iD).length = 1 + l.length; simp; omega) | (show (D.i .i64 45 :: k.map iD).length = 1 + k.length; simp; omega) | (show (D.i .i64 45 :: l.map iD).length = mulN (1 + l.length) 1; rw [mulN_eq]; simp; omega) | (show (D.i .i64 45 :: k.map iD).length = mulN (1 + k.length) 1; rw [mulN_eq]; simp; omega) | exact hma | exact hmb | exact hdf | exact hx | exact ra | exact rb | exact rs | exact haw | (refine ⟨trivial, ?_⟩; simp [mulN_eq]; done) | (refine ⟨?_, ?_⟩ <;> (try simp) <;> omega) | (refine ⟨?_, ?_, ?_⟩ <;> (try simp) <;> omega) | (simp [mulN_eq]; omega) | (simp [mulN_eq]; done) | exact ⟨trivial, hq2⟩ | exact ⟨trivial, e1⟩ | exact ⟨trivial, e2⟩ | exact ⟨trivial, e3⟩
                exact loopN (i + 1, true, 0) ⟨by simp only; omega, by simp only; rw [hbn]; rfl, rfl⟩ (by show 8 - (i + 1) < 8 - i; omega) fun a w s => s.ren hE [] (by repeat' (first | exact trivial | exact rfl | apply And.intro)) (by repeat' (first | exact trivial | exact rfl | apply And.intro)) rfl
              | false =>
                cases e3 : (N8[i].toList == (⟨#[122, 126]⟩ : ByteArray).toList) with
                | true =>
                  have hbb : badB N8[i] = true := by unfold badB; simp only [e1, e2, e3, Bool.true_or, Bool.false_or]
                  rw [hbb] at hbn
                  refine H.go 200 [(8, [(1, .cell (.s N8[i]))]), (9, [(2, .res (.ret (.tup [.ag (enc ((memb (obj a) N8[i]).getD nul)), .b (memb (obj a) N8[i]).isSome])))]), (10, [(2, .res (.ret (.tup [.ag (enc ((memb (obj b) N8[i]).getD nul)), .b (memb (obj b) N8[i]).isSome])))]), (11, [(3, .gd false)]), (12, [(3, .gd false), (7, .gd false), (11, .gd true)])] [(45, true), (67, false)] dr8 rfl ?_ ?_
                  · repeat' (first | exact AllP.n | exact trivial | exact DrawB.mk (by decide +kernel) | exact fun _ => rfl | refine AllP.c ?_ ?_)
                    all_goals (try dsimp only)
                    all_goals try first | exact rfl | exact ⟨trivial, rfl⟩ | exact ⟨trivial, bts_t rfl⟩ | omega | exact at_tr _ _ (by omega) | exact at_s _ _ (by omega) | exact dt (by omega) | exact df (by omega) | exact decide_eq_true (by omega) | exact decide_eq_false (by omega) | exact bts_t (by assumption) | exact bts_f (by assumption) | (rw [bts_t (by assumption)]; rfl) | (rw [bts_f (by assumption)]; rfl) | (unfold InR; omega) | (show (D.i .i64 45 :: l.map iD).length = 1 + l.length; simp; omega) | (show (D.i .i64 45 :: k.map iD).length = 1 + k.length; simp; omega) | (show (D.i .i64 45 :: l.map iD).length = mulN (1 + l.length) 1; rw [mulN_eq]; simp; omega) | (show (D.i .i64 45 :: k.map iD).length = mulN (1 + k.length) 1; rw [mulN_eq]; simp; omega) | exact hma | exact hmb | exact hdf | exact hx | exact ra | exact rb | exact rs | exact haw | (refine ⟨trivial, ?_⟩; simp [mulN_eq]; done) | (refine ⟨?_, ?_⟩ <;> (try simp) <;> omega) | (refine ⟨?_, ?_, ?_⟩ <;> (try simp) <;> omega) | (simp [mulN_eq]; omega) | (simp [mulN_eq]; done) | exact ⟨trivial, hq2⟩ | exact ⟨trivial, e1⟩ | exact ⟨trivial, e2⟩ | exact ⟨trivial, e3⟩
                  exact loopN (i + 1, true, 0) ⟨by simp only; omega, by simp only; rw [hbn]; rfl, rfl⟩ (by show 8 - (i + 1) < 8 - i; omega) fun a w s => s.ren hE [] (by repeat' (first | exact trivial | exact rfl | apply And.intro)) (by repeat' (first | exact trivial | exact rfl | apply And.intro)) rfl
                | false =>
                  have hbb : badB N8[i] = false := by unfold badB; simp only [e1, e2, e3, Bool.true_or, Bool.false_or]
                  rw [hbb] at hbn
                  refine H.go 200 [(8, [(1, .cell (.s N8[i]))]), (9, [(2, .res (.ret (.tup [.ag (enc ((memb (obj a) N8[i]).getD nul)), .b (memb (obj a) N8[i]).isSome])))]), (10, [(2, .res (.ret (.tup [.ag (enc ((memb (obj b) N8[i]).getD nul)), .b (memb (obj b) N8[i]).isSome])))]), (11, [(3, .gd false)]), (12, [(3, .gd false), (7, .gd false), (11, .gd false)]), (13, [(3, .gd true)])] [(45, true), (67, false)] dr8 rfl ?_ ?_
                  · repeat' (first | exact AllP.n | exact trivial | exact DrawB.mk (by decide +kernel) | exact fun _ => rfl | refine AllP.c ?_ ?_)
                    all_goals (try dsimp only)
                    all_goals try first | exact rfl | exact ⟨trivial, rfl⟩ | exact ⟨trivial, bts_t rfl⟩ | omega | exact at_tr _ _ (by omega) | exact at_s _ _ (by omega) | exact dt (by omega) | exact df (by omega) | exact decide_eq_true (by omega) | exact decide_eq_false (by omega) | exact bts_t (by assumption) | exact bts_f (by assumption) | (rw [bts_t (by assumption)]; rfl) | (rw [bts_f (by assumption)]; rfl) | (unfold InR; omega) | (show (D.i .i64 45 :: l.map iD).length = 1 + l.length; simp; omega) | (show (D.i .i64 45 :: k.map iD).length = 1 + k.length; simp; omega) | (show (D.i .i64 45 :: l.map iD).length = mulN (1 + l.length) 1; rw [mulN_eq]; simp; omega) | (show (D.i .i64 45 :: k.map iD).length = mulN (1 + k.length) 1; rw [mulN_eq]; simp; omega) | exact hma | exact hmb | exact hdf | exact hx | exact ra | exact rb | exact rs | exact haw | (refine ⟨trivial, ?_⟩; simp [mulN_eq]; done) | (refine ⟨?_, ?_⟩ <;> (try simp) <;> omega) | (refine ⟨?_, ?_, ?_⟩ <;> (try simp) <;> omega) | (simp [mulN_eq]; omega) | (simp [mulN_eq]; done) | exact ⟨trivial, hq2⟩ | exact ⟨trivial, e1⟩ | exact ⟨trivial, e2⟩ | exact ⟨trivial, e3⟩
                  exact loopN (i + 1, false, 0) ⟨by simp only; omega, by simp only; rw [hbn]; rfl, rfl⟩ (by show 8 - (i + 1) < 8 - i; omega) fun a w s => s.ren hE [] (by repeat' (first | exact trivial | exact rfl | apply And.intro)) (by repeat' (first | exact trivial | exact rfl | apply And.intro)) rfl
    · obtain rfl : i = 8 := by omega
      have hba := bads_all (obj a) (obj b)
      rw [hG] at hba
      rw [hba] at h2
      subst h2 h3
      refine H.go 200 [] [(45, false)] dr8 rfl ?_ ?_
      · repeat' (first | exact AllP.n | exact trivial | exact DrawB.mk (by decide +kernel) | exact fun _ => rfl | refine AllP.c ?_ ?_)
        all_goals (try dsimp only)
        all_goals try first | exact rfl | exact ⟨trivial, rfl⟩ | exact ⟨trivial, bts_t rfl⟩ | omega | exact at_tr _ _ (by omega) | exact at_s _ _ (by omega) | exact dt (by omega) | exact df (by omega) | exact decide_eq_true (by omega) | exact decide_eq_false (by omega) | exact bts_t (by assumption) | exact bts_f (by assumption) | (rw [bts_t (by assumption)]; rfl) | (rw [bts_f (by assumption)]; rfl) | (unfold InR; omega) | (show (D.i .i64 45 :: l.map iD).length = 1 + l.length; simp; omega) | (show (D.i .i64 45 :: k.map iD).length = 1 + k.length; simp; omega) | (show (D.i .i64 45 :: l.map iD).length = mulN (1 + l.length) 1; rw [mulN_eq]; simp; omega) | (show (D.i .i64 45 :: k.map iD).length = mulN (1 + k.length) 1; rw [mulN_eq]; simp; omega) | exact hma | exact hmb | exact hdf | exact hx | exact ra | exact rb | exact rs | exact haw | (refine ⟨trivial, ?_⟩; simp [mulN_eq]; done) | (refine ⟨?_, ?_⟩ <;> (try simp) <;> omega) | (refine ⟨?_, ?_, ?_⟩ <;> (try simp) <;> omega) | (simp [mulN_eq]; omega) | (simp [mulN_eq]; done)
      refine H.go 200 [(20, [(1, .gd true), (3, .res (.ret (.b true)))])] [] dr8 rfl ?_ ?_
      · repeat' (first | exact AllP.n | exact trivial | exact DrawB.mk (by decide +kernel) | exact fun _ => rfl | refine AllP.c ?_ ?_)
        all_goals (try dsimp only)
        all_goals try first | exact rfl | exact ⟨trivial, rfl⟩ | exact ⟨trivial, bts_t rfl⟩ | omega | exact at_tr _ _ (by omega) | exact at_s _ _ (by omega) | exact dt (by omega) | exact df (by omega) | exact decide_eq_true (by omega) | exact decide_eq_false (by omega) | exact bts_t (by assumption) | exact bts_f (by assumption) | (rw [bts_t (by assumption)]; rfl) | (rw [bts_f (by assumption)]; rfl) | (unfold InR; omega) | (show (D.i .i64 45 :: l.map iD).length = 1 + l.length; simp; omega) | (show (D.i .i64 45 :: k.map iD).length = 1 + k.length; simp; omega) | (show (D.i .i64 45 :: l.map iD).length = mulN (1 + l.length) 1; rw [mulN_eq]; simp; omega) | (show (D.i .i64 45 :: k.map iD).length = mulN (1 + k.length) 1; rw [mulN_eq]; simp; omega) | exact hma | exact hmb | exact hdf | exact hx | exact ra | exact rb | exact rs | exact haw | (refine ⟨trivial, ?_⟩; simp [mulN_eq]; done) | (refine ⟨?_, ?_⟩ <;> (try simp) <;> omega) | (refine ⟨?_, ?_, ?_⟩ <;> (try simp) <;> omega) | (simp [mulN_eq]; omega) | (simp [mulN_eq]; done)
      refine ⟨_, _, rfl, ?_, ?_⟩
      · repeat' (first | exact AllP.n | exact trivial | exact DrawB.mk (by decide +kernel) | exact fun _ => rfl | refine AllP.c ?_ ?_)
        all_goals (try dsimp only)
        all_goals try first | exact rfl | exact ⟨trivial, rfl⟩ | exact ⟨trivial, bts_t rfl⟩ | omega | exact at_tr _ _ (by omega) | exact at_s _ _ (by omega) | exact dt (by omega) | exact df (by omega) | exact decide_eq_true (by omega) | exact decide_eq_false (by omega) | exact bts_t (by assumption) | exact bts_f (by assumption) | (rw [bts_t (by assumption)]; rfl) | (rw [bts_f (by assumption)]; rfl) | (unfold InR; omega)
      · exact .refl _
end Go.Px
end

