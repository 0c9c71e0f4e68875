/-
  What the functions that the statement reaches compute, proved (contracts of functions and the lemmas for them), a part of the proof. No conditions beyond those that each theorem names.
-/
import Derived.Test.YtakligfpajogkaaGreatDoorPartK
set_option linter.unusedVariables false
set_option linter.unusedSimpArgs false

section
namespace Go.Px
open Go.RowKit

structure AX2 where
  i : Nat
  cv : List D
  g : Nat
  m : List Int
def AS (d v : Nat) : AX2 → St
  | ⟨i, cv, g, m⟩ => ⟨[(0, .sl 1 m.length (m.map iD)), (1, .i .i64 ((d + 1 : Nat) : Int)), (4, .oa 0 0), (6, .i .i64 v), (8, .oa 1 0), (9, .i .i64 i)],
   [(0, ⟨30, 1, [.i .i64 0, .b false, .b false, .nils, .i .i64 0, .s ⟨#[]⟩, .nils, .nils], 0, true, false, true⟩), (1, ⟨30, 1, [.i .i64 6, .b false, .b false, .nils, .i .i64 0, .s ⟨#[]⟩, .nils, .os 21 0 i], 0, true, false, true⟩), (21, ⟨30, 8, cv, g, true, false, false⟩)], 0⟩
def OS (d v : Nat) : Nat × List (ByteArray × Tr) × List Int → St
  | (i, l, m) => ⟨[(0, .sl 1 m.length (m.map iD)), (1, .i .i64 ((d + 1 : Nat) : Int)), (4, .oa 0 0), (6, .i .i64 v), (12, .oa 1 0), (13, .i .i64 i)],
   [(0, ⟨30, 1, [.i .i64 0, .b false, .b false, .nils, .i .i64 0, .s ⟨#[]⟩, .nils, .nils], 0, true, false, true⟩), (1, ⟨30, 1, enc (obj l), 0, true, false, true⟩)], 0⟩
theorem obj_len (l : List (ByteArray × Tr)) : (obj l).k.length = l.length ∧ (obj l).v.length = l.length := by simp [obj, Tr.k, Tr.v]
theorem made_s6 (d : Nat) (x : Int) (r : List Int) (v : Nat) (hv : v < 1073741824) (hx : x % 1073741824 = v) (hc : v % 12 = 6) (hd : d + 1 ≤ 4) (hr : r.length < 2^40) (ih : ∀ l : List Int, l.length < 2^40 → ∃ t r, GT d t ∧ r.length ≤ l.length ∧ MP d l t r) :
    ∃ t m, GT (d + 1) t ∧ m.length ≤ r.length ∧ MP (d + 1) (x :: r) t m := by
  have hp := place_ct x 1073741824 (by omega) (by omega)
  rw [hx] at hp
  -- what the rounds come to
  have rounds : ∀ k : Nat, ∃ (ts : List Tr) (m : List Int), ts.length = k ∧ (∀ u ∈ ts, GT d u) ∧ m.length ≤ r.length ∧ ∃ f : Nat → List Int, f 0 = r ∧ f k = m ∧ (∀ j, (f j).length ≤ r.length) ∧ ∀ (j : Nat) (h : j < ts.length), MP d (f j) ts[j] (f (j + 1)) := by
    intro k
    induction k with
    | zero => exact ⟨[], r, rfl, fun u h => by simp at h, Nat.le_refl _, fun _ => r, rfl, rfl, fun _ => Nat.le_refl _, fun j h => by simp at h⟩
    | succ k ihk =>
      obtain ⟨ts, m, h1, h2, h3, f, f0, f1, f2, f3⟩ := ihk
      obtain ⟨t, m', g1, g2, g3⟩ := ih m (by omega)
      refine ⟨ts ++ [t], m', by simp [h1], fun u hu => ?_, by omega, fun j => if j ≤ k then f j else m', by simp [f0], by show (if k + 1 ≤ k then f (k + 1) else m') = m'; rw [if_neg (by omega)], fun j => ?_, fun j hj => ?_⟩
      · rcases List.mem_append.1 hu with hu | hu
        · exact h2 u hu
        · obtain rfl : u = t := by simpa using hu
          exact g1
      · by_cases hjk : j ≤ k
        · simp only [hjk, if_true]; exact f2 j
        · simp only [hjk, if_false]; omega
      · simp only [List.length_append, List.length_cons, List.length_nil] at hj
        by_cases hjk : j < k
        · have hj2 : j < ts.length := by omega
          rw [List.getElem_append_left hj2]
          have a1 : j ≤ k := by omega
          have a2 : j + 1 ≤ k := by omega
          simp only [a1, a2, if_true]
          exact f3 j hj2
        · have hjk : j = k := by omega
          subst hjk
          rw [List.getElem_append_right (by omega)]
          have a2 : ¬ (j + 1 ≤ j) := by omega
          simp only [Nat.le_refl, if_true, a2, if_false, h1, Nat.sub_self, List.getElem_cons_zero, f1]
          exact g3
  obtain ⟨ts, m, t1, t2, t3, f, f0, f1, f2, f3⟩ := rounds (v / 12 % 4)
  refine ⟨.mk 6 false N0 S0 [] ts, m, .inr (.inl ⟨ts, rfl, by omega, t2⟩), t3, ?_⟩
  unfold MP
  refine Pure.body tys_valid (fn := Go.Proofs.Tryz.f40) (by kernel_rfl) rfl (by kernel_rfl) rfl ?_
  intro w ok giv E0 _ hE
  refine H.go 200 [(3, [(3, .res (.ret (.i .i64 (v : Nat))))]), (5, [(1, .val (.i .i64 ((6 : Nat) : Int)))]), (6, [(1, .gd false)])] [(18, false), (33, false)] dr40 rfl ?_ ?_
  · repeat' (first | exact AllP.n | exact trivial | exact DrawB.mk (by decide +kernel) | exact fun _ => rfl | refine AllP.c ?_ ?_)
    all_goals (try dsimp only)
    all_goals try first | exact rfl | exact ⟨trivial, rfl⟩ | exact ⟨trivial, bts_t rfl⟩ | omega | exact at_tr _ _ (by omega) | exact at_s _ _ (by omega) | exact dt (by omega) | exact df (by omega) | exact decide_eq_true (by omega) | exact decide_eq_false (by omega) | exact bts_t (by assumption) | exact bts_f (by assumption) | (rw [bts_t (by assumption)]; rfl) | (rw [bts_f (by assumption)]; rfl) | (unfold InR; omega) | exact hp | (refine ⟨by omega, ?_⟩; rw [List.length_cons]; omega) | exact ⟨by unfold InR; omega, rfl⟩ | (refine ⟨?_, ?_⟩; exact trivial; exact ei (remN v 12)) | (refine ⟨?_, ?_⟩ <;> first | omega | exact ei (quoN v 12 (by omega))) | exact ⟨by omega, ei (remN _ _)⟩ | exact ⟨by omega, ei (quoN _ _ (by omega))⟩ | exact ⟨by omega, (ei (remN _ _)).trans (ei (by rw [hc]))⟩ | (simp; done) | exact (by assumption : MP _ _ _ _) | (refine ⟨trivial, ?_, ?_⟩ <;> (try simp) <;> omega) | (refine ⟨by unfold InR; omega, ei ?_⟩; omega) | exact ⟨trivial, wk_objn⟩ | exact SameH.of (by repeat' (first | exact trivial | exact rfl | apply And.intro)) (by repeat' (first | exact trivial | exact rfl | apply And.intro))
  refine H.loopI (fun y => y.i ≤ ts.length ∧ y.m = f y.i ∧ y.cv = encs (ts.take y.i)) (AS d v) (fun y => ts.length - y.i) ⟨0, [], 0, r⟩ ⟨Nat.zero_le _, f0.symm, by simp [encs_nil]⟩ ?_ ?_
  · intro a w s
    exact Sat.ren hE [] (by repeat' (first | exact trivial | exact rfl | apply And.intro)) (by repeat' (first | exact trivial | exact rfl | apply And.intro)) rfl (s.adoptC 1 7 21 30 8 rfl rfl rfl rfl rfl rfl)
  rintro ⟨i, cv, g, m1⟩ ⟨h1, h2, h3⟩
  simp only at h1 h2 h3
  subst h2 h3
  have hcv : (encs (ts.take i)).length = i * 8 := by rw [encs_len, List.length_take]; omega
  have hm := f2 i
  by_cases hi : i < ts.length
  · have hmp := f3 i hi
    have hmp2 : MP d (f i) ts[i] (f (i + 1)) := hmp
    refine H.go 200 [(25, [(2, .val (.i .i64 ((v / 12 : Nat) : Int))), (3, .val (.i .i64 ((v / 12 % 4 : Nat) : Int)))]), (27, [(2, .val (.i .i64 ((d : Nat) : Int))), (3, .res (.ret (.tup [.ag (enc ts[i]), .sl 1 (f (i + 1)).length ((f (i + 1)).map iD)])))])] [(84, true)] dr40 rfl ?_ ?_
    · repeat' (first | exact AllP.n | exact trivial | exact DrawB.mk (by decide +kernel) | exact fun _ => rfl | refine AllP.c ?_ ?_)
      all_goals (try dsimp only)
      all_goals try first | exact rfl | exact ⟨trivial, rfl⟩ | exact ⟨trivial, bts_t rfl⟩ | omega | exact at_tr _ _ (by omega) | exact at_s _ _ (by omega) | exact dt (by omega) | exact df (by omega) | exact decide_eq_true (by omega) | exact decide_eq_false (by omega) | exact bts_t (by assumption) | exact bts_f (by assumption) | (rw [bts_t (by assumption)]; rfl) | (rw [bts_f (by assumption)]; rfl) | (unfold InR; omega) | exact hp | (refine ⟨by omega, ?_⟩; rw [List.length_cons]; omega) | exact ⟨by unfold InR; omega, rfl⟩ | (refine ⟨?_, ?_⟩; exact trivial; exact ei (remN v 12)) | (refine ⟨?_, ?_⟩ <;> first | omega | exact ei (quoN v 12 (by omega))) | exact ⟨by omega, ei (remN _ _)⟩ | exact ⟨by omega, ei (quoN _ _ (by omega))⟩ | exact ⟨by omega, (ei (remN _ _)).trans (ei (by rw [hc]))⟩ | (simp; done) | exact (by assumption : MP _ _ _ _) | (refine ⟨trivial, ?_, ?_⟩ <;> (try simp) <;> omega) | (refine ⟨by unfold InR; omega, ei ?_⟩; omega) | exact ⟨trivial, wk_objn⟩ | exact SameH.of (by repeat' (first | exact trivial | exact rfl | apply And.intro)) (by repeat' (first | exact trivial | exact rfl | apply And.intro))
    exact loopN ⟨i + 1, encs (ts.take i) ++ enc ts[i], (encs (ts.take i)).length, f (i + 1)⟩ ⟨hi, rfl, by simp only; rw [List.take_succ_eq_append_getElem hi, encs_append, encs_cons, encs_nil, List.append_nil]⟩ (by show ts.length - (i + 1) < ts.length - i; omega) fun a w s => s.ren hE [(21, 3)] (by repeat' (first | exact trivial | exact rfl | apply And.intro)) (by repeat' (first | exact trivial | exact rfl | apply And.intro)) rfl
  · obtain rfl : i = ts.length := by omega
    rw [List.take_length] at hcv ⊢
    have hfm : f ts.length = m := by rw [t1]; exact f1
    rw [hfm]
    refine H.go 200 [(25, [(2, .val (.i .i64 ((v / 12 : Nat) : Int))), (3, .val (.i .i64 ((v / 12 % 4 : Nat) : Int)))])] [(84, false)] dr40 rfl ?_ ?_
    · repeat' (first | exact AllP.n | exact trivial | exact DrawB.mk (by decide +kernel) | exact fun _ => rfl | refine AllP.c ?_ ?_)
      all_goals (try dsimp only)
      all_goals try first | exact rfl | exact ⟨trivial, rfl⟩ | exact ⟨trivial, bts_t rfl⟩ | omega | exact at_tr _ _ (by omega) | exact at_s _ _ (by omega) | exact dt (by omega) | exact df (by omega) | exact decide_eq_true (by omega) | exact decide_eq_false (by omega) | exact bts_t (by assumption) | exact bts_f (by assumption) | (rw [bts_t (by assumption)]; rfl) | (rw [bts_f (by assumption)]; rfl) | (unfold InR; omega) | exact hp | (refine ⟨by omega, ?_⟩; rw [List.length_cons]; omega) | exact ⟨by unfold InR; omega, rfl⟩ | (refine ⟨?_, ?_⟩; exact trivial; exact ei (remN v 12)) | (refine ⟨?_, ?_⟩ <;> first | omega | exact ei (quoN v 12 (by omega))) | exact ⟨by omega, ei (remN _ _)⟩ | exact ⟨by omega, ei (quoN _ _ (by omega))⟩ | exact ⟨by omega, (ei (remN _ _)).trans (ei (by rw [hc]))⟩ | (simp; done) | exact (by assumption : MP _ _ _ _) | (refine ⟨trivial, ?_, ?_⟩ <;> (try simp) <;> omega) | (refine ⟨by unfold InR; omega, ei ?_⟩; omega) | exact ⟨trivial, wk_objn⟩ | exact SameH.of (by repeat' (first | exact trivial | exact rfl | apply And.intro)) (by repeat' (first | exact trivial | exact rfl | apply And.intro))
    refine H.go 200 [] [] dr40 rfl ?_ ?_
    · repeat' (first | exact AllP.n | exact trivial | exact DrawB.mk (by decide +kernel) | exact fun _ => rfl | refine AllP.c ?_ ?_)
      all_goals (try dsimp only)
      all_goals try first | exact rfl | exact ⟨trivial, rfl⟩ | exact ⟨trivial, bts_t rfl⟩ | omega | exact at_tr _ _ (by omega) | exact at_s _ _ (by omega) | exact dt (by omega) | exact df (by omega) | exact decide_eq_true (by omega) | exact decide_eq_false (by omega) | exact bts_t (by assumption) | exact bts_f (by assumption) | (rw [bts_t (by assumption)]; rfl) | (rw [bts_f (by assumption)]; rfl) | (unfold InR; omega) | exact hp | (refine ⟨by omega, ?_⟩; rw [List.length_cons]; omega) | exact ⟨by unfold InR; omega, rfl⟩ | (refine ⟨?_, ?_⟩; exact trivial; exact ei (remN v 12)) | (refine ⟨?_, ?_⟩ <;> first | omega | exact ei (quoN v 12 (by omega))) | exact ⟨by omega, ei (remN _ _)⟩ | exact ⟨by omega, ei (quoN _ _ (by omega))⟩ | exact ⟨by omega, (ei (remN _ _)).trans (ei (by rw [hc]))⟩ | (simp; done) | exact (by assumption : MP _ _ _ _) | (refine ⟨trivial, ?_, ?_⟩ <;> (try simp) <;> omega) | (refine ⟨by unfold InR; omega, ei ?_⟩; omega) | exact ⟨trivial, wk_objn⟩ | exact SameH.of (by repeat' (first | exact trivial | exact rfl | apply And.intro)) (by repeat' (first | exact trivial | exact rfl | apply And.intro))
    refine ⟨_, _, rfl, ?_, ?_⟩
    · repeat' (first | exact AllP.n | exact trivial | exact DrawB.mk (by decide +kernel) | exact fun _ => rfl | refine AllP.c ?_ ?_)
      all_goals (try dsimp only)
      all_goals try first | exact rfl | exact ⟨trivial, rfl⟩ | exact ⟨trivial, bts_t rfl⟩ | omega | exact at_tr _ _ (by omega) | exact at_s _ _ (by omega) | exact dt (by omega) | exact df (by omega) | exact decide_eq_true (by omega) | exact decide_eq_false (by omega) | exact bts_t (by assumption) | exact bts_f (by assumption) | (rw [bts_t (by assumption)]; rfl) | (rw [bts_f (by assumption)]; rfl) | (unfold InR; omega) | (simp [Root.idle, mulN_eq, encs_len]; done)
    · exact .tup (.cons (wk_arr ts) (.cons (.refl _) .nil))
theorem made_s7 (d : Nat) (x : Int) (r : List Int) (v : Nat) (hv : v < 1073741824) (hx : x % 1073741824 = v) (hc : v % 12 = 7) (hd : d + 1 ≤ 4) (hr : r.length < 2^40) (ih : ∀ l : List Int, l.length < 2^40 → ∃ t r, GT d t ∧ r.length ≤ l.length ∧ MP d l t r) :
    ∃ t m, GT (d + 1) t ∧ m.length ≤ r.length ∧ MP (d + 1) (x :: r) t m := by
  have hp := place_ct x 1073741824 (by omega) (by omega)
  rw [hx] at hp
  -- what the rounds come to
  have rounds : ∀ k : Nat, ∃ (ts : List Tr) (m : List Int), ts.length = k ∧ (∀ u ∈ ts, GT d u) ∧ m.length ≤ r.length ∧ ∃ f : Nat → List Int, f 0 = r ∧ f k = m ∧ (∀ j, (f j).length ≤ r.length) ∧ ∀ (j : Nat) (h : j < ts.length), MP d (f j) ts[j] (f (j + 1)) := by
    intro k
    induction k with
    | zero => exact ⟨[], r, rfl, fun u h => by simp at h, Nat.le_refl _, fun _ => r, rfl, rfl, fun _ => Nat.le_refl _, fun j h => by simp at h⟩
    | succ k ihk =>
      obtain ⟨ts, m, h1, h2, h3, f, f0, f1, f2, f3⟩ := ihk
      obtain ⟨t, m', g1, g2, g3⟩ := ih m (by omega)
      refine ⟨ts ++ [t], m', by simp [h1], fun u hu => ?_, by omega, fun j => if j ≤ k then f j else m', by simp [f0], by show (if k + 1 ≤ k then f (k + 1) else m') = m'; rw [if_neg (by omega)], fun j => ?_, fun j hj => ?_⟩
      · rcases List.mem_append.1 hu with hu | hu
        · exact h2 u hu
        · obtain rfl : u = t := by simpa using hu
          exact g1
      · by_cases hjk : j ≤ k
        · simp only [hjk, if_true]; exact f2 j
        · simp only [hjk, if_false]; omega
      · simp only [List.length_append, List.length_cons, List.length_nil] at hj
        by_cases hjk : j < k
        · have hj2 : j < ts.length := by omega
          rw [List.getElem_append_left hj2]
          have a1 : j ≤ k := by omega
          have a2 : j + 1 ≤ k := by omega
          simp only [a1, a2, if_true]
          exact f3 j hj2
        · have hjk : j = k := by omega
          subst hjk
          rw [List.getElem_append_right (by omega)]
          have a2 : ¬ (j + 1 ≤ j) := by omega
          simp only [Nat.le_refl, if_true, a2, if_false, h1, Nat.sub_self, List.getElem_cons_zero, f1]
          exact g3
  obtain ⟨ts, m, t1, t2, t3, f, f0, f1, f2, f3⟩ := rounds (v / 12 % 4)
  refine ⟨.mk 6 false N0 S0 [] ts, m, .inr (.inl ⟨ts, rfl, by omega, t2⟩), t3, ?_⟩
  unfold MP
  refine Pure.body tys_valid (fn := Go.Proofs.Tryz.f40) (by kernel_rfl) rfl (by kernel_rfl) rfl ?_
  intro w ok giv E0 _ hE
  refine H.go 200 [(3, [(3, .res (.ret (.i .i64 (v : Nat))))]), (5, [(1, .val (.i .i64 ((7 : Nat) : Int)))]), (6, [(1, .gd false)])] [(18, false), (33, false)] dr40 rfl ?_ ?_
  · repeat' (first | exact AllP.n | exact trivial | exact DrawB.mk (by decide +kernel) | exact fun _ => rfl | refine AllP.c ?_ ?_)
    all_goals (try dsimp only)
    all_goals try first | exact rfl | exact ⟨trivial, rfl⟩ | exact ⟨trivial, bts_t rfl⟩ | omega | exact at_tr _ _ (by omega) | exact at_s _ _ (by omega) | exact dt (by omega) | exact df (by omega) | exact decide_eq_true (by omega) | exact decide_eq_false (by omega) | exact bts_t (by assumption) | exact bts_f (by assumption) | (rw [bts_t (by assumption)]; rfl) | (rw [bts_f (by assumption)]; rfl) | (unfold InR; omega) | exact hp | (refine ⟨by omega, ?_⟩; rw [List.length_cons]; omega) | exact ⟨by unfold InR; omega, rfl⟩ | (refine ⟨?_, ?_⟩; exact trivial; exact ei (remN v 12)) | (refine ⟨?_, ?_⟩ <;> first | omega | exact ei (quoN v 12 (by omega))) | exact ⟨by omega, ei (remN _ _)⟩ | exact ⟨by omega, ei (quoN _ _ (by omega))⟩ | exact ⟨by omega, (ei (remN _ _)).trans (ei (by rw [hc]))⟩ | (simp; done) | exact (by assumption : MP _ _ _ _) | (refine ⟨trivial, ?_, ?_⟩ <;> (try simp) <;> omega) | (refine ⟨by unfold InR; omega, ei ?_⟩; omega) | exact ⟨trivial, wk_objn⟩ | exact SameH.of (by repeat' (first | exact trivial | exact rfl | apply And.intro)) (by repeat' (first | exact trivial | exact rfl | apply And.intro))
  refine H.loopI (fun y => y.i ≤ ts.length ∧ y.m = f y.i ∧ y.cv = encs (ts.take y.i)) (AS d v) (fun y => ts.length - y.i) ⟨0, [], 0, r⟩ ⟨Nat.zero_le _, f0.symm, by simp [encs_nil]⟩ ?_ ?_
  · intro a w s
    exact Sat.ren hE [] (by repeat' (first | exact trivial | exact rfl | apply And.intro)) (by repeat' (first | exact trivial | exact rfl | apply And.intro)) rfl (s.adoptC 1 7 21 30 8 rfl rfl rfl rfl rfl rfl)
  rintro ⟨i, cv, g, m1⟩ ⟨h1, h2, h3⟩
  simp only at h1 h2 h3
  subst h2 h3
  have hcv : (encs (ts.take i)).length = i * 8 := by rw [encs_len, List.length_take]; omega
  have hm := f2 i
  by_cases hi : i < ts.length
  · have hmp := f3 i hi
    have hmp2 : MP d (f i) ts[i] (f (i + 1)) := hmp
    refine H.go 200 [(25, [(2, .val (.i .i64 ((v / 12 : Nat) : Int))), (3, .val (.i .i64 ((v / 12 % 4 : Nat) : Int)))]), (27, [(2, .val (.i .i64 ((d : Nat) : Int))), (3, .res (.ret (.tup [.ag (enc ts[i]), .sl 1 (f (i + 1)).length ((f (i + 1)).map iD)])))])] [(84, true)] dr40 rfl ?_ ?_
    · repeat' (first | exact AllP.n | exact trivial | exact DrawB.mk (by decide +kernel) | exact fun _ => rfl | refine AllP.c ?_ ?_)
      all_goals (try dsimp only)
      all_goals try first | exact rfl | exact ⟨trivial, rfl⟩ | exact ⟨trivial, bts_t rfl⟩ | omega | exact at_tr _ _ (by omega) | exact at_s _ _ (by omega) | exact dt (by omega) | exact df (by omega) | exact decide_eq_true (by omega) | exact decide_eq_false (by omega) | exact bts_t (by assumption) | exact bts_f (by assumption) | (rw [bts_t (by assumption)]; rfl) | (rw [bts_f (by assumption)]; rfl) | (unfold InR; omega) | exact hp | (refine ⟨by omega, ?_⟩; rw [List.length_cons]; omega) | exact ⟨by unfold InR; omega, rfl⟩ | (refine ⟨?_, ?_⟩; exact trivial; exact ei (remN v 12)) | (refine ⟨?_, ?_⟩ <;> first | omega | exact ei (quoN v 12 (by omega))) | exact ⟨by omega, ei (remN _ _)⟩ | exact ⟨by omega, ei (quoN _ _ (by omega))⟩ | exact ⟨by omega, (ei (remN _ _)).trans (ei (by rw [hc]))⟩ | (simp; done) | exact (by assumption : MP _ _ _ _) | (refine ⟨trivial, ?_, ?_⟩ <;> (try simp) <;> omega) | (refine ⟨by unfold InR; omega, ei ?_⟩; omega) | exact ⟨trivial, wk_objn⟩ | exact SameH.of (by repeat' (first | exact trivial | exact rfl | apply And.intro)) (by repeat' (first | exact trivial | exact rfl | apply And.intro))
    exact loopN ⟨i + 1, encs (ts.take i) ++ enc ts[i], (encs (ts.take i)).length, f (i + 1)⟩ ⟨hi, rfl, by simp only; rw [List.take_succ_eq_append_getElem hi, encs_append, encs_cons, encs_nil, List.append_nil]⟩ (by show ts.length - (i + 1) < ts.length - i; omega) fun a w s => s.ren hE [(21, 3)] (by repeat' (first | exact trivial | exact rfl | apply And.intro)) (by repeat' (first | exact trivial | exact rfl | apply And.intro)) rfl
  · obtain rfl : i = ts.length := by omega
    rw [List.take_length] at hcv ⊢
    have hfm : f ts.length = m := by rw [t1]; exact f1
    rw [hfm]
    refine H.go 200 [(25, [(2, .val (.i .i64 ((v / 12 : Nat) : Int))), (3, .val (.i .i64 ((v / 12 % 4 : Nat) : Int)))])] [(84, false)] dr40 rfl ?_ ?_
    · repeat' (first | exact AllP.n | exact trivial | exact DrawB.mk (by decide +kernel) | exact fun _ => rfl | refine AllP.c ?_ ?_)
      all_goals (try dsimp only)
      all_goals try first | exact rfl | exact ⟨trivial, rfl⟩ | exact ⟨trivial, bts_t rfl⟩ | omega | exact at_tr _ _ (by omega) | exact at_s _ _ (by omega) | exact dt (by omega) | exact df (by omega) | exact decide_eq_true (by omega) | exact decide_eq_false (by omega) | exact bts_t (by assumption) | exact bts_f (by assumption) | (rw [bts_t (by assumption)]; rfl) | (rw [bts_f (by assumption)]; rfl) | (unfold InR; omega) | exact hp | (refine ⟨by omega, ?_⟩; rw [List.length_cons]; omega) | exact ⟨by unfold InR; omega, rfl⟩ | (refine ⟨?_, ?_⟩; exact trivial; exact ei (remN v 12)) | (refine ⟨?_, ?_⟩ <;> first | omega | exact ei (quoN v 12 (by omega))) | exact ⟨by omega, ei (remN _ _)⟩ | exact ⟨by omega, ei (quoN _ _ (by omega))⟩ | exact ⟨by omega, (ei (remN _ _)).trans (ei (by rw [hc]))⟩ | (simp; done) | exact (by assumption : MP _ _ _ _) | (refine ⟨trivial, ?_, ?_⟩ <;> (try simp) <;> omega) | (refine ⟨by unfold InR; omega, ei ?_⟩; omega) | exact ⟨trivial, wk_objn⟩ | exact SameH.of (by repeat' (first | exact trivial | exact rfl | apply And.intro)) (by repeat' (first | exact trivial | exact rfl | apply And.intro))
    refine H.go 200 [] [] dr40 rfl ?_ ?_
    · repeat' (first | exact AllP.n | exact trivial | exact DrawB.mk (by decide +kernel) | exact fun _ => rfl | refine AllP.c ?_ ?_)
      all_goals (try dsimp only)
      all_goals try first | exact rfl | exact ⟨trivial, rfl⟩ | exact ⟨trivial, bts_t rfl⟩ | omega | exact at_tr _ _ (by omega) | exact at_s _ _ (by omega) | exact dt (by omega) | exact df (by omega) | exact decide_eq_true (by omega) | exact decide_eq_false (by omega) | exact bts_t (by assumption) | exact bts_f (by assumption) | (rw [bts_t (by assumption)]; rfl) | (rw [bts_f (by assumption)]; rfl) | (unfold InR; omega) | exact hp | (refine ⟨by omega, ?_⟩; rw [List.length_cons]; omega) | exact ⟨by unfold InR; omega, rfl⟩ | (refine ⟨?_, ?_⟩; exact trivial; exact ei (remN v 12)) | (refine ⟨?_, ?_⟩ <;> first | omega | exact ei (quoN v 12 (by omega))) | exact ⟨by omega, ei (remN _ _)⟩ | exact ⟨by omega, ei (quoN _ _ (by omega))⟩ | exact ⟨by omega, (ei (remN _ _)).trans (ei (by rw [hc]))⟩ | (simp; done) | exact (by assumption : MP _ _ _ _) | (refine ⟨trivial, ?_, ?_⟩ <;> (try simp) <;> omega) | (refine ⟨by unfold InR; omega, ei ?_⟩; omega) | exact ⟨trivial, wk_objn⟩ | exact SameH.of (by repeat' (first | exact trivial | exact rfl | apply And.intro)) (by repeat' (first | exact trivial | exact rfl | apply And.intro))
    refine ⟨_, _, rfl, ?_, ?_⟩
    · repeat' (first | exact AllP.n | exact trivial | exact DrawB.mk (by decide +kernel) | exact fun _ => rfl | refine AllP.c ?_ ?_)
      all_goals (try dsimp only)
      all_goals try first | exact rfl | exact ⟨trivial, rfl⟩ | exact ⟨trivial, bts_t rfl⟩ | omega | exact at_tr _ _ (by omega) | exact at_s _ _ (by omega) | exact dt (by omega) | exact df (by omega) | exact decide_eq_true (by omega) | exact decide_eq_false (by omega) | exact bts_t (by assumption) | exact bts_f (by assumption) | (rw [bts_t (by assumption)]; rfl) | (rw [bts_f (by assumption)]; rfl) | (unfold InR; omega) | (simp [Root.idle, mulN_eq, encs_len]; done)
    · exact .tup (.cons (wk_arr ts) (.cons (.refl _) .nil))
theorem made_s8 (d : Nat) (x : Int) (r : List Int) (v : Nat) (hv : v < 1073741824) (hx : x % 1073741824 = v) (hc : v % 12 = 8) (hd : d + 1 ≤ 4) (hr : r.length < 2^40) (ih : ∀ l : List Int, l.length < 2^40 → ∃ t r, GT d t ∧ r.length ≤ l.length ∧ MP d l t r) :
    ∃ t m, GT (d + 1) t ∧ m.length ≤ r.length ∧ MP (d + 1) (x :: r) t m := by
  have hp := place_ct x 1073741824 (by omega) (by omega)
  rw [hx] at hp
  -- what the rounds come to
  have rounds : ∀ k : Nat, ∃ (ts : List Tr) (m : List Int), ts.length = k ∧ (∀ u ∈ ts, GT d u) ∧ m.length ≤ r.length ∧ ∃ f : Nat → List Int, f 0 = r ∧ f k = m ∧ (∀ j, (f j).length ≤ r.length) ∧ ∀ (j : Nat) (h : j < ts.length), MP d (f j) ts[j] (f (j + 1)) := by
    intro k
    induction k with
    | zero => exact ⟨[], r, rfl, fun u h => by simp at h, Nat.le_refl _, fun _ => r, rfl, rfl, fun _ => Nat.le_refl _, fun j h => by simp at h⟩
    | succ k ihk =>
      obtain ⟨ts, m, h1, h2, h3, f, f0, f1, f2, f3⟩ := ihk
      obtain ⟨t, m', g1, g2, g3⟩ := ih m (by omega)
      refine ⟨ts ++ [t], m', by simp [h1], fun u hu => ?_, by omega, fun j => if j ≤ k then f j else m', by simp [f0], by show (if k + 1 ≤ k then f (k + 1) else m') = m'; rw [if_neg (by omega)], fun j => ?_, fun j hj => ?_⟩
      · rcases List.mem_append.1 hu with hu | hu
        · exact h2 u hu
        · obtain rfl : u = t := by simpa using hu
          exact g1
      · by_cases hjk : j ≤ k
        · simp only [hjk, if_true]; exact f2 j
        · simp only [hjk, if_false]; omega
      · simp only [List.length_append, List.length_cons, List.length_nil] at hj
        by_cases hjk : j < k
        · have hj2 : j < ts.length := by omega
          rw [List.getElem_append_left hj2]
          have a1 : j ≤ k := by omega
          have a2 : j + 1 ≤ k := by omega
          simp only [a1, a2, if_true]
          exact f3 j hj2
        · have hjk : j = k := by omega
          subst hjk
          rw [List.getElem_append_right (by omega)]
          have a2 : ¬ (j + 1 ≤ j) := by omega
          simp only [Nat.le_refl, if_true, a2, if_false, h1, Nat.sub_self, List.getElem_cons_zero, f1]
          exact g3
  obtain ⟨ts, m, t1, t2, t3, f, f0, f1, f2, f3⟩ := rounds (v / 12 % 4)
  refine ⟨.mk 6 false N0 S0 [] ts, m, .inr (.inl ⟨ts, rfl, by omega, t2⟩), t3, ?_⟩
  unfold MP
  refine Pure.body tys_valid (fn := Go.Proofs.Tryz.f40) (by kernel_rfl) rfl (by kernel_rfl) rfl ?_
  intro w ok giv E0 _ hE
  refine H.go 200 [(3, [(3, .res (.ret (.i .i64 (v : Nat))))]), (5, [(1, .val (.i .i64 ((8 : Nat) : Int)))]), (6, [(1, .gd false)])] [(18, false), (33, false)] dr40 rfl ?_ ?_
  · repeat' (first | exact AllP.n | exact trivial | exact DrawB.mk (by decide +kernel) | exact fun _ => rfl | refine AllP.c ?_ ?_)
    all_goals (try dsimp only)
    all_goals try first | exact rfl | exact ⟨trivial, rfl⟩ | exact ⟨trivial, bts_t rfl⟩ | omega | exact at_tr _ _ (by omega) | exact at_s _ _ (by omega) | exact dt (by omega) | exact df (by omega) | exact decide_eq_true (by omega) | exact decide_eq_false (by omega) | exact bts_t (by assumption) | exact bts_f (by assumption) | (rw [bts_t (by assumption)]; rfl) | (rw [bts_f (by assumption)]; rfl) | (unfold InR; omega) | exact hp | (refine ⟨by omega, ?_⟩; rw [List.length_cons]; omega) | exact ⟨by unfold InR; omega, rfl⟩ | (refine ⟨?_, ?_⟩; exact trivial; exact ei (remN v 12)) | (refine ⟨?_, ?_⟩ <;> first | omega | exact ei (quoN v 12 (by omega))) | exact ⟨by omega, ei (remN _ _)⟩ | exact ⟨by omega, ei (quoN _ _ (by omega))⟩ | exact ⟨by omega, (ei (remN _ _)).trans (ei (by rw [hc]))⟩ | (simp; done) | exact (by assumption : MP _ _ _ _) | (refine ⟨trivial, ?_, ?_⟩ <;> (try simp) <;> omega) | (refine ⟨by unfold InR; omega, ei ?_⟩; omega) | exact ⟨trivial, wk_objn⟩ | exact SameH.of (by repeat' (first | exact trivial | exact rfl | apply And.intro)) (by repeat' (first | exact trivial | exact rfl | apply And.intro))
  refine H.loopI (fun y => y.i ≤ ts.length ∧ y.m = f y.i ∧ y.cv = encs (ts.take y.i)) (AS d v) (fun y => ts.length - y.i) ⟨0, [], 0, r⟩ ⟨Nat.zero_le _, f0.symm, by simp [encs_nil]⟩ ?_ ?_
  · intro a w s
    exact Sat.ren hE [] (by repeat' (first | exact trivial | exact rfl | apply And.intro)) (by repeat' (first | exact trivial | exact rfl | apply And.intro)) rfl (s.adoptC 1 7 21 30 8 rfl rfl rfl rfl rfl rfl)
  rintro ⟨i, cv, g, m1⟩ ⟨h1, h2, h3⟩
  simp only at h1 h2 h3
  subst h2 h3
  have hcv : (encs (ts.take i)).length = i * 8 := by rw [encs_len, List.length_take]; omega
  have hm := f2 i
  by_cases hi : i < ts.length
  · have hmp := f3 i hi
    have hmp2 : MP d (f i) ts[i] (f (i + 1)) := hmp
    refine H.go 200 [(25, [(2, .val (.i .i64 ((v / 12 : Nat) : Int))), (3, .val (.i .i64 ((v / 12 % 4 : Nat) : Int)))]), (27, [(2, .val (.i .i64 ((d : Nat) : Int))), (3, .res (.ret (.tup [.ag (enc ts[i]), .sl 1 (f (i + 1)).length ((f (i + 1)).map iD)])))])] [(84, true)] dr40 rfl ?_ ?_
    · repeat' (first | exact AllP.n | exact trivial | exact DrawB.mk (by decide +kernel) | exact fun _ => rfl | refine AllP.c ?_ ?_)
      all_goals (try dsimp only)
      all_goals try first | exact rfl | exact ⟨trivial, rfl⟩ | exact ⟨trivial, bts_t rfl⟩ | omega | exact at_tr _ _ (by omega) | exact at_s _ _ (by omega) | exact dt (by omega) | exact df (by omega) | exact decide_eq_true (by omega) | exact decide_eq_false (by omega) | exact bts_t (by assumption) | exact bts_f (by assumption) | (rw [bts_t (by assumption)]; rfl) | (rw [bts_f (by assumption)]; rfl) | (unfold InR; omega) | exact hp | (refine ⟨by omega, ?_⟩; rw [List.length_cons]; omega) | exact ⟨by unfold InR; omega, rfl⟩ | (refine ⟨?_, ?_⟩; exact trivial; exact ei (remN v 12)) | (refine ⟨?_, ?_⟩ <;> first | omega | exact ei (quoN v 12 (by omega))) | exact ⟨by omega, ei (remN _ _)⟩ | exact ⟨by omega, ei (quoN _ _ (by omega))⟩ | exact ⟨by omega, (ei (remN _ _)).trans (ei (by rw [hc]))⟩ | (simp; done) | exact (by assumption : MP _ _ _ _) | (refine ⟨trivial, ?_, ?_⟩ <;> (try simp) <;> omega) | (refine ⟨by unfold InR; omega, ei ?_⟩; omega) | exact ⟨trivial, wk_objn⟩ | exact SameH.of (by repeat' (first | exact trivial | exact rfl | apply And.intro)) (by repeat' (first | exact trivial | exact rfl | apply And.intro))
    exact loopN ⟨i + 1, encs (ts.take i) ++ enc ts[i], (encs (ts.take i)).length, f (i + 1)⟩ ⟨hi, rfl, by simp only; rw [List.take_succ_eq_append_getElem hi, encs_append, encs_cons, encs_nil, List.append_nil]⟩ (by show ts.length - (i + 1) < ts.length - i; omega) fun a w s => s.ren hE [(21, 3)] (by repeat' (first | exact trivial | exact rfl | apply And.intro)) (by repeat' (first | exact trivial | exact rfl | apply And.intro)) rfl
  · obtain rfl : i = ts.length := by omega
    rw [List.take_length] at hcv ⊢
    have hfm : f ts.length = m := by rw [t1]; exact f1
    rw [hfm]
    refine H.go 200 [(25, [(2, .val (.i .i64 ((v / 12 : Nat) : Int))), (3, .val (.i .i64 ((v / 12 % 4 : Nat) : Int)))])] [(84, false)] dr40 rfl ?_ ?_
    · repeat' (first | exact AllP.n | exact trivial | exact DrawB.mk (by decide +kernel) | exact fun _ => rfl | refine AllP.c ?_ ?_)
      all_goals (try dsimp only)
      all_goals try first | exact rfl | exact ⟨trivial, rfl⟩ | exact ⟨trivial, bts_t rfl⟩ | omega | exact at_tr _ _ (by omega) | exact at_s _ _ (by omega) | exact dt (by omega) | exact df (by omega) | exact decide_eq_true (by omega) | exact decide_eq_false (by omega) | exact bts_t (by assumption) | exact bts_f (by assumption) | (rw [bts_t (by assumption)]; rfl) | (rw [bts_f (by assumption)]; rfl) | (unfold InR; omega) | exact hp | (refine ⟨by omega, ?_⟩; rw [List.length_cons]; omega) | exact ⟨by unfold InR; omega, rfl⟩ | (refine ⟨?_, ?_⟩; exact trivial; exact ei (remN v 12)) | (refine ⟨?_, ?_⟩ <;> first | omega | exact ei (quoN v 12 (by omega))) | exact ⟨by omega, ei (remN _ _)⟩ | exact ⟨by omega, ei (quoN _ _ (by omega))⟩ | exact ⟨by omega, (ei (remN _ _)).trans (ei (by rw [hc]))⟩ | (simp; done) | exact (by assumption : MP _ _ _ _) | (refine ⟨trivial, ?_, ?_⟩ <;> (try simp) <;> omega) | (refine ⟨by unfold InR; omega, ei ?_⟩; omega) | exact ⟨trivial, wk_objn⟩ | exact SameH.of (by repeat' (first | exact trivial | exact rfl | apply And.intro)) (by repeat' (first | exact trivial | exact rfl | apply And.intro))
    refine H.go 200 [] [] dr40 rfl ?_ ?_
    · repeat' (first | exact AllP.n | exact trivial | exact DrawB.mk (by decide +kernel) | exact fun _ => rfl | refine AllP.c ?_ ?_)
      all_goals (try dsimp only)
      all_goals try first | exact rfl | exact ⟨trivial, rfl⟩ | exact ⟨trivial, bts_t rfl⟩ | omega | exact at_tr _ _ (by omega) | exact at_s _ _ (by omega) | exact dt (by omega) | exact df (by omega) | exact decide_eq_true (by omega) | exact decide_eq_false (by omega) | exact bts_t (by assumption) | exact bts_f (by assumption) | (rw [bts_t (by assumption)]; rfl) | (rw [bts_f (by assumption)]; rfl) | (unfold InR; omega) | exact hp | (refine ⟨by omega, ?_⟩; rw [List.length_cons]; omega) | exact ⟨by unfold InR; omega, rfl⟩ | (refine ⟨?_, ?_⟩; exact trivial; exact ei (remN v 12)) | (refine ⟨?_, ?_⟩ <;> first | omega | exact ei (quoN v 12 (by omega))) | exact ⟨by omega, ei (remN _ _)⟩ | exact ⟨by omega, ei (quoN _ _ (by omega))⟩ | exact ⟨by omega, (ei (remN _ _)).trans (ei (by rw [hc]))⟩ | (simp; done) | exact (by assumption : MP _ _ _ _) | (refine ⟨trivial, ?_, ?_⟩ <;> (try simp) <;> omega) | (refine ⟨by unfold InR; omega, ei ?_⟩; omega) | exact ⟨trivial, wk_objn⟩ | exact SameH.of (by repeat' (first | exact trivial | exact rfl | apply And.intro)) (by repeat' (first | exact trivial | exact rfl | apply And.intro))
    refine ⟨_, _, rfl, ?_, ?_⟩
    · repeat' (first | exact AllP.n | exact trivial | exact DrawB.mk (by decide +kernel) | exact fun _ => rfl | refine AllP.c ?_ ?_)
      all_goals (try dsimp only)
      all_goals try first | exact rfl | exact ⟨trivial, rfl⟩ | exact ⟨trivial, bts_t rfl⟩ | omega | exact at_tr _ _ (by omega) | exact at_s _ _ (by omega) | exact dt (by omega) | exact df (by omega) | exact decide_eq_true (by omega) | exact decide_eq_false (by omega) | exact bts_t (by assumption) | exact bts_f (by assumption) | (rw [bts_t (by assumption)]; rfl) | (rw [bts_f (by assumption)]; rfl) | (unfold InR; omega) | (simp [Root.idle, mulN_eq, encs_len]; done)
    · exact .tup (.cons (wk_arr ts) (.cons (.refl _) .nil))
theorem made_s9 (d : Nat) (x : Int) (r : List Int) (v : Nat) (hv : v < 1073741824) (hx : x % 1073741824 = v) (hc : v % 12 = 9) (hd : d + 1 ≤ 4) (hr : r.length < 2^40) (ih : ∀ l : List Int, l.length < 2^40 → ∃ t r, GT d t ∧ r.length ≤ l.length ∧ MP d l t r) :
    ∃ t m, GT (d + 1) t ∧ m.length ≤ r.length ∧ MP (d + 1) (x :: r) t m ∧ t.kind = 7 := by
  have hp := place_ct x 1073741824 (by omega) (by omega)
  rw [hx] at hp
  have rounds : ∀ k : Nat, k ≤ 3 → ∃ (f : Nat → List Int) (g : Nat → List (ByteArray × Tr)) (u : Nat → Tr), f 0 = r ∧ g 0 = [] ∧ (∀ j, (f j).length ≤ r.length) ∧ (∀ j, j ≤ k → (g j).length ≤ j ∧ SL ((g j).map (·.1)) ∧ ∀ p ∈ g j, GT d p.2) ∧
      ∀ (j : Nat) (h : j < k), MP d (f j) (u j) (f (j + 1)) ∧ tset (obj (g j)) (names8[(v / 48 + 3 * j) % 8]'(by simp [names8]; omega)) (u j) = obj (g (j + 1)) := by
    intro k
    induction k with
    | zero => exact fun _ => ⟨fun _ => r, fun _ => [], fun _ => tNull, rfl, rfl, fun _ => Nat.le_refl _, fun j _ => ⟨Nat.zero_le _, ⟨by simp, fun x h => by simp at h⟩, fun p h => by simp at h⟩, fun j h => absurd h (Nat.not_lt_zero _)⟩
    | succ k ihk =>
      intro hk
      obtain ⟨f, g, u, f0, g0, f2, g1, h1⟩ := ihk (by omega)
      obtain ⟨t, m', a1, a2, a3⟩ := ih (f k) (by have := f2 k; omega)
      obtain ⟨b1, b2, b3⟩ := g1 k (Nat.le_refl _)
      obtain ⟨q, c1, c2, c3, c4⟩ := GT.set (x := names8[(v / 48 + 3 * k) % 8]'(by simp [names8]; omega)) (names8_N8 _ (List.getElem_mem _)) b2 b3 a1
      have hfk := f2 k
      refine ⟨fun j => if j ≤ k then f j else m', fun j => if j ≤ k then g j else q, fun j => if j < k then u j else t, by simp [f0], by simp [g0], fun j => ?_, fun j hj => ?_, fun j hj => ?_⟩
      · by_cases hjk : j ≤ k
        · simp only [hjk, if_true]; exact f2 j
        · simp only [hjk, if_false]; omega
      · by_cases hjk : j ≤ k
        · simp only [hjk, if_true]; exact g1 j hjk
        · simp only [hjk, if_false]; exact ⟨by omega, c3, c4⟩
      · by_cases hjk : j < k
        · have e1 : j ≤ k := by omega
          have e2 : j + 1 ≤ k := by omega
          simp only [e1, e2, hjk, if_true]
          exact h1 j hjk
        · have hjk : j = k := by omega
          subst hjk
          have e2 : ¬ (j + 1 ≤ j) := by omega
          have e3 : ¬ (j < j) := by omega
          simp only [Nat.le_refl, if_true, e2, e3, if_false]
          exact ⟨a3, c1⟩
  obtain ⟨f, g, u, f0, g0, f2, g1, hst⟩ := rounds (v / 12 % 4) (by omega)
  obtain ⟨e1, e2, e3⟩ := g1 (v / 12 % 4) (Nat.le_refl _)
  refine ⟨obj (g (v / 12 % 4)), f (v / 12 % 4), .inr (.inr ⟨_, rfl, by omega, e2, e3⟩), f2 _, ?_, by simp [obj, Tr.kind]⟩
  unfold MP
  refine Pure.body tys_valid (fn := Go.Proofs.Tryz.f40) (by kernel_rfl) rfl (by kernel_rfl) rfl ?_
  intro w ok giv E0 _ hE
  refine H.go 200 [(3, [(3, .res (.ret (.i .i64 (v : Nat))))]), (5, [(1, .val (.i .i64 ((9 : Nat) : Int)))]), (6, [(1, .gd false)]), (31, [(0, .wk (.ag (enc (obj []))))])] [(18, false), (33, false)] dr40 rfl ?_ ?_
  · repeat' (first | exact AllP.n | exact trivial | exact DrawB.mk (by decide +kernel) | exact fun _ => rfl | refine AllP.c ?_ ?_)
    all_goals (try dsimp only)
    all_goals try first | exact rfl | exact ⟨trivial, rfl⟩ | exact ⟨trivial, bts_t rfl⟩ | omega | exact at_tr _ _ (by omega) | exact at_s _ _ (by omega) | exact dt (by omega) | exact df (by omega) | exact decide_eq_true (by omega) | exact decide_eq_false (by omega) | exact bts_t (by assumption) | exact bts_f (by assumption) | (rw [bts_t (by assumption)]; rfl) | (rw [bts_f (by assumption)]; rfl) | (unfold InR; omega) | exact hp | (refine ⟨by omega, ?_⟩; rw [List.length_cons]; omega) | exact ⟨by unfold InR; omega, rfl⟩ | (refine ⟨?_, ?_⟩; exact trivial; exact ei (remN v 12)) | (refine ⟨?_, ?_⟩ <;> first | omega | exact ei (quoN v 12 (by omega))) | exact ⟨by omega, ei (remN _ _)⟩ | exact ⟨by omega, ei (quoN _ _ (by omega))⟩ | exact ⟨by omega, (ei (remN _ _)).trans (ei (by rw [hc]))⟩ | (simp; done) | exact (by assumption : MP _ _ _ _) | (refine ⟨trivial, ?_, ?_⟩ <;> (try simp) <;> omega) | (refine ⟨by unfold InR; omega, ei ?_⟩; omega) | exact ⟨trivial, wk_objn⟩ | exact SameH.of (by repeat' (first | exact trivial | exact rfl | apply And.intro)) (by repeat' (first | exact trivial | exact rfl | apply And.intro))
  refine H.loopI (fun y : Nat × List (ByteArray × Tr) × List Int => y.1 ≤ v / 12 % 4 ∧ y.2.1 = g y.1 ∧ y.2.2 = f y.1) (OS d v) (fun y => v / 12 % 4 - y.1) (0, [], r) ⟨Nat.zero_le _, g0.symm, f0.symm⟩ ?_ ?_
  · intro a w s
    exact s.ren hE [] (by repeat' (first | exact trivial | exact rfl | apply And.intro)) (by repeat' (first | exact trivial | exact rfl | apply And.intro)) rfl
  rintro ⟨i, l, m1⟩ ⟨h1, h2, h3⟩
  simp only at h1 h2 h3
  subst h2 h3
  have hm := f2 i
  by_cases hi : i < v / 12 % 4
  · obtain ⟨hmp, hset⟩ := hst i hi
    have hn : (v / 48 + 3 * i) % 8 < names8.length := by simp [names8]; omega
    have hgi := g1 i (by omega)
    have hsc := set_ct (obj (g i)) (names8[(v / 48 + 3 * i) % 8]'hn) (u i) (by rw [(obj_len _).1]; omega) (by rw [(obj_len _).2]; omega)
    rw [hset] at hsc
    have hns := at_s names8 ((v / 48 + 3 * i) % 8) hn
    refine H.go 200 [(33, [(2, .val (.i .i64 ((v / 12 : Nat) : Int))), (3, .val (.i .i64 ((v / 12 % 4 : Nat) : Int)))]), (35, [(2, .val (.i .i64 ((d : Nat) : Int))), (3, .res (.ret (.tup [.ag (enc (u i)), .sl 1 (f (i + 1)).length ((f (i + 1)).map iD)])))]), (36, [(1, .res (.ret (.sl 1 8 (names8.map D.s)))), (3, .val (.i .i64 ((v / 48 : Nat) : Int))), (5, .val (.i .i64 ((3 * i : Nat) : Int))), (6, .val (.i .i64 ((v / 48 + 3 * i : Nat) : Int))), (7, .val (.i .i64 (((v / 48 + 3 * i) % 8 : Nat) : Int))), (9, .cell (.s (names8[(v / 48 + 3 * i) % 8]'hn))), (11, .res (.ret (.ag (enc (obj (g (i + 1)))))))])] [(108, true)] dr40 rfl ?_ ?_
    · repeat' (first | exact AllP.n | exact trivial | exact DrawB.mk (by decide +kernel) | exact fun _ => rfl | refine AllP.c ?_ ?_)
      all_goals (try dsimp only)
      all_goals try first | exact rfl | exact ⟨trivial, rfl⟩ | exact ⟨trivial, bts_t rfl⟩ | omega | exact at_tr _ _ (by omega) | exact at_s _ _ (by omega) | exact dt (by omega) | exact df (by omega) | exact decide_eq_true (by omega) | exact decide_eq_false (by omega) | exact bts_t (by assumption) | exact bts_f (by assumption) | (rw [bts_t (by assumption)]; rfl) | (rw [bts_f (by assumption)]; rfl) | (unfold InR; omega) | exact hp | (refine ⟨by omega, ?_⟩; rw [List.length_cons]; omega) | exact ⟨by unfold InR; omega, rfl⟩ | (refine ⟨?_, ?_⟩; exact trivial; exact ei (remN v 12)) | (refine ⟨?_, ?_⟩ <;> first | omega | exact ei (quoN v 12 (by omega))) | exact ⟨by omega, ei (remN _ _)⟩ | exact ⟨by omega, ei (quoN _ _ (by omega))⟩ | exact ⟨by omega, (ei (remN _ _)).trans (ei (by rw [hc]))⟩ | (simp; done) | exact (by assumption : MP _ _ _ _) | (refine ⟨trivial, ?_, ?_⟩ <;> (try simp) <;> omega) | (refine ⟨by unfold InR; omega, ei ?_⟩; omega) | exact ⟨trivial, wk_objn⟩ | exact SameH.of (by repeat' (first | exact trivial | exact rfl | apply And.intro)) (by repeat' (first | exact trivial | exact rfl | apply And.intro)) | exact hsc | exact hns | exact names8_ct | (refine ⟨by omega, ?_⟩; omega)
    exact loopN (i + 1, g (i + 1), f (i + 1)) ⟨hi, rfl, rfl⟩ (by show v / 12 % 4 - (i + 1) < v / 12 % 4 - i; omega) fun a w s => s.ren hE [] (by repeat' (first | exact trivial | exact rfl | apply And.intro)) (by repeat' (first | exact trivial | exact rfl | apply And.intro)) rfl
  · obtain rfl : i = v / 12 % 4 := by omega
    refine H.go 200 [(33, [(2, .val (.i .i64 ((v / 12 : Nat) : Int))), (3, .val (.i .i64 ((v / 12 % 4 : Nat) : Int)))])] [(108, false)] dr40 rfl ?_ ?_
    · repeat' (first | exact AllP.n | exact trivial | exact DrawB.mk (by decide +kernel) | exact fun _ => rfl | refine AllP.c ?_ ?_)
      all_goals (try dsimp only)
      all_goals try first | exact rfl | exact ⟨trivial, rfl⟩ | exact ⟨trivial, bts_t rfl⟩ | omega | exact at_tr _ _ (by omega) | exact at_s _ _ (by omega) | exact dt (by omega) | exact df (by omega) | exact decide_eq_true (by omega) | exact decide_eq_false (by omega) | exact bts_t (by assumption) | exact bts_f (by assumption) | (rw [bts_t (by assumption)]; rfl) | (rw [bts_f (by assumption)]; rfl) | (unfold InR; omega) | exact hp | (refine ⟨by omega, ?_⟩; rw [List.length_cons]; omega) | exact ⟨by unfold InR; omega, rfl⟩ | (refine ⟨?_, ?_⟩; exact trivial; exact ei (remN v 12)) | (refine ⟨?_, ?_⟩ <;> first | omega | exact ei (quoN v 12 (by omega))) | exact ⟨by omega, ei (remN _ _)⟩ | exact ⟨by omega, ei (quoN _ _ (by omega))⟩ | exact ⟨by omega, (ei (remN _ _)).trans (ei (by rw [hc]))⟩ | (simp; done) | exact (by assumption : MP _ _ _ _) | (refine ⟨trivial, ?_, ?_⟩ <;> (try simp) <;> omega) | (refine ⟨by unfold InR; omega, ei ?_⟩; omega) | exact ⟨trivial, wk_objn⟩ | exact SameH.of (by repeat' (first | exact trivial | exact rfl | apply And.intro)) (by repeat' (first | exact trivial | exact rfl | apply And.intro))
    refine H.go 200 [] [] dr40 rfl ?_ ?_
    · repeat' (first | exact AllP.n | exact trivial | exact DrawB.mk (by decide +kernel) | exact fun _ => rfl | refine AllP.c ?_ ?_)
      all_goals (try dsimp only)
      all_goals try first | exact rfl | exact ⟨trivial, rfl⟩ | exact ⟨trivial, bts_t rfl⟩ | omega | exact at_tr _ _ (by omega) | exact at_s _ _ (by omega) | exact dt (by omega) | exact df (by omega) | exact decide_eq_true (by omega) | exact decide_eq_false (by omega) | exact bts_t (by assumption) | exact bts_f (by assumption) | (rw [bts_t (by assumption)]; rfl) | (rw [bts_f (by assumption)]; rfl) | (unfold InR; omega) | exact hp | (refine ⟨by omega, ?_⟩; rw [List.length_cons]; omega) | exact ⟨by unfold InR; omega, rfl⟩ | (refine ⟨?_, ?_⟩; exact trivial; exact ei (remN v 12)) | (refine ⟨?_, ?_⟩ <;> first | omega | exact ei (quoN v 12 (by omega))) | exact ⟨by omega, ei (remN _ _)⟩ | exact ⟨by omega, ei (quoN _ _ (by omega))⟩ | exact ⟨by omega, (ei (remN _ _)).trans (ei (by rw [hc]))⟩ | (simp; done) | exact (by assumption : MP _ _ _ _) | (refine ⟨trivial, ?_, ?_⟩ <;> (try simp) <;> omega) | (refine ⟨by unfold InR; omega, ei ?_⟩; omega) | exact ⟨trivial, wk_objn⟩ | exact SameH.of (by repeat' (first | exact trivial | exact rfl | apply And.intro)) (by repeat' (first | exact trivial | exact rfl | apply And.intro))
    refine ⟨_, _, rfl, ?_, ?_⟩
    · repeat' (first | exact AllP.n | exact trivial | exact DrawB.mk (by decide +kernel) | exact fun _ => rfl | refine AllP.c ?_ ?_)
      all_goals (try dsimp only)
      all_goals try first | exact rfl | exact ⟨trivial, rfl⟩ | exact ⟨trivial, bts_t rfl⟩ | omega | exact at_tr _ _ (by omega) | exact at_s _ _ (by omega) | exact dt (by omega) | exact df (by omega) | exact decide_eq_true (by omega) | exact decide_eq_false (by omega) | exact bts_t (by assumption) | exact bts_f (by assumption) | (rw [bts_t (by assumption)]; rfl) | (rw [bts_f (by assumption)]; rfl) | (unfold InR; omega) | (simp [Root.idle, mulN_eq, encs_len]; done)
    · exact .refl _
theorem made_s10 (d : Nat) (x : Int) (r : List Int) (v : Nat) (hv : v < 1073741824) (hx : x % 1073741824 = v) (hc : v % 12 = 10) (hd : d + 1 ≤ 4) (hr : r.length < 2^40) (ih : ∀ l : List Int, l.length < 2^40 → ∃ t r, GT d t ∧ r.length ≤ l.length ∧ MP d l t r) :
    ∃ t m, GT (d + 1) t ∧ m.length ≤ r.length ∧ MP (d + 1) (x :: r) t m ∧ t.kind = 7 := by
  have hp := place_ct x 1073741824 (by omega) (by omega)
  rw [hx] at hp
  have rounds : ∀ k : Nat, k ≤ 3 → ∃ (f : Nat → List Int) (g : Nat → List (ByteArray × Tr)) (u : Nat → Tr), f 0 = r ∧ g 0 = [] ∧ (∀ j, (f j).length ≤ r.length) ∧ (∀ j, j ≤ k → (g j).length ≤ j ∧ SL ((g j).map (·.1)) ∧ ∀ p ∈ g j, GT d p.2) ∧
      ∀ (j : Nat) (h : j < k), MP d (f j) (u j) (f (j + 1)) ∧ tset (obj (g j)) (names8[(v / 48 + 3 * j) % 8]'(by simp [names8]; omega)) (u j) = obj (g (j + 1)) := by
    intro k
    induction k with
    | zero => exact fun _ => ⟨fun _ => r, fun _ => [], fun _ => tNull, rfl, rfl, fun _ => Nat.le_refl _, fun j _ => ⟨Nat.zero_le _, ⟨by simp, fun x h => by simp at h⟩, fun p h => by simp at h⟩, fun j h => absurd h (Nat.not_lt_zero _)⟩
    | succ k ihk =>
      intro hk
      obtain ⟨f, g, u, f0, g0, f2, g1, h1⟩ := ihk (by omega)
      obtain ⟨t, m', a1, a2, a3⟩ := ih (f k) (by have := f2 k; omega)
      obtain ⟨b1, b2, b3⟩ := g1 k (Nat.le_refl _)
      obtain ⟨q, c1, c2, c3, c4⟩ := GT.set (x := names8[(v / 48 + 3 * k) % 8]'(by simp [names8]; omega)) (names8_N8 _ (List.getElem_mem _)) b2 b3 a1
      have hfk := f2 k
      refine ⟨fun j => if j ≤ k then f j else m', fun j => if j ≤ k then g j else q, fun j => if j < k then u j else t, by simp [f0], by simp [g0], fun j => ?_, fun j hj => ?_, fun j hj => ?_⟩
      · by_cases hjk : j ≤ k
        · simp only [hjk, if_true]; exact f2 j
        · simp only [hjk, if_false]; omega
      · by_cases hjk : j ≤ k
        · simp only [hjk, if_true]; exact g1 j hjk
        · simp only [hjk, if_false]; exact ⟨by omega, c3, c4⟩
      · by_cases hjk : j < k
        · have e1 : j ≤ k := by omega
          have e2 : j + 1 ≤ k := by omega
          simp only [e1, e2, hjk, if_true]
          exact h1 j hjk
        · have hjk : j = k := by omega
          subst hjk
          have e2 : ¬ (j + 1 ≤ j) := by omega
          have e3 : ¬ (j < j) := by omega
          simp only [Nat.le_refl, if_true, e2, e3, if_false]
          exact ⟨a3, c1⟩
  obtain ⟨f, g, u, f0, g0, f2, g1, hst⟩ := rounds (v / 12 % 4) (by omega)
  obtain ⟨e1, e2, e3⟩ := g1 (v / 12 % 4) (Nat.le_refl _)
  refine ⟨obj (g (v / 12 % 4)), f (v / 12 % 4), .inr (.inr ⟨_, rfl, by omega, e2, e3⟩), f2 _, ?_, by simp [obj, Tr.kind]⟩
  unfold MP
  refine Pure.body tys_valid (fn := Go.Proofs.Tryz.f40) (by kernel_rfl) rfl (by kernel_rfl) rfl ?_
  intro w ok giv E0 _ hE
  refine H.go 200 [(3, [(3, .res (.ret (.i .i64 (v : Nat))))]), (5, [(1, .val (.i .i64 ((10 : Nat) : Int)))]), (6, [(1, .gd false)]), (31, [(0, .wk (.ag (enc (obj []))))])] [(18, false), (33, false)] dr40 rfl ?_ ?_
  · repeat' (first | exact AllP.n | exact trivial | exact DrawB.mk (by decide +kernel) | exact fun _ => rfl | refine AllP.c ?_ ?_)
    all_goals (try dsimp only)
    all_goals try first | exact rfl | exact ⟨trivial, rfl⟩ | exact ⟨trivial, bts_t rfl⟩ | omega | exact at_tr _ _ (by omega) | exact at_s _ _ (by omega) | exact dt (by omega) | exact df (by omega) | exact decide_eq_true (by omega) | exact decide_eq_false (by omega) | exact bts_t (by assumption) | exact bts_f (by assumption) | (rw [bts_t (by assumption)]; rfl) | (rw [bts_f (by assumption)]; rfl) | (unfold InR; omega) | exact hp | (refine ⟨by omega, ?_⟩; rw [List.length_cons]; omega) | exact ⟨by unfold InR; omega, rfl⟩ | (refine ⟨?_, ?_⟩; exact trivial; exact ei (remN v 12)) | (refine ⟨?_, ?_⟩ <;> first | omega | exact ei (quoN v 12 (by omega))) | exact ⟨by omega, ei (remN _ _)⟩ | exact ⟨by omega, ei (quoN _ _ (by omega))⟩ | exact ⟨by omega, (ei (remN _ _)).trans (ei (by rw [hc]))⟩ | (simp; done) | exact (by assumption : MP _ _ _ _) | (refine ⟨trivial, ?_, ?_⟩ <;> (try simp) <;> omega) | (refine ⟨by unfold InR; omega, ei ?_⟩; omega) | exact ⟨trivial, wk_objn⟩ | exact SameH.of (by repeat' (first | exact trivial | exact rfl | apply And.intro)) (by repeat' (first | exact trivial | exact rfl | apply And.intro))
  refine H.loopI (fun y : Nat × List (ByteArray × Tr) × List Int => y.1 ≤ v / 12 % 4 ∧ y.2.1 = g y.1 ∧ y.2.2 = f y.1) (OS d v) (fun y => v / 12 % 4 - y.1) (0, [], r) ⟨Nat.zero_le _, g0.symm, f0.symm⟩ ?_ ?_
  · intro a w s
    exact s.ren hE [] (by repeat' (first | exact trivial | exact rfl | apply And.intro)) (by repeat' (first | exact trivial | exact rfl | apply And.intro)) rfl
  rintro ⟨i, l, m1⟩ ⟨h1, h2, h3⟩
  simp only at h1 h2 h3
  subst h2 h3
  have hm := f2 i
  by_cases hi : i < v / 12 % 4
  · obtain ⟨hmp, hset⟩ := hst i hi
    have hn : (v / 48 + 3 * i) % 8 < names8.length := by simp [names8]; omega
    have hgi := g1 i (by omega)
    have hsc := set_ct (obj (g i)) (names8[(v / 48 + 3 * i) % 8]'hn) (u i) (by rw [(obj_len _).1]; omega) (by rw [(obj_len _).2]; omega)
    rw [hset] at hsc
    have hns := at_s names8 ((v / 48 + 3 * i) % 8) hn
    refine H.go 200 [(33, [(2, .val (.i .i64 ((v / 12 : Nat) : Int))), (3, .val (.i .i64 ((v / 12 % 4 : Nat) : Int)))]), (35, [(2, .val (.i .i64 ((d : Nat) : Int))), (3, .res (.ret (.tup [.ag (enc (u i)), .sl 1 (f (i + 1)).length ((f (i + 1)).map iD)])))]), (36, [(1, .res (.ret (.sl 1 8 (names8.map D.s)))), (3, .val (.i .i64 ((v / 48 : Nat) : Int))), (5, .val (.i .i64 ((3 * i : Nat) : Int))), (6, .val (.i .i64 ((v / 48 + 3 * i : Nat) : Int))), (7, .val (.i .i64 (((v / 48 + 3 * i) % 8 : Nat) : Int))), (9, .cell (.s (names8[(v / 48 + 3 * i) % 8]'hn))), (11, .res (.ret (.ag (enc (obj (g (i + 1)))))))])] [(108, true)] dr40 rfl ?_ ?_
    · repeat' (first | exact AllP.n | exact trivial | exact DrawB.mk (by decide +kernel) | exact fun _ => rfl | refine AllP.c ?_ ?_)
      all_goals (try dsimp only)
      all_goals try first | exact rfl | exact ⟨trivial, rfl⟩ | exact ⟨trivial, bts_t rfl⟩ | omega | exact at_tr _ _ (by omega) | exact at_s _ _ (by omega) | exact dt (by omega) | exact df (by omega) | exact decide_eq_true (by omega) | exact decide_eq_false (by omega) | exact bts_t (by assumption) | exact bts_f (by assumption) | (rw [bts_t (by assumption)]; rfl) | (rw [bts_f (by assumption)]; rfl) | (unfold InR; omega) | exact hp | (refine ⟨by omega, ?_⟩; rw [List.length_cons]; omega) | exact ⟨by unfold InR; omega, rfl⟩ | (refine ⟨?_, ?_⟩; exact trivial; exact ei (remN v 12)) | (refine ⟨?_, ?_⟩ <;> first | omega | exact ei (quoN v 12 (by omega))) | exact ⟨by omega, ei (remN _ _)⟩ | exact ⟨by omega, ei (quoN _ _ (by omega))⟩ | exact ⟨by omega, (ei (remN _ _)).trans (ei (by rw [hc]))⟩ | (simp; done) | exact (by assumption : MP _ _ _ _) | (refine ⟨trivial, ?_, ?_⟩ <;> (try simp) <;> omega) | (refine ⟨by unfold InR; omega, ei ?_⟩; omega) | exact ⟨trivial, wk_objn⟩ | exact SameH.of (by repeat' (first | exact trivial | exact rfl | apply And.intro)) (by repeat' (first | exact trivial | exact rfl | apply And.intro)) | exact hsc | exact hns | exact names8_ct | (refine ⟨by omega, ?_⟩; omega)
    exact loopN (i + 1, g (i + 1), f (i + 1)) ⟨hi, rfl, rfl⟩ (by show v / 12 % 4 - (i + 1) < v / 12 % 4 - i; omega) fun a w s => s.ren hE [] (by repeat' (first | exact trivial | exact rfl | apply And.intro)) (by repeat' (first | exact trivial | exact rfl | apply And.intro)) rfl
  · obtain rfl : i = v / 12 % 4 := by omega
    refine H.go 200 [(33, [(2, .val (.i .i64 ((v / 12 : Nat) : Int))), (3, .val (.i .i64 ((v / 12 % 4 : Nat) : Int)))])] [(108, false)] dr40 rfl ?_ ?_
    · repeat' (first | exact AllP.n | exact trivial | exact DrawB.mk (by decide +kernel) | exact fun _ => rfl | refine AllP.c ?_ ?_)
      all_goals (try dsimp only)
      all_goals try first | exact rfl | exact ⟨trivial, rfl⟩ | exact ⟨trivial, bts_t rfl⟩ | omega | exact at_tr _ _ (by omega) | exact at_s _ _ (by omega) | exact dt (by omega) | exact df (by omega) | exact decide_eq_true (by omega) | exact decide_eq_false (by omega) | exact bts_t (by assumption) | exact bts_f (by assumption) | (rw [bts_t (by assumption)]; rfl) | (rw [bts_f (by assumption)]; rfl) | (unfold InR; omega) | exact hp | (refine ⟨by omega, ?_⟩; rw [List.length_cons]; omega) | exact ⟨by unfold InR; omega, rfl⟩ | (refine ⟨?_, ?_⟩; exact trivial; exact ei (remN v 12)) | (refine ⟨?_, ?_⟩ <;> first | omega | exact ei (quoN v 12 (by omega))) | exact ⟨by omega, ei (remN _ _)⟩ | exact ⟨by omega, ei (quoN _ _ (by omega))⟩ | exact ⟨by omega, (ei (remN _ _)).trans (ei (by rw [hc]))⟩ | (simp; done) | exact (by assumption : MP _ _ _ _) | (refine ⟨trivial, ?_, ?_⟩ <;> (try simp) <;> omega) | (refine ⟨by unfold InR; omega, ei ?_⟩; omega) | exact ⟨trivial, wk_objn⟩ | exact SameH.of (by repeat' (first | exact trivial | exact rfl | apply And.intro)) (by repeat' (first | exact trivial | exact rfl | apply And.intro))
    refine H.go 200 [] [] dr40 rfl ?_ ?_
    · repeat' (first | exact AllP.n | exact trivial | exact DrawB.mk (by decide +kernel) | exact fun _ => rfl | refine AllP.c ?_ ?_)
      all_goals (try dsimp only)
      all_goals try first | exact rfl | exact ⟨trivial, rfl⟩ | exact ⟨trivial, bts_t rfl⟩ | omega | exact at_tr _ _ (by omega) | exact at_s _ _ (by omega) | exact dt (by omega) | exact df (by omega) | exact decide_eq_true (by omega) | exact decide_eq_false (by omega) | exact bts_t (by assumption) | exact bts_f (by assumption) | (rw [bts_t (by assumption)]; rfl) | (rw [bts_f (by assumption)]; rfl) | (unfold InR; omega) | exact hp | (refine ⟨by omega, ?_⟩; rw [List.length_cons]; omega) | exact ⟨by unfold InR; omega, rfl⟩ | (refine ⟨?_, ?_⟩; exact trivial; exact ei (remN v 12)) | (refine ⟨?_, ?_⟩ <;> first | omega | exact ei (quoN v 12 (by omega))) | exact ⟨by omega, ei (remN _ _)⟩ | exact ⟨by omega, ei (quoN _ _ (by omega))⟩ | exact ⟨by omega, (ei (remN _ _)).trans (ei (by rw [hc]))⟩ | (simp; done) | exact (by assumption : MP _ _ _ _) | (refine ⟨trivial, ?_, ?_⟩ <;> (try simp) <;> omega) | (refine ⟨by unfold InR; omega, ei ?_⟩; omega) | exact ⟨trivial, wk_objn⟩ | exact SameH.of (by repeat' (first | exact trivial | exact rfl | apply And.intro)) (by repeat' (first | exact trivial | exact rfl | apply And.intro))
    refine ⟨_, _, rfl, ?_, ?_⟩
    · repeat' (first | exact AllP.n | exact trivial | exact DrawB.mk (by decide +kernel) | exact fun _ => rfl | refine AllP.c ?_ ?_)
      all_goals (try dsimp only)
      all_goals try first | exact rfl | exact ⟨trivial, rfl⟩ | exact ⟨trivial, bts_t rfl⟩ | omega | exact at_tr _ _ (by omega) | exact at_s _ _ (by omega) | exact dt (by omega) | exact df (by omega) | exact decide_eq_true (by omega) | exact decide_eq_false (by omega) | exact bts_t (by assumption) | exact bts_f (by assumption) | (rw [bts_t (by assumption)]; rfl) | (rw [bts_f (by assumption)]; rfl) | (unfold InR; omega) | (simp [Root.idle, mulN_eq, encs_len]; done)
    · exact .refl _
theorem made_s11 (d : Nat) (x : Int) (r : List Int) (v : Nat) (hv : v < 1073741824) (hx : x % 1073741824 = v) (hc : v % 12 = 11) (hd : d + 1 ≤ 4) (hr : r.length < 2^40) (ih : ∀ l : List Int, l.length < 2^40 → ∃ t r, GT d t ∧ r.length ≤ l.length ∧ MP d l t r) :
    ∃ t m, GT (d + 1) t ∧ m.length ≤ r.length ∧ MP (d + 1) (x :: r) t m ∧ t.kind = 7 := by
  have hp := place_ct x 1073741824 (by omega) (by omega)
  rw [hx] at hp
  have rounds : ∀ k : Nat, k ≤ 3 → ∃ (f : Nat → List Int) (g : Nat → List (ByteArray × Tr)) (u : Nat → Tr), f 0 = r ∧ g 0 = [] ∧ (∀ j, (f j).length ≤ r.length) ∧ (∀ j, j ≤ k → (g j).length ≤ j ∧ SL ((g j).map (·.1)) ∧ ∀ p ∈ g j, GT d p.2) ∧
      ∀ (j : Nat) (h : j < k), MP d (f j) (u j) (f (j + 1)) ∧ tset (obj (g j)) (names8[(v / 48 + 3 * j) % 8]'(by simp [names8]; omega)) (u j) = obj (g (j + 1)) := by
    intro k
    induction k with
    | zero => exact fun _ => ⟨fun _ => r, fun _ => [], fun _ => tNull, rfl, rfl, fun _ => Nat.le_refl _, fun j _ => ⟨Nat.zero_le _, ⟨by simp, fun x h => by simp at h⟩, fun p h => by simp at h⟩, fun j h => absurd h (Nat.not_lt_zero _)⟩
    | succ k ihk =>
      intro hk
      obtain ⟨f, g, u, f0, g0, f2, g1, h1⟩ := ihk (by omega)
      obtain ⟨t, m', a1, a2, a3⟩ := ih (f k) (by have := f2 k; omega)
      obtain ⟨b1, b2, b3⟩ := g1 k (Nat.le_refl _)
      obtain ⟨q, c1, c2, c3, c4⟩ := GT.set (x := names8[(v / 48 + 3 * k) % 8]'(by simp [names8]; omega)) (names8_N8 _ (List.getElem_mem _)) b2 b3 a1
      have hfk := f2 k
      refine ⟨fun j => if j ≤ k then f j else m', fun j => if j ≤ k then g j else q, fun j => if j < k then u j else t, by simp [f0], by simp [g0], fun j => ?_, fun j hj => ?_, fun j hj => ?_⟩
      · by_cases hjk : j ≤ k
        · simp only [hjk, if_true]; exact f2 j
        · simp only [hjk, if_false]; omega
      · by_cases hjk : j ≤ k
        · simp only [hjk, if_true]; exact g1 j hjk
        · simp only [hjk, if_false]; exact ⟨by omega, c3, c4⟩
      · by_cases hjk : j < k
        · have e1 : j ≤ k := by omega
          have e2 : j + 1 ≤ k := by omega
          simp only [e1, e2, hjk, if_true]
          exact h1 j hjk
        · have hjk : j = k := by omega
          subst hjk
          have e2 : ¬ (j + 1 ≤ j) := by omega
          have e3 : ¬ (j < j) := by omega
          simp only [Nat.le_refl, if_true, e2, e3, if_false]
          exact ⟨a3, c1⟩
  obtain ⟨f, g, u, f0, g0, f2, g1, hst⟩ := rounds (v / 12 % 4) (by omega)
  obtain ⟨e1, e2, e3⟩ := g1 (v / 12 % 4) (Nat.le_refl _)
  refine ⟨obj (g (v / 12 % 4)), f (v / 12 % 4), .inr (.inr ⟨_, rfl, by omega, e2, e3⟩), f2 _, ?_, by simp [obj, Tr.kind]⟩
  unfold MP
  refine Pure.body tys_valid (fn := Go.Proofs.Tryz.f40) (by kernel_rfl) rfl (by kernel_rfl) rfl ?_
  intro w ok giv E0 _ hE
  refine H.go 200 [(3, [(3, .res (.ret (.i .i64 (v : Nat))))]), (5, [(1, .val (.i .i64 ((11 : Nat) : Int)))]), (6, [(1, .gd false)]), (31, [(0, .wk (.ag (enc (obj []))))])] [(18, false), (33, false)] dr40 rfl ?_ ?_
  · repeat' (first | exact AllP.n | exact trivial | exact DrawB.mk (by decide +kernel) | exact fun _ => rfl | refine AllP.c ?_ ?_)
    all_goals (try dsimp only)
    all_goals try first | exact rfl | exact ⟨trivial, rfl⟩ | exact ⟨trivial, bts_t rfl⟩ | omega | exact at_tr _ _ (by omega) | exact at_s _ _ (by omega) | exact dt (by omega) | exact df (by omega) | exact decide_eq_true (by omega) | exact decide_eq_false (by omega) | exact bts_t (by assumption) | exact bts_f (by assumption) | (rw [bts_t (by assumption)]; rfl) | (rw [bts_f (by assumption)]; rfl) | (unfold InR; omega) | exact hp | (refine ⟨by omega, ?_⟩; rw [List.length_cons]; omega) | exact ⟨by unfold InR; omega, rfl⟩ | (refine ⟨?_, ?_⟩; exact trivial; exact ei (remN v 12)) | (refine ⟨?_, ?_⟩ <;> first | omega | exact ei (quoN v 12 (by omega))) | exact ⟨by omega, ei (remN _ _)⟩ | exact ⟨by omega, ei (quoN _ _ (by omega))⟩ | exact ⟨by omega, (ei (remN _ _)).trans (ei (by rw [hc]))⟩ | (simp; done) | exact (by assumption : MP _ _ _ _) | (refine ⟨trivial, ?_, ?_⟩ <;> (try simp) <;> omega) | (refine ⟨by unfold InR; omega, ei ?_⟩; omega) | exact ⟨trivial, wk_objn⟩ | exact SameH.of (by repeat' (first | exact trivial | exact rfl | apply And.intro)) (by repeat' (first | exact trivial | exact rfl | apply And.intro))
  refine H.loopI (fun y : Nat × List (ByteArray × Tr) × List Int => y.1 ≤ v / 12 % 4 ∧ y.2.1 = g y.1 ∧ y.2.2 = f y.1) (OS d v) (fun y => v / 12 % 4 - y.1) (0, [], r) ⟨Nat.zero_le _, g0.symm, f0.symm⟩ ?_ ?_
  · intro a w s
    exact s.ren hE [] (by repeat' (first | exact trivial | exact rfl | apply And.intro)) (by repeat' (first | exact trivial | exact rfl | apply And.intro)) rfl
  rintro ⟨i, l, m1⟩ ⟨h1, h2, h3⟩
  simp only at h1 h2 h3
  subst h2 h3
  have hm := f2 i
  by_cases hi : i < v / 12 % 4
  · obtain ⟨hmp, hset⟩ := hst i hi
    have hn : (v / 48 + 3 * i) % 8 < names8.length := by simp [names8]; omega
    have hgi := g1 i (by omega)
    have hsc := set_ct (obj (g i)) (names8[(v / 48 + 3 * i) % 8]'hn) (u i) (by rw [(obj_len _).1]; omega) (by rw [(obj_len _).2]; omega)
    rw [hset] at hsc
    have hns := at_s names8 ((v / 48 + 3 * i) % 8) hn
    refine H.go 200 [(33, [(2, .val (.i .i64 ((v / 12 : Nat) : Int))), (3, .val (.i .i64 ((v / 12 % 4 : Nat) : Int)))]), (35, [(2, .val (.i .i64 ((d : Nat) : Int))), (3, .res (.ret (.tup [.ag (enc (u i)), .sl 1 (f (i + 1)).length ((f (i + 1)).map iD)])))]), (36, [(1, .res (.ret (.sl 1 8 (names8.map D.s)))), (3, .val (.i .i64 ((v / 48 : Nat) : Int))), (5, .val (.i .i64 ((3 * i : Nat) : Int))), (6, .val (.i .i64 ((v / 48 + 3 * i : Nat) : Int))), (7, .val (.i .i64 (((v / 48 + 3 * i) % 8 : Nat) : Int))), (9, .cell (.s (names8[(v / 48 + 3 * i) % 8]'hn))), (11, .res (.ret (.ag (enc (obj (g (i + 1)))))))])] [(108, true)] dr40 rfl ?_ ?_
    · repeat' (first | exact AllP.n | exact trivial | exact DrawB.mk (by decide +kernel) | exact fun _ => rfl | refine AllP.c ?_ ?_)
      all_goals (try dsimp only)
      all_goals try first | exact rfl | exact ⟨trivial, rfl⟩ | exact ⟨trivial, bts_t rfl⟩ | omega | exact at_tr _ _ (by omega) | exact at_s _ _ (by omega) | exact dt (by omega) | exact df (by omega) | exact decide_eq_true (by omega) | exact decide_eq_false (by omega) | exact bts_t (by assumption) | exact bts_f (by assumption) | (rw [bts_t (by assumption)]; rfl) | (rw [bts_f (by assumption)]; rfl) | (unfold InR; omega) | exact hp | (refine ⟨by omega, ?_⟩; rw [List.length_cons]; omega) | exact ⟨by unfold InR; omega, rfl⟩ | (refine ⟨?_, ?_⟩; exact trivial; exact ei (remN v 12)) | (refine ⟨?_, ?_⟩ <;> first | omega | exact ei (quoN v 12 (by omega))) | exact ⟨by omega, ei (remN _ _)⟩ | exact ⟨by omega, ei (quoN _ _ (by omega))⟩ | exact ⟨by omega, (ei (remN _ _)).trans (ei (by rw [hc]))⟩ | (simp; done) | exact (by assumption : MP _ _ _ _) | (refine ⟨trivial, ?_, ?_⟩ <;> (try simp) <;> omega) | (refine ⟨by unfold InR; omega, ei ?_⟩; omega) | exact ⟨trivial, wk_objn⟩ | exact SameH.of (by repeat' (first | exact trivial | exact rfl | apply And.intro)) (by repeat' (first | exact trivial | exact rfl | apply And.intro)) | exact hsc | exact hns | exact names8_ct | (refine ⟨by omega, ?_⟩; omega)
    exact loopN (i + 1, g (i + 1), f (i + 1)) ⟨hi, rfl, rfl⟩ (by show v / 12 % 4 - (i + 1) < v / 12 % 4 - i; omega) fun a w s => s.ren hE [] (by repeat' (first | exact trivial | exact rfl | apply And.intro)) (by repeat' (first | exact trivial | exact rfl | apply And.intro)) rfl
  · obtain rfl : i = v / 12 % 4 := by omega
    refine H.go 200 [(33, [(2, .val (.i .i64 ((v / 12 : Nat) : Int))), (3, .val (.i .i64 ((v / 12 % 4 : Nat) : Int)))])] [(108, false)] dr40 rfl ?_ ?_
    · repeat' (first | exact AllP.n | exact trivial | exact DrawB.mk (by decide +kernel) | exact fun _ => rfl | refine AllP.c ?_ ?_)
      all_goals (try dsimp only)
      all_goals try first | exact rfl | exact ⟨trivial, rfl⟩ | exact ⟨trivial, bts_t rfl⟩ | omega | exact at_tr _ _ (by omega) | exact at_s _ _ (by omega) | exact dt (by omega) | exact df (by omega) | exact decide_eq_true (by omega) | exact decide_eq_false (by omega) | exact bts_t (by assumption) | exact bts_f (by assumption) | (rw [bts_t (by assumption)]; rfl) | (rw [bts_f (by assumption)]; rfl) | (unfold InR; omega) | exact hp | (refine ⟨by omega, ?_⟩; rw [List.length_cons]; omega) | exact ⟨by unfold InR; omega, rfl⟩ | (refine ⟨?_, ?_⟩; exact trivial; exact ei (remN v 12)) | (refine ⟨?_, ?_⟩ <;> first | omega | exact ei (quoN v 12 (by omega))) | exact ⟨by omega, ei (remN _ _)⟩ | exact ⟨by omega, ei (quoN _ _ (by omega))⟩ | exact ⟨by omega, (ei (remN _ _)).trans (ei (by rw [hc]))⟩ | (simp; done) | exact (by assumption : MP _ _ _ _) | (refine ⟨trivial, ?_, ?_⟩ <;> (try simp) <;> omega) | (refine ⟨by unfold InR; omega, ei ?_⟩; omega) | exact ⟨trivial, wk_objn⟩ | exact SameH.of (by repeat' (first | exact trivial | exact rfl | apply And.intro)) (by repeat' (first | exact trivial | exact rfl | apply And.intro))
    refine H.go 200 [] [] dr40 rfl ?_ ?_
    · repeat' (first | exact AllP.n | exact trivial | exact DrawB.mk (by decide +kernel) | exact fun _ => rfl | refine AllP.c ?_ ?_)
      all_goals (try dsimp only)
      all_goals try first | exact rfl | exact ⟨trivial, rfl⟩ | exact ⟨trivial, bts_t rfl⟩ | omega | exact at_tr _ _ (by omega) | exact at_s _ _ (by omega) | exact dt (by omega) | exact df (by omega) | exact decide_eq_true (by omega) | exact decide_eq_false (by omega) | exact bts_t (by assumption) | exact bts_f (by assumption) | (rw [bts_t (by assumption)]; rfl) | (rw [bts_f (by assumption)]; rfl) | (unfold InR; omega) | exact hp | (refine ⟨by omega, ?_⟩; rw [List.length_cons]; omega) | exact ⟨by unfold InR; omega, rfl⟩ | (refine ⟨?_, ?_⟩; exact trivial; exact ei (remN v 12)) | (refine ⟨?_, ?_⟩ <;> first | omega | exact ei (quoN v 12 (by omega))) | exact ⟨by omega, ei (remN _ _)⟩ | exact ⟨by omega, ei (quoN _ _ (by omega))⟩ | exact ⟨by omega, (ei (remN _ _)).trans (ei (by rw [hc]))⟩ | (simp; done) | exact (by assumption : MP _ _ _ _) | (refine ⟨trivial, ?_, ?_⟩ <;> (try simp) <;> omega) | (refine ⟨by unfold InR; omega, ei ?_⟩; omega) | exact ⟨trivial, wk_objn⟩ | exact SameH.of (by repeat' (first | exact trivial | exact rfl | apply And.intro)) (by repeat' (first | exact trivial | exact rfl | apply And.intro))
    refine ⟨_, _, rfl, ?_, ?_⟩
    · repeat' (first | exact AllP.n | exact trivial | exact DrawB.mk (by decide +kernel) | exact fun _ => rfl | refine AllP.c ?_ ?_)
      all_goals (try dsimp only)
      all_goals try first | exact rfl | exact ⟨trivial, rfl⟩ | exact ⟨trivial, bts_t rfl⟩ | omega | exact at_tr _ _ (by omega) | exact at_s _ _ (by omega) | exact dt (by omega) | exact df (by omega) | exact decide_eq_true (by omega) | exact decide_eq_false (by omega) | exact bts_t (by assumption) | exact bts_f (by assumption) | (rw [bts_t (by assumption)]; rfl) | (rw [bts_f (by assumption)]; rfl) | (unfold InR; omega) | (simp [Root.idle, mulN_eq, encs_len]; done)
    · exact .refl _
end Go.Px
end

section
namespace Go.Px
open Go.RowKit
theorem vcases (x : Int) : ∃ v : Nat, v < 1073741824 ∧ x % 1073741824 = v := ⟨(x % 1073741824).toNat, by omega, by omega⟩
theorem made_ok : ∀ (d : Nat), d ≤ 4 → ∀ l : List Int, l.length < 2^40 → ∃ t r, GT d t ∧ r.length ≤ l.length ∧ MP d l t r
  | 0, _, [], _ => ⟨tNull, [], leaf_GT lf_null, Nat.le_refl _, made_nil 0⟩
  | 0, _, x :: r, hl => by
    obtain ⟨v, hv, hx⟩ := vcases x
    have key : ∀ {P : Prop}, (∃ t, leaf t ∧ MP 0 (x :: r) t r) → ∃ t m, GT 0 t ∧ m.length ≤ (x :: r).length ∧ MP 0 (x :: r) t m := fun ⟨t, h1, h2⟩ => ⟨t, r, leaf_GT h1, by simp, h2⟩
    have h12 : v % 12 < 12 := Nat.mod_lt _ (by omega)
    match hc : v % 12, h12 with
    | 0, _ => exact key (P := True) (made_z0 x r v hv hx hc)
    | 1, _ => exact key (P := True) (made_z1 x r v hv hx hc)
    | 2, _ => exact key (P := True) (made_z2 x r v hv hx hc)
    | 3, _ => exact key (P := True) (made_z3 x r v hv hx hc)
    | 4, _ => exact key (P := True) (made_z4 x r v hv hx hc)
    | 5, _ => exact key (P := True) (made_z5 x r v hv hx hc)
    | 6, _ => exact key (P := True) (made_z6 x r v hv hx hc)
    | 7, _ => exact key (P := True) (made_z7 x r v hv hx hc)
    | 8, _ => exact key (P := True) (made_z8 x r v hv hx hc)
    | 9, _ => exact key (P := True) (made_z9 x r v hv hx hc)
    | 10, _ => exact key (P := True) (made_z10 x r v hv hx hc)
    | 11, _ => exact key (P := True) (made_z11 x r v hv hx hc)
  | d + 1, _, [], _ => ⟨tNull, [], leaf_GT lf_null, Nat.le_refl _, made_nil (d + 1)⟩
  | d + 1, hd, x :: r, hl => by
    obtain ⟨v, hv, hx⟩ := vcases x
    have hr : r.length < 2^40 := by simp only [List.length_cons] at hl; omega
    have ih := made_ok d (by omega)
    have key : (∃ t, leaf t ∧ MP (d + 1) (x :: r) t r) → ∃ t m, GT (d + 1) t ∧ m.length ≤ (x :: r).length ∧ MP (d + 1) (x :: r) t m := fun ⟨t, h1, h2⟩ => ⟨t, r, leaf_GT h1, by simp, h2⟩
    have key2 : (∃ t m, GT (d + 1) t ∧ m.length ≤ r.length ∧ MP (d + 1) (x :: r) t m) → ∃ t m, GT (d + 1) t ∧ m.length ≤ (x :: r).length ∧ MP (d + 1) (x :: r) t m := fun ⟨t, m, h1, h2, h3⟩ => ⟨t, m, h1, by simp only [List.length_cons]; omega, h3⟩
    have key3 : (∃ t m, GT (d + 1) t ∧ m.length ≤ r.length ∧ MP (d + 1) (x :: r) t m ∧ t.kind = 7) → ∃ t m, GT (d + 1) t ∧ m.length ≤ (x :: r).length ∧ MP (d + 1) (x :: r) t m := fun ⟨t, m, h1, h2, h3, _⟩ => ⟨t, m, h1, by simp only [List.length_cons]; omega, h3⟩
    have h12 : v % 12 < 12 := Nat.mod_lt _ (by omega)
    match hc : v % 12, h12 with
    | 0, _ => exact key (made_s0 d x r v hv hx hc hd)
    | 1, _ => exact key (made_s1 d x r v hv hx hc hd)
    | 2, _ => exact key (made_s2 d x r v hv hx hc hd)
    | 3, _ => exact key (made_s3 d x r v hv hx hc hd)
    | 4, _ => exact key (made_s4 d x r v hv hx hc hd)
    | 5, _ => exact key (made_s5 d x r v hv hx hc hd)
    | 6, _ => exact key2 (made_s6 d x r v hv hx hc hd hr ih)
    | 7, _ => exact key2 (made_s7 d x r v hv hx hc hd hr ih)
    | 8, _ => exact key2 (made_s8 d x r v hv hx hc hd hr ih)
    | 9, _ => exact key3 (made_s9 d x r v hv hx hc hd hr ih)
    | 10, _ => exact key3 (made_s10 d x r v hv hx hc hd hr ih)
    | 11, _ => exact key3 (made_s11 d x r v hv hx hc hd hr ih)
/-- erratumlaw00.Made. -/
theorem Made_of {d : Nat} {l : List Int} {t : Tr} {r : List Int} (h : MP d l t r) : Pure Go.Proofs.Tryz.prog 11 [.sl 1 l.length (l.map iD), .i .i64 d] (.ret (.ag (enc t))) := by
  unfold MP at h
  refine Pure.body tys_valid (fn := Go.Proofs.Tryz.f11) (by kernel_rfl) rfl (by kernel_rfl) rfl ?_
  intro w ok giv E0 _ hE
  refine H.go 200 [(1, [(2, .res (.ret (.tup [.ag (enc t), .sl 1 r.length (r.map iD)])))])] [] dr11 rfl ?_ ?_
  · repeat' (first | exact AllP.n | exact trivial | exact DrawB.mk (by decide +kernel) | exact fun _ => rfl | refine AllP.c ?_ ?_)
    all_goals (try dsimp only)
    all_goals try first | exact rfl | exact ⟨trivial, rfl⟩ | exact ⟨trivial, bts_t rfl⟩ | omega | exact at_tr _ _ (by omega) | exact at_s _ _ (by omega) | exact dt (by omega) | exact df (by omega) | exact decide_eq_true (by omega) | exact decide_eq_false (by omega) | exact bts_t (by assumption) | exact bts_f (by assumption) | (rw [bts_t (by assumption)]; rfl) | (rw [bts_f (by assumption)]; rfl) | (unfold InR; omega) | exact h
  refine ⟨_, _, rfl, ?_, ?_⟩
  · repeat' (first | exact AllP.n | exact trivial | exact DrawB.mk (by decide +kernel) | exact fun _ => rfl | refine AllP.c ?_ ?_)
    all_goals (try dsimp only)
    all_goals try first | exact rfl | exact ⟨trivial, rfl⟩ | exact ⟨trivial, bts_t rfl⟩ | omega | exact at_tr _ _ (by omega) | exact at_s _ _ (by omega) | exact dt (by omega) | exact df (by omega) | exact decide_eq_true (by omega) | exact decide_eq_false (by omega) | exact bts_t (by assumption) | exact bts_f (by assumption) | (rw [bts_t (by assumption)]; rfl) | (rw [bts_f (by assumption)]; rfl) | (unfold InR; omega)
  · exact .refl _
theorem Made_ok (d : Nat) (hd : d ≤ 4) (l : List Int) (hl : l.length < 2^40) : ∃ t, GT d t ∧ Pure Go.Proofs.Tryz.prog 11 [.sl 1 l.length (l.map iD), .i .i64 d] (.ret (.ag (enc t))) := by
  obtain ⟨t, r, h1, _, h3⟩ := made_ok d hd l hl
  exact ⟨t, h1, Made_of h3⟩
/-- Made of numbers that begin with 45: an object. -/
theorem Made_obj (d : Nat) (hd : d + 1 ≤ 4) (l : List Int) (hl : l.length < 2^39) : ∃ k, k.length ≤ 3 ∧ SL (k.map (·.1)) ∧ (∀ p ∈ k, GT d p.2) ∧ Pure Go.Proofs.Tryz.prog 11 [.sl 1 (l.length + 1) (iD 45 :: l.map iD), .i .i64 ((d + 1 : Nat) : Int)] (.ret (.ag (enc (obj k)))) := by
  obtain ⟨t, m, h1, _, h3, h4⟩ := made_s9 d 45 l 45 (by omega) (by decide) (by decide) hd (by omega) (made_ok d (by omega))
  have h5 := Made_of h3
  rcases h1 with h1 | ⟨v, rfl, _⟩ | ⟨k, rfl, hk, hs, hp⟩
  · exact absurd h4 h1.2.2
  · simp [Tr.kind] at h4
  · exact ⟨k, hk, hs, hp, h5⟩
end Go.Px
end

section
namespace Go.Px
open Go.RowKit

/-! ### Names of two objects -/
theorem mem_dd2 : ∀ {l : List ByteArray} {x : ByteArray}, x ∈ l → x ∈ dd l
  | [], x, h => h
  | [_], x, h => h
  | a :: b :: l, x, h => by
    simp only [dd]
    split
    · rename_i e
      rcases List.mem_cons.1 h with h | h
      · subst h; subst e; exact mem_dd2 (by simp)
      · exact mem_dd2 h
    · rcases List.mem_cons.1 h with h | h
      · subst h; exact List.mem_cons_self
      · exact List.mem_cons_of_mem _ (mem_dd2 h)
theorem dd_SL : ∀ {l : List ByteArray}, (l.map rk).Pairwise (· ≤ ·) → (∀ x ∈ l, x ∈ N8) → SL (dd l)
  | [], _, h => ⟨by simp [dd], fun x hx => by simp [dd] at hx⟩
  | [a], _, h => ⟨by simp [dd], fun x hx => by simp [dd] at hx; subst hx; exact h x (by simp)⟩
  | a :: b :: l, hp, h => by
    have hp2 := hp
    simp only [List.map_cons, List.pairwise_cons] at hp2
    have ih := dd_SL (l := b :: l) (by simp only [List.map_cons, List.pairwise_cons]; exact hp2.2) (fun x hx => h x (List.mem_cons_of_mem _ hx))
    simp only [dd]
    split
    · exact ih
    · rename_i hne
      refine ⟨?_, fun x hx => ?_⟩
      · simp only [List.map_cons, List.pairwise_cons]
        refine ⟨fun z hz => ?_, ih.1⟩
        obtain ⟨y, hy, rfl⟩ := List.mem_map.1 hz
        have hy := mem_dd hy
        have hab : rk a < rk b := by
          have h1 := hp2.1 (rk b) (by simp)
          have h2 : rk a ≠ rk b := fun e => hne (rk_inj a (h a (by simp)) b (h b (by simp)) e)
          omega
        rcases List.mem_cons.1 hy with e | hy
        · rw [e]; exact hab
        · have := hp2.2.1 (rk y) (List.mem_map.2 ⟨y, hy, rfl⟩)
          omega
      · rcases List.mem_cons.1 hx with e | hx
        · rw [e]; exact h a (by simp)
        · exact ih.2 x hx
theorem sortS_rk {l : List ByteArray} (h : ∀ x ∈ l, x ∈ N8) : ((sortS l).map rk).Pairwise (· ≤ ·) := by
  have hs : (sortL (l.map b2l)).Pairwise (fun x y => decide (x ≤ y) = true) := by
    unfold sortL
    refine List.pairwise_mergeSort (fun a b c h1 h2 => ?_) (fun a b => ?_) _
    · simp only [decide_eq_true_eq] at *
      exact List.le_trans h1 h2
    · simp only [Bool.or_eq_true, decide_eq_true_eq]
      exact List.le_total a b
  rw [List.pairwise_map]
  unfold sortS
  rw [List.pairwise_map]
  refine hs.imp_of_mem fun {x y} hx hy hxy => ?_
  have back : ∀ z ∈ sortL (l.map b2l), l2b z ∈ N8 ∧ b2l (l2b z) = z := fun z hz => by
    unfold sortL at hz
    rw [List.mem_mergeSort] at hz
    obtain ⟨u, hu, rfl⟩ := List.mem_map.1 hz
    rw [l2b_b2l]
    exact ⟨h u hu, rfl⟩
  obtain ⟨h1, h2⟩ := back x hx
  obtain ⟨h3, h4⟩ := back y hy
  have := rk_le _ h1 _ h3
  rw [h2, h4, hxy] at this
  simpa using this.symm
theorem nmS_SL {a b : List (ByteArray × Tr)} (ha : SL (a.map (·.1))) (hb : SL (b.map (·.1))) : SL (nmS (obj a) (obj b)) ∧ ∀ x, x ∈ nmS (obj a) (obj b) ↔ x ∈ a.map (·.1) ∨ x ∈ b.map (·.1) := by
  have hm : ∀ x ∈ (obj a).k ++ (obj b).k, x ∈ N8 := fun x hx => by
    rcases List.mem_append.1 hx with h | h
    · exact ha.2 x h
    · exact hb.2 x h
  refine ⟨dd_SL (sortS_rk hm) fun x hx => hm x (mem_sortS.1 hx), fun x => ?_⟩
  unfold nmS
  constructor
  · intro h
    exact List.mem_append.1 (mem_sortS.1 (mem_dd h))
  · intro h
    exact mem_dd2 (mem_sortS.2 (List.mem_append.2 h))
theorem N8_SL : SL N8 := ⟨by decide +kernel, fun _ h => h⟩
theorem SL.filter {l : List ByteArray} (h : SL l) (p : ByteArray → Bool) : SL (l.filter p) := by
  refine ⟨?_, fun x hx => h.2 x (List.mem_filter.1 hx).1⟩
  have := h.1
  rw [List.pairwise_map] at this ⊢
  exact this.filter p
noncomputable def dn8 (a b : Tr) : List ByteArray := N8.filter fun x => !alike a b x
theorem alike_none {a b : List (ByteArray × Tr)} {x : ByteArray} (h1 : x ∉ a.map (·.1)) (h2 : x ∉ b.map (·.1)) : alike (obj a) (obj b) x = true := by
  unfold alike
  rw [memb_obj, memb_obj]
  have e1 : look a x = none := by
    cases h : look a x with
    | none => rfl
    | some v => exact absurd (look_isSome.1 (by rw [h]; rfl)) h1
  have e2 : look b x = none := by
    cases h : look b x with
    | none => rfl
    | some v => exact absurd (look_isSome.1 (by rw [h]; rfl)) h2
  rw [e1, e2]
  simp
theorem objOf_obj (a : List (ByteArray × Tr)) : objOf (obj a) = obj a := by simp [objOf, obj, Tr.kind]
theorem dnames_eq {a b : List (ByteArray × Tr)} (ha : SL (a.map (·.1))) (hb : SL (b.map (·.1))) : dnames (obj a) (obj b) = dn8 (obj a) (obj b) := by
  unfold dnames dn8
  rw [objOf_obj]
  obtain ⟨h1, h2⟩ := nmS_SL ha hb
  refine (h1.filter _).eq (N8_SL.filter _) fun x => ?_
  rw [List.mem_filter, List.mem_filter]
  constructor
  · rintro ⟨h, h3⟩
    exact ⟨h1.2 x h, h3⟩
  · rintro ⟨h, h3⟩
    refine ⟨(h2 x).2 ?_, h3⟩
    by_cases e1 : x ∈ a.map (·.1)
    · exact .inl e1
    · by_cases e2 : x ∈ b.map (·.1)
      · exact .inr e2
      · rw [alike_none e1 e2] at h3; simp at h3
theorem alike_self (a : Tr) (x : ByteArray) : alike a a x = true := by simp [alike]
def badB (x : ByteArray) : Bool := (x.toList == (⟨#[]⟩ : ByteArray).toList) || (x.toList == (⟨#[120, 47, 121]⟩ : ByteArray).toList) || (x.toList == (⟨#[122, 126]⟩ : ByteArray).toList)
theorem nameB_N8 : ∀ x ∈ N8, nameB x = !badB x := by decide +kernel
theorem maskB_one {l : List ByteArray} (h : ∀ x ∈ l, x ∈ N8) (hl : l.length ≤ 60) : maskB (l.map fun x => [x]) = l.all fun x => !badB x := by
  unfold maskB
  rw [List.length_map, decide_eq_true hl, Bool.true_and, List.any_map]
  have : ∀ x ∈ l, (badP ∘ fun x => [x]) x = badB x := fun x hx => by
    simp only [Function.comp, badP, List.length_cons, List.length_nil, List.any_cons, List.any_nil, Bool.or_false, nameB_N8 x (h x hx), Bool.not_not]
    rfl
  rw [Bool.eq_iff_iff]
  simp only [Bool.not_eq_true', List.any_eq_false, List.all_eq_true]
  constructor
  · intro h2 x hx
    have h3 := h2 x hx
    rw [this x hx] at h3
    simpa using h3
  · intro h2 x hx
    rw [this x hx]
    simpa using h2 x hx
theorem masked_obj {a b : List (ByteArray × Tr)} (ha : SL (a.map (·.1))) (hb : SL (b.map (·.1))) :
    maskedS (obj a) (obj b) = (⟨3, [], obj (withV (obj b) (dn8 (obj a) (obj b))), (dn8 (obj a) (obj b)).map fun x => [x]⟩, (dn8 (obj a) (obj b)).all fun x => !badB x) := by
  have hN : ∀ x ∈ dn8 (obj a) (obj b), x ∈ N8 := fun x hx => (List.mem_filter.1 hx).1
  have hlen : (dn8 (obj a) (obj b)).length ≤ 60 := Nat.le_trans (List.length_filter_le _ _) (by decide)
  unfold maskedS
  by_cases he : obj a = obj b
  · have hd : dn8 (obj a) (obj b) = [] := by
      unfold dn8
      rw [List.filter_eq_nil_iff]
      intro x _
      rw [he, alike_self]; simp
    rw [if_pos he, hd]
    simp [withV]
  · rw [if_neg he, if_neg (by simp [obj, Tr.kind]), dnames_eq ha hb, maskB_one hN hlen]
end Go.Px
end

section
namespace Go.Px
open Go.RowKit
theorem sameStrs_ct (a b : List ByteArray) (hla : a.length < 2^40) (hlb : b.length < 2^40) : Pure Go.Proofs.Tryz.prog 35 [.sl 1 a.length (a.map D.s), .sl 1 b.length (b.map D.s)] (.ret (.b (decide (a = b)))) := by
  refine Pure.body tys_valid (fn := Go.Proofs.Tryz.f35) (by kernel_rfl) rfl (by kernel_rfl) rfl ?_
  intro w ok giv E0 _ hE
  by_cases hl : a.length = b.length
  · skip
    refine H.go 200 [] [(10, false)] dr35 rfl ?_ ?_
    · repeat' (first | exact AllP.n | exact trivial | exact DrawB.mk (by decide +kernel) | exact fun _ => rfl | refine AllP.c ?_ ?_)
      all_goals (try dsimp only)
      all_goals try first | exact rfl | exact ⟨trivial, rfl⟩ | exact ⟨trivial, bts_t rfl⟩ | omega | exact at_tr _ _ (by omega) | exact at_s _ _ (by omega) | exact dt (by omega) | exact df (by omega) | exact decide_eq_true (by omega) | exact decide_eq_false (by omega) | exact bts_t (by assumption) | exact bts_f (by assumption) | (rw [bts_t (by assumption)]; rfl) | (rw [bts_f (by assumption)]; rfl) | (unfold InR; omega) | (simp [hl]; done)
    refine H.loopI (fun i : Nat => i ≤ a.length ∧ a.take i = b.take i) (fun i => ⟨[(0, .sl 1 a.length (a.map D.s)), (1, .sl 1 b.length (b.map D.s)), (5, .i .i64 i)], [], 0⟩) (fun i => a.length - i) 0 ⟨Nat.zero_le _, by simp⟩ ?_ ?_
    · intro a w s
      exact s.ren hE [] (by repeat' (first | exact trivial | exact rfl | apply And.intro)) (by repeat' (first | exact trivial | exact rfl | apply And.intro)) rfl
    rintro i ⟨hi, ht⟩
    by_cases hlt : i < a.length
    · have hlt' : i < b.length := by omega
      by_cases he : a[i] = b[i]
      · skip
        refine H.go 200 [(6, [(3, .cell (.s a[i])), (7, .cell (.s b[i]))])] [(14, true), (25, false)] dr35 rfl ?_ ?_
        · repeat' (first | exact AllP.n | exact trivial | exact DrawB.mk (by decide +kernel) | exact fun _ => rfl | refine AllP.c ?_ ?_)
          all_goals (try dsimp only)
          all_goals try first | exact rfl | exact ⟨trivial, rfl⟩ | exact ⟨trivial, bts_t rfl⟩ | omega | exact at_tr _ _ (by omega) | exact at_s _ _ (by omega) | exact dt (by omega) | exact df (by omega) | exact decide_eq_true (by omega) | exact decide_eq_false (by omega) | exact bts_t (by assumption) | exact bts_f (by assumption) | (rw [bts_t (by assumption)]; rfl) | (rw [bts_f (by assumption)]; rfl) | (unfold InR; omega) | exact at_s a i hlt | exact at_s b i hlt' | (rw [bts_eq]; simp [he]; done)
        exact loopN (i + 1) ⟨by omega, by rw [List.take_succ_eq_append_getElem hlt, List.take_succ_eq_append_getElem hlt', ht, he]⟩ (by show a.length - (i + 1) < a.length - i; omega) fun a w s => s.ren hE [] (by repeat' (first | exact trivial | exact rfl | apply And.intro)) (by repeat' (first | exact trivial | exact rfl | apply And.intro)) rfl
      · have hne : a ≠ b := fun h => he (by subst h; rfl)
        refine H.go 200 [(6, [(3, .cell (.s a[i])), (7, .cell (.s b[i]))])] [(14, true), (25, true)] dr35 rfl ?_ ?_
        · repeat' (first | exact AllP.n | exact trivial | exact DrawB.mk (by decide +kernel) | exact fun _ => rfl | refine AllP.c ?_ ?_)
          all_goals (try dsimp only)
          all_goals try first | exact rfl | exact ⟨trivial, rfl⟩ | exact ⟨trivial, bts_t rfl⟩ | omega | exact at_tr _ _ (by omega) | exact at_s _ _ (by omega) | exact dt (by omega) | exact df (by omega) | exact decide_eq_true (by omega) | exact decide_eq_false (by omega) | exact bts_t (by assumption) | exact bts_f (by assumption) | (rw [bts_t (by assumption)]; rfl) | (rw [bts_f (by assumption)]; rfl) | (unfold InR; omega) | exact at_s a i hlt | exact at_s b i hlt' | (rw [bts_eq]; simp [he]; done)
        refine ⟨_, _, rfl, ?_, ?_⟩
        · repeat' (first | exact AllP.n | exact trivial | exact DrawB.mk (by decide +kernel) | exact fun _ => rfl | refine AllP.c ?_ ?_)
          all_goals (try dsimp only)
          all_goals try first | exact rfl | exact ⟨trivial, rfl⟩ | exact ⟨trivial, bts_t rfl⟩ | omega | exact at_tr _ _ (by omega) | exact at_s _ _ (by omega) | exact dt (by omega) | exact df (by omega) | exact decide_eq_true (by omega) | exact decide_eq_false (by omega) | exact bts_t (by assumption) | exact bts_f (by assumption) | (rw [bts_t (by assumption)]; rfl) | (rw [bts_f (by assumption)]; rfl) | (unfold InR; omega)
        · rw [decide_eq_false hne]; exact .refl _
    · have heq : a = b := by
        have e1 : i = a.length := by omega
        rw [e1, List.take_length, hl, List.take_length] at ht
        exact ht
      refine H.go 200 [] [(14, false)] dr35 rfl ?_ ?_
      · repeat' (first | exact AllP.n | exact trivial | exact DrawB.mk (by decide +kernel) | exact fun _ => rfl | refine AllP.c ?_ ?_)
        all_goals (try dsimp only)
        all_goals try first | exact rfl | exact ⟨trivial, rfl⟩ | exact ⟨trivial, bts_t rfl⟩ | omega | exact at_tr _ _ (by omega) | exact at_s _ _ (by omega) | exact dt (by omega) | exact df (by omega) | exact decide_eq_true (by omega) | exact decide_eq_false (by omega) | exact bts_t (by assumption) | exact bts_f (by assumption) | (rw [bts_t (by assumption)]; rfl) | (rw [bts_f (by assumption)]; rfl) | (unfold InR; omega)
      refine H.go 200 [] [] dr35 rfl ?_ ?_
      · repeat' (first | exact AllP.n | exact trivial | exact DrawB.mk (by decide +kernel) | exact fun _ => rfl | refine AllP.c ?_ ?_)
        all_goals (try dsimp only)
        all_goals try first | exact rfl | exact ⟨trivial, rfl⟩ | exact ⟨trivial, bts_t rfl⟩ | omega | exact at_tr _ _ (by omega) | exact at_s _ _ (by omega) | exact dt (by omega) | exact df (by omega) | exact decide_eq_true (by omega) | exact decide_eq_false (by omega) | exact bts_t (by assumption) | exact bts_f (by assumption) | (rw [bts_t (by assumption)]; rfl) | (rw [bts_f (by assumption)]; rfl) | (unfold InR; omega)
      refine ⟨_, _, rfl, ?_, ?_⟩
      · repeat' (first | exact AllP.n | exact trivial | exact DrawB.mk (by decide +kernel) | exact fun _ => rfl | refine AllP.c ?_ ?_)
        all_goals (try dsimp only)
        all_goals try first | exact rfl | exact ⟨trivial, rfl⟩ | exact ⟨trivial, bts_t rfl⟩ | omega | exact at_tr _ _ (by omega) | exact at_s _ _ (by omega) | exact dt (by omega) | exact df (by omega) | exact decide_eq_true (by omega) | exact decide_eq_false (by omega) | exact bts_t (by assumption) | exact bts_f (by assumption) | (rw [bts_t (by assumption)]; rfl) | (rw [bts_f (by assumption)]; rfl) | (unfold InR; omega)
      · rw [decide_eq_true heq]; exact .refl _
  · have hne : a ≠ b := fun h => hl (by rw [h])
    refine H.go 200 [] [(10, true)] dr35 rfl ?_ ?_
    · repeat' (first | exact AllP.n | exact trivial | exact DrawB.mk (by decide +kernel) | exact fun _ => rfl | refine AllP.c ?_ ?_)
      all_goals (try dsimp only)
      all_goals try first | exact rfl | exact ⟨trivial, rfl⟩ | exact ⟨trivial, bts_t rfl⟩ | omega | exact at_tr _ _ (by omega) | exact at_s _ _ (by omega) | exact dt (by omega) | exact df (by omega) | exact decide_eq_true (by omega) | exact decide_eq_false (by omega) | exact bts_t (by assumption) | exact bts_f (by assumption) | (rw [bts_t (by assumption)]; rfl) | (rw [bts_f (by assumption)]; rfl) | (unfold InR; omega) | (simp; omega)
    refine ⟨_, _, rfl, ?_, ?_⟩
    · repeat' (first | exact AllP.n | exact trivial | exact DrawB.mk (by decide +kernel) | exact fun _ => rfl | refine AllP.c ?_ ?_)
      all_goals (try dsimp only)
      all_goals try first | exact rfl | exact ⟨trivial, rfl⟩ | exact ⟨trivial, bts_t rfl⟩ | omega | exact at_tr _ _ (by omega) | exact at_s _ _ (by omega) | exact dt (by omega) | exact df (by omega) | exact decide_eq_true (by omega) | exact decide_eq_false (by omega) | exact bts_t (by assumption) | exact bts_f (by assumption) | (rw [bts_t (by assumption)]; rfl) | (rw [bts_f (by assumption)]; rfl) | (unfold InR; omega)
    · rw [decide_eq_false hne]; exact .refl _

/-- How many names differ among the first ones; is one of them none? -/
noncomputable def cnt (a b : Tr) (i : Nat) : Nat := ((N8.take i).filter fun x => !alike a b x).length
noncomputable def bads (a b : Tr) (i : Nat) : Bool := ((N8.take i).filter fun x => !alike a b x).any badB
theorem cnt_next {a b : Tr} {i : Nat} (hi : i < N8.length) : cnt a b (i + 1) = cnt a b i + (if alike a b N8[i] = true then 0 else 1) := by
  unfold cnt
  rw [List.take_succ_eq_append_getElem hi, List.filter_append, List.length_append]
  cases h : alike a b N8[i] <;> simp [h]
theorem bads_next {a b : Tr} {i : Nat} (hi : i < N8.length) : bads a b (i + 1) = (bads a b i || (!alike a b N8[i] && badB N8[i])) := by
  unfold bads
  rw [List.take_succ_eq_append_getElem hi, List.filter_append, List.any_append]
  cases h : alike a b N8[i] <;> simp [h]
theorem bads_all (a b : Tr) : bads a b 8 = !((dn8 a b).all fun x => !badB x) := by
  unfold bads dn8
  have : N8.take 8 = N8 := by decide +kernel
  rw [this, List.not_all_eq_any_not]
  simp
theorem cnt_all (a b : Tr) : cnt a b 8 = (dn8 a b).length := by
  unfold cnt dn8
  have : N8.take 8 = N8 := by decide +kernel
  rw [this]
theorem dn8_at {a b : Tr} {i : Nat} (hi : i < N8.length) (h : alike a b N8[i] = false) : ∃ hc : cnt a b i < (dn8 a b).length, (dn8 a b)[cnt a b i] = N8[i] := by
  have e : dn8 a b = ((N8.take i).filter fun x => !alike a b x) ++ (N8[i] :: ((N8.drop (i + 1)).filter fun x => !alike a b x)) := by
    unfold dn8
    conv => lhs; rw [← List.take_append_drop i N8, List.drop_eq_getElem_cons hi]
    rw [List.filter_append, List.filter_cons, if_pos (by simp [h])]
  have hl : cnt a b i < (dn8 a b).length := by
    rw [e, List.length_append]
    show ((N8.take i).filter fun x => !alike a b x).length < _
    simp
  refine ⟨hl, ?_⟩
  have : (dn8 a b)[cnt a b i]? = some N8[i] := by
    have hc : cnt a b i = ((N8.take i).filter fun x => !alike a b x).length := rfl
    rw [e, hc, List.getElem?_append_right (Nat.le_refl _)]
    simp
  rw [List.getElem?_eq_getElem hl] at this
  exact Option.some.inj this
theorem look_withV {b : List (ByteArray × Tr)} {l : List ByteArray} {x : ByteArray} (hx : x ∈ l) : look (withV (obj b) l) x = look b x := by
  induction l with
  | nil => simp at hx
  | cons y l ih =>
    unfold withV
    rw [List.filterMap_cons, memb_obj]
    by_cases e : y = x
    · subst e
      cases h : look b y with
      | none =>
        simp only [Option.map_none]
        by_cases hy : y ∈ l
        · rw [← h]; exact ih hy
        · have : look (withV (obj b) l) y = none := by
            cases h2 : look (withV (obj b) l) y with
            | none => rfl
            | some v =>
              exfalso
              have := look_some h2
              unfold withV at this
              obtain ⟨z, hz, he⟩ := List.mem_filterMap.1 this
              cases hm : memb (obj b) z with
              | none => rw [hm] at he; cases he
              | some u => rw [hm] at he; simp at he; rw [he.1] at hz; exact hy hz
          exact this
      | some v => simp [look]
    · have hx2 : x ∈ l := by
        rcases List.mem_cons.1 hx with h | h
        · exact absurd h.symm e
        · exact h
      cases h : look b y with
      | none => simp only [Option.map_none]; exact ih hx2
      | some v =>
        simp only [Option.map_some, look, e, if_false]
        exact ih hx2
end Go.Px
end

section
namespace Go.Px
open Go.RowKit

def MX2 (a b : List (ByteArray × Tr)) (P : Pch) (e : Int) : Nat × Bool × Nat → St
  | (i, bad, at_) => ⟨[(5, .oa 30 0), (6, .oa 31 0), (7, .oa 32 0), (8, .i .i64 e), (9, .b bad), (10, .i .i64 at_), (42, .sl 1 8 (N8.map D.s)), (43, .i .i64 8), (44, .i .i64 i)],
    [(30, ⟨30, 1, enc (obj a), 0, true, false, true⟩), (31, ⟨30, 1, enc (obj b), 0, true, false, true⟩), (32, ⟨48, 1, encP P, 0, true, false, true⟩)], 0⟩
theorem GTo {d : Nat} {k : List (ByteArray × Tr)} (h1 : k.length ≤ 3) (h2 : SL (k.map (·.1))) (h3 : ∀ p ∈ k, GT d p.2) : GT (d + 1) (obj k) := .inr (.inr ⟨k, rfl, h1, h2, h3⟩)
theorem OKT_of {d : Nat} {t : Tr} (h : GT d t) (hd : d ≤ 4) : OKT t := by
  obtain ⟨h1, h2, h3⟩ := h.spec
  have hn : nb d ≤ 121 := by
    rcases (by omega : d = 0 ∨ d = 1 ∨ d = 2 ∨ d = 3 ∨ d = 4) with rfl | rfl | rfl | rfl | rfl <;> decide
  exact ⟨h1, by omega, by omega⟩
set_option maxHeartbeats 4000000 in
set_option maxRecDepth 100000 in
theorem diffMasks_ct (l k : List Int) : Pure Go.Proofs.Tryz.prog 8 [.sl 1 l.length (l.map iD), .sl 1 k.length (k.map iD)] (.ret (.b true)) := by
  have haw := awake20_ct
  refine Pure.body tys_valid (fn := Go.Proofs.Tryz.f8) (by kernel_rfl) rfl (by kernel_rfl) rfl ?_
  intro w ok giv E0 _ hE
  by_cases hl40 : l.length > 40
  · skip
    refine H.go 200 [(1, [(2, .gd true)]), (2, [(0, .res (.ret (.b true)))])] [] dr8 rfl ?_ ?_
    · repeat' (first | exact AllP.n | exact trivial | exact DrawB.mk (by decide +kernel) | exact fun _ => rfl | refine AllP.c ?_ ?_)
      all_goals (try dsimp only)
      all_goals try first | exact rfl | exact ⟨trivial, rfl⟩ | exact ⟨trivial, bts_t rfl⟩ | omega | exact at_tr _ _ (by omega) | exact at_s _ _ (by omega) | exact dt (by omega) | exact df (by omega) | exact decide_eq_true (by omega) | exact decide_eq_false (by omega) | exact bts_t (by assumption) | exact bts_f (by assumption) | (rw [bts_t (by assumption)]; rfl) | (rw [bts_f (by assumption)]; rfl) | (unfold InR; omega) | exact haw
    refine ⟨_, _, rfl, ?_, ?_⟩
    · repeat' (first | exact AllP.n | exact trivial | exact DrawB.mk (by decide +kernel) | exact fun _ => rfl | refine AllP.c ?_ ?_)
      all_goals (try dsimp only)
      all_goals try first | exact rfl | exact ⟨trivial, rfl⟩ | exact ⟨trivial, bts_t rfl⟩ | omega | exact at_tr _ _ (by omega) | exact at_s _ _ (by omega) | exact dt (by omega) | exact df (by omega) | exact decide_eq_true (by omega) | exact decide_eq_false (by omega) | exact bts_t (by assumption) | exact bts_f (by assumption) | (rw [bts_t (by assumption)]; rfl) | (rw [bts_f (by assumption)]; rfl) | (unfold InR; omega)
    · exact .refl _
  by_cases hk40 : k.length > 40
  · skip
    refine H.go 200 [(1, [(2, .gd false), (6, .gd true)]), (2, [(0, .res (.ret (.b true)))])] [] dr8 rfl ?_ ?_
    · repeat' (first | exact AllP.n | exact trivial | exact DrawB.mk (by decide +kernel) | exact fun _ => rfl | refine AllP.c ?_ ?_)
      all_goals (try dsimp only)
      all_goals try first | exact rfl | exact ⟨trivial, rfl⟩ | exact ⟨trivial, bts_t rfl⟩ | omega | exact at_tr _ _ (by omega) | exact at_s _ _ (by omega) | exact dt (by omega) | exact df (by omega) | exact decide_eq_true (by omega) | exact decide_eq_false (by omega) | exact bts_t (by assumption) | exact bts_f (by assumption) | (rw [bts_t (by assumption)]; rfl) | (rw [bts_f (by assumption)]; rfl) | (unfold InR; omega) | exact haw
    refine ⟨_, _, rfl, ?_, ?_⟩
    · repeat' (first | exact AllP.n | exact trivial | exact DrawB.mk (by decide +kernel) | exact fun _ => rfl | refine AllP.c ?_ ?_)
      all_goals (try dsimp only)
      all_goals try first | exact rfl | exact ⟨trivial, rfl⟩ | exact ⟨trivial, bts_t rfl⟩ | omega | exact at_tr _ _ (by omega) | exact at_s _ _ (by omega) | exact dt (by omega) | exact df (by omega) | exact decide_eq_true (by omega) | exact decide_eq_false (by omega) | exact bts_t (by assumption) | exact bts_f (by assumption) | (rw [bts_t (by assumption)]; rfl) | (rw [bts_f (by assumption)]; rfl) | (unfold InR; omega)
    · exact .refl _
  have hl : l.length < 2^39 := by omega
  have hk : k.length < 2^39 := by omega
  obtain ⟨a, a1, a2, a3, hma⟩ := Made_obj 2 (by omega) l hl
  obtain ⟨b, b1, b2, b3, hmb⟩ := Made_obj 2 (by omega) k hk
  rw [Nat.add_comm l.length 1] at hma
  rw [Nat.add_comm k.length 1] at hmb
  have ga := GTo a1 a2 a3
  have gb := GTo b1 b2 b3
  have oa := OKT_of ga (by omega)
  have ob := OKT_of gb (by omega)
  have va := oa.1
  have vb := ob.1
  have hdf := diff3_ct (obj a) (obj b) 0 oa ob
  have hms := masked_obj a2 b2
  have hmem : ∀ (c : List (ByteArray × Tr)), c.length ≤ 3 → ∀ x, Pure Go.Proofs.Tryz.prog 32 [.ag (enc (obj c)), .s x] (.ret (.tup [.ag (enc ((memb (obj c) x).getD nul)), .b (memb (obj c) x).isSome])) := fun c hc x => rmember_ct (obj c) x (by rw [(obj_len c).1]; omega) (by rw [(obj_len c).2]; omega)
  have hrs : ∀ x, Pure Go.Proofs.Tryz.prog 18 [.ag (enc ((memb (obj a) x).getD nul)), .ag (enc ((memb (obj b) x).getD nul))] (.ret (.b (teq ((memb (obj a) x).getD nul) ((memb (obj b) x).getD nul)))) := fun x => rsame_ct _ _ (membD_VT va) (membD_VT vb)
  cases hG : (dn8 (obj a) (obj b)).all fun x => !badB x with
  | true =>
    have hd3 : diff3 (obj a) (obj b) = (⟨3, [], obj (withV (obj b) (dn8 (obj a) (obj b))), (dn8 (obj a) (obj b)).map fun x => [x]⟩, 0) := by unfold diff3; rw [hms, hG]; rfl
    rw [hd3] at hdf
    have hgood : ∀ x ∈ dn8 (obj a) (obj b), badB x = false := fun x hx => by have := List.all_eq_true.1 hG x hx; simpa using this
    refine H.go 200 [(1, [(2, .gd false), (6, .gd false)]), (3, [(0, .own), (3, .res (.ret (.ag (enc (obj a))))), (4, .own), (7, .res (.ret (.ag (enc (obj b)))))]), (4, [(2, .res (.ret (.tup [.ag (encP ⟨3, [], obj (withV (obj b) (dn8 (obj a) (obj b))), (dn8 (obj a) (obj b)).map fun x => [x]⟩), .i .i64 0])))])] [] dr8 rfl ?_ ?_
    · repeat' (first | exact AllP.n | exact trivial | exact DrawB.mk (by decide +kernel) | exact fun _ => rfl | refine AllP.c ?_ ?_)
      all_goals (try dsimp only)
      all_goals try first | exact rfl | exact ⟨trivial, rfl⟩ | exact ⟨trivial, bts_t rfl⟩ | omega | exact at_tr _ _ (by omega) | exact at_s _ _ (by omega) | exact dt (by omega) | exact df (by omega) | exact decide_eq_true (by omega) | exact decide_eq_false (by omega) | exact bts_t (by assumption) | exact bts_f (by assumption) | (rw [bts_t (by assumption)]; rfl) | (rw [bts_f (by assumption)]; rfl) | (unfold InR; omega) | (show (D.i .i64 45 :: l.map iD).length = 1 + l.length; simp; omega) | (show (D.i .i64 45 :: k.map iD).length = 1 + k.length; simp; omega) | (show (D.i .i64 45 :: l.map iD).length = mulN (1 + l.length) 1; rw [mulN_eq]; simp; omega) | (show (D.i .i64 45 :: k.map iD).length = mulN (1 + k.length) 1; rw [mulN_eq]; simp; omega) | exact hma | exact hmb | exact hdf | exact hx | exact ra | exact rb | exact rs | exact haw | (refine ⟨trivial, ?_⟩; simp [mulN_eq]; done) | (refine ⟨?_, ?_⟩ <;> (try simp) <;> omega) | (refine ⟨?_, ?_, ?_⟩ <;> (try simp) <;> omega) | (simp [mulN_eq]; omega) | (simp [mulN_eq]; done)
    refine H.loopI (fun y : Nat × Bool × Nat => y.1 ≤ 8 ∧ y.2.1 = false ∧ y.2.2 = cnt (obj a) (obj b) y.1) (MX2 a b ⟨3, [], obj (withV (obj b) (dn8 (obj a) (obj b))), (dn8 (obj a) (obj b)).map fun x => [x]⟩ 0) (fun y => 8 - y.1) (0, false, 0) ⟨by decide, rfl, rfl⟩ ?_ ?_
    · intro a w s
      exact s.ren hE [(30, 4), (31, 5), (32, 6)] (by repeat' (first | exact trivial | exact rfl | apply And.intro)) (by repeat' (first | exact trivial | exact rfl | apply And.intro)) rfl
    rintro ⟨i, bad, at_⟩ ⟨h1, h2, h3⟩
    simp only at h1 h2 h3
    by_cases hi : i < 8
    · have hi8 : i < N8.length := hi
      have hx := at_s N8 i hi8
      have ra := hmem a a1 N8[i]
      have rb := hmem b b1 N8[i]
      have rs := hrs N8[i]
      have hcn := cnt_next (a := obj a) (b := obj b) hi8
      have hbn := bads_next (a := obj a) (b := obj b) hi8
      cases hal : alike (obj a) (obj b) N8[i] with
      | true =>
        have hq : (memb (obj a) N8[i]).isSome = (memb (obj b) N8[i]).isSome := Classical.byContradiction fun h => by rw [alike_ne h] at hal; cases hal
        have hq2 : ((memb (obj a) N8[i]).isSome == (memb (obj b) N8[i]).isSome) = true := by rw [hq]; simp
        rw [← alike_eq hq, hal] at rs
        rw [hal] at hcn hbn
        refine H.go 200 [(8, [(1, .cell (.s N8[i]))]), (9, [(2, .res (.ret (.tup [.ag (enc ((memb (obj a) N8[i]).getD nul)), .b (memb (obj a) N8[i]).isSome])))]), (10, [(2, .res (.ret (.tup [.ag (enc ((memb (obj b) N8[i]).getD nul)), .b (memb (obj b) N8[i]).isSome])))]), (11, [(3, .gd true), (6, .res (.ret (.b true)))])] [(45, true), (67, true)] dr8 rfl ?_ ?_
        · repeat' (first | exact AllP.n | exact trivial | exact DrawB.mk (by decide +kernel) | exact fun _ => rfl | refine AllP.c ?_ ?_)
          all_goals (try dsimp only)
          all_goals try first | exact rfl | exact ⟨trivial, rfl⟩ | exact ⟨trivial, bts_t rfl⟩ | omega | exact at_tr _ _ (by omega) | exact at_s _ _ (by omega) | exact dt (by omega) | exact df (by omega) | exact decide_eq_true (by omega) | exact decide_eq_false (by omega) | exact bts_t (by assumption) | exact bts_f (by assumption) | (rw [bts_t (by assumption)]; rfl) | (rw [bts_f (by assumption)]; rfl) | (unfold InR; omega) | (show (D.i .i64 45 :: l.map iD).length = 1 + l.length; simp; omega) | (show (D.i .i64 45 :: k.map iD).length = 1 + k.length; simp; omega) | (show (D.i .i64 45 :: l.map iD).length = mulN (1 + l.length) 1; rw [mulN_eq]; simp; omega) | (show (D.i .i64 45 :: k.map iD).length = mulN (1 + k.length) 1; rw [mulN_eq]; simp; omega) | exact hma | exact hmb | exact hdf | exact hx | exact ra | exact rb | exact rs | exact haw | (refine ⟨trivial, ?_⟩; simp [mulN_eq]; done) | (refine ⟨?_, ?_⟩ <;> (try simp) <;> omega) | (refine ⟨?_, ?_, ?_⟩ <;> (try simp) <;> omega) | (simp [mulN_eq]; omega) | (simp [mulN_eq]; done) | exact ⟨trivial, hq2⟩
        exact loopN (i + 1, bad, at_) ⟨by simp only; omega, h2, by simp only; rw [hcn, h3]; rfl⟩ (by show 8 - (i + 1) < 8 - i; omega) fun a w s => s.ren hE [] (by repeat' (first | exact trivial | exact rfl | apply And.intro)) (by repeat' (first | exact trivial | exact rfl | apply And.intro)) rfl
      | false =>
        rw [hal] at hcn hbn
        obtain ⟨hc, hce⟩ := dn8_at hi8 hal
        have hmn : N8[i] ∈ dn8 (obj a) (obj b) := by rw [← hce]; exact List.getElem_mem _
        have hnb := hgood _ hmn
        unfold badB at hnb
        simp only [Bool.or_eq_false_iff] at hnb
        obtain ⟨⟨n1, n2⟩, n3⟩ := hnb
        have hpv : memb (obj (withV (obj b) (dn8 (obj a) (obj b)))) N8[i] = memb (obj b) N8[i] := by rw [memb_obj, memb_obj]; exact look_withV hmn
        have hwl : (withV (obj b) (dn8 (obj a) (obj b))).length ≤ 8 := Nat.le_trans (List.length_filterMap_le _ _) (Nat.le_trans (List.length_filter_le _ _) (by decide))
        have rp := rmember_ct (obj (withV (obj b) (dn8 (obj a) (obj b)))) N8[i] (by rw [(obj_len _).1]; omega) (by rw [(obj_len _).2]; omega)
        rw [hpv] at rp
        have rz := rsame_ct _ _ (membD_VT (x := N8[i]) vb) (membD_VT (x := N8[i]) vb)
        rw [teq_t rfl] at rz
        have rss := sameStrs_ct [N8[i]] [N8[i]] (by simp) (by simp)
        have hc8 : (dn8 (obj a) (obj b)).length ≤ 8 := Nat.le_trans (List.length_filter_le _ _) (by decide)
        rw [decide_eq_true rfl] at rss
        subst h2 h3
        have hcell : ((((dn8 (obj a) (obj b)).map fun x => [x]).map pth).drop (mulN ((cnt (obj a) (obj b) i : Nat) : Int).toNat 1))[0]? = some (pth [N8[i]]) := by
          have := at_p ((dn8 (obj a) (obj b)).map fun x => [x]) (cnt (obj a) (obj b) i) (by rw [List.length_map]; exact hc)
          rw [this, List.getElem_map, hce]
        by_cases hq : (memb (obj a) N8[i]).isSome = (memb (obj b) N8[i]).isSome
        · have hq2 : ((memb (obj a) N8[i]).isSome == (memb (obj b) N8[i]).isSome) = true := by rw [hq]; simp
          rw [← alike_eq hq, hal] at rs
          refine H.go 200 [(8, [(1, .cell (.s N8[i]))]), (9, [(2, .res (.ret (.tup [.ag (enc ((memb (obj a) N8[i]).getD nul)), .b (memb (obj a) N8[i]).isSome])))]), (10, [(2, .res (.ret (.tup [.ag (enc ((memb (obj b) N8[i]).getD nul)), .b (memb (obj b) N8[i]).isSome])))]), (11, [(3, .gd true), (6, .res (.ret (.b false)))]), (12, [(3, .gd false), (7, .gd false), (11, .gd false)]), (13, [(3, .gd false)]), (14, [(3, .res (.ret (.tup [.ag (enc ((memb (obj b) N8[i]).getD nul)), .b (memb (obj b) N8[i]).isSome])))]), (15, [(4, .gd false), (10, .cell (pth [N8[i]])), (13, .res (.ret (.b true))), (19, .gd false), (24, .res (.ret (.b true)))]), (17, [(1, .val (.i .i64 ((cnt (obj a) (obj b) i + 1 : Nat) : Int)))])] [(45, true), (67, false), (119, false)] dr8 rfl ?_ ?_
          · repeat' (first | exact AllP.n | exact trivial | exact DrawB.mk (by decide +kernel) | exact fun _ => rfl | refine AllP.c ?_ ?_)
            all_goals (try dsimp only)
            all_goals try first | exact rfl | exact ⟨trivial, rfl⟩ | exact ⟨trivial, bts_t rfl⟩ | omega | exact at_tr _ _ (by omega) | exact at_s _ _ (by omega) | exact dt (by omega) | exact df (by omega) | exact decide_eq_true (by omega) | exact decide_eq_false (by omega) | exact bts_t (by assumption) | exact bts_f (by assumption) | (rw [bts_t (by assumption)]; rfl) | (rw [bts_f (by assumption)]; rfl) | (unfold InR; omega) | (show (D.i .i64 45 :: l.map iD).length = 1 + l.length; simp; omega) | (show (D.i .i64 45 :: k.map iD).length = 1 + k.length; simp; omega) | (show (D.i .i64 45 :: l.map iD).length = mulN (1 + l.length) 1; rw [mulN_eq]; simp; omega) | (show (D.i .i64 45 :: k.map iD).length = mulN (1 + k.length) 1; rw [mulN_eq]; simp; omega) | exact hma | exact hmb | exact hdf | exact hx | exact ra | exact rb | exact rs | exact haw | (refine ⟨trivial, ?_⟩; simp [mulN_eq]; done) | (refine ⟨?_, ?_⟩ <;> (try simp) <;> omega) | (refine ⟨?_, ?_, ?_⟩ <;> (try simp) <;> omega) | (simp [mulN_eq]; omega) | (simp [mulN_eq]; done) | exact ⟨trivial, hq2⟩ | exact ⟨trivial, n1⟩ | exact ⟨trivial, n2⟩ | exact ⟨trivial, n3⟩ | exact rp | exact rz | exact rss | exact hcell | (refine ⟨trivial, decide_eq_false ?_⟩; simp only [List.length_map]; omega) | (refine ⟨by unfold InR; omega, ei ?_⟩; omega) | (simp only [List.length_map]; omega) | (refine ⟨trivial, ?_⟩; simp; done)
          exact loopN (i + 1, false, cnt (obj a) (obj b) i + 1) ⟨by simp only; omega, rfl, by simp only; rw [hcn]; rfl⟩ (by show 8 - (i + 1) < 8 - i; omega) fun a w s => s.ren hE [] (by repeat' (first | exact trivial | exact rfl | apply And.intro)) (by repeat' (first | exact trivial | exact rfl | apply And.intro)) rfl
        · have hq2 : ((memb (obj a) N8[i]).isSome == (memb (obj b) N8[i]).isSome) = false := beq_false_of_ne hq
          refine H.go 200 [(8, [(1, .cell (.s N8[i]))]), (9, [(2, .res (.ret (.tup [.ag (enc ((memb (obj a) N8[i]).getD nul)), .b (memb (obj a) N8[i]).isSome])))]), (10, [(2, .res (.ret (.tup [.ag (enc ((memb (obj b) N8[i]).getD nul)), .b (memb (obj b) N8[i]).isSome])))]), (11, [(3, .gd false)]), (12, [(3, .gd false), (7, .gd false), (11, .gd false)]), (13, [(3, .gd false)]), (14, [(3, .res (.ret (.tup [.ag (enc ((memb (obj b) N8[i]).getD nul)), .b (memb (obj b) N8[i]).isSome])))]), (15, [(4, .gd false), (10, .cell (pth [N8[i]])), (13, .res (.ret (.b true))), (19, .gd false), (24, .res (.ret (.b true)))]), (17, [(1, .val (.i .i64 ((cnt (obj a) (obj b) i + 1 : Nat) : Int)))])] [(45, true), (67, false), (119, false)] dr8 rfl ?_ ?_
          · repeat' (first | exact AllP.n | exact trivial | exact DrawB.mk (by decide +kernel) | exact fun _ => rfl | refine AllP.c ?_ ?_)
            all_goals (try dsimp only)
            all_goals try first | exact rfl | exact ⟨trivial, rfl⟩ | exact ⟨trivial, bts_t rfl⟩ | omega | exact at_tr _ _ (by omega) | exact at_s _ _ (by omega) | exact dt (by omega) | exact df (by omega) | exact decide_eq_true (by omega) | exact decide_eq_false (by omega) | exact bts_t (by assumption) | exact bts_f (by assumption) | (rw [bts_t (by assumption)]; rfl) | (rw [bts_f (by assumption)]; rfl) | (unfold InR; omega) | (show (D.i .i64 45 :: l.map iD).length = 1 + l.length; simp; omega) | (show (D.i .i64 45 :: k.map iD).length = 1 + k.length; simp; omega) | (show (D.i .i64 45 :: l.map iD).length = mulN (1 + l.length) 1; rw [mulN_eq]; simp; omega) | (show (D.i .i64 45 :: k.map iD).length = mulN (1 + k.length) 1; rw [mulN_eq]; simp; omega) | exact hma | exact hmb | exact hdf | exact hx | exact ra | exact rb | exact rs | exact haw | (refine ⟨trivial, ?_⟩; simp [mulN_eq]; done) | (refine ⟨?_, ?_⟩ <;> (try simp) <;> omega) | (refine ⟨?_, ?_, ?_⟩ <;> (try simp) <;> omega) | (simp [mulN_eq]; omega) | (simp [mulN_eq]; done) | exact ⟨trivial, hq2⟩ | exact ⟨trivial, n1⟩ | exact ⟨trivial, n2⟩ | exact ⟨trivial, n3⟩ | exact rp | exact rz | exact rss | exact hcell | (refine ⟨trivial, decide_eq_false ?_⟩; simp only [List.length_map]; omega) | (refine ⟨by unfold InR; omega, ei ?_⟩; omega) | (simp only [List.length_map]; omega) | (refine ⟨trivial, ?_⟩; simp; done)
          exact loopN (i + 1, false, cnt (obj a) (obj b) i + 1) ⟨by simp only; omega, rfl, by simp only; rw [hcn]; rfl⟩ (by show 8 - (i + 1) < 8 - i; omega) fun a w s => s.ren hE [] (by repeat' (first | exact trivial | exact rfl | apply And.intro)) (by repeat' (first | exact trivial | exact rfl | apply And.intro)) rfl
    · obtain rfl : i = 8 := by omega
      subst h2 h3
      have hca := cnt_all (obj a) (obj b)
      rw [hca]
      refine H.go 200 [] [(45, false)] dr8 rfl ?_ ?_
      · repeat' (first | exact AllP.n | exact trivial | exact DrawB.mk (by decide +kernel) | exact fun _ => rfl | refine AllP.c ?_ ?_)
        all_goals (try dsimp only)
        all_goals try first | exact rfl | exact ⟨trivial, rfl⟩ | exact ⟨trivial, bts_t rfl⟩ | omega | exact at_tr _ _ (by omega) | exact at_s _ _ (by omega) | exact dt (by omega) | exact df (by omega) | exact decide_eq_true (by omega) | exact decide_eq_false (by omega) | exact bts_t (by assumption) | exact bts_f (by assumption) | (rw [bts_t (by assumption)]; rfl) | (rw [bts_f (by assumption)]; rfl) | (unfold InR; omega) | (show (D.i .i64 45 :: l.map iD).length = 1 + l.length; simp; omega) | (show (D.i .i64 45 :: k.map iD).length = 1 + k.length; simp; omega) | (show (D.i .i64 45 :: l.map iD).length = mulN (1 + l.length) 1; rw [mulN_eq]; simp; omega) | (show (D.i .i64 45 :: k.map iD).length = mulN (1 + k.length) 1; rw [mulN_eq]; simp; omega) | exact hma | exact hmb | exact hdf | exact hx | exact ra | exact rb | exact rs | exact haw | (refine ⟨trivial, ?_⟩; simp [mulN_eq]; done) | (refine ⟨?_, ?_⟩ <;> (try simp) <;> omega) | (refine ⟨?_, ?_, ?_⟩ <;> (try simp) <;> omega) | (simp [mulN_eq]; omega) | (simp [mulN_eq]; done)
      refine H.go 200 [(21, [(1, .gd true), (7, .gd true), (10, .res (.ret (.b true)))])] [] dr8 rfl ?_ ?_
      · repeat' (first | exact AllP.n | exact trivial | exact DrawB.mk (by decide +kernel) | exact fun _ => rfl | refine AllP.c ?_ ?_)
        all_goals (try dsimp only)
        all_goals try first | exact rfl | exact ⟨trivial, rfl⟩ | exact ⟨trivial, bts_t rfl⟩ | omega | exact at_tr _ _ (by omega) | exact at_s _ _ (by omega) | exact dt (by omega) | exact df (by omega) | exact decide_eq_true (by omega) | exact decide_eq_false (by omega) | exact bts_t (by assumption) | exact bts_f (by assumption) | (rw [bts_t (by assumption)]; rfl) | (rw [bts_f (by assumption)]; rfl) | (unfold InR; omega) | (show (D.i .i64 45 :: l.map iD).length = 1 + l.length; simp; omega) | (show (D.i .i64 45 :: k.map iD).length = 1 + k.length; simp; omega) | (show (D.i .i64 45 :: l.map iD).length = mulN (1 + l.length) 1; rw [mulN_eq]; simp; omega) | (show (D.i .i64 45 :: k.map iD).length = mulN (1 + k.length) 1; rw [mulN_eq]; simp; omega) | exact hma | exact hmb | exact hdf | exact hx | exact ra | exact rb | exact rs | exact haw | (refine ⟨trivial, ?_⟩; simp [mulN_eq]; done) | (refine ⟨?_, ?_⟩ <;> (try simp) <;> omega) | (refine ⟨?_, ?_, ?_⟩ <;> (try simp) <;> omega) | (simp [mulN_eq]; omega) | (simp [mulN_eq]; done)
      refine ⟨_, _, rfl, ?_, ?_⟩
      · repeat' (first | exact AllP.n | exact trivial | exact DrawB.mk (by decide +kernel) | exact fun _ => rfl | refine AllP.c ?_ ?_)
        all_goals (try dsimp only)
        all_goals try first | exact rfl | exact ⟨trivial, rfl⟩ | exact ⟨trivial, bts_t rfl⟩ | omega | exact at_tr _ _ (by omega) | exact at_s _ _ (by omega) | exact dt (by omega) | exact df (by omega) | exact decide_eq_true (by omega) | exact decide_eq_false (by omega) | exact bts_t (by assumption) | exact bts_f (by assumption) | (rw [bts_t (by assumption)]; rfl) | (rw [bts_f (by assumption)]; rfl) | (unfold InR; omega)
      · exact .refl _
  | false =>
    have hd3 : diff3 (obj a) (obj b) = (pch0, 7) := by unfold diff3; rw [hms, hG]; rfl
    rw [hd3] at hdf
    refine H.go 200 [(1, [(2, .gd false), (6, .gd false)]), (3, [(0, .own), (3, .res (.ret (.ag (enc (obj a))))), (4, .own), (7, .res (.ret (.ag (enc (obj b)))))]), (4, [(2, .res (.ret (.tup [.ag (encP pch0), .i .i64 7])))])] [] dr8 rfl ?_ ?_
    · repeat' (first | exact AllP.n | exact trivial | exact DrawB.mk (by decide +kernel) | exact fun _ => rfl | refine AllP.c ?_ ?_)
      all_goals (try dsimp only)
      all_goals try first | exact rfl | exact ⟨trivial, rfl⟩ | exact ⟨trivial, bts_t rfl⟩ | omega | exact at_tr _ _ (by omega) | exact at_s _ _ (by omega) | exact dt (by omega) | exact df (by omega) | exact decide_eq_true (by omega) | exact decide_eq_false (by omega) | exact bts_t (by assumption) | exact bts_f (by assumption) | (rw [bts_t (by assumption)]; rfl) | (rw [bts_f (by assumption)]; rfl) | (unfold InR; omega) | (show (D.i .i64 45 :: l.map iD).length = 1 + l.length; simp; omega) | (show (D.i .i64 45 :: k.map iD).length = 1 + k.length; simp; omega) | (show (D.i .i64 45 :: l.map iD).length = mulN (1 + l.length) 1; rw [mulN_eq]; simp; omega) | (show (D.i .i64 45 :: k.map iD).length = mulN (1 + k.length) 1; rw [mulN_eq]; simp; omega) | exact hma | exact hmb | exact hdf | exact hx | exact ra | exact rb | exact rs | exact haw | (refine ⟨trivial, ?_⟩; simp [mulN_eq]; done) | (refine ⟨?_, ?_⟩ <;> (try simp) <;> omega) | (refine ⟨?_, ?_, ?_⟩ <;> (try simp) <;> omega) | (simp [mulN_eq]; omega) | (simp [mulN_eq]; done)
    refine H.loopI (fun y : Nat × Bool × Nat => y.1 ≤ 8 ∧ y.2.1 = bads (obj a) (obj b) y.1 ∧ y.2.2 = 0) (MX2 a b pch0 7) (fun y => 8 - y.1) (0, false, 0) ⟨by decide, rfl, rfl⟩ ?_ ?_
    · intro a w s
      exact s.ren hE [(30, 4), (31, 5), (32, 6)] (by repeat' (first | exact trivial | exact rfl | apply And.intro)) (by repeat' (first | exact trivial | exact rfl | apply And.intro)) rfl
    rintro ⟨i, bad, at_⟩ ⟨h1, h2, h3⟩
    simp only at h1 h2 h3
    by_cases hi : i < 8
    · have hi8 : i < N8.length := hi
      have hx := at_s N8 i hi8
      have ra := hmem a a1 N8[i]
      have rb := hmem b b1 N8[i]
      have rs := hrs N8[i]
      have hcn := cnt_next (a := obj a) (b := obj b) hi8
      have hbn := bads_next (a := obj a) (b := obj b) hi8
      cases hal : alike (obj a) (obj b) N8[i] with
      | true =>
        have hq : (memb (obj a) N8[i]).isSome = (memb (obj b) N8[i]).isSome := Classical.byContradiction fun h => by rw [alike_ne h] at hal; cases hal
        have hq2 : ((memb (obj a) N8[i]).isSome == (memb (obj b) N8[i]).isSome) = true := by rw [hq]; simp
        rw [← alike_eq hq, hal] at rs
        rw [hal] at hcn hbn
        refine H.go 200 [(8, [(1, .cell (.s N8[i]))]), (9, [(2, .res (.ret (.tup [.ag (enc ((memb (obj a) N8[i]).getD nul)), .b (memb (obj a) N8[i]).isSome])))]), (10, [(2, .res (.ret (.tup [.ag (enc ((memb (obj b) N8[i]).getD nul)), .b (memb (obj b) N8[i]).isSome])))]), (11, [(3, .gd true), (6, .res (.ret (.b true)))])] [(45, true), (67, true)] dr8 rfl ?_ ?_
        · repeat' (first | exact AllP.n | exact trivial | exact DrawB.mk (by decide +kernel) | exact fun _ => rfl | refine AllP.c ?_ ?_)
          all_goals (try dsimp only)
          all_goals try first | exact rfl | exact ⟨trivial, rfl⟩ | exact ⟨trivial, bts_t rfl⟩ | omega | exact at_tr _ _ (by omega) | exact at_s _ _ (by omega) | exact dt (by omega) | exact df (by omega) | exact decide_eq_true (by omega) | exact decide_eq_false (by omega) | exact bts_t (by assumption) | exact bts_f (by assumption) | (rw [bts_t (by assumption)]; rfl) | (rw [bts_f (by assumption)]; rfl) | (unfold InR; omega) | (show (D.i .i64 45 :: l.map iD).length = 1 + l.length; simp; omega) | (show (D.i .i64 45 :: k.map iD).length = 1 + k.length; simp; omega) | (show (D.i .i64 45 :: l.map iD).length = mulN (1 + l.length) 1; rw [mulN_eq]; simp; omega) | (show (D.i .i64 45 :: k.map iD).length = mulN (1 + k.length) 1; rw [mulN_eq]; simp; omega) | exact hma | exact hmb | exact hdf | exact hx | exact ra | exact rb | exact rs | exact haw | (refine ⟨trivial, ?_⟩; simp [mulN_eq]; done) | (refine ⟨?_, ?_⟩ <;> (try simp) <;> omega) | (refine ⟨?_, ?_, ?_⟩ <;> (try simp) <;> omega) | (simp [mulN_eq]; omega) | (simp [mulN_eq]; done) | exact ⟨trivial, hq2⟩
        exact loopN (i + 1, bad, at_) ⟨by simp only; omega, by simp only; rw [hbn, h2]; simp, h3⟩ (by show 8 - (i + 1) < 8 - i; omega) fun a w s => s.ren hE [] (by repeat' (first | exact trivial | exact rfl | apply And.intro)) (by repeat' (first | exact trivial | exact rfl | apply And.intro)) rfl
      | false =>
        rw [hal] at hcn hbn
        subst h3
        by_cases hq : (memb (obj a) N8[i]).isSome = (memb (obj b) N8[i]).isSome
        · have hq2 : ((memb (obj a) N8[i]).isSome == (memb (obj b) N8[i]).isSome) = true := by rw [hq]; simp
          rw [← alike_eq hq, hal] at rs
          cases hb0 : bads (obj a) (obj b) i with
          | true =>
            rw [hb0] at h2 hbn
            subst h2
            refine H.go 200 [(8, [(1, .cell (.s N8[i]))]), (9, [(2, .res (.ret (.tup [.ag (enc ((memb (obj a) N8[i]).getD nul)), .b (memb (obj a) N8[i]).isSome])))]), (10, [(2, .res (.ret (.tup [.ag (enc ((memb (obj b) N8[i]).getD nul)), .b (memb (obj b) N8[i]).isSome])))]), (11, [(3, .gd true), (6, .res (.ret (.b false)))])] [(45, true), (67, false)] dr8 rfl ?_ ?_
            · repeat' (first | exact AllP.n | exact trivial | exact DrawB.mk (by decide +kernel) | exact fun _ => rfl | refine AllP.c ?_ ?_)
              all_goals (try dsimp only)
              all_goals try first | exact rfl | exact ⟨trivial, rfl⟩ | exact ⟨trivial, bts_t rfl⟩ | omega | exact at_tr _ _ (by omega) | exact at_s _ _ (by omega) | exact dt (by omega) | exact df (by omega) | exact decide_eq_true (by omega) | exact decide_eq_false (by omega) | exact bts_t (by assumption) | exact bts_f (by assumption) | (rw [bts_t (by assumption)]; rfl) | (rw [bts_f (by assumption)]; rfl) | (unfold InR; omega) | (show (D.i .i64 45 :: l.map iD).length = 1 + l.length; simp; omega) | (show (D.i .i64 45 :: k.map iD).length = 1 + k.length; simp; omega) | (show (D.i .i64 45 :: l.map iD).length = mulN (1 + l.length) 1; rw [mulN_eq]; simp; omega) | (show (D.i .i64 45 :: k.map iD).length = mulN (1 + k.length) 1; rw [mulN_eq]; simp; omega) | exact hma | exact hmb | exact hdf | exact hx | exact ra | exact rb | exact rs | exact haw | (refine ⟨trivial, ?_⟩; simp [mulN_eq]; done) | (refine ⟨?_, ?_⟩ <;> (try simp) <;> omega) | (refine ⟨?_, ?_, ?_⟩ <;> (try simp) <;> omega) | (simp [mulN_eq]; omega) | (simp [mulN_eq]; done) | exact ⟨trivial, hq2⟩ | exact ⟨trivial, e1⟩ | exact ⟨trivial, e2⟩ | exact ⟨trivial, e3⟩
            exact loopN (i + 1, true, 0) ⟨by simp only; omega, by simp only; rw [hbn]; rfl, rfl⟩ (by show 8 - (i + 1) < 8 - i; omega) fun a w s => s.ren hE [] (by repeat' (first | exact trivial | exact rfl | apply And.intro)) (by repeat' (first | exact trivial | exact rfl | apply And.intro)) rfl
          | false =>
            rw [hb0] at h2 hbn
            subst h2
            cases e1 : (N8[i].toList == (⟨#[]⟩ : ByteArray).toList) with
            | true =>
              have hbb : badB N8[i] = true := by unfold badB; simp only [e1, Bool.true_or, Bool.false_or]
              rw [hbb] at hbn
              refine H.go 200 [(8, [(1, .cell (.s N8[i]))]), (9, [(2, .res (.ret (.tup [.ag (enc ((memb (obj a) N8[i]).getD nul)), .b (memb (obj a) N8[i]).isSome])))]), (10, [(2, .res (.ret (.tup [.ag (enc ((memb (obj b) N8[i]).getD nul)), .b (memb (obj b) N8[i]).isSome])))]), (11, [(3, .gd true), (6, .res (.ret (.b false)))]), (12, [(3, .gd true)])] [(45, true), (67, false)] dr8 rfl ?_ ?_
              · repeat' (first | exact AllP.n | exact trivial | exact DrawB.mk (by decide +kernel) | exact fun _ => rfl | refine AllP.c ?_ ?_)
                all_goals (try dsimp only)
                all_goals try first | exact rfl | exact ⟨trivial, rfl⟩ | exact ⟨trivial, bts_t rfl⟩ | omega | exact at_tr _ _ (by omega) | exact at_s _ _ (by omega) | exact dt (by omega) | exact df (by omega) | exact decide_eq_true (by omega) | exact decide_eq_false (by omega) | exact bts_t (by assumption) | exact bts_f (by assumption) | (rw [bts_t (by assumption)]; rfl) | (rw [bts_f (by assumption)]; rfl) | (unfold InR; omega) | (show (D.i .i64 45 :: l.map iD).length = 1 + l.length; simp; omega) | (show (D.i .i64 45 :: k.map iD).length = 1 + k.length; simp; omega) | (show (D.i .i64 45 :: l.map iD).length = mulN (1 + l.length) 1; rw [mulN_eq]; simp; omega) | (show (D.i .i64 45 :: k.map iD).length = mulN (1 + k.length) 1; rw [mulN_eq]; simp; omega) | exact hma | exact hmb | exact hdf | exact hx | exact ra | exact rb | exact rs | exact haw | (refine ⟨trivial, ?_⟩; simp [mulN_eq]; done) | (refine ⟨?_, ?_⟩ <;> (try simp) <;> omega) | (refine ⟨?_, ?_, ?_⟩ <;> (try simp) <;> omega) | (simp [mulN_eq]; omega) | (simp [mulN_eq]; done) | exact ⟨trivial, hq2⟩ | exact ⟨trivial, e1⟩ | exact ⟨trivial, e2⟩ | exact ⟨trivial, e3⟩
              exact loopN (i + 1, true, 0) ⟨by simp only; omega, by simp only; rw [hbn]; rfl, rfl⟩ (by show 8 - (i + 1) < 8 - i; omega) fun a w s => s.ren hE [] (by repeat' (first | exact trivial | exact rfl | apply And.intro)) (by repeat' (first | exact trivial | exact rfl | apply And.intro)) rfl
            | false =>
              cases e2 : (N8[i].toList == (⟨#[120, 47, 121]⟩ : ByteArray).toList) with
              | true =>
                have hbb : badB N8[i] = true := by unfold badB; simp only [e1, e2, Bool.true_or, Bool.false_or]
                rw [hbb] at hbn
                refine H.go 200 [(8, [(1, .cell (.s N8[i]))]), (9, [(2, .res (.ret (.tup [.ag (enc ((memb (obj a) N8[i]).getD nul)), .b (memb (obj a) N8[i]).isSome])))]), (10, [(2, .res (.ret (.tup [.ag (enc ((memb (obj b) N8[i]).getD nul)), .b (memb (obj b) N8[i]).isSome])))]), (11, [(3, .gd true), (6, .res (.ret (.b false)))]), (12, [(3, .gd false), (7, .gd true)])] [(45, true), (67, false)] dr8 rfl ?_ ?_
                · repeat' (first | exact AllP.n | exact trivial | exact DrawB.mk (by decide +kernel) | exact fun _ => rfl | refine AllP.c ?_ ?_)
                  all_goals (try dsimp only)
                  all_goals try first | exact rfl | exact ⟨trivial, rfl⟩ | exact ⟨trivial, bts_t rfl⟩ | omega | exact at_tr _ _ (by omega) | exact at_s _ _ (by omega) | exact dt (by omega) | exact df (by omega) | exact decide_eq_true (by omega) | exact decide_eq_false (by omega) | exact bts_t (by assumption) | exact bts_f (by assumption) | (rw [bts_t (by assumption)]; rfl) | (rw [bts_f (by assumption)]; rfl) | (unfold InR; omega) | (show (D.i .i64 45 :: l.map iD).length = 1 + l.length; simp; omega) | (show (D.i .i64 45 :: k.map iD).length = 1 + k.length; simp; omega) | (show (D.i .i64 45 :: l.map iD).length = mulN (1 + l.length) 1; rw [mulN_eq]; simp; omega) | (show (D.i .i64 45 :: k.map iD).length = mulN (1 + k.length) 1; rw [mulN_eq]; simp; omega) | exact hma | exact hmb | exact hdf | exact hx | exact ra | exact rb | exact rs | exact haw | (refine ⟨trivial, ?_⟩; simp [mulN_eq]; done) | (refine ⟨?_, ?_⟩ <;> (try simp) <;> omega) | (refine ⟨?_, ?_, ?_⟩ <;> (try simp) <;> omega) | (simp [mulN_eq]; omega) | (simp [mulN_eq]; done) | exact ⟨trivial, hq2⟩ | exact ⟨trivial, e1⟩ | exact ⟨trivial, e2⟩ | exact ⟨trivial, e3⟩
                exact loopN (i + 1, true, 0) ⟨by simp only; omega, by simp only; rw [hbn]; rfl, rfl⟩ (by show 8 - (i + 1) < 8 - i; omega) fun a w s => s.ren hE [] (by repeat' (first | exact trivial | exact rfl | apply And.intro)) (by repeat' (first | exact trivial | exact rfl | apply And.intro)) rfl
              | false =>
                cases e3 : (N8[i].toList == (⟨#[122, 126]⟩ : ByteArray).toList) with
                | true =>
                  have hbb : badB N8[i] = true := by unfold badB; simp only [e1, e2, e3, Bool.true_or, Bool.false_or]
                  rw [hbb] at hbn
                  refine H.go 200 [(8, [(1, .cell (.s N8[i]))]), (9, [(2, .res (.ret (.tup [.ag (enc ((memb (obj a) N8[i]).getD nul)), .b (memb (obj a) N8[i]).isSome])))]), (10, [(2, .res (.ret (.tup [.ag (enc ((memb (obj b) N8[i]).getD nul)), .b (memb (obj b) N8[i]).isSome])))]), (11, [(3, .gd true), (6, .res (.ret (.b false)))]), (12, [(3, .gd false), (7, .gd false), (11, .gd true)])] [(45, true), (67, false)] dr8 rfl ?_ ?_
                  · repeat' (first | exact AllP.n | exact trivial | exact DrawB.mk (by decide +kernel) | exact fun _ => rfl | refine AllP.c ?_ ?_)
                    all_goals (try dsimp only)
                    all_goals try first | exact rfl | exact ⟨trivial, rfl⟩ | exact ⟨trivial, bts_t rfl⟩ | omega | exact at_tr _ _ (by omega) | exact at_s _ _ (by omega) | exact dt (by omega) | exact df (by omega) | exact decide_eq_true (by omega) | exact decide_eq_false (by omega) | exact bts_t (by assumption) | exact bts_f (by assumption) | (rw [bts_t (by assumption)]; rfl) | (rw [bts_f (by assumption)]; rfl) | (unfold InR; omega) | (show (D.i .i64 45 :: l.map iD).length = 1 + l.length; simp; omega) | (show (D.i .i64 45 :: k.map iD).length = 1 + k.length; simp; omega) | (show (D.i .i64 45 :: l.map iD).length = mulN (1 + l.length) 1; rw [mulN_eq]; simp; omega) | (show (D.i .i64 45 :: k.map iD).length = mulN (1 + k.length) 1; rw [mulN_eq]; simp; omega) | exact hma | exact hmb | exact hdf | exact hx | exact ra | exact rb | exact rs | exact haw | (refine ⟨trivial, ?_⟩; simp [mulN_eq]; done) | (refine ⟨?_, ?_⟩ <;> (try simp) <;> omega) | (refine ⟨?_, ?_, ?_⟩ <;> (try simp) <;> omega) | (simp [mulN_eq]; omega) | (simp [mulN_eq]; done) | exact ⟨trivial, hq2⟩ | exact ⟨trivial, e1⟩ | exact ⟨trivial, e2⟩ | exact ⟨trivial, e3⟩
                  exact loopN (i + 1, true, 0) ⟨by simp only; omega, by simp only; rw [hbn]; rfl, rfl⟩ (by show 8 - (i + 1) < 8 - i; omega) fun a w s => s.ren hE [] (by repeat' (first | exact trivial | exact rfl | apply And.intro)) (by repeat' (first | exact trivial | exact rfl | apply And.intro)) rfl
                | false =>
                  have hbb : badB N8[i] = false := by unfold badB; simp only [e1, e2, e3, Bool.true_or, Bool.false_or]
                  rw [hbb] at hbn
                  refine H.go 200 [(8, [(1, .cell (.s N8[i]))]), (9, [(2, .res (.ret (.tup [.ag (enc ((memb (obj a) N8[i]).getD nul)), .b (memb (obj a) N8[i]).isSome])))]), (10, [(2, .res (.ret (.tup [.ag (enc ((memb (obj b) N8[i]).getD nul)), .b (memb (obj b) N8[i]).isSome])))]), (11, [(3, .gd true), (6, .res (.ret (.b false)))]), (12, [(3, .gd false), (7, .gd false), (11, .gd false)]), (13, [(3, .gd true)])] [(45, true), (67, false)] dr8 rfl ?_ ?_
                  · repeat' (first | exact AllP.n | exact trivial | exact DrawB.mk (by decide +kernel) | exact fun _ => rfl | refine AllP.c ?_ ?_)
                    all_goals (try dsimp only)
                    all_goals try first | exact rfl | exact ⟨trivial, rfl⟩ | exact ⟨trivial, bts_t rfl⟩ | omega | exact at_tr _ _ (by omega) | exact at_s _ _ (by omega) | exact dt (by omega) | exact df (by omega) | exact decide_eq_true (by omega) | exact decide_eq_false (by omega) | exact bts_t (by assumption) | exact bts_f (by assumption) | (rw [bts_t (by assumption)]; rfl) | (rw [bts_f (by assumption)]; rfl) | (unfold InR; omega) | (show (D.i .i64 45 :: l.map iD).length = 1 + l.length; simp; omega) | (show (D.i .i64 45 :: k.map iD).length = 1 + k.length; simp; omega) | (show (D.i .i64 45 :: l.map iD).length = mulN (1 + l.length) 1; rw [mulN_eq]; simp; omega) | (show (D.i .i64 45 :: k.map iD).length = mulN (1 + k.length) 1; rw [mulN_eq]; simp; omega) | exact hma | exact hmb | exact hdf | exact hx | exact ra | exact rb | exact rs | exact haw | (refine ⟨trivial, ?_⟩; simp [mulN_eq]; done) | (refine ⟨?_, ?_⟩ <;> (try simp) <;> omega) | (refine ⟨?_, ?_, ?_⟩ <;> (try simp) <;> omega) | (simp [mulN_eq]; omega) | (simp [mulN_eq]; done) | exact ⟨trivial, hq2⟩ | exact ⟨trivial, e1⟩ | exact ⟨trivial, e2⟩ | exact ⟨trivial, e3⟩
                  exact loopN (i + 1, false, 0) ⟨by simp only; omega, by simp only; rw [hbn]; rfl, rfl⟩ (by show 8 - (i + 1) < 8 - i; omega) fun a w s => s.ren hE [] (by repeat' (first | exact trivial | exact rfl | apply And.intro)) (by repeat' (first | exact trivial | exact rfl | apply And.intro)) rfl
        · have hq2 : ((memb (obj a) N8[i]).isSome == (memb (obj b) N8[i]).isSome) = false := beq_false_of_ne hq
          cases hb0 : bads (obj a) (obj b) i with
          | true =>
            rw [hb0] at h2 hbn
            subst h2
            refine H.go 200 [(8, [(1, .cell (.s N8[i]))]), (9, [(2, .res (.ret (.tup [.ag (enc ((memb (obj a) N8[i]).getD nul)), .b (memb (obj a) N8[i]).isSome])))]), (10, [(2, .res (.ret (.tup [.ag (enc ((memb (obj b) N8[i]).getD nul)), .b (memb (obj b) N8[i]).isSome])))]), (11, [(3, .gd false)])] [(45, true), (67, false)] dr8 rfl ?_ ?_
            · repeat' (first | exact AllP.n | exact trivial | exact DrawB.mk (by decide +kernel) | exact fun _ => rfl | refine AllP.c ?_ ?_)
              all_goals (try dsimp only)
              all_goals try first | exact rfl | exact ⟨trivial, rfl⟩ | exact ⟨trivial, bts_t rfl⟩ | omega | exact at_tr _ _ (by omega) | exact at_s _ _ (by omega) | exact dt (by omega) | exact df (by omega) | exact decide_eq_true (by omega) | exact decide_eq_false (by omega) | exact bts_t (by assumption) | exact bts_f (by assumption) | (rw [bts_t (by assumption)]; rfl) | (rw [bts_f (by assumption)]; rfl) | (unfold InR; omega) | (show (D.i .i64 45 :: l.map iD).length = 1 + l.length; simp; omega) | (show (D.i .i64 45 :: k.map iD).length = 1 + k.length; simp; omega) | (show (D.i .i64 45 :: l.map iD).length = mulN (1 + l.length) 1; rw [mulN_eq]; simp; omega) | (show (D.i .i64 45 :: k.map iD).length = mulN (1 + k.length) 1; rw [mulN_eq]; simp; omega) | exact hma | exact hmb | exact hdf | exact hx | exact ra | exact rb | exact rs | exact haw | (refine ⟨trivial, ?_⟩; simp [mulN_eq]; done) | (refine ⟨?_, ?_⟩ <;> (try simp) <;> omega) | (refine ⟨?_, ?_, ?_⟩ <;> (try simp) <;> omega) | (simp [mulN_eq]; omega) | (simp [mulN_eq]; done) | exact ⟨trivial, hq2⟩ | exact ⟨trivial, e1⟩ | exact ⟨trivial, e2⟩ | exact ⟨trivial, e3⟩
            exact loopN (i + 1, true, 0) ⟨by simp only; omega, by simp only; rw [hbn]; rfl, rfl⟩ (by show 8 - (i + 1) < 8 - i; omega) fun a w s => s.ren hE [] (by repeat' (first | exact trivial | exact rfl | apply And.intro)) (by repeat' (first | exact trivial | exact rfl | apply And.intro)) rfl
          | false =>
            rw [hb0] at h2 hbn
            subst h2
            cases e1 : (N8[i].toList == (⟨#[]⟩ : ByteArray).toList) with
            | true =>
              have hbb : badB N8[i] = true := by unfold badB; simp only [e1, Bool.true_or, Bool.false_or]
              rw [hbb] at hbn
              refine H.go 200 [(8, [(1, .cell (.s N8[i]))]), (9, [(2, .res (.ret (.tup [.ag (enc ((memb (obj a) N8[i]).getD nul)), .b (memb (obj a) N8[i]).isSome])))]), (10, [(2, .res (.ret (.tup [.ag (enc ((memb (obj b) N8[i]).getD nul)), .b (memb (obj b) N8[i]).isSome])))]), (11, [(3, .gd false)]), (12, [(3, .gd true)])] [(45, true), (67, false)] dr8 rfl ?_ ?_
              · repeat' (first | exact AllP.n | exact trivial | exact DrawB.mk (by decide +kernel) | exact fun _ => rfl | refine AllP.c ?_ ?_)
                all_goals (try dsimp only)
                all_goals try first | exact rfl | exact ⟨trivial, rfl⟩ | exact ⟨trivial, bts_t rfl⟩ | omega | exact at_tr _ _ (by omega) | exact at_s _ _ (by omega) | exact dt (by omega) | exact df (by omega) | exact decide_eq_true (by omega) | exact decide_eq_false (by omega) | exact bts_t (by assumption) | exact bts_f (by assumption) | (rw [bts_t (by assumption)]; rfl) | (rw [bts_f (by assumption)]; rfl) | (unfold InR; omega) | (show (D.i .i64 45 :: l.map iD).length = 1 + l.length; simp; omega) | (show (D.i .i64 45 :: k.map iD).length = 1 + k.length; simp; omega) | (show (D.i .i64 45 :: l.map iD).length = mulN (1 + l.length) 1; rw [mulN_eq]; simp; omega) | (show (D.i .i64 45 :: k.map iD).length = mulN (1 + k.length) 1; rw [mulN_eq]; simp; omega) | exact hma | exact hmb | exact hdf | exact hx | exact ra | exact rb | exact rs | exact haw | (refine ⟨trivial, ?_⟩; simp [mulN_eq]; done) | (refine ⟨?_, ?_⟩ <;> (try simp) <;> omega) | (refine ⟨?_, ?_, ?_⟩ <;> (try simp) <;> omega) | (simp [mulN_eq]; omega) | (simp [mulN_eq]; done) | exact ⟨trivial, hq2⟩ | exact ⟨trivial, e1⟩ | exact ⟨trivial, e2⟩ | exact ⟨trivial, e3⟩
              exact loopN (i + 1, true, 0) ⟨by simp only; omega, by simp only; rw [hbn]; rfl, rfl⟩ (by show 8 - (i + 1) < 8 - i; omega) fun a w s => s.ren hE [] (by repeat' (first | exact trivial | exact rfl | apply And.intro)) (by repeat' (first | exact trivial | exact rfl | apply And.intro)) rfl
            | false =>
              cases e2 : (N8[i].toList == (⟨#[120, 47, 121]⟩ : ByteArray).toList) with
              | true =>
                have hbb : badB N8[i] = true := by unfold badB; simp only [e1, e2, Bool.true_or, Bool.false_or]
                rw [hbb] at hbn
                refine H.go 200 [(8, [(1, .cell (.s N8[i]))]), (9, [(2, .res (.ret (.tup [.ag (enc ((memb (obj a) N8[i]).getD nul)), .b (memb (obj a) N8[i]).isSome])))]), (10, [(2, .res (.ret (.tup [.ag (enc ((memb (obj b) N8[i]).getD nul)), .b (memb (obj b) N8[i]).isSome])))]), (11, [(3, .gd false)]), (12, [(3, .gd false), (7, .gd true)])] [(45, true), (67, false)] dr8 rfl ?_ ?_
                · repeat' (first | exact AllP.n | exact trivial | exact DrawB.mk (by decide +kernel) | exact fun _ => rfl | refine AllP.c ?_ ?_)
                  all_goals (try dsimp only)
                  all_goals try first | exact rfl | exact ⟨trivial, rfl⟩ | exact ⟨trivial, bts_t rfl⟩ | omega | exact at_tr _ _ (by omega) | exact at_s _ _ (by omega) | exact dt (by omega) | exact df (by omega) | exact decide_eq_true (by omega) | exact decide_eq_false (by omega) | exact bts_t (by assumption) | exact bts_f (by assumption) | (rw [bts_t (by assumption)]; rfl) | (rw [bts_f (by assumption)]; rfl) | (unfold InR; omega) | (show (D.i .i64 45 :: l.map iD).length = 1 + l.length; simp; omega) | (show (D.i .i64 45 :: k.map iD).length = 1 + k.length; simp; omega) | (show (D.i .i64 45 :: l.map iD).length = mulN (1 + l.length) 1; rw [mulN_eq]; simp; omega) | (show (D.i .i64 45 :: k.map iD).length = mulN (1 + k.length) 1; rw [mulN_eq]; simp; omega) | exact hma | exact hmb | exact hdf | exact hx | exact ra | exact rb | exact rs | exact haw | (refine ⟨trivial, ?_⟩; simp [mulN_eq]; done) | (refine ⟨?_, ?_⟩ <;> (try simp) <;> omega) | (refine ⟨?_, ?_, ?_⟩ <;> (try simp) <;> omega) | (simp [mulN_eq]; omega) | (simp [mulN_eq]; done) | exact ⟨trivial, hq2⟩ | exact ⟨trivial, e1⟩ | exact ⟨trivial, e2⟩ | exact ⟨trivial, e3⟩
                exact loopN (i + 1, true, 0) ⟨by simp only; omega, by simp only; rw [hbn]; rfl, rfl⟩ (by show 8 - (i + 1) < 8 - i; omega) fun a w s => s.ren hE [] (by repeat' (first | exact trivial | exact rfl | apply And.intro)) (by repeat' (first | exact trivial | exact rfl | apply And.intro)) rfl
              | false =>
                cases e3 : (N8[i].toList == (⟨#[122, 126]⟩ : ByteArray).toList) with
                | true =>
                  have hbb : badB N8[i] = true := by unfold badB; simp only [e1, e2, e3, Bool.true_or, Bool.false_or]
                  rw [hbb] at hbn
                  refine H.go 200 [(8, [(1, .cell (.s N8[i]))]), (9, [(2, .res (.ret (.tup [.ag (enc ((memb (obj a) N8[i]).getD nul)), .b (memb (obj a) N8[i]).isSome])))]), (10, [(2, .res (.ret (.tup [.ag (enc ((memb (obj b) N8[i]).getD nul)), .b (memb (obj b) N8[i]).isSome])))]), (11, [(3, .gd false)]), (12, [(3, .gd false), (7, .gd false), (11, .gd true)])] [(45, true), (67, false)] dr8 rfl ?_ ?_
                  · repeat' (first | exact AllP.n | exact trivial | exact DrawB.mk (by decide +kernel) | exact fun _ => rfl | refine AllP.c ?_ ?_)
                    all_goals (try dsimp only)
                    all_goals try first | exact rfl | exact ⟨trivial, rfl⟩ | exact ⟨trivial, bts_t rfl⟩ | omega | exact at_tr _ _ (by omega) | exact at_s _ _ (by omega) | exact dt (by omega) | exact df (by omega) | exact decide_eq_true (by omega) | exact decide_eq_false (by omega) | exact bts_t (by assumption) | exact bts_f (by assumption) | (rw [bts_t (by assumption)]; rfl) | (rw [bts_f (by assumption)]; rfl) | (unfold InR; omega) | (show (D.i .i64 45 :: l.map iD).length = 1 + l.length; simp; omega) | (show (D.i .i64 45 :: k.map iD).length = 1 + k.length; simp; omega) | (show (D.i .i64 45 :: l.map iD).length = mulN (1 + l.length) 1; rw [mulN_eq]; simp; omega) | (show (D.i .i64 45 :: k.map iD).length = mulN (1 + k.length) 1; rw [mulN_eq]; simp; omega) | exact hma | exact hmb | exact hdf | exact hx | exact ra | exact rb | exact rs | exact haw | (refine ⟨trivial, ?_⟩; simp [mulN_eq]; done) | (refine ⟨?_, ?_⟩ <;> (try simp) <;> omega) | (refine ⟨?_, ?_, ?_⟩ <;> (try simp) <;> omega) | (simp [mulN_eq]; omega) | (simp [mulN_eq]; done) | exact ⟨trivial, hq2⟩ | exact ⟨trivial, e1⟩ | exact ⟨trivial, e2⟩ | exact ⟨trivial, e3⟩
                  exact loopN (i + 1, true, 0) ⟨by simp only; omega, by simp only; rw [hbn]; rfl, rfl⟩ (by show 8 - (i + 1) < 8 - i; omega) fun a w s => s.ren hE [] (by repeat' (first | exact trivial | exact rfl | apply And.intro)) (by repeat' (first | exact trivial | exact rfl | apply And.intro)) rfl
                | false =>
                  have hbb : badB N8[i] = false := by unfold badB; simp only [e1, e2, e3, Bool.true_or, Bool.false_or]
                  rw [hbb] at hbn
                  refine H.go 200 [(8, [(1, .cell (.s N8[i]))]), (9, [(2, .res (.ret (.tup [.ag (enc ((memb (obj a) N8[i]).getD nul)), .b (memb (obj a) N8[i]).isSome])))]), (10, [(2, .res (.ret (.tup [.ag (enc ((memb (obj b) N8[i]).getD nul)), .b (memb (obj b) N8[i]).isSome])))]), (11, [(3, .gd false)]), (12, [(3, .gd false), (7, .gd false), (11, .gd false)]), (13, [(3, .gd true)])] [(45, true), (67, false)] dr8 rfl ?_ ?_
                  · repeat' (first | exact AllP.n | exact trivial | exact DrawB.mk (by decide +kernel) | exact fun _ => rfl | refine AllP.c ?_ ?_)
                    all_goals (try dsimp only)
                    all_goals try first | exact rfl | exact ⟨trivial, rfl⟩ | exact ⟨trivial, bts_t rfl⟩ | omega | exact at_tr _ _ (by omega) | exact at_s _ _ (by omega) | exact dt (by omega) | exact df (by omega) | exact decide_eq_true (by omega) | exact decide_eq_false (by omega) | exact bts_t (by assumption) | exact bts_f (by assumption) | (rw [bts_t (by assumption)]; rfl) | (rw [bts_f (by assumption)]; rfl) | (unfold InR; omega) | (show (D.i .i64 45 :: l.map iD).length = 1 + l.length; simp; omega) | (show (D.i .i64 45 :: k.map iD).length = 1 + k.length; simp; omega) | (show (D.i .i64 45 :: l.map iD).length = mulN (1 + l.length) 1; rw [mulN_eq]; simp; omega) | (show (D.i .i64 45 :: k.map iD).length = mulN (1 + k.length) 1; rw [mulN_eq]; simp; omega) | exact hma | exact hmb | exact hdf | exact hx | exact ra | exact rb | exact rs | exact haw | (refine ⟨trivial, ?_⟩; simp [mulN_eq]; done) | (refine ⟨?_, ?_⟩ <;> (try simp) <;> omega) | (refine ⟨?_, ?_, ?_⟩ <;> (try simp) <;> omega) | (simp [mulN_eq]; omega) | (simp [mulN_eq]; done) | exact ⟨trivial, hq2⟩ | exact ⟨trivial, e1⟩ | exact ⟨trivial, e2⟩ | exact ⟨trivial, e3⟩
                  exact loopN (i + 1, false, 0) ⟨by simp only; omega, by simp only; rw [hbn]; rfl, rfl⟩ (by show 8 - (i + 1) < 8 - i; omega) fun a w s => s.ren hE [] (by repeat' (first | exact trivial | exact rfl | apply And.intro)) (by repeat' (first | exact trivial | exact rfl | apply And.intro)) rfl
    · obtain rfl : i = 8 := by omega
      have hba := bads_all (obj a) (obj b)
      rw [hG] at hba
      rw [hba] at h2
      subst h2 h3
      refine H.go 200 [] [(45, false)] dr8 rfl ?_ ?_
      · repeat' (first | exact AllP.n | exact trivial | exact DrawB.mk (by decide +kernel) | exact fun _ => rfl | refine AllP.c ?_ ?_)
        all_goals (try dsimp only)
        all_goals try first | exact rfl | exact ⟨trivial, rfl⟩ | exact ⟨trivial, bts_t rfl⟩ | omega | exact at_tr _ _ (by omega) | exact at_s _ _ (by omega) | exact dt (by omega) | exact df (by omega) | exact decide_eq_true (by omega) | exact decide_eq_false (by omega) | exact bts_t (by assumption) | exact bts_f (by assumption) | (rw [bts_t (by assumption)]; rfl) | (rw [bts_f (by assumption)]; rfl) | (unfold InR; omega) | (show (D.i .i64 45 :: l.map iD).length = 1 + l.length; simp; omega) | (show (D.i .i64 45 :: k.map iD).length = 1 + k.length; simp; omega) | (show (D.i .i64 45 :: l.map iD).length = mulN (1 + l.length) 1; rw [mulN_eq]; simp; omega) | (show (D.i .i64 45 :: k.map iD).length = mulN (1 + k.length) 1; rw [mulN_eq]; simp; omega) | exact hma | exact hmb | exact hdf | exact hx | exact ra | exact rb | exact rs | exact haw | (refine ⟨trivial, ?_⟩; simp [mulN_eq]; done) | (refine ⟨?_, ?_⟩ <;> (try simp) <;> omega) | (refine ⟨?_, ?_, ?_⟩ <;> (try simp) <;> omega) | (simp [mulN_eq]; omega) | (simp [mulN_eq]; done)
      refine H.go 200 [(20, [(1, .gd true), (3, .res (.ret (.b true)))])] [] dr8 rfl ?_ ?_
      · repeat' (first | exact AllP.n | exact trivial | exact DrawB.mk (by decide +kernel) | exact fun _ => rfl | refine AllP.c ?_ ?_)
        all_goals (try dsimp only)
        all_goals try first | exact rfl | exact ⟨trivial, rfl⟩ | exact ⟨trivial, bts_t rfl⟩ | omega | exact at_tr _ _ (by omega) | exact at_s _ _ (by omega) | exact dt (by omega) | exact df (by omega) | exact decide_eq_true (by omega) | exact decide_eq_false (by omega) | exact bts_t (by assumption) | exact bts_f (by assumption) | (rw [bts_t (by assumption)]; rfl) | (rw [bts_f (by assumption)]; rfl) | (unfold InR; omega) | (show (D.i .i64 45 :: l.map iD).length = 1 + l.length; simp; omega) | (show (D.i .i64 45 :: k.map iD).length = 1 + k.length; simp; omega) | (show (D.i .i64 45 :: l.map iD).length = mulN (1 + l.length) 1; rw [mulN_eq]; simp; omega) | (show (D.i .i64 45 :: k.map iD).length = mulN (1 + k.length) 1; rw [mulN_eq]; simp; omega) | exact hma | exact hmb | exact hdf | exact hx | exact ra | exact rb | exact rs | exact haw | (refine ⟨trivial, ?_⟩; simp [mulN_eq]; done) | (refine ⟨?_, ?_⟩ <;> (try simp) <;> omega) | (refine ⟨?_, ?_, ?_⟩ <;> (try simp) <;> omega) | (simp [mulN_eq]; omega) | (simp [mulN_eq]; done)
      refine ⟨_, _, rfl, ?_, ?_⟩
      · repeat' (first | exact AllP.n | exact trivial | exact DrawB.mk (by decide +kernel) | exact fun _ => rfl | refine AllP.c ?_ ?_)
        all_goals (try dsimp only)
        all_goals try first | exact rfl | exact ⟨trivial, rfl⟩ | exact ⟨trivial, bts_t rfl⟩ | omega | exact at_tr _ _ (by omega) | exact at_s _ _ (by omega) | exact dt (by omega) | exact df (by omega) | exact decide_eq_true (by omega) | exact decide_eq_false (by omega) | exact bts_t (by assumption) | exact bts_f (by assumption) | (rw [bts_t (by assumption)]; rfl) | (rw [bts_f (by assumption)]; rfl) | (unfold InR; omega)
      · exact .refl _
end Go.Px
end

section
namespace Go.Px
open Go.RowKit

/-- Of a list of members: the first of the name left out. -/
def delK (x : ByteArray) : Bool → List (ByteArray × Tr) → List (ByteArray × Tr)
  | _, [] => []
  | true, p :: r => p :: delK x true r
  | false, p :: r => if p.1 = x then delK x true r else p :: delK x false r
def tdel (t : Tr) (x : ByteArray) : Tr := if (memb t x).isSome = true then obj (delK x false (mems t)) else t
structure UX where
  i : Nat
  d : Bool
  n : Nat
  ck : List D
  f : Nat
  cv : List D
  g : Nat
def UI (t : Tr) (x : ByteArray) (y : UX) : Prop :=
  ∃ l : List (ByteArray × Tr), y.i ≤ (mems t).length ∧ y.n ≤ y.i ∧ y.n = l.length ∧ y.ck = l.map (fun p => D.s p.1) ∧ y.cv = encs (l.map (·.2)) ∧ delK x false (mems t) = l ++ delK x y.d ((mems t).drop y.i)
def US (t : Tr) (x : ByteArray) (mm : Tr) : UX → St
  | ⟨i, d, n, ck, f, cv, g⟩ => ⟨[(1, .s x), (2, .oa 0 0), (4, .oa 1 0), (5, .oa 2 0), (6, .b true), (7, .oa 3 0), (8, .b d), (9, .i .i64 i)],
   [(0, ⟨30, 1, enc t, 0, true, false, true⟩), (1, ⟨30, 1, [.i .i64 0, .b false, .b false, .nils, .i .i64 0, .s ⟨#[]⟩, .nils, .nils], 0, true, false, true⟩), (2, ⟨30, 1, enc mm, 0, true, false, true⟩),
    (3, ⟨30, 1, [.i .i64 7, .b false, .b false, .nils, .i .i64 0, .s ⟨#[]⟩, .os 10 0 n, .os 11 0 n], 0, true, false, true⟩),
    (10, ⟨9, 1, ck, f, true, false, false⟩), (11, ⟨30, 8, cv, g, true, false, false⟩)], 0⟩
theorem UI.next {t : Tr} {x : ByteArray} {d d' : Bool} {i n f g f' g' : Nat} {ck cv : List D} (h : UI t x ⟨i, d, n, ck, f, cv, g⟩) (p : ByteArray × Tr) (hi : i < (mems t).length)
    (hs : delK x d ((mems t).drop i) = p :: delK x d' ((mems t).drop (i + 1))) : UI t x ⟨i + 1, d', n + 1, ck ++ [D.s p.1], f', cv ++ enc p.2, g'⟩ := by
  obtain ⟨l, _, h2, h3, h4, h5, h6⟩ := h
  simp only at h2 h3 h4 h5 h6
  refine ⟨l ++ [p], hi, by simp only; omega, by simp [h3], by simp [h4], by simp [h5, encs_append, encs_cons, encs_nil], ?_⟩
  rw [h6, hs]
  simp
theorem UI.skip {t : Tr} {x : ByteArray} {d d' : Bool} {i n f g : Nat} {ck cv : List D} (h : UI t x ⟨i, d, n, ck, f, cv, g⟩) (hi : i < (mems t).length)
    (hs : delK x d ((mems t).drop i) = delK x d' ((mems t).drop (i + 1))) : UI t x ⟨i + 1, d', n, ck, f, cv, g⟩ := by
  obtain ⟨l, _, h2, h3, h4, h5, h6⟩ := h
  simp only at h2 h3 h4 h5 h6
  exact ⟨l, hi, by simp only; omega, h3, h4, h5, by rw [h6, hs]⟩
theorem UI.lens {t : Tr} {x : ByteArray} {d : Bool} {i n f g : Nat} {ck cv : List D} (h : UI t x ⟨i, d, n, ck, f, cv, g⟩) : i ≤ (mems t).length ∧ n ≤ i ∧ ck.length = n ∧ cv.length = n * 8 := by
  obtain ⟨l, h1, h2, h3, h4, h5, h6⟩ := h
  simp only at h1 h2 h3 h4 h5 h6
  refine ⟨h1, h2, by simp [h4, h3], by rw [h5, encs_len, h3]; simp⟩
theorem UI.fin {t : Tr} {x : ByteArray} {d : Bool} {i n f g : Nat} {ck cv : List D} (h : UI t x ⟨i, d, n, ck, f, cv, g⟩) (hd : (mems t).drop i = []) :
    Wk (.ag [.i .i64 7, .b false, .b false, .nils, .i .i64 0, .s ⟨#[]⟩, .sl 1 n ck, .sl 8 n cv]) (.ag (enc (obj (delK x false (mems t))))) := by
  obtain ⟨l, h1, h2, h3, h4, h5, h6⟩ := h
  simp only at h1 h2 h3 h4 h5 h6
  rw [hd] at h6
  rw [h6]
  simp only [delK, List.append_nil]
  rw [h3, h4, h5]
  exact wk_obj l
theorem memb_kind {t : Tr} {x : ByteArray} (h : (memb t x).isSome = true) : t.kind = 7 := by
  by_cases hk : t.kind = 7
  · exact hk
  · exfalso
    simp [memb, cutK, hk, idx] at h

set_option maxRecDepth 100000 in
theorem unset_ct (t : Tr) (x : ByteArray) (hs : t.k.length < 2^30) (hs2 : t.v.length < 2^30) : Pure Go.Proofs.Tryz.prog 79 [.ag (enc t), .s x] (.ret (.ag (enc (tdel t x)))) := by
  unfold tdel
  have hm := rmember_ct t x (by omega) (by omega)
  have hk7 := memb_kind (t := t) (x := x)
  generalize (memb t x).isSome = hb at hm hk7 ⊢
  generalize (memb t x).getD nul = mm at hm
  refine Pure.body tys_valid (fn := Go.Proofs.Tryz.f79) (by kernel_rfl) rfl (by kernel_rfl) rfl ?_
  intro w ok giv E0 _ hE
  cases hb with
  | false =>
    refine H.go 60 [(1, [(2, .res (.ret (.tup [.ag (enc mm), .b false])))])] [] dr79 rfl ?_ ?_
    · repeat' (first | exact AllP.n | exact trivial | exact DrawB.mk (by decide +kernel) | exact fun _ => rfl | refine AllP.c ?_ ?_)
      all_goals (try dsimp only)
      all_goals try first | exact rfl | first | omega | exact at_tr _ _ (by omega) | exact at_s _ _ (by omega) | exact dt (by omega) | exact df (by omega) | exact decide_eq_true (by omega) | exact decide_eq_false (by omega) | exact bts_t (by assumption) | exact bts_f (by assumption) | (unfold InR; omega) | exact hm
    refine ⟨_, _, rfl, ?_, ?_⟩
    · repeat' (first | exact AllP.n | exact trivial | exact DrawB.mk (by decide +kernel) | exact fun _ => rfl | refine AllP.c ?_ ?_)
      all_goals (try dsimp only)
      all_goals try first | exact rfl | first | omega | exact at_tr _ _ (by omega) | exact at_s _ _ (by omega) | exact dt (by omega) | exact df (by omega) | exact decide_eq_true (by omega) | exact decide_eq_false (by omega) | exact bts_t (by assumption) | exact bts_f (by assumption) | (unfold InR; omega)
    · exact .refl _
  | true =>
  have hk := hk7 rfl
  refine H.go 60 [(1, [(2, .res (.ret (.tup [.ag (enc mm), .b true])))])] [] dr79 rfl ?_ ?_
  · repeat' (first | exact AllP.n | exact trivial | exact DrawB.mk (by decide +kernel) | exact fun _ => rfl | refine AllP.c ?_ ?_)
    all_goals (try dsimp only)
    all_goals try first | exact rfl | first | omega | exact at_tr _ _ (by omega) | exact at_s _ _ (by omega) | exact dt (by omega) | exact df (by omega) | exact decide_eq_true (by omega) | exact decide_eq_false (by omega) | exact bts_t (by assumption) | exact bts_f (by assumption) | (unfold InR; omega) | exact hm
  refine H.loopI (UI t x) (US t x mm) (fun y => (mems t).length - y.i) ⟨0, false, 0, [], 0, [], 0⟩ ⟨[], Nat.zero_le _, Nat.zero_le _, rfl, rfl, encs_nil.symm, by simp⟩ ?_ ?_
  · intro a w s
    refine Sat.ren hE [] ?_ ?_ rfl ((s.adoptC 3 6 10 9 1 rfl rfl rfl rfl rfl rfl).adoptC 3 7 11 30 8 rfl rfl rfl rfl rfl rfl)
    · repeat' (first | exact trivial | exact rfl | apply And.intro)
    · repeat' (first | exact trivial | exact rfl | apply And.intro)
  rintro ⟨i, d, n, ck, f, cv, g⟩ hI
  obtain ⟨h1, h2, h3, h4⟩ := hI.lens
  have hml : (mems t).length ≤ t.k.length := by rw [mems_len]; simp [cutK, hk]; omega
  by_cases hc : i < t.k.length ∧ i < t.v.length
  · obtain ⟨hi, hi'⟩ := hc
    obtain ⟨him, hat⟩ := mems_at t i hk hi hi'
    have hdr : (mems t).drop i = (t.k[i], t.v[i]) :: (mems t).drop (i + 1) := by rw [List.drop_eq_getElem_cons him, hat]
    cases d with
    | true =>
      refine H.go 60 [(7, [(5, .gd true)]), (11, [(6, .cell (.s t.k[i])), (15, .cells (enc t.v[i]))])] [(31, true)] dr79 rfl ?_ ?_
      · repeat' (first | exact AllP.n | exact trivial | exact DrawB.mk (by decide +kernel) | exact fun _ => rfl | refine AllP.c ?_ ?_)
        all_goals (try dsimp only)
        all_goals try first | exact rfl | first | omega | exact at_tr _ _ (by omega) | exact at_s _ _ (by omega) | exact dt (by omega) | exact df (by omega) | exact decide_eq_true (by omega) | exact decide_eq_false (by omega) | exact bts_t (by assumption) | exact bts_f (by assumption) | (unfold InR; omega) | exact ⟨trivial, rfl⟩ | exact ⟨trivial, h3, by omega⟩ | exact ⟨trivial, by omega, by omega⟩ | assumption | (simp [hk]; done) | (refine ⟨trivial, ?_, ?_⟩ <;> (try simp) <;> omega) | (simp; omega)
      refine loopN ⟨i + 1, true, n + 1, ck ++ [D.s t.k[i]], ck.length, cv ++ enc t.v[i], cv.length⟩ (hI.next (t.k[i], t.v[i]) him (by rw [hdr]; simp [delK])) (by show (mems t).length - (i + 1) < (mems t).length - i; omega) fun a w s => s.ren hE [(10, 8000), (11, 17000)] ?_ ?_ rfl
      · repeat' (first | exact trivial | exact rfl | apply And.intro)
      · repeat' (first | exact trivial | exact rfl | apply And.intro)
    | false =>
      by_cases he : t.k[i] = x
      · skip
        refine H.go 60 [(7, [(5, .gd true)]), (9, [(7, .cell (.s t.k[i]))])] [(31, true), (44, true)] dr79 rfl ?_ ?_
        · repeat' (first | exact AllP.n | exact trivial | exact DrawB.mk (by decide +kernel) | exact fun _ => rfl | refine AllP.c ?_ ?_)
          all_goals (try dsimp only)
          all_goals try first | exact rfl | first | omega | exact at_tr _ _ (by omega) | exact at_s _ _ (by omega) | exact dt (by omega) | exact df (by omega) | exact decide_eq_true (by omega) | exact decide_eq_false (by omega) | exact bts_t (by assumption) | exact bts_f (by assumption) | (unfold InR; omega) | exact ⟨trivial, rfl⟩ | exact ⟨trivial, h3, by omega⟩ | exact ⟨trivial, by omega, by omega⟩ | assumption | (simp [hk]; done) | (refine ⟨trivial, ?_, ?_⟩ <;> (try simp) <;> omega) | (simp; omega)
        refine loopN ⟨i + 1, true, n, ck, f, cv, g⟩ (hI.skip him (by rw [hdr]; simp [delK, he])) (by show (mems t).length - (i + 1) < (mems t).length - i; omega) fun a w s => s.ren hE [] ?_ ?_ rfl
        · repeat' (first | exact trivial | exact rfl | apply And.intro)
        · repeat' (first | exact trivial | exact rfl | apply And.intro)
      · skip
        refine H.go 60 [(7, [(5, .gd true)]), (9, [(7, .cell (.s t.k[i]))]), (11, [(6, .cell (.s t.k[i])), (15, .cells (enc t.v[i]))])] [(31, true), (44, false)] dr79 rfl ?_ ?_
        · repeat' (first | exact AllP.n | exact trivial | exact DrawB.mk (by decide +kernel) | exact fun _ => rfl | refine AllP.c ?_ ?_)
          all_goals (try dsimp only)
          all_goals try first | exact rfl | first | omega | exact at_tr _ _ (by omega) | exact at_s _ _ (by omega) | exact dt (by omega) | exact df (by omega) | exact decide_eq_true (by omega) | exact decide_eq_false (by omega) | exact bts_t (by assumption) | exact bts_f (by assumption) | (unfold InR; omega) | exact ⟨trivial, rfl⟩ | exact ⟨trivial, h3, by omega⟩ | exact ⟨trivial, by omega, by omega⟩ | assumption | (simp [hk]; done) | (refine ⟨trivial, ?_, ?_⟩ <;> (try simp) <;> omega) | (simp; omega)
        refine loopN ⟨i + 1, false, n + 1, ck ++ [D.s t.k[i]], ck.length, cv ++ enc t.v[i], cv.length⟩ (hI.next (t.k[i], t.v[i]) him (by rw [hdr]; simp [delK, he])) (by show (mems t).length - (i + 1) < (mems t).length - i; omega) fun a w s => s.ren hE [(10, 8000), (11, 17000)] ?_ ?_ rfl
        · repeat' (first | exact trivial | exact rfl | apply And.intro)
        · repeat' (first | exact trivial | exact rfl | apply And.intro)
  · have hF := hI.fin (mems_end t i h1 (fun h => hc ⟨h.1, h.2.1⟩))
    by_cases c1 : i < t.k.length
    · have c2 : ¬ i < t.v.length := fun h => hc ⟨c1, h⟩
      skip
      refine H.go 60 [(7, [(5, .gd true)])] [(31, false)] dr79 rfl ?_ ?_
      · repeat' (first | exact AllP.n | exact trivial | exact DrawB.mk (by decide +kernel) | exact fun _ => rfl | refine AllP.c ?_ ?_)
        all_goals (try dsimp only)
        all_goals try first | exact rfl | first | omega | exact at_tr _ _ (by omega) | exact at_s _ _ (by omega) | exact dt (by omega) | exact df (by omega) | exact decide_eq_true (by omega) | exact decide_eq_false (by omega) | exact bts_t (by assumption) | exact bts_f (by assumption) | (unfold InR; omega) | exact ⟨trivial, rfl⟩ | exact ⟨trivial, h3, by omega⟩ | exact ⟨trivial, by omega, by omega⟩ | assumption | (simp [hk]; done) | (refine ⟨trivial, ?_, ?_⟩ <;> (try simp) <;> omega) | (simp; omega)
      refine H.go 60 [] [] dr79 rfl ?_ ?_
      · repeat' (first | exact AllP.n | exact trivial | exact DrawB.mk (by decide +kernel) | exact fun _ => rfl | refine AllP.c ?_ ?_)
        all_goals (try dsimp only)
        all_goals try first | exact rfl | first | omega | exact at_tr _ _ (by omega) | exact at_s _ _ (by omega) | exact dt (by omega) | exact df (by omega) | exact decide_eq_true (by omega) | exact decide_eq_false (by omega) | exact bts_t (by assumption) | exact bts_f (by assumption) | (unfold InR; omega) | exact ⟨trivial, rfl⟩ | exact ⟨trivial, h3, by omega⟩ | exact ⟨trivial, by omega, by omega⟩ | assumption | (simp [hk]; done) | (refine ⟨trivial, ?_, ?_⟩ <;> (try simp) <;> omega) | (simp; omega)
      refine ⟨_, _, rfl, ?_, ?_⟩
      · repeat' (first | exact AllP.n | exact trivial | exact DrawB.mk (by decide +kernel) | exact fun _ => rfl | refine AllP.c ?_ ?_)
        all_goals (try dsimp only)
        all_goals try first | exact rfl | first | omega | exact at_tr _ _ (by omega) | exact at_s _ _ (by omega) | exact dt (by omega) | exact df (by omega) | exact decide_eq_true (by omega) | exact decide_eq_false (by omega) | exact bts_t (by assumption) | exact bts_f (by assumption) | (unfold InR; omega) | (simp [Root.idle, mulN_eq, h3, h4, enc_len]; done) | (simp [Root.idle, mulN_eq, h3, h4, enc_len]; omega)
      · exact hF
    · skip
      refine H.go 60 [(7, [(5, .gd false)])] [(31, false)] dr79 rfl ?_ ?_
      · repeat' (first | exact AllP.n | exact trivial | exact DrawB.mk (by decide +kernel) | exact fun _ => rfl | refine AllP.c ?_ ?_)
        all_goals (try dsimp only)
        all_goals try first | exact rfl | first | omega | exact at_tr _ _ (by omega) | exact at_s _ _ (by omega) | exact dt (by omega) | exact df (by omega) | exact decide_eq_true (by omega) | exact decide_eq_false (by omega) | exact bts_t (by assumption) | exact bts_f (by assumption) | (unfold InR; omega) | exact ⟨trivial, rfl⟩ | exact ⟨trivial, h3, by omega⟩ | exact ⟨trivial, by omega, by omega⟩ | assumption | (simp [hk]; done) | (refine ⟨trivial, ?_, ?_⟩ <;> (try simp) <;> omega) | (simp; omega)
      refine H.go 60 [] [] dr79 rfl ?_ ?_
      · repeat' (first | exact AllP.n | exact trivial | exact DrawB.mk (by decide +kernel) | exact fun _ => rfl | refine AllP.c ?_ ?_)
        all_goals (try dsimp only)
        all_goals try first | exact rfl | first | omega | exact at_tr _ _ (by omega) | exact at_s _ _ (by omega) | exact dt (by omega) | exact df (by omega) | exact decide_eq_true (by omega) | exact decide_eq_false (by omega) | exact bts_t (by assumption) | exact bts_f (by assumption) | (unfold InR; omega) | exact ⟨trivial, rfl⟩ | exact ⟨trivial, h3, by omega⟩ | exact ⟨trivial, by omega, by omega⟩ | assumption | (simp [hk]; done) | (refine ⟨trivial, ?_, ?_⟩ <;> (try simp) <;> omega) | (simp; omega)
      refine ⟨_, _, rfl, ?_, ?_⟩
      · repeat' (first | exact AllP.n | exact trivial | exact DrawB.mk (by decide +kernel) | exact fun _ => rfl | refine AllP.c ?_ ?_)
        all_goals (try dsimp only)
        all_goals try first | exact rfl | first | omega | exact at_tr _ _ (by omega) | exact at_s _ _ (by omega) | exact dt (by omega) | exact df (by omega) | exact decide_eq_true (by omega) | exact decide_eq_false (by omega) | exact bts_t (by assumption) | exact bts_f (by assumption) | (unfold InR; omega) | (simp [Root.idle, mulN_eq, h3, h4, enc_len]; done) | (simp [Root.idle, mulN_eq, h3, h4, enc_len]; omega)
      · exact hF
end Go.Px
end

section
namespace Go.Px
open Go.RowKit

/-- One member of what is merged in. -/
noncomputable def mstep (F : Tr → Tr → Tr) (u : Tr) (p : ByteArray × Tr) : Tr := if p.2.kind = 1 then tdel u p.1 else tset u p.1 (F ((memb u p.1).getD tNull) p.2)
noncomputable def mergeF : Nat → Tr → Tr → Tr
  | 0, _, p => p
  | d + 1, t, p => if p.kind = 7 then (mems p).foldl (mstep (mergeF d)) (objOf t) else p
/-- Trees of small objects. -/
def QT : Nat → Tr → Prop
  | 0, t => t.kind ≠ 7
  | d + 1, t => t.kind ≠ 7 ∨ ∃ k, t = obj k ∧ SL (k.map (·.1)) ∧ ∀ p ∈ k, QT d p.2
theorem SL.len {l : List ByteArray} (h : SL l) : l.length ≤ 8 := by
  have h1 : (l.map rk).Nodup := h.1.imp (fun h => by omega)
  have h2 : ∀ x ∈ l.map rk, x ∈ List.range 8 := by
    intro x hx
    obtain ⟨y, hy, rfl⟩ := List.mem_map.1 hx
    exact List.mem_range.2 (rk_lt y (h.2 y hy))
  have := h1.length_le_of_subset (l₂ := List.range 8) h2
  simpa using this
theorem delK_true (x : ByteArray) : ∀ l, delK x true l = l
  | [] => rfl
  | p :: r => by simp [delK, delK_true x r]
theorem delK_mem {x : ByteArray} : ∀ {d : Bool} {l : List (ByteArray × Tr)} {p : ByteArray × Tr}, p ∈ delK x d l → p ∈ l
  | _, [], p, h => by simp [delK] at h
  | true, q :: r, p, h => by rw [delK_true] at h; exact h
  | false, q :: r, p, h => by
    simp only [delK] at h
    split at h
    · rw [delK_true] at h; exact List.mem_cons_of_mem _ h
    · rcases List.mem_cons.1 h with h | h
      · subst h; exact List.mem_cons_self
      · exact List.mem_cons_of_mem _ (delK_mem h)
theorem delK_sub {x : ByteArray} : ∀ {d : Bool} {l : List (ByteArray × Tr)}, (delK x d l).Sublist l
  | _, [] => by simp [delK]
  | true, q :: r => by rw [delK_true]; exact .refl _
  | false, q :: r => by
    simp only [delK]
    split
    · rw [delK_true]; exact .cons _ (.refl _)
    · exact .cons_cons _ delK_sub
theorem SL.sub {l k : List ByteArray} (h : SL l) (hs : k.Sublist l) : SL k := ⟨h.1.sublist (hs.map rk), fun x hx => h.2 x (hs.subset hx)⟩
/-- What a set and an unset make of an object of small objects. -/
theorem QO_set {d : Nat} {k : List (ByteArray × Tr)} {x : ByteArray} {v : Tr} (hx : x ∈ N8) (hs : SL (k.map (·.1))) (hq : ∀ p ∈ k, QT d p.2) (hv : QT d v) :
    ∃ k', tset (obj k) x v = obj k' ∧ SL (k'.map (·.1)) ∧ ∀ p ∈ k', QT d p.2 := by
  refine ⟨_, tset_obj k x v, setK_SL hx hs (fun h => look_isSome.1 h) (fun h h2 => ?_), fun p hp => ?_⟩
  · rw [look_isSome.2 h2] at h; cases h
  · rcases setK_mem hp with rfl | h
    · exact hv
    · exact hq p h
theorem QO_del {d : Nat} {k : List (ByteArray × Tr)} {x : ByteArray} (hs : SL (k.map (·.1))) (hq : ∀ p ∈ k, QT d p.2) :
    ∃ k', tdel (obj k) x = obj k' ∧ SL (k'.map (·.1)) ∧ ∀ p ∈ k', QT d p.2 := by
  unfold tdel
  split
  · rw [mems_obj]
    exact ⟨_, rfl, hs.sub (delK_sub.map _), fun p hp => hq p (delK_mem hp)⟩
  · exact ⟨k, rfl, hs, hq⟩
theorem QT_memb {d : Nat} {k : List (ByteArray × Tr)} {x : ByteArray} (hq : ∀ p ∈ k, QT d p.2) : QT d ((memb (obj k) x).getD tNull) := by
  rw [memb_obj]
  cases h : look k x with
  | none => cases d with
    | zero => exact (by decide : tNull.kind ≠ 7)
    | succ d => exact .inl (by decide)
  | some v => exact hq _ (look_some h)
theorem QO_step {d : Nat} {F : Tr → Tr → Tr} (hF : ∀ t p, QT d t → QT d p → QT d (F t p)) {k : List (ByteArray × Tr)} {p : ByteArray × Tr} (hp : p.1 ∈ N8) (hpq : QT d p.2) (hs : SL (k.map (·.1))) (hq : ∀ p ∈ k, QT d p.2) :
    ∃ k', mstep F (obj k) p = obj k' ∧ SL (k'.map (·.1)) ∧ ∀ p ∈ k', QT d p.2 := by
  unfold mstep
  split
  · exact QO_del hs hq
  · exact QO_set hp hs hq (hF _ _ (QT_memb hq) hpq)
theorem QO_fold {d : Nat} {F : Tr → Tr → Tr} (hF : ∀ t p, QT d t → QT d p → QT d (F t p)) : ∀ {q k : List (ByteArray × Tr)}, (∀ p ∈ q, p.1 ∈ N8 ∧ QT d p.2) → SL (k.map (·.1)) → (∀ p ∈ k, QT d p.2) →
    ∃ k', q.foldl (mstep F) (obj k) = obj k' ∧ SL (k'.map (·.1)) ∧ ∀ p ∈ k', QT d p.2
  | [], k, _, hs, hq => ⟨k, rfl, hs, hq⟩
  | p :: q, k, h, hs, hq => by
    obtain ⟨k1, e1, s1, q1⟩ := QO_step hF (h p (by simp)).1 (h p (by simp)).2 hs hq
    rw [List.foldl_cons, e1]
    exact QO_fold hF (fun p hp => h p (by simp [hp])) s1 q1
theorem objOf_QO {d : Nat} {t : Tr} (h : QT (d + 1) t) : ∃ k, objOf t = obj k ∧ SL (k.map (·.1)) ∧ ∀ p ∈ k, QT d p.2 := by
  rcases h with h | ⟨k, rfl, hs, hq⟩
  · exact ⟨[], by simp [objOf, h, obj, num0], ⟨by simp, by simp⟩, by simp⟩
  · exact ⟨k, objOf_obj k, hs, hq⟩
theorem mergeF_QT : ∀ (d : Nat) (t p : Tr), QT d t → QT d p → QT d (mergeF d t p)
  | 0, t, p, _, hp => hp
  | d + 1, t, p, ht, hp => by
    unfold mergeF
    split
    · rcases hp with hp | ⟨q, rfl, hs, hq⟩
      · contradiction
      · obtain ⟨k, e, s1, q1⟩ := objOf_QO ht
        rw [e, mems_obj]
        obtain ⟨k', e2, s2, q2⟩ := QO_fold (mergeF_QT d) (q := q) (fun p hp => ⟨hs.2 _ (List.mem_map_of_mem hp), hq p hp⟩) s1 q1
        rw [e2]
        exact .inr ⟨k', rfl, s2, q2⟩
    · exact hp
structure WX where
  i : Nat
  u : Tr
def WI (F : Tr → Tr → Tr) (d : Nat) (t : Tr) (q : List (ByteArray × Tr)) (y : WX) : Prop := y.i ≤ q.length ∧ y.u = (q.take y.i).foldl (mstep F) (objOf t) ∧ ∃ k, y.u = obj k ∧ SL (k.map (·.1)) ∧ ∀ p ∈ k, QT d p.2
def WS (t p : Tr) : WX → St
  | ⟨i, u⟩ => ⟨[(2, .oa 0 0), (3, .oa 1 0), (4, .oa 2 0), (5, .oa 3 0), (6, .i .i64 i)],
   [(0, ⟨30, 1, enc t, 0, true, false, true⟩), (1, ⟨30, 1, enc p, 0, true, false, true⟩), (2, ⟨30, 1, [.i .i64 0, .b false, .b false, .nils, .i .i64 0, .s ⟨#[]⟩, .nils, .nils], 0, true, false, true⟩), (3, ⟨30, 1, enc u, 0, true, false, true⟩)], 0⟩
theorem WI.next {F : Tr → Tr → Tr} {d : Nat} {t : Tr} {q : List (ByteArray × Tr)} {i : Nat} {u : Tr} (h : WI F d t q ⟨i, u⟩) (hF : ∀ t p, QT d t → QT d p → QT d (F t p)) (hi : i < q.length) (hp : q[i].1 ∈ N8) (hpq : QT d q[i].2) : WI F d t q ⟨i + 1, mstep F u q[i]⟩ := by
  obtain ⟨h1, h2, k, e, s1, q1⟩ := h
  simp only at h1 h2 e
  refine ⟨hi, by simp only; rw [List.take_succ_eq_append_getElem hi, List.foldl_append, ← h2]; rfl, ?_⟩
  subst e
  exact QO_step hF hp hpq s1 q1
theorem at_kind (ts : List Tr) (i : Nat) (h : i < ts.length) : ((encs ts).drop (mulN (i : Int).toNat 8))[0]? = some (.i .i64 ts[i].kind) := by
  have h1 := (at_tr ts i h).1
  have h2 : (((encs ts).drop (mulN (i : Int).toNat 8)).take 8)[0]? = some (.i .i64 ts[i].kind) := by rw [h1]; rfl
  rw [List.getElem?_take] at h2
  simpa using h2

set_option maxRecDepth 100000 in
set_option maxHeartbeats 2000000 in
theorem rmerge_ct : ∀ (d : Nat) (t p : Tr), QT d t → QT d p → Pure Go.Proofs.Tryz.prog 34 [.ag (enc t), .ag (enc p)] (.ret (.ag (enc (mergeF d t p)))) := by
  have hno : ∀ (d : Nat) (t p : Tr), p.kind ≠ 7 → Pure Go.Proofs.Tryz.prog 34 [.ag (enc t), .ag (enc p)] (.ret (.ag (enc p))) := by
    intro d t p hk
    refine Pure.body tys_valid (fn := Go.Proofs.Tryz.f34) (by kernel_rfl) rfl (by kernel_rfl) rfl ?_
    intro w ok giv E0 _ hE
    refine H.go 200 [] [(11, true)] dr34 rfl ?_ ?_
    · repeat' (first | exact AllP.n | exact trivial | exact DrawB.mk (by decide +kernel) | exact fun _ => rfl | refine AllP.c ?_ ?_)
      all_goals (try dsimp only)
      all_goals try first | exact rfl | exact ⟨trivial, rfl⟩ | exact ⟨trivial, bts_t rfl⟩ | omega | exact at_tr _ _ (by omega) | exact at_s _ _ (by omega) | exact dt (by omega) | exact df (by omega) | exact decide_eq_true (by omega) | exact decide_eq_false (by omega) | exact bts_t (by assumption) | exact bts_f (by assumption) | (rw [bts_t (by assumption)]; rfl) | (rw [bts_f (by assumption)]; rfl) | (unfold InR; omega) | (simp [hk]; done)
    refine ⟨_, _, rfl, ?_, ?_⟩
    · repeat' (first | exact AllP.n | exact trivial | exact DrawB.mk (by decide +kernel) | exact fun _ => rfl | refine AllP.c ?_ ?_)
      all_goals (try dsimp only)
      all_goals try first | exact rfl | exact ⟨trivial, rfl⟩ | exact ⟨trivial, bts_t rfl⟩ | omega | exact at_tr _ _ (by omega) | exact at_s _ _ (by omega) | exact dt (by omega) | exact df (by omega) | exact decide_eq_true (by omega) | exact decide_eq_false (by omega) | exact bts_t (by assumption) | exact bts_f (by assumption) | (rw [bts_t (by assumption)]; rfl) | (rw [bts_f (by assumption)]; rfl) | (unfold InR; omega)
    · exact .refl _
  intro d
  induction d with
  | zero =>
    intro t p _ hp
    exact hno 0 t p hp
  | succ d ih =>
  intro t p ht hp
  by_cases hk : p.kind = 7
  · rcases hp with hp | ⟨q, rfl, hs, hq⟩
    · contradiction
    obtain ⟨k0, ek0, sk0, qk0⟩ := objOf_QO ht
    have hm0 : mergeF (d + 1) t (obj q) = q.foldl (mstep (mergeF d)) (objOf t) := by simp [mergeF, hk, mems_obj]
    rw [hm0]
    have hql : q.length ≤ 8 := by have := hs.len; simpa using this
    have hqn : ∀ i (h : i < q.length), q[i].1 ∈ N8 ∧ QT d q[i].2 := fun i h => ⟨hs.2 _ (List.mem_map_of_mem (List.getElem_mem h)), hq _ (List.getElem_mem h)⟩
    have hkk : (obj q).k = q.map (·.1) := rfl
    have hvv : (obj q).v = q.map (·.2) := rfl
    generalize hpp : obj q = p at hk hkk hvv ⊢
    have hkl : p.k.length = q.length := by simp [hkk]
    have hvl : p.v.length = q.length := by simp [hvv]
    refine Pure.body tys_valid (fn := Go.Proofs.Tryz.f34) (by kernel_rfl) rfl (by kernel_rfl) rfl ?_
    intro w ok giv E0 _ hE
    by_cases htk : t.kind = 7
    · have hot : objOf t = t := by simp [objOf, htk]
      refine H.go 200 [(3, [(0, .wk (.ag (enc (obj []))))])] [(11, false), (16, true)] dr34 rfl ?_ ?_
      · repeat' (first | exact AllP.n | exact trivial | exact DrawB.mk (by decide +kernel) | exact fun _ => rfl | refine AllP.c ?_ ?_)
        all_goals (try dsimp only)
        all_goals try first | exact rfl | exact ⟨trivial, rfl⟩ | exact ⟨trivial, bts_t rfl⟩ | omega | exact at_tr _ _ (by omega) | exact at_s _ _ (by omega) | exact dt (by omega) | exact df (by omega) | exact decide_eq_true (by omega) | exact decide_eq_false (by omega) | exact bts_t (by assumption) | exact bts_f (by assumption) | (rw [bts_t (by assumption)]; rfl) | (rw [bts_f (by assumption)]; rfl) | (unfold InR; omega) | exact ⟨trivial, wk_objn⟩ | (simp [hk]; done) | (simp [htk]; done)
      refine H.loopI (WI (mergeF d) d t q) (WS t p) (fun y => q.length - y.i) ⟨0, t⟩ ⟨Nat.zero_le _, hot.symm, k0, hot ▸ ek0, sk0, qk0⟩ ?_ ?_
      · intro a w s
        exact s.ren hE [] (by repeat' (first | exact trivial | exact rfl | apply And.intro)) (by repeat' (first | exact trivial | exact rfl | apply And.intro)) rfl
      rintro ⟨i, u⟩ hI
      have hI' := hI
      obtain ⟨h1, h2, k, e, s1, q1⟩ := hI'
      simp only at h1 h2 e
      by_cases hi : i < q.length
      · have hik : i < p.k.length := by omega
        have hiv : i < p.v.length := by omega
        have hat : q[i] = (p.k[i], p.v[i]) := by simp [hkk, hvv]
        have hnx := hI.next (mergeF_QT d) hi (hqn i hi).1 (hqn i hi).2
        have hkl8 : k.length ≤ 8 := by have := s1.len; simpa using this
        have hmm := rmember_ct u p.k[i] (by rw [e, (obj_len k).1]; omega) (by rw [e, (obj_len k).2]; omega)
        have hpq := (hqn i hi).2
        rw [hat] at hnx hpq
        by_cases hn : p.v[i].kind = 1
        · have hst : mstep (mergeF d) u (p.k[i], p.v[i]) = tdel u p.k[i] := by simp [mstep, hn]
          rw [hst] at hnx
          have hun := unset_ct u p.k[i] (by rw [e, (obj_len k).1]; omega) (by rw [e, (obj_len k).2]; omega)
          refine H.go 200 [(7, [(5, .gd true)]), (9, [(5, .cell (.i .i64 p.v[i].kind))]), (10, [(5, .cell (.s p.k[i])), (6, .res (.ret (.ag (enc (tdel u p.k[i])))))])] [(29, true), (38, true)] dr34 rfl ?_ ?_
          · repeat' (first | exact AllP.n | exact trivial | exact DrawB.mk (by decide +kernel) | exact fun _ => rfl | refine AllP.c ?_ ?_)
            all_goals (try dsimp only)
            all_goals try first | exact rfl | exact ⟨trivial, rfl⟩ | exact ⟨trivial, bts_t rfl⟩ | omega | exact at_tr _ _ (by omega) | exact at_s _ _ (by omega) | exact dt (by omega) | exact df (by omega) | exact decide_eq_true (by omega) | exact decide_eq_false (by omega) | exact bts_t (by assumption) | exact bts_f (by assumption) | (rw [bts_t (by assumption)]; rfl) | (rw [bts_f (by assumption)]; rfl) | (unfold InR; omega) | exact hun | exact at_kind _ _ hiv | exact at_s _ _ hik | (rw [hn]; rfl)
          exact loopN ⟨i + 1, tdel u p.k[i]⟩ hnx (by show q.length - (i + 1) < q.length - i; omega) fun a w s => s.ren hE [] (by repeat' (first | exact trivial | exact rfl | apply And.intro)) (by repeat' (first | exact trivial | exact rfl | apply And.intro)) rfl
        · have hst : mstep (mergeF d) u (p.k[i], p.v[i]) = tset u p.k[i] (mergeF d ((memb u p.k[i]).getD tNull) p.v[i]) := by simp [mstep, hn]
          rw [hst] at hnx
          have hme := ih ((memb u p.k[i]).getD tNull) p.v[i] (by rw [e]; exact QT_memb q1) hpq
          have hse := set_ct u p.k[i] (mergeF d ((memb u p.k[i]).getD tNull) p.v[i]) (by rw [e, (obj_len k).1]; omega) (by rw [e, (obj_len k).2]; omega)
          generalize mergeF d ((memb u p.k[i]).getD tNull) p.v[i] = z at hme hse hnx
          cases hmu : memb u p.k[i] with
          | none =>
            rw [hmu] at hmm hme
            simp only [Option.isSome, Option.getD] at hmm hme
            refine H.go 200 [(7, [(5, .gd true)]), (9, [(5, .cell (.i .i64 p.v[i].kind))]), (11, [(5, .cell (.s p.k[i])), (6, .res (.ret (.tup [.ag (enc nul), .b false])))]), (13, [(0, .wk (.ag (enc tNull)))]), (14, [(5, .cell (.s p.k[i])), (11, .cells (enc p.v[i])), (12, .res (.ret (.ag (enc z)))), (13, .res (.ret (.ag (enc (tset u p.k[i] z)))))])] [(29, true), (38, false)] dr34 rfl ?_ ?_
            · repeat' (first | exact AllP.n | exact trivial | exact DrawB.mk (by decide +kernel) | exact fun _ => rfl | refine AllP.c ?_ ?_)
              all_goals (try dsimp only)
              all_goals try first | exact rfl | exact ⟨trivial, rfl⟩ | exact ⟨trivial, bts_t rfl⟩ | omega | exact at_tr _ _ (by omega) | exact at_s _ _ (by omega) | exact dt (by omega) | exact df (by omega) | exact decide_eq_true (by omega) | exact decide_eq_false (by omega) | exact bts_t (by assumption) | exact bts_f (by assumption) | (rw [bts_t (by assumption)]; rfl) | (rw [bts_f (by assumption)]; rfl) | (unfold InR; omega) | exact hmm | exact hme | exact hse | exact ⟨trivial, wk_null⟩ | exact at_tr _ _ hiv | exact at_kind _ _ hiv | exact at_s _ _ hik | (rw [hn]; rfl) | (simp [hn]; done)
            exact loopN ⟨i + 1, tset u p.k[i] z⟩ hnx (by show q.length - (i + 1) < q.length - i; omega) fun a w s => s.ren hE [] (by repeat' (first | exact trivial | exact rfl | apply And.intro)) (by repeat' (first | exact trivial | exact rfl | apply And.intro)) rfl
          | some y =>
            rw [hmu] at hmm hme
            simp only [Option.isSome, Option.getD] at hmm hme
            refine H.go 200 [(7, [(5, .gd true)]), (9, [(5, .cell (.i .i64 p.v[i].kind))]), (11, [(5, .cell (.s p.k[i])), (6, .res (.ret (.tup [.ag (enc y), .b true])))]), (14, [(5, .cell (.s p.k[i])), (11, .cells (enc p.v[i])), (12, .res (.ret (.ag (enc z)))), (13, .res (.ret (.ag (enc (tset u p.k[i] z)))))])] [(29, true), (38, false)] dr34 rfl ?_ ?_
            · repeat' (first | exact AllP.n | exact trivial | exact DrawB.mk (by decide +kernel) | exact fun _ => rfl | refine AllP.c ?_ ?_)
              all_goals (try dsimp only)
              all_goals try first | exact rfl | exact ⟨trivial, rfl⟩ | exact ⟨trivial, bts_t rfl⟩ | omega | exact at_tr _ _ (by omega) | exact at_s _ _ (by omega) | exact dt (by omega) | exact df (by omega) | exact decide_eq_true (by omega) | exact decide_eq_false (by omega) | exact bts_t (by assumption) | exact bts_f (by assumption) | (rw [bts_t (by assumption)]; rfl) | (rw [bts_f (by assumption)]; rfl) | (unfold InR; omega) | exact hmm | exact hme | exact hse | exact ⟨trivial, wk_null⟩ | exact at_tr _ _ hiv | exact at_kind _ _ hiv | exact at_s _ _ hik | (rw [hn]; rfl) | (simp [hn]; done)
            exact loopN ⟨i + 1, tset u p.k[i] z⟩ hnx (by show q.length - (i + 1) < q.length - i; omega) fun a w s => s.ren hE [] (by repeat' (first | exact trivial | exact rfl | apply And.intro)) (by repeat' (first | exact trivial | exact rfl | apply And.intro)) rfl
      · have hnk : ¬ i < p.k.length := by omega
        refine H.go 200 [(7, [(5, .gd false)])] [(29, false)] dr34 rfl ?_ ?_
        · repeat' (first | exact AllP.n | exact trivial | exact DrawB.mk (by decide +kernel) | exact fun _ => rfl | refine AllP.c ?_ ?_)
          all_goals (try dsimp only)
          all_goals try first | exact rfl | exact ⟨trivial, rfl⟩ | exact ⟨trivial, bts_t rfl⟩ | omega | exact at_tr _ _ (by omega) | exact at_s _ _ (by omega) | exact dt (by omega) | exact df (by omega) | exact decide_eq_true (by omega) | exact decide_eq_false (by omega) | exact bts_t (by assumption) | exact bts_f (by assumption) | (rw [bts_t (by assumption)]; rfl) | (rw [bts_f (by assumption)]; rfl) | (unfold InR; omega)
        refine H.go 200 [] [] dr34 rfl ?_ ?_
        · repeat' (first | exact AllP.n | exact trivial | exact DrawB.mk (by decide +kernel) | exact fun _ => rfl | refine AllP.c ?_ ?_)
          all_goals (try dsimp only)
          all_goals try first | exact rfl | exact ⟨trivial, rfl⟩ | exact ⟨trivial, bts_t rfl⟩ | omega | exact at_tr _ _ (by omega) | exact at_s _ _ (by omega) | exact dt (by omega) | exact df (by omega) | exact decide_eq_true (by omega) | exact decide_eq_false (by omega) | exact bts_t (by assumption) | exact bts_f (by assumption) | (rw [bts_t (by assumption)]; rfl) | (rw [bts_f (by assumption)]; rfl) | (unfold InR; omega)
        refine ⟨_, _, rfl, ?_, ?_⟩
        · repeat' (first | exact AllP.n | exact trivial | exact DrawB.mk (by decide +kernel) | exact fun _ => rfl | refine AllP.c ?_ ?_)
          all_goals (try dsimp only)
          all_goals try first | exact rfl | exact ⟨trivial, rfl⟩ | exact ⟨trivial, bts_t rfl⟩ | omega | exact at_tr _ _ (by omega) | exact at_s _ _ (by omega) | exact dt (by omega) | exact df (by omega) | exact decide_eq_true (by omega) | exact decide_eq_false (by omega) | exact bts_t (by assumption) | exact bts_f (by assumption) | (rw [bts_t (by assumption)]; rfl) | (rw [bts_f (by assumption)]; rfl) | (unfold InR; omega)
        · (have hf : q.take i = q := List.take_of_length_le (by omega); rw [hf] at h2; rw [← h2]; exact .refl _)
    · have hot : objOf t = obj [] := by simp [objOf, htk, obj, num0]
      refine H.go 200 [(3, [(0, .wk (.ag (enc (obj []))))])] [(11, false), (16, false)] dr34 rfl ?_ ?_
      · repeat' (first | exact AllP.n | exact trivial | exact DrawB.mk (by decide +kernel) | exact fun _ => rfl | refine AllP.c ?_ ?_)
        all_goals (try dsimp only)
        all_goals try first | exact rfl | exact ⟨trivial, rfl⟩ | exact ⟨trivial, bts_t rfl⟩ | omega | exact at_tr _ _ (by omega) | exact at_s _ _ (by omega) | exact dt (by omega) | exact df (by omega) | exact decide_eq_true (by omega) | exact decide_eq_false (by omega) | exact bts_t (by assumption) | exact bts_f (by assumption) | (rw [bts_t (by assumption)]; rfl) | (rw [bts_f (by assumption)]; rfl) | (unfold InR; omega) | exact ⟨trivial, wk_objn⟩ | (simp [hk]; done) | (simp [htk]; done)
      refine H.loopI (WI (mergeF d) d t q) (WS t p) (fun y => q.length - y.i) ⟨0, obj []⟩ ⟨Nat.zero_le _, hot.symm, k0, hot ▸ ek0, sk0, qk0⟩ ?_ ?_
      · intro a w s
        exact s.ren hE [] (by repeat' (first | exact trivial | exact rfl | apply And.intro)) (by repeat' (first | exact trivial | exact rfl | apply And.intro)) rfl
      rintro ⟨i, u⟩ hI
      have hI' := hI
      obtain ⟨h1, h2, k, e, s1, q1⟩ := hI'
      simp only at h1 h2 e
      by_cases hi : i < q.length
      · have hik : i < p.k.length := by omega
        have hiv : i < p.v.length := by omega
        have hat : q[i] = (p.k[i], p.v[i]) := by simp [hkk, hvv]
        have hnx := hI.next (mergeF_QT d) hi (hqn i hi).1 (hqn i hi).2
        have hkl8 : k.length ≤ 8 := by have := s1.len; simpa using this
        have hmm := rmember_ct u p.k[i] (by rw [e, (obj_len k).1]; omega) (by rw [e, (obj_len k).2]; omega)
        have hpq := (hqn i hi).2
        rw [hat] at hnx hpq
        by_cases hn : p.v[i].kind = 1
        · have hst : mstep (mergeF d) u (p.k[i], p.v[i]) = tdel u p.k[i] := by simp [mstep, hn]
          rw [hst] at hnx
          have hun := unset_ct u p.k[i] (by rw [e, (obj_len k).1]; omega) (by rw [e, (obj_len k).2]; omega)
          refine H.go 200 [(7, [(5, .gd true)]), (9, [(5, .cell (.i .i64 p.v[i].kind))]), (10, [(5, .cell (.s p.k[i])), (6, .res (.ret (.ag (enc (tdel u p.k[i])))))])] [(29, true), (38, true)] dr34 rfl ?_ ?_
          · repeat' (first | exact AllP.n | exact trivial | exact DrawB.mk (by decide +kernel) | exact fun _ => rfl | refine AllP.c ?_ ?_)
            all_goals (try dsimp only)
            all_goals try first | exact rfl | exact ⟨trivial, rfl⟩ | exact ⟨trivial, bts_t rfl⟩ | omega | exact at_tr _ _ (by omega) | exact at_s _ _ (by omega) | exact dt (by omega) | exact df (by omega) | exact decide_eq_true (by omega) | exact decide_eq_false (by omega) | exact bts_t (by assumption) | exact bts_f (by assumption) | (rw [bts_t (by assumption)]; rfl) | (rw [bts_f (by assumption)]; rfl) | (unfold InR; omega) | exact hun | exact at_kind _ _ hiv | exact at_s _ _ hik | (rw [hn]; rfl)
          exact loopN ⟨i + 1, tdel u p.k[i]⟩ hnx (by show q.length - (i + 1) < q.length - i; omega) fun a w s => s.ren hE [] (by repeat' (first | exact trivial | exact rfl | apply And.intro)) (by repeat' (first | exact trivial | exact rfl | apply And.intro)) rfl
        · have hst : mstep (mergeF d) u (p.k[i], p.v[i]) = tset u p.k[i] (mergeF d ((memb u p.k[i]).getD tNull) p.v[i]) := by simp [mstep, hn]
          rw [hst] at hnx
          have hme := ih ((memb u p.k[i]).getD tNull) p.v[i] (by rw [e]; exact QT_memb q1) hpq
          have hse := set_ct u p.k[i] (mergeF d ((memb u p.k[i]).getD tNull) p.v[i]) (by rw [e, (obj_len k).1]; omega) (by rw [e, (obj_len k).2]; omega)
          generalize mergeF d ((memb u p.k[i]).getD tNull) p.v[i] = z at hme hse hnx
          cases hmu : memb u p.k[i] with
          | none =>
            rw [hmu] at hmm hme
            simp only [Option.isSome, Option.getD] at hmm hme
            refine H.go 200 [(7, [(5, .gd true)]), (9, [(5, .cell (.i .i64 p.v[i].kind))]), (11, [(5, .cell (.s p.k[i])), (6, .res (.ret (.tup [.ag (enc nul), .b false])))]), (13, [(0, .wk (.ag (enc tNull)))]), (14, [(5, .cell (.s p.k[i])), (11, .cells (enc p.v[i])), (12, .res (.ret (.ag (enc z)))), (13, .res (.ret (.ag (enc (tset u p.k[i] z)))))])] [(29, true), (38, false)] dr34 rfl ?_ ?_
            · repeat' (first | exact AllP.n | exact trivial | exact DrawB.mk (by decide +kernel) | exact fun _ => rfl | refine AllP.c ?_ ?_)
              all_goals (try dsimp only)
              all_goals try first | exact rfl | exact ⟨trivial, rfl⟩ | exact ⟨trivial, bts_t rfl⟩ | omega | exact at_tr _ _ (by omega) | exact at_s _ _ (by omega) | exact dt (by omega) | exact df (by omega) | exact decide_eq_true (by omega) | exact decide_eq_false (by omega) | exact bts_t (by assumption) | exact bts_f (by assumption) | (rw [bts_t (by assumption)]; rfl) | (rw [bts_f (by assumption)]; rfl) | (unfold InR; omega) | exact hmm | exact hme | exact hse | exact ⟨trivial, wk_null⟩ | exact at_tr _ _ hiv | exact at_kind _ _ hiv | exact at_s _ _ hik | (rw [hn]; rfl) | (simp [hn]; done)
            exact loopN ⟨i + 1, tset u p.k[i] z⟩ hnx (by show q.length - (i + 1) < q.length - i; omega) fun a w s => s.ren hE [] (by repeat' (first | exact trivial | exact rfl | apply And.intro)) (by repeat' (first | exact trivial | exact rfl | apply And.intro)) rfl
          | some y =>
            rw [hmu] at hmm hme
            simp only [Option.isSome, Option.getD] at hmm hme
            refine H.go 200 [(7, [(5, .gd true)]), (9, [(5, .cell (.i .i64 p.v[i].kind))]), (11, [(5, .cell (.s p.k[i])), (6, .res (.ret (.tup [.ag (enc y), .b true])))]), (14, [(5, .cell (.s p.k[i])), (11, .cells (enc p.v[i])), (12, .res (.ret (.ag (enc z)))), (13, .res (.ret (.ag (enc (tset u p.k[i] z)))))])] [(29, true), (38, false)] dr34 rfl ?_ ?_
            · repeat' (first | exact AllP.n | exact trivial | exact DrawB.mk (by decide +kernel) | exact fun _ => rfl | refine AllP.c ?_ ?_)
              all_goals (try dsimp only)
              all_goals try first | exact rfl | exact ⟨trivial, rfl⟩ | exact ⟨trivial, bts_t rfl⟩ | omega | exact at_tr _ _ (by omega) | exact at_s _ _ (by omega) | exact dt (by omega) | exact df (by omega) | exact decide_eq_true (by omega) | exact decide_eq_false (by omega) | exact bts_t (by assumption) | exact bts_f (by assumption) | (rw [bts_t (by assumption)]; rfl) | (rw [bts_f (by assumption)]; rfl) | (unfold InR; omega) | exact hmm | exact hme | exact hse | exact ⟨trivial, wk_null⟩ | exact at_tr _ _ hiv | exact at_kind _ _ hiv | exact at_s _ _ hik | (rw [hn]; rfl) | (simp [hn]; done)
            exact loopN ⟨i + 1, tset u p.k[i] z⟩ hnx (by show q.length - (i + 1) < q.length - i; omega) fun a w s => s.ren hE [] (by repeat' (first | exact trivial | exact rfl | apply And.intro)) (by repeat' (first | exact trivial | exact rfl | apply And.intro)) rfl
      · have hnk : ¬ i < p.k.length := by omega
        refine H.go 200 [(7, [(5, .gd false)])] [(29, false)] dr34 rfl ?_ ?_
        · repeat' (first | exact AllP.n | exact trivial | exact DrawB.mk (by decide +kernel) | exact fun _ => rfl | refine AllP.c ?_ ?_)
          all_goals (try dsimp only)
          all_goals try first | exact rfl | exact ⟨trivial, rfl⟩ | exact ⟨trivial, bts_t rfl⟩ | omega | exact at_tr _ _ (by omega) | exact at_s _ _ (by omega) | exact dt (by omega) | exact df (by omega) | exact decide_eq_true (by omega) | exact decide_eq_false (by omega) | exact bts_t (by assumption) | exact bts_f (by assumption) | (rw [bts_t (by assumption)]; rfl) | (rw [bts_f (by assumption)]; rfl) | (unfold InR; omega)
        refine H.go 200 [] [] dr34 rfl ?_ ?_
        · repeat' (first | exact AllP.n | exact trivial | exact DrawB.mk (by decide +kernel) | exact fun _ => rfl | refine AllP.c ?_ ?_)
          all_goals (try dsimp only)
          all_goals try first | exact rfl | exact ⟨trivial, rfl⟩ | exact ⟨trivial, bts_t rfl⟩ | omega | exact at_tr _ _ (by omega) | exact at_s _ _ (by omega) | exact dt (by omega) | exact df (by omega) | exact decide_eq_true (by omega) | exact decide_eq_false (by omega) | exact bts_t (by assumption) | exact bts_f (by assumption) | (rw [bts_t (by assumption)]; rfl) | (rw [bts_f (by assumption)]; rfl) | (unfold InR; omega)
        refine ⟨_, _, rfl, ?_, ?_⟩
        · repeat' (first | exact AllP.n | exact trivial | exact DrawB.mk (by decide +kernel) | exact fun _ => rfl | refine AllP.c ?_ ?_)
          all_goals (try dsimp only)
          all_goals try first | exact rfl | exact ⟨trivial, rfl⟩ | exact ⟨trivial, bts_t rfl⟩ | omega | exact at_tr _ _ (by omega) | exact at_s _ _ (by omega) | exact dt (by omega) | exact df (by omega) | exact decide_eq_true (by omega) | exact decide_eq_false (by omega) | exact bts_t (by assumption) | exact bts_f (by assumption) | (rw [bts_t (by assumption)]; rfl) | (rw [bts_f (by assumption)]; rfl) | (unfold InR; omega)
        · (have hf : q.take i = q := List.take_of_length_le (by omega); rw [hf] at h2; rw [← h2]; exact .refl _)
  · have : mergeF (d + 1) t p = p := by simp [mergeF, hk]
    rw [this]
    exact hno d t p hk
end Go.Px
end

section
namespace Go.Px
open Go.RowKit
theorem look_setK_ne {hb : Bool} {x y : ByteArray} {v : Tr} (h : x ≠ y) : ∀ (l : List (ByteArray × Tr)), look (setK hb x v false l) y = look l y
  | [] => by simp [setK, look, h]
  | p :: r => by
    simp only [setK]
    split
    · rename_i e
      rw [setK_true]
      simp [look, h, e]
    · split
      · rw [setK_true]; simp [look, h]
      · simp only [look, look_setK_ne h r]
theorem look_setK_eq {hb : Bool} {x : ByteArray} {v : Tr} : ∀ (l : List (ByteArray × Tr)), look (setK hb x v false l) x = some v
  | [] => by simp [setK, look]
  | p :: r => by
    simp only [setK]
    split
    · simp [look]
    · rename_i e
      split
      · simp [look]
      · simp only [look, e, if_false]; exact look_setK_eq r
theorem look_none {l : List (ByteArray × Tr)} {x : ByteArray} : look l x = none ↔ x ∉ l.map (·.1) := by
  rw [← look_isSome]; cases look l x <;> simp
theorem look_delK_ne {x y : ByteArray} (h : x ≠ y) : ∀ (l : List (ByteArray × Tr)), look (delK x false l) y = look l y
  | [] => by simp [delK]
  | p :: r => by
    simp only [delK]
    split
    · rename_i e
      rw [delK_true]
      simp [look, h, e]
    · simp only [look, look_delK_ne h r]
theorem look_delK_eq {x : ByteArray} : ∀ (l : List (ByteArray × Tr)), (l.map (·.1)).Nodup → look (delK x false l) x = none
  | [], _ => by simp [delK, look]
  | p :: r, hn => by
    simp only [List.map_cons, List.nodup_cons] at hn
    simp only [delK]
    split
    · rename_i e
      rw [delK_true, look_none, ← e]
      exact hn.1
    · rename_i e
      simp only [look, e, if_false]
      exact look_delK_eq r hn.2
theorem SL.nodup {l : List ByteArray} (h : SL l) : l.Nodup := by
  have h1 : (l.map rk).Nodup := h.1.imp (fun h => by omega)
  exact List.Pairwise.of_map rk (fun a b h e => h (by rw [e])) h1
theorem look_tdel {k : List (ByteArray × Tr)} (x y : ByteArray) (hs : SL (k.map (·.1))) : memb (tdel (obj k) x) y = if x = y then none else look k y := by
  unfold tdel
  rw [memb_obj, mems_obj]
  by_cases h : x = y
  · subst h
    rw [if_pos rfl]
    split
    · rw [memb_obj]; exact look_delK_eq k hs.nodup
    · rename_i e
      rw [memb_obj]
      cases hl : look k x with
      | none => rfl
      | some v => rw [hl] at e; simp at e
  · rw [if_neg h]
    split
    · rw [memb_obj, look_delK_ne h]
    · rw [memb_obj]
theorem look_tset {k : List (ByteArray × Tr)} (x y : ByteArray) (v : Tr) : memb (tset (obj k) x v) y = if x = y then some v else look k y := by
  rw [tset_obj, memb_obj]
  by_cases h : x = y
  · subst h; rw [if_pos rfl, look_setK_eq]
  · rw [if_neg h, look_setK_ne h]
theorem memb_mstep {F : Tr → Tr → Tr} {k : List (ByteArray × Tr)} (p : ByteArray × Tr) (y : ByteArray) (hs : SL (k.map (·.1))) :
    memb (mstep F (obj k) p) y = if p.1 = y then (if p.2.kind = 1 then none else some (F ((look k y).getD tNull) p.2)) else look k y := by
  unfold mstep
  by_cases h1 : p.2.kind = 1
  · simp only [h1, if_true]
    exact look_tdel _ _ hs
  · simp only [h1, if_false]
    rw [look_tset, memb_obj]
    by_cases h : p.1 = y
    · simp [h]
    · simp [h]
theorem memb_mfold {d : Nat} {F : Tr → Tr → Tr} (hF : ∀ t p, QT d t → QT d p → QT d (F t p)) (y : ByteArray) : ∀ (q k : List (ByteArray × Tr)), (q.map (·.1)).Nodup → (∀ p ∈ q, p.1 ∈ N8 ∧ QT d p.2) → SL (k.map (·.1)) → (∀ p ∈ k, QT d p.2) →
    memb (q.foldl (mstep F) (obj k)) y = match look q y with | none => look k y | some v => if v.kind = 1 then none else some (F ((look k y).getD tNull) v)
  | [], k, _, _, _, _ => by simp [look, memb_obj]
  | p :: q, k, hn, h, hs, hq => by
    obtain ⟨k1, e1, s1, q1⟩ := QO_step hF (h p (by simp)).1 (h p (by simp)).2 hs hq
    simp only [List.map_cons, List.nodup_cons] at hn
    have hm := memb_mstep (F := F) p y hs
    rw [e1, memb_obj] at hm
    rw [List.foldl_cons, e1, memb_mfold hF y q k1 hn.2 (fun p hp => h p (by simp [hp])) s1 q1, hm]
    by_cases h1 : p.1 = y
    · have : look q y = none := look_none.2 (h1 ▸ hn.1)
      rw [this]
      simp [look, h1]
    · simp [look, h1]
theorem objs_eq0 : ∀ (u k : List (ByteArray × Tr)), u.map (·.1) = k.map (·.1) → (u.map (·.1)).Nodup → (∀ y, look u y = look k y) → u = k
  | [], [], _, _, _ => rfl
  | [], q :: k, h, _, _ => by simp at h
  | p :: u, [], h, _, _ => by simp at h
  | p :: u, q :: k, he, hn, h => by
    simp only [List.map_cons, List.cons.injEq] at he
    simp only [List.map_cons, List.nodup_cons] at hn
    have h1 := h p.1
    simp only [look, if_true, ← he.1, Option.some.injEq] at h1
    have e1 : p = q := Prod.ext he.1 h1
    subst e1
    rw [objs_eq0 u k he.2 hn.2 fun y => ?_]
    by_cases hy : p.1 = y
    · subst hy
      rw [look_none.2 hn.1, look_none.2 (he.2 ▸ hn.1)]
    · have := h y
      simpa only [look, hy, if_false] using this
theorem objs_eq {u k : List (ByteArray × Tr)} (hu : SL (u.map (·.1))) (hk : SL (k.map (·.1))) (h : ∀ y, look u y = look k y) : u = k :=
  objs_eq0 u k (SL.eq hu hk fun x => by rw [← look_isSome, ← look_isSome, h]) hu.nodup h
/-! What is merged in, merged: the second value. -/
theorem mput_cases {f : Tr → Tr → Option Tr} {a b : Tr} {x : ByteArray} {p : List (ByteArray × Tr)} (h : mput f a b x = some p) : p = [] ∨ ∃ v, p = [(x, v)] := by
  unfold mput at h
  split at h
  · exact .inl (Option.some.inj h).symm
  · split at h
    · exact .inr ⟨_, (Option.some.inj h).symm⟩
    · split at h
      · cases h
      · split at h
        · cases h
        · exact .inr ⟨_, (Option.some.inj h).symm⟩
theorem mfold_look {f : Tr → Tr → Option Tr} {a b : Tr} : ∀ {l : List ByteArray} {q : List (ByteArray × Tr)}, l.Nodup → mfold f a b l = some q → (q.map (·.1)).Sublist l ∧
    ∀ y, (y ∈ l → ∃ p, mput f a b y = some p ∧ look q y = look p y) ∧ (y ∉ l → look q y = none)
  | [], q, _, h => by
    simp only [mfold, Option.some.injEq] at h
    subst h
    simp [look]
  | x :: l, q, hn, h => by
    simp only [mfold] at h
    split at h
    · cases h
    · rename_i p hp
      split at h
      · cases h
      · rename_i q1 hq1
        have h := (Option.some.inj h).symm
        obtain ⟨i1, i2⟩ := mfold_look (List.nodup_cons.1 hn).2 hq1
        have hx := (List.nodup_cons.1 hn).1
        rcases mput_cases hp with rfl | ⟨v, rfl⟩
        · rw [List.nil_append] at h
          subst h
          refine ⟨.cons _ i1, fun y => ⟨fun hy => ?_, fun hy => (i2 y).2 fun h => hy (List.mem_cons_of_mem _ h)⟩⟩
          rcases List.mem_cons.1 hy with rfl | hy
          · exact ⟨_, hp, by rw [(i2 y).2 hx]; rfl⟩
          · exact (i2 y).1 hy
        · subst h
          refine ⟨.cons_cons _ i1, fun y => ⟨fun hy => ?_, fun hy => ?_⟩⟩
          · by_cases e : x = y
            · subst e
              exact ⟨_, hp, by simp [look]⟩
            · rcases List.mem_cons.1 hy with rfl | hy
              · exact absurd rfl e
              · obtain ⟨p2, r1, r2⟩ := (i2 y).1 hy
                exact ⟨p2, r1, by simpa [look, e] using r2⟩
          · have e : x ≠ y := fun e => hy (by simp [e])
            have := (i2 y).2 fun h => hy (List.mem_cons_of_mem _ h)
            simpa [look, e] using this
theorem mfold_no {f : Tr → Tr → Option Tr} {a b : Tr} {x : ByteArray} (hn : mput f a b x = none) : ∀ {l : List ByteArray}, x ∈ l → mfold f a b l = none
  | y :: l, h => by
    simp only [mfold]
    rcases List.mem_cons.1 h with rfl | h
    · rw [hn]
    · rw [mfold_no hn h]
      cases mput f a b y <;> rfl
theorem mergeF_no {d : Nat} {t u p : Tr} (h : t.kind ≠ 7) (h2 : u.kind ≠ 7) : mergeF d t p = mergeF d u p := by
  cases d with
  | zero => rfl
  | succ d => simp [mergeF, objOf, h, h2]
theorem alike_obj {a b : List (ByteArray × Tr)} {x : ByteArray} : alike (obj a) (obj b) x = true ↔ look a x = look b x := by
  unfold alike
  rw [memb_obj, memb_obj]
  simp
/-- What is put for a name. -/
theorem mput_look {F : Tr → Tr → Option Tr} {a b : List (ByteArray × Tr)} {x : ByteArray} {p : List (ByteArray × Tr)} (h : mput F (obj a) (obj b) x = some p) :
    (look a x = look b x ∧ look p x = none) ∨ (look a x ≠ look b x ∧ look b x = none ∧ look p x = some tNull) ∨
    (look a x ≠ look b x ∧ ∃ v r, look b x = some v ∧ v.kind ≠ 1 ∧ F ((look a x).getD nul) v = some r ∧ look p x = some r) := by
  unfold mput at h
  rw [memb_obj, memb_obj] at h
  split at h
  · rename_i e
    refine .inl ⟨alike_obj.1 e, ?_⟩
    rw [← Option.some.inj h]; rfl
  · rename_i e
    have e := fun h => e (alike_obj.2 h)
    split at h
    · rename_i hb
      refine .inr (.inl ⟨e, hb, ?_⟩)
      rw [← Option.some.inj h]; simp [look]
    · rename_i v hb
      split at h
      · cases h
      · rename_i hk
        split at h
        · cases h
        · rename_i r hr
          refine .inr (.inr ⟨e, v, r, hb, hk, hr, ?_⟩)
          rw [← Option.some.inj h]; simp [look]
theorem QT_nul (d : Nat) : QT d nul := by
  cases d with
  | zero => exact (by decide : nul.kind ≠ 7)
  | succ d => exact .inl (by decide)
theorem QT_tNull (d : Nat) : QT d tNull := by
  cases d with
  | zero => exact (by decide : tNull.kind ≠ 7)
  | succ d => exact .inl (by decide)
theorem QT_lookD {d : Nat} {k : List (ByteArray × Tr)} {x : ByteArray} (hq : ∀ p ∈ k, QT d p.2) : QT d ((look k x).getD nul) := by
  cases h : look k x with
  | none => exact QT_nul d
  | some v => exact hq _ (look_some h)
theorem look_mem {k : List (ByteArray × Tr)} (hn : (k.map (·.1)).Nodup) : ∀ {p : ByteArray × Tr}, p ∈ k → look k p.1 = some p.2 := by
  induction k with
  | nil => intro p h; simp at h
  | cons q r ih =>
    intro p h
    simp only [List.map_cons, List.nodup_cons] at hn
    rcases List.mem_cons.1 h with rfl | h
    · simp [look]
    · have : q.1 ≠ p.1 := fun e => hn.1 (e ▸ List.mem_map_of_mem h)
      simp only [look, this, if_false]
      exact ih hn.2 h
theorem merge_back : ∀ (n d : Nat) (a b p : Tr), QT d a → QT d b → nodes b ≤ n → mergedF n a b = some p → QT d p ∧ mergeF d a p = b ∧ (b.kind ≠ 1 → p.kind ≠ 1)
  | 0, d, a, b, p, _, _, hn, _ => by rw [nodes_eq] at hn; omega
  | n + 1, d, a, b, p, ha, hb, hn, h => by
    by_cases hk : b.kind = 7
    · cases d with
      | zero => exact absurd hk hb
      | succ d =>
      rcases hb with hb | ⟨kb, rfl, sb, qb⟩
      · contradiction
      obtain ⟨ka, ea, sa, qa⟩ := objOf_QO ha
      simp only [mergedF, hk, ne_eq, not_true, if_false, ea] at h
      obtain ⟨q, hq, rfl⟩ := Option.map_eq_some_iff.1 h
      obtain ⟨snm, mnm⟩ := nmS_SL sa sb
      obtain ⟨hsub, hl⟩ := mfold_look snm.nodup hq
      have sq : SL (q.map (·.1)) := snm.sub hsub
      have key : ∀ x, (look ka x = look kb x ∧ look q x = none) ∨ (look ka x ≠ look kb x ∧ look kb x = none ∧ look q x = some tNull) ∨
          (look ka x ≠ look kb x ∧ ∃ v r, look kb x = some v ∧ v.kind ≠ 1 ∧ look q x = some r ∧ QT d r ∧ mergeF d ((look ka x).getD nul) r = v ∧ r.kind ≠ 1) := by
        intro x
        by_cases hx : x ∈ nmS (obj ka) (obj kb)
        · obtain ⟨p, hp, hlp⟩ := (hl x).1 hx
          rcases mput_look hp with ⟨h1, h2⟩ | ⟨h1, h2, h3⟩ | ⟨h1, v, r, h2, h3, h4, h5⟩
          · exact .inl ⟨h1, hlp.trans h2⟩
          · exact .inr (.inl ⟨h1, h2, hlp.trans h3⟩)
          · have hnv : nodes v ≤ n := by
              have := memb_nodes (b := obj kb) (x := x) (v := v) (by rw [memb_obj]; exact h2)
              omega
            have ih := merge_back n d _ v r (QT_lookD (x := x) qa) (qb _ (look_some h2)) hnv h4
            exact .inr (.inr ⟨h1, v, r, h2, h3, hlp.trans h5, ih.1, ih.2.1, ih.2.2 h3⟩)
        · have h1 := fun h => hx ((mnm x).2 h)
          have h2 : look ka x = none := look_none.2 fun h => h1 (.inl h)
          have h3 : look kb x = none := look_none.2 fun h => h1 (.inr h)
          exact .inl ⟨h2.trans h3.symm, (hl x).2 hx⟩
      have hqq : ∀ p ∈ q, QT d p.2 := by
        intro p hp
        have hlk := look_mem sq.nodup hp
        rcases key p.1 with ⟨_, h2⟩ | ⟨_, _, h2⟩ | ⟨_, v, r, _, _, h2, h3, _⟩
        · rw [h2] at hlk; cases hlk
        · rw [← Option.some.inj (h2.symm.trans hlk)]; exact QT_tNull d
        · rw [← Option.some.inj (h2.symm.trans hlk)]; exact h3
      refine ⟨.inr ⟨q, rfl, sq, hqq⟩, ?_, fun _ => by simp [obj, Tr.kind]⟩
      have hq8 : ∀ p ∈ q, p.1 ∈ N8 ∧ QT d p.2 := fun p hp => ⟨sq.2 _ (List.mem_map_of_mem hp), hqq p hp⟩
      have e0 : mergeF (d + 1) a (obj q) = q.foldl (mstep (mergeF d)) (obj ka) := by
        have : (obj q).kind = 7 := rfl
        simp only [mergeF, this, if_true, mems_obj, ea]
      obtain ⟨u, eu, su, qu⟩ := QO_fold (mergeF_QT d) hq8 sa qa
      rw [e0, eu]
      have hme := fun y => memb_mfold (mergeF_QT d) y q ka sq.nodup hq8 sa qa
      rw [eu] at hme
      congr 1
      refine objs_eq su sb fun y => ?_
      rw [← memb_obj, hme y]
      rcases key y with ⟨h1, h2⟩ | ⟨_, h1, h2⟩ | ⟨_, v, r, h1, _, h2, _, h3, h4⟩
      · rw [h2]; exact h1
      · rw [h2, h1]; rfl
      · rw [h2, h1]
        simp only [h4, if_false]
        congr 1
        rw [← h3]
        cases hla : look ka y with
        | none => exact mergeF_no (by decide) (by decide)
        | some w => rfl
    · simp only [mergedF, ne_eq, hk, not_false_eq_true, if_true, Option.some.injEq] at h
      subst h
      refine ⟨hb, ?_, fun h => h⟩
      cases d with
      | zero => rfl
      | succ d => simp [mergeF, hk]
end Go.Px
end

section
namespace Go.Px
open Go.RowKit

theorem GT_QT : ∀ {d : Nat} {t : Tr}, GT d t → QT d t
  | 0, t, h => h.2.2
  | d + 1, t, h => by
    rcases h with h | ⟨v, rfl, _, _⟩ | ⟨l, rfl, _, hs, hq⟩
    · exact .inl h.2.2
    · exact .inl (by simp [Tr.kind])
    · exact .inr ⟨l, rfl, hs, fun p hp => GT_QT (hq p hp)⟩
theorem GT_null {d : Nat} : GT d tNull := leaf_GT ⟨.null, rfl, by decide⟩
theorem OKT_obj {d : Nat} {k : List (ByteArray × Tr)} (hd : d ≤ 3) (hl : k.length ≤ 8) (hs : SL (k.map (·.1))) (hq : ∀ p ∈ k, GT d p.2) : OKT (obj k) := by
  have hv : ∀ t ∈ k.map (·.2), GT d t := by
    intro t ht
    obtain ⟨p, hp, rfl⟩ := List.mem_map.1 ht
    exact hq p hp
  have hn : nb d ≤ 121 := by
    rcases (by omega : d = 0 ∨ d = 1 ∨ d = 2 ∨ d = 3) with rfl | rfl | rfl | rfl <;> decide
  have h1 := nodesL_bound fun t ht => (hv t ht).spec.2.2
  have h2 := depthL_bound fun t ht => (hv t ht).spec.2.1
  have h3 : (k.map (·.2)).length * nb d ≤ 8 * 121 := Nat.mul_le_mul (by simpa using hl) hn
  refine ⟨.obj _ _ (hs.names (by simp; omega)) (by simp) fun t ht => (hv t ht).spec.1, ?_, ?_⟩
  · rw [nodes_eq]; simp only [obj, Tr.v]; omega
  · simp only [obj, depth]; omega
theorem merged_none {a b : List (ByteArray × Tr)} {x : ByteArray} (ha : SL (a.map (·.1))) (hb : SL (b.map (·.1))) (h1 : look a x ≠ some tNull) (h2 : look b x = some tNull) : (mergeS (obj a) (obj b)).2 = false := by
  obtain ⟨snm, mnm⟩ := nmS_SL ha hb
  have hx : x ∈ nmS (obj a) (obj b) := (mnm x).2 (.inr (look_isSome.1 (by rw [h2]; rfl)))
  have hp : ∀ F, mput F (obj a) (obj b) x = none := by
    intro F
    unfold mput
    rw [if_neg (fun h => h1 ((alike_obj.1 h).trans h2)), memb_obj, h2]
    rfl
  unfold mergeS
  have : nodes (obj b) = nodesL (obj b).v + 1 := by rw [nodes_eq]; omega
  rw [this]
  simp only [mergedF, objOf_obj]
  have hk : (obj b).kind = 7 := rfl
  rw [mfold_no (hp _) hx]
  simp [hk]
theorem merged_some {d : Nat} {a b : List (ByteArray × Tr)} {p : Tr} (sa : SL (a.map (·.1))) (sb : SL (b.map (·.1))) (qa : ∀ p ∈ a, QT d p.2) (qb : ∀ p ∈ b, QT d p.2) (h : mergedF (nodes (obj b)) (obj a) (obj b) = some p) :
    ∃ q, p = obj q ∧ SL (q.map (·.1)) ∧ QT (d + 1) p ∧ mergeF (d + 1) (obj a) p = obj b ∧ ∀ x, (look a x = look b x ∧ look q x = none) ∨ (look a x ≠ look b x ∧ look b x = none ∧ look q x = some tNull) ∨
      (look a x ≠ look b x ∧ ∃ v r, look b x = some v ∧ look q x = some r) := by
  have hm := merge_back _ (d + 1) _ _ _ (.inr ⟨a, rfl, sa, qa⟩) (.inr ⟨b, rfl, sb, qb⟩) (Nat.le_refl _) h
  have : nodes (obj b) = nodesL (obj b).v + 1 := by rw [nodes_eq]; omega
  rw [this] at h
  have hk : (obj b).kind = 7 := rfl
  simp only [mergedF, hk, ne_eq, not_true, if_false, objOf_obj] at h
  obtain ⟨q, hq, rfl⟩ := Option.map_eq_some_iff.1 h
  obtain ⟨snm, mnm⟩ := nmS_SL sa sb
  obtain ⟨hsub, hl⟩ := mfold_look snm.nodup hq
  refine ⟨q, rfl, snm.sub hsub, hm.1, hm.2.1, fun x => ?_⟩
  by_cases hx : x ∈ nmS (obj a) (obj b)
  · obtain ⟨p, hp, hlp⟩ := (hl x).1 hx
    rcases mput_look hp with ⟨h1, h2⟩ | ⟨h1, h2, h3⟩ | ⟨h1, v, r, h2, h3, h4, h5⟩
    · exact .inl ⟨h1, hlp.trans h2⟩
    · exact .inr (.inl ⟨h1, h2, hlp.trans h3⟩)
    · exact .inr (.inr ⟨h1, v, r, h2, hlp.trans h5⟩)
  · have h1 := fun h => hx ((mnm x).2 h)
    have h2 : look a x = none := look_none.2 fun h => h1 (.inl h)
    have h3 : look b x = none := look_none.2 fun h => h1 (.inr h)
    exact .inl ⟨h2.trans h3.symm, (hl x).2 hx⟩
set_option maxHeartbeats 8000000 in
set_option maxRecDepth 100000 in
theorem diffMerges_ct (l k : List Int) (nm : Int) : Pure Go.Proofs.Tryz.prog 7 [.sl 1 l.length (l.map iD), .sl 1 k.length (k.map iD), .i .i64 nm] (.ret (.b true)) := by
  have haw := awake20_ct
  refine Pure.body tys_valid (fn := Go.Proofs.Tryz.f7) (by kernel_rfl) rfl (by kernel_rfl) rfl ?_
  intro w ok giv E0 _ hE
  by_cases hl40 : l.length > 40
  · skip
    refine H.go 200 [(1, [(2, .gd true)]), (2, [(0, .res (.ret (.b true)))])] [] dr7 rfl ?_ ?_
    · repeat' (first | exact AllP.n | exact trivial | exact DrawB.mk (by decide +kernel) | exact fun _ => rfl | refine AllP.c ?_ ?_)
      all_goals (try dsimp only)
      all_goals try first | exact rfl | exact ⟨trivial, rfl⟩ | exact ⟨trivial, bts_t rfl⟩ | omega | exact at_tr _ _ (by omega) | exact at_s _ _ (by omega) | exact dt (by omega) | exact df (by omega) | exact decide_eq_true (by omega) | exact decide_eq_false (by omega) | exact bts_t (by assumption) | exact bts_f (by assumption) | (rw [bts_t (by assumption)]; rfl) | (rw [bts_f (by assumption)]; rfl) | (unfold InR; omega) | exact haw
    refine ⟨_, _, rfl, ?_, ?_⟩
    · repeat' (first | exact AllP.n | exact trivial | exact DrawB.mk (by decide +kernel) | exact fun _ => rfl | refine AllP.c ?_ ?_)
      all_goals (try dsimp only)
      all_goals try first | exact rfl | exact ⟨trivial, rfl⟩ | exact ⟨trivial, bts_t rfl⟩ | omega | exact at_tr _ _ (by omega) | exact at_s _ _ (by omega) | exact dt (by omega) | exact df (by omega) | exact decide_eq_true (by omega) | exact decide_eq_false (by omega) | exact bts_t (by assumption) | exact bts_f (by assumption) | (rw [bts_t (by assumption)]; rfl) | (rw [bts_f (by assumption)]; rfl) | (unfold InR; omega)
    · exact .refl _
  by_cases hk40 : k.length > 40
  · skip
    refine H.go 200 [(1, [(2, .gd false), (6, .gd true)]), (2, [(0, .res (.ret (.b true)))])] [] dr7 rfl ?_ ?_
    · repeat' (first | exact AllP.n | exact trivial | exact DrawB.mk (by decide +kernel) | exact fun _ => rfl | refine AllP.c ?_ ?_)
      all_goals (try dsimp only)
      all_goals try first | exact rfl | exact ⟨trivial, rfl⟩ | exact ⟨trivial, bts_t rfl⟩ | omega | exact at_tr _ _ (by omega) | exact at_s _ _ (by omega) | exact dt (by omega) | exact df (by omega) | exact decide_eq_true (by omega) | exact decide_eq_false (by omega) | exact bts_t (by assumption) | exact bts_f (by assumption) | (rw [bts_t (by assumption)]; rfl) | (rw [bts_f (by assumption)]; rfl) | (unfold InR; omega) | exact haw
    refine ⟨_, _, rfl, ?_, ?_⟩
    · repeat' (first | exact AllP.n | exact trivial | exact DrawB.mk (by decide +kernel) | exact fun _ => rfl | refine AllP.c ?_ ?_)
      all_goals (try dsimp only)
      all_goals try first | exact rfl | exact ⟨trivial, rfl⟩ | exact ⟨trivial, bts_t rfl⟩ | omega | exact at_tr _ _ (by omega) | exact at_s _ _ (by omega) | exact dt (by omega) | exact df (by omega) | exact decide_eq_true (by omega) | exact decide_eq_false (by omega) | exact bts_t (by assumption) | exact bts_f (by assumption) | (rw [bts_t (by assumption)]; rfl) | (rw [bts_f (by assumption)]; rfl) | (unfold InR; omega)
    · exact .refl _
  have hl : l.length < 2^39 := by omega
  have hk : k.length < 2^39 := by omega
  obtain ⟨a, a1, a2, a3, hma⟩ := Made_obj 2 (by omega) l hl
  obtain ⟨b, b1, b2, b3, hmb⟩ := Made_obj 2 (by omega) k hk
  rw [Nat.add_comm l.length 1] at hma
  rw [Nat.add_comm k.length 1] at hmb
  have oa : OKT (obj a) := OKT_obj (d := 2) (by omega) (by omega) a2 a3
  have ob : OKT (obj b) := OKT_obj (d := 2) (by omega) (by omega) b2 b3
  have va := oa.1
  have vb := ob.1
  have qa : ∀ p ∈ a, QT 2 p.2 := fun p hp => GT_QT (a3 p hp)
  have qb : ∀ p ∈ b, QT 2 p.2 := fun p hp => GT_QT (b3 p hp)
  have hpl := place_ct nm 8 (by omega) (by omega)
  obtain ⟨j, hj, ej⟩ : ∃ j : Nat, j < 8 ∧ nm % 8 = j := ⟨(nm % 8).toNat, by omega, by omega⟩
  rw [ej] at hpl
  have hnames := names8_ct
  have hjl : j < names8.length := hj
  have hnc := at_s names8 j hjl
  have hn8 := names8_N8 _ (List.getElem_mem hjl)
  generalize names8[j] = n at hnc hn8
  obtain ⟨c, c1, c2, c3, c4⟩ := GT.set hn8 b2 b3 (GT_null (d := 2))
  have oc : OKT (obj c) := OKT_obj (d := 2) (by omega) (by omega) c3 c4
  have hset := set_ct (obj b) n tNull (by rw [(obj_len b).1]; omega) (by rw [(obj_len b).2]; omega)
  rw [c1] at hset
  have hlc : look c n = some tNull := by rw [← memb_obj, ← c1, look_tset]; simp
  have hcan := can2_ct (obj a) (obj c) oa oc
  have hcab := can2_ct (obj a) (obj b) oa ob
  have hdf := diff2_ct (obj a) (obj b) 0 oa ob
  have hnone := fun h => merged_none (x := n) a2 c3 h hlc
  generalize (mergeS (obj a) (obj c)).2 = cac at hcan hnone
  have ham := rmember_ct (obj a) n (by rw [(obj_len a).1]; omega) (by rw [(obj_len a).2]; omega)
  have hbm := rmember_ct (obj b) n (by rw [(obj_len b).1]; omega) (by rw [(obj_len b).2]; omega)
  have hsm := rsame_ct _ _ (membD_VT (x := n) va) (membD_VT (x := n) vb)
  have hbb := rsame_ct _ _ (.inr vb) (.inr vb)
  rw [teq_t rfl] at hbb
  rw [memb_obj] at ham hbm hsm
  rw [memb_obj] at hsm
  cases hla : look a n with
  | none =>
    have hx1 : True := trivial
    rw [hla] at ham hsm
    simp only [Option.isSome, Option.getD] at ham hsm
    have hc := hnone (by rw [hla]; simp)
    subst hc
    cases hmf : mergedF (nodes (obj b)) (obj a) (obj b) with
    | none =>
      have hS : mergeS (obj a) (obj b) = (nul, false) := by simp only [mergeS, hmf]
      have hD : diff2 (obj a) (obj b) = (pch0, 7) := by simp [diff2, hS]
      rw [hD] at hdf
      rw [hS] at hcab
      refine H.go 200 [(1, [(2, .gd false), (6, .gd false)]), (3, [(0, .own), (3, .res (.ret (.ag (enc (obj a))))), (4, .own), (7, .res (.ret (.ag (enc (obj b)))))]), (4, [(0, .res (.ret (.sl 1 8 (names8.map D.s)))), (2, .res (.ret (.i .i64 (j : Int)))), (4, .cell (.s n))]), (5, [(2, .res (.ret (.tup [.ag (enc nul), .b false])))]), (6, [(2, .wk (.ag (enc tNull))), (3, .res (.ret (.ag (enc (obj c)))))]), (8, [(2, .res (.ret (.tup [.ag (encP pch0), .i .i64 7])))]), (9, [(2, .res (.ret (.b false)))]), (12, [(2, .res (.ret (.b false))), (5, .res (.ret (.b true)))])] [] dr7 rfl ?_ ?_
      · repeat' (first | exact AllP.n | exact trivial | exact DrawB.mk (by decide +kernel) | exact fun _ => rfl | refine AllP.c ?_ ?_)
        all_goals (try dsimp only)
        all_goals try first | exact rfl | exact ⟨trivial, rfl⟩ | exact ⟨trivial, bts_t rfl⟩ | omega | exact at_tr _ _ (by omega) | exact at_s _ _ (by omega) | exact dt (by omega) | exact df (by omega) | exact decide_eq_true (by omega) | exact decide_eq_false (by omega) | exact bts_t (by assumption) | exact bts_f (by assumption) | (rw [bts_t (by assumption)]; rfl) | (rw [bts_f (by assumption)]; rfl) | (unfold InR; omega) | (show (D.i .i64 45 :: l.map iD).length = 1 + l.length; simp; omega) | (show (D.i .i64 45 :: k.map iD).length = 1 + k.length; simp; omega) | (show (D.i .i64 45 :: l.map iD).length = mulN (1 + l.length) 1; rw [mulN_eq]; simp; omega) | (show (D.i .i64 45 :: k.map iD).length = mulN (1 + k.length) 1; rw [mulN_eq]; simp; omega) | exact hma | exact hmb | exact hdf | exact hcan | exact hcab | exact ham | exact hbm | exact hsm | exact hbb | exact hset | exact hpl | exact hnames | exact hnc | exact haw | exact ⟨trivial, wk_null⟩ | (simp [hx1]; done) | (refine ⟨trivial, ?_⟩; simp [hx1]; done) | (refine ⟨trivial, ?_⟩; simp [mulN_eq]; done) | (refine ⟨?_, ?_⟩ <;> (try simp) <;> omega) | (refine ⟨?_, ?_, ?_⟩ <;> (try simp) <;> omega) | (simp [mulN_eq]; omega) | (simp [mulN_eq]; done) | exact hpm | exact hmg
      refine ⟨_, _, rfl, ?_, ?_⟩
      · repeat' (first | exact AllP.n | exact trivial | exact DrawB.mk (by decide +kernel) | exact fun _ => rfl | refine AllP.c ?_ ?_)
        all_goals (try dsimp only)
        all_goals try first | exact rfl | exact ⟨trivial, rfl⟩ | exact ⟨trivial, bts_t rfl⟩ | omega | exact at_tr _ _ (by omega) | exact at_s _ _ (by omega) | exact dt (by omega) | exact df (by omega) | exact decide_eq_true (by omega) | exact decide_eq_false (by omega) | exact bts_t (by assumption) | exact bts_f (by assumption) | (rw [bts_t (by assumption)]; rfl) | (rw [bts_f (by assumption)]; rfl) | (unfold InR; omega)
      · exact .refl _
    | some pq =>
      obtain ⟨q, rfl, sq, hQp, hmb2, key⟩ := merged_some a2 b2 qa qb hmf
      have hS : mergeS (obj a) (obj b) = (obj q, true) := by simp only [mergeS, hmf]
      have hD : diff2 (obj a) (obj b) = (⟨2, [], obj q, []⟩, 0) := by simp [diff2, hS]
      rw [hD] at hdf
      have hql : q.length ≤ 8 := by have := sq.len; simpa using this
      have hpm := rmember_ct (obj q) n (by rw [(obj_len q).1]; omega) (by rw [(obj_len q).2]; omega)
      rw [memb_obj] at hpm
      have hmg := rmerge_ct 3 (obj a) (obj q) (.inr ⟨a, rfl, a2, qa⟩) hQp
      rw [hmb2] at hmg
      cases hlb : look b n with
      | none =>
        rw [hlb] at hbm hsm
        simp only [Option.isSome, Option.getD] at hbm hsm
        rcases key n with ⟨h1, h2⟩ | ⟨h1, _, h2⟩ | ⟨h1, v, r, h3, h2⟩
        · rw [h2] at hpm
          simp only [Option.isSome, Option.getD] at hpm
          refine H.go 200 [(1, [(2, .gd false), (6, .gd false)]), (3, [(0, .own), (3, .res (.ret (.ag (enc (obj a))))), (4, .own), (7, .res (.ret (.ag (enc (obj b)))))]), (4, [(0, .res (.ret (.sl 1 8 (names8.map D.s)))), (2, .res (.ret (.i .i64 (j : Int)))), (4, .cell (.s n))]), (5, [(2, .res (.ret (.tup [.ag (enc nul), .b false])))]), (6, [(2, .wk (.ag (enc tNull))), (3, .res (.ret (.ag (enc (obj c)))))]), (8, [(2, .res (.ret (.tup [.ag (encP ⟨2, [], obj q, []⟩), .i .i64 0])))]), (9, [(2, .res (.ret (.b false)))]), (13, [(2, .res (.ret (.tup [.ag (enc nul), .b false])))]), (14, [(3, .res (.ret (.tup [.ag (enc nul), .b false])))]), (16, [(3, .res (.ret (.b true)))])] [] dr7 rfl ?_ ?_
          · repeat' (first | exact AllP.n | exact trivial | exact DrawB.mk (by decide +kernel) | exact fun _ => rfl | refine AllP.c ?_ ?_)
            all_goals (try dsimp only)
            all_goals try first | exact rfl | exact ⟨trivial, rfl⟩ | exact ⟨trivial, bts_t rfl⟩ | omega | exact at_tr _ _ (by omega) | exact at_s _ _ (by omega) | exact dt (by omega) | exact df (by omega) | exact decide_eq_true (by omega) | exact decide_eq_false (by omega) | exact bts_t (by assumption) | exact bts_f (by assumption) | (rw [bts_t (by assumption)]; rfl) | (rw [bts_f (by assumption)]; rfl) | (unfold InR; omega) | (show (D.i .i64 45 :: l.map iD).length = 1 + l.length; simp; omega) | (show (D.i .i64 45 :: k.map iD).length = 1 + k.length; simp; omega) | (show (D.i .i64 45 :: l.map iD).length = mulN (1 + l.length) 1; rw [mulN_eq]; simp; omega) | (show (D.i .i64 45 :: k.map iD).length = mulN (1 + k.length) 1; rw [mulN_eq]; simp; omega) | exact hma | exact hmb | exact hdf | exact hcan | exact hcab | exact ham | exact hbm | exact hsm | exact hbb | exact hset | exact hpl | exact hnames | exact hnc | exact haw | exact ⟨trivial, wk_null⟩ | (simp [hx1]; done) | (refine ⟨trivial, ?_⟩; simp [hx1]; done) | (refine ⟨trivial, ?_⟩; simp [mulN_eq]; done) | (refine ⟨?_, ?_⟩ <;> (try simp) <;> omega) | (refine ⟨?_, ?_, ?_⟩ <;> (try simp) <;> omega) | (simp [mulN_eq]; omega) | (simp [mulN_eq]; done) | exact hpm | exact hmg
          refine ⟨_, _, rfl, ?_, ?_⟩
          · repeat' (first | exact AllP.n | exact trivial | exact DrawB.mk (by decide +kernel) | exact fun _ => rfl | refine AllP.c ?_ ?_)
            all_goals (try dsimp only)
            all_goals try first | exact rfl | exact ⟨trivial, rfl⟩ | exact ⟨trivial, bts_t rfl⟩ | omega | exact at_tr _ _ (by omega) | exact at_s _ _ (by omega) | exact dt (by omega) | exact df (by omega) | exact decide_eq_true (by omega) | exact decide_eq_false (by omega) | exact bts_t (by assumption) | exact bts_f (by assumption) | (rw [bts_t (by assumption)]; rfl) | (rw [bts_f (by assumption)]; rfl) | (unfold InR; omega)
          · exact .refl _
        · exact absurd (hla.trans hlb.symm) h1
        · rw [hlb] at h3; cases h3
      | some y =>
        rw [hlb] at hbm hsm
        simp only [Option.isSome, Option.getD] at hbm hsm
        rcases key n with ⟨h1, h2⟩ | ⟨h1, h3, h2⟩ | ⟨h1, v, r, h3, h2⟩
        · rw [hla, hlb] at h1; cases h1
        · rw [hlb] at h3; cases h3
        · rw [h2] at hpm
          simp only [Option.isSome, Option.getD] at hpm
          refine H.go 200 [(1, [(2, .gd false), (6, .gd false)]), (3, [(0, .own), (3, .res (.ret (.ag (enc (obj a))))), (4, .own), (7, .res (.ret (.ag (enc (obj b)))))]), (4, [(0, .res (.ret (.sl 1 8 (names8.map D.s)))), (2, .res (.ret (.i .i64 (j : Int)))), (4, .cell (.s n))]), (5, [(2, .res (.ret (.tup [.ag (enc nul), .b false])))]), (6, [(2, .wk (.ag (enc tNull))), (3, .res (.ret (.ag (enc (obj c)))))]), (8, [(2, .res (.ret (.tup [.ag (encP ⟨2, [], obj q, []⟩), .i .i64 0])))]), (9, [(2, .res (.ret (.b false)))]), (13, [(2, .res (.ret (.tup [.ag (enc y), .b true])))]), (14, [(3, .res (.ret (.tup [.ag (enc r), .b true])))]), (17, [(13, .res (.ret (.ag (enc (obj b))))), (15, .res (.ret (.b true))), (18, .res (.ret (.b true)))])] [] dr7 rfl ?_ ?_
          · repeat' (first | exact AllP.n | exact trivial | exact DrawB.mk (by decide +kernel) | exact fun _ => rfl | refine AllP.c ?_ ?_)
            all_goals (try dsimp only)
            all_goals try first | exact rfl | exact ⟨trivial, rfl⟩ | exact ⟨trivial, bts_t rfl⟩ | omega | exact at_tr _ _ (by omega) | exact at_s _ _ (by omega) | exact dt (by omega) | exact df (by omega) | exact decide_eq_true (by omega) | exact decide_eq_false (by omega) | exact bts_t (by assumption) | exact bts_f (by assumption) | (rw [bts_t (by assumption)]; rfl) | (rw [bts_f (by assumption)]; rfl) | (unfold InR; omega) | (show (D.i .i64 45 :: l.map iD).length = 1 + l.length; simp; omega) | (show (D.i .i64 45 :: k.map iD).length = 1 + k.length; simp; omega) | (show (D.i .i64 45 :: l.map iD).length = mulN (1 + l.length) 1; rw [mulN_eq]; simp; omega) | (show (D.i .i64 45 :: k.map iD).length = mulN (1 + k.length) 1; rw [mulN_eq]; simp; omega) | exact hma | exact hmb | exact hdf | exact hcan | exact hcab | exact ham | exact hbm | exact hsm | exact hbb | exact hset | exact hpl | exact hnames | exact hnc | exact haw | exact ⟨trivial, wk_null⟩ | (simp [hx1]; done) | (refine ⟨trivial, ?_⟩; simp [hx1]; done) | (refine ⟨trivial, ?_⟩; simp [mulN_eq]; done) | (refine ⟨?_, ?_⟩ <;> (try simp) <;> omega) | (refine ⟨?_, ?_, ?_⟩ <;> (try simp) <;> omega) | (simp [mulN_eq]; omega) | (simp [mulN_eq]; done) | exact hpm | exact hmg
          refine ⟨_, _, rfl, ?_, ?_⟩
          · repeat' (first | exact AllP.n | exact trivial | exact DrawB.mk (by decide +kernel) | exact fun _ => rfl | refine AllP.c ?_ ?_)
            all_goals (try dsimp only)
            all_goals try first | exact rfl | exact ⟨trivial, rfl⟩ | exact ⟨trivial, bts_t rfl⟩ | omega | exact at_tr _ _ (by omega) | exact at_s _ _ (by omega) | exact dt (by omega) | exact df (by omega) | exact decide_eq_true (by omega) | exact decide_eq_false (by omega) | exact bts_t (by assumption) | exact bts_f (by assumption) | (rw [bts_t (by assumption)]; rfl) | (rw [bts_f (by assumption)]; rfl) | (unfold InR; omega)
          · exact .refl _
  | some x =>
    rw [hla] at ham hsm
    simp only [Option.isSome, Option.getD] at ham hsm
    by_cases hx1 : x.kind = 1
    · cases cac with
      | false =>
        cases hmf : mergedF (nodes (obj b)) (obj a) (obj b) with
        | none =>
          have hS : mergeS (obj a) (obj b) = (nul, false) := by simp only [mergeS, hmf]
          have hD : diff2 (obj a) (obj b) = (pch0, 7) := by simp [diff2, hS]
          rw [hD] at hdf
          rw [hS] at hcab
          refine H.go 200 [(1, [(2, .gd false), (6, .gd false)]), (3, [(0, .own), (3, .res (.ret (.ag (enc (obj a))))), (4, .own), (7, .res (.ret (.ag (enc (obj b)))))]), (4, [(0, .res (.ret (.sl 1 8 (names8.map D.s)))), (2, .res (.ret (.i .i64 (j : Int)))), (4, .cell (.s n))]), (5, [(2, .res (.ret (.tup [.ag (enc x), .b true])))]), (6, [(2, .wk (.ag (enc tNull))), (3, .res (.ret (.ag (enc (obj c)))))]), (7, [(4, .val (.b true))]), (8, [(2, .res (.ret (.tup [.ag (encP pch0), .i .i64 7])))]), (9, [(2, .res (.ret (.b false)))]), (12, [(2, .res (.ret (.b false))), (5, .res (.ret (.b true)))])] [] dr7 rfl ?_ ?_
          · repeat' (first | exact AllP.n | exact trivial | exact DrawB.mk (by decide +kernel) | exact fun _ => rfl | refine AllP.c ?_ ?_)
            all_goals (try dsimp only)
            all_goals try first | exact rfl | exact ⟨trivial, rfl⟩ | exact ⟨trivial, bts_t rfl⟩ | omega | exact at_tr _ _ (by omega) | exact at_s _ _ (by omega) | exact dt (by omega) | exact df (by omega) | exact decide_eq_true (by omega) | exact decide_eq_false (by omega) | exact bts_t (by assumption) | exact bts_f (by assumption) | (rw [bts_t (by assumption)]; rfl) | (rw [bts_f (by assumption)]; rfl) | (unfold InR; omega) | (show (D.i .i64 45 :: l.map iD).length = 1 + l.length; simp; omega) | (show (D.i .i64 45 :: k.map iD).length = 1 + k.length; simp; omega) | (show (D.i .i64 45 :: l.map iD).length = mulN (1 + l.length) 1; rw [mulN_eq]; simp; omega) | (show (D.i .i64 45 :: k.map iD).length = mulN (1 + k.length) 1; rw [mulN_eq]; simp; omega) | exact hma | exact hmb | exact hdf | exact hcan | exact hcab | exact ham | exact hbm | exact hsm | exact hbb | exact hset | exact hpl | exact hnames | exact hnc | exact haw | exact ⟨trivial, wk_null⟩ | (simp [hx1]; done) | (refine ⟨trivial, ?_⟩; simp [hx1]; done) | (refine ⟨trivial, ?_⟩; simp [mulN_eq]; done) | (refine ⟨?_, ?_⟩ <;> (try simp) <;> omega) | (refine ⟨?_, ?_, ?_⟩ <;> (try simp) <;> omega) | (simp [mulN_eq]; omega) | (simp [mulN_eq]; done) | exact hpm | exact hmg
          refine ⟨_, _, rfl, ?_, ?_⟩
          · repeat' (first | exact AllP.n | exact trivial | exact DrawB.mk (by decide +kernel) | exact fun _ => rfl | refine AllP.c ?_ ?_)
            all_goals (try dsimp only)
            all_goals try first | exact rfl | exact ⟨trivial, rfl⟩ | exact ⟨trivial, bts_t rfl⟩ | omega | exact at_tr _ _ (by omega) | exact at_s _ _ (by omega) | exact dt (by omega) | exact df (by omega) | exact decide_eq_true (by omega) | exact decide_eq_false (by omega) | exact bts_t (by assumption) | exact bts_f (by assumption) | (rw [bts_t (by assumption)]; rfl) | (rw [bts_f (by assumption)]; rfl) | (unfold InR; omega)
          · exact .refl _
        | some pq =>
          obtain ⟨q, rfl, sq, hQp, hmb2, key⟩ := merged_some a2 b2 qa qb hmf
          have hS : mergeS (obj a) (obj b) = (obj q, true) := by simp only [mergeS, hmf]
          have hD : diff2 (obj a) (obj b) = (⟨2, [], obj q, []⟩, 0) := by simp [diff2, hS]
          rw [hD] at hdf
          have hql : q.length ≤ 8 := by have := sq.len; simpa using this
          have hpm := rmember_ct (obj q) n (by rw [(obj_len q).1]; omega) (by rw [(obj_len q).2]; omega)
          rw [memb_obj] at hpm
          have hmg := rmerge_ct 3 (obj a) (obj q) (.inr ⟨a, rfl, a2, qa⟩) hQp
          rw [hmb2] at hmg
          cases hlb : look b n with
          | none =>
            rw [hlb] at hbm hsm
            simp only [Option.isSome, Option.getD] at hbm hsm
            rcases key n with ⟨h1, h2⟩ | ⟨h1, _, h2⟩ | ⟨h1, v, r, h3, h2⟩
            · rw [hla, hlb] at h1; cases h1
            · rw [h2] at hpm
              simp only [Option.isSome, Option.getD] at hpm
              refine H.go 200 [(1, [(2, .gd false), (6, .gd false)]), (3, [(0, .own), (3, .res (.ret (.ag (enc (obj a))))), (4, .own), (7, .res (.ret (.ag (enc (obj b)))))]), (4, [(0, .res (.ret (.sl 1 8 (names8.map D.s)))), (2, .res (.ret (.i .i64 (j : Int)))), (4, .cell (.s n))]), (5, [(2, .res (.ret (.tup [.ag (enc x), .b true])))]), (6, [(2, .wk (.ag (enc tNull))), (3, .res (.ret (.ag (enc (obj c)))))]), (7, [(4, .val (.b true))]), (8, [(2, .res (.ret (.tup [.ag (encP ⟨2, [], obj q, []⟩), .i .i64 0])))]), (9, [(2, .res (.ret (.b false)))]), (13, [(2, .res (.ret (.tup [.ag (enc nul), .b false])))]), (14, [(3, .res (.ret (.tup [.ag (enc tNull), .b true])))]), (17, [(13, .res (.ret (.ag (enc (obj b))))), (15, .res (.ret (.b true))), (18, .res (.ret (.b true)))])] [] dr7 rfl ?_ ?_
              · repeat' (first | exact AllP.n | exact trivial | exact DrawB.mk (by decide +kernel) | exact fun _ => rfl | refine AllP.c ?_ ?_)
                all_goals (try dsimp only)
                all_goals try first | exact rfl | exact ⟨trivial, rfl⟩ | exact ⟨trivial, bts_t rfl⟩ | omega | exact at_tr _ _ (by omega) | exact at_s _ _ (by omega) | exact dt (by omega) | exact df (by omega) | exact decide_eq_true (by omega) | exact decide_eq_false (by omega) | exact bts_t (by assumption) | exact bts_f (by assumption) | (rw [bts_t (by assumption)]; rfl) | (rw [bts_f (by assumption)]; rfl) | (unfold InR; omega) | (show (D.i .i64 45 :: l.map iD).length = 1 + l.length; simp; omega) | (show (D.i .i64 45 :: k.map iD).length = 1 + k.length; simp; omega) | (show (D.i .i64 45 :: l.map iD).length = mulN (1 + l.length) 1; rw [mulN_eq]; simp; omega) | (show (D.i .i64 45 :: k.map iD).length = mulN (1 + k.length) 1; rw [mulN_eq]; simp; omega) | exact hma | exact hmb | exact hdf | exact hcan | exact hcab | exact ham | exact hbm | exact hsm | exact hbb | exact hset | exact hpl | exact hnames | exact hnc | exact haw | exact ⟨trivial, wk_null⟩ | (simp [hx1]; done) | (refine ⟨trivial, ?_⟩; simp [hx1]; done) | (refine ⟨trivial, ?_⟩; simp [mulN_eq]; done) | (refine ⟨?_, ?_⟩ <;> (try simp) <;> omega) | (refine ⟨?_, ?_, ?_⟩ <;> (try simp) <;> omega) | (simp [mulN_eq]; omega) | (simp [mulN_eq]; done) | exact hpm | exact hmg
              refine ⟨_, _, rfl, ?_, ?_⟩
              · repeat' (first | exact AllP.n | exact trivial | exact DrawB.mk (by decide +kernel) | exact fun _ => rfl | refine AllP.c ?_ ?_)
                all_goals (try dsimp only)
                all_goals try first | exact rfl | exact ⟨trivial, rfl⟩ | exact ⟨trivial, bts_t rfl⟩ | omega | exact at_tr _ _ (by omega) | exact at_s _ _ (by omega) | exact dt (by omega) | exact df (by omega) | exact decide_eq_true (by omega) | exact decide_eq_false (by omega) | exact bts_t (by assumption) | exact bts_f (by assumption) | (rw [bts_t (by assumption)]; rfl) | (rw [bts_f (by assumption)]; rfl) | (unfold InR; omega)
              · exact .refl _
            · rw [hlb] at h3; cases h3
          | some y =>
            rw [hlb] at hbm hsm
            simp only [Option.isSome, Option.getD] at hbm hsm
            rcases key n with ⟨h1, h2⟩ | ⟨h1, h3, h2⟩ | ⟨h1, v, r, h3, h2⟩
            · rw [hla, hlb] at h1
              have h1 := Option.some.inj h1
              rw [teq_t h1] at hsm
              rw [h2] at hpm
              simp only [Option.isSome, Option.getD] at hpm
              refine H.go 200 [(1, [(2, .gd false), (6, .gd false)]), (3, [(0, .own), (3, .res (.ret (.ag (enc (obj a))))), (4, .own), (7, .res (.ret (.ag (enc (obj b)))))]), (4, [(0, .res (.ret (.sl 1 8 (names8.map D.s)))), (2, .res (.ret (.i .i64 (j : Int)))), (4, .cell (.s n))]), (5, [(2, .res (.ret (.tup [.ag (enc x), .b true])))]), (6, [(2, .wk (.ag (enc tNull))), (3, .res (.ret (.ag (enc (obj c)))))]), (7, [(4, .val (.b true))]), (8, [(2, .res (.ret (.tup [.ag (encP ⟨2, [], obj q, []⟩), .i .i64 0])))]), (9, [(2, .res (.ret (.b false)))]), (13, [(2, .res (.ret (.tup [.ag (enc y), .b true])))]), (14, [(3, .res (.ret (.tup [.ag (enc nul), .b false])))]), (15, [(7, .res (.ret (.b true)))]), (16, [(3, .res (.ret (.b true)))])] [] dr7 rfl ?_ ?_
              · repeat' (first | exact AllP.n | exact trivial | exact DrawB.mk (by decide +kernel) | exact fun _ => rfl | refine AllP.c ?_ ?_)
                all_goals (try dsimp only)
                all_goals try first | exact rfl | exact ⟨trivial, rfl⟩ | exact ⟨trivial, bts_t rfl⟩ | omega | exact at_tr _ _ (by omega) | exact at_s _ _ (by omega) | exact dt (by omega) | exact df (by omega) | exact decide_eq_true (by omega) | exact decide_eq_false (by omega) | exact bts_t (by assumption) | exact bts_f (by assumption) | (rw [bts_t (by assumption)]; rfl) | (rw [bts_f (by assumption)]; rfl) | (unfold InR; omega) | (show (D.i .i64 45 :: l.map iD).length = 1 + l.length; simp; omega) | (show (D.i .i64 45 :: k.map iD).length = 1 + k.length; simp; omega) | (show (D.i .i64 45 :: l.map iD).length = mulN (1 + l.length) 1; rw [mulN_eq]; simp; omega) | (show (D.i .i64 45 :: k.map iD).length = mulN (1 + k.length) 1; rw [mulN_eq]; simp; omega) | exact hma | exact hmb | exact hdf | exact hcan | exact hcab | exact ham | exact hbm | exact hsm | exact hbb | exact hset | exact hpl | exact hnames | exact hnc | exact haw | exact ⟨trivial, wk_null⟩ | (simp [hx1]; done) | (refine ⟨trivial, ?_⟩; simp [hx1]; done) | (refine ⟨trivial, ?_⟩; simp [mulN_eq]; done) | (refine ⟨?_, ?_⟩ <;> (try simp) <;> omega) | (refine ⟨?_, ?_, ?_⟩ <;> (try simp) <;> omega) | (simp [mulN_eq]; omega) | (simp [mulN_eq]; done) | exact hpm | exact hmg
              refine ⟨_, _, rfl, ?_, ?_⟩
              · repeat' (first | exact AllP.n | exact trivial | exact DrawB.mk (by decide +kernel) | exact fun _ => rfl | refine AllP.c ?_ ?_)
                all_goals (try dsimp only)
                all_goals try first | exact rfl | exact ⟨trivial, rfl⟩ | exact ⟨trivial, bts_t rfl⟩ | omega | exact at_tr _ _ (by omega) | exact at_s _ _ (by omega) | exact dt (by omega) | exact df (by omega) | exact decide_eq_true (by omega) | exact decide_eq_false (by omega) | exact bts_t (by assumption) | exact bts_f (by assumption) | (rw [bts_t (by assumption)]; rfl) | (rw [bts_f (by assumption)]; rfl) | (unfold InR; omega)
              · exact .refl _
            · rw [hlb] at h3; cases h3
            · have hne : x ≠ y := fun e => h1 (by rw [hla, hlb, e])
              rw [teq_f hne] at hsm
              rw [h2] at hpm
              simp only [Option.isSome, Option.getD] at hpm
              refine H.go 200 [(1, [(2, .gd false), (6, .gd false)]), (3, [(0, .own), (3, .res (.ret (.ag (enc (obj a))))), (4, .own), (7, .res (.ret (.ag (enc (obj b)))))]), (4, [(0, .res (.ret (.sl 1 8 (names8.map D.s)))), (2, .res (.ret (.i .i64 (j : Int)))), (4, .cell (.s n))]), (5, [(2, .res (.ret (.tup [.ag (enc x), .b true])))]), (6, [(2, .wk (.ag (enc tNull))), (3, .res (.ret (.ag (enc (obj c)))))]), (7, [(4, .val (.b true))]), (8, [(2, .res (.ret (.tup [.ag (encP ⟨2, [], obj q, []⟩), .i .i64 0])))]), (9, [(2, .res (.ret (.b false)))]), (13, [(2, .res (.ret (.tup [.ag (enc y), .b true])))]), (14, [(3, .res (.ret (.tup [.ag (enc r), .b true])))]), (15, [(7, .res (.ret (.b false)))]), (17, [(13, .res (.ret (.ag (enc (obj b))))), (15, .res (.ret (.b true))), (18, .res (.ret (.b true)))])] [] dr7 rfl ?_ ?_
              · repeat' (first | exact AllP.n | exact trivial | exact DrawB.mk (by decide +kernel) | exact fun _ => rfl | refine AllP.c ?_ ?_)
                all_goals (try dsimp only)
                all_goals try first | exact rfl | exact ⟨trivial, rfl⟩ | exact ⟨trivial, bts_t rfl⟩ | omega | exact at_tr _ _ (by omega) | exact at_s _ _ (by omega) | exact dt (by omega) | exact df (by omega) | exact decide_eq_true (by omega) | exact decide_eq_false (by omega) | exact bts_t (by assumption) | exact bts_f (by assumption) | (rw [bts_t (by assumption)]; rfl) | (rw [bts_f (by assumption)]; rfl) | (unfold InR; omega) | (show (D.i .i64 45 :: l.map iD).length = 1 + l.length; simp; omega) | (show (D.i .i64 45 :: k.map iD).length = 1 + k.length; simp; omega) | (show (D.i .i64 45 :: l.map iD).length = mulN (1 + l.length) 1; rw [mulN_eq]; simp; omega) | (show (D.i .i64 45 :: k.map iD).length = mulN (1 + k.length) 1; rw [mulN_eq]; simp; omega) | exact hma | exact hmb | exact hdf | exact hcan | exact hcab | exact ham | exact hbm | exact hsm | exact hbb | exact hset | exact hpl | exact hnames | exact hnc | exact haw | exact ⟨trivial, wk_null⟩ | (simp [hx1]; done) | (refine ⟨trivial, ?_⟩; simp [hx1]; done) | (refine ⟨trivial, ?_⟩; simp [mulN_eq]; done) | (refine ⟨?_, ?_⟩ <;> (try simp) <;> omega) | (refine ⟨?_, ?_, ?_⟩ <;> (try simp) <;> omega) | (simp [mulN_eq]; omega) | (simp [mulN_eq]; done) | exact hpm | exact hmg
              refine ⟨_, _, rfl, ?_, ?_⟩
              · repeat' (first | exact AllP.n | exact trivial | exact DrawB.mk (by decide +kernel) | exact fun _ => rfl | refine AllP.c ?_ ?_)
                all_goals (try dsimp only)
                all_goals try first | exact rfl | exact ⟨trivial, rfl⟩ | exact ⟨trivial, bts_t rfl⟩ | omega | exact at_tr _ _ (by omega) | exact at_s _ _ (by omega) | exact dt (by omega) | exact df (by omega) | exact decide_eq_true (by omega) | exact decide_eq_false (by omega) | exact bts_t (by assumption) | exact bts_f (by assumption) | (rw [bts_t (by assumption)]; rfl) | (rw [bts_f (by assumption)]; rfl) | (unfold InR; omega)
              · exact .refl _
      | true =>
        cases hmf : mergedF (nodes (obj b)) (obj a) (obj b) with
        | none =>
          have hS : mergeS (obj a) (obj b) = (nul, false) := by simp only [mergeS, hmf]
          have hD : diff2 (obj a) (obj b) = (pch0, 7) := by simp [diff2, hS]
          rw [hD] at hdf
          rw [hS] at hcab
          refine H.go 200 [(1, [(2, .gd false), (6, .gd false)]), (3, [(0, .own), (3, .res (.ret (.ag (enc (obj a))))), (4, .own), (7, .res (.ret (.ag (enc (obj b)))))]), (4, [(0, .res (.ret (.sl 1 8 (names8.map D.s)))), (2, .res (.ret (.i .i64 (j : Int)))), (4, .cell (.s n))]), (5, [(2, .res (.ret (.tup [.ag (enc x), .b true])))]), (6, [(2, .wk (.ag (enc tNull))), (3, .res (.ret (.ag (enc (obj c)))))]), (7, [(4, .val (.b true))]), (8, [(2, .res (.ret (.tup [.ag (encP pch0), .i .i64 7])))]), (9, [(2, .res (.ret (.b true)))]), (12, [(2, .res (.ret (.b false))), (5, .res (.ret (.b true)))])] [] dr7 rfl ?_ ?_
          · repeat' (first | exact AllP.n | exact trivial | exact DrawB.mk (by decide +kernel) | exact fun _ => rfl | refine AllP.c ?_ ?_)
            all_goals (try dsimp only)
            all_goals try first | exact rfl | exact ⟨trivial, rfl⟩ | exact ⟨trivial, bts_t rfl⟩ | omega | exact at_tr _ _ (by omega) | exact at_s _ _ (by omega) | exact dt (by omega) | exact df (by omega) | exact decide_eq_true (by omega) | exact decide_eq_false (by omega) | exact bts_t (by assumption) | exact bts_f (by assumption) | (rw [bts_t (by assumption)]; rfl) | (rw [bts_f (by assumption)]; rfl) | (unfold InR; omega) | (show (D.i .i64 45 :: l.map iD).length = 1 + l.length; simp; omega) | (show (D.i .i64 45 :: k.map iD).length = 1 + k.length; simp; omega) | (show (D.i .i64 45 :: l.map iD).length = mulN (1 + l.length) 1; rw [mulN_eq]; simp; omega) | (show (D.i .i64 45 :: k.map iD).length = mulN (1 + k.length) 1; rw [mulN_eq]; simp; omega) | exact hma | exact hmb | exact hdf | exact hcan | exact hcab | exact ham | exact hbm | exact hsm | exact hbb | exact hset | exact hpl | exact hnames | exact hnc | exact haw | exact ⟨trivial, wk_null⟩ | (simp [hx1]; done) | (refine ⟨trivial, ?_⟩; simp [hx1]; done) | (refine ⟨trivial, ?_⟩; simp [mulN_eq]; done) | (refine ⟨?_, ?_⟩ <;> (try simp) <;> omega) | (refine ⟨?_, ?_, ?_⟩ <;> (try simp) <;> omega) | (simp [mulN_eq]; omega) | (simp [mulN_eq]; done) | exact hpm | exact hmg
          refine ⟨_, _, rfl, ?_, ?_⟩
          · repeat' (first | exact AllP.n | exact trivial | exact DrawB.mk (by decide +kernel) | exact fun _ => rfl | refine AllP.c ?_ ?_)
            all_goals (try dsimp only)
            all_goals try first | exact rfl | exact ⟨trivial, rfl⟩ | exact ⟨trivial, bts_t rfl⟩ | omega | exact at_tr _ _ (by omega) | exact at_s _ _ (by omega) | exact dt (by omega) | exact df (by omega) | exact decide_eq_true (by omega) | exact decide_eq_false (by omega) | exact bts_t (by assumption) | exact bts_f (by assumption) | (rw [bts_t (by assumption)]; rfl) | (rw [bts_f (by assumption)]; rfl) | (unfold InR; omega)
          · exact .refl _
        | some pq =>
          obtain ⟨q, rfl, sq, hQp, hmb2, key⟩ := merged_some a2 b2 qa qb hmf
          have hS : mergeS (obj a) (obj b) = (obj q, true) := by simp only [mergeS, hmf]
          have hD : diff2 (obj a) (obj b) = (⟨2, [], obj q, []⟩, 0) := by simp [diff2, hS]
          rw [hD] at hdf
          have hql : q.length ≤ 8 := by have := sq.len; simpa using this
          have hpm := rmember_ct (obj q) n (by rw [(obj_len q).1]; omega) (by rw [(obj_len q).2]; omega)
          rw [memb_obj] at hpm
          have hmg := rmerge_ct 3 (obj a) (obj q) (.inr ⟨a, rfl, a2, qa⟩) hQp
          rw [hmb2] at hmg
          cases hlb : look b n with
          | none =>
            rw [hlb] at hbm hsm
            simp only [Option.isSome, Option.getD] at hbm hsm
            rcases key n with ⟨h1, h2⟩ | ⟨h1, _, h2⟩ | ⟨h1, v, r, h3, h2⟩
            · rw [hla, hlb] at h1; cases h1
            · rw [h2] at hpm
              simp only [Option.isSome, Option.getD] at hpm
              refine H.go 200 [(1, [(2, .gd false), (6, .gd false)]), (3, [(0, .own), (3, .res (.ret (.ag (enc (obj a))))), (4, .own), (7, .res (.ret (.ag (enc (obj b)))))]), (4, [(0, .res (.ret (.sl 1 8 (names8.map D.s)))), (2, .res (.ret (.i .i64 (j : Int)))), (4, .cell (.s n))]), (5, [(2, .res (.ret (.tup [.ag (enc x), .b true])))]), (6, [(2, .wk (.ag (enc tNull))), (3, .res (.ret (.ag (enc (obj c)))))]), (7, [(4, .val (.b true))]), (8, [(2, .res (.ret (.tup [.ag (encP ⟨2, [], obj q, []⟩), .i .i64 0])))]), (9, [(2, .res (.ret (.b true)))]), (13, [(2, .res (.ret (.tup [.ag (enc nul), .b false])))]), (14, [(3, .res (.ret (.tup [.ag (enc tNull), .b true])))]), (17, [(13, .res (.ret (.ag (enc (obj b))))), (15, .res (.ret (.b true))), (18, .res (.ret (.b true)))])] [] dr7 rfl ?_ ?_
              · repeat' (first | exact AllP.n | exact trivial | exact DrawB.mk (by decide +kernel) | exact fun _ => rfl | refine AllP.c ?_ ?_)
                all_goals (try dsimp only)
                all_goals try first | exact rfl | exact ⟨trivial, rfl⟩ | exact ⟨trivial, bts_t rfl⟩ | omega | exact at_tr _ _ (by omega) | exact at_s _ _ (by omega) | exact dt (by omega) | exact df (by omega) | exact decide_eq_true (by omega) | exact decide_eq_false (by omega) | exact bts_t (by assumption) | exact bts_f (by assumption) | (rw [bts_t (by assumption)]; rfl) | (rw [bts_f (by assumption)]; rfl) | (unfold InR; omega) | (show (D.i .i64 45 :: l.map iD).length = 1 + l.length; simp; omega) | (show (D.i .i64 45 :: k.map iD).length = 1 + k.length; simp; omega) | (show (D.i .i64 45 :: l.map iD).length = mulN (1 + l.length) 1; rw [mulN_eq]; simp; omega) | (show (D.i .i64 45 :: k.map iD).length = mulN (1 + k.length) 1; rw [mulN_eq]; simp; omega) | exact hma | exact hmb | exact hdf | exact hcan | exact hcab | exact ham | exact hbm | exact hsm | exact hbb | exact hset | exact hpl | exact hnames | exact hnc | exact haw | exact ⟨trivial, wk_null⟩ | (simp [hx1]; done) | (refine ⟨trivial, ?_⟩; simp [hx1]; done) | (refine ⟨trivial, ?_⟩; simp [mulN_eq]; done) | (refine ⟨?_, ?_⟩ <;> (try simp) <;> omega) | (refine ⟨?_, ?_, ?_⟩ <;> (try simp) <;> omega) | (simp [mulN_eq]; omega) | (simp [mulN_eq]; done) | exact hpm | exact hmg
              refine ⟨_, _, rfl, ?_, ?_⟩
              · repeat' (first | exact AllP.n | exact trivial | exact DrawB.mk (by decide +kernel) | exact fun _ => rfl | refine AllP.c ?_ ?_)
                all_goals (try dsimp only)
                all_goals try first | exact rfl | exact ⟨trivial, rfl⟩ | exact ⟨trivial, bts_t rfl⟩ | omega | exact at_tr _ _ (by omega) | exact at_s _ _ (by omega) | exact dt (by omega) | exact df (by omega) | exact decide_eq_true (by omega) | exact decide_eq_false (by omega) | exact bts_t (by assumption) | exact bts_f (by assumption) | (rw [bts_t (by assumption)]; rfl) | (rw [bts_f (by assumption)]; rfl) | (unfold InR; omega)
              · exact .refl _
            · rw [hlb] at h3; cases h3
          | some y =>
            rw [hlb] at hbm hsm
            simp only [Option.isSome, Option.getD] at hbm hsm
            rcases key n with ⟨h1, h2⟩ | ⟨h1, h3, h2⟩ | ⟨h1, v, r, h3, h2⟩
            · rw [hla, hlb] at h1
              have h1 := Option.some.inj h1
              rw [teq_t h1] at hsm
              rw [h2] at hpm
              simp only [Option.isSome, Option.getD] at hpm
              refine H.go 200 [(1, [(2, .gd false), (6, .gd false)]), (3, [(0, .own), (3, .res (.ret (.ag (enc (obj a))))), (4, .own), (7, .res (.ret (.ag (enc (obj b)))))]), (4, [(0, .res (.ret (.sl 1 8 (names8.map D.s)))), (2, .res (.ret (.i .i64 (j : Int)))), (4, .cell (.s n))]), (5, [(2, .res (.ret (.tup [.ag (enc x), .b true])))]), (6, [(2, .wk (.ag (enc tNull))), (3, .res (.ret (.ag (enc (obj c)))))]), (7, [(4, .val (.b true))]), (8, [(2, .res (.ret (.tup [.ag (encP ⟨2, [], obj q, []⟩), .i .i64 0])))]), (9, [(2, .res (.ret (.b true)))]), (13, [(2, .res (.ret (.tup [.ag (enc y), .b true])))]), (14, [(3, .res (.ret (.tup [.ag (enc nul), .b false])))]), (15, [(7, .res (.ret (.b true)))]), (16, [(3, .res (.ret (.b true)))])] [] dr7 rfl ?_ ?_
              · repeat' (first | exact AllP.n | exact trivial | exact DrawB.mk (by decide +kernel) | exact fun _ => rfl | refine AllP.c ?_ ?_)
                all_goals (try dsimp only)
                all_goals try first | exact rfl | exact ⟨trivial, rfl⟩ | exact ⟨trivial, bts_t rfl⟩ | omega | exact at_tr _ _ (by omega) | exact at_s _ _ (by omega) | exact dt (by omega) | exact df (by omega) | exact decide_eq_true (by omega) | exact decide_eq_false (by omega) | exact bts_t (by assumption) | exact bts_f (by assumption) | (rw [bts_t (by assumption)]; rfl) | (rw [bts_f (by assumption)]; rfl) | (unfold InR; omega) | (show (D.i .i64 45 :: l.map iD).length = 1 + l.length; simp; omega) | (show (D.i .i64 45 :: k.map iD).length = 1 + k.length; simp; omega) | (show (D.i .i64 45 :: l.map iD).length = mulN (1 + l.length) 1; rw [mulN_eq]; simp; omega) | (show (D.i .i64 45 :: k.map iD).length = mulN (1 + k.length) 1; rw [mulN_eq]; simp; omega) | exact hma | exact hmb | exact hdf | exact hcan | exact hcab | exact ham | exact hbm | exact hsm | exact hbb | exact hset | exact hpl | exact hnames | exact hnc | exact haw | exact ⟨trivial, wk_null⟩ | (simp [hx1]; done) | (refine ⟨trivial, ?_⟩; simp [hx1]; done) | (refine ⟨trivial, ?_⟩; simp [mulN_eq]; done) | (refine ⟨?_, ?_⟩ <;> (try simp) <;> omega) | (refine ⟨?_, ?_, ?_⟩ <;> (try simp) <;> omega) | (simp [mulN_eq]; omega) | (simp [mulN_eq]; done) | exact hpm | exact hmg
              refine ⟨_, _, rfl, ?_, ?_⟩
              · repeat' (first | exact AllP.n | exact trivial | exact DrawB.mk (by decide +kernel) | exact fun _ => rfl | refine AllP.c ?_ ?_)
                all_goals (try dsimp only)
                all_goals try first | exact rfl | exact ⟨trivial, rfl⟩ | exact ⟨trivial, bts_t rfl⟩ | omega | exact at_tr _ _ (by omega) | exact at_s _ _ (by omega) | exact dt (by omega) | exact df (by omega) | exact decide_eq_true (by omega) | exact decide_eq_false (by omega) | exact bts_t (by assumption) | exact bts_f (by assumption) | (rw [bts_t (by assumption)]; rfl) | (rw [bts_f (by assumption)]; rfl) | (unfold InR; omega)
              · exact .refl _
            · rw [hlb] at h3; cases h3
            · have hne : x ≠ y := fun e => h1 (by rw [hla, hlb, e])
              rw [teq_f hne] at hsm
              rw [h2] at hpm
              simp only [Option.isSome, Option.getD] at hpm
              refine H.go 200 [(1, [(2, .gd false), (6, .gd false)]), (3, [(0, .own), (3, .res (.ret (.ag (enc (obj a))))), (4, .own), (7, .res (.ret (.ag (enc (obj b)))))]), (4, [(0, .res (.ret (.sl 1 8 (names8.map D.s)))), (2, .res (.ret (.i .i64 (j : Int)))), (4, .cell (.s n))]), (5, [(2, .res (.ret (.tup [.ag (enc x), .b true])))]), (6, [(2, .wk (.ag (enc tNull))), (3, .res (.ret (.ag (enc (obj c)))))]), (7, [(4, .val (.b true))]), (8, [(2, .res (.ret (.tup [.ag (encP ⟨2, [], obj q, []⟩), .i .i64 0])))]), (9, [(2, .res (.ret (.b true)))]), (13, [(2, .res (.ret (.tup [.ag (enc y), .b true])))]), (14, [(3, .res (.ret (.tup [.ag (enc r), .b true])))]), (15, [(7, .res (.ret (.b false)))]), (17, [(13, .res (.ret (.ag (enc (obj b))))), (15, .res (.ret (.b true))), (18, .res (.ret (.b true)))])] [] dr7 rfl ?_ ?_
              · repeat' (first | exact AllP.n | exact trivial | exact DrawB.mk (by decide +kernel) | exact fun _ => rfl | refine AllP.c ?_ ?_)
                all_goals (try dsimp only)
                all_goals try first | exact rfl | exact ⟨trivial, rfl⟩ | exact ⟨trivial, bts_t rfl⟩ | omega | exact at_tr _ _ (by omega) | exact at_s _ _ (by omega) | exact dt (by omega) | exact df (by omega) | exact decide_eq_true (by omega) | exact decide_eq_false (by omega) | exact bts_t (by assumption) | exact bts_f (by assumption) | (rw [bts_t (by assumption)]; rfl) | (rw [bts_f (by assumption)]; rfl) | (unfold InR; omega) | (show (D.i .i64 45 :: l.map iD).length = 1 + l.length; simp; omega) | (show (D.i .i64 45 :: k.map iD).length = 1 + k.length; simp; omega) | (show (D.i .i64 45 :: l.map iD).length = mulN (1 + l.length) 1; rw [mulN_eq]; simp; omega) | (show (D.i .i64 45 :: k.map iD).length = mulN (1 + k.length) 1; rw [mulN_eq]; simp; omega) | exact hma | exact hmb | exact hdf | exact hcan | exact hcab | exact ham | exact hbm | exact hsm | exact hbb | exact hset | exact hpl | exact hnames | exact hnc | exact haw | exact ⟨trivial, wk_null⟩ | (simp [hx1]; done) | (refine ⟨trivial, ?_⟩; simp [hx1]; done) | (refine ⟨trivial, ?_⟩; simp [mulN_eq]; done) | (refine ⟨?_, ?_⟩ <;> (try simp) <;> omega) | (refine ⟨?_, ?_, ?_⟩ <;> (try simp) <;> omega) | (simp [mulN_eq]; omega) | (simp [mulN_eq]; done) | exact hpm | exact hmg
              refine ⟨_, _, rfl, ?_, ?_⟩
              · repeat' (first | exact AllP.n | exact trivial | exact DrawB.mk (by decide +kernel) | exact fun _ => rfl | refine AllP.c ?_ ?_)
                all_goals (try dsimp only)
                all_goals try first | exact rfl | exact ⟨trivial, rfl⟩ | exact ⟨trivial, bts_t rfl⟩ | omega | exact at_tr _ _ (by omega) | exact at_s _ _ (by omega) | exact dt (by omega) | exact df (by omega) | exact decide_eq_true (by omega) | exact decide_eq_false (by omega) | exact bts_t (by assumption) | exact bts_f (by assumption) | (rw [bts_t (by assumption)]; rfl) | (rw [bts_f (by assumption)]; rfl) | (unfold InR; omega)
              · exact .refl _
    · have hc := hnone (by rw [hla]; intro e; rw [Option.some.inj e] at hx1; exact hx1 rfl)
      subst hc
      cases hmf : mergedF (nodes (obj b)) (obj a) (obj b) with
      | none =>
        have hS : mergeS (obj a) (obj b) = (nul, false) := by simp only [mergeS, hmf]
        have hD : diff2 (obj a) (obj b) = (pch0, 7) := by simp [diff2, hS]
        rw [hD] at hdf
        rw [hS] at hcab
        refine H.go 200 [(1, [(2, .gd false), (6, .gd false)]), (3, [(0, .own), (3, .res (.ret (.ag (enc (obj a))))), (4, .own), (7, .res (.ret (.ag (enc (obj b)))))]), (4, [(0, .res (.ret (.sl 1 8 (names8.map D.s)))), (2, .res (.ret (.i .i64 (j : Int)))), (4, .cell (.s n))]), (5, [(2, .res (.ret (.tup [.ag (enc x), .b true])))]), (6, [(2, .wk (.ag (enc tNull))), (3, .res (.ret (.ag (enc (obj c)))))]), (7, [(4, .val (.b false))]), (8, [(2, .res (.ret (.tup [.ag (encP pch0), .i .i64 7])))]), (9, [(2, .res (.ret (.b false)))]), (12, [(2, .res (.ret (.b false))), (5, .res (.ret (.b true)))])] [] dr7 rfl ?_ ?_
        · repeat' (first | exact AllP.n | exact trivial | exact DrawB.mk (by decide +kernel) | exact fun _ => rfl | refine AllP.c ?_ ?_)
          all_goals (try dsimp only)
          all_goals try first | exact rfl | exact ⟨trivial, rfl⟩ | exact ⟨trivial, bts_t rfl⟩ | omega | exact at_tr _ _ (by omega) | exact at_s _ _ (by omega) | exact dt (by omega) | exact df (by omega) | exact decide_eq_true (by omega) | exact decide_eq_false (by omega) | exact bts_t (by assumption) | exact bts_f (by assumption) | (rw [bts_t (by assumption)]; rfl) | (rw [bts_f (by assumption)]; rfl) | (unfold InR; omega) | (show (D.i .i64 45 :: l.map iD).length = 1 + l.length; simp; omega) | (show (D.i .i64 45 :: k.map iD).length = 1 + k.length; simp; omega) | (show (D.i .i64 45 :: l.map iD).length = mulN (1 + l.length) 1; rw [mulN_eq]; simp; omega) | (show (D.i .i64 45 :: k.map iD).length = mulN (1 + k.length) 1; rw [mulN_eq]; simp; omega) | exact hma | exact hmb | exact hdf | exact hcan | exact hcab | exact ham | exact hbm | exact hsm | exact hbb | exact hset | exact hpl | exact hnames | exact hnc | exact haw | exact ⟨trivial, wk_null⟩ | (simp [hx1]; done) | (refine ⟨trivial, ?_⟩; simp [hx1]; done) | (refine ⟨trivial, ?_⟩; simp [mulN_eq]; done) | (refine ⟨?_, ?_⟩ <;> (try simp) <;> omega) | (refine ⟨?_, ?_, ?_⟩ <;> (try simp) <;> omega) | (simp [mulN_eq]; omega) | (simp [mulN_eq]; done) | exact hpm | exact hmg
        refine ⟨_, _, rfl, ?_, ?_⟩
        · repeat' (first | exact AllP.n | exact trivial | exact DrawB.mk (by decide +kernel) | exact fun _ => rfl | refine AllP.c ?_ ?_)
          all_goals (try dsimp only)
          all_goals try first | exact rfl | exact ⟨trivial, rfl⟩ | exact ⟨trivial, bts_t rfl⟩ | omega | exact at_tr _ _ (by omega) | exact at_s _ _ (by omega) | exact dt (by omega) | exact df (by omega) | exact decide_eq_true (by omega) | exact decide_eq_false (by omega) | exact bts_t (by assumption) | exact bts_f (by assumption) | (rw [bts_t (by assumption)]; rfl) | (rw [bts_f (by assumption)]; rfl) | (unfold InR; omega)
        · exact .refl _
      | some pq =>
        obtain ⟨q, rfl, sq, hQp, hmb2, key⟩ := merged_some a2 b2 qa qb hmf
        have hS : mergeS (obj a) (obj b) = (obj q, true) := by simp only [mergeS, hmf]
        have hD : diff2 (obj a) (obj b) = (⟨2, [], obj q, []⟩, 0) := by simp [diff2, hS]
        rw [hD] at hdf
        have hql : q.length ≤ 8 := by have := sq.len; simpa using this
        have hpm := rmember_ct (obj q) n (by rw [(obj_len q).1]; omega) (by rw [(obj_len q).2]; omega)
        rw [memb_obj] at hpm
        have hmg := rmerge_ct 3 (obj a) (obj q) (.inr ⟨a, rfl, a2, qa⟩) hQp
        rw [hmb2] at hmg
        cases hlb : look b n with
        | none =>
          rw [hlb] at hbm hsm
          simp only [Option.isSome, Option.getD] at hbm hsm
          rcases key n with ⟨h1, h2⟩ | ⟨h1, _, h2⟩ | ⟨h1, v, r, h3, h2⟩
          · rw [hla, hlb] at h1; cases h1
          · rw [h2] at hpm
            simp only [Option.isSome, Option.getD] at hpm
            refine H.go 200 [(1, [(2, .gd false), (6, .gd false)]), (3, [(0, .own), (3, .res (.ret (.ag (enc (obj a))))), (4, .own), (7, .res (.ret (.ag (enc (obj b)))))]), (4, [(0, .res (.ret (.sl 1 8 (names8.map D.s)))), (2, .res (.ret (.i .i64 (j : Int)))), (4, .cell (.s n))]), (5, [(2, .res (.ret (.tup [.ag (enc x), .b true])))]), (6, [(2, .wk (.ag (enc tNull))), (3, .res (.ret (.ag (enc (obj c)))))]), (7, [(4, .val (.b false))]), (8, [(2, .res (.ret (.tup [.ag (encP ⟨2, [], obj q, []⟩), .i .i64 0])))]), (9, [(2, .res (.ret (.b false)))]), (13, [(2, .res (.ret (.tup [.ag (enc nul), .b false])))]), (14, [(3, .res (.ret (.tup [.ag (enc tNull), .b true])))]), (17, [(13, .res (.ret (.ag (enc (obj b))))), (15, .res (.ret (.b true))), (18, .res (.ret (.b true)))])] [] dr7 rfl ?_ ?_
            · repeat' (first | exact AllP.n | exact trivial | exact DrawB.mk (by decide +kernel) | exact fun _ => rfl | refine AllP.c ?_ ?_)
              all_goals (try dsimp only)
              all_goals try first | exact rfl | exact ⟨trivial, rfl⟩ | exact ⟨trivial, bts_t rfl⟩ | omega | exact at_tr _ _ (by omega) | exact at_s _ _ (by omega) | exact dt (by omega) | exact df (by omega) | exact decide_eq_true (by omega) | exact decide_eq_false (by omega) | exact bts_t (by assumption) | exact bts_f (by assumption) | (rw [bts_t (by assumption)]; rfl) | (rw [bts_f (by assumption)]; rfl) | (unfold InR; omega) | (show (D.i .i64 45 :: l.map iD).length = 1 + l.length; simp; omega) | (show (D.i .i64 45 :: k.map iD).length = 1 + k.length; simp; omega) | (show (D.i .i64 45 :: l.map iD).length = mulN (1 + l.length) 1; rw [mulN_eq]; simp; omega) | (show (D.i .i64 45 :: k.map iD).length = mulN (1 + k.length) 1; rw [mulN_eq]; simp; omega) | exact hma | exact hmb | exact hdf | exact hcan | exact hcab | exact ham | exact hbm | exact hsm | exact hbb | exact hset | exact hpl | exact hnames | exact hnc | exact haw | exact ⟨trivial, wk_null⟩ | (simp [hx1]; done) | (refine ⟨trivial, ?_⟩; simp [hx1]; done) | (refine ⟨trivial, ?_⟩; simp [mulN_eq]; done) | (refine ⟨?_, ?_⟩ <;> (try simp) <;> omega) | (refine ⟨?_, ?_, ?_⟩ <;> (try simp) <;> omega) | (simp [mulN_eq]; omega) | (simp [mulN_eq]; done) | exact hpm | exact hmg
            refine ⟨_, _, rfl, ?_, ?_⟩
            · repeat' (first | exact AllP.n | exact trivial | exact DrawB.mk (by decide +kernel) | exact fun _ => rfl | refine AllP.c ?_ ?_)
              all_goals (try dsimp only)
              all_goals try first | exact rfl | exact ⟨trivial, rfl⟩ | exact ⟨trivial, bts_t rfl⟩ | omega | exact at_tr _ _ (by omega) | exact at_s _ _ (by omega) | exact dt (by omega) | exact df (by omega) | exact decide_eq_true (by omega) | exact decide_eq_false (by omega) | exact bts_t (by assumption) | exact bts_f (by assumption) | (rw [bts_t (by assumption)]; rfl) | (rw [bts_f (by assumption)]; rfl) | (unfold InR; omega)
            · exact .refl _
          · rw [hlb] at h3; cases h3
        | some y =>
          rw [hlb] at hbm hsm
          simp only [Option.isSome, Option.getD] at hbm hsm
          rcases key n with ⟨h1, h2⟩ | ⟨h1, h3, h2⟩ | ⟨h1, v, r, h3, h2⟩
          · rw [hla, hlb] at h1
            have h1 := Option.some.inj h1
            rw [teq_t h1] at hsm
            rw [h2] at hpm
            simp only [Option.isSome, Option.getD] at hpm
            refine H.go 200 [(1, [(2, .gd false), (6, .gd false)]), (3, [(0, .own), (3, .res (.ret (.ag (enc (obj a))))), (4, .own), (7, .res (.ret (.ag (enc (obj b)))))]), (4, [(0, .res (.ret (.sl 1 8 (names8.map D.s)))), (2, .res (.ret (.i .i64 (j : Int)))), (4, .cell (.s n))]), (5, [(2, .res (.ret (.tup [.ag (enc x), .b true])))]), (6, [(2, .wk (.ag (enc tNull))), (3, .res (.ret (.ag (enc (obj c)))))]), (7, [(4, .val (.b false))]), (8, [(2, .res (.ret (.tup [.ag (encP ⟨2, [], obj q, []⟩), .i .i64 0])))]), (9, [(2, .res (.ret (.b false)))]), (13, [(2, .res (.ret (.tup [.ag (enc y), .b true])))]), (14, [(3, .res (.ret (.tup [.ag (enc nul), .b false])))]), (15, [(7, .res (.ret (.b true)))]), (16, [(3, .res (.ret (.b true)))])] [] dr7 rfl ?_ ?_
            · repeat' (first | exact AllP.n | exact trivial | exact DrawB.mk (by decide +kernel) | exact fun _ => rfl | refine AllP.c ?_ ?_)
              all_goals (try dsimp only)
              all_goals try first | exact rfl | exact ⟨trivial, rfl⟩ | exact ⟨trivial, bts_t rfl⟩ | omega | exact at_tr _ _ (by omega) | exact at_s _ _ (by omega) | exact dt (by omega) | exact df (by omega) | exact decide_eq_true (by omega) | exact decide_eq_false (by omega) | exact bts_t (by assumption) | exact bts_f (by assumption) | (rw [bts_t (by assumption)]; rfl) | (rw [bts_f (by assumption)]; rfl) | (unfold InR; omega) | (show (D.i .i64 45 :: l.map iD).length = 1 + l.length; simp; omega) | (show (D.i .i64 45 :: k.map iD).length = 1 + k.length; simp; omega) | (show (D.i .i64 45 :: l.map iD).length = mulN (1 + l.length) 1; rw [mulN_eq]; simp; omega) | (show (D.i .i64 45 :: k.map iD).length = mulN (1 + k.length) 1; rw [mulN_eq]; simp; omega) | exact hma | exact hmb | exact hdf | exact hcan | exact hcab | exact ham | exact hbm | exact hsm | exact hbb | exact hset | exact hpl | exact hnames | exact hnc | exact haw | exact ⟨trivial, wk_null⟩ | (simp [hx1]; done) | (refine ⟨trivial, ?_⟩; simp [hx1]; done) | (refine ⟨trivial, ?_⟩; simp [mulN_eq]; done) | (refine ⟨?_, ?_⟩ <;> (try simp) <;> omega) | (refine ⟨?_, ?_, ?_⟩ <;> (try simp) <;> omega) | (simp [mulN_eq]; omega) | (simp [mulN_eq]; done) | exact hpm | exact hmg
            refine ⟨_, _, rfl, ?_, ?_⟩
            · repeat' (first | exact AllP.n | exact trivial | exact DrawB.mk (by decide +kernel) | exact fun _ => rfl | refine AllP.c ?_ ?_)
              all_goals (try dsimp only)
              all_goals try first | exact rfl | exact ⟨trivial, rfl⟩ | exact ⟨trivial, bts_t rfl⟩ | omega | exact at_tr _ _ (by omega) | exact at_s _ _ (by omega) | exact dt (by omega) | exact df (by omega) | exact decide_eq_true (by omega) | exact decide_eq_false (by omega) | exact bts_t (by assumption) | exact bts_f (by assumption) | (rw [bts_t (by assumption)]; rfl) | (rw [bts_f (by assumption)]; rfl) | (unfold InR; omega)
            · exact .refl _
          · rw [hlb] at h3; cases h3
          · have hne : x ≠ y := fun e => h1 (by rw [hla, hlb, e])
            rw [teq_f hne] at hsm
            rw [h2] at hpm
            simp only [Option.isSome, Option.getD] at hpm
            refine H.go 200 [(1, [(2, .gd false), (6, .gd false)]), (3, [(0, .own), (3, .res (.ret (.ag (enc (obj a))))), (4, .own), (7, .res (.ret (.ag (enc (obj b)))))]), (4, [(0, .res (.ret (.sl 1 8 (names8.map D.s)))), (2, .res (.ret (.i .i64 (j : Int)))), (4, .cell (.s n))]), (5, [(2, .res (.ret (.tup [.ag (enc x), .b true])))]), (6, [(2, .wk (.ag (enc tNull))), (3, .res (.ret (.ag (enc (obj c)))))]), (7, [(4, .val (.b false))]), (8, [(2, .res (.ret (.tup [.ag (encP ⟨2, [], obj q, []⟩), .i .i64 0])))]), (9, [(2, .res (.ret (.b false)))]), (13, [(2, .res (.ret (.tup [.ag (enc y), .b true])))]), (14, [(3, .res (.ret (.tup [.ag (enc r), .b true])))]), (15, [(7, .res (.ret (.b false)))]), (17, [(13, .res (.ret (.ag (enc (obj b))))), (15, .res (.ret (.b true))), (18, .res (.ret (.b true)))])] [] dr7 rfl ?_ ?_
            · repeat' (first | exact AllP.n | exact trivial | exact DrawB.mk (by decide +kernel) | exact fun _ => rfl | refine AllP.c ?_ ?_)
              all_goals (try dsimp only)
              all_goals try first | exact rfl | exact ⟨trivial, rfl⟩ | exact ⟨trivial, bts_t rfl⟩ | omega | exact at_tr _ _ (by omega) | exact at_s _ _ (by omega) | exact dt (by omega) | exact df (by omega) | exact decide_eq_true (by omega) | exact decide_eq_false (by omega) | exact bts_t (by assumption) | exact bts_f (by assumption) | (rw [bts_t (by assumption)]; rfl) | (rw [bts_f (by assumption)]; rfl) | (unfold InR; omega) | (show (D.i .i64 45 :: l.map iD).length = 1 + l.length; simp; omega) | (show (D.i .i64 45 :: k.map iD).length = 1 + k.length; simp; omega) | (show (D.i .i64 45 :: l.map iD).length = mulN (1 + l.length) 1; rw [mulN_eq]; simp; omega) | (show (D.i .i64 45 :: k.map iD).length = mulN (1 + k.length) 1; rw [mulN_eq]; simp; omega) | exact hma | exact hmb | exact hdf | exact hcan | exact hcab | exact ham | exact hbm | exact hsm | exact hbb | exact hset | exact hpl | exact hnames | exact hnc | exact haw | exact ⟨trivial, wk_null⟩ | (simp [hx1]; done) | (refine ⟨trivial, ?_⟩; simp [hx1]; done) | (refine ⟨trivial, ?_⟩; simp [mulN_eq]; done) | (refine ⟨?_, ?_⟩ <;> (try simp) <;> omega) | (refine ⟨?_, ?_, ?_⟩ <;> (try simp) <;> omega) | (simp [mulN_eq]; omega) | (simp [mulN_eq]; done) | exact hpm | exact hmg
            refine ⟨_, _, rfl, ?_, ?_⟩
            · repeat' (first | exact AllP.n | exact trivial | exact DrawB.mk (by decide +kernel) | exact fun _ => rfl | refine AllP.c ?_ ?_)
              all_goals (try dsimp only)
              all_goals try first | exact rfl | exact ⟨trivial, rfl⟩ | exact ⟨trivial, bts_t rfl⟩ | omega | exact at_tr _ _ (by omega) | exact at_s _ _ (by omega) | exact dt (by omega) | exact df (by omega) | exact decide_eq_true (by omega) | exact decide_eq_false (by omega) | exact bts_t (by assumption) | exact bts_f (by assumption) | (rw [bts_t (by assumption)]; rfl) | (rw [bts_f (by assumption)]; rfl) | (unfold InR; omega)
            · exact .refl _
end Go.Px
end

