/-
  What the functions that the statement reaches compute, proved (contracts of functions and the lemmas for them), a part of the proof. No conditions beyond those that each theorem names.
-/
import Derived.Test.YtakligfpajogkaaGreatDoorPartH
import Derived.Tactics2
import Derived.StillTactics
import Derived.Laws.RangeAny
import Derived.Laws.RangeString
import Derived.LoopTactic
set_option linter.unusedVariables false
set_option linter.unusedSimpArgs false

section
namespace Go.Px
open Go.RowKit

/-- A text all of whose runes are such. -/
def good (s : ByteArray) : Nat → Nat → Bool
  | 0, pos => decide (s.size ≤ pos)
  | f + 1, pos => if pos < s.size then (!decide ((Utf8.decode s pos).1 = 65533)) && good s f (pos + (Utf8.decode s pos).2) else true
theorem width_pos (s : ByteArray) (pos : Nat) (h : pos < s.size) : 1 ≤ (Utf8.decode s pos).2 := by
  by_cases ha : (s[pos]'h).toNat < 128
  · rw [decode_ascii s pos h ha]
    exact Nat.le_refl _
  · exact (decode_high s pos h (by omega)).2
set_option maxRecDepth 1000000 in
theorem valid_walk (s : ByteArray) (hg : good s s.size 0 = true) (w : World) :
    Calls Go.Proofs.Tryz.prog 222 #[.string s] w fun e w' => e = .returned (.bool true) ∧ ∃ pos, w' = w.iter s pos := by
  go_enter Go.Proofs.Tryz.func222, Go.Proofs.Tryz.ntmps222
  go_wp2
  refine wp_scope_straight (wp_seq (wp_label ?_))
  show Code.wp _ _ _ _ _
  go_wp2
  go_loopw [2] (fun n w' => n = .bool false ∧ ∃ pos b : Nat, w' = w.iter s pos ∧ good s b pos = true ∧ s.size ≤ pos + b) (fun _ w' => s.size - w'.iterPos w.heap.size)
  case atStart => exact ⟨rfl, 0, s.size, rfl, hg, by omega⟩
  case round =>
    obtain ⟨rfl, pos, b, rfl, hc, hb⟩ := hrel
    by_cases hp : pos < s.size
    · have hnx : ∀ ty, (Instr.next (.pointer (some ⟨w.heap.size, 0, none⟩)) true ty).run Go.Proofs.Tryz.prog (w.iter s pos) = _ := fun ty => run_next_any w s pos ty hp
      have hwd := width_pos s pos hp
      cases b with
      | zero => omega
      | succ b =>
        simp only [good, if_pos hp, Bool.and_eq_true, Bool.not_eq_true', decide_eq_false_iff_not] at hc
        obtain ⟨hc1, hc2⟩ := hc
        go_wp2
        · go_roundw
          case rel => exact ⟨rfl, _, b, rfl, hc2, by omega⟩
          case measure =>
            simp
            omega
    · have hnx : ∀ ty, (Instr.next (.pointer (some ⟨w.heap.size, 0, none⟩)) true ty).run Go.Proofs.Tryz.prog (w.iter s pos) = _ := fun ty => run_next_end w s pos ty hp
      go_wp2
      change bodyPost Go.Proofs.Tryz.prog Go.Proofs.Tryz.f222 (fun e w' => e = Ending.returned (Value.bool true) ∧ ∃ pos, w' = w.iter s pos) .ret _ _
      go_ret
      exact ⟨rfl, _, rfl⟩
theorem valid_ct (s : ByteArray) (hg : good s s.size 0 = true) : Pure Go.Proofs.Tryz.prog 222 [.s s] (.ret (.b true)) := by
  refine ⟨⟨_, Go.Proofs.Tryz.func222, by kernel_rfl, by kernel_rfl⟩, fun w ok vs hr => ?_⟩
  simp only [repVals, rep] at hr
  obtain ⟨v, ws, rfl, rfl, rfl⟩ := hr
  refine (valid_walk s hg w).mono ?_
  rintro e w' ⟨rfl, pos, rfl⟩
  refine ⟨(Below.refl _ _).alloc (Nat.le_refl _) _, _, rfl, ?_⟩
  simp only [rep]
end Go.Px
end

section
namespace Go.Px
open Go.RowKit

def TextOK (s : ByteArray) : Prop := s.size ≤ 2000 ∧ good s s.size 0 = true
theorem text_ct (s : ByteArray) (h : TextOK s) : Pure Go.Proofs.Tryz.prog 194 [.s s] (.ret (.b true)) := by
  have hv := valid_ct s h.2
  have hs := h.1
  refine Pure.body tys_valid (fn := Go.Proofs.Tryz.f194) (by kernel_rfl) rfl (by kernel_rfl) rfl ?_
  intro w ok giv E0 _ hE
  refine H.go 60 [(1, [(2, .gd true), (5, .res (.ret (.b true)))])] [] [] rfl ?_ ?_
  · repeat' (first | exact AllP.n | exact trivial | exact DrawB.mk (by decide +kernel) | exact fun _ => rfl | refine AllP.c ?_ ?_)
    all_goals (try dsimp only)
    all_goals try first | exact rfl | omega | exact at_tr _ _ (by omega) | exact at_s _ _ (by omega) | exact dt (by omega) | exact df (by omega) | exact decide_eq_true (by omega) | exact decide_eq_false (by omega) | exact bts_t (by assumption) | exact bts_f (by assumption) | (unfold InR; omega) | exact hv
  refine ⟨_, _, rfl, ?_, ?_⟩
  · repeat' (first | exact AllP.n | exact trivial | exact DrawB.mk (by decide +kernel) | exact fun _ => rfl | refine AllP.c ?_ ?_)
    all_goals (try dsimp only)
    all_goals try first | exact rfl | omega | exact at_tr _ _ (by omega) | exact at_s _ _ (by omega) | exact dt (by omega) | exact df (by omega) | exact decide_eq_true (by omega) | exact decide_eq_false (by omega) | exact bts_t (by assumption) | exact bts_f (by assumption) | (unfold InR; omega)
  · exact .refl _

def NamesOK (k : List ByteArray) : Prop := (∀ (i : Nat) (h : i < k.length), TextOK k[i]) ∧ (∀ (i : Nat) (_ : 0 < i) (h : i < k.length), Op.bytesLess k[i - 1].toList k[i].toList = true) ∧ k.length ≤ 300
theorem names_ct (k : List ByteArray) (h : NamesOK k) : Pure Go.Proofs.Tryz.prog 195 [.sl 1 k.length (k.map D.s)] (.ret (.b true)) := by
  obtain ⟨ht, hs, hl⟩ := h
  refine Pure.body tys_valid (fn := Go.Proofs.Tryz.f195) (by kernel_rfl) rfl (by kernel_rfl) rfl ?_
  intro w ok giv E0 _ hE
  refine H.go 60 [] [] [] rfl ?_ ?_
  · repeat' (first | exact AllP.n | exact trivial | exact DrawB.mk (by decide +kernel) | exact fun _ => rfl | refine AllP.c ?_ ?_)
    all_goals (try dsimp only)
    all_goals try first | exact rfl | omega | exact at_tr _ _ (by omega) | exact at_s _ _ (by omega) | exact dt (by omega) | exact df (by omega) | exact decide_eq_true (by omega) | exact decide_eq_false (by omega) | exact bts_t (by assumption) | exact bts_f (by assumption) | (unfold InR; omega)
  refine H.loopI (fun i => i ≤ k.length) (fun i : Nat => ⟨[(0, .sl 1 k.length (k.map D.s)), (5, .sl 1 k.length (k.map D.s)), (6, .i .i64 k.length), (7, .i .i64 i)], [], 0⟩) (fun i => k.length - i) 0 (Nat.zero_le _) ?_ ?_
  · intro a w s
    exact s.ren hE [] ⟨⟨rfl, rfl⟩, ⟨rfl, rfl⟩, ⟨rfl, rfl⟩, ⟨rfl, rfl⟩, trivial⟩ trivial rfl
  intro i h1
  by_cases hi : i < k.length
  · have hti := text_ct k[i] (ht i hi)
    by_cases h0 : 0 < i
    · have hsi := hs i h0 hi
      refine H.go 60 [(3, [(2, .cell (.s k[i]))]), (4, [(1, .res (.ret (.b true))), (5, .gd true), (9, .val (.i .i64 (i - 1 : Nat))), (11, .cell (.s (k[i - 1]'(by omega)))), (13, .gd false)])] [(8, true)] [] rfl ?_ ?_
      · repeat' (first | exact AllP.n | exact trivial | exact DrawB.mk (by decide +kernel) | exact fun _ => rfl | refine AllP.c ?_ ?_)
        all_goals (try dsimp only)
        all_goals try first | exact rfl | omega | exact at_tr _ _ (by omega) | exact at_s _ _ (by omega) | exact dt (by omega) | exact df (by omega) | exact decide_eq_true (by omega) | exact decide_eq_false (by omega) | exact bts_t (by assumption) | exact bts_f (by assumption) | (unfold InR; omega) | exact hti | (refine ⟨trivial, ?_⟩; rw [hsi]; rfl) | (refine ⟨?_, ?_⟩; (unfold InR; omega); exact congrArg _ (by omega))
      exact loopN (i + 1) hi (by show k.length - (i + 1) < k.length - i; omega) fun a w s => s.ren hE [] ⟨⟨rfl, rfl⟩, ⟨rfl, rfl⟩, ⟨rfl, rfl⟩, ⟨rfl, rfl⟩, trivial⟩ trivial rfl
    · obtain rfl : i = 0 := by omega
      refine H.go 60 [(3, [(2, .cell (.s k[0]))]), (4, [(1, .res (.ret (.b true))), (5, .gd false)])] [(8, true)] [] rfl ?_ ?_
      · repeat' (first | exact AllP.n | exact trivial | exact DrawB.mk (by decide +kernel) | exact fun _ => rfl | refine AllP.c ?_ ?_)
        all_goals (try dsimp only)
        all_goals try first | exact rfl | omega | exact at_tr _ _ (by omega) | exact at_s _ _ (by omega) | exact dt (by omega) | exact df (by omega) | exact decide_eq_true (by omega) | exact decide_eq_false (by omega) | exact bts_t (by assumption) | exact bts_f (by assumption) | (unfold InR; omega) | exact hti
      exact loopN 1 hi (by show k.length - 1 < k.length - 0; omega) fun a w s => s.ren hE [] ⟨⟨rfl, rfl⟩, ⟨rfl, rfl⟩, ⟨rfl, rfl⟩, ⟨rfl, rfl⟩, trivial⟩ trivial rfl
  · obtain rfl : i = k.length := by omega
    refine H.go 60 [] [(8, false)] [] rfl ?_ ?_
    · repeat' (first | exact AllP.n | exact trivial | exact DrawB.mk (by decide +kernel) | exact fun _ => rfl | refine AllP.c ?_ ?_)
      all_goals (try dsimp only)
      all_goals try first | exact rfl | omega | exact at_tr _ _ (by omega) | exact at_s _ _ (by omega) | exact dt (by omega) | exact df (by omega) | exact decide_eq_true (by omega) | exact decide_eq_false (by omega) | exact bts_t (by assumption) | exact bts_f (by assumption) | (unfold InR; omega)
    refine H.go 60 [(7, [(2, .gd true)])] [] [] rfl ?_ ?_
    · repeat' (first | exact AllP.n | exact trivial | exact DrawB.mk (by decide +kernel) | exact fun _ => rfl | refine AllP.c ?_ ?_)
      all_goals (try dsimp only)
      all_goals try first | exact rfl | omega | exact at_tr _ _ (by omega) | exact at_s _ _ (by omega) | exact dt (by omega) | exact df (by omega) | exact decide_eq_true (by omega) | exact decide_eq_false (by omega) | exact bts_t (by assumption) | exact bts_f (by assumption) | (unfold InR; omega)
    refine ⟨_, _, rfl, ?_, ?_⟩
    · repeat' (first | exact AllP.n | exact trivial | exact DrawB.mk (by decide +kernel) | exact fun _ => rfl | refine AllP.c ?_ ?_)
      all_goals (try dsimp only)
      all_goals try first | exact rfl | omega | exact at_tr _ _ (by omega) | exact at_s _ _ (by omega) | exact dt (by omega) | exact df (by omega) | exact decide_eq_true (by omega) | exact decide_eq_false (by omega) | exact bts_t (by assumption) | exact bts_f (by assumption) | (unfold InR; omega)
    · exact .refl _

end Go.Px
end

section
namespace Go.Px
open Go.RowKit

abbrev N0 : Nm := ⟨false, [], 0⟩
abbrev S0 : ByteArray := ⟨#[]⟩
/-- A value that may be, but for how many and how deep. -/
inductive VT : Tr → Prop
  | null : VT (.mk 1 false N0 S0 [] [])
  | bool (b : Bool) : VT (.mk 2 b N0 S0 [] [])
  | num (n : Nm) (h : NOK n) : VT (.mk 3 false n S0 [] [])
  | text (s : ByteArray) (h : TextOK s) : VT (.mk 4 false N0 s [] [])
  | bytes (s : ByteArray) (h : s.size ≤ 2000) : VT (.mk 5 false N0 s [] [])
  | arr (v : List Tr) (hl : v.length ≤ 300) (h : ∀ t ∈ v, VT t) : VT (.mk 6 false N0 S0 [] v)
  | obj (k : List ByteArray) (v : List Tr) (hk : NamesOK k) (hl : k.length = v.length) (h : ∀ t ∈ v, VT t) : VT (.mk 7 false N0 S0 k v)
theorem own_null  : Pure Go.Proofs.Tryz.prog 143 [.ag (enc (.mk 1 false N0 S0 [] []))] (.ret (.b true)) := by
  refine Pure.body tys_valid (fn := Go.Proofs.Tryz.f143) (by kernel_rfl) rfl (by kernel_rfl) rfl ?_
  intro w ok giv E0 _ hE
  refine H.go 200 [(1, [(2, .gd true), (6, .gd true), (12, .gd true), (18, .gd true), (22, .gd true)]), (2, [(3, .gd true), (7, .gd true)])] [] dr143 rfl ?_ ?_
  · repeat' (first | exact AllP.n | exact trivial | exact DrawB.mk (by decide +kernel) | exact fun _ => rfl | refine AllP.c ?_ ?_)
    all_goals (try dsimp only)
    all_goals try first | exact rfl | exact ⟨trivial, rfl⟩ | exact ⟨trivial, bts_t rfl⟩ | omega | exact at_tr _ _ (by omega) | exact at_s _ _ (by omega) | exact dt (by omega) | exact df (by omega) | exact decide_eq_true (by omega) | exact decide_eq_false (by omega) | exact bts_t (by assumption) | exact bts_f (by assumption) | (unfold InR; omega)
  refine ⟨_, _, rfl, ?_, ?_⟩
  · repeat' (first | exact AllP.n | exact trivial | exact DrawB.mk (by decide +kernel) | exact fun _ => rfl | refine AllP.c ?_ ?_)
    all_goals (try dsimp only)
    all_goals try first | exact rfl | exact ⟨trivial, rfl⟩ | exact ⟨trivial, bts_t rfl⟩ | omega | exact at_tr _ _ (by omega) | exact at_s _ _ (by omega) | exact dt (by omega) | exact df (by omega) | exact decide_eq_true (by omega) | exact decide_eq_false (by omega) | exact bts_t (by assumption) | exact bts_f (by assumption) | (unfold InR; omega)
  · exact .refl _
theorem own_bool (b : Bool) : Pure Go.Proofs.Tryz.prog 143 [.ag (enc (.mk 2 b N0 S0 [] []))] (.ret (.b true)) := by
  refine Pure.body tys_valid (fn := Go.Proofs.Tryz.f143) (by kernel_rfl) rfl (by kernel_rfl) rfl ?_
  intro w ok giv E0 _ hE
  refine H.go 200 [(1, [(6, .gd true), (12, .gd true), (18, .gd true), (22, .gd true)]), (2, [(3, .gd true), (7, .gd true)])] [] dr143 rfl ?_ ?_
  · repeat' (first | exact AllP.n | exact trivial | exact DrawB.mk (by decide +kernel) | exact fun _ => rfl | refine AllP.c ?_ ?_)
    all_goals (try dsimp only)
    all_goals try first | exact rfl | exact ⟨trivial, rfl⟩ | exact ⟨trivial, bts_t rfl⟩ | omega | exact at_tr _ _ (by omega) | exact at_s _ _ (by omega) | exact dt (by omega) | exact df (by omega) | exact decide_eq_true (by omega) | exact decide_eq_false (by omega) | exact bts_t (by assumption) | exact bts_f (by assumption) | (unfold InR; omega)
  refine ⟨_, _, rfl, ?_, ?_⟩
  · repeat' (first | exact AllP.n | exact trivial | exact DrawB.mk (by decide +kernel) | exact fun _ => rfl | refine AllP.c ?_ ?_)
    all_goals (try dsimp only)
    all_goals try first | exact rfl | exact ⟨trivial, rfl⟩ | exact ⟨trivial, bts_t rfl⟩ | omega | exact at_tr _ _ (by omega) | exact at_s _ _ (by omega) | exact dt (by omega) | exact df (by omega) | exact decide_eq_true (by omega) | exact decide_eq_false (by omega) | exact bts_t (by assumption) | exact bts_f (by assumption) | (unfold InR; omega)
  · exact .refl _
theorem own_text (s : ByteArray) (h : TextOK s) : Pure Go.Proofs.Tryz.prog 143 [.ag (enc (.mk 4 false N0 s [] []))] (.ret (.b true)) := by
  have ht := text_ct s h
  refine Pure.body tys_valid (fn := Go.Proofs.Tryz.f143) (by kernel_rfl) rfl (by kernel_rfl) rfl ?_
  intro w ok giv E0 _ hE
  refine H.go 200 [(1, [(2, .gd true), (6, .gd true), (12, .gd true), (18, .gd true)]), (2, [(3, .gd true), (7, .gd true)]), (13, [(2, .res (.ret (.b true)))])] [] dr143 rfl ?_ ?_
  · repeat' (first | exact AllP.n | exact trivial | exact DrawB.mk (by decide +kernel) | exact fun _ => rfl | refine AllP.c ?_ ?_)
    all_goals (try dsimp only)
    all_goals try first | exact rfl | exact ⟨trivial, rfl⟩ | exact ⟨trivial, bts_t rfl⟩ | omega | exact at_tr _ _ (by omega) | exact at_s _ _ (by omega) | exact dt (by omega) | exact df (by omega) | exact decide_eq_true (by omega) | exact decide_eq_false (by omega) | exact bts_t (by assumption) | exact bts_f (by assumption) | (unfold InR; omega) | exact ht
  refine ⟨_, _, rfl, ?_, ?_⟩
  · repeat' (first | exact AllP.n | exact trivial | exact DrawB.mk (by decide +kernel) | exact fun _ => rfl | refine AllP.c ?_ ?_)
    all_goals (try dsimp only)
    all_goals try first | exact rfl | exact ⟨trivial, rfl⟩ | exact ⟨trivial, bts_t rfl⟩ | omega | exact at_tr _ _ (by omega) | exact at_s _ _ (by omega) | exact dt (by omega) | exact df (by omega) | exact decide_eq_true (by omega) | exact decide_eq_false (by omega) | exact bts_t (by assumption) | exact bts_f (by assumption) | (unfold InR; omega)
  · exact .refl _
theorem own_bytes (s : ByteArray) (h : s.size ≤ 2000) : Pure Go.Proofs.Tryz.prog 143 [.ag (enc (.mk 5 false N0 s [] []))] (.ret (.b true)) := by
  refine Pure.body tys_valid (fn := Go.Proofs.Tryz.f143) (by kernel_rfl) rfl (by kernel_rfl) rfl ?_
  intro w ok giv E0 _ hE
  refine H.go 200 [(1, [(2, .gd true), (6, .gd true), (12, .gd true), (18, .gd true)]), (2, [(3, .gd true), (7, .gd true)]), (14, [(3, .gd true)])] [] dr143 rfl ?_ ?_
  · repeat' (first | exact AllP.n | exact trivial | exact DrawB.mk (by decide +kernel) | exact fun _ => rfl | refine AllP.c ?_ ?_)
    all_goals (try dsimp only)
    all_goals try first | exact rfl | exact ⟨trivial, rfl⟩ | exact ⟨trivial, bts_t rfl⟩ | omega | exact at_tr _ _ (by omega) | exact at_s _ _ (by omega) | exact dt (by omega) | exact df (by omega) | exact decide_eq_true (by omega) | exact decide_eq_false (by omega) | exact bts_t (by assumption) | exact bts_f (by assumption) | (unfold InR; omega) | (refine ⟨trivial, decide_eq_true ?_⟩; simp only [Tr.s, Tr.k, Tr.v]; omega)
  refine ⟨_, _, rfl, ?_, ?_⟩
  · repeat' (first | exact AllP.n | exact trivial | exact DrawB.mk (by decide +kernel) | exact fun _ => rfl | refine AllP.c ?_ ?_)
    all_goals (try dsimp only)
    all_goals try first | exact rfl | exact ⟨trivial, rfl⟩ | exact ⟨trivial, bts_t rfl⟩ | omega | exact at_tr _ _ (by omega) | exact at_s _ _ (by omega) | exact dt (by omega) | exact df (by omega) | exact decide_eq_true (by omega) | exact decide_eq_false (by omega) | exact bts_t (by assumption) | exact bts_f (by assumption) | (unfold InR; omega)
  · exact .refl _
theorem own_arr (v : List Tr) (hl : v.length ≤ 300) : Pure Go.Proofs.Tryz.prog 143 [.ag (enc (.mk 6 false N0 S0 [] v))] (.ret (.b true)) := by
  refine Pure.body tys_valid (fn := Go.Proofs.Tryz.f143) (by kernel_rfl) rfl (by kernel_rfl) rfl ?_
  intro w ok giv E0 _ hE
  refine H.go 200 [(1, [(2, .gd true), (6, .gd true), (12, .gd true), (18, .gd true), (22, .gd true)]), (2, [(3, .gd true)]), (16, [(3, .gd true)])] [] dr143 rfl ?_ ?_
  · repeat' (first | exact AllP.n | exact trivial | exact DrawB.mk (by decide +kernel) | exact fun _ => rfl | refine AllP.c ?_ ?_)
    all_goals (try dsimp only)
    all_goals try first | exact rfl | exact ⟨trivial, rfl⟩ | exact ⟨trivial, bts_t rfl⟩ | omega | exact at_tr _ _ (by omega) | exact at_s _ _ (by omega) | exact dt (by omega) | exact df (by omega) | exact decide_eq_true (by omega) | exact decide_eq_false (by omega) | exact bts_t (by assumption) | exact bts_f (by assumption) | (unfold InR; omega) | (refine ⟨trivial, decide_eq_true ?_⟩; simp only [Tr.s, Tr.k, Tr.v]; omega)
  refine ⟨_, _, rfl, ?_, ?_⟩
  · repeat' (first | exact AllP.n | exact trivial | exact DrawB.mk (by decide +kernel) | exact fun _ => rfl | refine AllP.c ?_ ?_)
    all_goals (try dsimp only)
    all_goals try first | exact rfl | exact ⟨trivial, rfl⟩ | exact ⟨trivial, bts_t rfl⟩ | omega | exact at_tr _ _ (by omega) | exact at_s _ _ (by omega) | exact dt (by omega) | exact df (by omega) | exact decide_eq_true (by omega) | exact decide_eq_false (by omega) | exact bts_t (by assumption) | exact bts_f (by assumption) | (unfold InR; omega)
  · exact .refl _
theorem own_obj (k : List ByteArray) (v : List Tr) (hk : NamesOK k) (hl : k.length = v.length) : Pure Go.Proofs.Tryz.prog 143 [.ag (enc (.mk 7 false N0 S0 k v))] (.ret (.b true)) := by
  have hn := names_ct k hk
  have h3 := hk.2.2
  refine Pure.body tys_valid (fn := Go.Proofs.Tryz.f143) (by kernel_rfl) rfl (by kernel_rfl) rfl ?_
  intro w ok giv E0 _ hE
  refine H.go 200 [(1, [(2, .gd true), (6, .gd true), (12, .gd true), (18, .gd true), (22, .gd true)]), (2, []), (15, [(2, .res (.ret (.b true))), (10, .gd true)]), (16, [(3, .gd true)])] [] dr143 rfl ?_ ?_
  · repeat' (first | exact AllP.n | exact trivial | exact DrawB.mk (by decide +kernel) | exact fun _ => rfl | refine AllP.c ?_ ?_)
    all_goals (try dsimp only)
    all_goals try first | exact rfl | exact ⟨trivial, rfl⟩ | exact ⟨trivial, bts_t rfl⟩ | omega | exact at_tr _ _ (by omega) | exact at_s _ _ (by omega) | exact dt (by omega) | exact df (by omega) | exact decide_eq_true (by omega) | exact decide_eq_false (by omega) | exact bts_t (by assumption) | exact bts_f (by assumption) | (unfold InR; omega) | exact hn | (refine ⟨trivial, decide_eq_true ?_⟩; simp only [Tr.s, Tr.k, Tr.v]; omega) | (refine ⟨trivial, ?_⟩; simp only [Tr.k, Tr.v, hl]; simp)
  refine ⟨_, _, rfl, ?_, ?_⟩
  · repeat' (first | exact AllP.n | exact trivial | exact DrawB.mk (by decide +kernel) | exact fun _ => rfl | refine AllP.c ?_ ?_)
    all_goals (try dsimp only)
    all_goals try first | exact rfl | exact ⟨trivial, rfl⟩ | exact ⟨trivial, bts_t rfl⟩ | omega | exact at_tr _ _ (by omega) | exact at_s _ _ (by omega) | exact dt (by omega) | exact df (by omega) | exact decide_eq_true (by omega) | exact decide_eq_false (by omega) | exact bts_t (by assumption) | exact bts_f (by assumption) | (unfold InR; omega)
  · exact .refl _
theorem nok_ne {n : Nm} (h : NOK n) : n = N0 ∨ 0 < n.m.length := by
  rcases h with h | ⟨v, h0, h10, hm, hl, he1, he2⟩
  · exact .inl h
  · right
    rw [hm, limbs_pos h0]
    simp
theorem own_num (n : Nm) (h : NOK n) : Pure Go.Proofs.Tryz.prog 143 [.ag (enc (.mk 3 false n S0 [] []))] (.ret (.b true)) := by
  have hc := check_ok n h
  refine Pure.body tys_valid (fn := Go.Proofs.Tryz.f143) (by kernel_rfl) rfl (by kernel_rfl) rfl ?_
  intro w ok giv E0 _ hE
  rcases nok_ne h with rfl | hp
  · have hneg : N0.neg = false := rfl
    refine H.go 200 [(1, [(2, .gd true), (6, .gd true), (12, .gd true), (18, .gd true), (22, .gd true)]), (2, [(3, .gd true), (7, .gd true)]), (12, [(2, .res (.ret (.b true)))])] [] dr143 rfl ?_ ?_
    · repeat' (first | exact AllP.n | exact trivial | exact DrawB.mk (by decide +kernel) | exact fun _ => rfl | refine AllP.c ?_ ?_)
      all_goals (try dsimp only)
      all_goals try first | exact rfl | exact ⟨trivial, rfl⟩ | exact ⟨trivial, bts_t rfl⟩ | omega | exact at_tr _ _ (by omega) | exact at_s _ _ (by omega) | exact dt (by omega) | exact df (by omega) | exact decide_eq_true (by omega) | exact decide_eq_false (by omega) | exact bts_t (by assumption) | exact bts_f (by assumption) | (unfold InR; omega) | exact hc | (refine ⟨trivial, ?_⟩; simp only [Tr.n, hneg]; rfl) | (refine ⟨trivial, beq_false_of_ne ?_⟩; simp only [Tr.n]; omega)
    refine ⟨_, _, rfl, ?_, ?_⟩
    · repeat' (first | exact AllP.n | exact trivial | exact DrawB.mk (by decide +kernel) | exact fun _ => rfl | refine AllP.c ?_ ?_)
      all_goals (try dsimp only)
      all_goals try first | exact rfl | exact ⟨trivial, rfl⟩ | exact ⟨trivial, bts_t rfl⟩ | omega | exact at_tr _ _ (by omega) | exact at_s _ _ (by omega) | exact dt (by omega) | exact df (by omega) | exact decide_eq_true (by omega) | exact decide_eq_false (by omega) | exact bts_t (by assumption) | exact bts_f (by assumption) | (unfold InR; omega)
    · exact .refl _
  · cases hneg : n.neg with
    | true =>
      refine H.go 200 [(1, [(2, .gd true), (6, .gd false), (22, .gd true)]), (2, [(3, .gd true), (7, .gd true)]), (12, [(2, .res (.ret (.b true)))])] [] dr143 rfl ?_ ?_
      · repeat' (first | exact AllP.n | exact trivial | exact DrawB.mk (by decide +kernel) | exact fun _ => rfl | refine AllP.c ?_ ?_)
        all_goals (try dsimp only)
        all_goals try first | exact rfl | exact ⟨trivial, rfl⟩ | exact ⟨trivial, bts_t rfl⟩ | omega | exact at_tr _ _ (by omega) | exact at_s _ _ (by omega) | exact dt (by omega) | exact df (by omega) | exact decide_eq_true (by omega) | exact decide_eq_false (by omega) | exact bts_t (by assumption) | exact bts_f (by assumption) | (unfold InR; omega) | exact hc | (refine ⟨trivial, ?_⟩; simp only [Tr.n, hneg]; rfl) | (refine ⟨trivial, beq_false_of_ne ?_⟩; simp only [Tr.n]; omega)
      refine ⟨_, _, rfl, ?_, ?_⟩
      · repeat' (first | exact AllP.n | exact trivial | exact DrawB.mk (by decide +kernel) | exact fun _ => rfl | refine AllP.c ?_ ?_)
        all_goals (try dsimp only)
        all_goals try first | exact rfl | exact ⟨trivial, rfl⟩ | exact ⟨trivial, bts_t rfl⟩ | omega | exact at_tr _ _ (by omega) | exact at_s _ _ (by omega) | exact dt (by omega) | exact df (by omega) | exact decide_eq_true (by omega) | exact decide_eq_false (by omega) | exact bts_t (by assumption) | exact bts_f (by assumption) | (unfold InR; omega)
      · exact .refl _
    | false =>
      refine H.go 200 [(1, [(2, .gd true), (6, .gd true), (12, .gd false), (22, .gd true)]), (2, [(3, .gd true), (7, .gd true)]), (12, [(2, .res (.ret (.b true)))])] [] dr143 rfl ?_ ?_
      · repeat' (first | exact AllP.n | exact trivial | exact DrawB.mk (by decide +kernel) | exact fun _ => rfl | refine AllP.c ?_ ?_)
        all_goals (try dsimp only)
        all_goals try first | exact rfl | exact ⟨trivial, rfl⟩ | exact ⟨trivial, bts_t rfl⟩ | omega | exact at_tr _ _ (by omega) | exact at_s _ _ (by omega) | exact dt (by omega) | exact df (by omega) | exact decide_eq_true (by omega) | exact decide_eq_false (by omega) | exact bts_t (by assumption) | exact bts_f (by assumption) | (unfold InR; omega) | exact hc | (refine ⟨trivial, ?_⟩; simp only [Tr.n, hneg]; rfl) | (refine ⟨trivial, beq_false_of_ne ?_⟩; simp only [Tr.n]; omega)
      refine ⟨_, _, rfl, ?_, ?_⟩
      · repeat' (first | exact AllP.n | exact trivial | exact DrawB.mk (by decide +kernel) | exact fun _ => rfl | refine AllP.c ?_ ?_)
        all_goals (try dsimp only)
        all_goals try first | exact rfl | exact ⟨trivial, rfl⟩ | exact ⟨trivial, bts_t rfl⟩ | omega | exact at_tr _ _ (by omega) | exact at_s _ _ (by omega) | exact dt (by omega) | exact df (by omega) | exact decide_eq_true (by omega) | exact decide_eq_false (by omega) | exact bts_t (by assumption) | exact bts_f (by assumption) | (unfold InR; omega)
      · exact .refl _
theorem own_ct (t : Tr) (h : VT t) : Pure Go.Proofs.Tryz.prog 143 [.ag (enc t)] (.ret (.b true)) := by
  cases h with
  | null => exact own_null
  | bool b => exact own_bool b
  | num n h => exact own_num n h
  | text s h => exact own_text s h
  | bytes s h => exact own_bytes s h
  | arr v hl h => exact own_arr v hl
  | obj k v hk hl h => exact own_obj k v hk hl
end Go.Px
end

section
namespace Go.Px
open Go.RowKit

mutual
def nodes : Tr → Nat
  | .mk _ _ _ _ _ v => 1 + nodesL v
def nodesL : List Tr → Nat
  | [] => 0
  | t :: l => nodes t + nodesL l
end
mutual
def depth : Tr → Nat
  | .mk _ _ _ _ _ v => 1 + depthL v
def depthL : List Tr → Nat
  | [] => 0
  | t :: l => max (depth t) (depthL l)
end
theorem nodes_eq (t : Tr) : nodes t = 1 + nodesL t.v := by cases t; simp only [nodes, Tr.v]
theorem depth_eq (t : Tr) : depth t = 1 + depthL t.v := by cases t; simp only [depth, Tr.v]
theorem nodesL_take (l : List Tr) (i : Nat) (h : i < l.length) : nodesL (l.take (i + 1)) = nodesL (l.take i) + nodes l[i] := by
  induction l generalizing i with
  | nil => simp at h
  | cons t l ih =>
    cases i with
    | zero => simp [nodesL]
    | succ i =>
      have := ih i (by simpa using h)
      simp only [List.take_succ_cons, nodesL, List.getElem_cons_succ, this]
      omega
theorem nodesL_le (l : List Tr) (i : Nat) : nodesL (l.take i) ≤ nodesL l := by
  induction l generalizing i with
  | nil => simp
  | cons t l ih =>
    cases i with
    | zero => simp [nodesL]
    | succ i => simp only [List.take_succ_cons, nodesL]; have := ih i; omega
theorem depthL_at (l : List Tr) (i : Nat) (h : i < l.length) : depth l[i] ≤ depthL l := by
  induction l generalizing i with
  | nil => simp at h
  | cons t l ih =>
    cases i with
    | zero => simp only [List.getElem_cons_zero, depthL]; omega
    | succ i => have := ih i (by simpa using h); simp only [List.getElem_cons_succ, depthL]; omega
theorem nodesL_at (l : List Tr) (i : Nat) (h : i < l.length) : nodes l[i] ≤ nodesL l := by
  have h1 := nodesL_take l i h
  have h2 := nodesL_le l (i + 1)
  omega
theorem VT.at {t : Tr} (h : VT t) (i : Nat) (hi : i < t.v.length) : VT t.v[i] := by
  cases h <;> first | (exfalso; simp [Tr.v] at hi; done) | skip
  all_goals (rename_i hh; exact hh _ (List.getElem_mem _))
theorem VT.len {t : Tr} (h : VT t) : t.v.length ≤ 300 := by
  cases h with
  | arr v hl h => exact hl
  | obj k v hk hl h => exact hl ▸ hk.2.2
  | _ => simp [Tr.v]
abbrev lft (n : Int) : List (Nat × Root) := [(0, ⟨3, 1, [.i .i64 n], 0, true, true, true⟩)]
theorem check_ct (t : Tr) : ∀ (deep left : Nat), VT t → nodes t ≤ left → left ≤ 2000 → deep + depth t ≤ 65 →
    Mut Go.Proofs.Tryz.prog 87 [.ag (enc t), .i .i64 deep, .oa 0 0] (lft left) (.b true) (lft ((left - nodes t : Nat) : Int)) := by
  induction hd : nodes t using Nat.strongRecOn generalizing t with
  | _ n ih =>
  subst hd
  intro deep left hv hn hl hdp
  have hown := own_ct t hv
  have hnq := nodes_eq t
  have hdq := depth_eq t
  have h300 := hv.len
  refine Mut.body tys_valid (fn := Go.Proofs.Tryz.f87) (by kernel_rfl) rfl (by kernel_rfl) rfl ?_
  intro w ok giv E0 hE
  refine H.go 200 [(1, [(3, .val (.i .i64 ((left - 1 : Nat) : Int)))]), (2, [(3, .gd false), (6, .gd false), (10, .res (.ret (.b true)))])] [] [] rfl ?_ ?_
  · repeat' (first | exact AllP.n | exact trivial | exact DrawB.mk (by decide +kernel) | exact fun _ => rfl | refine AllP.c ?_ ?_)
    all_goals (try dsimp only)
    all_goals try first | exact rfl | exact ⟨trivial, rfl⟩ | exact ⟨trivial, bts_t rfl⟩ | omega | exact at_tr _ _ (by omega) | exact at_s _ _ (by omega) | exact dt (by omega) | exact df (by omega) | exact decide_eq_true (by omega) | exact decide_eq_false (by omega) | exact bts_t (by assumption) | exact bts_f (by assumption) | (unfold InR; omega) | exact hown | (refine ⟨?_, ?_⟩; (unfold InR; omega); exact congrArg _ (by omega))
  refine H.loopI (fun x => x.1 ≤ t.v.length ∧ x.2 = left - 1 - nodesL (t.v.take x.1)) (fun x : Nat × Nat => ⟨[(1, .i .i64 deep), (2, .oa 0 0), (28, .sl 8 t.v.length (encs t.v)), (29, .i .i64 t.v.length), (30, .i .i64 x.1)], lft x.2, 0⟩) (fun x => t.v.length - x.1) (0, left - 1) ⟨Nat.zero_le _, by simp [nodesL]⟩ ?_ ?_
  · intro a w s
    exact s.ren2 [] (by repeat' (first | exact trivial | exact rfl | apply And.intro)) (by repeat' (first | exact trivial | exact rfl | apply And.intro)) rfl (fun r hr => keepR_spec (l := lft left) rfl r (hE r hr))
  rintro ⟨i, n⟩ ⟨h1, h2⟩
  simp only at h1 h2
  by_cases hi : i < t.v.length
  · have e1 := nodesL_take t.v i hi
    have e2 := nodesL_le t.v (i + 1)
    have e3 := depthL_at t.v i hi
    have hc := ih (nodes t.v[i]) (by omega) t.v[i] rfl (deep + 1) n (hv.at i hi) (by omega) (by omega) (by omega)
    have hc : Mut Go.Proofs.Tryz.prog 87 [.ag (enc t.v[i]), .i .i64 ((deep : Int) + 1), .oa 0 0] (lft n) (.b true) (lft ((n - nodes t.v[i] : Nat) : Int)) := by simpa using hc
    refine H.go 200 [(6, [(1, .cells (enc t.v[i]))]), (7, [(4, .mut (.b true) (lft ((n - nodes t.v[i] : Nat) : Int)) [(0, 0)] [])])] [(31, true)] [] rfl ?_ ?_
    · repeat' (first | exact AllP.n | exact trivial | exact DrawB.mk (by decide +kernel) | exact fun _ => rfl | refine AllP.c ?_ ?_)
      all_goals (try dsimp only)
      all_goals try first | exact rfl | exact ⟨trivial, rfl⟩ | exact ⟨trivial, bts_t rfl⟩ | omega | exact at_tr _ _ (by omega) | exact at_s _ _ (by omega) | exact dt (by omega) | exact df (by omega) | exact decide_eq_true (by omega) | exact decide_eq_false (by omega) | exact bts_t (by assumption) | exact bts_f (by assumption) | (unfold InR; omega) | exact hc
    exact loopN (i + 1, n - nodes t.v[i]) ⟨hi, by simp only; omega⟩ (by show t.v.length - (i + 1) < t.v.length - i; omega) fun a w s => s.ren2 [] (by repeat' (first | exact trivial | exact rfl | apply And.intro)) (by repeat' (first | exact trivial | exact rfl | apply And.intro)) rfl (fun r hr => keepR_spec (l := lft left) rfl r (hE r hr))
  · obtain rfl : i = t.v.length := by omega
    rw [List.take_length] at h2
    obtain rfl : n = left - nodes t := by omega
    refine H.go 200 [] [(31, false)] [] rfl ?_ ?_
    · repeat' (first | exact AllP.n | exact trivial | exact DrawB.mk (by decide +kernel) | exact fun _ => rfl | refine AllP.c ?_ ?_)
      all_goals (try dsimp only)
      all_goals try first | exact rfl | exact ⟨trivial, rfl⟩ | exact ⟨trivial, bts_t rfl⟩ | omega | exact at_tr _ _ (by omega) | exact at_s _ _ (by omega) | exact dt (by omega) | exact df (by omega) | exact decide_eq_true (by omega) | exact decide_eq_false (by omega) | exact bts_t (by assumption) | exact bts_f (by assumption) | (unfold InR; omega)
    refine H.go 200 [] [] [] rfl ?_ ?_
    · repeat' (first | exact AllP.n | exact trivial | exact DrawB.mk (by decide +kernel) | exact fun _ => rfl | refine AllP.c ?_ ?_)
      all_goals (try dsimp only)
      all_goals try first | exact rfl | exact ⟨trivial, rfl⟩ | exact ⟨trivial, bts_t rfl⟩ | omega | exact at_tr _ _ (by omega) | exact at_s _ _ (by omega) | exact dt (by omega) | exact df (by omega) | exact decide_eq_true (by omega) | exact decide_eq_false (by omega) | exact bts_t (by assumption) | exact bts_f (by assumption) | (unfold InR; omega)
    refine .inl ⟨[], _, _, _, _, _, rfl, ?_, rfl, rfl, ?_, .refl _, ?_, rfl, rfl⟩
    · repeat' (first | exact AllP.n | exact trivial | refine AllP.c ?_ ?_)
    · repeat' (first | exact AllP.n | exact trivial | refine AllP.c ?_ ?_)
    · repeat' (first | exact trivial | exact rfl | apply And.intro)
theorem Check_ct (t : Tr) (hv : VT t) (hn : nodes t ≤ 2000) (hd : depth t ≤ 64) : Pure Go.Proofs.Tryz.prog 41 [.ag (enc t)] (.ret (.b true)) := by
  have hc := check_ct t 1 2000 hv hn (Nat.le_refl _) (by omega)
  refine Pure.body tys_valid (fn := Go.Proofs.Tryz.f41) (by kernel_rfl) rfl (by kernel_rfl) rfl ?_
  intro w ok giv E0 _ hE
  refine H.go 200 [(2, [(1, .mut (.b true) (lft ((2000 - nodes t : Nat) : Int)) [(0, 1)] [])])] [] [] rfl ?_ ?_
  · repeat' (first | exact AllP.n | exact trivial | exact DrawB.mk (by decide +kernel) | exact fun _ => rfl | refine AllP.c ?_ ?_)
    all_goals (try dsimp only)
    all_goals try first | exact rfl | exact ⟨trivial, rfl⟩ | exact ⟨trivial, bts_t rfl⟩ | omega | exact at_tr _ _ (by omega) | exact at_s _ _ (by omega) | exact dt (by omega) | exact df (by omega) | exact decide_eq_true (by omega) | exact decide_eq_false (by omega) | exact bts_t (by assumption) | exact bts_f (by assumption) | (unfold InR; omega) | exact hc
  refine ⟨_, _, rfl, ?_, ?_⟩
  · repeat' (first | exact AllP.n | exact trivial | exact DrawB.mk (by decide +kernel) | exact fun _ => rfl | refine AllP.c ?_ ?_)
    all_goals (try dsimp only)
    all_goals try first | exact rfl | exact ⟨trivial, rfl⟩ | exact ⟨trivial, bts_t rfl⟩ | omega | exact at_tr _ _ (by omega) | exact at_s _ _ (by omega) | exact dt (by omega) | exact df (by omega) | exact decide_eq_true (by omega) | exact decide_eq_false (by omega) | exact bts_t (by assumption) | exact bts_f (by assumption) | (unfold InR; omega)
  · exact .refl _

end Go.Px
end

section
namespace Go.Px
open Go.RowKit

/-- Equals that stand one behind the other become one. -/
def dd : List ByteArray → List ByteArray
  | [] => []
  | [x] => [x]
  | x :: y :: l => if x = y then dd (y :: l) else x :: dd (y :: l)
theorem dd_snoc : ∀ (l : List ByteArray) (x y : ByteArray), dd (l ++ [x, y]) = if x = y then dd (l ++ [x]) else dd (l ++ [x]) ++ [y]
  | [], x, y => by simp only [List.nil_append, dd]; split <;> simp_all
  | [a], x, y => by
    have := dd_snoc [] x y
    simp only [List.nil_append, List.cons_append] at this ⊢
    simp only [dd] at this ⊢
    by_cases h1 : a = x <;> by_cases h2 : x = y <;> simp_all
  | a :: b :: l, x, y => by
    have := dd_snoc (b :: l) x y
    simp only [List.cons_append] at this ⊢
    simp only [dd, this]
    by_cases h1 : a = b <;> by_cases h2 : x = y <;> simp_all
theorem dd_len : ∀ l : List ByteArray, (dd l).length ≤ l.length
  | [] => Nat.le_refl _
  | [_] => Nat.le_refl _
  | x :: y :: l => by
    have := dd_len (y :: l)
    simp only [dd]
    split <;> simp only [List.length_cons] at this ⊢ <;> omega
theorem dd_take (l : List ByteArray) (k : Nat) (h0 : 0 < k) (h : k < l.length) : dd (l.take (k + 1)) = if l[k - 1] = l[k] then dd (l.take k) else dd (l.take k) ++ [l[k]] := by
  have e1 : l.take k = l.take (k - 1) ++ [l[k - 1]] := by
    have := List.take_succ_eq_append_getElem (l := l) (i := k - 1) (by omega)
    rwa [show k - 1 + 1 = k by omega] at this
  rw [List.take_succ_eq_append_getElem h]
  rw [e1, List.append_assoc]
  exact dd_snoc _ _ _
theorem dd_one (l : List ByteArray) (h : 1 ≤ l.length) : dd (l.take 1) = l.take 1 := by
  match l, h with
  | x :: l, _ => rfl
theorem at_sx {l : List ByteArray} {n : Nat} (m : Nat) {x : ByteArray} (h : m < l.length) (e : n = m) (hx : l[m] = x) : ((l.map D.s).drop n)[0]? = some (.s x) := by
  subst e; subst hx
  simp [h]
abbrev srow (cs : List D) : List (Nat × Root) := [(0, ⟨9, 1, cs, 0, true, true, false⟩)]
theorem compact_ct (l : List ByteArray) (hl : l.length < 2^40) : Mut Go.Proofs.Tryz.prog 170 [.os 0 0 l.length] (srow (l.map D.s)) (.os 0 0 (dd l).length) (srow ((dd l).map D.s)) := by
  refine Mut.body tys_valid (fn := Go.Proofs.Tryz.f170) (by kernel_rfl) rfl (by kernel_rfl) rfl ?_
  intro w ok giv E0 hE
  by_cases h2 : l.length < 2
  · have hd : dd l = l := by
      match l, h2 with
      | [], _ => rfl
      | [x], _ => rfl
    rw [hd]
    refine H.go 200 [] [(8, true)] [] rfl ?_ ?_
    · repeat' (first | exact AllP.n | exact trivial | exact DrawB.mk (by decide +kernel) | exact fun _ => rfl | refine AllP.c ?_ ?_)
      all_goals (try dsimp only)
      all_goals try first | exact rfl | exact ⟨trivial, rfl⟩ | exact ⟨trivial, bts_t rfl⟩ | omega | exact at_tr _ _ (by omega) | exact at_s _ _ (by omega) | exact dt (by omega) | exact df (by omega) | exact decide_eq_true (by omega) | exact decide_eq_false (by omega) | exact bts_t (by assumption) | exact bts_f (by assumption) | (rw [bts_t (by assumption)]; rfl) | (rw [bts_f (by assumption)]; rfl) | (unfold InR; omega)
    refine .inr ⟨[], _, _, rfl, ?_, ?_, ?_, rfl, rfl⟩
    · repeat' (first | exact AllP.n | exact trivial | refine AllP.c ?_ ?_)
    · repeat' (first | exact trivial | exact rfl | apply And.intro)
    · repeat' (first | exact trivial | exact rfl | apply And.intro)
  refine H.go 200 [] [(8, false)] [] rfl ?_ ?_
  · repeat' (first | exact AllP.n | exact trivial | exact DrawB.mk (by decide +kernel) | exact fun _ => rfl | refine AllP.c ?_ ?_)
    all_goals (try dsimp only)
    all_goals try first | exact rfl | exact ⟨trivial, rfl⟩ | exact ⟨trivial, bts_t rfl⟩ | omega | exact at_tr _ _ (by omega) | exact at_s _ _ (by omega) | exact dt (by omega) | exact df (by omega) | exact decide_eq_true (by omega) | exact decide_eq_false (by omega) | exact bts_t (by assumption) | exact bts_f (by assumption) | (rw [bts_t (by assumption)]; rfl) | (rw [bts_f (by assumption)]; rfl) | (unfold InR; omega)
  refine H.loopI (fun i : Nat => 0 < i ∧ i ≤ l.length ∧ dd (l.take i) = l.take i) (fun i => ⟨[(0, .os 0 0 l.length), (3, .i .i64 i)], srow (l.map D.s), 0⟩) (fun i => l.length - i) 1 ⟨by omega, by omega, ?_⟩ ?_ ?_
  · exact dd_one l (by omega)
  · intro a w s
    exact s.ren2 [] (by repeat' (first | exact trivial | exact rfl | apply And.intro)) (by repeat' (first | exact trivial | exact rfl | apply And.intro)) rfl (fun r hr => keepR_spec (l := srow (l.map D.s)) rfl r (hE r hr))
  rintro i ⟨h0, h1, hd⟩
  by_cases hi : i < l.length
  · have ht := dd_take l i h0 hi
    have hs1 := at_s l i hi
    have hs2 := at_s l (i - 1) (by omega)
    have ei : ((i : Int) - 1) = ((i - 1 : Nat) : Int) := by omega
    by_cases he : l[i] = l[i - 1]
    · rw [if_pos he.symm, hd] at ht
      refine H.go 200 [(6, [(3, .cell (.s l[i])), (6, .val (.i .i64 ((i - 1 : Nat) : Int))), (8, .cell (.s l[i - 1]))])] [(13, true), (25, true)] dr170 rfl ?_ ?_
      · repeat' (first | exact AllP.n | exact trivial | exact DrawB.mk (by decide +kernel) | exact fun _ => rfl | refine AllP.c ?_ ?_)
        all_goals (try dsimp only)
        all_goals try first | exact rfl | exact ⟨trivial, rfl⟩ | exact ⟨trivial, bts_t rfl⟩ | omega | exact at_tr _ _ (by omega) | exact at_s _ _ (by omega) | exact dt (by omega) | exact df (by omega) | exact decide_eq_true (by omega) | exact decide_eq_false (by omega) | exact bts_t (by assumption) | exact bts_f (by assumption) | (rw [bts_t (by assumption)]; rfl) | (rw [bts_f (by assumption)]; rfl) | (unfold InR; omega) | exact hs1 | exact hs2 | (refine ⟨?_, ?_⟩; (unfold InR; omega); exact congrArg _ (by omega))
      refine H.loopI (fun x : Nat × Nat × List D => ∃ c : List ByteArray, x.2.2 = c.map D.s ∧ 1 ≤ x.2.1 ∧ i + x.2.1 ≤ l.length ∧ 0 < x.1 ∧ x.1 + 1 ≤ i + x.2.1 ∧ c.length = l.length ∧ c.take x.1 = dd (l.take (i + x.2.1)) ∧ ∀ (j : Nat) (h : j < c.length) (h2 : j < l.length), i + x.2.1 ≤ j + 1 → c[j] = l[j])
        (fun x => ⟨[(0, .os 0 0 l.length), (3, .i .i64 x.1), (4, .os 0 i (l.length - i)), (5, .i .i64 x.2.1)], srow x.2.2, 0⟩) (fun x => l.length - x.2.1) (i, 1, l.map D.s) ⟨l, rfl, by simp only; omega, by simp only; omega, h0, by simp only; omega, rfl, ht.symm, fun _ _ _ _ => rfl⟩ ?_ ?_
      · intro a w s
        exact s.ren2 [] (by repeat' (first | exact trivial | exact rfl | apply And.intro)) (by repeat' (first | exact trivial | exact rfl | apply And.intro)) rfl (fun r hr => keepR_spec (l := srow (l.map D.s)) rfl r (hE r hr))
      rintro ⟨k, j, cs⟩ ⟨c, rfl, g1, g2, g3, g4, g5, g6, g7⟩
      simp only at g1 g2 g3 g4 g6 g7
      by_cases hj : i + j < l.length
      · have tj := dd_take l (i + j) (by omega) hj
        have c1 := g7 (i + j) (by omega) hj (by omega)
        have c2 := g7 (i + j - 1) (by omega) (by omega) (by omega)
        have s1 := at_s c (i + j) (by omega)
        have s2 := at_s c (i + j - 1) (by omega)
        have ej : ((j : Int) - 1) = ((j - 1 : Nat) : Int) := by omega
        by_cases hq : l[i + j] = l[i + j - 1]
        · rw [if_pos hq.symm] at tj
          refine H.go 200 [(11, [(3, .cell (.s l[i + j])), (6, .val (.i .i64 ((j - 1 : Nat) : Int))), (8, .cell (.s (l[i + j - 1]'(by omega))))])] [(32, true), (44, false)] dr170 rfl ?_ ?_
          · repeat' (first | exact AllP.n | exact trivial | exact DrawB.mk (by decide +kernel) | exact fun _ => rfl | refine AllP.c ?_ ?_)
            all_goals (try dsimp only)
            all_goals try first | exact rfl | exact ⟨trivial, rfl⟩ | exact ⟨trivial, bts_t rfl⟩ | omega | exact at_tr _ _ (by omega) | exact at_s _ _ (by omega) | exact dt (by omega) | exact df (by omega) | exact decide_eq_true (by omega) | exact decide_eq_false (by omega) | exact bts_t (by assumption) | exact bts_f (by assumption) | (rw [bts_t (by assumption)]; rfl) | (rw [bts_f (by assumption)]; rfl) | (unfold InR; omega) | (refine ⟨?_, ?_⟩; (unfold InR; omega); exact congrArg _ (by omega)) | exact at_sx (i + j) (by omega) (by simp [mulN_eq, addN_eq]) c1 | exact at_sx (i + j - 1) (by omega) (by simp [mulN_eq, addN_eq]; omega) c2 | (simp only [mulN_eq, addN_eq, List.length_map]; omega)
          refine loopN (k, j + 1, c.map D.s) ⟨c, rfl, by simp only; omega, by simp only; omega, g3, by simp only; omega, g5, ?_, ?_⟩ (by show l.length - (j + 1) < l.length - j; omega) fun a w s => s.ren2 [] (by repeat' (first | exact trivial | exact rfl | apply And.intro)) (by repeat' (first | exact trivial | exact rfl | apply And.intro)) rfl (fun r hr => keepR_spec (l := srow (l.map D.s)) rfl r (hE r hr))
          · rw [g6]; exact tj.symm
          · intro j' h h2 h3; exact g7 j' h h2 (by simp only at h3; omega)
        · rw [if_neg (fun h => hq h.symm)] at tj
          refine H.go 200 [(11, [(3, .cell (.s l[i + j])), (6, .val (.i .i64 ((j - 1 : Nat) : Int))), (8, .cell (.s (l[i + j - 1]'(by omega))))]), (12, [(5, .cell (.s l[i + j]))])] [(32, true), (44, true)] dr170 rfl ?_ ?_
          · repeat' (first | exact AllP.n | exact trivial | exact DrawB.mk (by decide +kernel) | exact fun _ => rfl | refine AllP.c ?_ ?_)
            all_goals (try dsimp only)
            all_goals try first | exact rfl | exact ⟨trivial, rfl⟩ | exact ⟨trivial, bts_t rfl⟩ | omega | exact at_tr _ _ (by omega) | exact at_s _ _ (by omega) | exact dt (by omega) | exact df (by omega) | exact decide_eq_true (by omega) | exact decide_eq_false (by omega) | exact bts_t (by assumption) | exact bts_f (by assumption) | (rw [bts_t (by assumption)]; rfl) | (rw [bts_f (by assumption)]; rfl) | (unfold InR; omega) | (refine ⟨?_, ?_⟩; (unfold InR; omega); exact congrArg _ (by omega)) | exact at_sx (i + j) (by omega) (by simp [mulN_eq, addN_eq]) c1 | exact at_sx (i + j - 1) (by omega) (by simp [mulN_eq, addN_eq]; omega) c2 | (simp only [mulN_eq, addN_eq, List.length_map]; omega)
          refine loopN (k + 1, j + 1, (c.map D.s).set k (.s l[i + j])) ⟨c.set k l[i + j], by rw [List.map_set], by simp only; omega, by simp only; omega, by simp only; omega, by simp only; omega, by simpa using g5, ?_, ?_⟩ (by show l.length - (j + 1) < l.length - j; omega) fun a w s => s.ren2 [] (by repeat' (first | exact trivial | exact rfl | apply And.intro)) (by repeat' (first | exact trivial | exact rfl | apply And.intro)) rfl (fun r hr => keepR_spec (l := srow (l.map D.s)) rfl r (hE r hr))
          · simp only
            rw [List.take_succ_eq_append_getElem (by rw [List.length_set]; omega), List.getElem_set_self, List.take_set_of_le (by omega), g6]
            exact tj.symm
          · intro j' h h2 h3
            simp only at h3
            rw [List.getElem_set_ne (by omega)]
            exact g7 j' (by simpa using h) h2 (by omega)
      · have e1 : i + j = l.length := by omega
        rw [e1, List.take_length] at g6
        obtain rfl : k = (dd l).length := by
          have := congrArg List.length g6
          rw [List.length_take] at this
          omega
        refine H.go 200 [] [(32, false)] dr170 rfl ?_ ?_
        · repeat' (first | exact AllP.n | exact trivial | exact DrawB.mk (by decide +kernel) | exact fun _ => rfl | refine AllP.c ?_ ?_)
          all_goals (try dsimp only)
          all_goals try first | exact rfl | exact ⟨trivial, rfl⟩ | exact ⟨trivial, bts_t rfl⟩ | omega | exact at_tr _ _ (by omega) | exact at_s _ _ (by omega) | exact dt (by omega) | exact df (by omega) | exact decide_eq_true (by omega) | exact decide_eq_false (by omega) | exact bts_t (by assumption) | exact bts_f (by assumption) | (rw [bts_t (by assumption)]; rfl) | (rw [bts_f (by assumption)]; rfl) | (unfold InR; omega)
        refine H.go 200 [] [] dr170 rfl ?_ ?_
        · repeat' (first | exact AllP.n | exact trivial | exact DrawB.mk (by decide +kernel) | exact fun _ => rfl | refine AllP.c ?_ ?_)
          all_goals (try dsimp only)
          all_goals try first | exact rfl | exact ⟨trivial, rfl⟩ | exact ⟨trivial, bts_t rfl⟩ | omega | exact at_tr _ _ (by omega) | exact at_s _ _ (by omega) | exact dt (by omega) | exact df (by omega) | exact decide_eq_true (by omega) | exact decide_eq_false (by omega) | exact bts_t (by assumption) | exact bts_f (by assumption) | (rw [bts_t (by assumption)]; rfl) | (rw [bts_f (by assumption)]; rfl) | (unfold InR; omega) | (simp only [mulN_eq, addN_eq, List.length_map]; omega) | (refine ⟨?_, ?_⟩ <;> simp only [mulN_eq, addN_eq, List.length_map] <;> omega)
        refine .inr ⟨[], _, _, rfl, ?_, ?_, ?_, rfl, rfl⟩
        · repeat' (first | exact AllP.n | exact trivial | refine AllP.c ?_ ?_)
        · repeat' (first | exact trivial | exact rfl | apply And.intro)
        · refine ⟨⟨⟨rfl, rfl, rfl, rfl, trivial, rfl⟩, ?_⟩, trivial⟩
          show (dd l).map D.s = List.take (mulN (addN 0 (((dd l).length : Nat) : Int).toNat) 1) (c.map D.s)
          rw [← List.map_take, mulN_eq, addN_eq]
          simp only [Int.toNat_natCast, Nat.zero_add, Nat.mul_one]
          rw [g6]
    · rw [if_neg (fun h => he h.symm), hd] at ht
      refine H.go 200 [(6, [(3, .cell (.s l[i])), (6, .val (.i .i64 ((i - 1 : Nat) : Int))), (8, .cell (.s l[i - 1]))])] [(13, true), (25, false)] dr170 rfl ?_ ?_
      · repeat' (first | exact AllP.n | exact trivial | exact DrawB.mk (by decide +kernel) | exact fun _ => rfl | refine AllP.c ?_ ?_)
        all_goals (try dsimp only)
        all_goals try first | exact rfl | exact ⟨trivial, rfl⟩ | exact ⟨trivial, bts_t rfl⟩ | omega | exact at_tr _ _ (by omega) | exact at_s _ _ (by omega) | exact dt (by omega) | exact df (by omega) | exact decide_eq_true (by omega) | exact decide_eq_false (by omega) | exact bts_t (by assumption) | exact bts_f (by assumption) | (rw [bts_t (by assumption)]; rfl) | (rw [bts_f (by assumption)]; rfl) | (unfold InR; omega) | exact hs1 | exact hs2 | (refine ⟨?_, ?_⟩; (unfold InR; omega); exact congrArg _ (by omega))
      refine loopN (i + 1) ⟨by omega, hi, ?_⟩ (by show l.length - (i + 1) < l.length - i; omega) fun a w s => s.ren2 [] (by repeat' (first | exact trivial | exact rfl | apply And.intro)) (by repeat' (first | exact trivial | exact rfl | apply And.intro)) rfl (fun r hr => keepR_spec (l := srow (l.map D.s)) rfl r (hE r hr))
      rw [ht, ← List.take_succ_eq_append_getElem hi]
  · obtain rfl : i = l.length := by omega
    rw [List.take_length] at hd
    rw [hd]
    refine H.go 200 [] [(13, false)] [] rfl ?_ ?_
    · repeat' (first | exact AllP.n | exact trivial | exact DrawB.mk (by decide +kernel) | exact fun _ => rfl | refine AllP.c ?_ ?_)
      all_goals (try dsimp only)
      all_goals try first | exact rfl | exact ⟨trivial, rfl⟩ | exact ⟨trivial, bts_t rfl⟩ | omega | exact at_tr _ _ (by omega) | exact at_s _ _ (by omega) | exact dt (by omega) | exact df (by omega) | exact decide_eq_true (by omega) | exact decide_eq_false (by omega) | exact bts_t (by assumption) | exact bts_f (by assumption) | (rw [bts_t (by assumption)]; rfl) | (rw [bts_f (by assumption)]; rfl) | (unfold InR; omega)
    refine H.go 200 [] [] [] rfl ?_ ?_
    · repeat' (first | exact AllP.n | exact trivial | exact DrawB.mk (by decide +kernel) | exact fun _ => rfl | refine AllP.c ?_ ?_)
      all_goals (try dsimp only)
      all_goals try first | exact rfl | exact ⟨trivial, rfl⟩ | exact ⟨trivial, bts_t rfl⟩ | omega | exact at_tr _ _ (by omega) | exact at_s _ _ (by omega) | exact dt (by omega) | exact df (by omega) | exact decide_eq_true (by omega) | exact decide_eq_false (by omega) | exact bts_t (by assumption) | exact bts_f (by assumption) | (rw [bts_t (by assumption)]; rfl) | (rw [bts_f (by assumption)]; rfl) | (unfold InR; omega)
    refine .inr ⟨[], _, _, rfl, ?_, ?_, ?_, rfl, rfl⟩
    · repeat' (first | exact AllP.n | exact trivial | refine AllP.c ?_ ?_)
    · repeat' (first | exact trivial | exact rfl | apply And.intro)
    · repeat' (first | exact trivial | exact rfl | apply And.intro)
end Go.Px
end

section
namespace Go.Px
open Go.RowKit

open Classical in
noncomputable def teq (a b : Tr) : Bool := decide (a = b)
open Classical in
noncomputable def teqL (a b : List Tr) : Bool := decide (a = b)
theorem teq_t {a b : Tr} (h : a = b) : teq a b = true := by simp [teq, h]
theorem teq_f {a b : Tr} (h : a ≠ b) : teq a b = false := by simp [teq, h]
theorem teqL_t {a b : List Tr} (h : a = b) : teqL a b = true := by simp [teqL, h]
theorem teqL_f {a b : List Tr} (h : a ≠ b) : teqL a b = false := by simp [teqL, h]
theorem equalF_ct (a b : List Tr) (hla : a.length < 2^40) (hlb : b.length < 2^40) (hf : ∀ (i : Nat) (h1 : i < a.length) (h2 : i < b.length), Pure Go.Proofs.Tryz.prog 80 [.ag (enc a[i]), .ag (enc b[i])] (.ret (.b (teq a[i] b[i])))) :
    Pure Go.Proofs.Tryz.prog 138 [.sl 8 a.length (encs a), .sl 8 b.length (encs b), .fn 80 []] (.ret (.b (teqL a b))) := by
  refine Pure.body tys_valid (fn := Go.Proofs.Tryz.f138) (by kernel_rfl) rfl (by kernel_rfl) rfl ?_
  intro w ok giv E0 _ hE
  by_cases hl : a.length = b.length
  · have hl2 : ((a.length : Int) == (b.length : Int)) = true := by rw [hl]; simp
    refine H.go 200 [] [(14, false)] dr138 rfl ?_ ?_
    · repeat' (first | exact AllP.n | exact trivial | exact DrawB.mk (by decide +kernel) | exact fun _ => rfl | refine AllP.c ?_ ?_)
      all_goals (try dsimp only)
      all_goals try first | exact rfl | exact ⟨trivial, rfl⟩ | exact ⟨trivial, bts_t rfl⟩ | omega | exact at_tr _ _ (by omega) | exact at_s _ _ (by omega) | exact dt (by omega) | exact df (by omega) | exact decide_eq_true (by omega) | exact decide_eq_false (by omega) | exact bts_t (by assumption) | exact bts_f (by assumption) | (rw [bts_t (by assumption)]; rfl) | (rw [bts_f (by assumption)]; rfl) | (unfold InR; omega) | (rw [hl2]; rfl) | (simp [hl]; done)
    refine H.loopI (fun i : Nat => i ≤ a.length ∧ a.take i = b.take i) (fun i => ⟨[(1, .sl 8 b.length (encs b)), (2, .fn 80 []), (15, .sl 8 a.length (encs a)), (16, .i .i64 a.length), (17, .i .i64 i)], [], 0⟩) (fun i => a.length - i) 0 ⟨Nat.zero_le _, by simp⟩ ?_ ?_
    · intro a w s
      exact s.ren hE [] (by repeat' (first | exact trivial | exact rfl | apply And.intro)) (by repeat' (first | exact trivial | exact rfl | apply And.intro)) rfl
    rintro i ⟨hi, ht⟩
    by_cases hlt : i < a.length
    · have hlt' : i < b.length := by omega
      have hc := hf i hlt hlt'
      by_cases he : a[i] = b[i]
      · rw [teq_t he] at hc
        refine H.go 200 [(5, [(2, .cells (enc a[i]))]), (6, [(3, .cells (enc b[i]))]), (7, [(3, .res (.ret (.b true)))])] [(18, true), (30, false)] dr138 rfl ?_ ?_
        · repeat' (first | exact AllP.n | exact trivial | exact DrawB.mk (by decide +kernel) | exact fun _ => rfl | refine AllP.c ?_ ?_)
          all_goals (try dsimp only)
          all_goals try first | exact rfl | exact ⟨trivial, rfl⟩ | exact ⟨trivial, bts_t rfl⟩ | omega | exact at_tr _ _ (by omega) | exact at_s _ _ (by omega) | exact dt (by omega) | exact df (by omega) | exact decide_eq_true (by omega) | exact decide_eq_false (by omega) | exact bts_t (by assumption) | exact bts_f (by assumption) | (rw [bts_t (by assumption)]; rfl) | (rw [bts_f (by assumption)]; rfl) | (unfold InR; omega) | exact hc
        exact loopN (i + 1) ⟨hlt, by rw [List.take_succ_eq_append_getElem hlt, List.take_succ_eq_append_getElem hlt', ht, he]⟩ (by show a.length - (i + 1) < a.length - i; omega) fun a w s => s.ren hE [] (by repeat' (first | exact trivial | exact rfl | apply And.intro)) (by repeat' (first | exact trivial | exact rfl | apply And.intro)) rfl
      · have hne : a ≠ b := fun h => he (by subst h; rfl)
        rw [teq_f he] at hc
        refine H.go 200 [(5, [(2, .cells (enc a[i]))]), (6, [(3, .cells (enc b[i]))]), (7, [(3, .res (.ret (.b false)))])] [(18, true), (30, true)] dr138 rfl ?_ ?_
        · repeat' (first | exact AllP.n | exact trivial | exact DrawB.mk (by decide +kernel) | exact fun _ => rfl | refine AllP.c ?_ ?_)
          all_goals (try dsimp only)
          all_goals try first | exact rfl | exact ⟨trivial, rfl⟩ | exact ⟨trivial, bts_t rfl⟩ | omega | exact at_tr _ _ (by omega) | exact at_s _ _ (by omega) | exact dt (by omega) | exact df (by omega) | exact decide_eq_true (by omega) | exact decide_eq_false (by omega) | exact bts_t (by assumption) | exact bts_f (by assumption) | (rw [bts_t (by assumption)]; rfl) | (rw [bts_f (by assumption)]; rfl) | (unfold InR; omega) | exact hc
        refine ⟨_, _, rfl, ?_, ?_⟩
        · repeat' (first | exact AllP.n | exact trivial | exact DrawB.mk (by decide +kernel) | exact fun _ => rfl | refine AllP.c ?_ ?_)
          all_goals (try dsimp only)
          all_goals try first | exact rfl | exact ⟨trivial, rfl⟩ | exact ⟨trivial, bts_t rfl⟩ | omega | exact at_tr _ _ (by omega) | exact at_s _ _ (by omega) | exact dt (by omega) | exact df (by omega) | exact decide_eq_true (by omega) | exact decide_eq_false (by omega) | exact bts_t (by assumption) | exact bts_f (by assumption) | (rw [bts_t (by assumption)]; rfl) | (rw [bts_f (by assumption)]; rfl) | (unfold InR; omega)
        · rw [teqL_f hne]; exact .refl _
    · have heq : a = b := by
        have e1 : i = a.length := by omega
        rw [e1, List.take_length, hl, List.take_length] at ht
        exact ht
      refine H.go 200 [] [(18, false)] dr138 rfl ?_ ?_
      · repeat' (first | exact AllP.n | exact trivial | exact DrawB.mk (by decide +kernel) | exact fun _ => rfl | refine AllP.c ?_ ?_)
        all_goals (try dsimp only)
        all_goals try first | exact rfl | exact ⟨trivial, rfl⟩ | exact ⟨trivial, bts_t rfl⟩ | omega | exact at_tr _ _ (by omega) | exact at_s _ _ (by omega) | exact dt (by omega) | exact df (by omega) | exact decide_eq_true (by omega) | exact decide_eq_false (by omega) | exact bts_t (by assumption) | exact bts_f (by assumption) | (rw [bts_t (by assumption)]; rfl) | (rw [bts_f (by assumption)]; rfl) | (unfold InR; omega)
      refine H.go 200 [] [] dr138 rfl ?_ ?_
      · repeat' (first | exact AllP.n | exact trivial | exact DrawB.mk (by decide +kernel) | exact fun _ => rfl | refine AllP.c ?_ ?_)
        all_goals (try dsimp only)
        all_goals try first | exact rfl | exact ⟨trivial, rfl⟩ | exact ⟨trivial, bts_t rfl⟩ | omega | exact at_tr _ _ (by omega) | exact at_s _ _ (by omega) | exact dt (by omega) | exact df (by omega) | exact decide_eq_true (by omega) | exact decide_eq_false (by omega) | exact bts_t (by assumption) | exact bts_f (by assumption) | (rw [bts_t (by assumption)]; rfl) | (rw [bts_f (by assumption)]; rfl) | (unfold InR; omega)
      refine ⟨_, _, rfl, ?_, ?_⟩
      · repeat' (first | exact AllP.n | exact trivial | exact DrawB.mk (by decide +kernel) | exact fun _ => rfl | refine AllP.c ?_ ?_)
        all_goals (try dsimp only)
        all_goals try first | exact rfl | exact ⟨trivial, rfl⟩ | exact ⟨trivial, bts_t rfl⟩ | omega | exact at_tr _ _ (by omega) | exact at_s _ _ (by omega) | exact dt (by omega) | exact df (by omega) | exact decide_eq_true (by omega) | exact decide_eq_false (by omega) | exact bts_t (by assumption) | exact bts_f (by assumption) | (rw [bts_t (by assumption)]; rfl) | (rw [bts_f (by assumption)]; rfl) | (unfold InR; omega)
      · rw [teqL_t heq]; exact .refl _
  · have hne : a ≠ b := fun h => hl (by rw [h])
    have hl2 : ((a.length : Int) == (b.length : Int)) = false := beq_false_of_ne (by omega)
    refine H.go 200 [] [(14, true)] dr138 rfl ?_ ?_
    · repeat' (first | exact AllP.n | exact trivial | exact DrawB.mk (by decide +kernel) | exact fun _ => rfl | refine AllP.c ?_ ?_)
      all_goals (try dsimp only)
      all_goals try first | exact rfl | exact ⟨trivial, rfl⟩ | exact ⟨trivial, bts_t rfl⟩ | omega | exact at_tr _ _ (by omega) | exact at_s _ _ (by omega) | exact dt (by omega) | exact df (by omega) | exact decide_eq_true (by omega) | exact decide_eq_false (by omega) | exact bts_t (by assumption) | exact bts_f (by assumption) | (rw [bts_t (by assumption)]; rfl) | (rw [bts_f (by assumption)]; rfl) | (unfold InR; omega) | (simp only [bne, hl2]; rfl)
    refine ⟨_, _, rfl, ?_, ?_⟩
    · repeat' (first | exact AllP.n | exact trivial | exact DrawB.mk (by decide +kernel) | exact fun _ => rfl | refine AllP.c ?_ ?_)
      all_goals (try dsimp only)
      all_goals try first | exact rfl | exact ⟨trivial, rfl⟩ | exact ⟨trivial, bts_t rfl⟩ | omega | exact at_tr _ _ (by omega) | exact at_s _ _ (by omega) | exact dt (by omega) | exact df (by omega) | exact decide_eq_true (by omega) | exact decide_eq_false (by omega) | exact bts_t (by assumption) | exact bts_f (by assumption) | (rw [bts_t (by assumption)]; rfl) | (rw [bts_f (by assumption)]; rfl) | (unfold InR; omega)
    · rw [teqL_f hne]; exact .refl _
end Go.Px
end

section
namespace Go.Px
open Go.RowKit

/-- A value that may be, or none. -/
def VT0 (t : Tr) : Prop := t = nul ∨ VT t
instance : DecidableEq Nm := fun a b => by
  obtain ⟨n1, m1, e1⟩ := a
  obtain ⟨n2, m2, e2⟩ := b
  exact decidable_of_iff (n1 = n2 ∧ m1 = m2 ∧ e1 = e2) (by simp)
theorem nok_eq {a b : Nm} (ha : NOK a) (hb : NOK b) : sameM a b = decide (a = b) := by
  rw [Bool.eq_iff_iff, sameM_iff]; simp
theorem len40 {t : Tr} (h : VT t) : t.k.length < 2^40 ∧ t.v.length < 2^40 := by
  have := h.len
  refine ⟨?_, by omega⟩
  cases h with
  | obj k v hk hl h => have := hk.2.2; simp only [Tr.k]; omega
  | _ => simp [Tr.k]
theorem same_diff (a b : Tr) (h : a.kind ≠ b.kind) : Pure Go.Proofs.Tryz.prog 80 [.ag (enc a), .ag (enc b)] (.ret (.b false)) := by
  have h2 : (a.kind == b.kind) = false := beq_false_of_ne h
  refine Pure.body tys_valid (fn := Go.Proofs.Tryz.f80) (by kernel_rfl) rfl (by kernel_rfl) rfl ?_
  intro w ok giv E0 _ hE
  refine H.go 200 [] [(9, true)] dr80 rfl ?_ ?_
  · repeat' (first | exact AllP.n | exact trivial | exact DrawB.mk (by decide +kernel) | exact fun _ => rfl | refine AllP.c ?_ ?_)
    all_goals (try dsimp only)
    all_goals try first | exact rfl | exact ⟨trivial, rfl⟩ | exact ⟨trivial, bts_t rfl⟩ | omega | exact at_tr _ _ (by omega) | exact at_s _ _ (by omega) | exact dt (by omega) | exact df (by omega) | exact decide_eq_true (by omega) | exact decide_eq_false (by omega) | exact bts_t (by assumption) | exact bts_f (by assumption) | (rw [bts_t (by assumption)]; rfl) | (rw [bts_f (by assumption)]; rfl) | (unfold InR; omega) | (simp only [bne, h2]; rfl)
  refine ⟨_, _, rfl, ?_, ?_⟩
  · repeat' (first | exact AllP.n | exact trivial | exact DrawB.mk (by decide +kernel) | exact fun _ => rfl | refine AllP.c ?_ ?_)
    all_goals (try dsimp only)
    all_goals try first | exact rfl | exact ⟨trivial, rfl⟩ | exact ⟨trivial, bts_t rfl⟩ | omega | exact at_tr _ _ (by omega) | exact at_s _ _ (by omega) | exact dt (by omega) | exact df (by omega) | exact decide_eq_true (by omega) | exact decide_eq_false (by omega) | exact bts_t (by assumption) | exact bts_f (by assumption) | (rw [bts_t (by assumption)]; rfl) | (rw [bts_f (by assumption)]; rfl) | (unfold InR; omega)
  · exact .refl _
theorem same_nul  : Pure Go.Proofs.Tryz.prog 80 [.ag (enc (nul)), .ag (enc (nul))] (.ret (.b true)) := by
  refine Pure.body tys_valid (fn := Go.Proofs.Tryz.f80) (by kernel_rfl) rfl (by kernel_rfl) rfl ?_
  intro w ok giv E0 _ hE
  refine H.go 200 [] [(9, false)] dr80 rfl ?_ ?_
  · repeat' (first | exact AllP.n | exact trivial | exact DrawB.mk (by decide +kernel) | exact fun _ => rfl | refine AllP.c ?_ ?_)
    all_goals (try dsimp only)
    all_goals try first | exact rfl | exact ⟨trivial, rfl⟩ | exact ⟨trivial, bts_t rfl⟩ | omega | exact at_tr _ _ (by omega) | exact at_s _ _ (by omega) | exact dt (by omega) | exact df (by omega) | exact decide_eq_true (by omega) | exact decide_eq_false (by omega) | exact bts_t (by assumption) | exact bts_f (by assumption) | (rw [bts_t (by assumption)]; rfl) | (rw [bts_f (by assumption)]; rfl) | (unfold InR; omega)
  refine ⟨_, _, rfl, ?_, ?_⟩
  · repeat' (first | exact AllP.n | exact trivial | exact DrawB.mk (by decide +kernel) | exact fun _ => rfl | refine AllP.c ?_ ?_)
    all_goals (try dsimp only)
    all_goals try first | exact rfl | exact ⟨trivial, rfl⟩ | exact ⟨trivial, bts_t rfl⟩ | omega | exact at_tr _ _ (by omega) | exact at_s _ _ (by omega) | exact dt (by omega) | exact df (by omega) | exact decide_eq_true (by omega) | exact decide_eq_false (by omega) | exact bts_t (by assumption) | exact bts_f (by assumption) | (rw [bts_t (by assumption)]; rfl) | (rw [bts_f (by assumption)]; rfl) | (unfold InR; omega)
  · exact .refl _
theorem same_null  : Pure Go.Proofs.Tryz.prog 80 [.ag (enc (.mk 1 false N0 S0 [] [])), .ag (enc (.mk 1 false N0 S0 [] []))] (.ret (.b true)) := by
  refine Pure.body tys_valid (fn := Go.Proofs.Tryz.f80) (by kernel_rfl) rfl (by kernel_rfl) rfl ?_
  intro w ok giv E0 _ hE
  refine H.go 200 [] [(9, false)] dr80 rfl ?_ ?_
  · repeat' (first | exact AllP.n | exact trivial | exact DrawB.mk (by decide +kernel) | exact fun _ => rfl | refine AllP.c ?_ ?_)
    all_goals (try dsimp only)
    all_goals try first | exact rfl | exact ⟨trivial, rfl⟩ | exact ⟨trivial, bts_t rfl⟩ | omega | exact at_tr _ _ (by omega) | exact at_s _ _ (by omega) | exact dt (by omega) | exact df (by omega) | exact decide_eq_true (by omega) | exact decide_eq_false (by omega) | exact bts_t (by assumption) | exact bts_f (by assumption) | (rw [bts_t (by assumption)]; rfl) | (rw [bts_f (by assumption)]; rfl) | (unfold InR; omega)
  refine ⟨_, _, rfl, ?_, ?_⟩
  · repeat' (first | exact AllP.n | exact trivial | exact DrawB.mk (by decide +kernel) | exact fun _ => rfl | refine AllP.c ?_ ?_)
    all_goals (try dsimp only)
    all_goals try first | exact rfl | exact ⟨trivial, rfl⟩ | exact ⟨trivial, bts_t rfl⟩ | omega | exact at_tr _ _ (by omega) | exact at_s _ _ (by omega) | exact dt (by omega) | exact df (by omega) | exact decide_eq_true (by omega) | exact decide_eq_false (by omega) | exact bts_t (by assumption) | exact bts_f (by assumption) | (rw [bts_t (by assumption)]; rfl) | (rw [bts_f (by assumption)]; rfl) | (unfold InR; omega)
  · exact .refl _
theorem same_bool (x y : Bool) : Pure Go.Proofs.Tryz.prog 80 [.ag (enc (.mk 2 x N0 S0 [] [])), .ag (enc (.mk 2 y N0 S0 [] []))] (.ret (.b (x == y))) := by
  refine Pure.body tys_valid (fn := Go.Proofs.Tryz.f80) (by kernel_rfl) rfl (by kernel_rfl) rfl ?_
  intro w ok giv E0 _ hE
  refine H.go 200 [] [(9, false)] dr80 rfl ?_ ?_
  · repeat' (first | exact AllP.n | exact trivial | exact DrawB.mk (by decide +kernel) | exact fun _ => rfl | refine AllP.c ?_ ?_)
    all_goals (try dsimp only)
    all_goals try first | exact rfl | exact ⟨trivial, rfl⟩ | exact ⟨trivial, bts_t rfl⟩ | omega | exact at_tr _ _ (by omega) | exact at_s _ _ (by omega) | exact dt (by omega) | exact df (by omega) | exact decide_eq_true (by omega) | exact decide_eq_false (by omega) | exact bts_t (by assumption) | exact bts_f (by assumption) | (rw [bts_t (by assumption)]; rfl) | (rw [bts_f (by assumption)]; rfl) | (unfold InR; omega)
  refine ⟨_, _, rfl, ?_, ?_⟩
  · repeat' (first | exact AllP.n | exact trivial | exact DrawB.mk (by decide +kernel) | exact fun _ => rfl | refine AllP.c ?_ ?_)
    all_goals (try dsimp only)
    all_goals try first | exact rfl | exact ⟨trivial, rfl⟩ | exact ⟨trivial, bts_t rfl⟩ | omega | exact at_tr _ _ (by omega) | exact at_s _ _ (by omega) | exact dt (by omega) | exact df (by omega) | exact decide_eq_true (by omega) | exact decide_eq_false (by omega) | exact bts_t (by assumption) | exact bts_f (by assumption) | (rw [bts_t (by assumption)]; rfl) | (rw [bts_f (by assumption)]; rfl) | (unfold InR; omega)
  · exact .refl _
theorem same_num (x y : Nm) (hx : NOK x) (hy : NOK y) : Pure Go.Proofs.Tryz.prog 80 [.ag (enc (.mk 3 false x S0 [] [])), .ag (enc (.mk 3 false y S0 [] []))] (.ret (.b (sameM x y))) := by
  have hc := sameM_ok x y hx hy
  refine Pure.body tys_valid (fn := Go.Proofs.Tryz.f80) (by kernel_rfl) rfl (by kernel_rfl) rfl ?_
  intro w ok giv E0 _ hE
  refine H.go 200 [(11, [(4, .res (.ret (.b (sameM x y))))])] [(9, false)] dr80 rfl ?_ ?_
  · repeat' (first | exact AllP.n | exact trivial | exact DrawB.mk (by decide +kernel) | exact fun _ => rfl | refine AllP.c ?_ ?_)
    all_goals (try dsimp only)
    all_goals try first | exact rfl | exact ⟨trivial, rfl⟩ | exact ⟨trivial, bts_t rfl⟩ | omega | exact at_tr _ _ (by omega) | exact at_s _ _ (by omega) | exact dt (by omega) | exact df (by omega) | exact decide_eq_true (by omega) | exact decide_eq_false (by omega) | exact bts_t (by assumption) | exact bts_f (by assumption) | (rw [bts_t (by assumption)]; rfl) | (rw [bts_f (by assumption)]; rfl) | (unfold InR; omega) | exact hc
  refine ⟨_, _, rfl, ?_, ?_⟩
  · repeat' (first | exact AllP.n | exact trivial | exact DrawB.mk (by decide +kernel) | exact fun _ => rfl | refine AllP.c ?_ ?_)
    all_goals (try dsimp only)
    all_goals try first | exact rfl | exact ⟨trivial, rfl⟩ | exact ⟨trivial, bts_t rfl⟩ | omega | exact at_tr _ _ (by omega) | exact at_s _ _ (by omega) | exact dt (by omega) | exact df (by omega) | exact decide_eq_true (by omega) | exact decide_eq_false (by omega) | exact bts_t (by assumption) | exact bts_f (by assumption) | (rw [bts_t (by assumption)]; rfl) | (rw [bts_f (by assumption)]; rfl) | (unfold InR; omega)
  · exact .refl _
theorem same_text (x y : ByteArray) : Pure Go.Proofs.Tryz.prog 80 [.ag (enc (.mk 4 false N0 x [] [])), .ag (enc (.mk 4 false N0 y [] []))] (.ret (.b (x.toList == y.toList))) := by
  refine Pure.body tys_valid (fn := Go.Proofs.Tryz.f80) (by kernel_rfl) rfl (by kernel_rfl) rfl ?_
  intro w ok giv E0 _ hE
  refine H.go 200 [] [(9, false)] dr80 rfl ?_ ?_
  · repeat' (first | exact AllP.n | exact trivial | exact DrawB.mk (by decide +kernel) | exact fun _ => rfl | refine AllP.c ?_ ?_)
    all_goals (try dsimp only)
    all_goals try first | exact rfl | exact ⟨trivial, rfl⟩ | exact ⟨trivial, bts_t rfl⟩ | omega | exact at_tr _ _ (by omega) | exact at_s _ _ (by omega) | exact dt (by omega) | exact df (by omega) | exact decide_eq_true (by omega) | exact decide_eq_false (by omega) | exact bts_t (by assumption) | exact bts_f (by assumption) | (rw [bts_t (by assumption)]; rfl) | (rw [bts_f (by assumption)]; rfl) | (unfold InR; omega)
  refine ⟨_, _, rfl, ?_, ?_⟩
  · repeat' (first | exact AllP.n | exact trivial | exact DrawB.mk (by decide +kernel) | exact fun _ => rfl | refine AllP.c ?_ ?_)
    all_goals (try dsimp only)
    all_goals try first | exact rfl | exact ⟨trivial, rfl⟩ | exact ⟨trivial, bts_t rfl⟩ | omega | exact at_tr _ _ (by omega) | exact at_s _ _ (by omega) | exact dt (by omega) | exact df (by omega) | exact decide_eq_true (by omega) | exact decide_eq_false (by omega) | exact bts_t (by assumption) | exact bts_f (by assumption) | (rw [bts_t (by assumption)]; rfl) | (rw [bts_f (by assumption)]; rfl) | (unfold InR; omega)
  · exact .refl _
theorem same_bytes (x y : ByteArray) : Pure Go.Proofs.Tryz.prog 80 [.ag (enc (.mk 5 false N0 x [] [])), .ag (enc (.mk 5 false N0 y [] []))] (.ret (.b (x.toList == y.toList))) := by
  refine Pure.body tys_valid (fn := Go.Proofs.Tryz.f80) (by kernel_rfl) rfl (by kernel_rfl) rfl ?_
  intro w ok giv E0 _ hE
  refine H.go 200 [] [(9, false)] dr80 rfl ?_ ?_
  · repeat' (first | exact AllP.n | exact trivial | exact DrawB.mk (by decide +kernel) | exact fun _ => rfl | refine AllP.c ?_ ?_)
    all_goals (try dsimp only)
    all_goals try first | exact rfl | exact ⟨trivial, rfl⟩ | exact ⟨trivial, bts_t rfl⟩ | omega | exact at_tr _ _ (by omega) | exact at_s _ _ (by omega) | exact dt (by omega) | exact df (by omega) | exact decide_eq_true (by omega) | exact decide_eq_false (by omega) | exact bts_t (by assumption) | exact bts_f (by assumption) | (rw [bts_t (by assumption)]; rfl) | (rw [bts_f (by assumption)]; rfl) | (unfold InR; omega)
  refine ⟨_, _, rfl, ?_, ?_⟩
  · repeat' (first | exact AllP.n | exact trivial | exact DrawB.mk (by decide +kernel) | exact fun _ => rfl | refine AllP.c ?_ ?_)
    all_goals (try dsimp only)
    all_goals try first | exact rfl | exact ⟨trivial, rfl⟩ | exact ⟨trivial, bts_t rfl⟩ | omega | exact at_tr _ _ (by omega) | exact at_s _ _ (by omega) | exact dt (by omega) | exact df (by omega) | exact decide_eq_true (by omega) | exact decide_eq_false (by omega) | exact bts_t (by assumption) | exact bts_f (by assumption) | (rw [bts_t (by assumption)]; rfl) | (rw [bts_f (by assumption)]; rfl) | (unfold InR; omega)
  · exact .refl _
theorem same_arr (v u : List Tr) (hv : v.length < 2^40) (hw : u.length < 2^40) (hf : ∀ (i : Nat) (h1 : i < v.length) (h2 : i < u.length), Pure Go.Proofs.Tryz.prog 80 [.ag (enc v[i]), .ag (enc u[i])] (.ret (.b (teq v[i] u[i])))) : Pure Go.Proofs.Tryz.prog 80 [.ag (enc (.mk 6 false N0 S0 [] v)), .ag (enc (.mk 6 false N0 S0 [] u))] (.ret (.b (teqL v u))) := by
  have hc := equalF_ct v u hv hw hf
  refine Pure.body tys_valid (fn := Go.Proofs.Tryz.f80) (by kernel_rfl) rfl (by kernel_rfl) rfl ?_
  intro w ok giv E0 _ hE
  refine H.go 200 [(14, [(4, .res (.ret (.b (teqL v u))))])] [(9, false)] dr80 rfl ?_ ?_
  · repeat' (first | exact AllP.n | exact trivial | exact DrawB.mk (by decide +kernel) | exact fun _ => rfl | refine AllP.c ?_ ?_)
    all_goals (try dsimp only)
    all_goals try first | exact rfl | exact ⟨trivial, rfl⟩ | exact ⟨trivial, bts_t rfl⟩ | omega | exact at_tr _ _ (by omega) | exact at_s _ _ (by omega) | exact dt (by omega) | exact df (by omega) | exact decide_eq_true (by omega) | exact decide_eq_false (by omega) | exact bts_t (by assumption) | exact bts_f (by assumption) | (rw [bts_t (by assumption)]; rfl) | (rw [bts_f (by assumption)]; rfl) | (unfold InR; omega) | exact hc
  refine ⟨_, _, rfl, ?_, ?_⟩
  · repeat' (first | exact AllP.n | exact trivial | exact DrawB.mk (by decide +kernel) | exact fun _ => rfl | refine AllP.c ?_ ?_)
    all_goals (try dsimp only)
    all_goals try first | exact rfl | exact ⟨trivial, rfl⟩ | exact ⟨trivial, bts_t rfl⟩ | omega | exact at_tr _ _ (by omega) | exact at_s _ _ (by omega) | exact dt (by omega) | exact df (by omega) | exact decide_eq_true (by omega) | exact decide_eq_false (by omega) | exact bts_t (by assumption) | exact bts_f (by assumption) | (rw [bts_t (by assumption)]; rfl) | (rw [bts_f (by assumption)]; rfl) | (unfold InR; omega)
  · exact .refl _
theorem same_obj (j k : List ByteArray) (v u : List Tr) (hj : j.length < 2^40) (hk : k.length < 2^40) (hv : v.length < 2^40) (hw : u.length < 2^40) (hf : ∀ (i : Nat) (h1 : i < v.length) (h2 : i < u.length), Pure Go.Proofs.Tryz.prog 80 [.ag (enc v[i]), .ag (enc u[i])] (.ret (.b (teq v[i] u[i])))) :
    Pure Go.Proofs.Tryz.prog 80 [.ag (enc (.mk 7 false N0 S0 j v)), .ag (enc (.mk 7 false N0 S0 k u))] (.ret (.b (decide (j = k) && teqL v u))) := by
  have hc := equalF_ct v u hv hw hf
  have hs := equalS_ct j k hj hk
  refine Pure.body tys_valid (fn := Go.Proofs.Tryz.f80) (by kernel_rfl) rfl (by kernel_rfl) rfl ?_
  intro w ok giv E0 _ hE
  by_cases he : j = k
  · rw [decide_eq_true he] at hs ⊢
    refine H.go 200 [(13, [(4, .res (.ret (.b true))), (10, .res (.ret (.b (teqL v u))))])] [(9, false)] dr80 rfl ?_ ?_
    · repeat' (first | exact AllP.n | exact trivial | exact DrawB.mk (by decide +kernel) | exact fun _ => rfl | refine AllP.c ?_ ?_)
      all_goals (try dsimp only)
      all_goals try first | exact rfl | exact ⟨trivial, rfl⟩ | exact ⟨trivial, bts_t rfl⟩ | omega | exact at_tr _ _ (by omega) | exact at_s _ _ (by omega) | exact dt (by omega) | exact df (by omega) | exact decide_eq_true (by omega) | exact decide_eq_false (by omega) | exact bts_t (by assumption) | exact bts_f (by assumption) | (rw [bts_t (by assumption)]; rfl) | (rw [bts_f (by assumption)]; rfl) | (unfold InR; omega) | exact hc | exact hs
    refine ⟨_, _, rfl, ?_, ?_⟩
    · repeat' (first | exact AllP.n | exact trivial | exact DrawB.mk (by decide +kernel) | exact fun _ => rfl | refine AllP.c ?_ ?_)
      all_goals (try dsimp only)
      all_goals try first | exact rfl | exact ⟨trivial, rfl⟩ | exact ⟨trivial, bts_t rfl⟩ | omega | exact at_tr _ _ (by omega) | exact at_s _ _ (by omega) | exact dt (by omega) | exact df (by omega) | exact decide_eq_true (by omega) | exact decide_eq_false (by omega) | exact bts_t (by assumption) | exact bts_f (by assumption) | (rw [bts_t (by assumption)]; rfl) | (rw [bts_f (by assumption)]; rfl) | (unfold InR; omega)
    · exact .refl _
  · rw [decide_eq_false he] at hs ⊢
    refine H.go 200 [(13, [(4, .res (.ret (.b false)))])] [(9, false)] dr80 rfl ?_ ?_
    · repeat' (first | exact AllP.n | exact trivial | exact DrawB.mk (by decide +kernel) | exact fun _ => rfl | refine AllP.c ?_ ?_)
      all_goals (try dsimp only)
      all_goals try first | exact rfl | exact ⟨trivial, rfl⟩ | exact ⟨trivial, bts_t rfl⟩ | omega | exact at_tr _ _ (by omega) | exact at_s _ _ (by omega) | exact dt (by omega) | exact df (by omega) | exact decide_eq_true (by omega) | exact decide_eq_false (by omega) | exact bts_t (by assumption) | exact bts_f (by assumption) | (rw [bts_t (by assumption)]; rfl) | (rw [bts_f (by assumption)]; rfl) | (unfold InR; omega) | exact hs
    refine ⟨_, _, rfl, ?_, ?_⟩
    · repeat' (first | exact AllP.n | exact trivial | exact DrawB.mk (by decide +kernel) | exact fun _ => rfl | refine AllP.c ?_ ?_)
      all_goals (try dsimp only)
      all_goals try first | exact rfl | exact ⟨trivial, rfl⟩ | exact ⟨trivial, bts_t rfl⟩ | omega | exact at_tr _ _ (by omega) | exact at_s _ _ (by omega) | exact dt (by omega) | exact df (by omega) | exact decide_eq_true (by omega) | exact decide_eq_false (by omega) | exact bts_t (by assumption) | exact bts_f (by assumption) | (rw [bts_t (by assumption)]; rfl) | (rw [bts_f (by assumption)]; rfl) | (unfold InR; omega)
    · exact .refl _
theorem VT.kinds {t : Tr} (h : VT t) : t.kind ≠ 0 := by
  cases h <;> simp [Tr.kind]
theorem same_ct (a : Tr) : ∀ b, VT0 a → VT0 b → Pure Go.Proofs.Tryz.prog 80 [.ag (enc a), .ag (enc b)] (.ret (.b (teq a b))) := by
  induction hd : nodes a using Nat.strongRecOn generalizing a with
  | _ n ih =>
  subst hd
  intro b ha hb
  have sub : ∀ (v w : List Tr), nodesL v < nodes a → (∀ t ∈ v, VT t) → (∀ t ∈ w, VT t) → ∀ (i : Nat) (h1 : i < v.length) (h2 : i < w.length), Pure Go.Proofs.Tryz.prog 80 [.ag (enc v[i]), .ag (enc w[i])] (.ret (.b (teq v[i] w[i]))) :=
    fun v w hn hv hw i h1 h2 => ih (nodes v[i]) (by have := nodesL_at v i h1; omega) v[i] rfl w[i] (.inr (hv _ (List.getElem_mem _))) (.inr (hw _ (List.getElem_mem _)))
  by_cases hk : a.kind = b.kind
  · rcases ha with rfl | ha <;> rcases hb with rfl | hb
    · rw [teq_t rfl]; exact same_nul
    · exact absurd hk.symm hb.kinds
    · exact absurd hk ha.kinds
    · have h40a := len40 ha
      have h40b := len40 hb
      cases ha with
      | null =>
        cases hb <;> first | (exfalso; simp [Tr.kind] at hk; done) | skip
        rw [teq_t rfl]; exact same_null
      | bool x =>
        cases hb <;> first | (exfalso; simp [Tr.kind] at hk; done) | skip
        rename_i y
        have := same_bool x y
        by_cases e : x = y
        · subst e; rw [teq_t rfl]; simpa using this
        · rw [teq_f (by simpa using e)]; rwa [beq_false_of_ne e] at this
      | num x hx =>
        cases hb <;> first | (exfalso; simp [Tr.kind] at hk; done) | skip
        rename_i y hy
        have := same_num x y hx hy
        rw [nok_eq hx hy] at this
        by_cases e : x = y
        · subst e; rw [teq_t rfl]; simpa using this
        · rw [teq_f (by simpa using e)]; rwa [decide_eq_false e] at this
      | text x hx =>
        cases hb <;> first | (exfalso; simp [Tr.kind] at hk; done) | skip
        rename_i y hy
        have := same_text x y
        by_cases e : x = y
        · subst e; rw [teq_t rfl]; rwa [bts_t rfl] at this
        · rw [teq_f (by simpa using e)]; rwa [bts_f e] at this
      | bytes x hx =>
        cases hb <;> first | (exfalso; simp [Tr.kind] at hk; done) | skip
        rename_i y hy
        have := same_bytes x y
        by_cases e : x = y
        · subst e; rw [teq_t rfl]; rwa [bts_t rfl] at this
        · rw [teq_f (by simpa using e)]; rwa [bts_f e] at this
      | arr v hl h =>
        cases hb <;> first | (exfalso; simp [Tr.kind] at hk; done) | skip
        rename_i w hl2 h2
        have := same_arr v w h40a.2 h40b.2 (sub v w (by rw [nodes_eq]; simp [Tr.v]) h h2)
        by_cases e : v = w
        · subst e; rw [teq_t rfl]; rwa [teqL_t rfl] at this
        · rw [teq_f (by simpa using e)]; rwa [teqL_f e] at this
      | obj k v hn hl h =>
        cases hb <;> first | (exfalso; simp [Tr.kind] at hk; done) | skip
        rename_i k2 w hl2 hn2 h2
        have := same_obj k k2 v w h40a.1 h40b.1 h40a.2 h40b.2 (sub v w (by rw [nodes_eq]; simp [Tr.v]) h (by assumption))
        by_cases e : k = k2
        · by_cases e2 : v = w
          · subst e e2; rw [teq_t rfl]; rw [teqL_t rfl] at this; simpa using this
          · rw [teq_f (by simp [e2])]; rw [teqL_f e2] at this; simpa using this
        · rw [teq_f (by simp [e])]; rw [decide_eq_false e] at this; simpa using this
  · have : teq a b = false := teq_f (fun h => hk (by rw [h]))
    rw [this]
    exact same_diff a b hk
end Go.Px
end

section
namespace Go.Px
open Go.RowKit
theorem rsame_diff (a b : Tr) (h : a.kind ≠ b.kind) : Pure Go.Proofs.Tryz.prog 18 [.ag (enc a), .ag (enc b)] (.ret (.b false)) := by
  have h2 : (a.kind == b.kind) = false := beq_false_of_ne h
  refine Pure.body tys_valid (fn := Go.Proofs.Tryz.f18) (by kernel_rfl) rfl (by kernel_rfl) rfl ?_
  intro w ok giv E0 _ hE
  refine H.go 200 [] [(11, true)] dr18 rfl ?_ ?_
  · repeat' (first | exact AllP.n | exact trivial | exact DrawB.mk (by decide +kernel) | exact fun _ => rfl | refine AllP.c ?_ ?_)
    all_goals (try dsimp only)
    all_goals try first | exact rfl | exact ⟨trivial, rfl⟩ | exact ⟨trivial, bts_t rfl⟩ | omega | exact at_tr _ _ (by omega) | exact at_s _ _ (by omega) | exact dt (by omega) | exact df (by omega) | exact decide_eq_true (by omega) | exact decide_eq_false (by omega) | exact bts_t (by assumption) | exact bts_f (by assumption) | (rw [bts_t (by assumption)]; rfl) | (rw [bts_f (by assumption)]; rfl) | (unfold InR; omega) | (simp only [bne, h2]; rfl)
  refine ⟨_, _, rfl, ?_, ?_⟩
  · repeat' (first | exact AllP.n | exact trivial | exact DrawB.mk (by decide +kernel) | exact fun _ => rfl | refine AllP.c ?_ ?_)
    all_goals (try dsimp only)
    all_goals try first | exact rfl | exact ⟨trivial, rfl⟩ | exact ⟨trivial, bts_t rfl⟩ | omega | exact at_tr _ _ (by omega) | exact at_s _ _ (by omega) | exact dt (by omega) | exact df (by omega) | exact decide_eq_true (by omega) | exact decide_eq_false (by omega) | exact bts_t (by assumption) | exact bts_f (by assumption) | (rw [bts_t (by assumption)]; rfl) | (rw [bts_f (by assumption)]; rfl) | (unfold InR; omega)
  · exact .refl _
theorem rsame_nul  : Pure Go.Proofs.Tryz.prog 18 [.ag (enc (nul)), .ag (enc (nul))] (.ret (.b true)) := by
  refine Pure.body tys_valid (fn := Go.Proofs.Tryz.f18) (by kernel_rfl) rfl (by kernel_rfl) rfl ?_
  intro w ok giv E0 _ hE
  refine H.go 200 [] [(11, false)] dr18 rfl ?_ ?_
  · repeat' (first | exact AllP.n | exact trivial | exact DrawB.mk (by decide +kernel) | exact fun _ => rfl | refine AllP.c ?_ ?_)
    all_goals (try dsimp only)
    all_goals try first | exact rfl | exact ⟨trivial, rfl⟩ | exact ⟨trivial, bts_t rfl⟩ | omega | exact at_tr _ _ (by omega) | exact at_s _ _ (by omega) | exact dt (by omega) | exact df (by omega) | exact decide_eq_true (by omega) | exact decide_eq_false (by omega) | exact bts_t (by assumption) | exact bts_f (by assumption) | (rw [bts_t (by assumption)]; rfl) | (rw [bts_f (by assumption)]; rfl) | (unfold InR; omega)
  refine ⟨_, _, rfl, ?_, ?_⟩
  · repeat' (first | exact AllP.n | exact trivial | exact DrawB.mk (by decide +kernel) | exact fun _ => rfl | refine AllP.c ?_ ?_)
    all_goals (try dsimp only)
    all_goals try first | exact rfl | exact ⟨trivial, rfl⟩ | exact ⟨trivial, bts_t rfl⟩ | omega | exact at_tr _ _ (by omega) | exact at_s _ _ (by omega) | exact dt (by omega) | exact df (by omega) | exact decide_eq_true (by omega) | exact decide_eq_false (by omega) | exact bts_t (by assumption) | exact bts_f (by assumption) | (rw [bts_t (by assumption)]; rfl) | (rw [bts_f (by assumption)]; rfl) | (unfold InR; omega)
  · exact .refl _
theorem rsame_null  : Pure Go.Proofs.Tryz.prog 18 [.ag (enc (.mk 1 false N0 S0 [] [])), .ag (enc (.mk 1 false N0 S0 [] []))] (.ret (.b true)) := by
  refine Pure.body tys_valid (fn := Go.Proofs.Tryz.f18) (by kernel_rfl) rfl (by kernel_rfl) rfl ?_
  intro w ok giv E0 _ hE
  refine H.go 200 [] [(11, false)] dr18 rfl ?_ ?_
  · repeat' (first | exact AllP.n | exact trivial | exact DrawB.mk (by decide +kernel) | exact fun _ => rfl | refine AllP.c ?_ ?_)
    all_goals (try dsimp only)
    all_goals try first | exact rfl | exact ⟨trivial, rfl⟩ | exact ⟨trivial, bts_t rfl⟩ | omega | exact at_tr _ _ (by omega) | exact at_s _ _ (by omega) | exact dt (by omega) | exact df (by omega) | exact decide_eq_true (by omega) | exact decide_eq_false (by omega) | exact bts_t (by assumption) | exact bts_f (by assumption) | (rw [bts_t (by assumption)]; rfl) | (rw [bts_f (by assumption)]; rfl) | (unfold InR; omega)
  refine ⟨_, _, rfl, ?_, ?_⟩
  · repeat' (first | exact AllP.n | exact trivial | exact DrawB.mk (by decide +kernel) | exact fun _ => rfl | refine AllP.c ?_ ?_)
    all_goals (try dsimp only)
    all_goals try first | exact rfl | exact ⟨trivial, rfl⟩ | exact ⟨trivial, bts_t rfl⟩ | omega | exact at_tr _ _ (by omega) | exact at_s _ _ (by omega) | exact dt (by omega) | exact df (by omega) | exact decide_eq_true (by omega) | exact decide_eq_false (by omega) | exact bts_t (by assumption) | exact bts_f (by assumption) | (rw [bts_t (by assumption)]; rfl) | (rw [bts_f (by assumption)]; rfl) | (unfold InR; omega)
  · exact .refl _
theorem rsame_bool (x y : Bool) : Pure Go.Proofs.Tryz.prog 18 [.ag (enc (.mk 2 x N0 S0 [] [])), .ag (enc (.mk 2 y N0 S0 [] []))] (.ret (.b (x == y))) := by
  refine Pure.body tys_valid (fn := Go.Proofs.Tryz.f18) (by kernel_rfl) rfl (by kernel_rfl) rfl ?_
  intro w ok giv E0 _ hE
  refine H.go 200 [] [(11, false)] dr18 rfl ?_ ?_
  · repeat' (first | exact AllP.n | exact trivial | exact DrawB.mk (by decide +kernel) | exact fun _ => rfl | refine AllP.c ?_ ?_)
    all_goals (try dsimp only)
    all_goals try first | exact rfl | exact ⟨trivial, rfl⟩ | exact ⟨trivial, bts_t rfl⟩ | omega | exact at_tr _ _ (by omega) | exact at_s _ _ (by omega) | exact dt (by omega) | exact df (by omega) | exact decide_eq_true (by omega) | exact decide_eq_false (by omega) | exact bts_t (by assumption) | exact bts_f (by assumption) | (rw [bts_t (by assumption)]; rfl) | (rw [bts_f (by assumption)]; rfl) | (unfold InR; omega)
  refine ⟨_, _, rfl, ?_, ?_⟩
  · repeat' (first | exact AllP.n | exact trivial | exact DrawB.mk (by decide +kernel) | exact fun _ => rfl | refine AllP.c ?_ ?_)
    all_goals (try dsimp only)
    all_goals try first | exact rfl | exact ⟨trivial, rfl⟩ | exact ⟨trivial, bts_t rfl⟩ | omega | exact at_tr _ _ (by omega) | exact at_s _ _ (by omega) | exact dt (by omega) | exact df (by omega) | exact decide_eq_true (by omega) | exact decide_eq_false (by omega) | exact bts_t (by assumption) | exact bts_f (by assumption) | (rw [bts_t (by assumption)]; rfl) | (rw [bts_f (by assumption)]; rfl) | (unfold InR; omega)
  · exact .refl _
theorem rsame_num (x y : Nm) (hx : NOK x) (hy : NOK y) : Pure Go.Proofs.Tryz.prog 18 [.ag (enc (.mk 3 false x S0 [] [])), .ag (enc (.mk 3 false y S0 [] []))] (.ret (.b (sameM x y))) := by
  have hc := rsameN_ok x y hx hy
  rw [sameM_eq hx hy] at hc
  refine Pure.body tys_valid (fn := Go.Proofs.Tryz.f18) (by kernel_rfl) rfl (by kernel_rfl) rfl ?_
  intro w ok giv E0 _ hE
  refine H.go 200 [(7, [(4, .res (.ret (.b (sameM x y))))])] [(11, false)] dr18 rfl ?_ ?_
  · repeat' (first | exact AllP.n | exact trivial | exact DrawB.mk (by decide +kernel) | exact fun _ => rfl | refine AllP.c ?_ ?_)
    all_goals (try dsimp only)
    all_goals try first | exact rfl | exact ⟨trivial, rfl⟩ | exact ⟨trivial, bts_t rfl⟩ | omega | exact at_tr _ _ (by omega) | exact at_s _ _ (by omega) | exact dt (by omega) | exact df (by omega) | exact decide_eq_true (by omega) | exact decide_eq_false (by omega) | exact bts_t (by assumption) | exact bts_f (by assumption) | (rw [bts_t (by assumption)]; rfl) | (rw [bts_f (by assumption)]; rfl) | (unfold InR; omega) | exact hc
  refine ⟨_, _, rfl, ?_, ?_⟩
  · repeat' (first | exact AllP.n | exact trivial | exact DrawB.mk (by decide +kernel) | exact fun _ => rfl | refine AllP.c ?_ ?_)
    all_goals (try dsimp only)
    all_goals try first | exact rfl | exact ⟨trivial, rfl⟩ | exact ⟨trivial, bts_t rfl⟩ | omega | exact at_tr _ _ (by omega) | exact at_s _ _ (by omega) | exact dt (by omega) | exact df (by omega) | exact decide_eq_true (by omega) | exact decide_eq_false (by omega) | exact bts_t (by assumption) | exact bts_f (by assumption) | (rw [bts_t (by assumption)]; rfl) | (rw [bts_f (by assumption)]; rfl) | (unfold InR; omega)
  · exact .refl _
theorem rsame_text (x y : ByteArray) : Pure Go.Proofs.Tryz.prog 18 [.ag (enc (.mk 4 false N0 x [] [])), .ag (enc (.mk 4 false N0 y [] []))] (.ret (.b (x.toList == y.toList))) := by
  refine Pure.body tys_valid (fn := Go.Proofs.Tryz.f18) (by kernel_rfl) rfl (by kernel_rfl) rfl ?_
  intro w ok giv E0 _ hE
  refine H.go 200 [] [(11, false)] dr18 rfl ?_ ?_
  · repeat' (first | exact AllP.n | exact trivial | exact DrawB.mk (by decide +kernel) | exact fun _ => rfl | refine AllP.c ?_ ?_)
    all_goals (try dsimp only)
    all_goals try first | exact rfl | exact ⟨trivial, rfl⟩ | exact ⟨trivial, bts_t rfl⟩ | omega | exact at_tr _ _ (by omega) | exact at_s _ _ (by omega) | exact dt (by omega) | exact df (by omega) | exact decide_eq_true (by omega) | exact decide_eq_false (by omega) | exact bts_t (by assumption) | exact bts_f (by assumption) | (rw [bts_t (by assumption)]; rfl) | (rw [bts_f (by assumption)]; rfl) | (unfold InR; omega)
  refine ⟨_, _, rfl, ?_, ?_⟩
  · repeat' (first | exact AllP.n | exact trivial | exact DrawB.mk (by decide +kernel) | exact fun _ => rfl | refine AllP.c ?_ ?_)
    all_goals (try dsimp only)
    all_goals try first | exact rfl | exact ⟨trivial, rfl⟩ | exact ⟨trivial, bts_t rfl⟩ | omega | exact at_tr _ _ (by omega) | exact at_s _ _ (by omega) | exact dt (by omega) | exact df (by omega) | exact decide_eq_true (by omega) | exact decide_eq_false (by omega) | exact bts_t (by assumption) | exact bts_f (by assumption) | (rw [bts_t (by assumption)]; rfl) | (rw [bts_f (by assumption)]; rfl) | (unfold InR; omega)
  · exact .refl _
theorem rsame_bytes (x y : ByteArray) : Pure Go.Proofs.Tryz.prog 18 [.ag (enc (.mk 5 false N0 x [] [])), .ag (enc (.mk 5 false N0 y [] []))] (.ret (.b (x.toList == y.toList))) := by
  refine Pure.body tys_valid (fn := Go.Proofs.Tryz.f18) (by kernel_rfl) rfl (by kernel_rfl) rfl ?_
  intro w ok giv E0 _ hE
  refine H.go 200 [] [(11, false)] dr18 rfl ?_ ?_
  · repeat' (first | exact AllP.n | exact trivial | exact DrawB.mk (by decide +kernel) | exact fun _ => rfl | refine AllP.c ?_ ?_)
    all_goals (try dsimp only)
    all_goals try first | exact rfl | exact ⟨trivial, rfl⟩ | exact ⟨trivial, bts_t rfl⟩ | omega | exact at_tr _ _ (by omega) | exact at_s _ _ (by omega) | exact dt (by omega) | exact df (by omega) | exact decide_eq_true (by omega) | exact decide_eq_false (by omega) | exact bts_t (by assumption) | exact bts_f (by assumption) | (rw [bts_t (by assumption)]; rfl) | (rw [bts_f (by assumption)]; rfl) | (unfold InR; omega)
  refine ⟨_, _, rfl, ?_, ?_⟩
  · repeat' (first | exact AllP.n | exact trivial | exact DrawB.mk (by decide +kernel) | exact fun _ => rfl | refine AllP.c ?_ ?_)
    all_goals (try dsimp only)
    all_goals try first | exact rfl | exact ⟨trivial, rfl⟩ | exact ⟨trivial, bts_t rfl⟩ | omega | exact at_tr _ _ (by omega) | exact at_s _ _ (by omega) | exact dt (by omega) | exact df (by omega) | exact decide_eq_true (by omega) | exact decide_eq_false (by omega) | exact bts_t (by assumption) | exact bts_f (by assumption) | (rw [bts_t (by assumption)]; rfl) | (rw [bts_f (by assumption)]; rfl) | (unfold InR; omega)
  · exact .refl _
theorem rsame_arr (v u : List Tr) (hv : v.length < 2^40) (hu : u.length < 2^40) (hf : ∀ (i : Nat) (h1 : i < v.length) (h2 : i < u.length), Pure Go.Proofs.Tryz.prog 18 [.ag (enc v[i]), .ag (enc u[i])] (.ret (.b (teq v[i] u[i])))) :
    Pure Go.Proofs.Tryz.prog 18 [.ag (enc (.mk 6 false N0 S0 [] v)), .ag (enc (.mk 6 false N0 S0 [] u))] (.ret (.b (teqL v u))) := by
  refine Pure.body tys_valid (fn := Go.Proofs.Tryz.f18) (by kernel_rfl) rfl (by kernel_rfl) rfl ?_
  intro w ok giv E0 _ hE
  by_cases hl : v.length = u.length
  · have hl2 : ((v.length : Int) == (u.length : Int)) = true := by rw [hl]; simp
    refine H.go 200 [(13, [(6, .gd false), (10, .gd false)])] [(11, false)] dr18 rfl ?_ ?_
    · repeat' (first | exact AllP.n | exact trivial | exact DrawB.mk (by decide +kernel) | exact fun _ => rfl | refine AllP.c ?_ ?_)
      all_goals (try dsimp only)
      all_goals try first | exact rfl | exact ⟨trivial, rfl⟩ | exact ⟨trivial, bts_t rfl⟩ | omega | exact at_tr _ _ (by omega) | exact at_s _ _ (by omega) | exact dt (by omega) | exact df (by omega) | exact decide_eq_true (by omega) | exact decide_eq_false (by omega) | exact bts_t (by assumption) | exact bts_f (by assumption) | (rw [bts_t (by assumption)]; rfl) | (rw [bts_f (by assumption)]; rfl) | (unfold InR; omega) | (refine ⟨trivial, ?_⟩; simp only [Tr.v, Tr.k, bne, hl2]; rfl) | (simp only [Tr.v, Tr.k, bne, hl2]; rfl) | (refine ⟨trivial, ?_⟩; simp only [Tr.v, Tr.k, bne, hm2]; rfl)
    refine H.loopI (fun i : Nat => i ≤ ([] : List ByteArray).length ∧ ([] : List ByteArray).take i = ([] : List ByteArray).take i) (fun i => ⟨[(2, .oa 0 0), (3, .oa 1 0), (5, .i .i64 i)], [(0, ⟨30, 1, enc (.mk 6 false N0 S0 [] v), 0, true, false, true⟩), (1, ⟨30, 1, enc (.mk 6 false N0 S0 [] u), 0, true, false, true⟩)], 0⟩) (fun i => ([] : List ByteArray).length - i) 0 ⟨Nat.zero_le _, by simp⟩ ?_ ?_
    · intro a w s
      exact s.ren hE [] (by repeat' (first | exact trivial | exact rfl | apply And.intro)) (by repeat' (first | exact trivial | exact rfl | apply And.intro)) rfl
    rintro i ⟨hi, ht⟩
    obtain rfl : i = 0 := by simpa using hi
    refine H.go 200 [(16, [(4, .gd false)])] [(69, false)] dr18 rfl ?_ ?_
    · repeat' (first | exact AllP.n | exact trivial | exact DrawB.mk (by decide +kernel) | exact fun _ => rfl | refine AllP.c ?_ ?_)
      all_goals (try dsimp only)
      all_goals try first | exact rfl | exact ⟨trivial, rfl⟩ | exact ⟨trivial, bts_t rfl⟩ | omega | exact at_tr _ _ (by omega) | exact at_s _ _ (by omega) | exact dt (by omega) | exact df (by omega) | exact decide_eq_true (by omega) | exact decide_eq_false (by omega) | exact bts_t (by assumption) | exact bts_f (by assumption) | (rw [bts_t (by assumption)]; rfl) | (rw [bts_f (by assumption)]; rfl) | (unfold InR; omega) | (refine ⟨trivial, decide_eq_false ?_⟩; simp only [Tr.k]; omega)
    refine H.go 200 [] [] dr18 rfl ?_ ?_
    · repeat' (first | exact AllP.n | exact trivial | exact DrawB.mk (by decide +kernel) | exact fun _ => rfl | refine AllP.c ?_ ?_)
      all_goals (try dsimp only)
      all_goals try first | exact rfl | exact ⟨trivial, rfl⟩ | exact ⟨trivial, bts_t rfl⟩ | omega | exact at_tr _ _ (by omega) | exact at_s _ _ (by omega) | exact dt (by omega) | exact df (by omega) | exact decide_eq_true (by omega) | exact decide_eq_false (by omega) | exact bts_t (by assumption) | exact bts_f (by assumption) | (rw [bts_t (by assumption)]; rfl) | (rw [bts_f (by assumption)]; rfl) | (unfold InR; omega)
    refine H.loopI (fun i : Nat => i ≤ v.length ∧ v.take i = u.take i) (fun i => ⟨[(2, .oa 0 0), (3, .oa 1 0), (6, .i .i64 i)], [(0, ⟨30, 1, enc (.mk 6 false N0 S0 [] v), 0, true, false, true⟩), (1, ⟨30, 1, enc (.mk 6 false N0 S0 [] u), 0, true, false, true⟩)], 0⟩) (fun i => v.length - i) 0 ⟨Nat.zero_le _, by simp⟩ ?_ ?_
    · intro a w s
      exact s.ren hE [] (by repeat' (first | exact trivial | exact rfl | apply And.intro)) (by repeat' (first | exact trivial | exact rfl | apply And.intro)) rfl
    rintro i ⟨hi, ht⟩
    by_cases hlt : i < v.length
    · have hlt2 : i < u.length := by omega
      have hc := hf i hlt hlt2
      have a1 := at_tr v i hlt
      have a2 := at_tr u i hlt2
      by_cases he : v[i] = u[i]
      · rw [teq_t he] at hc
        refine H.go 200 [(23, [(4, .cells (enc v[i])), (9, .cells (enc u[i])), (10, .res (.ret (.b true)))])] [(87, true), (101, false)] dr18 rfl ?_ ?_
        · repeat' (first | exact AllP.n | exact trivial | exact DrawB.mk (by decide +kernel) | exact fun _ => rfl | refine AllP.c ?_ ?_)
          all_goals (try dsimp only)
          all_goals try first | exact rfl | exact ⟨trivial, rfl⟩ | exact ⟨trivial, bts_t rfl⟩ | omega | exact at_tr _ _ (by omega) | exact at_s _ _ (by omega) | exact dt (by omega) | exact df (by omega) | exact decide_eq_true (by omega) | exact decide_eq_false (by omega) | exact bts_t (by assumption) | exact bts_f (by assumption) | (rw [bts_t (by assumption)]; rfl) | (rw [bts_f (by assumption)]; rfl) | (unfold InR; omega) | exact a1 | exact a2 | exact hc | (refine decide_eq_true ?_; simp only [Tr.v]; omega) | (simp only [Tr.v]; omega)
        exact loopN (i + 1) ⟨hlt, by rw [List.take_succ_eq_append_getElem hlt, List.take_succ_eq_append_getElem hlt2, ht, he]⟩ (by show v.length - (i + 1) < v.length - i; omega) fun a w s => s.ren hE [] (by repeat' (first | exact trivial | exact rfl | apply And.intro)) (by repeat' (first | exact trivial | exact rfl | apply And.intro)) rfl
      · rw [teq_f he] at hc
        have hne : v ≠ u := fun h => he (by subst h; rfl)
        refine H.go 200 [(23, [(4, .cells (enc v[i])), (9, .cells (enc u[i])), (10, .res (.ret (.b false)))])] [(87, true), (101, true)] dr18 rfl ?_ ?_
        · repeat' (first | exact AllP.n | exact trivial | exact DrawB.mk (by decide +kernel) | exact fun _ => rfl | refine AllP.c ?_ ?_)
          all_goals (try dsimp only)
          all_goals try first | exact rfl | exact ⟨trivial, rfl⟩ | exact ⟨trivial, bts_t rfl⟩ | omega | exact at_tr _ _ (by omega) | exact at_s _ _ (by omega) | exact dt (by omega) | exact df (by omega) | exact decide_eq_true (by omega) | exact decide_eq_false (by omega) | exact bts_t (by assumption) | exact bts_f (by assumption) | (rw [bts_t (by assumption)]; rfl) | (rw [bts_f (by assumption)]; rfl) | (unfold InR; omega) | exact a1 | exact a2 | exact hc | (refine decide_eq_true ?_; simp only [Tr.v]; omega) | (simp only [Tr.v]; omega)
        refine ⟨_, _, rfl, ?_, ?_⟩
        · repeat' (first | exact AllP.n | exact trivial | exact DrawB.mk (by decide +kernel) | exact fun _ => rfl | refine AllP.c ?_ ?_)
          all_goals (try dsimp only)
          all_goals try first | exact rfl | exact ⟨trivial, rfl⟩ | exact ⟨trivial, bts_t rfl⟩ | omega | exact at_tr _ _ (by omega) | exact at_s _ _ (by omega) | exact dt (by omega) | exact df (by omega) | exact decide_eq_true (by omega) | exact decide_eq_false (by omega) | exact bts_t (by assumption) | exact bts_f (by assumption) | (rw [bts_t (by assumption)]; rfl) | (rw [bts_f (by assumption)]; rfl) | (unfold InR; omega)
        · rw [teqL_f hne]; exact .refl _
    · have hvu : v = u := by
        have e1 : i = v.length := by omega
        rw [e1, List.take_length, hl, List.take_length] at ht
        exact ht
      have hy : (teqL v u) = true := teqL_t hvu
      refine H.go 200 [] [(87, false)] dr18 rfl ?_ ?_
      · repeat' (first | exact AllP.n | exact trivial | exact DrawB.mk (by decide +kernel) | exact fun _ => rfl | refine AllP.c ?_ ?_)
        all_goals (try dsimp only)
        all_goals try first | exact rfl | exact ⟨trivial, rfl⟩ | exact ⟨trivial, bts_t rfl⟩ | omega | exact at_tr _ _ (by omega) | exact at_s _ _ (by omega) | exact dt (by omega) | exact df (by omega) | exact decide_eq_true (by omega) | exact decide_eq_false (by omega) | exact bts_t (by assumption) | exact bts_f (by assumption) | (rw [bts_t (by assumption)]; rfl) | (rw [bts_f (by assumption)]; rfl) | (unfold InR; omega) | (refine decide_eq_false ?_; simp only [Tr.v]; omega)
      refine H.go 200 [] [] dr18 rfl ?_ ?_
      · repeat' (first | exact AllP.n | exact trivial | exact DrawB.mk (by decide +kernel) | exact fun _ => rfl | refine AllP.c ?_ ?_)
        all_goals (try dsimp only)
        all_goals try first | exact rfl | exact ⟨trivial, rfl⟩ | exact ⟨trivial, bts_t rfl⟩ | omega | exact at_tr _ _ (by omega) | exact at_s _ _ (by omega) | exact dt (by omega) | exact df (by omega) | exact decide_eq_true (by omega) | exact decide_eq_false (by omega) | exact bts_t (by assumption) | exact bts_f (by assumption) | (rw [bts_t (by assumption)]; rfl) | (rw [bts_f (by assumption)]; rfl) | (unfold InR; omega)
      refine ⟨_, _, rfl, ?_, ?_⟩
      · repeat' (first | exact AllP.n | exact trivial | exact DrawB.mk (by decide +kernel) | exact fun _ => rfl | refine AllP.c ?_ ?_)
        all_goals (try dsimp only)
        all_goals try first | exact rfl | exact ⟨trivial, rfl⟩ | exact ⟨trivial, bts_t rfl⟩ | omega | exact at_tr _ _ (by omega) | exact at_s _ _ (by omega) | exact dt (by omega) | exact df (by omega) | exact decide_eq_true (by omega) | exact decide_eq_false (by omega) | exact bts_t (by assumption) | exact bts_f (by assumption) | (rw [bts_t (by assumption)]; rfl) | (rw [bts_f (by assumption)]; rfl) | (unfold InR; omega)
      · rw [hy]; exact .refl _
  · have hl2 : ((v.length : Int) == (u.length : Int)) = false := beq_false_of_ne (by omega)
    have hne : v ≠ u := fun h => hl (by rw [h])
    refine H.go 200 [(13, [(6, .gd true)])] [(11, false)] dr18 rfl ?_ ?_
    · repeat' (first | exact AllP.n | exact trivial | exact DrawB.mk (by decide +kernel) | exact fun _ => rfl | refine AllP.c ?_ ?_)
      all_goals (try dsimp only)
      all_goals try first | exact rfl | exact ⟨trivial, rfl⟩ | exact ⟨trivial, bts_t rfl⟩ | omega | exact at_tr _ _ (by omega) | exact at_s _ _ (by omega) | exact dt (by omega) | exact df (by omega) | exact decide_eq_true (by omega) | exact decide_eq_false (by omega) | exact bts_t (by assumption) | exact bts_f (by assumption) | (rw [bts_t (by assumption)]; rfl) | (rw [bts_f (by assumption)]; rfl) | (unfold InR; omega) | (refine ⟨trivial, ?_⟩; simp only [Tr.v, Tr.k, bne, hl2]; rfl) | (simp only [Tr.v, Tr.k, bne, hl2]; rfl) | (refine ⟨trivial, ?_⟩; simp only [Tr.v, Tr.k, bne, hm2]; rfl)
    refine ⟨_, _, rfl, ?_, ?_⟩
    · repeat' (first | exact AllP.n | exact trivial | exact DrawB.mk (by decide +kernel) | exact fun _ => rfl | refine AllP.c ?_ ?_)
      all_goals (try dsimp only)
      all_goals try first | exact rfl | exact ⟨trivial, rfl⟩ | exact ⟨trivial, bts_t rfl⟩ | omega | exact at_tr _ _ (by omega) | exact at_s _ _ (by omega) | exact dt (by omega) | exact df (by omega) | exact decide_eq_true (by omega) | exact decide_eq_false (by omega) | exact bts_t (by assumption) | exact bts_f (by assumption) | (rw [bts_t (by assumption)]; rfl) | (rw [bts_f (by assumption)]; rfl) | (unfold InR; omega)
    · rw [teqL_f hne]; exact .refl _
theorem rsame_obj (j k : List ByteArray) (v u : List Tr) (hj : j.length < 2^40) (hk : k.length < 2^40) (hv : v.length < 2^40) (hu : u.length < 2^40) (hf : ∀ (i : Nat) (h1 : i < v.length) (h2 : i < u.length), Pure Go.Proofs.Tryz.prog 18 [.ag (enc v[i]), .ag (enc u[i])] (.ret (.b (teq v[i] u[i])))) :
    Pure Go.Proofs.Tryz.prog 18 [.ag (enc (.mk 7 false N0 S0 j v)), .ag (enc (.mk 7 false N0 S0 k u))] (.ret (.b (decide (j = k) && teqL v u))) := by
  refine Pure.body tys_valid (fn := Go.Proofs.Tryz.f18) (by kernel_rfl) rfl (by kernel_rfl) rfl ?_
  intro w ok giv E0 _ hE
  by_cases hl : v.length = u.length
  · have hl2 : ((v.length : Int) == (u.length : Int)) = true := by rw [hl]; simp
    by_cases hm : j.length = k.length
    · have hm2 : ((j.length : Int) == (k.length : Int)) = true := by rw [hm]; simp
      refine H.go 200 [(13, [(6, .gd false), (10, .gd true), (18, .gd false)])] [(11, false)] dr18 rfl ?_ ?_
      · repeat' (first | exact AllP.n | exact trivial | exact DrawB.mk (by decide +kernel) | exact fun _ => rfl | refine AllP.c ?_ ?_)
        all_goals (try dsimp only)
        all_goals try first | exact rfl | exact ⟨trivial, rfl⟩ | exact ⟨trivial, bts_t rfl⟩ | omega | exact at_tr _ _ (by omega) | exact at_s _ _ (by omega) | exact dt (by omega) | exact df (by omega) | exact decide_eq_true (by omega) | exact decide_eq_false (by omega) | exact bts_t (by assumption) | exact bts_f (by assumption) | (rw [bts_t (by assumption)]; rfl) | (rw [bts_f (by assumption)]; rfl) | (unfold InR; omega) | (refine ⟨trivial, ?_⟩; simp only [Tr.v, Tr.k, bne, hl2]; rfl) | (simp only [Tr.v, Tr.k, bne, hl2]; rfl) | (refine ⟨trivial, ?_⟩; simp only [Tr.v, Tr.k, bne, hm2]; rfl)
      refine H.loopI (fun i : Nat => i ≤ j.length ∧ j.take i = k.take i) (fun i => ⟨[(2, .oa 0 0), (3, .oa 1 0), (5, .i .i64 i)], [(0, ⟨30, 1, enc (.mk 7 false N0 S0 j v), 0, true, false, true⟩), (1, ⟨30, 1, enc (.mk 7 false N0 S0 k u), 0, true, false, true⟩)], 0⟩) (fun i => j.length - i) 0 ⟨Nat.zero_le _, by simp⟩ ?_ ?_
      · intro a w s
        exact s.ren hE [] (by repeat' (first | exact trivial | exact rfl | apply And.intro)) (by repeat' (first | exact trivial | exact rfl | apply And.intro)) rfl
      rintro i ⟨hi, ht⟩
      by_cases hlt : i < j.length
      · have hlt2 : i < k.length := by omega
        have a1 := at_s j i hlt
        have a2 := at_s k i hlt2
        by_cases he : j[i] = k[i]
        · have he2 := bts_t he
          refine H.go 200 [(16, [(4, .gd true), (8, .gd true)]), (18, [(4, .cell (.s j[i])), (9, .cell (.s k[i]))])] [(69, true), (82, false)] dr18 rfl ?_ ?_
          · repeat' (first | exact AllP.n | exact trivial | exact DrawB.mk (by decide +kernel) | exact fun _ => rfl | refine AllP.c ?_ ?_)
            all_goals (try dsimp only)
            all_goals try first | exact rfl | exact ⟨trivial, rfl⟩ | exact ⟨trivial, bts_t rfl⟩ | omega | exact at_tr _ _ (by omega) | exact at_s _ _ (by omega) | exact dt (by omega) | exact df (by omega) | exact decide_eq_true (by omega) | exact decide_eq_false (by omega) | exact bts_t (by assumption) | exact bts_f (by assumption) | (rw [bts_t (by assumption)]; rfl) | (rw [bts_f (by assumption)]; rfl) | (unfold InR; omega) | exact a1 | exact a2 | (simp only [bne, he2]; rfl) | (refine ⟨trivial, decide_eq_true ?_⟩; simp only [Tr.k]; omega) | (simp only [Tr.k]; omega)
          exact loopN (i + 1) ⟨hlt, by rw [List.take_succ_eq_append_getElem hlt, List.take_succ_eq_append_getElem hlt2, ht, he]⟩ (by show j.length - (i + 1) < j.length - i; omega) fun a w s => s.ren hE [] (by repeat' (first | exact trivial | exact rfl | apply And.intro)) (by repeat' (first | exact trivial | exact rfl | apply And.intro)) rfl
        · have he2 := bts_f he
          have hne : (decide (j = k) && teqL v u) = false := by rw [decide_eq_false (fun h => he (by subst h; rfl))]; rfl
          refine H.go 200 [(16, [(4, .gd true), (8, .gd true)]), (18, [(4, .cell (.s j[i])), (9, .cell (.s k[i]))])] [(69, true), (82, true)] dr18 rfl ?_ ?_
          · repeat' (first | exact AllP.n | exact trivial | exact DrawB.mk (by decide +kernel) | exact fun _ => rfl | refine AllP.c ?_ ?_)
            all_goals (try dsimp only)
            all_goals try first | exact rfl | exact ⟨trivial, rfl⟩ | exact ⟨trivial, bts_t rfl⟩ | omega | exact at_tr _ _ (by omega) | exact at_s _ _ (by omega) | exact dt (by omega) | exact df (by omega) | exact decide_eq_true (by omega) | exact decide_eq_false (by omega) | exact bts_t (by assumption) | exact bts_f (by assumption) | (rw [bts_t (by assumption)]; rfl) | (rw [bts_f (by assumption)]; rfl) | (unfold InR; omega) | exact a1 | exact a2 | (simp only [bne, he2]; rfl) | (refine ⟨trivial, decide_eq_true ?_⟩; simp only [Tr.k]; omega) | (simp only [Tr.k]; omega)
          refine ⟨_, _, rfl, ?_, ?_⟩
          · repeat' (first | exact AllP.n | exact trivial | exact DrawB.mk (by decide +kernel) | exact fun _ => rfl | refine AllP.c ?_ ?_)
            all_goals (try dsimp only)
            all_goals try first | exact rfl | exact ⟨trivial, rfl⟩ | exact ⟨trivial, bts_t rfl⟩ | omega | exact at_tr _ _ (by omega) | exact at_s _ _ (by omega) | exact dt (by omega) | exact df (by omega) | exact decide_eq_true (by omega) | exact decide_eq_false (by omega) | exact bts_t (by assumption) | exact bts_f (by assumption) | (rw [bts_t (by assumption)]; rfl) | (rw [bts_f (by assumption)]; rfl) | (unfold InR; omega)
          · rw [show (decide (j = k) && teqL v u) = false from hne]; exact .refl _
      · have hjk : j = k := by
          have e1 : i = j.length := by omega
          rw [e1, List.take_length, hm, List.take_length] at ht
          exact ht
        refine H.go 200 [(16, [(4, .gd false)])] [(69, false)] dr18 rfl ?_ ?_
        · repeat' (first | exact AllP.n | exact trivial | exact DrawB.mk (by decide +kernel) | exact fun _ => rfl | refine AllP.c ?_ ?_)
          all_goals (try dsimp only)
          all_goals try first | exact rfl | exact ⟨trivial, rfl⟩ | exact ⟨trivial, bts_t rfl⟩ | omega | exact at_tr _ _ (by omega) | exact at_s _ _ (by omega) | exact dt (by omega) | exact df (by omega) | exact decide_eq_true (by omega) | exact decide_eq_false (by omega) | exact bts_t (by assumption) | exact bts_f (by assumption) | (rw [bts_t (by assumption)]; rfl) | (rw [bts_f (by assumption)]; rfl) | (unfold InR; omega) | (refine ⟨trivial, decide_eq_false ?_⟩; simp only [Tr.k]; omega)
        refine H.go 200 [] [] dr18 rfl ?_ ?_
        · repeat' (first | exact AllP.n | exact trivial | exact DrawB.mk (by decide +kernel) | exact fun _ => rfl | refine AllP.c ?_ ?_)
          all_goals (try dsimp only)
          all_goals try first | exact rfl | exact ⟨trivial, rfl⟩ | exact ⟨trivial, bts_t rfl⟩ | omega | exact at_tr _ _ (by omega) | exact at_s _ _ (by omega) | exact dt (by omega) | exact df (by omega) | exact decide_eq_true (by omega) | exact decide_eq_false (by omega) | exact bts_t (by assumption) | exact bts_f (by assumption) | (rw [bts_t (by assumption)]; rfl) | (rw [bts_f (by assumption)]; rfl) | (unfold InR; omega)
        refine H.loopI (fun i : Nat => i ≤ v.length ∧ v.take i = u.take i) (fun i => ⟨[(2, .oa 0 0), (3, .oa 1 0), (6, .i .i64 i)], [(0, ⟨30, 1, enc (.mk 7 false N0 S0 j v), 0, true, false, true⟩), (1, ⟨30, 1, enc (.mk 7 false N0 S0 k u), 0, true, false, true⟩)], 0⟩) (fun i => v.length - i) 0 ⟨Nat.zero_le _, by simp⟩ ?_ ?_
        · intro a w s
          exact s.ren hE [] (by repeat' (first | exact trivial | exact rfl | apply And.intro)) (by repeat' (first | exact trivial | exact rfl | apply And.intro)) rfl
        rintro i ⟨hi, ht⟩
        by_cases hlt : i < v.length
        · have hlt2 : i < u.length := by omega
          have hc := hf i hlt hlt2
          have a1 := at_tr v i hlt
          have a2 := at_tr u i hlt2
          by_cases he : v[i] = u[i]
          · rw [teq_t he] at hc
            refine H.go 200 [(23, [(4, .cells (enc v[i])), (9, .cells (enc u[i])), (10, .res (.ret (.b true)))])] [(87, true), (101, false)] dr18 rfl ?_ ?_
            · repeat' (first | exact AllP.n | exact trivial | exact DrawB.mk (by decide +kernel) | exact fun _ => rfl | refine AllP.c ?_ ?_)
              all_goals (try dsimp only)
              all_goals try first | exact rfl | exact ⟨trivial, rfl⟩ | exact ⟨trivial, bts_t rfl⟩ | omega | exact at_tr _ _ (by omega) | exact at_s _ _ (by omega) | exact dt (by omega) | exact df (by omega) | exact decide_eq_true (by omega) | exact decide_eq_false (by omega) | exact bts_t (by assumption) | exact bts_f (by assumption) | (rw [bts_t (by assumption)]; rfl) | (rw [bts_f (by assumption)]; rfl) | (unfold InR; omega) | exact a1 | exact a2 | exact hc | (refine decide_eq_true ?_; simp only [Tr.v]; omega) | (simp only [Tr.v]; omega)
            exact loopN (i + 1) ⟨hlt, by rw [List.take_succ_eq_append_getElem hlt, List.take_succ_eq_append_getElem hlt2, ht, he]⟩ (by show v.length - (i + 1) < v.length - i; omega) fun a w s => s.ren hE [] (by repeat' (first | exact trivial | exact rfl | apply And.intro)) (by repeat' (first | exact trivial | exact rfl | apply And.intro)) rfl
          · rw [teq_f he] at hc
            have hne : (decide (j = k) && teqL v u) = false := by rw [teqL_f (fun h => he (by subst h; rfl))]; simp
            refine H.go 200 [(23, [(4, .cells (enc v[i])), (9, .cells (enc u[i])), (10, .res (.ret (.b false)))])] [(87, true), (101, true)] dr18 rfl ?_ ?_
            · repeat' (first | exact AllP.n | exact trivial | exact DrawB.mk (by decide +kernel) | exact fun _ => rfl | refine AllP.c ?_ ?_)
              all_goals (try dsimp only)
              all_goals try first | exact rfl | exact ⟨trivial, rfl⟩ | exact ⟨trivial, bts_t rfl⟩ | omega | exact at_tr _ _ (by omega) | exact at_s _ _ (by omega) | exact dt (by omega) | exact df (by omega) | exact decide_eq_true (by omega) | exact decide_eq_false (by omega) | exact bts_t (by assumption) | exact bts_f (by assumption) | (rw [bts_t (by assumption)]; rfl) | (rw [bts_f (by assumption)]; rfl) | (unfold InR; omega) | exact a1 | exact a2 | exact hc | (refine decide_eq_true ?_; simp only [Tr.v]; omega) | (simp only [Tr.v]; omega)
            refine ⟨_, _, rfl, ?_, ?_⟩
            · repeat' (first | exact AllP.n | exact trivial | exact DrawB.mk (by decide +kernel) | exact fun _ => rfl | refine AllP.c ?_ ?_)
              all_goals (try dsimp only)
              all_goals try first | exact rfl | exact ⟨trivial, rfl⟩ | exact ⟨trivial, bts_t rfl⟩ | omega | exact at_tr _ _ (by omega) | exact at_s _ _ (by omega) | exact dt (by omega) | exact df (by omega) | exact decide_eq_true (by omega) | exact decide_eq_false (by omega) | exact bts_t (by assumption) | exact bts_f (by assumption) | (rw [bts_t (by assumption)]; rfl) | (rw [bts_f (by assumption)]; rfl) | (unfold InR; omega)
            · rw [show (decide (j = k) && teqL v u) = false from hne]; exact .refl _
        · have hvu : v = u := by
            have e1 : i = v.length := by omega
            rw [e1, List.take_length, hl, List.take_length] at ht
            exact ht
          have hy : (decide (j = k) && teqL v u) = true := by rw [teqL_t hvu, decide_eq_true hjk]; rfl
          refine H.go 200 [] [(87, false)] dr18 rfl ?_ ?_
          · repeat' (first | exact AllP.n | exact trivial | exact DrawB.mk (by decide +kernel) | exact fun _ => rfl | refine AllP.c ?_ ?_)
            all_goals (try dsimp only)
            all_goals try first | exact rfl | exact ⟨trivial, rfl⟩ | exact ⟨trivial, bts_t rfl⟩ | omega | exact at_tr _ _ (by omega) | exact at_s _ _ (by omega) | exact dt (by omega) | exact df (by omega) | exact decide_eq_true (by omega) | exact decide_eq_false (by omega) | exact bts_t (by assumption) | exact bts_f (by assumption) | (rw [bts_t (by assumption)]; rfl) | (rw [bts_f (by assumption)]; rfl) | (unfold InR; omega) | (refine decide_eq_false ?_; simp only [Tr.v]; omega)
          refine H.go 200 [] [] dr18 rfl ?_ ?_
          · repeat' (first | exact AllP.n | exact trivial | exact DrawB.mk (by decide +kernel) | exact fun _ => rfl | refine AllP.c ?_ ?_)
            all_goals (try dsimp only)
            all_goals try first | exact rfl | exact ⟨trivial, rfl⟩ | exact ⟨trivial, bts_t rfl⟩ | omega | exact at_tr _ _ (by omega) | exact at_s _ _ (by omega) | exact dt (by omega) | exact df (by omega) | exact decide_eq_true (by omega) | exact decide_eq_false (by omega) | exact bts_t (by assumption) | exact bts_f (by assumption) | (rw [bts_t (by assumption)]; rfl) | (rw [bts_f (by assumption)]; rfl) | (unfold InR; omega)
          refine ⟨_, _, rfl, ?_, ?_⟩
          · repeat' (first | exact AllP.n | exact trivial | exact DrawB.mk (by decide +kernel) | exact fun _ => rfl | refine AllP.c ?_ ?_)
            all_goals (try dsimp only)
            all_goals try first | exact rfl | exact ⟨trivial, rfl⟩ | exact ⟨trivial, bts_t rfl⟩ | omega | exact at_tr _ _ (by omega) | exact at_s _ _ (by omega) | exact dt (by omega) | exact df (by omega) | exact decide_eq_true (by omega) | exact decide_eq_false (by omega) | exact bts_t (by assumption) | exact bts_f (by assumption) | (rw [bts_t (by assumption)]; rfl) | (rw [bts_f (by assumption)]; rfl) | (unfold InR; omega)
          · rw [hy]; exact .refl _
    · have hm2 : ((j.length : Int) == (k.length : Int)) = false := beq_false_of_ne (by omega)
      have hne : (decide (j = k) && teqL v u) = false := by rw [decide_eq_false (fun h => hm (by rw [h]))]; rfl
      refine H.go 200 [(13, [(6, .gd false), (10, .gd true), (18, .gd true)])] [(11, false)] dr18 rfl ?_ ?_
      · repeat' (first | exact AllP.n | exact trivial | exact DrawB.mk (by decide +kernel) | exact fun _ => rfl | refine AllP.c ?_ ?_)
        all_goals (try dsimp only)
        all_goals try first | exact rfl | exact ⟨trivial, rfl⟩ | exact ⟨trivial, bts_t rfl⟩ | omega | exact at_tr _ _ (by omega) | exact at_s _ _ (by omega) | exact dt (by omega) | exact df (by omega) | exact decide_eq_true (by omega) | exact decide_eq_false (by omega) | exact bts_t (by assumption) | exact bts_f (by assumption) | (rw [bts_t (by assumption)]; rfl) | (rw [bts_f (by assumption)]; rfl) | (unfold InR; omega) | (refine ⟨trivial, ?_⟩; simp only [Tr.v, Tr.k, bne, hl2]; rfl) | (simp only [Tr.v, Tr.k, bne, hl2]; rfl) | (refine ⟨trivial, ?_⟩; simp only [Tr.v, Tr.k, bne, hm2]; rfl)
      refine ⟨_, _, rfl, ?_, ?_⟩
      · repeat' (first | exact AllP.n | exact trivial | exact DrawB.mk (by decide +kernel) | exact fun _ => rfl | refine AllP.c ?_ ?_)
        all_goals (try dsimp only)
        all_goals try first | exact rfl | exact ⟨trivial, rfl⟩ | exact ⟨trivial, bts_t rfl⟩ | omega | exact at_tr _ _ (by omega) | exact at_s _ _ (by omega) | exact dt (by omega) | exact df (by omega) | exact decide_eq_true (by omega) | exact decide_eq_false (by omega) | exact bts_t (by assumption) | exact bts_f (by assumption) | (rw [bts_t (by assumption)]; rfl) | (rw [bts_f (by assumption)]; rfl) | (unfold InR; omega)
      · rw [show (decide (j = k) && teqL v u) = false from hne]; exact .refl _
  · have hl2 : ((v.length : Int) == (u.length : Int)) = false := beq_false_of_ne (by omega)
    have hne : (decide (j = k) && teqL v u) = false := by rw [teqL_f (fun h => hl (by rw [h]))]; simp
    refine H.go 200 [(13, [(6, .gd true)])] [(11, false)] dr18 rfl ?_ ?_
    · repeat' (first | exact AllP.n | exact trivial | exact DrawB.mk (by decide +kernel) | exact fun _ => rfl | refine AllP.c ?_ ?_)
      all_goals (try dsimp only)
      all_goals try first | exact rfl | exact ⟨trivial, rfl⟩ | exact ⟨trivial, bts_t rfl⟩ | omega | exact at_tr _ _ (by omega) | exact at_s _ _ (by omega) | exact dt (by omega) | exact df (by omega) | exact decide_eq_true (by omega) | exact decide_eq_false (by omega) | exact bts_t (by assumption) | exact bts_f (by assumption) | (rw [bts_t (by assumption)]; rfl) | (rw [bts_f (by assumption)]; rfl) | (unfold InR; omega) | (refine ⟨trivial, ?_⟩; simp only [Tr.v, Tr.k, bne, hl2]; rfl) | (simp only [Tr.v, Tr.k, bne, hl2]; rfl) | (refine ⟨trivial, ?_⟩; simp only [Tr.v, Tr.k, bne, hm2]; rfl)
    refine ⟨_, _, rfl, ?_, ?_⟩
    · repeat' (first | exact AllP.n | exact trivial | exact DrawB.mk (by decide +kernel) | exact fun _ => rfl | refine AllP.c ?_ ?_)
      all_goals (try dsimp only)
      all_goals try first | exact rfl | exact ⟨trivial, rfl⟩ | exact ⟨trivial, bts_t rfl⟩ | omega | exact at_tr _ _ (by omega) | exact at_s _ _ (by omega) | exact dt (by omega) | exact df (by omega) | exact decide_eq_true (by omega) | exact decide_eq_false (by omega) | exact bts_t (by assumption) | exact bts_f (by assumption) | (rw [bts_t (by assumption)]; rfl) | (rw [bts_f (by assumption)]; rfl) | (unfold InR; omega)
    · rw [show (decide (j = k) && teqL v u) = false from hne]; exact .refl _
end Go.Px
end

section
namespace Go.Px
open Go.RowKit
theorem rsame_ct (a : Tr) : ∀ b, VT0 a → VT0 b → Pure Go.Proofs.Tryz.prog 18 [.ag (enc a), .ag (enc b)] (.ret (.b (teq a b))) := by
  induction hd : nodes a using Nat.strongRecOn generalizing a with
  | _ n ih =>
  subst hd
  intro b ha hb
  have sub : ∀ (v w : List Tr), nodesL v < nodes a → (∀ t ∈ v, VT t) → (∀ t ∈ w, VT t) → ∀ (i : Nat) (h1 : i < v.length) (h2 : i < w.length), Pure Go.Proofs.Tryz.prog 18 [.ag (enc v[i]), .ag (enc w[i])] (.ret (.b (teq v[i] w[i]))) :=
    fun v w hn hv hw i h1 h2 => ih (nodes v[i]) (by have := nodesL_at v i h1; omega) v[i] rfl w[i] (.inr (hv _ (List.getElem_mem _))) (.inr (hw _ (List.getElem_mem _)))
  by_cases hk : a.kind = b.kind
  · rcases ha with rfl | ha <;> rcases hb with rfl | hb
    · rw [teq_t rfl]; exact rsame_nul
    · exact absurd hk.symm hb.kinds
    · exact absurd hk ha.kinds
    · have h40a := len40 ha
      have h40b := len40 hb
      cases ha with
      | null =>
        cases hb <;> first | (exfalso; simp [Tr.kind] at hk; done) | skip
        rw [teq_t rfl]; exact rsame_null
      | bool x =>
        cases hb <;> first | (exfalso; simp [Tr.kind] at hk; done) | skip
        rename_i y
        have := rsame_bool x y
        by_cases e : x = y
        · subst e; rw [teq_t rfl]; simpa using this
        · rw [teq_f (by simpa using e)]; rwa [beq_false_of_ne e] at this
      | num x hx =>
        cases hb <;> first | (exfalso; simp [Tr.kind] at hk; done) | skip
        rename_i y hy
        have := rsame_num x y hx hy
        rw [nok_eq hx hy] at this
        by_cases e : x = y
        · subst e; rw [teq_t rfl]; simpa using this
        · rw [teq_f (by simpa using e)]; rwa [decide_eq_false e] at this
      | text x hx =>
        cases hb <;> first | (exfalso; simp [Tr.kind] at hk; done) | skip
        rename_i y hy
        have := rsame_text x y
        by_cases e : x = y
        · subst e; rw [teq_t rfl]; rwa [bts_t rfl] at this
        · rw [teq_f (by simpa using e)]; rwa [bts_f e] at this
      | bytes x hx =>
        cases hb <;> first | (exfalso; simp [Tr.kind] at hk; done) | skip
        rename_i y hy
        have := rsame_bytes x y
        by_cases e : x = y
        · subst e; rw [teq_t rfl]; rwa [bts_t rfl] at this
        · rw [teq_f (by simpa using e)]; rwa [bts_f e] at this
      | arr v hl h =>
        cases hb <;> first | (exfalso; simp [Tr.kind] at hk; done) | skip
        rename_i w hl2 h2
        have := rsame_arr v w h40a.2 h40b.2 (sub v w (by rw [nodes_eq]; simp [Tr.v]) h h2)
        by_cases e : v = w
        · subst e; rw [teq_t rfl]; rwa [teqL_t rfl] at this
        · rw [teq_f (by simpa using e)]; rwa [teqL_f e] at this
      | obj k v hn hl h =>
        cases hb <;> first | (exfalso; simp [Tr.kind] at hk; done) | skip
        rename_i k2 w hl2 hn2 h2
        have := rsame_obj k k2 v w h40a.1 h40b.1 h40a.2 h40b.2 (sub v w (by rw [nodes_eq]; simp [Tr.v]) h (by assumption))
        by_cases e : k = k2
        · by_cases e2 : v = w
          · subst e e2; rw [teq_t rfl]; rw [teqL_t rfl] at this; simpa using this
          · rw [teq_f (by simp [e2])]; rw [teqL_f e2] at this; simpa using this
        · rw [teq_f (by simp [e])]; rw [decide_eq_false e] at this; simpa using this
  · have : teq a b = false := teq_f (fun h => hk (by rw [h]))
    rw [this]
    exact rsame_diff a b hk
end Go.Px
end

