/-
  The closed examples, walked.
-/
import Derived.Test.YtcajkgingenegaaOwn
namespace Go.Proofs.Ytcajkgingenegaa
open Go.RowKit

set_option maxHeartbeats 2000000 in
theorem works_true (w : World) : Calls Try.prog 8 #[] w fun e w' => e = .returned (.bool true) ∧ Below w.heap.size w w' := by
  go_enter Try.func8, Try.ntmps8
  go_wp2_with (first
    | (go_at_call 9; refine (new_own _ _ (by decide)).mono ?_; rintro e w1 ⟨b, rfl, hs⟩; have S1 := Lib.hid hs; clear hs)
    | (go_at_call 17; refine (Own.popNone (Hid.out (by assumption)) (by decide)).mono ?_; rintro e w1 ⟨rfl, hs⟩; have S1 := Lib.hid hs; clear hs)
    | (go_at_call 10; refine (push_own _ (Hid.out (by assumption)) (by decide)).mono ?_; rintro e w1 ⟨rfl, hs⟩; simp only [List.nil_append, List.cons_append] at hs; have S1 := Lib.hid hs; clear hs)
    | (go_at_call 10; refine (push_many _ (Hid.out (by assumption)) (by decide)).mono ?_; rintro e w1 ⟨rfl, hs⟩; have S1 := Lib.hid hs; clear hs)
    | (go_at_call 14; refine (Own.len 3 (Hid.out (by assumption)) (by decide)).mono ?_; rintro e w1 ⟨rfl, rfl⟩)
    | (go_at_call 11; refine (all_own (Hid.out (by assumption))).mono ?_; rintro e w1 ⟨u, rfl, hs, _⟩; have A1 := Lib.hid hs; clear hs)
    | (go_at_call 13; have hg : ∃ wg, Hid (Apart w wg b 3 [] l [-1, 5]) := ⟨_, by assumption⟩; refine (same_lit (t := 2) [-1, 5] (Hid.out (by assumption)) rfl (by simp [maxLen])).mono ?_; rintro e w1 ⟨rfl, hs⟩; have A1 := Lib.hid hs; clear hs)
    | (go_at_call 13; refine (same_lit (t := 2) [7, -1, 5] (Hid.out (by assumption)) rfl (by simp [maxLen])).mono ?_; rintro e w1 ⟨rfl, hs⟩; have A1 := Lib.hid hs; clear hs)
    | (go_at_call 12; refine (Own.take [7] [-1, 5] (Apart.own (Hid.out (by assumption))) (by decide) (by decide)).mono ?_; rintro e w1 ⟨l, rfl, hs⟩; have A1 := Lib.hid hs; clear hs)
    | (go_at_call 12; refine (take_none_own (Apart.own (Hid.out (by assumption))) (by decide)).mono ?_; rintro e w1 ⟨rfl, rfl⟩)
    | (go_at_call 12; refine (take_neg_own (Apart.own (Hid.out (by assumption))) (by decide)).mono ?_; rintro e w1 ⟨rfl, rfl⟩)
    | (go_at_call 17; refine (Apart.pop [] 7 (Hid.out (by assumption)) (by decide)).mono ?_; rintro e w1 ⟨rfl, hs⟩; have A1 := Lib.hid hs; clear hs)
    | (go_at_call 9; refine (new_many _ _ (Or.inr (by decide))).mono ?_; rintro e w1 ⟨rfl, rfl⟩)
    | (go_at_call 14; refine (Apart.len 0 (Hid.out (by assumption)) (by decide)).mono ?_; rintro e w1 ⟨rfl, rfl⟩))
  go_ret
  exact ⟨rfl, (Hid.out A1).own.base⟩

end Go.Proofs.Ytcajkgingenegaa
