/-
  The reference's All and Take; Pop and Copy of both, walked.
-/
import Derived.Test.YtcajkgingenegaaWalkF
import Derived.Deep.RegionWith
namespace Go.Proofs.Ytcajkgingenegaa
open Go.RowKit

theorem rall_zero (b : Nat) (w : World) (h0 : w.cell? ⟨b, 0, none⟩ = some (.bool false)) : Calls Try.prog 23 #[.pointer (some ⟨b, 0, none⟩)] w fun e w' => e = .returned (.slice none 0 0) ∧ w = w' := by
  go_enter Try.func23, Try.ntmps23
  go_wp2_with (go_at_call 26; refine (rvalid_at b false _ h0).mono ?_; rintro e w' ⟨rfl, rfl⟩)
  go_ret
  exact ⟨rfl, rfl⟩

theorem rowOf_made (n c m : Nat) : ∀ k, rowOf (.slice (some ⟨m, 0, none⟩) n c) k → k = m := fun k h => by cases h; rfl

set_option maxHeartbeats 400000 in
theorem rall_at' (b : Nat) (w : World) (ao : Option Addr) (n c : Nat) (xs : List Int) (h0 : w.cell? ⟨b, 0, none⟩ = some (.bool true)) (h2 : w.cell? ⟨b, 2, none⟩ = some (.slice ao n c)) (hs : Sees w (.slice ao n c) xs) (hb : xs.length * 8 ≤ 140737488355328) (hlt : b < w.heap.size) :
    Calls Try.prog 23 #[.pointer (some ⟨b, 0, none⟩)] w (Cloned w xs) := by
  have Hs := Lib.hid hs; clear hs
  go_enter Try.func23, Try.ntmps23
  go_wp2_with (first | (go_at_call 26; refine (rvalid_at b true _ h0).mono ?_; rintro e w' ⟨rfl, rfl⟩) | (at_builtin; refine wpList_append_row _ rfl (.tmp 6) (.tmp 10) 22 rfl Try.underlying22 Try.infoInt (.slice (some ⟨w.heap.size, 0, none⟩) 0 0) (.slice ao n c) [] xs rfl rfl ?a0 ?a1 ?a2 ?a3))
  case a0 => exact Row.made w
  case a1 => exact Hs.out.below ((Below.refl _ _).alloc (Nat.le_refl _) _)
  case a2 => simpa using hb
  case a3 =>
    intro v' w' hr hu hk
    go_wp2
    go_ret
    have key := rowOf_made 0 0 w.heap.size
    refine ⟨_, rfl, by simpa using hr, fun k h => ?_, Upto.below (((Upto.refl _ w).alloc _).step hu fun i hi hS => ?_)⟩
    · rcases hk k h with h | h
      · exact Nat.le_of_eq (key k h).symm
      · exact Nat.le_trans (by simp) h
    · have := key i hS; omega
theorem rall_at {T b : Nat} {most : Int} {v : Value} {xs : List Int} {w : World} (h : Stk w T b most v xs) (hb : xs.length * 8 ≤ 140737488355328) :
    Calls Try.prog 23 #[.pointer (some ⟨b, 0, none⟩)] w (Cloned w xs) := by
  obtain ⟨ao, c, rfl, _⟩ := h.2.1.slice
  exact rall_at' b w ao xs.length c xs h.c0 h.c2 h.2.1.sees hb h.lt

end Go.Proofs.Ytcajkgingenegaa
