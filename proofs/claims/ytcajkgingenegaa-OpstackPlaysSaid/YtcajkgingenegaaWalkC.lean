/-
  Clone, All, Take, Push, walked.
-/
import Derived.Test.YtcajkgingenegaaWalkB
import Derived.Test.YtcajkgingenegaaApp
namespace Go.Proofs.Ytcajkgingenegaa
open Go.RowKit

/-- A new row that bears these numbers was made, and is returned. -/
def Fresh (w : World) (xs : List Int) (u : Value) (w' : World) : Prop := Row w' u xs ∧ (∀ k, rowOf u k → w.heap.size ≤ k) ∧ Below w.heap.size w w'
def Cloned (w : World) (xs : List Int) (e : Ending) (w' : World) : Prop := ∃ u, e = .returned u ∧ Fresh w xs u w'

set_option maxHeartbeats 400000 in
theorem clone_none (w : World) (c : Nat) : Calls Try.prog 25 #[.slice none 0 c] w (Cloned w []) := by
  have heq := fun (w : World) => Lib.run_eql_slice_nil (P := Try.prog) w 22 2 none 0 c 0 0 Try.underlying22
  go_enter Try.func25, Try.ntmps25
  go_wp2
  go_ret
  exact ⟨_, rfl, World.ownsRow_nil w 0 _ 1, fun k h => (by cases h), Below.refl _ _⟩

set_option maxHeartbeats 400000 in
theorem clone_some (w : World) (a : Addr) (n c : Nat) (xs : List Int) (hs : Sees w (.slice (some a) n c) xs) (hb : xs.length * 8 ≤ 140737488355328) : Calls Try.prog 25 #[.slice (some a) n c] w (Cloned w xs) := by
  have heq := fun (w : World) => Lib.run_eql_slice_nil (P := Try.prog) w 22 2 (some a) n c 0 0 Try.underlying22
  have Hs := Lib.hid hs; clear hs
  go_enter Try.func25, Try.ntmps25
  go_wp2_with (at_builtin; refine wpList_append_row _ rfl (.tmp 5) (.tmp 6) 22 rfl Try.underlying22 Try.infoInt _ _ [] xs rfl rfl (Row.made w) ?c1 ?c2 ?c3)
  case c1 => exact Hs.out.below ((Below.refl _ _).alloc (Nat.le_refl _) _)
  case c2 => simpa using hb
  case c3 =>
    intro v' w' hr hu hk
    go_wp2
    go_ret
    have key : ∀ k, rowOf (.slice (some ⟨w.heap.size, 0, none⟩) 0 0) k → k = w.heap.size := fun k h => by cases h; rfl
    refine ⟨_, rfl, by simpa using hr, fun k h => ?_, Upto.below (((Upto.refl _ w).alloc _).step hu fun i hi hS => ?_)⟩
    · rcases hk k h with h | h
      · exact Nat.le_of_eq (key k h).symm
      · exact Nat.le_trans (by simp) h
    · have := key i hS; omega

theorem clone_at {w : World} {v : Value} {xs : List Int} (h : Sees w v xs) (hb : xs.length * 8 ≤ 140737488355328) : Calls Try.prog 25 #[v] w (Cloned w xs) := by
  obtain ⟨ao, c, rfl, h1, h2, h3, h4⟩ := id h
  cases ao with
  | none =>
    have h0 := h3 rfl
    subst h0
    obtain rfl : xs = [] := List.eq_nil_of_length_eq_zero (by omega)
    exact clone_none w 0
  | some a => exact clone_some w a _ _ xs h hb

end Go.Proofs.Ytcajkgingenegaa
