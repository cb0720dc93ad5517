/-
  The document's heaps that are nil.
-/
import Derived.Test.YtjganbcolaakkaaRefF
namespace Go.Proofs.Ytjganbcolaakkaa
open Go.RowKit

theorem rn_alloc (n : Int) (w : World) : Calls Try.prog 48 #[.pointer none, .int .i64 n] w fun e w' => e = .returned (.tuple #[.int .i64 0, .int .i64 0, .int .i64 1]) ∧ w = w' := by
  go_enter Try.func48, Try.ntmps48
  go_wp2_with (go_at_call 71; refine (rvalid_nil _).mono ?_; rintro e w' ⟨rfl, rfl⟩)
  go_ret3
  exact ⟨rfl, rfl⟩
theorem rn_count (w : World) : Calls Try.prog 73 #[.pointer none] w fun e w' => e = .returned (.int .i64 0) ∧ w = w' := by
  go_enter Try.func73, Try.ntmps73
  go_wp2_with (go_at_call 71; refine (rvalid_nil _).mono ?_; rintro e w' ⟨rfl, rfl⟩)
  go_ret
  exact ⟨rfl, rfl⟩
theorem rn_limit (w : World) : Calls Try.prog 74 #[.pointer none] w fun e w' => e = .returned (.int .i64 0) ∧ w = w' := by
  go_enter Try.func74, Try.ntmps74
  go_wp2_with (go_at_call 71; refine (rvalid_nil _).mono ?_; rintro e w' ⟨rfl, rfl⟩)
  go_ret
  exact ⟨rfl, rfl⟩
theorem rn_used (w : World) : Calls Try.prog 72 #[.pointer none] w fun e w' => e = .returned (.int .i64 0) ∧ w = w' := by
  go_enter Try.func72, Try.ntmps72
  go_wp2_with (go_at_call 71; refine (rvalid_nil _).mono ?_; rintro e w' ⟨rfl, rfl⟩)
  go_ret
  exact ⟨rfl, rfl⟩
theorem rn_copy (w : World) : Calls Try.prog 52 #[.pointer none] w fun e w' => e = .returned (.pointer none) ∧ w = w' := by
  go_enter Try.func52, Try.ntmps52
  go_wp2_with (go_at_call 71; refine (rvalid_nil _).mono ?_; rintro e w' ⟨rfl, rfl⟩)
  go_ret
  exact ⟨rfl, rfl⟩
theorem rn_arr (i : Int) (w : World) : RArr (.pointer none) i w [] 1 := by
  show Calls Try.prog 51 _ _ _
  go_enter Try.func51, Try.ntmps51
  go_wp2_with (go_at_call 71; refine (rvalid_nil _).mono ?_; rintro e w' ⟨rfl, rfl⟩)
  go_ret2
  exact ⟨_, rfl, rowNone w, fun k h => (rowOf_none h).elim, Below.refl _ _⟩
theorem rn_len (i : Int) (w : World) : Calls Try.prog 75 #[.pointer none, .int .i64 i] w fun e w' => e = .returned (.tuple #[.int .i64 0, .int .i64 1]) ∧ Upto (fun _ => False) w w' := rlen_of _ i 1 [] w (rn_arr i w)
theorem rn_get (i k : Int) (w : World) : Calls Try.prog 49 #[.pointer none, .int .i64 i, .int .i64 k] w fun e w' => e = .returned (.tuple #[.int .i64 0, .int .i64 0, .int .i64 1]) ∧ Upto (fun _ => False) w w' := rget_bad _ i k 1 [] w (rn_arr i w) (by decide)
theorem rn_set (i k z : Int) (w : World) : Calls Try.prog 50 #[.pointer none, .int .i64 i, .int .i64 k, .int .i64 z] w fun e w' => e = .returned (.tuple #[.int .i64 0, .int .i64 1]) ∧ Upto (fun _ => False) w w' := rset_skip _ i k z 0 0 1 w (rn_get i k w) (by decide)

end Go.Proofs.Ytjganbcolaakkaa
