/-
  Stacks that are nil, or not made: Pop and Copy at them; the law of the nil stacks, walked.
-/
import Derived.Test.YtcajkgingenegaaWorks
import Derived.ProofKit
namespace Go.Proofs.Ytcajkgingenegaa
open Go.RowKit

theorem pop_zero (b : Nat) (w : World) (h0 : w.cell? ⟨b, 0, none⟩ = some (.bool false)) : Calls Try.prog 17 #[.pointer (some ⟨b, 0, none⟩)] w fun e w' => e = .returned (.tuple #[.int .i64 0, .int .i64 1]) ∧ w = w' := by
  go_enter Try.func17, Try.ntmps17
  go_wp2_with (go_at_call 12; refine (take_zero b 1 _ h0).mono ?_; rintro e w' ⟨rfl, rfl⟩)
  go_ret2
  exact ⟨rfl, rfl⟩
theorem copy_zero (b : Nat) (w : World) (h0 : w.cell? ⟨b, 0, none⟩ = some (.bool false)) : Calls Try.prog 20 #[.pointer (some ⟨b, 0, none⟩)] w fun e w' => e = .returned (.pointer none) ∧ w = w' := by
  go_enter Try.func20, Try.ntmps20
  go_wp2_with (go_at_call 24; refine (valid_at b false _ h0).mono ?_; rintro e w' ⟨rfl, rfl⟩)
  go_ret
  exact ⟨rfl, rfl⟩

set_option maxRecDepth 10000 in
set_option maxHeartbeats 1000000 in
theorem nil_true (n k : Int) (w : World) : Calls Try.prog 6 #[.int .i64 n, .int .i64 k] w fun e w' => e = .returned (.bool true) ∧ Below w.heap.size w w' := by
  go_enter Try.func6, Try.ntmps6
  go_wp2
  generalize hW : ((w.alloc (Obj.cells #[Value.bool false, Value.int IntKind.i64 0, Value.slice none 0 0] 48)).alloc (Obj.cells #[Value.pointer none, Value.pointer (some ⟨w.heap.size, 0, none⟩)] 25)) = wl
  have hz : wl.cell? ⟨w.heap.size, 0, none⟩ = some (.bool false) := by rw [← hW]; simp
  have hc0 : wl.cell? ⟨w.heap.size + 1, 0, none⟩ = some (.pointer none) := by rw [← hW]; simp
  have hc1 : wl.cell? ⟨w.heap.size + 1, 1, none⟩ = some (.pointer (some ⟨w.heap.size, 0, none⟩)) := by rw [← hW]; simp
  have hu : Upto (fun _ => False) w wl := by rw [← hW]; exact ((Upto.refl _ w).alloc _).alloc _
  have Hu := Lib.hid hu; clear hu hW
  go_loop [7] (fun i => ∃ k : Nat, k ≤ 2 ∧ i = .int .i64 k) (fun i => 2 - (intOf i).toNat)
  case atStart => exact ⟨0, by decide, rfl⟩
  case round =>
    obtain ⟨j, hj, rfl⟩ := hrel
    obtain rfl | rfl | rfl : j = 0 ∨ j = 1 ∨ j = 2 := by omega
    · go_wp2_with (first
        | (go_at_call 17; refine (pop_nil _).mono ?_; rintro e w' ⟨rfl, rfl⟩)
        | (go_at_call 12; refine (take_nil _ _).mono ?_; rintro e w' ⟨rfl, rfl⟩)
        | (go_at_call 10; refine (push_nil _ _).mono ?_; rintro e w' ⟨rfl, rfl⟩)
        | (go_at_call 14; refine (len_nil _).mono ?_; rintro e w' ⟨rfl, rfl⟩)
        | (go_at_call 11; refine (all_nil _).mono ?_; rintro e w' ⟨rfl, rfl⟩)
        | (go_at_call 20; refine (copy_nil _).mono ?_; rintro e w' ⟨rfl, rfl⟩))
      go_round
      case rel => exact ⟨1, by decide, rfl⟩
      case measure => simp [intOf]
    · go_wp2_with (first
        | (go_at_call 17; refine (pop_zero _ _ hz).mono ?_; rintro e w' ⟨rfl, rfl⟩)
        | (go_at_call 12; refine (take_zero _ _ _ hz).mono ?_; rintro e w' ⟨rfl, rfl⟩)
        | (go_at_call 10; refine (push_zero _ _ _ hz).mono ?_; rintro e w' ⟨rfl, rfl⟩)
        | (go_at_call 14; refine (len_zero _ _ hz).mono ?_; rintro e w' ⟨rfl, rfl⟩)
        | (go_at_call 11; refine (all_zero _ _ hz).mono ?_; rintro e w' ⟨rfl, rfl⟩)
        | (go_at_call 20; refine (copy_zero _ _ hz).mono ?_; rintro e w' ⟨rfl, rfl⟩))
      go_round
      case rel => exact ⟨2, by decide, rfl⟩
      case measure => simp [intOf]
    · go_wp2_with (go_at_call 8; refine (works_true _).mono ?_; rintro e w' ⟨rfl, hb⟩)
      go_ret
      exact ⟨rfl, (Hu.out.trans (Upto.of_below hb _)).below⟩

end Go.Proofs.Ytcajkgingenegaa
