/-
  The small functions of the stacks, walked: valid, New, Len, Same, Clone.
-/
import Derived.Test.YtcajkgingenegaaBase
import Derived.Test.YtcajkgingenegaaRows
import Derived.WalkKit
import Derived.Deep.QuietTactic
import Derived.BigQuiet
import Derived.WalkSpells
import Derived.Lib.Hide
namespace Go.Proofs.Ytcajkgingenegaa
open Go.RowKit

theorem Try.infoInt : (Try.prog.info? 2).map (fun i => (i.zero, i.size, i.bytes)) = some (some (.int .i64 0), 1, 8) := by kernel_rfl

/-- A stack in memory: of type T, in block b. -/
def Stk (w : World) (T : TypeId) (b : Nat) (most : Int) (v : Value) (xs : List Int) : Prop :=
  w.heap[b]? = some (.cells #[.bool true, .int .i64 most, v] T (0, 0)) ∧ Row w v xs ∧ ¬ rowOf v b

theorem Stk.c0 {w : World} {T b : Nat} {most : Int} {v : Value} {xs : List Int} (h : Stk w T b most v xs) : w.cell? ⟨b, 0, none⟩ = some (.bool true) := by
  rw [cell_of_row w b 0 _ T (0, 0) h.1]; rfl
theorem Stk.c1 {w : World} {T b : Nat} {most : Int} {v : Value} {xs : List Int} (h : Stk w T b most v xs) : w.cell? ⟨b, 1, none⟩ = some (.int .i64 most) := by
  rw [cell_of_row w b 1 _ T (0, 0) h.1]; rfl
theorem Stk.c2 {w : World} {T b : Nat} {most : Int} {v : Value} {xs : List Int} (h : Stk w T b most v xs) : w.cell? ⟨b, 2, none⟩ = some v := by
  rw [cell_of_row w b 2 _ T (0, 0) h.1]; rfl
theorem Stk.f2 {w : World} {T b : Nat} {most : Int} {v : Value} {xs : List Int} (h : Stk w T b most v xs) : w.frozen? ⟨b, 2, none⟩ = false := frozen_of_row w b 2 _ T h.1
theorem Stk.lt {w : World} {T b : Nat} {most : Int} {v : Value} {xs : List Int} (h : Stk w T b most v xs) : b < w.heap.size := lt_of_block h.1

theorem Row.slice {w : World} {v : Value} {xs : List Int} (h : Row w v xs) : ∃ ao c, v = .slice ao xs.length c ∧ xs.length ≤ c ∧ c ≤ maxLen := by
  obtain ⟨ao, c, rfl, h1, h2, _⟩ := h.sees
  exact ⟨ao, c, rfl, h1, h2⟩

theorem Row.shape {w : World} {v : Value} {xs : List Int} (h : Row w v xs) : ∃ ao n c, v = .slice ao n c := by
  obtain ⟨ao, c, rfl, _⟩ := h.slice
  exact ⟨_, _, _, rfl⟩

theorem valid_nil (w : World) : Calls Try.prog 24 #[.pointer none] w fun e w' => e = .returned (.bool false) ∧ w = w' := by
  go_enter Try.func24, Try.ntmps24
  go_wp2
  go_ret
  exact ⟨rfl, rfl⟩

theorem valid_at (b : Nat) (m : Bool) (w : World) (h0 : w.cell? ⟨b, 0, none⟩ = some (.bool m)) : Calls Try.prog 24 #[.pointer (some ⟨b, 0, none⟩)] w fun e w' => e = .returned (.bool m) ∧ w = w' := by
  go_enter Try.func24, Try.ntmps24
  go_wp2
  go_ret
  exact ⟨rfl, rfl⟩

theorem rvalid_nil (w : World) : Calls Try.prog 26 #[.pointer none] w fun e w' => e = .returned (.bool false) ∧ w = w' := by
  go_enter Try.func26, Try.ntmps26
  go_wp2
  go_ret
  exact ⟨rfl, rfl⟩

theorem rvalid_at (b : Nat) (m : Bool) (w : World) (h0 : w.cell? ⟨b, 0, none⟩ = some (.bool m)) : Calls Try.prog 26 #[.pointer (some ⟨b, 0, none⟩)] w fun e w' => e = .returned (.bool m) ∧ w = w' := by
  go_enter Try.func26, Try.ntmps26
  go_wp2
  go_ret
  exact ⟨rfl, rfl⟩

/-- A limit that there is. -/
def okMost (n : Int) : Prop := 0 ≤ n ∧ n ≤ 10000

theorem new_bad (n : Int) (w : World) (h : n < 0 ∨ 10000 < n) : Calls Try.prog 9 #[.int .i64 n] w fun e w' => e = .returned (.tuple #[.pointer none, .int .i64 2]) ∧ w = w' := by
  rcases h with h | h
  · go_enter Try.func9, Try.ntmps9
    go_wp2
    go_ret2
    exact ⟨rfl, rfl⟩
  · have h' : ¬ n < 0 := by omega
    go_enter Try.func9, Try.ntmps9
    go_wp2
    go_ret2
    exact ⟨rfl, rfl⟩

theorem rnew_bad (n : Int) (w : World) (h : n < 0 ∨ 10000 < n) : Calls Try.prog 15 #[.int .i64 n] w fun e w' => e = .returned (.tuple #[.pointer none, .int .i64 2]) ∧ w = w' := by
  rcases h with h | h
  · go_enter Try.func15, Try.ntmps15
    go_wp2
    go_ret2
    exact ⟨rfl, rfl⟩
  · have h' : ¬ n < 0 := by omega
    go_enter Try.func15, Try.ntmps15
    go_wp2
    go_ret2
    exact ⟨rfl, rfl⟩

theorem new_ok (n : Int) (w : World) (h0 : 0 ≤ n) (h1 : n ≤ 10000) : Calls Try.prog 9 #[.int .i64 n] w fun e w' =>
    e = .returned (.tuple #[.pointer (some ⟨w.heap.size, 0, none⟩), .int .i64 0]) ∧ w' = w.alloc (.cells #[.bool true, .int .i64 n, .slice none 0 0] 48) := by
  go_enter Try.func9, Try.ntmps9
  go_wp2
  go_ret2
  exact ⟨rfl, rfl⟩

theorem rnew_ok (n : Int) (w : World) (h0 : 0 ≤ n) (h1 : n ≤ 10000) : Calls Try.prog 15 #[.int .i64 n] w fun e w' =>
    e = .returned (.tuple #[.pointer (some ⟨w.heap.size, 0, none⟩), .int .i64 0]) ∧ w' = w.alloc (.cells #[.bool true, .int .i64 n, .slice none 0 0] 54) := by
  go_enter Try.func15, Try.ntmps15
  go_wp2
  go_ret2
  exact ⟨rfl, rfl⟩

end Go.Proofs.Ytcajkgingenegaa
