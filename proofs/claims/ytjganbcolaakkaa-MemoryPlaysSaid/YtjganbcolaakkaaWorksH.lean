/-
  The closed examples of the heaps, walked.
-/
import Derived.Test.YtjganbcolaakkaaHeapE
namespace Go.Proofs.Ytjganbcolaakkaa
open Go.RowKit

def st17 : Nat → List (List Int)
  | 0 => [[]]
  | 1 => [[], [0, 0, 0]]
  | 2 => [[], [0, 0, 0]]
  | 3 => [[], [0, 0, 0]]
  | 4 => [[], [0, 0, 0], [0, 0]]
  | 5 => [[], [0, 0, 0], [0, 0], []]
  | _ => [[], [0, 0, 0], [0, 0], []]

/-- A literal's slice against a row. -/
theorem eq_row {w0 w : World} {u : Value} {ys : List Int} {t : TypeId} {l2 : List Thing} (l1 : List Thing) [Goods l1] [Goods l2] (ls : List Int) (h : St w0 w (l1 ++ RowT u ys :: l2)) (he : ys = ls) (hl : ls.length ≤ maxLen) :
    Calls Try.prog 31 #[u, .slice (some ⟨w.heap.size, 0, none⟩) ls.length ls.length] (w.alloc (.cells (ls.map (Value.int .i64)).toArray t)) fun e w' => e = .returned (.bool true) ∧ St w0 w' (l1 ++ RowT u ys :: l2) :=
  (eq_lit ls (h.row l1) he hl).mono fun _ _ ⟨h1, h2⟩ => ⟨h1, h.step h2⟩

set_option maxRecDepth 10000 in
set_option maxHeartbeats 4000000 in
theorem works17 (w : World) : Calls Try.prog 30 #[] w fun e w' => e = .returned (.bool true) ∧ Below w.heap.size w w' := by
  go_enter Try.func30, Try.ntmps30
  go_wp2_with (go_at_call 26; refine (SH.new 5 _ (St.nil w) rfl (by decide)).mono ?_; rintro e w1 ⟨b, rfl, hs⟩; have S1 := Lib.hid hs; clear hs)
  have hG := Lib.hid (S1.out.alloc (Obj.cells #[.int .i64 3, .int .i64 1, .int .i64 0, .int .i64 3, .int .i64 0, .int .i64 5, .int .i64 (-1), .int .i64 0, .int .i64 5, .int .i64 2, .int .i64 2, .int .i64 0, .int .i64 0, .int .i64 3, .int .i64 0, .int .i64 1, .int .i64 0, .int .i64 5] 97))
  generalize (w1.alloc (Obj.cells #[.int .i64 3, .int .i64 1, .int .i64 0, .int .i64 3, .int .i64 0, .int .i64 5, .int .i64 (-1), .int .i64 0, .int .i64 5, .int .i64 2, .int .i64 2, .int .i64 0, .int .i64 0, .int .i64 3, .int .i64 0, .int .i64 1, .int .i64 0, .int .i64 5] 97)) = wt at *
  generalize w1.heap.size = B at *
  go_loopw [43] (fun i wr => ∃ j : Nat, j ≤ 6 ∧ i = .int .i64 j ∧ Hid (St w wr [Blk B (Obj.cells #[.int .i64 3, .int .i64 1, .int .i64 0, .int .i64 3, .int .i64 0, .int .i64 5, .int .i64 (-1), .int .i64 0, .int .i64 5, .int .i64 2, .int .i64 2, .int .i64 0, .int .i64 0, .int .i64 3, .int .i64 0, .int .i64 1, .int .i64 0, .int .i64 5] 97), HT b 5 (st17 j)])) (fun i _ => 6 - (intOf i).toNat)
  case atStart => exact ⟨0, by decide, rfl, hG⟩
  case round =>
    obtain ⟨j, hj, rfl, hM⟩ := hrel
    obtain rfl | rfl | rfl | rfl | rfl | rfl | rfl : j = 0 ∨ j = 1 ∨ j = 2 ∨ j = 3 ∨ j = 4 ∨ j = 5 ∨ j = 6 := by omega
    ·
      have t0 := hM.out.cell [] 0 (.int .i64 3) rfl
      have t1 := hM.out.cell [] 1 (.int .i64 1) rfl
      have t2 := hM.out.cell [] 2 (.int .i64 0) rfl
      go_wp2_with ((go_at_call 27; refine (SH.alloc [_, _] 3 3 1 (hM.out.alloc _) rfl (by decide) (by decide) rfl).mono ?_; rintro e w3 ⟨rfl, hs⟩; have a1 := hs.cell [] 1 (.int .i64 1) rfl; have a2 := hs.cell [] 2 (.int .i64 0) rfl; have M3 := Lib.hid (show St w w3 [_, HT b 5 (st17 1)] from hs.tail); clear hs))
      go_roundw
      case rel => exact ⟨1, by decide, rfl, M3⟩
      case measure => simp [intOf]
    ·
      have t0 := hM.out.cell [] 3 (.int .i64 3) rfl
      have t1 := hM.out.cell [] 4 (.int .i64 0) rfl
      have t2 := hM.out.cell [] 5 (.int .i64 5) rfl
      go_wp2_with ((go_at_call 27; refine (SH.allocTrap [_, _] 3 (hM.out.alloc _) (by decide)).mono ?_; rintro e w3 ⟨rfl, hs⟩; have a1 := hs.cell [] 1 (.int .i64 0) rfl; have a2 := hs.cell [] 2 (.int .i64 5) rfl; have M3 := Lib.hid (show St w w3 [_, HT b 5 (st17 2)] from hs.tail); clear hs))
      go_roundw
      case rel => exact ⟨2, by decide, rfl, M3⟩
      case measure => simp [intOf]
    ·
      have t0 := hM.out.cell [] 6 (.int .i64 (-1)) rfl
      have t1 := hM.out.cell [] 7 (.int .i64 0) rfl
      have t2 := hM.out.cell [] 8 (.int .i64 5) rfl
      go_wp2_with ((go_at_call 27; refine (SH.allocTrap [_, _] (-1) (hM.out.alloc _) (by decide)).mono ?_; rintro e w3 ⟨rfl, hs⟩; have a1 := hs.cell [] 1 (.int .i64 0) rfl; have a2 := hs.cell [] 2 (.int .i64 5) rfl; have M3 := Lib.hid (show St w w3 [_, HT b 5 (st17 3)] from hs.tail); clear hs))
      go_roundw
      case rel => exact ⟨3, by decide, rfl, M3⟩
      case measure => simp [intOf]
    ·
      have t0 := hM.out.cell [] 9 (.int .i64 2) rfl
      have t1 := hM.out.cell [] 10 (.int .i64 2) rfl
      have t2 := hM.out.cell [] 11 (.int .i64 0) rfl
      go_wp2_with ((go_at_call 27; refine (SH.alloc [_, _] 2 2 2 (hM.out.alloc _) rfl (by decide) (by decide) rfl).mono ?_; rintro e w3 ⟨rfl, hs⟩; have a1 := hs.cell [] 1 (.int .i64 2) rfl; have a2 := hs.cell [] 2 (.int .i64 0) rfl; have M3 := Lib.hid (show St w w3 [_, HT b 5 (st17 4)] from hs.tail); clear hs))
      go_roundw
      case rel => exact ⟨4, by decide, rfl, M3⟩
      case measure => simp [intOf]
    ·
      have t0 := hM.out.cell [] 12 (.int .i64 0) rfl
      have t1 := hM.out.cell [] 13 (.int .i64 3) rfl
      have t2 := hM.out.cell [] 14 (.int .i64 0) rfl
      go_wp2_with ((go_at_call 27; refine (SH.alloc [_, _] 0 0 3 (hM.out.alloc _) rfl (by decide) (by decide) rfl).mono ?_; rintro e w3 ⟨rfl, hs⟩; have a1 := hs.cell [] 1 (.int .i64 3) rfl; have a2 := hs.cell [] 2 (.int .i64 0) rfl; have M3 := Lib.hid (show St w w3 [_, HT b 5 (st17 5)] from hs.tail); clear hs))
      go_roundw
      case rel => exact ⟨5, by decide, rfl, M3⟩
      case measure => simp [intOf]
    ·
      have t0 := hM.out.cell [] 15 (.int .i64 1) rfl
      have t1 := hM.out.cell [] 16 (.int .i64 0) rfl
      have t2 := hM.out.cell [] 17 (.int .i64 5) rfl
      go_wp2_with ((go_at_call 27; refine (SH.allocTrap [_, _] 1 (hM.out.alloc _) (by decide)).mono ?_; rintro e w3 ⟨rfl, hs⟩; have a1 := hs.cell [] 1 (.int .i64 0) rfl; have a2 := hs.cell [] 2 (.int .i64 5) rfl; have M3 := Lib.hid (show St w w3 [_, HT b 5 (st17 6)] from hs.tail); clear hs))
      go_roundw
      case rel => exact ⟨6, by decide, rfl, M3⟩
      case measure => simp [intOf]
    ·
      go_wp2_with (first
        | (go_at_call 31; refine (eq_row [] [0, 0, 7] M7.out rfl (by simp [maxLen])).mono ?_; rintro e w9 ⟨rfl, hs⟩; have M8 := Lib.hid hs; clear hs)
        | (go_at_call 28; refine (SH.used [_, _] 5 M8.out rfl).mono ?_; rintro e w9 ⟨rfl, rfl⟩)
        | (go_at_call 29; refine (SH.count [_, _] 3 M8.out rfl).mono ?_; rintro e w9 ⟨rfl, rfl⟩)
        | (go_at_call 34; refine (SH.len [_, _] 0 _ 0 M6.out rfl (by decide) rfl).mono ?_; rintro e w8 ⟨rfl, hs⟩; have M7 := Lib.hid hs; clear hs)
        | (go_at_call 33; refine (SH.array [_] 1 _ [0, 0, 7] M5.out rfl (by decide) rfl).mono ?_; rintro e w7 ⟨u, rfl, hs⟩; have M6 := Lib.hid hs; clear hs)
        | (go_at_call 35; refine (SH.getTrap [_] 0 _ _ M4.out rfl (by decide) (Or.inr (by decide))).mono ?_; rintro e w7 ⟨rfl, hs⟩; have M5 := Lib.hid hs; clear hs)
        | (go_at_call 35; refine (SH.getOut [_] _ _ M3.out (Or.inr (by decide))).mono ?_; rintro e w6 ⟨rfl, hs⟩; have M4 := Lib.hid hs; clear hs)
        | (go_at_call 35; refine (SH.getTrap [_] 1 _ _ M2.out rfl (by decide) (Or.inr (by decide))).mono ?_; rintro e w6 ⟨rfl, hs⟩; have M3 := Lib.hid hs; clear hs)
        | (go_at_call 35; refine (SH.get [_] 1 2 _ _ 7 M1.out rfl rfl (by decide) (by decide) rfl).mono ?_; rintro e w6 ⟨rfl, hs⟩; have M2 := Lib.hid hs; clear hs)
        | (go_at_call 32; refine (SH.set [_] 1 2 _ _ 7 [[], [0, 0, 7], [0, 0], []] hM.out rfl rfl (by decide) (by decide) rfl).mono ?_; rintro e w5 ⟨rfl, hs⟩; have M1 := Lib.hid hs; clear hs))
      go_ret
      exact ⟨rfl, M8.out.base⟩

end Go.Proofs.Ytjganbcolaakkaa
