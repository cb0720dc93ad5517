/-
  The closed examples of the memories, walked.
-/
import Derived.Test.YtjganbcolaakkaaMOwn
namespace Go.Proofs.Ytjganbcolaakkaa
open Go.RowKit

def st29 : Nat → List Int × List (Nat × Nat)
  | 0 => ([], [(0, 0)])
  | 1 => ([0, 0, 0], [(0, 0), (0, 3)])
  | 2 => ([0, 0, 0], [(0, 0), (0, 3), (3, 0)])
  | 3 => ([0, 0, 0, 0, 0], [(0, 0), (0, 3), (3, 0), (3, 2)])
  | _ => ([0, 0, 0, 0, 0], [(0, 0), (0, 3), (3, 0), (3, 2)])

set_option maxRecDepth 10000 in
set_option maxHeartbeats 4000000 in
theorem works29 (w : World) : Calls Try.prog 20 #[] w fun e w' => e = .returned (.bool true) ∧ Below w.heap.size w w' := by
  go_enter Try.func20, Try.ntmps20
  go_wp2_with (go_at_call 15; refine (mnew_own 5 _ _ rfl (by decide)).mono ?_; rintro e w1 ⟨b, rfl, hs⟩; have S1 := Lib.hid hs; clear hs)
  have hG := Lib.hid ((S1.out.guard (Obj.cells #[.int .i64 3, .int .i64 1, .int .i64 0, .int .i64 0, .int .i64 2, .int .i64 0, .int .i64 2, .int .i64 3, .int .i64 0, .int .i64 1, .int .i64 0, .int .i64 5] 93)).mono (K' := fun k => k = w1.heap.size) (fun _ h => Or.inr h))
  have Htab : Hid (∀ (i : Nat) (z : Int), ([3, 1, 0, 0, 2, 0, 2, 3, 0, 1, 0, 5] : List Int)[i]? = some z → (w1.alloc (Obj.cells #[.int .i64 3, .int .i64 1, .int .i64 0, .int .i64 0, .int .i64 2, .int .i64 0, .int .i64 2, .int .i64 3, .int .i64 0, .int .i64 1, .int .i64 0, .int .i64 5] 93)).cell? ⟨w1.heap.size, i, none⟩ = some (.int .i64 z)) := Lib.hid fun i z hz => by
    rw [cell_of_row _ w1.heap.size _ _ _ (0, 0) (heap_alloc_new w1 _)]
    have : i < 12 := (List.getElem?_eq_some_iff.1 hz).1
    obtain rfl | rfl | rfl | rfl | rfl | rfl | rfl | rfl | rfl | rfl | rfl | rfl : i = 0 ∨ i = 1 ∨ i = 2 ∨ i = 3 ∨ i = 4 ∨ i = 5 ∨ i = 6 ∨ i = 7 ∨ i = 8 ∨ i = 9 ∨ i = 10 ∨ i = 11 := by omega
    all_goals (cases hz; rfl)
  have HB : Hid (w1.heap.size < (w1.alloc (Obj.cells #[.int .i64 3, .int .i64 1, .int .i64 0, .int .i64 0, .int .i64 2, .int .i64 0, .int .i64 2, .int .i64 3, .int .i64 0, .int .i64 1, .int .i64 0, .int .i64 5] 93)).heap.size) := Lib.hid (by simp)
  generalize (w1.alloc (Obj.cells #[.int .i64 3, .int .i64 1, .int .i64 0, .int .i64 0, .int .i64 2, .int .i64 0, .int .i64 2, .int .i64 3, .int .i64 0, .int .i64 1, .int .i64 0, .int .i64 5] 93)) = wt at *
  generalize w1.heap.size = B at *
  go_loopw [45] (fun i wr => ∃ j : Nat, j ≤ 4 ∧ i = .int .i64 j ∧ Hid (MOwn w wr b 5 (st29 j).1 (st29 j).2 (fun k => k = B)) ∧ Hid (Upto (MOurs w (fun k => k = B)) wt wr)) (fun i _ => 4 - (intOf i).toNat)
  case atStart => exact ⟨0, by decide, rfl, hG, Lib.hid (Upto.refl _ _)⟩
  case round =>
    obtain ⟨j, hj, rfl, hM, hU⟩ := hrel
    obtain rfl | rfl | rfl | rfl | rfl : j = 0 ∨ j = 1 ∨ j = 2 ∨ j = 3 ∨ j = 4 := by omega
    ·
      have t0 := (hU.out.cell (p := ⟨B, 0, none⟩) HB.out (fun h => h.2 rfl)).trans (Htab.out 0 3 rfl)
      have t1 := (hU.out.cell (p := ⟨B, 1, none⟩) HB.out (fun h => h.2 rfl)).trans (Htab.out 1 1 rfl)
      have t2 := (hU.out.cell (p := ⟨B, 2, none⟩) HB.out (fun h => h.2 rfl)).trans (Htab.out 2 0 rfl)
      go_wp2_with ((go_at_call 16; refine (MOwn.alloc 3 3 1 (hM.out.guard _) rfl (by decide) (by decide) rfl).mono ?_; rintro e w3 ⟨rfl, hs, hu⟩; have a1 := (hu.cell (p := ⟨wr.heap.size, 1, none⟩) (by simp) (fun h => h.2 (Or.inr rfl))).trans (show _ = some (Value.int .i64 1) by simp); have a2 := (hu.cell (p := ⟨wr.heap.size, 2, none⟩) (by simp) (fun h => h.2 (Or.inr rfl))).trans (show _ = some (Value.int .i64 0) by simp); have M3 := Lib.hid (show MOwn w w3 b 5 (st29 1).1 (st29 1).2 (fun k => k = B) from hs.mono (fun _ h => Or.inl h)); have U3 := Lib.hid ((hU.out.alloc _).trans (hu.mono (fun _ _ h => ⟨h.1, fun hk => h.2 (Or.inl hk)⟩))); clear hs hu))
      go_roundw
      case rel => exact ⟨1, by decide, rfl, M3, U3⟩
      case measure => simp [intOf]
    ·
      have t0 := (hU.out.cell (p := ⟨B, 3, none⟩) HB.out (fun h => h.2 rfl)).trans (Htab.out 3 0 rfl)
      have t1 := (hU.out.cell (p := ⟨B, 4, none⟩) HB.out (fun h => h.2 rfl)).trans (Htab.out 4 2 rfl)
      have t2 := (hU.out.cell (p := ⟨B, 5, none⟩) HB.out (fun h => h.2 rfl)).trans (Htab.out 5 0 rfl)
      go_wp2_with ((go_at_call 16; refine (MOwn.alloc 0 0 2 (hM.out.guard _) rfl (by decide) (by decide) rfl).mono ?_; rintro e w3 ⟨rfl, hs, hu⟩; have a1 := (hu.cell (p := ⟨wr.heap.size, 1, none⟩) (by simp) (fun h => h.2 (Or.inr rfl))).trans (show _ = some (Value.int .i64 2) by simp); have a2 := (hu.cell (p := ⟨wr.heap.size, 2, none⟩) (by simp) (fun h => h.2 (Or.inr rfl))).trans (show _ = some (Value.int .i64 0) by simp); have M3 := Lib.hid (show MOwn w w3 b 5 (st29 2).1 (st29 2).2 (fun k => k = B) from hs.mono (fun _ h => Or.inl h)); have U3 := Lib.hid ((hU.out.alloc _).trans (hu.mono (fun _ _ h => ⟨h.1, fun hk => h.2 (Or.inl hk)⟩))); clear hs hu))
      go_roundw
      case rel => exact ⟨2, by decide, rfl, M3, U3⟩
      case measure => simp [intOf]
    ·
      have t0 := (hU.out.cell (p := ⟨B, 6, none⟩) HB.out (fun h => h.2 rfl)).trans (Htab.out 6 2 rfl)
      have t1 := (hU.out.cell (p := ⟨B, 7, none⟩) HB.out (fun h => h.2 rfl)).trans (Htab.out 7 3 rfl)
      have t2 := (hU.out.cell (p := ⟨B, 8, none⟩) HB.out (fun h => h.2 rfl)).trans (Htab.out 8 0 rfl)
      go_wp2_with ((go_at_call 16; refine (MOwn.alloc 2 2 3 (hM.out.guard _) rfl (by decide) (by decide) rfl).mono ?_; rintro e w3 ⟨rfl, hs, hu⟩; have a1 := (hu.cell (p := ⟨wr.heap.size, 1, none⟩) (by simp) (fun h => h.2 (Or.inr rfl))).trans (show _ = some (Value.int .i64 3) by simp); have a2 := (hu.cell (p := ⟨wr.heap.size, 2, none⟩) (by simp) (fun h => h.2 (Or.inr rfl))).trans (show _ = some (Value.int .i64 0) by simp); have M3 := Lib.hid (show MOwn w w3 b 5 (st29 3).1 (st29 3).2 (fun k => k = B) from hs.mono (fun _ h => Or.inl h)); have U3 := Lib.hid ((hU.out.alloc _).trans (hu.mono (fun _ _ h => ⟨h.1, fun hk => h.2 (Or.inl hk)⟩))); clear hs hu))
      go_roundw
      case rel => exact ⟨3, by decide, rfl, M3, U3⟩
      case measure => simp [intOf]
    ·
      have t0 := (hU.out.cell (p := ⟨B, 9, none⟩) HB.out (fun h => h.2 rfl)).trans (Htab.out 9 1 rfl)
      have t1 := (hU.out.cell (p := ⟨B, 10, none⟩) HB.out (fun h => h.2 rfl)).trans (Htab.out 10 0 rfl)
      have t2 := (hU.out.cell (p := ⟨B, 11, none⟩) HB.out (fun h => h.2 rfl)).trans (Htab.out 11 5 rfl)
      go_wp2_with ((go_at_call 16; refine (MOwn.allocTrap 1 (hM.out.step ((Upto.refl _ wr).alloc _)) (by decide)).mono ?_; rintro e w3 ⟨rfl, hu⟩; have a1 := (hu.cell (p := ⟨wr.heap.size, 1, none⟩) (by simp) id).trans (show _ = some (Value.int .i64 0) by simp); have a2 := (hu.cell (p := ⟨wr.heap.size, 2, none⟩) (by simp) id).trans (show _ = some (Value.int .i64 5) by simp); have M3 := Lib.hid ((hM.out.step ((Upto.refl _ wr).alloc _)).step hu); have U3 := Lib.hid ((hU.out.alloc _).trans (hu.mono (fun _ _ h => h.elim))); clear hu))
      go_roundw
      case rel => exact ⟨4, by decide, rfl, M3, U3⟩
      case measure => simp [intOf]
    ·
      go_wp2_with (first
        | (go_at_call 31; refine (eq_lit (t := 2) [0, 0, 7, 8, 0] RC.out rfl (by simp [maxLen])).mono ?_; rintro e w8 ⟨rfl, hu⟩; have BE := Lib.hid (M5.out.step hu).base; clear hu)
        | (go_at_call 18; refine M4.out.cells.mono ?_; rintro e w7 ⟨u, rfl, hr, _, hu⟩; have RC := Lib.hid hr; have M5 := Lib.hid (M4.out.step hu); clear hr hu)
        | (go_at_call 23; refine (MOwn.store 3 0 3 0 8 [0, 0, 7, 8, 0] M1.out rfl rfl (by decide) (by decide) rfl).mono ?_; rintro e w6 ⟨rfl, hs, _⟩; have M2 := Lib.hid hs; clear hs)
        | (go_at_call 23; refine (MOwn.store 1 2 1 2 7 [0, 0, 7, 0, 0] hM.out rfl rfl (by decide) (by decide) rfl).mono ?_; rintro e w5 ⟨rfl, hs, _⟩; have M1 := Lib.hid hs; clear hs)
        | (go_at_call 17; refine (MOwn.spanOut _ M3.out (Or.inr (by decide))).mono ?_; rintro e w6 ⟨rfl, rfl⟩)
        | (go_at_call 17; refine (MOwn.span 3 _ 3 2 M2.out rfl (by decide) rfl rfl).mono ?_; rintro e w6 ⟨rfl, hu⟩; have M3 := Lib.hid (M2.out.step hu); clear hu)
        | (go_at_call 22; refine (MOwn.loadOut _ _ L3.out (Or.inr (by decide))).mono ?_; rintro e w6 ⟨rfl, hu⟩; have M4 := Lib.hid (L3.out.step hu); clear hu)
        | (go_at_call 22; refine (MOwn.loadTrap 2 _ _ L2.out rfl (by decide) (Or.inr (by decide))).mono ?_; rintro e w6 ⟨rfl, hu⟩; have L3 := Lib.hid (L2.out.step hu); clear hu)
        | (go_at_call 22; refine (MOwn.loadTrap 3 _ _ L1.out rfl (by decide) (Or.inr (by decide))).mono ?_; rintro e w6 ⟨rfl, hu⟩; have L2 := Lib.hid (L1.out.step hu); clear hu)
        | (go_at_call 22; refine (MOwn.load 3 0 _ _ 8 M3.out rfl rfl (by decide) (by decide) rfl).mono ?_; rintro e w6 ⟨rfl, hu⟩; have L1 := Lib.hid (M3.out.step hu); clear hu))
      go_ret
      exact ⟨rfl, BE.out⟩

end Go.Proofs.Ytjganbcolaakkaa
