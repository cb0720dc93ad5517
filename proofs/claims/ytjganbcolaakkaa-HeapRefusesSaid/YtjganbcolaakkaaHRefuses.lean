/-
  The law of refusals of the heaps, walked.
-/
import Derived.Test.YtjganbcolaakkaaEqF
import Derived.Test.YtjganbcolaakkaaFrame
namespace Go.Proofs.Ytjganbcolaakkaa
open Go.RowKit

set_option maxRecDepth 10000 in
set_option maxHeartbeats 4000000 in
theorem hrefuses_some (far : Int) (w : World) (hf0 : 0 ≤ far) (hf1 : far ≤ 4294967295) :
    Calls Try.prog 11 #[.int .u32 far] w fun e w' => e = .returned (.bool true) ∧ Below w.heap.size w w' := by
  go_enter Try.func11, Try.ntmps11
  go_wp2
  have S0 := Lib.hid ((St.nil w).alloc (Obj.cells #[.int .i64 (-1 - far), .int .i64 (10001 + far), .int .i64 9223372036854775807, .int .i64 (-9223372036854775808)] 3))
  generalize (w.alloc (Obj.cells #[.int .i64 (-1 - far), .int .i64 (10001 + far), .int .i64 9223372036854775807, .int .i64 (-9223372036854775808)] 3)) = wt at *
  obtain ⟨B1, hB1⟩ : ∃ B, B = w.heap.size := ⟨_, rfl⟩
  rw [← hB1] at S0 ⊢
  have HB1 := Lib.hid hB1; clear hB1
  go_loop [40] (fun i => ∃ j : Nat, j ≤ 4 ∧ i = .int .i64 j) (fun i => 4 - (intOf i).toNat)
  case atStart => exact ⟨0, by decide, rfl⟩
  case round =>
    obtain ⟨j, hj, rfl⟩ := hrel
    obtain rfl | rfl | rfl | rfl | rfl : j = 0 ∨ j = 1 ∨ j = 2 ∨ j = 3 ∨ j = 4 := by omega
    · have t0 := S0.out.cell [] 0 (.int .i64 (-1 - far)) rfl
      go_wp2_with (go_at_call 26; refine (hnew_bad _ _ (Or.inl (by omega))).mono ?_; rintro e w1 ⟨rfl, rfl⟩)
      go_round
      case rel => exact ⟨1, by decide, rfl⟩
      case measure => simp [intOf]
    · have t0 := S0.out.cell [] 1 (.int .i64 (10001 + far)) rfl
      go_wp2_with (go_at_call 26; refine (hnew_bad _ _ (Or.inr (by omega))).mono ?_; rintro e w1 ⟨rfl, rfl⟩)
      go_round
      case rel => exact ⟨2, by decide, rfl⟩
      case measure => simp [intOf]
    · have t0 := S0.out.cell [] 2 (.int .i64 9223372036854775807) rfl
      go_wp2_with (go_at_call 26; refine (hnew_bad _ _ (Or.inr (by decide))).mono ?_; rintro e w1 ⟨rfl, rfl⟩)
      go_round
      case rel => exact ⟨3, by decide, rfl⟩
      case measure => simp [intOf]
    · have t0 := S0.out.cell [] 3 (.int .i64 (-9223372036854775808)) rfl
      go_wp2_with (go_at_call 26; refine (hnew_bad _ _ (Or.inl (by decide))).mono ?_; rintro e w1 ⟨rfl, rfl⟩)
      go_round
      case rel => exact ⟨4, by decide, rfl⟩
      case measure => simp [intOf]
    · go_wp2_with (first
        | (go_at_call 26; refine (SH.new 10000 _ S0.out rfl (by decide)).mono ?_; rintro e w1 ⟨b, rfl, hs⟩; have M1 := Lib.hid hs; clear hs)
        | (go_at_call 27; refine (SH.alloc [] 2 _ 1 M1.out rfl (by decide) (by decide) rfl).mono ?_; rintro e w2 ⟨rfl, hs⟩; have M2 := Lib.hid (show St w w2 [HT b 10000 [[], [0, 0]], _] from hs); clear hs)
        | (go_at_call 45; refine (SH.copy [] M2.out (by decide)).mono ?_; rintro e w3 ⟨d, rfl, hs⟩; have M3 := Lib.hid (show St w w3 [_, _, _] from hs); clear hs))
      have S3 := Lib.hid (show St w _ [Blk _ _, HT d 10000 [[], [0, 0]], HT b 10000 [[], [0, 0]], Blk B1 _] from M3.out.alloc (Obj.cells #[.int .i64 (-1 - far), .int .i64 (9999 + far), .int .i64 9223372036854775807, .int .i64 (-9223372036854775808)] 2))
      generalize (w3.alloc (Obj.cells #[.int .i64 (-1 - far), .int .i64 (9999 + far), .int .i64 9223372036854775807, .int .i64 (-9223372036854775808)] 2)) = wu at *
      obtain ⟨B2, hB2⟩ : ∃ B, B = w3.heap.size := ⟨_, rfl⟩
      rw [← hB2] at S3 ⊢
      have HB2 := Lib.hid hB2; clear hB2
      go_loopw [88] (fun i wr => ∃ j : Nat, j ≤ 4 ∧ i = .int .i64 j ∧ Hid (St w wr [Blk B2 (Obj.cells #[.int .i64 (-1 - far), .int .i64 (9999 + far), .int .i64 9223372036854775807, .int .i64 (-9223372036854775808)] 2), HT d 10000 [[], [0, 0]], HT b 10000 [[], [0, 0]], Blk B1 (Obj.cells #[.int .i64 (-1 - far), .int .i64 (10001 + far), .int .i64 9223372036854775807, .int .i64 (-9223372036854775808)] 3)])) (fun i _ => 4 - (intOf i).toNat)
      case atStart => exact ⟨0, by decide, rfl, S3⟩
      case round =>
        obtain ⟨j, hj, rfl, hM⟩ := hrel
        obtain rfl | rfl | rfl | rfl | rfl : j = 0 ∨ j = 1 ∨ j = 2 ∨ j = 3 ∨ j = 4 := by omega
        · have t0 := hM.out.cell [] 0 (.int .i64 (-1 - far)) rfl
          go_wp2_with (go_at_call 27; refine (SH.allocTrap [_, _] _ hM.out (Or.inl (by omega))).mono ?_; rintro e w5 ⟨rfl, hs⟩; have M5 := Lib.hid hs; clear hs)
          go_roundw
          case rel => exact ⟨1, by decide, rfl, M5⟩
          case measure => simp [intOf]
        · have t0 := hM.out.cell [] 1 (.int .i64 (9999 + far)) rfl
          go_wp2_with (go_at_call 27; refine (SH.allocTrap [_, _] _ hM.out (Or.inr (by have h : tot [[], [0, 0]] = 2 := rfl; rw [h]; omega))).mono ?_; rintro e w5 ⟨rfl, hs⟩; have M5 := Lib.hid hs; clear hs)
          go_roundw
          case rel => exact ⟨2, by decide, rfl, M5⟩
          case measure => simp [intOf]
        · have t0 := hM.out.cell [] 2 (.int .i64 9223372036854775807) rfl
          go_wp2_with (go_at_call 27; refine (SH.allocTrap [_, _] _ hM.out (Or.inr (by decide))).mono ?_; rintro e w5 ⟨rfl, hs⟩; have M5 := Lib.hid hs; clear hs)
          go_roundw
          case rel => exact ⟨3, by decide, rfl, M5⟩
          case measure => simp [intOf]
        · have t0 := hM.out.cell [] 3 (.int .i64 (-9223372036854775808)) rfl
          go_wp2_with (go_at_call 27; refine (SH.allocTrap [_, _] _ hM.out (Or.inl (by decide))).mono ?_; rintro e w5 ⟨rfl, hs⟩; have M5 := Lib.hid hs; clear hs)
          go_roundw
          case rel => exact ⟨4, by decide, rfl, M5⟩
          case measure => simp [intOf]
        · rw [show ((4 : Nat) : Int) = 4 from rfl]
          go_wp2
          have S4 := Lib.hid (show St w _ [Blk _ _, Blk B2 _, HT d 10000 [[], [0, 0]], HT b 10000 [[], [0, 0]], Blk B1 _] from hM.out.alloc (Obj.cells #[.int .i64 (-1 - far), .int .i64 (2 + far), .int .i64 9223372036854775807, .int .i64 (-9223372036854775808)] 2))
          generalize (wr.alloc (Obj.cells #[.int .i64 (-1 - far), .int .i64 (2 + far), .int .i64 9223372036854775807, .int .i64 (-9223372036854775808)] 2)) = wv at *
          obtain ⟨B3, hB3⟩ : ∃ B, B = wr.heap.size := ⟨_, rfl⟩
          rw [← hB3] at S4 ⊢
          have HB3 := Lib.hid hB3; clear hB3
          try rw [show ((4 : Nat) : Int) = 4 from rfl]
          go_loopw [116] (fun i wr => ∃ j : Nat, j ≤ 4 ∧ i = .int .i64 j ∧ Hid (St w wr [Blk B3 (Obj.cells #[.int .i64 (-1 - far), .int .i64 (2 + far), .int .i64 9223372036854775807, .int .i64 (-9223372036854775808)] 2), Blk B2 (Obj.cells #[.int .i64 (-1 - far), .int .i64 (9999 + far), .int .i64 9223372036854775807, .int .i64 (-9223372036854775808)] 2), HT d 10000 [[], [0, 0]], HT b 10000 [[], [0, 0]], Blk B1 (Obj.cells #[.int .i64 (-1 - far), .int .i64 (10001 + far), .int .i64 9223372036854775807, .int .i64 (-9223372036854775808)] 3)])) (fun i _ => 4 - (intOf i).toNat)
          case atStart => exact ⟨0, by decide, rfl, S4⟩
          case round =>
            obtain ⟨j, hj, rfl, hM⟩ := hrel
            obtain rfl | rfl | rfl | rfl | rfl : j = 0 ∨ j = 1 ∨ j = 2 ∨ j = 3 ∨ j = 4 := by omega
            · have t0 := hM.out.cell [] 0 (.int .i64 (-1 - far)) rfl
              go_wp2_with (first
                | (go_at_call 33; refine (SH.arrayOut [_, _, _] _ K7.out (Or.inl (by omega))).mono ?_; rintro e w9 ⟨u, rfl, hs⟩; obtain ⟨uo, uc, rfl, _⟩ := (hs.row []).slice; have K8 := Lib.hid (show St w w9 [_, _, _, _, _] from hs.tail); clear hs)
                | (go_at_call 34; refine (SH.lenOut [_, _, _] _ K6.out (Or.inl (by omega))).mono ?_; rintro e w9 ⟨rfl, hs⟩; have K7 := Lib.hid hs; clear hs)
                | (go_at_call 32; refine (SH.setOut [_, _, _] _ _ _ K5.out (Or.inl (by omega))).mono ?_; rintro e w8 ⟨rfl, hs⟩; have K6 := Lib.hid hs; clear hs)
                | (go_at_call 35; refine (SH.getOut [_, _, _] _ _ K4.out (Or.inl (by omega))).mono ?_; rintro e w7 ⟨rfl, hs⟩; have K5 := Lib.hid hs; clear hs)
                | (go_at_call 35; refine (SH.getTrap [_, _, _] 0 _ _ K3.out rfl (by decide) ((Or.inl (by omega)))).mono ?_; rintro e w7 ⟨rfl, hs⟩; have K4 := Lib.hid hs; clear hs)
                | (go_at_call 32; refine (SH.setTrap [_, _, _] 1 _ _ _ K2.out rfl (by decide) (Or.inl (by omega))).mono ?_; rintro e w6 ⟨rfl, hs⟩; have K3 := Lib.hid hs; clear hs)
                | (go_at_call 35; refine (SH.getTrap [_, _, _] 1 _ _ hM.out rfl (by decide) (Or.inl (by omega))).mono ?_; rintro e w5 ⟨rfl, hs⟩; have K2 := Lib.hid hs; clear hs))
              go_roundw
              case rel => exact ⟨1, by decide, rfl, K8⟩
              case measure => simp [intOf]
            · have t0 := hM.out.cell [] 1 (.int .i64 (2 + far)) rfl
              go_wp2_with (first
                | (go_at_call 33; refine (SH.arrayOut [_, _, _] _ K7.out (Or.inr (by simp; omega))).mono ?_; rintro e w9 ⟨u, rfl, hs⟩; obtain ⟨uo, uc, rfl, _⟩ := (hs.row []).slice; have K8 := Lib.hid (show St w w9 [_, _, _, _, _] from hs.tail); clear hs)
                | (go_at_call 34; refine (SH.lenOut [_, _, _] _ K6.out (Or.inr (by simp; omega))).mono ?_; rintro e w9 ⟨rfl, hs⟩; have K7 := Lib.hid hs; clear hs)
                | (go_at_call 32; refine (SH.setOut [_, _, _] _ _ _ K5.out (Or.inr (by simp; omega))).mono ?_; rintro e w8 ⟨rfl, hs⟩; have K6 := Lib.hid hs; clear hs)
                | (go_at_call 35; refine (SH.getOut [_, _, _] _ _ K4.out (Or.inr (by simp; omega))).mono ?_; rintro e w7 ⟨rfl, hs⟩; have K5 := Lib.hid hs; clear hs)
                | (go_at_call 35; refine (SH.getTrap [_, _, _] 0 _ _ K3.out rfl (by decide) ((Or.inr (by simp [List.getD]; omega)))).mono ?_; rintro e w7 ⟨rfl, hs⟩; have K4 := Lib.hid hs; clear hs)
                | (go_at_call 32; refine (SH.setTrap [_, _, _] 1 _ _ _ K2.out rfl (by decide) (Or.inr (by simp [List.getD]; omega))).mono ?_; rintro e w6 ⟨rfl, hs⟩; have K3 := Lib.hid hs; clear hs)
                | (go_at_call 35; refine (SH.getTrap [_, _, _] 1 _ _ hM.out rfl (by decide) (Or.inr (by simp [List.getD]; omega))).mono ?_; rintro e w5 ⟨rfl, hs⟩; have K2 := Lib.hid hs; clear hs))
              go_roundw
              case rel => exact ⟨2, by decide, rfl, K8⟩
              case measure => simp [intOf]
            · have t0 := hM.out.cell [] 2 (.int .i64 9223372036854775807) rfl
              go_wp2_with (first
                | (go_at_call 33; refine (SH.arrayOut [_, _, _] _ K7.out (Or.inr (by decide))).mono ?_; rintro e w9 ⟨u, rfl, hs⟩; obtain ⟨uo, uc, rfl, _⟩ := (hs.row []).slice; have K8 := Lib.hid (show St w w9 [_, _, _, _, _] from hs.tail); clear hs)
                | (go_at_call 34; refine (SH.lenOut [_, _, _] _ K6.out (Or.inr (by decide))).mono ?_; rintro e w9 ⟨rfl, hs⟩; have K7 := Lib.hid hs; clear hs)
                | (go_at_call 32; refine (SH.setOut [_, _, _] _ _ _ K5.out (Or.inr (by decide))).mono ?_; rintro e w8 ⟨rfl, hs⟩; have K6 := Lib.hid hs; clear hs)
                | (go_at_call 35; refine (SH.getOut [_, _, _] _ _ K4.out (Or.inr (by decide))).mono ?_; rintro e w7 ⟨rfl, hs⟩; have K5 := Lib.hid hs; clear hs)
                | (go_at_call 35; refine (SH.getTrap [_, _, _] 0 _ _ K3.out rfl (by decide) ((Or.inr (by decide)))).mono ?_; rintro e w7 ⟨rfl, hs⟩; have K4 := Lib.hid hs; clear hs)
                | (go_at_call 32; refine (SH.setTrap [_, _, _] 1 _ _ _ K2.out rfl (by decide) (Or.inr (by decide))).mono ?_; rintro e w6 ⟨rfl, hs⟩; have K3 := Lib.hid hs; clear hs)
                | (go_at_call 35; refine (SH.getTrap [_, _, _] 1 _ _ hM.out rfl (by decide) (Or.inr (by decide))).mono ?_; rintro e w5 ⟨rfl, hs⟩; have K2 := Lib.hid hs; clear hs))
              go_roundw
              case rel => exact ⟨3, by decide, rfl, K8⟩
              case measure => simp [intOf]
            · have t0 := hM.out.cell [] 3 (.int .i64 (-9223372036854775808)) rfl
              go_wp2_with (first
                | (go_at_call 33; refine (SH.arrayOut [_, _, _] _ K7.out (Or.inl (by decide))).mono ?_; rintro e w9 ⟨u, rfl, hs⟩; obtain ⟨uo, uc, rfl, _⟩ := (hs.row []).slice; have K8 := Lib.hid (show St w w9 [_, _, _, _, _] from hs.tail); clear hs)
                | (go_at_call 34; refine (SH.lenOut [_, _, _] _ K6.out (Or.inl (by decide))).mono ?_; rintro e w9 ⟨rfl, hs⟩; have K7 := Lib.hid hs; clear hs)
                | (go_at_call 32; refine (SH.setOut [_, _, _] _ _ _ K5.out (Or.inl (by decide))).mono ?_; rintro e w8 ⟨rfl, hs⟩; have K6 := Lib.hid hs; clear hs)
                | (go_at_call 35; refine (SH.getOut [_, _, _] _ _ K4.out (Or.inl (by decide))).mono ?_; rintro e w7 ⟨rfl, hs⟩; have K5 := Lib.hid hs; clear hs)
                | (go_at_call 35; refine (SH.getTrap [_, _, _] 0 _ _ K3.out rfl (by decide) ((Or.inl (by decide)))).mono ?_; rintro e w7 ⟨rfl, hs⟩; have K4 := Lib.hid hs; clear hs)
                | (go_at_call 32; refine (SH.setTrap [_, _, _] 1 _ _ _ K2.out rfl (by decide) (Or.inl (by decide))).mono ?_; rintro e w6 ⟨rfl, hs⟩; have K3 := Lib.hid hs; clear hs)
                | (go_at_call 35; refine (SH.getTrap [_, _, _] 1 _ _ hM.out rfl (by decide) (Or.inl (by decide))).mono ?_; rintro e w5 ⟨rfl, hs⟩; have K2 := Lib.hid hs; clear hs))
              go_roundw
              case rel => exact ⟨4, by decide, rfl, K8⟩
              case measure => simp [intOf]
            · go_wp2_with (first
                | (go_at_call 30; refine (works17 _).mono ?_; rintro e w9 ⟨rfl, hb⟩; have BF := Lib.hid hb; clear hb)
                | (go_at_call 46; refine (SH.same true hM.out (SH.is [_, _, _] hM.out) (SH.is [_, _] hM.out) (by decide) (by decide)).mono ?_; rintro e w8 ⟨rfl, hs⟩; have K9 := Lib.hid hs; clear hs))
              go_ret
              exact ⟨rfl, Upto.below ((Upto.of_below K9.out.base _).trans (Upto.of_below BF.out _))⟩

theorem hrefuses_true (far : Int) (hw : (Lit.int .u32 far).wf = true) (w : World) : Calls Try.prog 11 #[.int .u32 far] w fun e w' => e = .returned (.bool true) ∧ Below w.heap.size w w' := by
  have := bounds_u32 hw
  exact hrefuses_some far w (by omega) (by omega)

end Go.Proofs.Ytjganbcolaakkaa
