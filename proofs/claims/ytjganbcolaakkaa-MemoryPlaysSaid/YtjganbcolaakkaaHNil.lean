/-
  heap that are nil or zero: their operations, and the law, walked.
-/
import Derived.Test.YtjganbcolaakkaaEqF
import Derived.Test.YtjganbcolaakkaaWorksH
import Derived.Test.YtjganbcolaakkaaFrame
namespace Go.Proofs.Ytjganbcolaakkaa
open Go.RowKit

/-- valid says no, here and later. -/
def hbBad (w : World) (p : Value) : Prop := ∀ w', Upto (fun _ => False) w w' → Calls Try.prog 60 #[p] w' fun e w2 => e = .returned (.bool false) ∧ w' = w2
theorem hbBad.later {w w' : World} {p : Value} (h : hbBad w p) (hu : Upto (fun _ => False) w w') : hbBad w' p := fun w2 h2 => h w2 (hu.trans h2)
theorem hbNone (w : World) : hbBad w (.pointer none) := fun w' _ => hvalid_nil w'
theorem hbZero {w0 w : World} {l2 : List Thing} (l1 : List Thing) {b : Nat} {cs : Array Value} {e : TypeId} (h : St w0 w (l1 ++ Blk b (.cells cs e) :: l2)) (hc : cs[0]? = some (.bool false)) : hbBad w (ptr b) := fun w' hu =>
  hvalid_at b false w' ((hu.cell (p := ⟨b, 0, none⟩) (lt_of_block (h.blk l1)) id).trans (h.cell l1 0 _ hc))
theorem hb_alloc (p : Value) (n : Int) (w : World) (h : hbBad w p) : Calls Try.prog 27 #[p, .int .i64 n] w fun e w' => e = .returned (.tuple #[.int .i64 0, .int .i64 0, .int .i64 1]) ∧ w = w' := by
  have H := Lib.hid (h w (Upto.refl _ w)); clear h
  go_enter Try.func27, Try.ntmps27
  go_wp2_with (go_at_call 60; refine H.out.mono ?_; rintro e w' ⟨rfl, rfl⟩)
  go_ret3
  exact ⟨rfl, rfl⟩
theorem hb_count (p : Value) (w : World) (h : hbBad w p) : Calls Try.prog 29 #[p] w fun e w' => e = .returned (.int .i64 0) ∧ w = w' := by
  have H := Lib.hid (h w (Upto.refl _ w)); clear h
  go_enter Try.func29, Try.ntmps29
  go_wp2_with (go_at_call 60; refine H.out.mono ?_; rintro e w' ⟨rfl, rfl⟩)
  go_ret
  exact ⟨rfl, rfl⟩
theorem hb_limit (p : Value) (w : World) (h : hbBad w p) : Calls Try.prog 36 #[p] w fun e w' => e = .returned (.int .i64 0) ∧ w = w' := by
  have H := Lib.hid (h w (Upto.refl _ w)); clear h
  go_enter Try.func36, Try.ntmps36
  go_wp2_with (go_at_call 60; refine H.out.mono ?_; rintro e w' ⟨rfl, rfl⟩)
  go_ret
  exact ⟨rfl, rfl⟩
theorem hb_copy (p : Value) (w : World) (h : hbBad w p) : Calls Try.prog 45 #[p] w fun e w' => e = .returned (.pointer none) ∧ w = w' := by
  have H := Lib.hid (h w (Upto.refl _ w)); clear h
  go_enter Try.func45, Try.ntmps45
  go_wp2_with (go_at_call 60; refine H.out.mono ?_; rintro e w' ⟨rfl, rfl⟩)
  go_ret
  exact ⟨rfl, rfl⟩
theorem hb_used (p : Value) (w : World) (h : hbBad w p) : Calls Try.prog 28 #[p] w fun e w' => e = .returned (.int .i64 0) ∧ w = w' := by
  have H := Lib.hid (h w (Upto.refl _ w)); clear h
  go_enter Try.func28, Try.ntmps28
  go_wp2_with (go_at_call 60; refine H.out.mono ?_; rintro e w' ⟨rfl, rfl⟩)
  go_ret
  exact ⟨rfl, rfl⟩
theorem hb_arr (p : Value) (i : Int) (w : World) (h : hbBad w p) : HArr p i w (.slice none 0 0) 1 := fun w' hu => by
  have H := Lib.hid (h w' hu)
  go_enter Try.func62, Try.ntmps62
  go_wp2_with (go_at_call 60; refine H.out.mono ?_; rintro e w' ⟨rfl, rfl⟩)
  go_ret2
  exact ⟨rfl, rfl⟩
theorem okLook1 : okLook 1 1 := Or.inr (Or.inl ⟨rfl, rfl⟩)
theorem hb_len (p : Value) (i : Int) (w : World) (h : hbBad w p) : Calls Try.prog 34 #[p, .int .i64 i] w fun e w' => e = .returned (.tuple #[.int .i64 0, .int .i64 1]) ∧ Upto (fun _ => False) w w' := hlen_of p i 1 1 none 0 0 w (hb_arr p i w h) okLook1
theorem hb_array (p : Value) (i : Int) (w : World) (h : hbBad w p) : Calls Try.prog 33 #[p, .int .i64 i] w fun e w' => ∃ u, e = .returned (.tuple #[u, .int .i64 1]) ∧ Fresh w [] u w' := harr_of p i 1 1 none 0 0 [] w (hb_arr p i w h) okLook1 (Sees.nil w) (by simp)
theorem hb_get (p : Value) (i k : Int) (w : World) (h : hbBad w p) : Calls Try.prog 35 #[p, .int .i64 i, .int .i64 k] w fun e w' => e = .returned (.tuple #[.int .i64 0, .int .i64 0, .int .i64 1]) ∧ Upto (fun _ => False) w w' := hget_none p i k 0 1 w (hels_bad1 p i k w (hb_arr p i w h))
theorem hb_set (p : Value) (i k z : Int) (w : World) (h : hbBad w p) : Calls Try.prog 32 #[p, .int .i64 i, .int .i64 k, .int .i64 z] w fun e w' => e = .returned (.tuple #[.int .i64 0, .int .i64 1]) ∧ Upto (fun _ => False) w w' := hset_none p i k z 0 1 w (hels_bad1 p i k w (hb_arr p i w h))
set_option maxRecDepth 10000 in
theorem hb_same (p q : Value) (w : World) (h : hbBad w p) : Calls Try.prog 46 #[p, q] w fun e w' => e = .returned (.bool false) ∧ Upto (fun _ => False) w w' := by
  have HV : Hid (∀ (m : Nat), Calls Try.prog 60 #[p] (w.drewN m) fun e w' => e = .returned (.bool false) ∧ w' = w.drewN m) := Lib.hid fun m => (h _ ((Upto.refl _ w).drewN m)).mono fun _ _ ⟨h1, h2⟩ => ⟨h1, h2.symm⟩
  go_enter Try.func46, Try.ntmps46
  go_wp2
  go_quiet ((go_at_call 60; exact Calls.quiet_of_same (HV.out _)))
  go_wp2
  go_ret
  exact ⟨rfl, (Upto.refl _ _).drewN _⟩
set_option maxRecDepth 10000 in
theorem hb_same2 (p q : Value) (w : World) (h0 : ∀ w', Upto (fun _ => False) w w' → Calls Try.prog 60 #[p] w' fun e w2 => e = .returned (.bool true) ∧ w' = w2) (h : hbBad w q) : Calls Try.prog 46 #[p, q] w fun e w' => e = .returned (.bool false) ∧ Upto (fun _ => False) w w' := by
  have HV : Hid (∀ (m : Nat) (c : Value) (r : Bool), (c = p ∧ r = true) ∨ (c = q ∧ r = false) → Calls Try.prog 60 #[c] (w.drewN m) fun e w' => e = .returned (.bool r) ∧ w' = w.drewN m) := Lib.hid fun m c r hc => by
    rcases hc with ⟨rfl, rfl⟩ | ⟨rfl, rfl⟩
    · exact (h0 _ ((Upto.refl _ w).drewN m)).mono fun _ _ ⟨h1, h2⟩ => ⟨h1, h2.symm⟩
    · exact (h _ ((Upto.refl _ w).drewN m)).mono fun _ _ ⟨h1, h2⟩ => ⟨h1, h2.symm⟩
  clear h0 h
  go_enter Try.func46, Try.ntmps46
  go_wp2
  go_quiet ((go_at_call 60; exact Calls.quiet_of_same (HV.out _ _ _ (by first | exact Or.inl ⟨rfl, rfl⟩ | exact Or.inr ⟨rfl, rfl⟩))))
  go_wp2
  go_ret
  exact ⟨rfl, (Upto.refl _ _).drewN _⟩
theorem hb_good {w0 w : World} {l2 : List Thing} (l1 : List Thing) {b lim : Nat} {ls : List (List Int)} (h : St w0 w (l1 ++ HT b lim ls :: l2)) : ∀ w', Upto (fun _ => False) w w' → Calls Try.prog 60 #[ptr b] w' fun e w2 => e = .returned (.bool true) ∧ w' = w2 := fun w' hu => by
  obtain ⟨F, hA, _⟩ := h.get l1
  exact hvalid_at b true w' ((hu.cell (p := ⟨b, 0, none⟩) hA.facts.2.2.2.1 id).trans hA.cells.1)

set_option maxRecDepth 10000 in
set_option maxHeartbeats 4000000 in
theorem hbnil_true (handle i n : Int) (w : World) : Calls Try.prog 13 #[.int .i64 handle, .int .i64 i, .int .i64 n] w fun e w' => e = .returned (.bool true) ∧ Below w.heap.size w w' := by
  go_enter Try.func13, Try.ntmps13
  go_wp2_with (go_at_call 26; refine (SH.new 3 _ (St.nil w) rfl (by decide)).mono ?_; rintro e w1 ⟨good, rfl, hs⟩; have S1 := Lib.hid hs; clear hs)
  have hS2 := (S1.out.alloc (Obj.cells #[.bool false, .int .i64 0, .int .i64 0, .slice none 0 0] 88)).alloc (Obj.cells #[.pointer none, .pointer (some ⟨w1.heap.size, 0, none⟩)] 47)
  rw [show (w1.alloc (Obj.cells #[.bool false, .int .i64 0, .int .i64 0, .slice none 0 0] 88)).heap.size = w1.heap.size + 1 from by simp] at hS2
  have S2 := Lib.hid hS2; clear hS2
  generalize ((w1.alloc (Obj.cells #[.bool false, .int .i64 0, .int .i64 0, .slice none 0 0] 88)).alloc (Obj.cells #[.pointer none, .pointer (some ⟨w1.heap.size, 0, none⟩)] 47)) = wt at *
  obtain ⟨B, hB⟩ : ∃ B, B = w1.heap.size + 1 := ⟨_, rfl⟩
  rw [← hB] at S2 ⊢
  have HB := Lib.hid hB; clear hB
  generalize w1.heap.size = Z at *
  go_loopw [35] (fun i wr => ∃ j : Nat, j ≤ 2 ∧ i = .int .i64 j ∧ Hid (St w wr [Blk B (Obj.cells #[.pointer none, .pointer (some ⟨Z, 0, none⟩)] 47), Blk Z (Obj.cells #[.bool false, .int .i64 0, .int .i64 0, .slice none 0 0] 88), HT good 3 [[]]])) (fun i _ => 2 - (intOf i).toNat)
  case atStart => exact ⟨0, by decide, rfl, S2⟩
  case round =>
    obtain ⟨j, hj, rfl, hM⟩ := hrel
    obtain rfl | rfl | rfl : j = 0 ∨ j = 1 ∨ j = 2 := by omega
    · have t0 := hM.out.cell [] 0 (.pointer none) rfl
      go_wp2_with (first
        | (go_at_call 46; have tk := K8; refine (hb_same2 _ _ _ (hb_good [_, _] K8.out) (hbNone _)).mono ?_; rintro e w9 ⟨rfl, hu⟩; have K9 := Lib.hid (K8.out.step hu); clear hu)
        | (go_at_call 46; have tk := K7; refine (hb_same _ _ _ (hbNone _)).mono ?_; rintro e w9 ⟨rfl, hu⟩; have K8 := Lib.hid (K7.out.step hu); clear hu)
        | (go_at_call 46; refine (hb_same _ _ _ (hbNone _)).mono ?_; rintro e w9 ⟨rfl, hu⟩; have K7 := Lib.hid (K6.out.step hu); clear hu)
        | (go_at_call 45; refine (hb_copy _ _ (hbNone _)).mono ?_; rintro e w9 ⟨rfl, rfl⟩)
        | (go_at_call 36; refine (hb_limit _ _ (hbNone _)).mono ?_; rintro e w9 ⟨rfl, rfl⟩)
        | (go_at_call 29; refine (hb_count _ _ (hbNone _)).mono ?_; rintro e w9 ⟨rfl, rfl⟩)
        | (go_at_call 28; refine (hb_used _ _ (hbNone _)).mono ?_; rintro e w9 ⟨rfl, rfl⟩)
        | (go_at_call 33; refine (hb_array _ _ _ (hbNone _)).mono ?_; rintro e w9 ⟨u, rfl, hf⟩; obtain ⟨uo, uc, rfl, _⟩ := hf.1.slice; have K6 := Lib.hid (K5.out.step (Upto.of_below hf.2.2 _)); clear hf)
        | (go_at_call 32; refine (hb_set _ _ _ _ _ (hbNone _)).mono ?_; rintro e w9 ⟨rfl, hu⟩; have K5 := Lib.hid (K4.out.step hu); clear hu)
        | (go_at_call 35; refine (hb_get _ _ _ _ (hbNone _)).mono ?_; rintro e w9 ⟨rfl, hu⟩; have K4 := Lib.hid (K3.out.step hu); clear hu)
        | (go_at_call 34; refine (hb_len _ _ _ (hbNone _)).mono ?_; rintro e w9 ⟨rfl, hu⟩; have K3 := Lib.hid (hM.out.step hu); clear hu)
        | (go_at_call 27; refine (hb_alloc _ _ _ (hbNone _)).mono ?_; rintro e w9 ⟨rfl, rfl⟩))
      go_roundw
      case rel => exact ⟨1, by decide, rfl, K9⟩
      case measure => simp [intOf]
    · have t0 := hM.out.cell [] 1 (.pointer (some ⟨Z, 0, none⟩)) rfl
      go_wp2_with (first
        | (go_at_call 46; have tk := K8; refine (hb_same2 _ _ _ (hb_good [_, _] K8.out) (hbZero [_] K8.out rfl)).mono ?_; rintro e w9 ⟨rfl, hu⟩; have K9 := Lib.hid (K8.out.step hu); clear hu)
        | (go_at_call 46; have tk := K7; refine (hb_same _ _ _ (hbZero [_] K7.out rfl)).mono ?_; rintro e w9 ⟨rfl, hu⟩; have K8 := Lib.hid (K7.out.step hu); clear hu)
        | (go_at_call 46; refine (hb_same _ _ _ (hbZero [_] K6.out rfl)).mono ?_; rintro e w9 ⟨rfl, hu⟩; have K7 := Lib.hid (K6.out.step hu); clear hu)
        | (go_at_call 45; refine (hb_copy _ _ (hbZero [_] K6.out rfl)).mono ?_; rintro e w9 ⟨rfl, rfl⟩)
        | (go_at_call 36; refine (hb_limit _ _ (hbZero [_] K6.out rfl)).mono ?_; rintro e w9 ⟨rfl, rfl⟩)
        | (go_at_call 29; refine (hb_count _ _ (hbZero [_] K6.out rfl)).mono ?_; rintro e w9 ⟨rfl, rfl⟩)
        | (go_at_call 28; refine (hb_used _ _ (hbZero [_] K6.out rfl)).mono ?_; rintro e w9 ⟨rfl, rfl⟩)
        | (go_at_call 33; refine (hb_array _ _ _ (hbZero [_] K5.out rfl)).mono ?_; rintro e w9 ⟨u, rfl, hf⟩; obtain ⟨uo, uc, rfl, _⟩ := hf.1.slice; have K6 := Lib.hid (K5.out.step (Upto.of_below hf.2.2 _)); clear hf)
        | (go_at_call 32; refine (hb_set _ _ _ _ _ (hbZero [_] K4.out rfl)).mono ?_; rintro e w9 ⟨rfl, hu⟩; have K5 := Lib.hid (K4.out.step hu); clear hu)
        | (go_at_call 35; refine (hb_get _ _ _ _ (hbZero [_] K3.out rfl)).mono ?_; rintro e w9 ⟨rfl, hu⟩; have K4 := Lib.hid (K3.out.step hu); clear hu)
        | (go_at_call 34; refine (hb_len _ _ _ (hbZero [_] hM.out rfl)).mono ?_; rintro e w9 ⟨rfl, hu⟩; have K3 := Lib.hid (hM.out.step hu); clear hu)
        | (go_at_call 27; refine (hb_alloc _ _ _ (hbZero [_] hM.out rfl)).mono ?_; rintro e w9 ⟨rfl, rfl⟩))
      go_roundw
      case rel => exact ⟨2, by decide, rfl, K9⟩
      case measure => simp [intOf]
    · rw [show ((2 : Nat) : Int) = 2 from rfl]
      go_wp2_with (go_at_call 30; refine (works17 _).mono ?_; rintro e w9 ⟨rfl, hb⟩; have BF := Lib.hid hb; clear hb)
      go_ret
      exact ⟨rfl, Upto.below ((Upto.of_below hM.out.base _).trans (Upto.of_below BF.out _))⟩

end Go.Proofs.Ytjganbcolaakkaa
