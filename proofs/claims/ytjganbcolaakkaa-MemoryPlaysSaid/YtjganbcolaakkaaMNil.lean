/-
  memory that are nil or zero: their operations, and the law, walked.
-/
import Derived.Test.YtjganbcolaakkaaMemE
import Derived.Test.YtjganbcolaakkaaWorksB
import Derived.Test.YtjganbcolaakkaaFrame
namespace Go.Proofs.Ytjganbcolaakkaa
open Go.RowKit

/-- valid says no, here and later. -/
def mbBad (w : World) (p : Value) : Prop := ∀ w', Upto (fun _ => False) w w' → Calls Try.prog 55 #[p] w' fun e w2 => e = .returned (.bool false) ∧ w' = w2
theorem mbBad.later {w w' : World} {p : Value} (h : mbBad w p) (hu : Upto (fun _ => False) w w') : mbBad w' p := fun w2 h2 => h w2 (hu.trans h2)
theorem mbNone (w : World) : mbBad w (.pointer none) := fun w' _ => mvalid_nil w'
theorem mbZero {w0 w : World} {l2 : List Thing} (l1 : List Thing) {b : Nat} {cs : Array Value} {e : TypeId} (h : St w0 w (l1 ++ Blk b (.cells cs e) :: l2)) (hc : cs[2]? = some (.slice none 0 0)) : mbBad w (ptr b) := fun w' hu =>
  mvalid_zero b none 0 w' ((hu.cell (p := ⟨b, 2, none⟩) (lt_of_block (h.blk l1)) id).trans (h.cell l1 2 _ hc))
theorem mb_alloc (p : Value) (n : Int) (w : World) (h : mbBad w p) : Calls Try.prog 16 #[p, .int .i64 n] w fun e w' => e = .returned (.tuple #[.int .i64 0, .int .i64 0, .int .i64 1]) ∧ w = w' := by
  have H := Lib.hid (h w (Upto.refl _ w)); clear h
  go_enter Try.func16, Try.ntmps16
  go_wp2_with (go_at_call 55; refine H.out.mono ?_; rintro e w' ⟨rfl, rfl⟩)
  go_ret3
  exact ⟨rfl, rfl⟩
theorem mb_count (p : Value) (w : World) (h : mbBad w p) : Calls Try.prog 19 #[p] w fun e w' => e = .returned (.int .i64 0) ∧ w = w' := by
  have H := Lib.hid (h w (Upto.refl _ w)); clear h
  go_enter Try.func19, Try.ntmps19
  go_wp2_with (go_at_call 55; refine H.out.mono ?_; rintro e w' ⟨rfl, rfl⟩)
  go_ret
  exact ⟨rfl, rfl⟩
theorem mb_limit (p : Value) (w : World) (h : mbBad w p) : Calls Try.prog 44 #[p] w fun e w' => e = .returned (.int .i64 0) ∧ w = w' := by
  have H := Lib.hid (h w (Upto.refl _ w)); clear h
  go_enter Try.func44, Try.ntmps44
  go_wp2_with (go_at_call 55; refine H.out.mono ?_; rintro e w' ⟨rfl, rfl⟩)
  go_ret
  exact ⟨rfl, rfl⟩
theorem mb_copy (p : Value) (w : World) (h : mbBad w p) : Calls Try.prog 21 #[p] w fun e w' => e = .returned (.pointer none) ∧ w = w' := by
  have H := Lib.hid (h w (Upto.refl _ w)); clear h
  go_enter Try.func21, Try.ntmps21
  go_wp2_with (go_at_call 55; refine H.out.mono ?_; rintro e w' ⟨rfl, rfl⟩)
  go_ret
  exact ⟨rfl, rfl⟩
theorem mb_span (p : Value) (i : Int) (w : World) (h : mbBad w p) : Calls Try.prog 17 #[p, .int .i64 i] w fun e w' => e = .returned (.tuple #[.int .i64 0, .int .i64 0, .int .i64 1]) ∧ w = w' := by
  have H := Lib.hid (h w (Upto.refl _ w)); clear h
  go_enter Try.func17, Try.ntmps17
  go_wp2_with (go_at_call 55; refine H.out.mono ?_; rintro e w' ⟨rfl, rfl⟩)
  go_ret3
  exact ⟨rfl, rfl⟩
theorem mb_cells (p : Value) (w : World) (h : mbBad w p) : Calls Try.prog 18 #[p] w fun e w' => e = .returned (.slice none 0 0) ∧ w = w' := by
  have H := Lib.hid (h w (Upto.refl _ w)); clear h
  go_enter Try.func18, Try.ntmps18
  go_wp2_with (go_at_call 55; refine H.out.mono ?_; rintro e w' ⟨rfl, rfl⟩)
  go_ret
  exact ⟨rfl, rfl⟩
theorem mb_arr (p : Value) (i : Int) (w : World) (h : mbBad w p) : Arr p i w (.slice none 0 0) 1 := (marray_bad p i 1 w (by decide) (mb_span p i w h)).mono fun _ _ ⟨h1, h2⟩ => ⟨h1, h2 ▸ Upto.refl _ _⟩
theorem mb_len (p : Value) (i : Int) (w : World) (h : mbBad w p) : Calls Try.prog 24 #[p, .int .i64 i] w fun e w' => e = .returned (.tuple #[.int .i64 0, .int .i64 1]) ∧ Upto (fun _ => False) w w' := mlen_of _ _ _ _ _ w ((mb_span p i w h).mono fun _ _ ⟨h1, h2⟩ => ⟨h1, h2 ▸ Upto.refl _ _⟩)
set_option maxRecDepth 10000 in
theorem mb_same (p q : Value) (w : World) (h : mbBad w p) : Calls Try.prog 25 #[p, q] w fun e w' => e = .returned (.bool false) ∧ Upto (fun _ => False) w w' := by
  have HV : Hid (∀ (m : Nat), Calls Try.prog 55 #[p] (w.drewN m) fun e w' => e = .returned (.bool false) ∧ w' = w.drewN m) := Lib.hid fun m => (h _ ((Upto.refl _ w).drewN m)).mono fun _ _ ⟨h1, h2⟩ => ⟨h1, h2.symm⟩
  go_enter Try.func25, Try.ntmps25
  go_wp2
  go_quiet ((go_at_call 55; exact Calls.quiet_of_same (HV.out _)))
  go_wp2
  go_ret
  exact ⟨rfl, (Upto.refl _ _).drewN _⟩
set_option maxRecDepth 10000 in
theorem mb_same2 (p q : Value) (w : World) (h0 : ∀ w', Upto (fun _ => False) w w' → Calls Try.prog 55 #[p] w' fun e w2 => e = .returned (.bool true) ∧ w' = w2) (h : mbBad w q) : Calls Try.prog 25 #[p, q] w fun e w' => e = .returned (.bool false) ∧ Upto (fun _ => False) w w' := by
  have HV : Hid (∀ (m : Nat) (c : Value) (r : Bool), (c = p ∧ r = true) ∨ (c = q ∧ r = false) → Calls Try.prog 55 #[c] (w.drewN m) fun e w' => e = .returned (.bool r) ∧ w' = w.drewN m) := Lib.hid fun m c r hc => by
    rcases hc with ⟨rfl, rfl⟩ | ⟨rfl, rfl⟩
    · exact (h0 _ ((Upto.refl _ w).drewN m)).mono fun _ _ ⟨h1, h2⟩ => ⟨h1, h2.symm⟩
    · exact (h _ ((Upto.refl _ w).drewN m)).mono fun _ _ ⟨h1, h2⟩ => ⟨h1, h2.symm⟩
  clear h0 h
  go_enter Try.func25, Try.ntmps25
  go_wp2
  go_quiet ((go_at_call 55; exact Calls.quiet_of_same (HV.out _ _ _ (by first | exact Or.inl ⟨rfl, rfl⟩ | exact Or.inr ⟨rfl, rfl⟩))))
  go_wp2
  go_ret
  exact ⟨rfl, (Upto.refl _ _).drewN _⟩
theorem mb_good {w0 w : World} {l2 : List Thing} (l1 : List Thing) {b lim : Nat} {cs : List Int} {ss : List (Nat × Nat)} (h : St w0 w (l1 ++ MT b lim cs ss :: l2)) : ∀ w', Upto (fun _ => False) w w' → Calls Try.prog 55 #[ptr b] w' fun e w2 => e = .returned (.bool true) ∧ w' = w2 := fun w' hu => by
  obtain ⟨F, hA, _⟩ := h.get l1
  have hA : MPile w b lim cs ss F := hA
  obtain ⟨g, n, c, _, h2, _⟩ := hA.spans
  exact mvalid_at b _ n c w' ((hu.cell (p := ⟨b, 2, none⟩) (World.block_lt_of_cell? _ _ h2) id).trans h2)

set_option maxRecDepth 10000 in
set_option maxHeartbeats 4000000 in
theorem mbnil_true (handle i n : Int) (w : World) : Calls Try.prog 9 #[.int .i64 handle, .int .i64 i, .int .i64 n] w fun e w' => e = .returned (.bool true) ∧ Below w.heap.size w w' := by
  go_enter Try.func9, Try.ntmps9
  go_wp2_with (go_at_call 15; refine (SM.new 3 _ (St.nil w) rfl (by decide)).mono ?_; rintro e w1 ⟨good, rfl, hs⟩; have S1 := Lib.hid hs; clear hs)
  have hS2 := (S1.out.alloc (Obj.cells #[.int .i64 0, .slice none 0 0, .slice none 0 0] 72)).alloc (Obj.cells #[.pointer none, .pointer (some ⟨w1.heap.size, 0, none⟩)] 23)
  rw [show (w1.alloc (Obj.cells #[.int .i64 0, .slice none 0 0, .slice none 0 0] 72)).heap.size = w1.heap.size + 1 from by simp] at hS2
  have S2 := Lib.hid hS2; clear hS2
  generalize ((w1.alloc (Obj.cells #[.int .i64 0, .slice none 0 0, .slice none 0 0] 72)).alloc (Obj.cells #[.pointer none, .pointer (some ⟨w1.heap.size, 0, none⟩)] 23)) = wt at *
  obtain ⟨B, hB⟩ : ∃ B, B = w1.heap.size + 1 := ⟨_, rfl⟩
  rw [← hB] at S2 ⊢
  have HB := Lib.hid hB; clear hB
  generalize w1.heap.size = Z at *
  go_loopw [36] (fun i wr => ∃ j : Nat, j ≤ 2 ∧ i = .int .i64 j ∧ Hid (St w wr [Blk B (Obj.cells #[.pointer none, .pointer (some ⟨Z, 0, none⟩)] 23), Blk Z (Obj.cells #[.int .i64 0, .slice none 0 0, .slice none 0 0] 72), MT good 3 [] [(0, 0)]])) (fun i _ => 2 - (intOf i).toNat)
  case atStart => exact ⟨0, by decide, rfl, S2⟩
  case round =>
    obtain ⟨j, hj, rfl, hM⟩ := hrel
    obtain rfl | rfl | rfl : j = 0 ∨ j = 1 ∨ j = 2 := by omega
    · have t0 := hM.out.cell [] 0 (.pointer none) rfl
      go_wp2_with (first
        | (go_at_call 25; have tk := K8; refine (mb_same2 _ _ _ (mb_good [_, _] K8.out) (mbNone _)).mono ?_; rintro e w9 ⟨rfl, hu⟩; have K9 := Lib.hid (K8.out.step hu); clear hu)
        | (go_at_call 25; have tk := K7; refine (mb_same _ _ _ (mbNone _)).mono ?_; rintro e w9 ⟨rfl, hu⟩; have K8 := Lib.hid (K7.out.step hu); clear hu)
        | (go_at_call 25; refine (mb_same _ _ _ (mbNone _)).mono ?_; rintro e w9 ⟨rfl, hu⟩; have K7 := Lib.hid (K5.out.step hu); clear hu)
        | (go_at_call 21; refine (mb_copy _ _ (mbNone _)).mono ?_; rintro e w9 ⟨rfl, rfl⟩)
        | (go_at_call 44; refine (mb_limit _ _ (mbNone _)).mono ?_; rintro e w9 ⟨rfl, rfl⟩)
        | (go_at_call 19; refine (mb_count _ _ (mbNone _)).mono ?_; rintro e w9 ⟨rfl, rfl⟩)
        | (go_at_call 18; refine (mb_cells _ _ (mbNone _)).mono ?_; rintro e w9 ⟨rfl, rfl⟩)
        | (go_at_call 17; refine (mb_span _ _ _ (mbNone _)).mono ?_; rintro e w9 ⟨rfl, rfl⟩)
        | (go_at_call 23; refine (mstore_bad _ _ _ _ 1 _ (by decide) (mb_arr _ _ _ (mbNone _))).mono ?_; rintro e w9 ⟨rfl, hu⟩; have K5 := Lib.hid (K4.out.step hu); clear hu)
        | (go_at_call 22; refine (mload_bad _ _ _ 1 _ (by decide) (mb_arr _ _ _ (mbNone _))).mono ?_; rintro e w9 ⟨rfl, hu⟩; have K4 := Lib.hid (K3.out.step hu); clear hu)
        | (go_at_call 24; refine (mb_len _ _ _ (mbNone _)).mono ?_; rintro e w9 ⟨rfl, hu⟩; have K3 := Lib.hid (hM.out.step hu); clear hu)
        | (go_at_call 16; refine (mb_alloc _ _ _ (mbNone _)).mono ?_; rintro e w9 ⟨rfl, rfl⟩))
      go_roundw
      case rel => exact ⟨1, by decide, rfl, K9⟩
      case measure => simp [intOf]
    · have t0 := hM.out.cell [] 1 (.pointer (some ⟨Z, 0, none⟩)) rfl
      go_wp2_with (first
        | (go_at_call 25; have tk := K8; refine (mb_same2 _ _ _ (mb_good [_, _] K8.out) (mbZero [_] K8.out rfl)).mono ?_; rintro e w9 ⟨rfl, hu⟩; have K9 := Lib.hid (K8.out.step hu); clear hu)
        | (go_at_call 25; have tk := K7; refine (mb_same _ _ _ (mbZero [_] K7.out rfl)).mono ?_; rintro e w9 ⟨rfl, hu⟩; have K8 := Lib.hid (K7.out.step hu); clear hu)
        | (go_at_call 25; refine (mb_same _ _ _ (mbZero [_] K5.out rfl)).mono ?_; rintro e w9 ⟨rfl, hu⟩; have K7 := Lib.hid (K5.out.step hu); clear hu)
        | (go_at_call 21; refine (mb_copy _ _ (mbZero [_] K5.out rfl)).mono ?_; rintro e w9 ⟨rfl, rfl⟩)
        | (go_at_call 44; refine (mb_limit _ _ (mbZero [_] K5.out rfl)).mono ?_; rintro e w9 ⟨rfl, rfl⟩)
        | (go_at_call 19; refine (mb_count _ _ (mbZero [_] K5.out rfl)).mono ?_; rintro e w9 ⟨rfl, rfl⟩)
        | (go_at_call 18; refine (mb_cells _ _ (mbZero [_] K5.out rfl)).mono ?_; rintro e w9 ⟨rfl, rfl⟩)
        | (go_at_call 17; refine (mb_span _ _ _ (mbZero [_] K5.out rfl)).mono ?_; rintro e w9 ⟨rfl, rfl⟩)
        | (go_at_call 23; refine (mstore_bad _ _ _ _ 1 _ (by decide) (mb_arr _ _ _ (mbZero [_] K4.out rfl))).mono ?_; rintro e w9 ⟨rfl, hu⟩; have K5 := Lib.hid (K4.out.step hu); clear hu)
        | (go_at_call 22; refine (mload_bad _ _ _ 1 _ (by decide) (mb_arr _ _ _ (mbZero [_] K3.out rfl))).mono ?_; rintro e w9 ⟨rfl, hu⟩; have K4 := Lib.hid (K3.out.step hu); clear hu)
        | (go_at_call 24; refine (mb_len _ _ _ (mbZero [_] hM.out rfl)).mono ?_; rintro e w9 ⟨rfl, hu⟩; have K3 := Lib.hid (hM.out.step hu); clear hu)
        | (go_at_call 16; refine (mb_alloc _ _ _ (mbZero [_] hM.out rfl)).mono ?_; rintro e w9 ⟨rfl, rfl⟩))
      go_roundw
      case rel => exact ⟨2, by decide, rfl, K9⟩
      case measure => simp [intOf]
    · rw [show ((2 : Nat) : Int) = 2 from rfl]
      go_wp2_with (go_at_call 20; refine (works29 _).mono ?_; rintro e w9 ⟨rfl, hb⟩; have BF := Lib.hid hb; clear hb)
      go_ret
      exact ⟨rfl, Upto.below ((Upto.of_below hM.out.base _).trans (Upto.of_below BF.out _))⟩

end Go.Proofs.Ytjganbcolaakkaa
