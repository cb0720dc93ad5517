/-
  The reference's Push, All and Take, walked.
-/
import Derived.Test.YtcajkgingenegaaWalkE
namespace Go.Proofs.Ytcajkgingenegaa
open Go.RowKit

set_option maxHeartbeats 800000 in
theorem rpush_some (b T : Nat) (most x : Int) (ao : Option Addr) (n c : Nat) (xs : List Int) (w : World) (h : Stk w T b most (.slice ao n c) xs) (hl : xs.length = n) (hm : n < most) (hb : (n + 1) * 8 ≤ 140737488355328) :
    Calls Try.prog 16 #[.pointer (some ⟨b, 0, none⟩), .int .i64 x] w (Pushed w T b most (.slice ao n c) (xs ++ [x])) := by
  have h0 := h.c0
  have h1 := h.c1
  have h2 := h.c2
  have f2 := h.f2
  have hlt := h.lt
  have H := Lib.hid h; clear h
  have Hl := Lib.hid hl; clear hl
  go_enter Try.func16, Try.ntmps16
  go_wp2_with (go_at_call 26; refine (rvalid_at b true _ h0).mono ?_; rintro e w' ⟨rfl, rfl⟩)
  go_quiet (fail)
  generalize hW : w.drewN nq = wq
  have hwq : Upto (fun _ => False) w wq := by rw [← hW]; exact (Upto.refl _ w).drewN nq
  have hsz : wq.heap.size = w.heap.size := by rw [← hW]; rfl
  have q0 := (hwq.cell (p := ⟨b, 0, none⟩) hlt id).trans h0
  have q2 := (hwq.cell (p := ⟨b, 2, none⟩) hlt id).trans h2
  have hltq : b < wq.heap.size := by omega
  have Hwq := Lib.hid hwq; clear hwq
  have Hsz := Lib.hid hsz; clear hsz hW
  go_wp2_with (at_builtin; refine wpList_append_row _ rfl (.tmp 19) (.tmp 23) 22 rfl Try.underlying22 Try.infoInt (.slice (some ⟨wq.heap.size, 0, none⟩) 0 0) (.slice ao n c) [] xs rfl rfl ?a0 ?a1 ?a2 ?a3)
  case a0 => exact Row.made wq
  case a1 => exact (H.out.2.1.kept (Hwq.out.alloc _) (fun _ _ => id)).sees
  case a2 => rw [Hl.out]; simp; omega
  case a3 =>
    intro v1 w1 hr1 hu1 hk1
    have hsz := Hsz.out
    have hb1 : Below w.heap.size w w1 := Upto.below ((Hwq.out.alloc _).step hu1 fun i hi hS => by
      have := (rowOf_slice _ _ _ _).1 hS
      simp at this; omega)
    obtain ⟨bo, m, d, rfl⟩ := hr1.shape
    have hk1' : ∀ k, rowOf (.slice bo m d) k → w.heap.size ≤ k := fun k hk => by
      rcases hk1 k hk with e | e
      · have := (rowOf_slice _ _ _ _).1 e
        simp at this; omega
      · have : wq.heap.size + 1 ≤ k := by simpa using e
        omega
    clear hsz
    have hz1 := hb1.size
    have Hr1 := Lib.hid hr1; clear hr1
    have Hk1 := Lib.hid hk1'; clear hk1 hk1' hu1
    have Hb1 := Lib.hid hb1; clear hb1
    go_wp2_with (at_builtin; refine wpList_append_row _ rfl (.tmp 24) (.tmp 26) 22 rfl Try.underlying22 Try.infoInt (.slice bo m d) (.slice (some ⟨w1.heap.size, 0, none⟩) 1 1) xs [x] rfl rfl ?b0 ?b1 ?b2 ?b3)
    case b0 => exact (by simpa using Hr1.out : Row w1 (.slice bo m d) xs).kept ((Upto.refl (fun _ => False) w1).alloc _) (fun _ _ => id)
    case b1 => exact Sees.one w1 x _
    case b2 => rw [Hl.out]; simpa using hb
    case b3 =>
      intro v2 w2 hr2 hu2 hk2
      have hb2 : Below w.heap.size w w2 := Upto.below (((Upto.of_below Hb1.out _).alloc _).step hu2 fun i hi hS => by
        have := Hk1.out i hS
        omega)
      have k0 := (hb2.cell (p := ⟨b, 0, none⟩) hlt).trans h0
      have k2 := (hb2.cell (p := ⟨b, 2, none⟩) hlt).trans h2
      have g2 := (hb2.frozen (p := ⟨b, 2, none⟩) hlt).trans f2
      obtain ⟨co, m2, d2, rfl⟩ := hr2.shape
      have hk2' : ∀ k, rowOf (.slice co m2 d2) k → w.heap.size ≤ k := fun k hk => by
        rcases hk2 k hk with e | e
        · exact Hk1.out k e
        · have : w1.heap.size + 1 ≤ k := by simpa using e
          omega
      have Hr2 := Lib.hid hr2; clear hr2
      have Hk2 := Lib.hid hk2'; clear hk2 hk2' hu2
      have Hb2 := Lib.hid hb2; clear hb2
      go_wp2
      go_ret
      obtain ⟨p1, p2⟩ := stk_put ((Hb2.out.block b hlt).trans H.out.1) Hr2.out (fun e => by have := Hk2.out b e; omega)
      exact ⟨rfl, _, p1, (Upto.of_below Hb2.out _).trans (p2.mono (fun k _ h => Or.inl h)), fun k hk => Or.inr (Hk2.out k hk)⟩

theorem rpush_at {T b : Nat} {most : Int} {v : Value} {xs : List Int} {w : World} (x : Int) (h : Stk w T b most v xs) (hm : xs.length < most) (hb : (xs.length + 1) * 8 ≤ 140737488355328) :
    Calls Try.prog 16 #[.pointer (some ⟨b, 0, none⟩), .int .i64 x] w (Pushed w T b most v (xs ++ [x])) := by
  obtain ⟨ao, c, rfl, _⟩ := h.2.1.slice
  exact rpush_some b T most x ao xs.length c xs w h rfl hm hb

theorem rall_nil (w : World) : Calls Try.prog 23 #[.pointer none] w fun e w' => e = .returned (.slice none 0 0) ∧ w = w' := by
  go_enter Try.func23, Try.ntmps23
  go_wp2_with (go_at_call 26; refine (rvalid_nil _).mono ?_; rintro e w' ⟨rfl, rfl⟩)
  go_ret
  exact ⟨rfl, rfl⟩

end Go.Proofs.Ytcajkgingenegaa
