/-
  Push, in the program and in the reference, walked.
-/
import Derived.Test.YtcajkgingenegaaWalkD
namespace Go.Proofs.Ytcajkgingenegaa
open Go.RowKit

theorem push_nil (n : Int) (w : World) : Calls Try.prog 10 #[.pointer none, .int .i64 n] w fun e w' => e = .returned (.int .i64 1) ∧ w = w' := by
  go_enter Try.func10, Try.ntmps10
  go_wp2_with (go_at_call 24; refine (valid_nil _).mono ?_; rintro e w' ⟨rfl, rfl⟩)
  go_ret
  exact ⟨rfl, rfl⟩
theorem push_zero (b : Nat) (n : Int) (w : World) (h0 : w.cell? ⟨b, 0, none⟩ = some (.bool false)) : Calls Try.prog 10 #[.pointer (some ⟨b, 0, none⟩), .int .i64 n] w fun e w' => e = .returned (.int .i64 1) ∧ w = w' := by
  go_enter Try.func10, Try.ntmps10
  go_wp2_with (go_at_call 24; refine (valid_at b false _ h0).mono ?_; rintro e w' ⟨rfl, rfl⟩)
  go_ret
  exact ⟨rfl, rfl⟩
theorem rpush_nil (n : Int) (w : World) : Calls Try.prog 16 #[.pointer none, .int .i64 n] w fun e w' => e = .returned (.int .i64 1) ∧ w = w' := by
  go_enter Try.func16, Try.ntmps16
  go_wp2_with (go_at_call 26; refine (rvalid_nil _).mono ?_; rintro e w' ⟨rfl, rfl⟩)
  go_ret
  exact ⟨rfl, rfl⟩

set_option maxHeartbeats 400000 in
theorem push_full' (b n c : Nat) (ao : Option Addr) (most x : Int) (w : World) (h0 : w.cell? ⟨b, 0, none⟩ = some (.bool true)) (h1 : w.cell? ⟨b, 1, none⟩ = some (.int .i64 most)) (h2 : w.cell? ⟨b, 2, none⟩ = some (.slice ao n c)) (hm : most ≤ n) :
    Calls Try.prog 10 #[.pointer (some ⟨b, 0, none⟩), .int .i64 x] w fun e w' => e = .returned (.int .i64 10) ∧ ∃ k, w' = w.drewN k := by
  go_enter Try.func10, Try.ntmps10
  go_wp2_with (go_at_call 24; refine (valid_at b true _ h0).mono ?_; rintro e w' ⟨rfl, rfl⟩)
  go_quiet (fail)
  go_wp2
  go_ret
  exact ⟨rfl, nq, rfl⟩
set_option maxHeartbeats 400000 in
theorem rpush_full' (b n c : Nat) (ao : Option Addr) (most x : Int) (w : World) (h0 : w.cell? ⟨b, 0, none⟩ = some (.bool true)) (h1 : w.cell? ⟨b, 1, none⟩ = some (.int .i64 most)) (h2 : w.cell? ⟨b, 2, none⟩ = some (.slice ao n c)) (hm : most ≤ n) :
    Calls Try.prog 16 #[.pointer (some ⟨b, 0, none⟩), .int .i64 x] w fun e w' => e = .returned (.int .i64 10) ∧ ∃ k, w' = w.drewN k := by
  go_enter Try.func16, Try.ntmps16
  go_wp2_with (go_at_call 26; refine (rvalid_at b true _ h0).mono ?_; rintro e w' ⟨rfl, rfl⟩)
  go_quiet (fail)
  go_wp2
  go_ret
  exact ⟨rfl, nq, rfl⟩

/-- The stack b now has these numbers; of what was there, only its own blocks have turned; its row is its own or new. -/
def Now (w : World) (T b : Nat) (most : Int) (v : Value) (ys : List Int) (w' : World) : Prop :=
  ∃ v', Stk w' T b most v' ys ∧ Upto (fun k => k = b ∨ rowOf v k) w w' ∧ ∀ k, rowOf v' k → rowOf v k ∨ w.heap.size ≤ k
def Pushed (w : World) (T b : Nat) (most : Int) (v : Value) (ys : List Int) (e : Ending) (w' : World) : Prop := e = .returned (.int .i64 0) ∧ Now w T b most v ys w'

set_option maxHeartbeats 800000 in
theorem push_some (b T : Nat) (most x : Int) (ao : Option Addr) (n c : Nat) (xs : List Int) (w : World) (h : Stk w T b most (.slice ao n c) xs) (hl : xs.length = n) (hm : n < most) (hb : (n + 1) * 8 ≤ 140737488355328) :
    Calls Try.prog 10 #[.pointer (some ⟨b, 0, none⟩), .int .i64 x] w (Pushed w T b most (.slice ao n c) (xs ++ [x])) := by
  have h0 := h.c0
  have h1 := h.c1
  have h2 := h.c2
  have f2 := h.f2
  have hlt := h.lt
  have H := Lib.hid h; clear h
  have Hl := Lib.hid hl; clear hl
  go_enter Try.func10, Try.ntmps10
  go_wp2_with (go_at_call 24; refine (valid_at b true _ h0).mono ?_; rintro e w' ⟨rfl, rfl⟩)
  go_quiet (fail)
  go_wp2_with (at_builtin; refine wpList_append_row _ rfl (.tmp 24) (.tmp 26) 22 rfl Try.underlying22 Try.infoInt (.slice ao n c) (.slice (some ⟨w.heap.size, 0, none⟩) 1 1) xs [x] rfl rfl ?c0 ?c1 ?c2 ?c3)
  case c0 => exact (H.out.2.1.kept (Upto.refl (fun _ => False) w) (fun _ _ => id)).kept (((Upto.refl (fun _ => False) w).drewN nq).alloc _) (fun _ _ => id)
  case c1 => exact Sees.one (w.drewN nq) x _
  case c2 => rw [Hl.out]; simpa using hb
  case c3 =>
    intro v' w1 hr hu hk
    have hbl : Upto (rowOf (.slice ao n c)) w w1 := (((Upto.refl _ w).drewN nq).alloc _).step hu (fun _ _ h => h)
    have k0 := (hbl.cell (p := ⟨b, 0, none⟩) hlt H.out.2.2).trans h0
    have k2 := (hbl.cell (p := ⟨b, 2, none⟩) hlt H.out.2.2).trans h2
    have g2 := (hbl.frozen (p := ⟨b, 2, none⟩) hlt H.out.2.2).trans f2
    obtain ⟨bo, m, d, rfl⟩ := hr.shape
    have Hr := Lib.hid hr; clear hr
    have Hu := Lib.hid hbl; clear hu hbl
    have Hk := Lib.hid hk; clear hk
    go_wp2
    go_ret
    have hnb : ¬ rowOf (.slice bo m d) b := fun e => by
      rcases Hk.out b e with e | e
      · exact H.out.2.2 e
      · have : w.heap.size + 1 ≤ b := by simpa using e
        omega
    obtain ⟨p1, p2⟩ := stk_put ((Hu.out.block b hlt H.out.2.2).trans H.out.1) Hr.out hnb
    refine ⟨rfl, _, p1, (Hu.out.mono (fun k _ h => Or.inr h)).trans (p2.mono (fun k _ h => Or.inl h)), fun k hk => ?_⟩
    rcases Hk.out k hk with e | e
    · exact Or.inl e
    · right
      have : w.heap.size + 1 ≤ k := by simpa using e
      omega

theorem push_at {T b : Nat} {most : Int} {v : Value} {xs : List Int} {w : World} (x : Int) (h : Stk w T b most v xs) (hm : xs.length < most) (hb : (xs.length + 1) * 8 ≤ 140737488355328) :
    Calls Try.prog 10 #[.pointer (some ⟨b, 0, none⟩), .int .i64 x] w (Pushed w T b most v (xs ++ [x])) := by
  obtain ⟨ao, c, rfl, _⟩ := h.2.1.slice
  exact push_some b T most x ao xs.length c xs w h rfl hm hb
theorem push_full {T b : Nat} {most : Int} {v : Value} {xs : List Int} {w : World} (x : Int) (h : Stk w T b most v xs) (hm : most ≤ xs.length) :
    Calls Try.prog 10 #[.pointer (some ⟨b, 0, none⟩), .int .i64 x] w fun e w' => e = .returned (.int .i64 10) ∧ ∃ k, w' = w.drewN k := by
  obtain ⟨ao, c, rfl, _⟩ := h.2.1.slice
  exact push_full' b xs.length c ao most x w h.c0 h.c1 h.c2 hm
theorem rpush_full {T b : Nat} {most : Int} {v : Value} {xs : List Int} {w : World} (x : Int) (h : Stk w T b most v xs) (hm : most ≤ xs.length) :
    Calls Try.prog 16 #[.pointer (some ⟨b, 0, none⟩), .int .i64 x] w fun e w' => e = .returned (.int .i64 10) ∧ ∃ k, w' = w.drewN k := by
  obtain ⟨ao, c, rfl, _⟩ := h.2.1.slice
  exact rpush_full' b xs.length c ao most x w h.c0 h.c1 h.c2 hm

end Go.Proofs.Ytcajkgingenegaa
