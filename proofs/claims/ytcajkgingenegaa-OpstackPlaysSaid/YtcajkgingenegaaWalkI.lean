/-
  Pop and Copy of both, walked.
-/
import Derived.Test.YtcajkgingenegaaWalkH
import Derived.Deep.RegionHeld3
namespace Go.Proofs.Ytcajkgingenegaa
open Go.RowKit

/-- A row of one number or more: where its first one lies. -/
theorem Row.head {w : World} {u : Value} {x : Int} (h : Row w u [x]) : ∃ g o c, u = .slice (some ⟨g, o, none⟩) 1 c ∧ w.cell? ⟨g, o, none⟩ = some (.int .i64 x) := by
  obtain ⟨ao, c, rfl, h1, h2, h3, h4⟩ := h.sees
  cases ao with
  | none => have := h3 rfl; simp at h1; omega
  | some a =>
    obtain ⟨g, o, sp⟩ := a
    obtain ⟨hs, h5⟩ := h4 _ rfl
    obtain rfl : sp = none := (hs (by simp)).1
    refine ⟨g, o, c, rfl, ?_⟩
    have := h5 0 (by simp)
    simpa using this

def PopC (w : World) (T b : Nat) (most : Int) (v : Value) (xs : List Int) (x : Int) (e : Ending) (w' : World) : Prop :=
  e = .returned (.tuple #[.int .i64 x, .int .i64 0]) ∧ ∃ v', Stk w' T b most v' xs ∧ Upto (fun k => k = b) w w' ∧ ∀ k, rowOf v' k → rowOf v k ∨ w.heap.size ≤ k

/-- A new stack was made. -/
def CopyC (w : World) (T : Nat) (most : Int) (xs : List Int) (e : Ending) (w' : World) : Prop :=
  ∃ b v, e = .returned (.pointer (some ⟨b, 0, none⟩)) ∧ Stk w' T b most v xs ∧ w.heap.size ≤ b ∧ (∀ k, rowOf v k → w.heap.size ≤ k) ∧ Below w.heap.size w w'

/-- A block of a stack, just made. -/
theorem Stk.made {w : World} {v : Value} {xs : List Int} (most : Int) (T : Nat) (h : Row w v xs) : Stk (w.alloc (.cells #[.bool true, .int .i64 most, v] T)) T w.heap.size most v xs := by
  refine ⟨heap_alloc_new w _, h.kept ((Upto.refl (fun _ => False) w).alloc _) (fun _ _ => id), fun e => ?_⟩
  have := h.lt _ e
  omega

theorem pop_nil (w : World) : Calls Try.prog 17 #[.pointer none] w fun e w' => e = .returned (.tuple #[.int .i64 0, .int .i64 1]) ∧ w = w' := by
  go_enter Try.func17, Try.ntmps17
  go_wp2_with (go_at_call 12; refine (take_nil 1 _).mono ?_; rintro e w' ⟨rfl, rfl⟩)
  go_ret2
  exact ⟨rfl, rfl⟩
theorem pop_none' (b c : Nat) (ao : Option Addr) (w : World) (h0 : w.cell? ⟨b, 0, none⟩ = some (.bool true)) (h2 : w.cell? ⟨b, 2, none⟩ = some (.slice ao 0 c)) :
    Calls Try.prog 17 #[.pointer (some ⟨b, 0, none⟩)] w fun e w' => e = .returned (.tuple #[.int .i64 0, .int .i64 4]) ∧ w = w' := by
  go_enter Try.func17, Try.ntmps17
  go_wp2_with (go_at_call 12; refine (take_many' b 1 _ ao 0 c h0 h2 (by decide)).mono ?_; rintro e w' ⟨rfl, rfl⟩)
  go_ret2
  exact ⟨rfl, rfl⟩
theorem pop_none {T b : Nat} {most : Int} {v : Value} {w : World} (h : Stk w T b most v []) :
    Calls Try.prog 17 #[.pointer (some ⟨b, 0, none⟩)] w fun e w' => e = .returned (.tuple #[.int .i64 0, .int .i64 4]) ∧ w = w' := by
  obtain ⟨ao, c, rfl, _⟩ := h.2.1.slice
  exact pop_none' b c ao w h.c0 h.c2
set_option maxHeartbeats 400000 in
theorem pop_some {T b : Nat} {most : Int} {v : Value} {xs : List Int} {x : Int} {w : World} (h : Stk w T b most v (xs ++ [x])) (hb : (xs.length + 1) * 8 ≤ 140737488355328) :
    Calls Try.prog 17 #[.pointer (some ⟨b, 0, none⟩)] w (PopC w T b most v xs x) := by
  have hT := take_at_some 1 h (by simp) (by simpa using hb)
  rw [show (xs ++ [x]).length - 1 = xs.length by simp] at hT
  have HT := Lib.hid hT; clear hT
  have H := Lib.hid h; clear h
  go_enter Try.func17, Try.ntmps17
  go_wp2_with (go_at_call 12; refine HT.out.mono ?_; rintro e w' ⟨u, v', rfl, hu, hk, hs, hup, hv, hd⟩)
  rw [List.drop_left] at hu
  rw [List.take_left] at hs
  obtain ⟨g, o, c, rfl, hcell⟩ := hu.head
  have Hs := Lib.hid hs; clear hs
  have Hu := Lib.hid hup; clear hup
  have Hv := Lib.hid hv; clear hv
  clear hu hk hd
  go_wp2
  go_simp
  go_wp2
  go_ret2
  exact ⟨rfl, v', Hs.out, Hu.out, Hv.out⟩

theorem copy_nil (w : World) : Calls Try.prog 20 #[.pointer none] w fun e w' => e = .returned (.pointer none) ∧ w = w' := by
  go_enter Try.func20, Try.ntmps20
  go_wp2_with (go_at_call 24; refine (valid_nil _).mono ?_; rintro e w' ⟨rfl, rfl⟩)
  go_ret
  exact ⟨rfl, rfl⟩
theorem rpop_nil (w : World) : Calls Try.prog 18 #[.pointer none] w fun e w' => e = .returned (.tuple #[.int .i64 0, .int .i64 1]) ∧ w = w' := by
  go_enter Try.func18, Try.ntmps18
  go_wp2_with (go_at_call 19; refine (rtake_nil 1 _).mono ?_; rintro e w' ⟨rfl, rfl⟩)
  go_ret2
  exact ⟨rfl, rfl⟩
theorem rpop_none' (b c : Nat) (ao : Option Addr) (w : World) (h0 : w.cell? ⟨b, 0, none⟩ = some (.bool true)) (h2 : w.cell? ⟨b, 2, none⟩ = some (.slice ao 0 c)) :
    Calls Try.prog 18 #[.pointer (some ⟨b, 0, none⟩)] w fun e w' => e = .returned (.tuple #[.int .i64 0, .int .i64 4]) ∧ w = w' := by
  go_enter Try.func18, Try.ntmps18
  go_wp2_with (go_at_call 19; refine (rtake_many' b 1 _ ao 0 c h0 h2 (by decide)).mono ?_; rintro e w' ⟨rfl, rfl⟩)
  go_ret2
  exact ⟨rfl, rfl⟩
theorem rpop_none {T b : Nat} {most : Int} {v : Value} {w : World} (h : Stk w T b most v []) :
    Calls Try.prog 18 #[.pointer (some ⟨b, 0, none⟩)] w fun e w' => e = .returned (.tuple #[.int .i64 0, .int .i64 4]) ∧ w = w' := by
  obtain ⟨ao, c, rfl, _⟩ := h.2.1.slice
  exact rpop_none' b c ao w h.c0 h.c2
set_option maxHeartbeats 400000 in
theorem rpop_some {T b : Nat} {most : Int} {v : Value} {xs : List Int} {x : Int} {w : World} (h : Stk w T b most v (xs ++ [x])) (hb : (xs.length + 1) * 8 ≤ 140737488355328) :
    Calls Try.prog 18 #[.pointer (some ⟨b, 0, none⟩)] w (PopC w T b most v xs x) := by
  have hT := rtake_some 1 h (by simp) (by simpa using hb)
  rw [show (xs ++ [x]).length - 1 = xs.length by simp] at hT
  have HT := Lib.hid hT; clear hT
  have H := Lib.hid h; clear h
  go_enter Try.func18, Try.ntmps18
  go_wp2_with (go_at_call 19; refine HT.out.mono ?_; rintro e w' ⟨u, v', rfl, hu, hk, hs, hup, hv, hd⟩)
  rw [List.drop_left] at hu
  rw [List.take_left] at hs
  obtain ⟨g, o, c, rfl, hcell⟩ := hu.head
  have Hs := Lib.hid hs; clear hs
  have Hu := Lib.hid hup; clear hup
  have Hv := Lib.hid hv; clear hv
  clear hu hk hd
  go_wp2
  go_simp
  go_wp2
  go_ret2
  exact ⟨rfl, v', Hs.out, Hu.out, Hv.out⟩

theorem rcopy_nil (w : World) : Calls Try.prog 21 #[.pointer none] w fun e w' => e = .returned (.pointer none) ∧ w = w' := by
  go_enter Try.func21, Try.ntmps21
  go_wp2_with (go_at_call 26; refine (rvalid_nil _).mono ?_; rintro e w' ⟨rfl, rfl⟩)
  go_ret
  exact ⟨rfl, rfl⟩
set_option maxHeartbeats 1000000 in
theorem copy_at {T b : Nat} {most : Int} {v : Value} {xs : List Int} {w : World} (h : Stk w T b most v xs) (hb : xs.length * 8 ≤ 140737488355328) :
    Calls Try.prog 20 #[.pointer (some ⟨b, 0, none⟩)] w (CopyC w 48 most xs) := by
  obtain ⟨ao, n, c, rfl⟩ := h.2.1.shape
  have h0 := h.c0
  have h1 := h.c1
  have h2 := h.c2
  have hlt := h.lt
  have hs := h.2.1.sees
  have Hs := Lib.hid hs; clear hs
  have Hb := Lib.hid hb; clear hb
  have H := Lib.hid h; clear h
  go_enter Try.func20, Try.ntmps20
  go_wp2_with (go_at_call 24; refine (valid_at b true _ h0).mono ?_; rintro e w' ⟨rfl, rfl⟩)
  go_region_held3 (fun w' => w'.cell? ⟨b, 1, none⟩ = some (.int .i64 most) ∧ w'.cell? ⟨b, 2, none⟩ = some (.slice ao n c)) (go_keep) (first | (go_at_call 25; refine (clone_at (w := w.drew) (v := .slice ao n c) (xs := xs) (Hs.out.kept (Upto.refl (fun _ => False) w).drew (fun _ _ => id)) Hb.out).mono ?_; rintro e w' ⟨u, rfl, hr, hk, hbl⟩; obtain ⟨bo, m, d, rfl⟩ := hr.shape; have k1 := (hbl.cell (p := ⟨b, 1, none⟩) hlt).trans h1; have k2 := (hbl.cell (p := ⟨b, 2, none⟩) hlt).trans h2; have Hr := Lib.hid hr; clear hr; have Hk := Lib.hid hk; clear hk; have Hbl := Lib.hid hbl; clear hbl))
  go_wp2
  go_ret
  have hz : w.heap.size ≤ w'.heap.size := Hbl.out.size
  exact ⟨_, _, rfl, Stk.made most _ Hr.out, hz, Hk.out, Upto.below ((((Upto.refl _ w).drew).trans (Upto.of_below Hbl.out _)).alloc _)⟩

set_option maxHeartbeats 1000000 in
theorem rcopy_at {T b : Nat} {most : Int} {v : Value} {xs : List Int} {w : World} (h : Stk w T b most v xs) (hb : xs.length * 8 ≤ 140737488355328) :
    Calls Try.prog 21 #[.pointer (some ⟨b, 0, none⟩)] w (CopyC w 54 most xs) := by
  obtain ⟨ao, n, c, rfl⟩ := h.2.1.shape
  have h0 := h.c0
  have h1 := h.c1
  have h2 := h.c2
  have hlt := h.lt
  have hs := h.2.1.sees
  have Hs := Lib.hid hs; clear hs
  have Hb := Lib.hid hb; clear hb
  have H := Lib.hid h; clear h
  go_enter Try.func21, Try.ntmps21
  go_wp2_with (go_at_call 26; refine (rvalid_at b true _ h0).mono ?_; rintro e w' ⟨rfl, rfl⟩)
  go_region_held3 (fun w' => w'.cell? ⟨b, 1, none⟩ = some (.int .i64 most) ∧ w'.cell? ⟨b, 2, none⟩ = some (.slice ao n c)) (go_keep) (first | (go_at_call 23; refine (rall_at (w := w.drew) (xs := xs) (H.out.kept (Upto.refl (fun _ => False) w).drew id (fun _ _ => id)) Hb.out).mono ?_; rintro e w' ⟨u, rfl, hr, hk, hbl⟩; obtain ⟨bo, m, d, rfl⟩ := hr.shape; have k1 := (hbl.cell (p := ⟨b, 1, none⟩) hlt).trans h1; have k2 := (hbl.cell (p := ⟨b, 2, none⟩) hlt).trans h2; have Hr := Lib.hid hr; clear hr; have Hk := Lib.hid hk; clear hk; have Hbl := Lib.hid hbl; clear hbl))
  go_wp2
  go_ret
  have hz : w.heap.size ≤ w'.heap.size := Hbl.out.size
  exact ⟨_, _, rfl, Stk.made most _ Hr.out, hz, Hk.out, Upto.below ((((Upto.refl _ w).drew).trans (Upto.of_below Hbl.out _)).alloc _)⟩

end Go.Proofs.Ytcajkgingenegaa
