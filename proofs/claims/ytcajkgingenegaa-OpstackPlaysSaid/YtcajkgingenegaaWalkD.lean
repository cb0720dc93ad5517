/-
  All, Take, walked.
-/
import Derived.Test.YtcajkgingenegaaWalkC
namespace Go.Proofs.Ytcajkgingenegaa
open Go.RowKit

theorem all_nil (w : World) : Calls Try.prog 11 #[.pointer none] w fun e w' => e = .returned (.slice none 0 0) ∧ w = w' := by
  go_enter Try.func11, Try.ntmps11
  go_wp2_with (go_at_call 24; refine (valid_nil _).mono ?_; rintro e w' ⟨rfl, rfl⟩)
  go_ret
  exact ⟨rfl, rfl⟩
theorem all_zero (b : Nat) (w : World) (h0 : w.cell? ⟨b, 0, none⟩ = some (.bool false)) : Calls Try.prog 11 #[.pointer (some ⟨b, 0, none⟩)] w fun e w' => e = .returned (.slice none 0 0) ∧ w = w' := by
  go_enter Try.func11, Try.ntmps11
  go_wp2_with (go_at_call 24; refine (valid_at b false _ h0).mono ?_; rintro e w' ⟨rfl, rfl⟩)
  go_ret
  exact ⟨rfl, rfl⟩
theorem all_at' (b : Nat) (w : World) (ao : Option Addr) (n c : Nat) (xs : List Int) (h0 : w.cell? ⟨b, 0, none⟩ = some (.bool true)) (h2 : w.cell? ⟨b, 2, none⟩ = some (.slice ao n c)) (hs : Sees w (.slice ao n c) xs) (hb : xs.length * 8 ≤ 140737488355328) :
    Calls Try.prog 11 #[.pointer (some ⟨b, 0, none⟩)] w (Cloned w xs) := by
  have Hs := Lib.hid hs; clear hs
  go_enter Try.func11, Try.ntmps11
  go_wp2_with (first | (go_at_call 24; refine (valid_at b true _ h0).mono ?_; rintro e w' ⟨rfl, rfl⟩) | (go_at_call 25; refine (clone_at Hs.out hb).mono ?_; rintro e w1 ⟨u, rfl, hF⟩))
  go_ret
  exact ⟨_, rfl, hF⟩
theorem all_at {T b : Nat} {most : Int} {v : Value} {xs : List Int} {w : World} (h : Stk w T b most v xs) (hb : xs.length * 8 ≤ 140737488355328) :
    Calls Try.prog 11 #[.pointer (some ⟨b, 0, none⟩)] w (Cloned w xs) := by
  obtain ⟨ao, c, rfl, _⟩ := h.2.1.slice
  exact all_at' b w ao xs.length c xs h.c0 h.c2 h.2.1.sees hb

theorem take_nil (k : Int) (w : World) : Calls Try.prog 12 #[.pointer none, .int .i64 k] w fun e w' => e = .returned (.tuple #[.slice none 0 0, .int .i64 1]) ∧ w = w' := by
  go_enter Try.func12, Try.ntmps12
  go_wp2_with (go_at_call 24; refine (valid_nil _).mono ?_; rintro e w' ⟨rfl, rfl⟩)
  go_ret2
  exact ⟨rfl, rfl⟩
theorem take_zero (b : Nat) (k : Int) (w : World) (h0 : w.cell? ⟨b, 0, none⟩ = some (.bool false)) : Calls Try.prog 12 #[.pointer (some ⟨b, 0, none⟩), .int .i64 k] w fun e w' => e = .returned (.tuple #[.slice none 0 0, .int .i64 1]) ∧ w = w' := by
  go_enter Try.func12, Try.ntmps12
  go_wp2_with (go_at_call 24; refine (valid_at b false _ h0).mono ?_; rintro e w' ⟨rfl, rfl⟩)
  go_ret2
  exact ⟨rfl, rfl⟩
theorem take_neg (b : Nat) (k : Int) (w : World) (h0 : w.cell? ⟨b, 0, none⟩ = some (.bool true)) (hk : k < 0) : Calls Try.prog 12 #[.pointer (some ⟨b, 0, none⟩), .int .i64 k] w fun e w' => e = .returned (.tuple #[.slice none 0 0, .int .i64 2]) ∧ w = w' := by
  go_enter Try.func12, Try.ntmps12
  go_wp2_with (go_at_call 24; refine (valid_at b true _ h0).mono ?_; rintro e w' ⟨rfl, rfl⟩)
  go_ret2
  exact ⟨rfl, rfl⟩
theorem take_many' (b : Nat) (k : Int) (w : World) (ao : Option Addr) (n c : Nat) (h0 : w.cell? ⟨b, 0, none⟩ = some (.bool true)) (h2 : w.cell? ⟨b, 2, none⟩ = some (.slice ao n c)) (hk : (n : Int) < k) :
    Calls Try.prog 12 #[.pointer (some ⟨b, 0, none⟩), .int .i64 k] w fun e w' => e = .returned (.tuple #[.slice none 0 0, .int .i64 4]) ∧ w = w' := by
  have h' : ¬ k < 0 := by omega
  go_enter Try.func12, Try.ntmps12
  go_wp2_with (go_at_call 24; refine (valid_at b true _ h0).mono ?_; rintro e w' ⟨rfl, rfl⟩)
  go_ret2
  exact ⟨rfl, rfl⟩

theorem stk_put {w : World} {T b : Nat} {most : Int} {v : Value} (h : w.heap[b]? = some (.cells #[.bool true, .int .i64 most, v] T (0, 0))) {v' : Value} {ys : List Int} (hr : Row w v' ys) (hn : ¬ rowOf v' b) :
    Stk (w.setCell ⟨b, 2, none⟩ v') T b most v' ys ∧ Upto (fun k => k = b) w (w.setCell ⟨b, 2, none⟩ v') := by
  have hu : Upto (fun k => k = b) w (w.setCell ⟨b, 2, none⟩ v') := (Upto.refl (fun k => k = b) w).setCell (p := ⟨b, 2, none⟩) (Or.inl rfl) _
  refine ⟨⟨?_, hr.kept hu (fun k hk e => hn (e ▸ hk)), hn⟩, hu⟩
  rw [heap_setCell_same w b 2 _ T v' h]
  rfl
theorem Stk.put {w : World} {T b : Nat} {most : Int} {v : Value} {xs : List Int} (h : Stk w T b most v xs) {v' : Value} {ys : List Int} (hr : Row w v' ys) (hn : ¬ rowOf v' b) :
    Stk (w.setCell ⟨b, 2, none⟩ v') T b most v' ys ∧ Upto (fun k => k = b) w (w.setCell ⟨b, 2, none⟩ v') := stk_put h.1 hr hn

theorem Stk.kept {S : Nat → Prop} {w w' : World} {T b : Nat} {most : Int} {v : Value} {xs : List Int} (h : Stk w T b most v xs) (hu : Upto S w w') (hb : ¬ S b) (hd : ∀ k, rowOf v k → ¬ S k) : Stk w' T b most v xs :=
  ⟨(hu.block b h.lt hb).trans h.1, h.2.1.kept hu hd, h.2.2⟩

/-- r numbers stay, m were taken. -/
def Took (w : World) (T b : Nat) (most : Int) (v : Value) (xs : List Int) (r : Nat) (e : Ending) (w' : World) : Prop :=
  ∃ u v', e = .returned (.tuple #[u, .int .i64 0]) ∧ Row w' u (xs.drop r) ∧ (∀ k, rowOf u k → w.heap.size ≤ k) ∧ Stk w' T b most v' (xs.take r) ∧ Upto (fun k => k = b) w w' ∧ (∀ k, rowOf v' k ↔ rowOf v k)

set_option maxHeartbeats 400000 in
theorem take_some (b : Nat) (T : Nat) (most : Int) (r m : Nat) (w : World) (ao : Option Addr) (c : Nat) (xs : List Int) (h : Stk w T b most (.slice ao (r + m) c) xs) (hl : xs.length = r + m) (hb : xs.length * 8 ≤ 140737488355328) :
    Calls Try.prog 12 #[.pointer (some ⟨b, 0, none⟩), .int .i64 m] w (Took w T b most (.slice ao (r + m) c) xs r) := by
  have h0 := h.c0
  have h2 := h.c2
  have f2 := h.f2
  have hlt := h.lt
  have hm : r + m ≤ 17592186044416 := by omega
  have hc : r + m ≤ c := by
    obtain ⟨_, _, e, h1, _⟩ := h.2.1.slice
    simp only [Value.slice.injEq] at e
    omega
  have hs := h.2.1.sees.drop r (by omega)
  have hbd : (xs.drop r).length * 8 ≤ 140737488355328 := by rw [List.length_drop]; omega
  have Hs := Lib.hid hs; clear hs
  have Hl := Lib.hid hl; clear hl
  have H := Lib.hid h; clear h
  have Hb := Lib.hid hb; clear hb
  have Hbd := Lib.hid hbd; clear hbd
  go_enter Try.func12, Try.ntmps12
  by_cases hcr : c = r
  · have hcr2 : (c = r) = True := eq_true hcr
    clear hcr
    have hcr := hcr2
    clear hcr2
    go_wp2_with (first | (go_at_call 24; refine (valid_at b true _ h0).mono ?_; rintro e w' ⟨rfl, rfl⟩) | fail)
    refine (clone_at (xs := xs.drop r) ?see Hbd.out).mono ?_
    case see => simpa [hcr] using Hs.out
    rintro e w1 ⟨u, rfl, hr, hk, hbl⟩
    have k0 := (hbl.cell (p := ⟨b, 0, none⟩) hlt).trans h0
    have k2 := (hbl.cell (p := ⟨b, 2, none⟩) hlt).trans h2
    have g2 := (hbl.frozen (p := ⟨b, 2, none⟩) hlt).trans f2
    have Hr := Lib.hid hr; clear hr
    have Hbl := Lib.hid hbl; clear hbl
    have Hk := Lib.hid hk; clear hk
    go_wp2_with fail
    go_ret2
    have hst : Stk w1 T b most (.slice ao (r + m) c) xs := H.out.kept (Upto.of_below Hbl.out (fun _ => False)) id (fun _ _ => id)
    have hrt := hst.2.1.take r (by rw [Hl.out]; omega)
    obtain ⟨p1, p2⟩ := hst.put hrt (fun e => hst.2.2 ((rowOf_slice _ _ _ _).2 ((rowOf_slice _ _ _ _).1 e)))
    refine ⟨u, .slice ao r c, rfl, Hr.out.kept p2 (fun k hk e => ?_), Hk.out, p1, (Upto.of_below Hbl.out _).trans p2, fun k => ?_⟩
    · have := Hk.out k hk; omega
    · rw [rowOf_slice, rowOf_slice]
  · go_wp2_with (first | (go_at_call 24; refine (valid_at b true _ h0).mono ?_; rintro e w' ⟨rfl, rfl⟩) | fail)
    refine (clone_at (xs := xs.drop r) ?see Hbd.out).mono ?_
    case see => simpa [hcr] using Hs.out
    rintro e w1 ⟨u, rfl, hr, hk, hbl⟩
    have k0 := (hbl.cell (p := ⟨b, 0, none⟩) hlt).trans h0
    have k2 := (hbl.cell (p := ⟨b, 2, none⟩) hlt).trans h2
    have g2 := (hbl.frozen (p := ⟨b, 2, none⟩) hlt).trans f2
    have Hr := Lib.hid hr; clear hr
    have Hbl := Lib.hid hbl; clear hbl
    have Hk := Lib.hid hk; clear hk
    go_wp2_with fail
    go_ret2
    have hst : Stk w1 T b most (.slice ao (r + m) c) xs := H.out.kept (Upto.of_below Hbl.out (fun _ => False)) id (fun _ _ => id)
    have hrt := hst.2.1.take r (by rw [Hl.out]; omega)
    obtain ⟨p1, p2⟩ := hst.put hrt (fun e => hst.2.2 ((rowOf_slice _ _ _ _).2 ((rowOf_slice _ _ _ _).1 e)))
    refine ⟨u, .slice ao r c, rfl, Hr.out.kept p2 (fun k hk e => ?_), Hk.out, p1, (Upto.of_below Hbl.out _).trans p2, fun k => ?_⟩
    · have := Hk.out k hk; omega
    · rw [rowOf_slice, rowOf_slice]

end Go.Proofs.Ytcajkgingenegaa
