/-
  The reference's Take, walked.
-/
import Derived.Test.YtcajkgingenegaaWalkG
namespace Go.Proofs.Ytcajkgingenegaa
open Go.RowKit

theorem rtake_nil (k : Int) (w : World) : Calls Try.prog 19 #[.pointer none, .int .i64 k] w fun e w' => e = .returned (.tuple #[.slice none 0 0, .int .i64 1]) ∧ w = w' := by
  go_enter Try.func19, Try.ntmps19
  go_wp2_with (go_at_call 26; refine (rvalid_nil _).mono ?_; rintro e w' ⟨rfl, rfl⟩)
  go_ret2
  exact ⟨rfl, rfl⟩
theorem rtake_neg (b : Nat) (k : Int) (w : World) (h0 : w.cell? ⟨b, 0, none⟩ = some (.bool true)) (hk : k < 0) : Calls Try.prog 19 #[.pointer (some ⟨b, 0, none⟩), .int .i64 k] w fun e w' => e = .returned (.tuple #[.slice none 0 0, .int .i64 2]) ∧ w = w' := by
  go_enter Try.func19, Try.ntmps19
  go_wp2_with (go_at_call 26; refine (rvalid_at b true _ h0).mono ?_; rintro e w' ⟨rfl, rfl⟩)
  go_ret2
  exact ⟨rfl, rfl⟩
theorem rtake_many' (b : Nat) (k : Int) (w : World) (ao : Option Addr) (n c : Nat) (h0 : w.cell? ⟨b, 0, none⟩ = some (.bool true)) (h2 : w.cell? ⟨b, 2, none⟩ = some (.slice ao n c)) (hk : (n : Int) < k) :
    Calls Try.prog 19 #[.pointer (some ⟨b, 0, none⟩), .int .i64 k] w fun e w' => e = .returned (.tuple #[.slice none 0 0, .int .i64 4]) ∧ w = w' := by
  have h' : ¬ k < 0 := by omega
  go_enter Try.func19, Try.ntmps19
  go_wp2_with (go_at_call 26; refine (rvalid_at b true _ h0).mono ?_; rintro e w' ⟨rfl, rfl⟩)
  go_ret2
  exact ⟨rfl, rfl⟩

/-- r numbers stay, the others were taken; where the rows lie. -/
def TookC (w : World) (T b : Nat) (most : Int) (v : Value) (xs : List Int) (r : Nat) (e : Ending) (w' : World) : Prop :=
  ∃ u v', e = .returned (.tuple #[u, .int .i64 0]) ∧ Row w' u (xs.drop r) ∧ (∀ k, rowOf u k → w.heap.size ≤ k) ∧ Stk w' T b most v' (xs.take r) ∧ Upto (fun k => k = b) w w' ∧
    (∀ k, rowOf v' k → rowOf v k ∨ w.heap.size ≤ k) ∧ ∀ k, rowOf v' k → ¬ rowOf u k

theorem Took.common {w w' : World} {T b : Nat} {most : Int} {v : Value} {xs : List Int} {r : Nat} {e : Ending} (hv : ∀ k, rowOf v k → k < w.heap.size) (h : Took w T b most v xs r e w') : TookC w T b most v xs r e w' := by
  obtain ⟨u, v', he, h1, h2, h3, h4, h5⟩ := h
  refine ⟨u, v', he, h1, h2, h3, h4, fun k hk => Or.inl ((h5 k).1 hk), fun k hk hu => ?_⟩
  have := hv k ((h5 k).1 hk)
  have := h2 k hu
  omega

set_option maxHeartbeats 1000000 in
theorem rtake_some_end (b : Nat) (T : Nat) (most : Int) (r m : Nat) (w : World) (ao : Option Addr) (c : Nat) (xs : List Int) (h : Stk w T b most (.slice ao (r + m) c) xs) (hl : xs.length = r + m) (hb : xs.length * 8 ≤ 140737488355328) (hcr : (c = r) = True) :
    Calls Try.prog 19 #[.pointer (some ⟨b, 0, none⟩), .int .i64 m] w (TookC w T b most (.slice ao (r + m) c) xs r) := by
  have h0 := h.c0
  have h2 := h.c2
  have f2 := h.f2
  have hlt := h.lt
  have hm : r + m ≤ 17592186044416 := by omega
  have hc : r + m ≤ c := by
    obtain ⟨_, _, e, h1, _⟩ := h.2.1.slice
    simp only [Value.slice.injEq] at e
    omega
  have hs := h.2.1.sees.drop r (by omega)
  have ht := (h.2.1.take r (by omega)).sees
  have Hs := Lib.hid hs; clear hs
  have Ht := Lib.hid ht; clear ht
  have Hl := Lib.hid hl; clear hl
  have H := Lib.hid h; clear h
  have Hb := Lib.hid hb; clear hb
  go_enter Try.func19, Try.ntmps19
  go_wp2_with (first | (go_at_call 26; refine (rvalid_at b true _ h0).mono ?_; rintro e w' ⟨rfl, rfl⟩) | (at_builtin; refine wpList_append_row _ rfl (.tmp 27) (.tmp 33) 22 rfl Try.underlying22 Try.infoInt (.slice (some ⟨w.heap.size, 0, none⟩) 0 0) (.slice ao m (c - r)) [] (xs.drop r) rfl rfl ?a0 ?a1 ?a2 ?a3))
  case a0 => exact Row.made w
  case a1 => exact (show Sees w _ (xs.drop r) by simpa [hcr] using Hs.out).below ((Below.refl _ _).alloc (Nat.le_refl _) _)
  case a2 => have := Hb.out; simp; omega
  case a3 =>
    intro v1 w1 hr1 hu1 hk1
    have hb1 : Below w.heap.size w w1 := Upto.below (((Upto.refl _ w).alloc _).step hu1 fun i hi hS => by
      have := rowOf_made _ _ _ i hS
      omega)
    obtain ⟨bo, m1, d, rfl⟩ := hr1.shape
    have hk1' : ∀ k, rowOf (.slice bo m1 d) k → w.heap.size ≤ k := fun k hk => by
      rcases hk1 k hk with e | e
      · exact Nat.le_of_eq (rowOf_made _ _ _ k e).symm
      · have : w.heap.size + 1 ≤ k := by simpa using e
        omega
    have hz1 := hb1.size
    have k0 := (hb1.cell (p := ⟨b, 0, none⟩) hlt).trans h0
    have k2 := (hb1.cell (p := ⟨b, 2, none⟩) hlt).trans h2
    have g2 := (hb1.frozen (p := ⟨b, 2, none⟩) hlt).trans f2
    have hlt1 : b < w1.heap.size := by omega
    have Hr1 := Lib.hid hr1; clear hr1
    have Hk1 := Lib.hid hk1'; clear hk1 hk1' hu1
    have Hb1 := Lib.hid hb1; clear hb1
    go_wp2_with (at_builtin; refine wpList_append_row _ rfl (.tmp 36) (.tmp 42) 22 rfl Try.underlying22 Try.infoInt (.slice (some ⟨w1.heap.size, 0, none⟩) 0 0) (.slice ao r c) [] (xs.take r) rfl rfl ?b0 ?b1 ?b2 ?b3)
    case b0 => exact Row.made w1
    case b1 => exact (Ht.out.below Hb1.out).below ((Below.refl _ _).alloc (Nat.le_refl _) _)
    case b2 => have := Hb.out; simp; omega
    case b3 =>
      intro v2 w2 hr2 hu2 hk2
      have hu12 : Upto (fun _ => False) w1 w2 := ((Upto.refl _ w1).alloc _).step hu2 fun i hi hS => by
        have := rowOf_made _ _ _ i hS
        omega
      have hb2 : Below w.heap.size w w2 := Upto.below ((Upto.of_below Hb1.out _).trans hu12)
      have k0' := (hb2.cell (p := ⟨b, 0, none⟩) hlt).trans h0
      have k2' := (hb2.cell (p := ⟨b, 2, none⟩) hlt).trans h2
      have g2' := (hb2.frozen (p := ⟨b, 2, none⟩) hlt).trans f2
      obtain ⟨co, m2, d2, rfl⟩ := hr2.shape
      have hk2' : ∀ k, rowOf (.slice co m2 d2) k → w1.heap.size ≤ k := fun k hk => by
        rcases hk2 k hk with e | e
        · exact Nat.le_of_eq (rowOf_made _ _ _ k e).symm
        · have : w1.heap.size + 1 ≤ k := by simpa using e
          omega
      have hr12 := Hr1.out.kept hu12 (fun _ _ => id)
      have hl12 := Hr1.out.lt
      have Hl12 := Lib.hid hl12; clear hl12
      have Hr12 := Lib.hid hr12; clear hr12
      have Hr2 := Lib.hid hr2; clear hr2
      have Hk2 := Lib.hid hk2'; clear hk2 hk2' hu2 hu12
      have Hb2 := Lib.hid hb2; clear hb2
      go_wp2
      go_ret2
      have hz1 := Hb1.out.size
      obtain ⟨p1, p2⟩ := stk_put ((Hb2.out.block b hlt).trans H.out.1) (by simpa using Hr2.out : Row w2 (.slice co m2 d2) (xs.take r)) (fun e => by have := Hk2.out b e; omega)
      refine ⟨.slice bo m1 d, .slice co m2 d2, rfl, (by simpa using Hr12.out : Row w2 (.slice bo m1 d) (xs.drop r)).kept p2 (fun k hk e => ?_), Hk1.out, p1, (Upto.of_below Hb2.out _).trans p2, fun k hk => ?_, fun k hk hu => ?_⟩
      · have := Hk1.out k hk; omega
      · right; have := Hk2.out k hk; omega
      · have := Hk2.out k hk; have := Hl12.out k hu; omega

set_option maxHeartbeats 1000000 in
theorem rtake_some_mid (b : Nat) (T : Nat) (most : Int) (r m : Nat) (w : World) (ao : Option Addr) (c : Nat) (xs : List Int) (h : Stk w T b most (.slice ao (r + m) c) xs) (hl : xs.length = r + m) (hb : xs.length * 8 ≤ 140737488355328) (hcr : ¬ c = r) :
    Calls Try.prog 19 #[.pointer (some ⟨b, 0, none⟩), .int .i64 m] w (TookC w T b most (.slice ao (r + m) c) xs r) := by
  have h0 := h.c0
  have h2 := h.c2
  have f2 := h.f2
  have hlt := h.lt
  have hm : r + m ≤ 17592186044416 := by omega
  have hc : r + m ≤ c := by
    obtain ⟨_, _, e, h1, _⟩ := h.2.1.slice
    simp only [Value.slice.injEq] at e
    omega
  have hs := h.2.1.sees.drop r (by omega)
  have ht := (h.2.1.take r (by omega)).sees
  have Hs := Lib.hid hs; clear hs
  have Ht := Lib.hid ht; clear ht
  have Hl := Lib.hid hl; clear hl
  have H := Lib.hid h; clear h
  have Hb := Lib.hid hb; clear hb
  go_enter Try.func19, Try.ntmps19
  go_wp2_with (first | (go_at_call 26; refine (rvalid_at b true _ h0).mono ?_; rintro e w' ⟨rfl, rfl⟩) | (at_builtin; refine wpList_append_row _ rfl (.tmp 27) (.tmp 33) 22 rfl Try.underlying22 Try.infoInt (.slice (some ⟨w.heap.size, 0, none⟩) 0 0) (.slice (ao.map (·.add r)) m (c - r)) [] (xs.drop r) rfl rfl ?a0 ?a1 ?a2 ?a3))
  case a0 => exact Row.made w
  case a1 => exact (show Sees w _ (xs.drop r) by simpa [hcr] using Hs.out).below ((Below.refl _ _).alloc (Nat.le_refl _) _)
  case a2 => have := Hb.out; simp; omega
  case a3 =>
    intro v1 w1 hr1 hu1 hk1
    have hb1 : Below w.heap.size w w1 := Upto.below (((Upto.refl _ w).alloc _).step hu1 fun i hi hS => by
      have := rowOf_made _ _ _ i hS
      omega)
    obtain ⟨bo, m1, d, rfl⟩ := hr1.shape
    have hk1' : ∀ k, rowOf (.slice bo m1 d) k → w.heap.size ≤ k := fun k hk => by
      rcases hk1 k hk with e | e
      · exact Nat.le_of_eq (rowOf_made _ _ _ k e).symm
      · have : w.heap.size + 1 ≤ k := by simpa using e
        omega
    have hz1 := hb1.size
    have k0 := (hb1.cell (p := ⟨b, 0, none⟩) hlt).trans h0
    have k2 := (hb1.cell (p := ⟨b, 2, none⟩) hlt).trans h2
    have g2 := (hb1.frozen (p := ⟨b, 2, none⟩) hlt).trans f2
    have hlt1 : b < w1.heap.size := by omega
    have Hr1 := Lib.hid hr1; clear hr1
    have Hk1 := Lib.hid hk1'; clear hk1 hk1' hu1
    have Hb1 := Lib.hid hb1; clear hb1
    go_wp2_with (at_builtin; refine wpList_append_row _ rfl (.tmp 36) (.tmp 42) 22 rfl Try.underlying22 Try.infoInt (.slice (some ⟨w1.heap.size, 0, none⟩) 0 0) (.slice ao r c) [] (xs.take r) rfl rfl ?b0 ?b1 ?b2 ?b3)
    case b0 => exact Row.made w1
    case b1 => exact (Ht.out.below Hb1.out).below ((Below.refl _ _).alloc (Nat.le_refl _) _)
    case b2 => have := Hb.out; simp; omega
    case b3 =>
      intro v2 w2 hr2 hu2 hk2
      have hu12 : Upto (fun _ => False) w1 w2 := ((Upto.refl _ w1).alloc _).step hu2 fun i hi hS => by
        have := rowOf_made _ _ _ i hS
        omega
      have hb2 : Below w.heap.size w w2 := Upto.below ((Upto.of_below Hb1.out _).trans hu12)
      have k0' := (hb2.cell (p := ⟨b, 0, none⟩) hlt).trans h0
      have k2' := (hb2.cell (p := ⟨b, 2, none⟩) hlt).trans h2
      have g2' := (hb2.frozen (p := ⟨b, 2, none⟩) hlt).trans f2
      obtain ⟨co, m2, d2, rfl⟩ := hr2.shape
      have hk2' : ∀ k, rowOf (.slice co m2 d2) k → w1.heap.size ≤ k := fun k hk => by
        rcases hk2 k hk with e | e
        · exact Nat.le_of_eq (rowOf_made _ _ _ k e).symm
        · have : w1.heap.size + 1 ≤ k := by simpa using e
          omega
      have hr12 := Hr1.out.kept hu12 (fun _ _ => id)
      have hl12 := Hr1.out.lt
      have Hl12 := Lib.hid hl12; clear hl12
      have Hr12 := Lib.hid hr12; clear hr12
      have Hr2 := Lib.hid hr2; clear hr2
      have Hk2 := Lib.hid hk2'; clear hk2 hk2' hu2 hu12
      have Hb2 := Lib.hid hb2; clear hb2
      go_wp2
      go_ret2
      have hz1 := Hb1.out.size
      obtain ⟨p1, p2⟩ := stk_put ((Hb2.out.block b hlt).trans H.out.1) (by simpa using Hr2.out : Row w2 (.slice co m2 d2) (xs.take r)) (fun e => by have := Hk2.out b e; omega)
      refine ⟨.slice bo m1 d, .slice co m2 d2, rfl, (by simpa using Hr12.out : Row w2 (.slice bo m1 d) (xs.drop r)).kept p2 (fun k hk e => ?_), Hk1.out, p1, (Upto.of_below Hb2.out _).trans p2, fun k hk => ?_, fun k hk hu => ?_⟩
      · have := Hk1.out k hk; omega
      · right; have := Hk2.out k hk; omega
      · have := Hk2.out k hk; have := Hl12.out k hu; omega

theorem rtake_some {T b : Nat} {most : Int} {v : Value} {xs : List Int} {w : World} (k : Nat) (h : Stk w T b most v xs) (hk : k ≤ xs.length) (hb : xs.length * 8 ≤ 140737488355328) :
    Calls Try.prog 19 #[.pointer (some ⟨b, 0, none⟩), .int .i64 k] w (TookC w T b most v xs (xs.length - k)) := by
  obtain ⟨ao, c, rfl, _⟩ := h.2.1.slice
  have e : xs.length = (xs.length - k) + k := by omega
  generalize hn : xs.length = n at h
  obtain ⟨r, rfl⟩ : ∃ r, n = r + k := ⟨n - k, by omega⟩
  rw [show r + k - k = r by omega]
  by_cases hc : c = r
  · exact rtake_some_end b T most r k w ao c xs h hn hb (eq_true hc)
  · exact rtake_some_mid b T most r k w ao c xs h hn hb hc
theorem take_at_some {T b : Nat} {most : Int} {v : Value} {xs : List Int} {w : World} (k : Nat) (h : Stk w T b most v xs) (hk : k ≤ xs.length) (hb : xs.length * 8 ≤ 140737488355328) :
    Calls Try.prog 12 #[.pointer (some ⟨b, 0, none⟩), .int .i64 k] w (TookC w T b most v xs (xs.length - k)) := by
  obtain ⟨ao, c, rfl, _⟩ := h.2.1.slice
  generalize hn : xs.length = n at h
  obtain ⟨r, rfl⟩ : ∃ r, n = r + k := ⟨n - k, by omega⟩
  rw [show r + k - k = r by omega]
  exact (take_some b T most r k w ao c xs h hn hb).mono fun _ _ h' => h'.common h.2.1.lt

end Go.Proofs.Ytcajkgingenegaa
