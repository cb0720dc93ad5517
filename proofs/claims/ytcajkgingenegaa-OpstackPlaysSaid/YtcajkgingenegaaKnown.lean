/-
  The law of the least and the greatest limit, walked.
-/
import Derived.Test.YtcajkgingenegaaWorks
namespace Go.Proofs.Ytcajkgingenegaa
open Go.RowKit

theorem Sees.cellsAt {w : World} {u : Value} {ys : List Int} (h : Sees w u ys) (hp : 0 < ys.length) : ∃ g o c, u = .slice (some ⟨g, o, none⟩) ys.length c ∧ ys.length ≤ c ∧ c ≤ maxLen ∧ g < w.heap.size ∧ ∀ j, j < ys.length → w.cell? ⟨g, o + j, none⟩ = some (.int .i64 (ys.getD j 0)) := by
  obtain ⟨ao, c, rfl, h1, h2, h3, h4⟩ := h
  cases ao with
  | none => have := h3 rfl; omega
  | some a =>
    obtain ⟨g, o, sp⟩ := a
    obtain ⟨hs, h5⟩ := h4 _ rfl
    obtain ⟨rfl, hb⟩ := hs hp
    exact ⟨g, o, c, rfl, h1, h2, hb, h5⟩

theorem push_many_same {w0 w : World} {b : Nat} {most : Int} {xs : List Int} (x : Int) (h : Own w0 w b most xs) (hm : most ≤ (xs.length : Int)) : Calls Try.prog 10 #[.pointer (some ⟨b, 0, none⟩), .int .i64 x] w fun e w' =>
    e = .returned (.int .i64 10) ∧ Upto (fun _ => False) w w' := by
  obtain ⟨F, ⟨_, _, _, b', v, e, h4, _⟩, h2, h3⟩ := h
  simp only [Value.pointer.injEq, Option.some.injEq, Addr.mk.injEq, and_true] at e
  subst e
  refine (push_full x h4 hm).mono ?_
  rintro e w' ⟨rfl, k, rfl⟩
  exact ⟨rfl, (Upto.refl _ _).drewN k⟩
theorem Own.since {w0 w1 w : World} {b : Nat} {most : Int} {xs : List Int} (h : Own w0 w1 b most xs) (hb : Below w1.heap.size w1 w) : Own w0 w b most xs := h.step (Upto.of_below hb _)

/-- The numbers from 0 on. -/
def upTo (k : Nat) : List Int := (List.range k).map (fun j : Nat => (j : Int))
theorem upTo_succ (k : Nat) : upTo (k + 1) = upTo k ++ [(k : Int)] := by simp [upTo, List.range_succ]
theorem upTo_length (k : Nat) : (upTo k).length = k := by simp [upTo]
theorem upTo_cons (k : Nat) : upTo (k + 1) = [0] ++ (upTo (k + 1)).drop 1 := by
  simp [upTo, List.range_succ_eq_map]
theorem upTo_get (k j : Nat) (h : j < k) : (upTo k)[j]?.getD 0 = (j : Int) := by simp [upTo, h]
theorem upTo_known : ∃ ys : List Int, upTo 10000 = [0] ++ ys ∧ ys.length = 9999 ∧ ys[0]?.getD 0 = 1 ∧ ys[9998]?.getD 0 = 9999 := by
  refine ⟨(upTo 10000).drop 1, upTo_cons 9999, by rw [List.length_drop, upTo_length], ?_, ?_⟩
  · rw [List.getElem?_drop, upTo_get _ _ (by decide)]; rfl
  · rw [List.getElem?_drop, upTo_get _ _ (by decide)]; rfl

set_option maxRecDepth 10000 in
set_option maxHeartbeats 1000000 in
theorem known_true (w : World) : Calls Try.prog 4 #[] w fun e w' => e = .returned (.bool true) ∧ Below w.heap.size w w' := by
  go_enter Try.func4, Try.ntmps4
  go_wp2_with (first
    | (go_at_call 9; have mm := S1; clear mm; refine (new_own _ _ (by decide)).mono ?_; rintro e w2 ⟨t, rfl, ht⟩; have S2 := Lib.hid (S1.out.since ht.base); have T2 := Lib.hid ht; clear ht)
    | (go_at_call 9; refine (new_own _ _ (by decide)).mono ?_; rintro e w1 ⟨s, rfl, hs⟩; have S1 := Lib.hid hs; clear hs)
    | (go_at_call 10; refine (push_many_same _ S2.out (by decide)).mono ?_; rintro e w3 ⟨rfl, hu⟩; have S3 := Lib.hid (S2.out.step hu); have T3 := Lib.hid (T2.out.step hu); clear hu)
    | (go_at_call 14; refine (Own.len 0 S3.out (by decide)).mono ?_; rintro e w1 ⟨rfl, rfl⟩))
  go_loopw [5] (fun i wr => ∃ k : Nat, k ≤ 10000 ∧ i = .int .i64 k ∧ Hid (Own w1 wr t 10000 (upTo k))) (fun i _ => 10000 - (intOf i).toNat)
  case atStart => exact ⟨0, by decide, rfl, T3⟩
  case round =>
    obtain ⟨k, hk, rfl, hT⟩ := hrel
    have Hk := Lib.hid hk; clear hk
    by_cases hlt : k < 10000
    · have hi : (k : Int) < 10000 := by omega
      have Hlt := Lib.hid hlt; clear hlt
      go_wp2_with (go_at_call 10; have hl4 : ((upTo k).length : Int) < 10000 := (by have := Hlt.out; rw [upTo_length]; omega); refine (push_own _ hT.out hl4).mono ?_; clear hl4; rintro e w4 ⟨rfl, hs⟩; rw [← upTo_succ] at hs; have T4 := Lib.hid hs; clear hs)

      go_roundw
      case rel => exact ⟨k + 1, Hlt.out, by go_num, T4⟩
      case measure => have := Hlt.out; simp [intOf]; omega
    · obtain rfl : k = 10000 := by have := Hk.out; omega
      clear hlt
      obtain ⟨ys, hy, hl, h0, h1⟩ := upTo_known
      have Hy := Lib.hid hy; clear hy
      go_wp2_with (first
        | (go_at_call 12; refine (Own.take [0] ys hT.out Hy.out (by rw [hl]; rfl)).mono ?_; rintro e w4 ⟨u, rfl, hA⟩; have A4 := Lib.hid hA; obtain ⟨g, o, c, rfl, hc1, hc2, hg, hcell⟩ := hA.row.sees.cellsAt (by rw [hl]; decide); have e0 := hcell 0 (by rw [hl]; decide); have e1 := hcell 9998 (by rw [hl]; decide); simp only [Nat.add_zero, List.getD, h0, h1] at e0 e1; rw [hl]; clear hA hcell hc1 hc2 hg)
        | (go_at_call 14; refine (Apart.len 1 A4.out (by decide)).mono ?_; rintro e w1 ⟨rfl, rfl⟩)
        | (go_at_call 8; refine (works_true _).mono ?_; rintro e w5 ⟨rfl, hb⟩))
      go_ret
      exact ⟨rfl, Upto.below (((Upto.of_below S1.out.base _).trans (Upto.of_below (A4.out.own.base) _)).trans (Upto.of_below hb _))⟩

end Go.Proofs.Ytcajkgingenegaa
