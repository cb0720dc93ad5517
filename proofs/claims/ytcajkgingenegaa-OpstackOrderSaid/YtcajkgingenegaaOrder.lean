/-
  The law of the order, walked.
-/
import Derived.Test.YtcajkgingenegaaPair
import Derived.Test.YtcajkgingenegaaRefuses
import Derived.Deep.RegionHeld3
import Derived.OpenShut
namespace Go.Proofs.Ytcajkgingenegaa
open Go.RowKit

theorem Own.copy {w0 w : World} {b : Nat} {most : Int} {xs : List Int} (h : Own w0 w b most xs) : Calls Try.prog 20 #[.pointer (some ⟨b, 0, none⟩)] w fun e w' =>
    ∃ d, e = .returned (.pointer (some ⟨d, 0, none⟩)) ∧ Pair w0 w' 48 48 (.pointer (some ⟨b, 0, none⟩)) (.pointer (some ⟨d, 0, none⟩)) most (some xs) (some xs) (fun _ => False) := by
  obtain ⟨F, h1, h2, h3⟩ := h
  refine (copy_pile h1).mono ?_
  rintro e w' ⟨p, G, rfl, q1, q2, q3, q4⟩
  obtain ⟨_, _, hG, d, v, rfl, _⟩ := id q1
  have h1' := h1.below q3
  obtain ⟨_, _, hF, _⟩ := id h1
  obtain ⟨_, _, hF', _⟩ := id h1'
  refine ⟨d, rfl, F, G, h1', q1, fun k hk => ⟨h2 k hk, hF' k hk, id⟩, fun k hk => ⟨Nat.le_trans h3.size (q2 k hk), hG k hk, id⟩, fun k hk hg => ?_, fun _ h => h.elim, Upto.below ((Upto.of_below h3 _).trans (Upto.of_below q3 _))⟩
  have := hF k hk; have := q2 k hg
  omega

section
variable {w0 w : World} {U : TypeId} {b : Nat} {q : Value} {most : Int} {o' : Option (List Int)} {K : Nat → Prop}
theorem Pair.takeS {k : Int} {zs : List Int} (A B : List Int) (h : Pair w0 w 48 U (.pointer (some ⟨b, 0, none⟩)) q most (some zs) o' K) (hz : zs = A ++ B) (hk : (B.length : Int) = k) : Calls Try.prog 12 #[.pointer (some ⟨b, 0, none⟩), .int .i64 k] w fun e w' =>
    ∃ u, e = .returned (.tuple #[u, .int .i64 0]) ∧ Row w' u B ∧ Pair w0 w' 48 U (.pointer (some ⟨b, 0, none⟩)) q most (some A) o' K := by
  subst hz
  refine (Pair.take k h).mono ?_
  have e1 : ¬ k < 0 := by omega
  have e2 : ¬ ((A ++ B).length : Int) < k := by simp; omega
  have e3 : (A ++ B).length - k.toNat = A.length := by simp; omega
  simp only [takeO, takeE, takeL, if_neg e1, if_neg e2, e3, List.take_left, List.drop_left]
  rintro e w' ⟨u, rfl, r1, _, r2, _⟩
  exact ⟨u, rfl, r1, r2.mono (fun _ h => Or.inl h)⟩
theorem Pair.popS {x : Int} {ys : List Int} (zs : List Int) (h : Pair w0 w U 48 q (.pointer (some ⟨b, 0, none⟩)) most o' (some zs) K) (hz : zs = ys ++ [x]) : Calls Try.prog 17 #[.pointer (some ⟨b, 0, none⟩)] w fun e w' =>
    e = .returned (.tuple #[.int .i64 x, .int .i64 0]) ∧ Pair w0 w' U 48 q (.pointer (some ⟨b, 0, none⟩)) most o' (some ys) K := by
  subst hz
  refine (Pair.pop h.swap).mono ?_
  simp only [popX, popE, popO, List.dropLast_concat, List.getLast?_concat, Option.getD_some, List.append_eq_nil_iff, List.cons_ne_nil, and_false, if_false]
  rintro e w' ⟨rfl, h, _⟩
  exact ⟨rfl, h.swap⟩
theorem Pair.popN (h : Pair w0 w U 48 q (.pointer (some ⟨b, 0, none⟩)) most o' (some []) K) : Calls Try.prog 17 #[.pointer (some ⟨b, 0, none⟩)] w fun e w' =>
    e = .returned (.tuple #[.int .i64 0, .int .i64 4]) ∧ Pair w0 w' U 48 q (.pointer (some ⟨b, 0, none⟩)) most o' (some []) K := by
  refine (Pair.pop h.swap).mono ?_
  rintro e w' ⟨rfl, h, _⟩
  exact ⟨rfl, h.swap⟩
theorem Pair.lenS {xs : List Int} (n : Int) (h : Pair w0 w 48 U (.pointer (some ⟨b, 0, none⟩)) q most (some xs) o' K) (hn : (xs.length : Int) = n) : Calls Try.prog 14 #[.pointer (some ⟨b, 0, none⟩)] w fun e w' =>
    e = .returned (.int .i64 n) ∧ w = w' := by
  subst hn
  exact Pair.len h
theorem Pair.allS {xs : List Int} (h : Pair w0 w 48 U (.pointer (some ⟨b, 0, none⟩)) q most (some xs) o' K) : Calls Try.prog 11 #[.pointer (some ⟨b, 0, none⟩)] w fun e w' =>
    ∃ u, e = .returned u ∧ Row w' u xs ∧ Upto (fun _ => False) w w' := by
  refine (Pair.all h).mono ?_
  rintro e w' ⟨u, rfl, h1, _, h2⟩
  exact ⟨u, rfl, h1, Upto.of_below h2 _⟩
end

theorem Sees.mid {w : World} {ao : Option Addr} {n c : Nat} {A B C : List Int} (r k : Nat) (h : Sees w (.slice ao n c) (A ++ B ++ C)) (hA : A.length = r) (hB : B.length = k) : Sees w (.slice (if c = r then ao else ao.map (·.add (r * 1))) k (c - r)) B := by
  subst hA hB
  have hn : n = (A ++ B ++ C).length := by
    obtain ⟨_, _, e, _⟩ := h
    simp only [Value.slice.injEq] at e
    exact e.2.1
  have h1 := h.drop A.length (by simp)
  rw [List.append_assoc, List.drop_left] at h1
  have h2 := h1.upto B.length (by simp)
  rwa [List.take_left] at h2
theorem Sees.cap {w : World} {ao : Option Addr} {n c : Nat} {xs : List Int} (h : Sees w (.slice ao n c) xs) : xs.length ≤ c ∧ c ≤ maxLen ∧ n = xs.length := by
  obtain ⟨_, _, e, h1, h2, _⟩ := h
  simp only [Value.slice.injEq] at e
  obtain ⟨rfl, rfl, rfl⟩ := e
  exact ⟨h1, h2, rfl⟩

set_option maxRecDepth 10000 in
theorem order_easy (v : Value) (xs : List Int) (most many : Int) (w : World) (hs : Sees w v xs) (h : 60 < xs.length) :
    Calls Try.prog 7 #[v, .int .u8 most, .int .u8 many] w fun e w' => e = .returned (.bool true) ∧ Below w.heap.size w w' := by
  obtain ⟨ao, c, rfl, _⟩ := hs
  generalize xs.length = n at h
  have h2 : (60 : Int) < n := by omega
  clear h
  go_enter Try.func7, Try.ntmps7
  go_wp2_with (go_at_call 8; refine (works_true _).mono ?_; rintro e w5 ⟨rfl, hb⟩)
  go_ret
  exact ⟨rfl, hb⟩

set_option maxRecDepth 10000 in
set_option maxHeartbeats 2000000 in
theorem order_some (g o r k e c : Nat) (X Y A B : List Int) (most many : Int) (w : World) (hX : X.length = r + k + e) (hXY : X.take (r + k) = Y) (hY : Y = A ++ B) (hA : A.length = r) (hB : B.length = k) (hl : r + k + e ≤ 60) (hg : g < w.heap.size) (hm0 : 0 ≤ most) (hm1 : most ≤ 255) (hn0 : 0 ≤ many) (hn1 : many ≤ 255)
    (hmin : (if most < (r : Int) + k + e then most else (r : Int) + k + e) = (r : Int) + k) (hfull : e = 0 ∨ most = (r : Int) + k) (hrem : many.tmod ((r : Int) + k + 1) = k) (hcell : ∀ j, j < r + k + e → w.cell? ⟨g, o + j, none⟩ = some (.int .i64 (X.getD j 0)))
    (hc1 : r + k + e ≤ c) (sY : Sees w (.slice (some ⟨g, o, none⟩) (r + k) c) Y) (sA : Sees w (.slice (some ⟨g, o, none⟩) r c) A) (sX : Sees w (.slice (some ⟨g, o, none⟩) (r + k + e) c) X) :
    Calls Try.prog 7 #[.slice (some ⟨g, o, none⟩) (r + k + e) c, .int .u8 most, .int .u8 many] w fun e w' => e = .returned (.bool true) ∧ Below w.heap.size w w' := by
  have Hcell := Lib.hid hcell; clear hcell
  have HX := Lib.hid hX; clear hX
  have HXY := Lib.hid hXY; clear hXY
  have HY := Lib.hid hY; clear hY
  have HA := Lib.hid hA; clear hA
  have HB := Lib.hid hB; clear hB
  have SX := Lib.hid sX; clear sX
  have SY := Lib.hid sY; clear sY
  have SA := Lib.hid sA; clear sA
  have Hfull := Lib.hid hfull; clear hfull
  have hl60 : ¬ (60 : Int) < (r : Int) + k + e := by omega
  have Hl := Lib.hid hl; clear hl
  have hle : (r : Int) + k ≤ most := by
    have := Hfull.out
    split at hmin <;> omega
  have Hle := Lib.hid hle; clear hle
  go_enter Try.func7, Try.ntmps7
  go_wp2_with (first
    | (go_at_call 9; refine (new_own _ _ (by omega)).mono ?_; rintro e w1 ⟨s, rfl, hs⟩; have S1 := Lib.hid hs; clear hs))
  go_loopw [10] (fun i wr => ∃ j : Nat, j ≤ r + k + e ∧ i = .int .i64 j ∧ Hid (Own w wr s most (X.take (min j (r + k))))) (fun i _ => r + k + e - (intOf i).toNat)
  case atStart => exact ⟨0, Nat.zero_le _, rfl, by simpa using S1⟩
  case round =>
    obtain ⟨j, hj, rfl, hT⟩ := hrel
    by_cases hlt : j < r + k + e
    · have hcur := (hT.out.base.cell (p := ⟨g, o + j, none⟩) hg).trans (Hcell.out j hlt)
      by_cases hjn : j < r + k
      · have hj1 : ¬ ((r : Int) + k ≤ j) := by omega
        have hj2 : ¬ ((r : Int) + k < (j : Int) + 1) := by omega
        have hlen : ((X.take (min j (r + k))).length : Int) < most := by have := HX.out; have := Hle.out; rw [List.length_take]; omega
        have Hlen := Lib.hid hlen; clear hlen
        go_wp2_with (first
          | (go_at_call 14; refine (Own.len ((j : Int) + 1) T4.out (by have := HX.out; rw [List.length_take]; omega)).mono ?_; rintro e w5 ⟨rfl, rfl⟩)
          | (go_at_call 10; refine (push_own _ hT.out Hlen.out).mono ?_; rintro e w4 ⟨rfl, hs⟩; rw [show min j (r + k) = j by omega, take_succ_get (by have := HX.out; omega), show j + 1 = min (j + 1) (r + k) by omega] at hs; have T4 := Lib.hid hs; clear hs))
        go_roundw
        case rel => exact ⟨j + 1, by omega, by go_num, T4⟩
        case measure => simp [intOf]; omega
      · have hj1 : ((r : Int) + k ≤ j) := by omega
        have hj2 : ((r : Int) + k < (j : Int) + 1) := by omega
        have hlen : most ≤ ((X.take (min j (r + k))).length : Int) := by have := HX.out; have := Hfull.out; rw [List.length_take]; omega
        have Hlen := Lib.hid hlen; clear hlen
        go_wp2_with (first
          | (go_at_call 14; refine (Own.len ((r : Int) + k) T4.out (by have := HX.out; rw [List.length_take]; omega)).mono ?_; rintro e w5 ⟨rfl, rfl⟩)
          | (go_at_call 10; refine (push_many _ hT.out Hlen.out).mono ?_; rintro e w4 ⟨rfl, hs⟩; rw [show min j (r + k) = min (j + 1) (r + k) by omega] at hs; have T4 := Lib.hid hs; clear hs))
        go_roundw
        case rel => exact ⟨j + 1, by omega, by go_num, T4⟩
        case measure => simp [intOf]; omega
    · obtain rfl : j = r + k + e := by omega
      have hfl : Own w wr s most Y := by have := hT.out; rwa [show min (r + k + e) (r + k) = r + k by omega, HXY.out] at this
      have S3 := Lib.hid hfl; clear hfl hT hlt hj
      have hrc : (r : Int) + k ≤ (c : Int) := by omega
      have hr0 : (0 : Int) ≤ (r : Int) + k := by omega
      have hw1 : IntKind.i64.wrap ((r : Int) + k) = (r : Int) + k := wrap_small _ (by omega) (by have := Hl.out; omega)
      go_wp2
      go_region_held3 (fun _ => True) (trivial) (first
        | (go_at_call 13; refine (same_own A4.out.row.sees (SY.out.below A4.out.own.base) rfl).mono ?_; rintro e w5 ⟨rfl, hu⟩; have S5 := Lib.hid (A4.out.own.step hu); clear hu)
        | (go_at_call 11; refine (all_own (S3.out.step (Upto.refl _ wr).drew)).mono ?_; rintro e w4 ⟨u4, rfl, hA, hu⟩; have A4 := Lib.hid hA; clear hA hu))
      go_wp2_with (first
        | (go_at_call 20; refine (Own.copy S5.out).mono ?_; rintro e w6 ⟨d, rfl, hP⟩; have P6 := Lib.hid hP; clear hP)
        | (go_at_call 12; refine (Pair.takeS A B P6.out HY.out (by rw [HB.out])).mono ?_; rintro e w7 ⟨u7, rfl, hR, hP⟩; have R7' := Lib.hid hR; have P7' := Lib.hid hP; clear hR hP))
      have P7 := Lib.hid (P7'.out.step ((Upto.refl _ w7).drew))
      have R7 := Lib.hid (R7'.out.kept ((Upto.refl (fun _ => False) w7).drew) (fun _ _ => id))
      have hw2 : IntKind.i64.wrap ((r : Int) + k - k) = (r : Int) := by
        rw [show (r : Int) + k - k = r by omega]
        exact wrap_small _ (by omega) (by have := Hl.out; omega)
      have hw3 : IntKind.i64.wrap (r : Int) = (r : Int) := wrap_small _ (by omega) (by have := Hl.out; omega)
      have hr1 : (0 : Int) ≤ (r : Int) := by omega
      have hr2 : (r : Int) ≤ (r : Int) + k := by omega
      have hr3 : (r : Int) ≤ (c : Int) := by omega
      have hsB := SY.out.drop r (by rw [HY.out, List.length_append]; have := HA.out; omega)
      rw [HY.out, List.drop_left' HA.out, show r + k - r = k by omega] at hsB
      have SBB := Lib.hid hsB; clear hsB
      by_cases hcr : c = r
      · have hcr2 : (c = r) = True := eq_true hcr
        clear hcr
        have hcr := hcr2
        clear hcr2
        have SB : Sees w (.slice (some ⟨g, o, none⟩) (((r : Int) + (k : Int)).toNat - r) (c - r)) B := by
          rw [show ((r : Int) + (k : Int)).toNat - r = k by omega]
          simpa [hcr] using SBB.out
        have SB := Lib.hid SB
        go_region_held3 (fun _ => True) (trivial) (first
          | (go_at_call 13; refine (same_own R9.out.sees (SA.out.below P9.out.base) rfl).mono ?_; rintro e w10 ⟨rfl, hu⟩; have P10 := Lib.hid (P9.out.step hu); clear hu)
          | (go_at_call 11; refine (Pair.allS P8.out).mono ?_; rintro e w9 ⟨u9, rfl, hR, hu⟩; have R9 := Lib.hid hR; have P9 := Lib.hid (P8.out.step hu); clear hR hu)
          | (go_at_call 13; refine (same_own R7.out.sees (SB.out.below P7.out.base) rfl).mono ?_; rintro e w8 ⟨rfl, hu⟩; have P8 := Lib.hid (P7.out.step hu); clear hu))
        go_wp2
        go_loopw [16] (fun i wr => ∃ j : Nat, j ≤ r + k ∧ i = .int .i64 ((j : Int) - 1) ∧ Hid (Pair w wr 48 48 (.pointer (some ⟨s, 0, none⟩)) (.pointer (some ⟨d, 0, none⟩)) most (some A) (some (Y.take j)) (fun _ => False))) (fun i _ => (intOf i + 1).toNat)
        case atStart => exact ⟨r + k, Nat.le_refl _, by go_num, by have := P10.out; rwa [List.take_of_length_le (by rw [HY.out, List.length_append]; have := HA.out; have := HB.out; omega)]⟩
        case round =>
          obtain ⟨j, hj, rfl, hT2⟩ := hrel
          obtain _ | j := j
          · go_wp2_with (first
              | (go_at_call 8; refine (works_true _).mono ?_; rintro e wg ⟨rfl, hb⟩)
              | (go_at_call 14; refine (Pair.lenS (r : Int) P11.out (by rw [HA.out])).mono ?_; rintro e wg ⟨rfl, rfl⟩)
              | (go_at_call 17; refine (Pair.popN hT2.out).mono ?_; rintro e w11 ⟨rfl, hP⟩; have P11 := Lib.hid hP; clear hP))
            go_ret
            exact ⟨rfl, Upto.below ((Upto.of_below P11.out.base _).trans (Upto.of_below hb _))⟩
          · have hjX : j < r + k + e := by omega
            have hYj : X.getD j 0 = Y[j]?.getD 0 := by
              rw [← HXY.out, List.getElem?_take, if_pos (by omega)]
              rfl
            have hcur := (hT2.out.base.cell (p := ⟨g, o + j, none⟩) hg).trans (Hcell.out j hjX)
            rw [hYj] at hcur
            have hYl : j < Y.length := by rw [HY.out, List.length_append]; have := HA.out; have := HB.out; omega
            have hlen : ((Y.take j).length : Int) = (j : Int) := by rw [List.length_take]; omega
            have Hlen := Lib.hid hlen; clear hlen
            have HYl := Lib.hid hYl; clear hYl hYj
            go_wp2_with (first
              | (go_at_call 14; refine (Pair.lenS (j : Int) P11.out.swap Hlen.out).mono ?_; rintro e wg ⟨rfl, rfl⟩)
              | (go_at_call 17; refine (Pair.popS _ hT2.out (take_succ_get HYl.out).symm).mono ?_; rintro e w11 ⟨rfl, hP⟩; have P11 := Lib.hid hP; clear hP; have hcur2 := (P11.out.base.cell (p := ⟨g, o + j, none⟩) hg).trans (Hcell.out j hjX); rw [show X.getD j 0 = Y[j]?.getD 0 by rw [← HXY.out, List.getElem?_take, if_pos (by omega)]; rfl] at hcur2))
            go_roundw
            case rel => exact ⟨j, by omega, by go_num, P11⟩
            case measure => simp [intOf]
      · have SB : Sees w (.slice (some ⟨g, o + r, none⟩) (((r : Int) + (k : Int)).toNat - r) (c - r)) B := by
          rw [show ((r : Int) + (k : Int)).toNat - r = k by omega]
          simpa [hcr, Addr.add_lit] using SBB.out
        have SB := Lib.hid SB
        go_region_held3 (fun _ => True) (trivial) (first
          | (go_at_call 13; refine (same_own R9.out.sees (SA.out.below P9.out.base) rfl).mono ?_; rintro e w10 ⟨rfl, hu⟩; have P10 := Lib.hid (P9.out.step hu); clear hu)
          | (go_at_call 11; refine (Pair.allS P8.out).mono ?_; rintro e w9 ⟨u9, rfl, hR, hu⟩; have R9 := Lib.hid hR; have P9 := Lib.hid (P8.out.step hu); clear hR hu)
          | (go_at_call 13; refine (same_own R7.out.sees (SB.out.below P7.out.base) rfl).mono ?_; rintro e w8 ⟨rfl, hu⟩; have P8 := Lib.hid (P7.out.step hu); clear hu))
        go_wp2
        go_loopw [16] (fun i wr => ∃ j : Nat, j ≤ r + k ∧ i = .int .i64 ((j : Int) - 1) ∧ Hid (Pair w wr 48 48 (.pointer (some ⟨s, 0, none⟩)) (.pointer (some ⟨d, 0, none⟩)) most (some A) (some (Y.take j)) (fun _ => False))) (fun i _ => (intOf i + 1).toNat)
        case atStart => exact ⟨r + k, Nat.le_refl _, by go_num, by have := P10.out; rwa [List.take_of_length_le (by rw [HY.out, List.length_append]; have := HA.out; have := HB.out; omega)]⟩
        case round =>
          obtain ⟨j, hj, rfl, hT2⟩ := hrel
          obtain _ | j := j
          · go_wp2_with (first
              | (go_at_call 8; refine (works_true _).mono ?_; rintro e wg ⟨rfl, hb⟩)
              | (go_at_call 14; refine (Pair.lenS (r : Int) P11.out (by rw [HA.out])).mono ?_; rintro e wg ⟨rfl, rfl⟩)
              | (go_at_call 17; refine (Pair.popN hT2.out).mono ?_; rintro e w11 ⟨rfl, hP⟩; have P11 := Lib.hid hP; clear hP))
            go_ret
            exact ⟨rfl, Upto.below ((Upto.of_below P11.out.base _).trans (Upto.of_below hb _))⟩
          · have hjX : j < r + k + e := by omega
            have hYj : X.getD j 0 = Y[j]?.getD 0 := by
              rw [← HXY.out, List.getElem?_take, if_pos (by omega)]
              rfl
            have hcur := (hT2.out.base.cell (p := ⟨g, o + j, none⟩) hg).trans (Hcell.out j hjX)
            rw [hYj] at hcur
            have hYl : j < Y.length := by rw [HY.out, List.length_append]; have := HA.out; have := HB.out; omega
            have hlen : ((Y.take j).length : Int) = (j : Int) := by rw [List.length_take]; omega
            have Hlen := Lib.hid hlen; clear hlen
            have HYl := Lib.hid hYl; clear hYl hYj
            go_wp2_with (first
              | (go_at_call 14; refine (Pair.lenS (j : Int) P11.out.swap Hlen.out).mono ?_; rintro e wg ⟨rfl, rfl⟩)
              | (go_at_call 17; refine (Pair.popS _ hT2.out (take_succ_get HYl.out).symm).mono ?_; rintro e w11 ⟨rfl, hP⟩; have P11 := Lib.hid hP; clear hP; have hcur2 := (P11.out.base.cell (p := ⟨g, o + j, none⟩) hg).trans (Hcell.out j hjX); rw [show X.getD j 0 = Y[j]?.getD 0 by rw [← HXY.out, List.getElem?_take, if_pos (by omega)]; rfl] at hcur2))
            go_roundw
            case rel => exact ⟨j, by omega, by go_num, P11⟩
            case measure => simp [intOf]

theorem row_nil {w : World} {u : Value} (h : Row w u []) : ∃ ao c, u = .slice ao 0 c := by
  obtain ⟨ao, c, rfl, _⟩ := h.slice
  exact ⟨ao, c, rfl⟩
theorem same_none (ao bo : Option Addr) (c d : Nat) (w : World) : Calls Try.prog 13 #[.slice ao 0 c, .slice bo 0 d] w fun e w' => e = .returned (.bool true) ∧ Upto (fun _ => False) w w' :=
  (same_zero ao bo c d w).mono fun _ _ ⟨h, _, hk⟩ => ⟨h, Upto.drewN_of _ hk⟩

set_option maxRecDepth 10000 in
set_option maxHeartbeats 2000000 in
theorem order_none (most many : Int) (w : World) (hm0 : 0 ≤ most) (hm1 : most ≤ 255) (hn0 : 0 ≤ many) (hn1 : many ≤ 255) :
    Calls Try.prog 7 #[.slice none 0 0, .int .u8 most, .int .u8 many] w fun e w' => e = .returned (.bool true) ∧ Below w.heap.size w w' := by
  have hmin : ¬ most < 0 := by omega
  go_enter Try.func7, Try.ntmps7
  go_wp2_with (first
    | (go_at_call 9; refine (new_own _ _ (by omega)).mono ?_; rintro e w1 ⟨s, rfl, hs⟩; have S1 := Lib.hid hs; clear hs))
  go_loopw [10] (fun i wr => i = .int .i64 0 ∧ Hid (Own w wr s most [])) (fun _ _ => 0)
  case atStart => exact ⟨rfl, S1⟩
  case round =>
    obtain ⟨rfl, S3⟩ := hrel
    go_wp2
    go_region_held3 (fun _ => True) (trivial) (first
      | (go_at_call 13; refine (same_none _ _ _ _ _).mono ?_; rintro e w5 ⟨rfl, hu⟩; have S5 := Lib.hid (A4.out.own.step hu); clear hu)
      | (go_at_call 11; refine (all_own (S3.out.step (Upto.refl _ wr).drew)).mono ?_; rintro e w4 ⟨u4, rfl, hA, hu⟩; have A4 := Lib.hid hA; obtain ⟨ao4, c4, rfl⟩ := row_nil hA.row; clear hA hu))
    go_wp2_with (first
      | (go_at_call 20; refine (Own.copy S5.out).mono ?_; rintro e w6 ⟨d, rfl, hP⟩; have P6 := Lib.hid hP; clear hP)
      | (go_at_call 12; refine (Pair.takeS [] [] P6.out rfl rfl).mono ?_; rintro e w7 ⟨u7, rfl, hR, hP⟩; have P7' := Lib.hid hP; obtain ⟨ao7, c7, rfl⟩ := row_nil hR; clear hR hP))
    have P7 := Lib.hid (P7'.out.step ((Upto.refl _ w7).drew))
    have hw0 : IntKind.i64.wrap (0 - 0) = 0 := wrap_small _ (by omega) (by omega)
    have hw1 : IntKind.i64.wrap 0 = 0 := wrap_small _ (by omega) (by omega)
    go_region_held3 (fun _ => True) (trivial) (first
      | (go_at_call 13; have mm := P9; clear mm; refine (same_none _ _ _ _ _).mono ?_; rintro e w10 ⟨rfl, hu⟩; have P10 := Lib.hid (P9.out.step hu); clear hu)
      | (go_at_call 11; refine (Pair.allS P8.out).mono ?_; rintro e w9 ⟨u9, rfl, hR, hu⟩; obtain ⟨ao9, c9, rfl⟩ := row_nil hR; have P9 := Lib.hid (P8.out.step hu); clear hR hu)
      | (go_at_call 13; refine (same_none _ _ _ _ _).mono ?_; rintro e w8 ⟨rfl, hu⟩; have P8 := Lib.hid (P7.out.step hu); clear hu))
    go_wp2
    go_loopw [16] (fun i wr => i = .int .i64 (-1) ∧ Hid (Pair w wr 48 48 (.pointer (some ⟨s, 0, none⟩)) (.pointer (some ⟨d, 0, none⟩)) most (some []) (some []) (fun _ => False))) (fun _ _ => 0)
    case atStart => exact ⟨rfl, P10⟩
    case round =>
      obtain ⟨rfl, hT2⟩ := hrel
      go_wp2_with (first
        | (go_at_call 8; refine (works_true _).mono ?_; rintro e wg ⟨rfl, hb⟩)
        | (go_at_call 14; refine (Pair.lenS 0 P11.out rfl).mono ?_; rintro e wg ⟨rfl, rfl⟩)
        | (go_at_call 17; refine (Pair.popN hT2.out).mono ?_; rintro e w11 ⟨rfl, hP⟩; have P11 := Lib.hid hP; clear hP))
      go_ret
      exact ⟨rfl, Upto.below ((Upto.of_below P11.out.base _).trans (Upto.of_below hb _))⟩

set_option maxRecDepth 10000 in
set_option maxHeartbeats 2000000 in
theorem order_empty0 (a : Addr) (most many : Int) (w : World) (hm0 : 0 ≤ most) (hm1 : most ≤ 255) (hn0 : 0 ≤ many) (hn1 : many ≤ 255) :
    Calls Try.prog 7 #[.slice (some a) 0 0, .int .u8 most, .int .u8 many] w fun e w' => e = .returned (.bool true) ∧ Below w.heap.size w w' := by
  have hmin : ¬ most < 0 := by omega
  go_enter Try.func7, Try.ntmps7
  go_wp2_with (first
    | (go_at_call 9; refine (new_own _ _ (by omega)).mono ?_; rintro e w1 ⟨s, rfl, hs⟩; have S1 := Lib.hid hs; clear hs))
  go_loopw [10] (fun i wr => i = .int .i64 0 ∧ Hid (Own w wr s most [])) (fun _ _ => 0)
  case atStart => exact ⟨rfl, S1⟩
  case round =>
    obtain ⟨rfl, S3⟩ := hrel
    go_wp2
    go_region_held3 (fun _ => True) (trivial) (first
      | (go_at_call 13; refine (same_none _ _ _ _ _).mono ?_; rintro e w5 ⟨rfl, hu⟩; have S5 := Lib.hid (A4.out.own.step hu); clear hu)
      | (go_at_call 11; refine (all_own (S3.out.step (Upto.refl _ wr).drew)).mono ?_; rintro e w4 ⟨u4, rfl, hA, hu⟩; have A4 := Lib.hid hA; obtain ⟨ao4, c4, rfl⟩ := row_nil hA.row; clear hA hu))
    go_wp2_with (first
      | (go_at_call 20; refine (Own.copy S5.out).mono ?_; rintro e w6 ⟨d, rfl, hP⟩; have P6 := Lib.hid hP; clear hP)
      | (go_at_call 12; refine (Pair.takeS [] [] P6.out rfl rfl).mono ?_; rintro e w7 ⟨u7, rfl, hR, hP⟩; have P7' := Lib.hid hP; obtain ⟨ao7, c7, rfl⟩ := row_nil hR; clear hR hP))
    have P7 := Lib.hid (P7'.out.step ((Upto.refl _ w7).drew))
    have hw0 : IntKind.i64.wrap (0 - 0) = 0 := wrap_small _ (by omega) (by omega)
    have hw1 : IntKind.i64.wrap 0 = 0 := wrap_small _ (by omega) (by omega)
    go_region_held3 (fun _ => True) (trivial) (first
      | (go_at_call 13; have mm := P9; clear mm; refine (same_none _ _ _ _ _).mono ?_; rintro e w10 ⟨rfl, hu⟩; have P10 := Lib.hid (P9.out.step hu); clear hu)
      | (go_at_call 11; refine (Pair.allS P8.out).mono ?_; rintro e w9 ⟨u9, rfl, hR, hu⟩; obtain ⟨ao9, c9, rfl⟩ := row_nil hR; have P9 := Lib.hid (P8.out.step hu); clear hR hu)
      | (go_at_call 13; refine (same_none _ _ _ _ _).mono ?_; rintro e w8 ⟨rfl, hu⟩; have P8 := Lib.hid (P7.out.step hu); clear hu))
    go_wp2
    go_loopw [16] (fun i wr => i = .int .i64 (-1) ∧ Hid (Pair w wr 48 48 (.pointer (some ⟨s, 0, none⟩)) (.pointer (some ⟨d, 0, none⟩)) most (some []) (some []) (fun _ => False))) (fun _ _ => 0)
    case atStart => exact ⟨rfl, P10⟩
    case round =>
      obtain ⟨rfl, hT2⟩ := hrel
      go_wp2_with (first
        | (go_at_call 8; refine (works_true _).mono ?_; rintro e wg ⟨rfl, hb⟩)
        | (go_at_call 14; refine (Pair.lenS 0 P11.out rfl).mono ?_; rintro e wg ⟨rfl, rfl⟩)
        | (go_at_call 17; refine (Pair.popN hT2.out).mono ?_; rintro e w11 ⟨rfl, hP⟩; have P11 := Lib.hid hP; clear hP))
      go_ret
      exact ⟨rfl, Upto.below ((Upto.of_below P11.out.base _).trans (Upto.of_below hb _))⟩

set_option maxRecDepth 10000 in
set_option maxHeartbeats 2000000 in
theorem order_empty1 (a : Addr) (c : Nat) (most many : Int) (w : World) (hm0 : 0 ≤ most) (hm1 : most ≤ 255) (hn0 : 0 ≤ many) (hn1 : many ≤ 255) :
    Calls Try.prog 7 #[.slice (some a) 0 (c + 1), .int .u8 most, .int .u8 many] w fun e w' => e = .returned (.bool true) ∧ Below w.heap.size w w' := by
  have hmin : ¬ most < 0 := by omega
  have hcz : (0 : Int) ≤ (c : Int) + 1 := by omega
  go_enter Try.func7, Try.ntmps7
  go_wp2_with (first
    | (go_at_call 9; refine (new_own _ _ (by omega)).mono ?_; rintro e w1 ⟨s, rfl, hs⟩; have S1 := Lib.hid hs; clear hs))
  go_loopw [10] (fun i wr => i = .int .i64 0 ∧ Hid (Own w wr s most [])) (fun _ _ => 0)
  case atStart => exact ⟨rfl, S1⟩
  case round =>
    obtain ⟨rfl, S3⟩ := hrel
    go_wp2
    go_region_held3 (fun _ => True) (trivial) (first
      | (go_at_call 13; refine (same_none _ _ _ _ _).mono ?_; rintro e w5 ⟨rfl, hu⟩; have S5 := Lib.hid (A4.out.own.step hu); clear hu)
      | (go_at_call 11; refine (all_own (S3.out.step (Upto.refl _ wr).drew)).mono ?_; rintro e w4 ⟨u4, rfl, hA, hu⟩; have A4 := Lib.hid hA; obtain ⟨ao4, c4, rfl⟩ := row_nil hA.row; clear hA hu))
    go_wp2_with (first
      | (go_at_call 20; refine (Own.copy S5.out).mono ?_; rintro e w6 ⟨d, rfl, hP⟩; have P6 := Lib.hid hP; clear hP)
      | (go_at_call 12; refine (Pair.takeS [] [] P6.out rfl rfl).mono ?_; rintro e w7 ⟨u7, rfl, hR, hP⟩; have P7' := Lib.hid hP; obtain ⟨ao7, c7, rfl⟩ := row_nil hR; clear hR hP))
    have P7 := Lib.hid (P7'.out.step ((Upto.refl _ w7).drew))
    have hw0 : IntKind.i64.wrap (0 - 0) = 0 := wrap_small _ (by omega) (by omega)
    have hw1 : IntKind.i64.wrap 0 = 0 := wrap_small _ (by omega) (by omega)
    go_region_held3 (fun _ => True) (trivial) (first
      | (go_at_call 13; have mm := P9; clear mm; refine (same_none _ _ _ _ _).mono ?_; rintro e w10 ⟨rfl, hu⟩; have P10 := Lib.hid (P9.out.step hu); clear hu)
      | (go_at_call 11; refine (Pair.allS P8.out).mono ?_; rintro e w9 ⟨u9, rfl, hR, hu⟩; obtain ⟨ao9, c9, rfl⟩ := row_nil hR; have P9 := Lib.hid (P8.out.step hu); clear hR hu)
      | (go_at_call 13; refine (same_none _ _ _ _ _).mono ?_; rintro e w8 ⟨rfl, hu⟩; have P8 := Lib.hid (P7.out.step hu); clear hu))
    go_wp2
    go_loopw [16] (fun i wr => i = .int .i64 (-1) ∧ Hid (Pair w wr 48 48 (.pointer (some ⟨s, 0, none⟩)) (.pointer (some ⟨d, 0, none⟩)) most (some []) (some []) (fun _ => False))) (fun _ _ => 0)
    case atStart => exact ⟨rfl, P10⟩
    case round =>
      obtain ⟨rfl, hT2⟩ := hrel
      go_wp2_with (first
        | (go_at_call 8; refine (works_true _).mono ?_; rintro e wg ⟨rfl, hb⟩)
        | (go_at_call 14; refine (Pair.lenS 0 P11.out rfl).mono ?_; rintro e wg ⟨rfl, rfl⟩)
        | (go_at_call 17; refine (Pair.popN hT2.out).mono ?_; rintro e w11 ⟨rfl, hP⟩; have P11 := Lib.hid hP; clear hP))
      go_ret
      exact ⟨rfl, Upto.below ((Upto.of_below P11.out.base _).trans (Upto.of_below hb _))⟩

theorem order_true {v : Value} {xs : List Int} (most many : Int) {w : World} (hs : Sees w v xs) (hf : (Lit.int .u8 most).wf = true) (hg : (Lit.int .u8 many).wf = true) :
    Calls Try.prog 7 #[v, .int .u8 most, .int .u8 many] w fun e w' => e = .returned (.bool true) ∧ Below w.heap.size w w' := by
  have hf := bounds_u8 hf
  have hg := bounds_u8 hg
  by_cases h : 60 < xs.length
  · exact order_easy v xs most many w hs h
  · by_cases h0 : xs.length = 0
    · obtain rfl := List.eq_nil_of_length_eq_zero h0
      obtain ⟨ao, c, rfl, _, _, h3, _⟩ := hs
      cases ao with
      | none => rw [h3 rfl]; exact order_none most many w hf.1 hf.2 hg.1 hg.2
      | some a =>
        obtain _ | c := c
        · exact order_empty0 a most many w hf.1 hf.2 hg.1 hg.2
        · exact order_empty1 a c most many w hf.1 hf.2 hg.1 hg.2
    · obtain ⟨g, o, c, rfl, h1, h2, hgb, hcell⟩ := hs.cellsAt (by omega)

      obtain ⟨n, hn⟩ : ∃ n : Nat, (n : Int) = min (xs.length : Int) most := ⟨(min (xs.length : Int) most).toNat, by omega⟩
      have hk0 : 0 ≤ many % ((n : Int) + 1) := Int.emod_nonneg _ (by omega)
      have hk1 : many % ((n : Int) + 1) < (n : Int) + 1 := Int.emod_lt_of_pos _ (by omega)
      obtain ⟨k, hk⟩ : ∃ k : Nat, (k : Int) = many % ((n : Int) + 1) := ⟨(many % ((n : Int) + 1)).toNat, by omega⟩
      obtain ⟨r, rfl⟩ : ∃ r, n = r + k := ⟨n - k, by omega⟩
      obtain ⟨e, he⟩ : ∃ e, xs.length = r + k + e := ⟨xs.length - (r + k), by omega⟩
      have hX := hs
      rw [he] at hX hcell h1 h
      rw [he]
      have hY := hX.upto (r + k) (by omega)
      have hA := hX.upto r (by omega)
      have hYA : xs.take (r + k) = xs.take r ++ (xs.drop r).take k := List.take_add
      refine order_some g o r k e c xs (xs.take (r + k)) (xs.take r) ((xs.drop r).take k) most many w he rfl hYA (by simp; omega) (by simp; omega) (by omega) hgb hf.1 hf.2 hg.1 hg.2 ?_ (by omega) ?_ hcell h1 hY hA hX
      · split <;> omega
      · rw [Int.tmod_eq_emod_of_nonneg hg.1, show (r : Int) + k + 1 = ((r + k : Nat) : Int) + 1 by omega, ← hk]

end Go.Proofs.Ytcajkgingenegaa
