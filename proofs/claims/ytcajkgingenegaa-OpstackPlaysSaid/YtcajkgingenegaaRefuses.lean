/-
  The law of refusals, walked.
-/
import Derived.Test.YtcajkgingenegaaPoke
import Derived.Deep.RegionHeld3
import Derived.OpenShut
namespace Go.Proofs.Ytcajkgingenegaa
open Go.RowKit

set_option maxRecDepth 10000 in
theorem refuses_easy (v : Value) (xs : List Int) (far : Int) (w : World) (hs : Sees w v xs) (h : xs.length = 0 ∨ 40 < xs.length) :
    Calls Try.prog 3 #[v, .int .u16 far] w fun e w' => e = .returned (.bool true) ∧ Below w.heap.size w w' := by
  obtain ⟨ao, c, rfl, _⟩ := hs
  generalize xs.length = n at h
  rcases h with rfl | h
  · go_enter Try.func3, Try.ntmps3
    go_wp2_with (go_at_call 8; refine (works_true _).mono ?_; rintro e w5 ⟨rfl, hb⟩)
    go_ret
    exact ⟨rfl, hb⟩
  · have h1 : ¬ (n : Int) = 0 := by omega
    have h2 : (40 : Int) < n := by omega
    clear h
    go_enter Try.func3, Try.ntmps3
    go_wp2_with (go_at_call 8; refine (works_true _).mono ?_; rintro e w5 ⟨rfl, hb⟩)
    go_ret
    exact ⟨rfl, hb⟩

theorem Apart.cz {w0 w : World} {b : Nat} {most : Int} {xs : List Int} {g n c : Nat} {z : Int} (h : Apart w0 w b most xs (.slice (some ⟨g, 0, none⟩) n c) [z]) : w.cell? ⟨g, 0, none⟩ = some (.int .i64 z) := by
  obtain ⟨g', c', e, h1, _⟩ := row_first h.row Nat.zero_lt_one
  simp only [Value.slice.injEq, Option.some.injEq, Addr.mk.injEq] at e
  obtain ⟨⟨rfl, _⟩, _⟩ := e
  exact h1

theorem Sees.upto {w : World} {ao : Option Addr} {n c : Nat} {xs : List Int} (h : Sees w (.slice ao n c) xs) (k : Nat) (hk : k ≤ xs.length) : Sees w (.slice ao k c) (xs.take k) := by
  obtain ⟨ao', c', e, h1, h2, h3, h4⟩ := h
  simp only [Value.slice.injEq] at e
  obtain ⟨rfl, rfl, rfl⟩ := e
  have hl : (xs.take k).length = k := by simp; omega
  refine ⟨ao, c, by rw [hl], by rw [hl]; omega, h2, h3, fun ad e => ?_⟩
  rw [hl]
  obtain ⟨s1, s2⟩ := h4 ad e
  refine ⟨fun h0 => s1 (by omega), fun j hj => ?_⟩
  rw [s2 j (by omega)]
  simp [List.getD, hj]

set_option maxRecDepth 10000 in
set_option maxHeartbeats 4000000 in
theorem refuses_some (g o m c : Nat) (ys : List Int) (x : Int) (far : Int) (w : World) (hl : ys.length = m) (h1 : m + 1 ≤ 40) (hg : g < w.heap.size) (hcell : ∀ j, j < m + 1 → w.cell? ⟨g, o + j, none⟩ = some (.int .i64 ((ys ++ [x]).getD j 0)))
    (hs : Sees w (.slice (some ⟨g, o, none⟩) (m + 1) c) (ys ++ [x])) (hf0 : 0 ≤ far) (hf1 : far ≤ 65535) :
    Calls Try.prog 3 #[.slice (some ⟨g, o, none⟩) (m + 1) c, .int .u16 far] w fun e w' => e = .returned (.bool true) ∧ Below w.heap.size w w' := by
  have hxl : (ys ++ [x]).length = m + 1 := by simp [hl]
  have hx0 : w.cell? ⟨g, o + m, none⟩ = some (.int .i64 x) := by
    rw [hcell m (by omega)]
    simp [List.getD, ← hl]
  have Hx0 := Lib.hid hx0; clear hx0
  have Hcell := Lib.hid hcell; clear hcell
  have Hl := Lib.hid hl; clear hl
  have Hxl := Lib.hid hxl; clear hxl
  have Hs := Lib.hid hs; clear hs
  have hz1 : ¬ ((m : Int) + 1 = 0) := by omega
  have hz2 : ¬ ((40 : Int) < (m : Int) + 1) := by omega
  go_enter Try.func3, Try.ntmps3
  go_wp2_with (first
    | (go_at_call 9; refine (new_many _ _ (Or.inl (by omega))).mono ?_; rintro e w1 ⟨rfl, rfl⟩)
    | (go_at_call 9; refine (new_many _ _ (Or.inr (by omega))).mono ?_; rintro e w1 ⟨rfl, rfl⟩)
    | (go_at_call 9; refine (new_own _ _ (by omega)).mono ?_; rintro e w1 ⟨s, rfl, hs⟩; have S1 := Lib.hid hs; clear hs))
  go_loopw [12] (fun i wr => ∃ k : Nat, k ≤ m + 1 ∧ i = .int .i64 k ∧ Hid (Own w wr s (m + 1 : Nat) ((ys ++ [x]).take k))) (fun i _ => m + 1 - (intOf i).toNat)
  case atStart => exact ⟨0, Nat.zero_le _, rfl, by simpa using S1⟩
  case round =>
    obtain ⟨k, hk, rfl, hT⟩ := hrel
    by_cases hlt : k < m + 1
    · have hcur := (hT.out.base.cell (p := ⟨g, o + k, none⟩) hg).trans (Hcell.out k hlt)
      have hlen : (((ys ++ [x]).take k).length : Int) < ((m + 1 : Nat) : Int) := by have := Hxl.out; rw [List.length_take]; omega
      have Hlen := Lib.hid hlen; clear hlen
      go_wp2_with (go_at_call 10; refine (push_own _ hT.out Hlen.out).mono ?_; rintro e w4 ⟨rfl, hs⟩; have T4 := Lib.hid hs; clear hs)
      go_roundw
      case rel => exact ⟨k + 1, by omega, by go_num, Lib.hid (by have := T4.out; rwa [take_succ_get (by have := Hxl.out; omega)] at this)⟩
      case measure => simp [intOf]; omega
    · obtain rfl : k = m + 1 := by omega
      have hfull : Own w wr s (m + 1 : Nat) (ys ++ [x]) := by have := hT.out; rwa [List.take_of_length_le (by have := Hxl.out; omega)] at this
      have S3 := Lib.hid hfull; clear hfull hT hlt hk
      go_wp2_with (first
        | (go_at_call 12; refine (Own.take ys [x] S8.out rfl rfl).mono ?_; rintro e w9 ⟨u, rfl, hA⟩; have A9 := Lib.hid hA; obtain ⟨g2, c3, rfl, cc, cf, _⟩ := row_first hA.row Nat.zero_lt_one; have cl := (hA.own.base.cell (p := ⟨g, o + m, none⟩) hg).trans Hx0.out; clear hA)
        | (go_at_call 13; refine (same_own A7.out.row.sees (Hs.out.below A7.out.own.base) rfl).mono ?_; rintro e w8 ⟨rfl, hu⟩; have S8 := Lib.hid (A7.out.own.step hu); clear hu)
        | (go_at_call 11; refine (all_own S6.out).mono ?_; rintro e w7 ⟨u, rfl, hA, _⟩; have A7 := Lib.hid hA; clear hA)
        | (go_at_call 10; refine (push_many_same _ S5.out (by have := Hxl.out; omega)).mono ?_; rintro e w6 ⟨rfl, hu⟩; have S6 := Lib.hid (S5.out.step hu); clear hu)
        | (go_at_call 11; refine (all_own S3.out).mono ?_; rintro e w4 ⟨u, rfl, hA, _⟩; have A4 := Lib.hid hA; obtain ⟨g1, c1, rfl, cc, cf, _⟩ := row_first hA.row (by have := Hxl.out; omega); rw [Hxl.out]; clear hA)
        | (go_at_call 12; refine (take_none_own (Apart.poke A4.out _).own (by have := Hxl.out; omega)).mono ?_; rintro e w5 ⟨rfl, rfl⟩)
        | (go_at_call 12; refine (take_neg_own (Apart.poke A4.out _).own (by omega)).mono ?_; rintro e w5 ⟨rfl, rfl⟩)
        | (go_at_call 12; refine (take_zero_own (Apart.poke A4.out _).own).mono ?_; rintro e w5 ⟨ao, c2, rfl, hs⟩; have S5 := Lib.hid hs; clear hs cc cf))
      go_quiet (fail)
      go_wp2
      have AW : Apart w ((w9.drewN nq).setCell ⟨g2, 0, none⟩ (.int .i64 (wrap64 (x + 1)))) s (m + 1 : Nat) ys (.slice (some ⟨g2, 0, none⟩) 1 c3) [wrap64 (x + 1)] := (A9.out.step ((Upto.refl _ _).drewN nq)).poke _
      generalize (w9.drewN nq).setCell ⟨g2, 0, none⟩ (.int .i64 (wrap64 (x + 1))) = wa at AW
      have AA := Lib.hid (AW.step (Upto.refl _ _).drew)
      have cl0 := (AW.own.base.cell (p := ⟨g, o + m, none⟩) hg).trans Hx0.out
      have cz0 := AW.cz
      clear AW cc cf cl
      have Hy := Lib.hid (show Sees w (.slice (some ⟨g, o, none⟩) m c) ys by have := Hs.out.upto m (by have := Hxl.out; omega); rwa [List.take_left' Hl.out] at this)
      have Hyl : (ys.length : Int) < ((m + 1 : Nat) : Int) := by have := Hl.out; omega
      have HyL := Lib.hid Hyl; clear Hyl
      have hmc : (m : Int) ≤ (c : Int) := by
        obtain ⟨_, _, e, h2, _⟩ := Hs.out
        simp only [Value.slice.injEq] at e
        have := Hxl.out
        omega
      have hm0 : (0 : Int) ≤ (m : Int) := by omega
      have hm1 : (m : Int) < (m : Int) + 1 := by omega
      have hwm : IntKind.i64.wrap ((m : Int) + 1 - 1) = (m : Int) := by
        rw [show (m : Int) + 1 - 1 = m by omega]
        exact wrap_small _ (by omega) (by omega)
      have hwx : IntKind.i64.wrap (x + 1) = wrap64 (x + 1) := IntWalk.i64_left (x + 1)
      have hwm0 : IntKind.i64.wrap (m : Int) = (m : Int) := wrap_small _ (by omega) (by omega)
      go_region_held3 (fun w' => w'.cell? ⟨g, o + m, none⟩ = some (.int .i64 x) ∧ w'.cell? ⟨g2, 0, none⟩ = some (.int .i64 (wrap64 (x + 1)))) (go_keep) (first
        | (go_at_call 8; have mm := AF; clear mm; refine (works_true _).mono ?_; rintro e wg ⟨rfl, hb⟩; have AG := Lib.hid (AF.out.step (Upto.of_below hb _)); have cl6 := (AG.out.own.base.cell (p := ⟨g, o + m, none⟩) hg).trans Hx0.out; have cz6 := AG.out.cz; clear hb)
        | (go_at_call 13; refine (same_own R7.out.sees (Hs.out.below AE.out.own.base) rfl).mono ?_; rintro e wf ⟨rfl, hu⟩; have AF := Lib.hid (AE.out.step hu); have cl5 := (AF.out.own.base.cell (p := ⟨g, o + m, none⟩) hg).trans Hx0.out; have cz5 := AF.out.cz; clear hu)
        | (go_at_call 11; refine (all_own AD.out.own).mono ?_; rintro e we ⟨u7, rfl, hA, hu⟩; have AE := Lib.hid (AD.out.step hu); have R7 := Lib.hid hA.row; have cl4 := (AE.out.own.base.cell (p := ⟨g, o + m, none⟩) hg).trans Hx0.out; have cz4 := AE.out.cz; clear hA hu)
        | (go_at_call 10; refine (push_apart x AC.out HyL.out).mono ?_; rintro e wd ⟨rfl, hA⟩; have AD := Lib.hid hA; have cl3 := (AD.out.own.base.cell (p := ⟨g, o + m, none⟩) hg).trans Hx0.out; have cz3 := AD.out.cz; clear hA)
        | (go_at_call 13; refine (same_own R5.out.sees (Hy.out.below AB.out.own.base) rfl).mono ?_; rintro e wc ⟨rfl, hu⟩; have AC := Lib.hid (AB.out.step hu); have cl2 := (AC.out.own.base.cell (p := ⟨g, o + m, none⟩) hg).trans Hx0.out; have cz2 := AC.out.cz; clear hu)
        | (go_at_call 11; refine (all_own AA.out.own).mono ?_; rintro e wb ⟨u5, rfl, hA, hu⟩; have AB := Lib.hid (AA.out.step hu); have R5 := Lib.hid hA.row; have cl1 := (AB.out.own.base.cell (p := ⟨g, o + m, none⟩) hg).trans Hx0.out; have cz1 := AB.out.cz; clear hA hu))
      go_wp2
      go_ret
      exact ⟨rfl, AG.out.own.base⟩

theorem refuses_true {v : Value} {xs : List Int} (far : Int) {w : World} (hs : Sees w v xs) (hf : (Lit.int .u16 far).wf = true) :
    Calls Try.prog 3 #[v, .int .u16 far] w fun e w' => e = .returned (.bool true) ∧ Below w.heap.size w w' := by
  have hf := bounds_u16 hf
  by_cases h : xs.length = 0 ∨ 40 < xs.length
  · exact refuses_easy v xs far w hs h
  · rcases List.eq_nil_or_concat xs with rfl | ⟨ys, x, rfl⟩
    · simp at h
    · rw [List.concat_eq_append] at hs h
      obtain ⟨g, o, c, rfl, h1, h2, hg, hcell⟩ := hs.cellsAt (by omega)
      have hl : (ys ++ [x]).length = ys.length + 1 := by simp
      rw [hl]
      exact refuses_some g o ys.length c ys x far w rfl (by omega) hg (fun j hj => hcell j (by omega)) (by rw [hl] at hs; exact hs) hf.1 hf.2

end Go.Proofs.Ytcajkgingenegaa
