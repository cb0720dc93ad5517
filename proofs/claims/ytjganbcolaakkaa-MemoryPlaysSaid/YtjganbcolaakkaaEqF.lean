/-
  slices.EqualFunc over slices of rows, and Same of the heaps, walked.
-/
import Derived.Test.YtjganbcolaakkaaHCopy
namespace Go.Proofs.Ytjganbcolaakkaa
open Go.RowKit

theorem eqf_len (ao bo : Option Addr) (n c m d : Nat) (f : Value) (w : World) (h : n ≠ m) :
    Calls Try.prog 70 #[.slice ao n c, .slice bo m d, f] w fun e w' => e = .returned (.bool false) ∧ ∃ k, w' = w.drewN k := by
  have h1 : ((n : Int) != (m : Int)) = true := by simp; omega
  go_enter Try.func70, Try.ntmps70
  go_wp2
  go_ret
  exact ⟨rfl, 0, rfl⟩
theorem eqf_zero (ao bo : Option Addr) (c d : Nat) (f : Value) (w : World) :
    Calls Try.prog 70 #[.slice ao 0 c, .slice bo 0 d, f] w fun e w' => e = .returned (.bool true) ∧ ∃ k, w' = w.drewN k := by
  go_enter Try.func70, Try.ntmps70
  go_wp2
  go_loop [17] (fun i => i = .int .i64 0) (fun _ => 0)
  case atStart => rfl
  case round =>
    subst hrel
    go_wp2
    go_ret
    exact ⟨rfl, 0, rfl⟩

/-- Rows that lie one behind the other. -/
def RowsAt (w : World) (g n : Nat) (ls : List (List Int)) : Prop := ∀ j, j < n → ∃ so sc, w.cell? ⟨g, j, none⟩ = some (.slice so (ls.getD j []).length sc) ∧ Sees w (.slice so (ls.getD j []).length sc) (ls.getD j [])

set_option maxHeartbeats 800000 in
theorem eqf_some (g g' n c d : Nat) (xs ys : List (List Int)) (w : World) (hm : n ≤ 1000000000) (hxl : xs.length = n) (hyl : ys.length = n) (hx : RowsAt w g n xs) (hy : RowsAt w g' n ys) :
    Calls Try.prog 70 #[.slice (some ⟨g, 0, none⟩) n c, .slice (some ⟨g', 0, none⟩) n d, .func (.func 31) #[] #[]] w fun e w' => e = .returned (.bool (decide (xs = ys))) ∧ ∃ k, w' = w.drewN k := by
  have Hx := Lib.hid hx; clear hx
  have Hy := Lib.hid hy; clear hy
  have Hxl := Lib.hid hxl; clear hxl
  have Hyl := Lib.hid hyl; clear hyl
  go_enter Try.func70, Try.ntmps70
  go_wp2
  go_loopw [17] (fun i wr => ∃ k : Nat, k ≤ n ∧ i = .int .i64 k ∧ Hid (∀ j, j < k → xs.getD j [] = ys.getD j []) ∧ ∃ m, wr = w.drewN m) (fun i _ => n - (intOf i).toNat)
  case atStart => exact ⟨0, Nat.zero_le _, rfl, Lib.hid (fun j hj => by omega), 0, rfl⟩
  case round =>
    obtain ⟨k, hk, rfl, he, m, rfl⟩ := hrel
    by_cases hlt : k < n
    · obtain ⟨so, sc, cx, sx⟩ := Hx.out k hlt
      obtain ⟨so', sc', cy, sy⟩ := Hy.out k hlt
      have hE := eq_at (sx.kept ((Upto.refl (fun _ => False) w).drewN m) (fun _ _ => id)) (sy.kept ((Upto.refl (fun _ => False) w).drewN m) (fun _ _ => id))
      generalize hp : xs.getD k [] = p at *
      generalize hq' : ys.getD k [] = q at *
      have Hp := Lib.hid hp; clear hp
      have Hq' := Lib.hid hq'; clear hq'
      generalize p.length = pl at *
      generalize q.length = ql at *
      clear sx sy
      by_cases hq : p = q
      · rw [decide_eq_true hq] at hE
        have HE := Lib.hid hE; clear hE
        have Hq := Lib.hid hq; clear hq
        go_wp2_with (go_at_call 31; refine HE.out.mono ?_; rintro e w4 ⟨rfl, m4, rfl⟩)
        go_roundw
        case rel => exact ⟨k + 1, by omega, by go_num, Lib.hid (fun j hj => by
          by_cases e : j = k
          · subst e; rw [Hp.out, Hq'.out, Hq.out]
          · exact he.out j (by omega)), m + m4, rfl⟩
        case measure => simp [intOf]; omega
      · rw [decide_eq_false hq] at hE
        have HE := Lib.hid hE; clear hE
        have hne : decide (xs = ys) = false := by
          rw [decide_eq_false_iff_not]
          intro e
          have h1 := Hp.out
          rw [e, Hq'.out] at h1
          exact hq h1.symm
        have Hne := Lib.hid hne; clear hne hq
        go_wp2_with (go_at_call 31; refine HE.out.mono ?_; rintro e w4 ⟨rfl, m4, rfl⟩)
        go_ret
        exact ⟨by rw [Hne.out]; rfl, m + m4, rfl⟩
    · obtain rfl : k = n := by omega
      have hne : decide (xs = ys) = true := by
        rw [decide_eq_true_eq]
        apply List.ext_getElem?
        intro j
        have h1 := Hxl.out
        have h2 := Hyl.out
        by_cases hj : j < k
        · have := he.out j hj
          simp only [List.getD] at this
          rw [List.getElem?_eq_getElem (by omega), List.getElem?_eq_getElem (by omega)] at this ⊢
          simpa using this
        · rw [List.getElem?_eq_none (by omega), List.getElem?_eq_none (by omega)]
      have Hne := Lib.hid hne; clear hne
      go_wp2
      go_ret
      exact ⟨by rw [Hne.out]; rfl, m, rfl⟩

/-- What a heap's slice of rows reads as. -/
def MSees (w : World) (u : Value) (ls : List (List Int)) : Prop := ∃ ao c, u = .slice ao ls.length c ∧ (0 < ls.length → ∃ g, ao = some ⟨g, 0, none⟩ ∧ RowsAt w g ls.length ls)
theorem MSees.of {w : World} {u : Value} {vs : List Value} {ls : List (List Int)} {F : Fp} (h : MatV u vs ls w F) : MSees w u ls := by
  obtain ⟨ao, c, rfl, _⟩ := MatT.len (u := u) (ls := ls) ⟨vs, h.1, h.2⟩
  refine ⟨ao, c, rfl, fun hp => ?_⟩
  obtain ⟨g, c', e, _⟩ := MatT.shape (u := .slice ao ls.length c) (ls := ls) ⟨vs, h.1, h.2⟩ hp
  simp only [Value.slice.injEq] at e
  obtain ⟨rfl, _, rfl⟩ := e
  refine ⟨g, rfl, fun j hj => ?_⟩
  obtain ⟨g2, c2, so, sc, F1, e, h1, h2, _⟩ := MatT.row (u := .slice (some ⟨g, 0, none⟩) ls.length c) j ⟨vs, h.1, h.2⟩ hj
  simp only [Value.slice.injEq, Option.some.injEq, Addr.mk.injEq] at e
  obtain ⟨⟨rfl, _⟩, _⟩ := e
  exact ⟨so, sc, h1, h2.sees⟩
theorem MSees.kept {w w' : World} {u : Value} {ls : List (List Int)} (h : MSees w u ls) (hu : Upto (fun _ => False) w w') : MSees w' u ls := by
  obtain ⟨ao, c, rfl, h2⟩ := h
  refine ⟨ao, c, rfl, fun hp => ?_⟩
  obtain ⟨g, rfl, h3⟩ := h2 hp
  refine ⟨g, rfl, fun j hj => ?_⟩
  obtain ⟨so, sc, h4, h5⟩ := h3 j hj
  exact ⟨so, sc, (hu.cell (p := ⟨g, j, none⟩) (World.block_lt_of_cell? _ _ h4) id).trans h4, h5.kept hu (fun _ _ => id)⟩
theorem eqf_at {w : World} {u u' : Value} {ls ls' : List (List Int)} (h : MSees w u ls) (h' : MSees w u' ls') (hm : ls.length ≤ 1000000000) :
    Calls Try.prog 70 #[u, u', .func (.func 31) #[] #[]] w fun e w' => e = .returned (.bool (decide (ls = ls'))) ∧ ∃ k, w' = w.drewN k := by
  obtain ⟨ao, c, rfl, h2⟩ := h
  obtain ⟨ao', c', rfl, h2'⟩ := h'
  by_cases hl : ls.length = ls'.length
  · by_cases h0 : ls.length = 0
    · have e : ls = ls' := by rw [List.eq_nil_of_length_eq_zero h0, List.eq_nil_of_length_eq_zero (show ls'.length = 0 by omega)]
      rw [← hl, h0, decide_eq_true e]
      exact eqf_zero ao ao' c c' _ w
    · obtain ⟨g, rfl, h3⟩ := h2 (by omega)
      obtain ⟨g', rfl, h3'⟩ := h2' (by omega)
      rw [← hl]
      rw [← hl] at h3'
      exact eqf_some g g' ls.length c c' ls ls' w hm rfl hl.symm h3 h3'
  · have e : decide (ls = ls') = false := by
      rw [decide_eq_false_iff_not]; intro e; exact hl (by rw [e])
    rw [e]
    exact eqf_len ao ao' _ c _ c' _ w hl

set_option maxRecDepth 10000 in
set_option maxHeartbeats 2000000 in
theorem hsame_at (b b' lim : Nat) (u u' : Value) (rs rs' : List (List Int)) (w : World) (c0 : w.cell? ⟨b, 0, none⟩ = some (.bool true)) (c1 : w.cell? ⟨b, 1, none⟩ = some (.int .i64 lim)) (c3 : w.cell? ⟨b, 3, none⟩ = some u) (h : MSees w u rs)
    (d0 : w.cell? ⟨b', 0, none⟩ = some (.bool true)) (d1 : w.cell? ⟨b', 1, none⟩ = some (.int .i64 lim)) (d3 : w.cell? ⟨b', 3, none⟩ = some u') (h' : MSees w u' rs') (hm : rs.length ≤ 1000000000) :
    Calls Try.prog 46 #[ptr b, ptr b'] w fun e w' => e = .returned (.bool (decide (rs = rs'))) ∧ Upto (fun _ => False) w w' := by
  have HE : Hid (∀ n : Nat, Calls Try.prog 70 #[u, u', .func (.func 31) #[] #[]] (w.drewN n) fun e w' => e = .returned (.bool (decide (rs = rs'))) ∧ ∃ k, w' = (w.drewN n).drewN k) := Lib.hid fun n => eqf_at (h.kept ((Upto.refl (fun _ => False) w).drewN n)) (h'.kept ((Upto.refl (fun _ => False) w).drewN n)) hm
  have HV : Hid (∀ (m : Nat) (c1 : Value), c1 = ptr b ∨ c1 = ptr b' → Calls Try.prog 60 #[c1] (w.drewN m) fun e w' => e = .returned (.bool true) ∧ w' = w.drewN m) := Lib.hid fun m c1 hc1 => by
    rcases hc1 with rfl | rfl
    · exact (hvalid_at b true (w.drewN m) c0).mono fun _ _ ⟨h1, h2⟩ => ⟨h1, h2.symm⟩
    · exact (hvalid_at b' true (w.drewN m) d0).mono fun _ _ ⟨h1, h2⟩ => ⟨h1, h2.symm⟩
  obtain ⟨ao, c, rfl, _⟩ := h
  obtain ⟨ao', c', rfl, _⟩ := h'
  generalize rs.length = n at *
  generalize rs'.length = n' at *
  generalize decide (rs = rs') = r at *
  go_enter Try.func46, Try.ntmps46
  go_wp2
  go_quiet (first
    | (go_at_call 70; exact Calls.quiet_of (HE.out _))
    | (go_at_call 60; exact Calls.quiet_of_same (HV.out _ _ (by first | exact Or.inl rfl | exact Or.inr rfl))))
  go_wp2
  go_ret
  exact ⟨rfl, (Upto.refl _ _).drewN _⟩

set_option maxRecDepth 10000 in
theorem hsame_lim (b b' lim lim' : Nat) (w : World) (hl : lim ≠ lim') (c0 : w.cell? ⟨b, 0, none⟩ = some (.bool true)) (c1 : w.cell? ⟨b, 1, none⟩ = some (.int .i64 lim)) (d0 : w.cell? ⟨b', 0, none⟩ = some (.bool true)) (d1 : w.cell? ⟨b', 1, none⟩ = some (.int .i64 lim')) :
    Calls Try.prog 46 #[ptr b, ptr b'] w fun e w' => e = .returned (.bool false) ∧ Upto (fun _ => False) w w' := by
  have hl2 : ((lim : Int) == (lim' : Int)) = false := by simp; omega
  have HV : Hid (∀ (m : Nat) (c1 : Value), c1 = ptr b ∨ c1 = ptr b' → Calls Try.prog 60 #[c1] (w.drewN m) fun e w' => e = .returned (.bool true) ∧ w' = w.drewN m) := Lib.hid fun m c1 hc1 => by
    rcases hc1 with rfl | rfl
    · exact (hvalid_at b true (w.drewN m) c0).mono fun _ _ ⟨h1, h2⟩ => ⟨h1, h2.symm⟩
    · exact (hvalid_at b' true (w.drewN m) d0).mono fun _ _ ⟨h1, h2⟩ => ⟨h1, h2.symm⟩
  go_enter Try.func46, Try.ntmps46
  go_wp2
  go_quiet (first
    | (go_at_call 60; exact Calls.quiet_of_same (HV.out _ _ (by first | exact Or.inl rfl | exact Or.inr rfl))))
  go_wp2
  go_ret
  exact ⟨rfl, (Upto.refl _ _).drewN _⟩

/-- What Same reads of a heap. -/
def HReads (w : World) (b lim : Nat) (ls : List (List Int)) : Prop := ∃ rs u, ls = [] :: rs ∧ w.cell? ⟨b, 0, none⟩ = some (.bool true) ∧ w.cell? ⟨b, 1, none⟩ = some (.int .i64 lim) ∧ w.cell? ⟨b, 3, none⟩ = some u ∧ MSees w u rs
theorem HT.reads {w : World} {b lim : Nat} {ls : List (List Int)} {F : Fp} (h : HT b lim ls w F) : HReads w b lim ls := by
  have hc := h.cells
  obtain ⟨rs, u, vs, rfl, h2, h3, h4, F1, F2, h5, h6, _⟩ := h
  exact ⟨rs, u, rfl, hc.1, hc.2.1, by rw [cell_of_row w b 3 _ TH (0, 0) h5.1]; rfl, MSees.of (F := F2) ⟨h2, h6⟩⟩
theorem SH.is {w0 w : World} {b lim : Nat} {ls : List (List Int)} {l2 : List Thing} (l1 : List Thing) (h : St w0 w (l1 ++ HT b lim ls :: l2)) : HReads w b lim ls := by
  obtain ⟨F, hA, _⟩ := h.get l1
  exact hA.reads
theorem SH.same {w0 w : World} {b b' lim : Nat} {ls ls' : List (List Int)} {l : List Thing} [Goods l] (r : Bool) (h : St w0 w l) (h1 : HReads w b lim ls) (h2 : HReads w b' lim ls') (hf : ls.length ≤ 1000000) (hr : decide (ls = ls') = r) : Calls Try.prog 46 #[ptr b, ptr b'] w fun e w' =>
    e = .returned (.bool r) ∧ St w0 w' l := by
  subst hr
  obtain ⟨rs, u, rfl, c0, c1, c3, hm⟩ := h1
  obtain ⟨rs', u', rfl, d0, d1, d3, hm'⟩ := h2
  have e : decide ([] :: rs = [] :: rs') = decide (rs = rs') := by simp
  rw [e]
  exact (hsame_at b b' lim u u' rs rs' w c0 c1 c3 hm d0 d1 d3 hm' (by simp at hf; omega)).mono fun _ _ ⟨h3, h4⟩ => ⟨h3, h.step h4⟩
theorem SH.sameLim {w0 w : World} {b b' lim lim' : Nat} {ls ls' : List (List Int)} {l : List Thing} [Goods l] (h : St w0 w l) (h1 : HReads w b lim ls) (h2 : HReads w b' lim' ls') (hl : lim ≠ lim') : Calls Try.prog 46 #[ptr b, ptr b'] w fun e w' =>
    e = .returned (.bool false) ∧ St w0 w' l := by
  obtain ⟨_, _, _, c0, c1, _⟩ := h1
  obtain ⟨_, _, _, d0, d1, _⟩ := h2
  exact (hsame_lim b b' lim lim' w hl c0 c1 d0 d1).mono fun _ _ ⟨h3, h4⟩ => ⟨h3, h.step h4⟩
theorem SH.copy {w0 w : World} {b lim : Nat} {ls : List (List Int)} {l2 : List Thing} (l1 : List Thing) [Goods l1] [Goods l2] (h : St w0 w (l1 ++ HT b lim ls :: l2)) (hf : ls.length ≤ 1000000) : Calls Try.prog 45 #[ptr b] w fun e w' =>
    ∃ d, e = .returned (ptr d) ∧ St w0 w' (HT d lim ls :: (l1 ++ HT b lim ls :: l2)) :=
  (hcopy_st (h.up l1) hf).mono fun _ _ ⟨d, h1, h2⟩ => ⟨d, h1, h2.perm (List.Perm.cons _ List.perm_middle.symm)⟩

end Go.Proofs.Ytjganbcolaakkaa
