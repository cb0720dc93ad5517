/-
  The document's heaps: Same, walked.
-/
import Derived.Test.YtjganbcolaakkaaRefC
namespace Go.Proofs.Ytjganbcolaakkaa
open Go.RowKit

/-- What Same reads of a heap of the document. -/
def RReads (w : World) (b lim : Nat) (ls : List (List Int)) : Prop := ∃ g c, 0 < ls.length ∧ w.cell? ⟨b, 0, none⟩ = some (.slice (some ⟨g, 0, none⟩) ls.length c) ∧ w.cell? ⟨b, 1, none⟩ = some (.int .i64 lim) ∧ RowsAt w g ls.length ls
theorem SR.is {w0 w : World} {b lim : Nat} {ls : List (List Int)} {l2 : List Thing} (l1 : List Thing) (h : St w0 w (l1 ++ RH b lim ls :: l2)) : RReads w b lim ls := by
  obtain ⟨u, vs, h1, h2, h3, hS⟩ := (h.up l1).rOpen
  obtain ⟨g, c, rfl, hc⟩ := hS.vShape [_] h1
  refine ⟨g, c, h1, hS.cell [] 0 _ rfl, hS.cell [] 1 (.int .i64 lim) rfl, fun j hj => ?_⟩
  obtain ⟨so, sc, x0, x1⟩ := hS.vCell [_] j hj
  exact ⟨so, sc, x1, (hS.vRow [_] j hj x0).sees⟩

theorem sees_cell {w : World} {so : Option Addr} {sc : Nat} {xs : List Int} (r : Nat) (h : Sees w (.slice so xs.length sc) xs) (hr : r < xs.length) : ∃ g o, so = some ⟨g, o, none⟩ ∧ w.cell? ⟨g, o + r, none⟩ = some (.int .i64 (xs.getD r 0)) := by
  obtain ⟨g, o, c, e, _, _, _, hc⟩ := h.cellsAt (by omega)
  simp only [Value.slice.injEq] at e
  exact ⟨g, o, e.1, hc r hr⟩

set_option maxRecDepth 10000 in
theorem rsame_lim (b b' lim lim' n n' c c' g g' : Nat) (w : World) (hp : 0 < n) (hp' : 0 < n') (hl : ¬ (lim = lim' ∧ n = n')) (c0 : w.cell? ⟨b, 0, none⟩ = some (.slice (some ⟨g, 0, none⟩) n c)) (c1 : w.cell? ⟨b, 1, none⟩ = some (.int .i64 lim)) (d0 : w.cell? ⟨b', 0, none⟩ = some (.slice (some ⟨g', 0, none⟩) n' c')) (d1 : w.cell? ⟨b', 1, none⟩ = some (.int .i64 lim')) :
    Calls Try.prog 54 #[ptr b, ptr b'] w fun e w' => e = .returned (.bool false) ∧ Upto (fun _ => False) w w' := by
  have HV : Hid (∀ (m : Nat) (c1 : Value), c1 = ptr b ∨ c1 = ptr b' → Calls Try.prog 71 #[c1] (w.drewN m) fun e w' => e = .returned (.bool true) ∧ w' = w.drewN m) := Lib.hid fun m c1 hc1 => by
    rcases hc1 with rfl | rfl
    · exact (rvalid_at b _ n c (w.drewN m) c0 hp).mono fun _ _ ⟨h1, h2⟩ => ⟨h1, h2.symm⟩
    · exact (rvalid_at b' _ n' c' (w.drewN m) d0 hp').mono fun _ _ ⟨h1, h2⟩ => ⟨h1, h2.symm⟩
  by_cases hlim : lim = lim'
  · have hn : ((n : Int) != (n' : Int)) = true := by rw [bne_iff_ne]; omega
    subst hlim
    clear hl
    go_enter Try.func54, Try.ntmps54
    go_wp2
    go_quiet ((go_at_call 71; exact Calls.quiet_of_same (HV.out _ _ (by first | exact Or.inl rfl | exact Or.inr rfl))))
    go_wp2
    go_ret
    exact ⟨rfl, (Upto.refl _ _).drewN _⟩
  · have hl2 : ((lim : Int) != (lim' : Int)) = true := by rw [bne_iff_ne]; omega
    clear hl
    go_enter Try.func54, Try.ntmps54
    go_wp2
    go_quiet ((go_at_call 71; exact Calls.quiet_of_same (HV.out _ _ (by first | exact Or.inl rfl | exact Or.inr rfl))))
    go_wp2
    go_ret
    exact ⟨rfl, (Upto.refl _ _).drewN _⟩

set_option maxRecDepth 10000 in
set_option maxHeartbeats 2000000 in
theorem rsame_some (b b' lim n c c' g g' : Nat) (xs ys : List (List Int)) (w : World) (hp : 0 < n) (hm : n ≤ 1000000) (hxl : xs.length = n) (hyl : ys.length = n) (c0 : w.cell? ⟨b, 0, none⟩ = some (.slice (some ⟨g, 0, none⟩) n c)) (c1 : w.cell? ⟨b, 1, none⟩ = some (.int .i64 lim)) (d0 : w.cell? ⟨b', 0, none⟩ = some (.slice (some ⟨g', 0, none⟩) n c')) (d1 : w.cell? ⟨b', 1, none⟩ = some (.int .i64 lim))
    (hx : RowsAt w g n xs) (hy : RowsAt w g' n ys) (hx8 : ∀ j, (xs.getD j []).length ≤ 10000) :
    Calls Try.prog 54 #[ptr b, ptr b'] w fun e w' => e = .returned (.bool (decide (xs = ys))) ∧ Upto (fun _ => False) w w' := by
  have HV : Hid (∀ (m : Nat) (c1 : Value), c1 = ptr b ∨ c1 = ptr b' → Calls Try.prog 71 #[c1] (w.drewN m) fun e w' => e = .returned (.bool true) ∧ w' = w.drewN m) := Lib.hid fun m c1 hc1 => by
    rcases hc1 with rfl | rfl
    · exact (rvalid_at b _ n c (w.drewN m) c0 hp).mono fun _ _ ⟨h1, h2⟩ => ⟨h1, h2.symm⟩
    · exact (rvalid_at b' _ n c' (w.drewN m) d0 hp).mono fun _ _ ⟨h1, h2⟩ => ⟨h1, h2.symm⟩
  have Hx := Lib.hid hx; clear hx
  have Hy := Lib.hid hy; clear hy
  have Hxl := Lib.hid hxl; clear hxl
  have Hyl := Lib.hid hyl; clear hyl
  have H8 := Lib.hid hx8; clear hx8
  go_enter Try.func54, Try.ntmps54
  go_wp2
  go_quiet ((go_at_call 71; exact Calls.quiet_of_same (HV.out _ _ (by first | exact Or.inl rfl | exact Or.inr rfl))))
  go_wp2
  go_loopw [5] (fun i wr => ∃ k : Nat, k ≤ n ∧ i = .int .i64 k ∧ Hid (∀ j, j < k → xs.getD j [] = ys.getD j []) ∧ ∃ m, wr = w.drewN m) (fun i _ => n - (intOf i).toNat)
  case atStart => exact ⟨0, Nat.zero_le _, rfl, Lib.hid (fun j hj => by omega), nq, rfl⟩
  case round =>
    obtain ⟨k, hk, rfl, he, m, rfl⟩ := hrel
    by_cases hlt : k < n
    · obtain ⟨so, sc, cx, sx⟩ := Hx.out k hlt
      obtain ⟨so', sc', cy, sy⟩ := Hy.out k hlt
      have hp8 := H8.out k
      generalize hp' : xs.getD k [] = p at *
      generalize hq' : ys.getD k [] = q at *
      have Hp := Lib.hid hp'; clear hp'
      have Hq' := Lib.hid hq'; clear hq'
      have hk0 : (0 : Int) ≤ (k : Int) := by omega
      have hkn : (k : Int) < (n : Int) := by omega
      obtain ⟨pl, hpl⟩ : ∃ pl, p.length = pl := ⟨_, rfl⟩
      obtain ⟨ql, hql⟩ : ∃ ql, q.length = ql := ⟨_, rfl⟩
      rw [hpl] at cx hp8
      rw [hql] at cy
      have Hpl := Lib.hid hpl; clear hpl
      have Hql := Lib.hid hql; clear hql
      have SX := Lib.hid sx; clear sx
      have SY := Lib.hid sy; clear sy
      by_cases hl : pl = ql
      · subst hl
        go_wp2
        go_quiet (fail)
        go_wp2
        go_loopw [6] (fun i wr => ∃ r m2 : Nat, r ≤ pl ∧ i = .int .i64 r ∧ Hid (∀ t, t < r → p.getD t 0 = q.getD t 0) ∧ wr = w.drewN m2) (fun i _ => pl - (intOf i).toNat)
        case atStart => exact ⟨0, m + nq, Nat.zero_le _, rfl, Lib.hid (fun t ht => by omega), by first | rfl | rw [World.drewN_drewN]⟩
        case round =>
          obtain ⟨r, m2, hr, rfl, he2, rfl⟩ := hrel
          by_cases hlr : r < pl
          · obtain ⟨ga, oa, e1, xa⟩ := sees_cell (w := w) r (xs := p) (sc := sc) (so := so) (by rw [Hpl.out]; rw [Hpl.out] at SX; exact SX.out) (by rw [Hpl.out]; omega)
            obtain ⟨gb, ob, e2, xb⟩ := sees_cell (w := w) r (xs := q) (sc := sc') (so := so') (by rw [Hql.out]; rw [Hql.out] at SY; exact SY.out) (by rw [Hql.out]; omega)
            subst e1 e2
            obtain ⟨y, hpr⟩ : ∃ y, p.getD r 0 = y := ⟨_, rfl⟩
            obtain ⟨z, hqr⟩ : ∃ z, q.getD r 0 = z := ⟨_, rfl⟩
            rw [hpr] at xa
            rw [hqr] at xb
            have Hpr := Lib.hid hpr; clear hpr
            have Hqr := Lib.hid hqr; clear hqr
            have hr0 : (0 : Int) ≤ (r : Int) := by omega
            have hrp : (r : Int) < (pl : Int) := by omega
            by_cases hyz : y = z
            · subst hyz
              go_wp2
              go_quiet (fail)
              go_wp2
              go_roundw
              case rel => exact ⟨r + 1, m2 + nq, by omega, by go_num, Lib.hid (fun t ht => by
                by_cases e : t = r
                · subst e; rw [Hpr.out, Hqr.out]
                · exact he2.out t (by omega)), by first | rfl | rw [World.drewN_drewN]⟩
              case measure => simp [intOf]; omega
            · have hb : (y != z) = true := by rw [bne_iff_ne]; exact hyz
              have hne : decide (xs = ys) = false := by
                rw [decide_eq_false_iff_not]
                intro e
                have h1 := Hp.out
                rw [e, Hq'.out] at h1
                have h2 := Hpr.out
                rw [← h1, Hqr.out] at h2
                exact hyz h2.symm
              have Hne := Lib.hid hne; clear hne hyz
              go_wp2
              go_quiet (fail)
              go_wp2
              go_ret
              exact ⟨by rw [Hne.out]; rfl, by first | exact ((Upto.refl _ w).drewN _).drewN _ | exact (Upto.refl _ w).drewN _⟩
          · obtain rfl : pl = r := by omega
            have hpq : p = q := by
              apply List.ext_getElem?
              intro t
              have h1 := Hpl.out
              have h2 := Hql.out
              by_cases ht : t < pl
              · have := he2.out t ht
                simp only [List.getD] at this
                rw [List.getElem?_eq_getElem (by omega), List.getElem?_eq_getElem (by omega)] at this ⊢
                simpa using this
              · rw [List.getElem?_eq_none (by omega), List.getElem?_eq_none (by omega)]
            have Hpq := Lib.hid hpq; clear hpq
            go_wp2
            go_roundw
            case rel => exact ⟨k + 1, by omega, by go_num, Lib.hid (fun j hj => by
              by_cases e : j = k
              · subst e; rw [Hp.out, Hq'.out, Hpq.out]
              · exact he.out j (by omega)), _, rfl⟩
            case measure => simp [intOf]; omega
      · have hne : decide (xs = ys) = false := by
          rw [decide_eq_false_iff_not]
          intro e
          have h1 := Hp.out
          rw [e, Hq'.out] at h1
          have h2 := Hpl.out
          rw [← h1, Hql.out] at h2
          exact hl h2.symm
        have hb : ((pl : Int) != (ql : Int)) = true := by rw [bne_iff_ne]; omega
        have Hne := Lib.hid hne; clear hne hl
        go_wp2
        go_quiet (fail)
        go_wp2
        go_ret
        exact ⟨by rw [Hne.out]; rfl, by first | exact ((Upto.refl _ w).drewN _).drewN _ | exact (Upto.refl _ w).drewN _⟩
    · obtain rfl : k = n := by omega
      have hne : decide (xs = ys) = true := by
        rw [decide_eq_true_eq]
        apply List.ext_getElem?
        intro j
        have h1 := Hxl.out
        have h2 := Hyl.out
        by_cases hj : j < k
        · have := he.out j hj
          simp only [List.getD] at this
          rw [List.getElem?_eq_getElem (by omega), List.getElem?_eq_getElem (by omega)] at this ⊢
          simpa using this
        · rw [List.getElem?_eq_none (by omega), List.getElem?_eq_none (by omega)]
      have Hne := Lib.hid hne; clear hne
      go_wp2
      go_ret
      exact ⟨by rw [Hne.out]; rfl, by first | exact ((Upto.refl _ w).drewN _).drewN _ | exact (Upto.refl _ w).drewN _⟩

theorem rsame_raw {w : World} {b b' lim lim' : Nat} {ls ls' : List (List Int)} (h1 : RReads w b lim ls) (h2 : RReads w b' lim' ls') (hf : ls.length ≤ 1000000) (ht : tot ls ≤ 10000) : Calls Try.prog 54 #[ptr b, ptr b'] w fun e w' =>
    e = .returned (.bool (decide (lim = lim') && decide (ls = ls'))) ∧ Upto (fun _ => False) w w' := by
  obtain ⟨g, c, hp, c0, c1, hx⟩ := h1
  obtain ⟨g', c', hp', d0, d1, hy⟩ := h2
  by_cases h : lim = lim' ∧ ls.length = ls'.length
  · obtain ⟨rfl, hl⟩ := h
    rw [← hl] at d0 hy
    have e : decide (lim = lim) = true := decide_eq_true rfl
    rw [e, Bool.true_and]
    exact rsame_some b b' lim ls.length c c' g g' ls ls' w hp hf rfl hl.symm c0 c1 d0 d1 hx hy fun j => Nat.le_trans len_le_tot ht
  · have e : (decide (lim = lim') && decide (ls = ls')) = false := by
      by_cases h1 : lim = lim'
      · have : ¬ ls = ls' := fun e => h ⟨h1, by rw [e]⟩
        rw [decide_eq_false this, Bool.and_false]
      · rw [decide_eq_false h1, Bool.false_and]
    rw [e]
    exact rsame_lim b b' lim lim' _ _ c c' g g' w hp hp' h c0 c1 d0 d1
theorem SR.same {w0 w : World} {b b' lim lim' : Nat} {ls ls' : List (List Int)} {l : List Thing} [Goods l] (r : Bool) (h : St w0 w l) (h1 : RReads w b lim ls) (h2 : RReads w b' lim' ls') (hf : ls.length ≤ 1000000) (ht : tot ls ≤ 10000) (hr : (decide (lim = lim') && decide (ls = ls')) = r) : Calls Try.prog 54 #[ptr b, ptr b'] w fun e w' =>
    e = .returned (.bool r) ∧ St w0 w' l := by
  subst hr
  exact (rsame_raw h1 h2 hf ht).mono fun _ _ ⟨h3, h4⟩ => ⟨h3, h.step h4⟩

end Go.Proofs.Ytjganbcolaakkaa
