/-
  slices.Equal over numbers, walked.
-/
import Derived.Test.YtjganbcolaakkaaMPile
namespace Go.Proofs.Ytjganbcolaakkaa
open Go.RowKit

theorem eq_len (ao bo : Option Addr) (n c m d : Nat) (w : World) (h : n ≠ m) :
    Calls Try.prog 31 #[.slice ao n c, .slice bo m d] w fun e w' => e = .returned (.bool false) ∧ ∃ k, w' = w.drewN k := by
  have h1 : ((n : Int) != (m : Int)) = true := by simp; omega
  go_enter Try.func31, Try.ntmps31
  go_wp2
  go_ret
  exact ⟨rfl, 0, rfl⟩


set_option maxHeartbeats 400000 in
theorem eq_zero (ao bo : Option Addr) (c d : Nat) (w : World) :
    Calls Try.prog 31 #[.slice ao 0 c, .slice bo 0 d] w fun e w' => e = .returned (.bool true) ∧ ∃ k, w' = w.drewN k := by
  go_enter Try.func31, Try.ntmps31
  go_wp2
  go_loop [13] (fun i => i = .int .i64 0) (fun _ => 0)
  case atStart => rfl
  case round =>
    subst hrel
    go_wp2
    go_ret
    exact ⟨rfl, 0, rfl⟩

set_option maxHeartbeats 400000 in
theorem eq_some (b o b' o' n c d : Nat) (xs ys : List Int) (w : World) (hn : 0 < n) (hm : n ≤ maxLen) (hxl : xs.length = n) (hyl : ys.length = n)
    (hx : ∀ j, j < n → w.cell? ⟨b, o + j, none⟩ = some (.int .i64 (xs.getD j 0))) (hy : ∀ j, j < n → w.cell? ⟨b', o' + j, none⟩ = some (.int .i64 (ys.getD j 0))) :
    Calls Try.prog 31 #[.slice (some ⟨b, o, none⟩) n c, .slice (some ⟨b', o', none⟩) n d] w fun e w' => e = .returned (.bool (decide (xs = ys))) ∧ ∃ k, w' = w.drewN k := by
  unfold maxLen at hm
  have Hx := Lib.hid hx; clear hx
  have Hy := Lib.hid hy; clear hy
  have Hxl := Lib.hid hxl; clear hxl
  have Hyl := Lib.hid hyl; clear hyl
  go_enter Try.func31, Try.ntmps31
  go_wp2
  go_loopw [13] (fun i wr => ∃ k : Nat, k ≤ n ∧ i = .int .i64 k ∧ Hid (∀ j, j < k → xs.getD j 0 = ys.getD j 0) ∧ ∃ m, wr = w.drewN m) (fun i _ => n - (intOf i).toNat)
  case atStart => exact ⟨0, Nat.zero_le _, rfl, Lib.hid (fun j hj => by omega), 0, rfl⟩
  case round =>
    obtain ⟨k, hk, rfl, he, m, rfl⟩ := hrel
    by_cases hlt : k < n
    · have cx := Hx.out k hlt
      have cy := Hy.out k hlt
      by_cases hq : xs.getD k 0 = ys.getD k 0
      · have hb : (xs[k]?.getD 0 != ys[k]?.getD 0) = false := by simpa [List.getD] using hq
        have Hq := Lib.hid hq; clear hq
        go_wp2
        go_quiet (fail)
        go_wp2
        go_roundw
        case rel => exact ⟨k + 1, by omega, by go_num, Lib.hid (fun j hj => by
          by_cases e : j = k
          · subst e; exact Hq.out
          · exact he.out j (by omega)), m + nq, rfl⟩
        case measure => simp [intOf]; omega
      · have hb : (xs[k]?.getD 0 != ys[k]?.getD 0) = true := by simpa [List.getD] using hq
        have Hq := Lib.hid hq; clear hq
        have hne : decide (xs = ys) = false := by
          rw [decide_eq_false_iff_not]
          intro e
          exact Hq.out (by rw [e])
        have Hne := Lib.hid hne; clear hne
        go_wp2
        go_quiet (fail)
        go_wp2
        go_ret
        exact ⟨by rw [Hne.out]; rfl, m + nq, by first | rfl | rw [World.drewN_drewN]⟩
    · obtain rfl : k = n := by omega
      have hne : decide (xs = ys) = true := by
        rw [decide_eq_true_eq]
        apply List.ext_getElem?
        intro j
        have h1 := Hxl.out
        have h2 := Hyl.out
        by_cases hj : j < k
        · have := he.out j hj
          simp only [List.getD] at this
          rw [List.getElem?_eq_getElem (by omega), List.getElem?_eq_getElem (by omega)] at this ⊢
          simpa using this
        · rw [List.getElem?_eq_none (by omega), List.getElem?_eq_none (by omega)]
      have Hne := Lib.hid hne; clear hne
      go_wp2
      go_ret
      exact ⟨by rw [Hne.out]; rfl, m, rfl⟩

/-- Equal says whether the two lists are one. -/
theorem eq_at {w : World} {v u : Value} {xs ys : List Int} (hv : Sees w v xs) (hu : Sees w u ys) :
    Calls Try.prog 31 #[v, u] w fun e w' => e = .returned (.bool (decide (xs = ys))) ∧ ∃ k, w' = w.drewN k := by
  obtain ⟨ao, c, rfl, h1, h2, h3, h4⟩ := hv
  obtain ⟨bo, d, rfl, g1, g2, g3, g4⟩ := hu
  by_cases hl : xs.length = ys.length
  · by_cases h0 : xs.length = 0
    · rw [← hl, h0]
      have e : xs = ys := by rw [List.eq_nil_of_length_eq_zero h0, List.eq_nil_of_length_eq_zero (show ys.length = 0 by omega)]
      rw [decide_eq_true e]
      exact eq_zero ao bo c d w
    · cases ao with
      | none => have := h3 rfl; omega
      | some a =>
        cases bo with
        | none => have := g3 rfl; omega
        | some a' =>
          obtain ⟨b, o, sp⟩ := a
          obtain ⟨b', o', sp'⟩ := a'
          obtain ⟨hs, hc⟩ := h4 _ rfl
          obtain ⟨hs', hc'⟩ := g4 _ rfl
          obtain rfl : sp = none := (hs (by omega)).1
          obtain rfl : sp' = none := (hs' (by omega)).1
          rw [← hl]
          exact eq_some b o b' o' xs.length c d xs ys w (by omega) (by omega) rfl hl.symm hc (fun j hj => hc' j (by omega))
  · have e : decide (xs = ys) = false := by
      rw [decide_eq_false_iff_not]; intro e; exact hl (by rw [e])
    rw [e]
    exact eq_len ao bo _ c _ d w hl


end Go.Proofs.Ytjganbcolaakkaa
