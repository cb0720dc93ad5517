/-
  The document's memories: Span, walked.
-/
import Derived.Test.YtjganbcolaakkaaRMemA
namespace Go.Proofs.Ytjganbcolaakkaa
open Go.RowKit

theorem tot_step {ls : List (List Int)} {k : Nat} (hk : k < ls.length) : tot (ls.take (k + 1)) = tot (ls.take k) + (ls.getD k []).length := by
  have e : ls.take (k + 1) = ls.take k ++ [ls.getD k []] := by rw [List.take_add_one]; simp [List.getD, hk]
  rw [e, tot_snoc]
theorem tot_take1 {ls : List (List Int)} (h0 : ls.getD 0 [] = []) (hp : 0 < ls.length) : tot (ls.take 1) = 0 := by
  have := tot_step (k := 0) hp
  rw [h0] at this
  simpa [tot] using this

set_option maxRecDepth 10000 in
set_option maxHeartbeats 1000000 in
theorem SN.span {w0 w : World} {b lim : Nat} {ls : List (List Int)} {l : List Thing} [Goods l] (i : Int) (h : St w0 w (RM b lim ls :: l)) (h0 : ls.getD 0 [] = []) (hf : ls.length ≤ 1000) (ht : tot ls ≤ 10000) : Calls Try.prog 68 #[ptr b, .int .i64 i] w fun e w' =>
    e = .returned (.tuple #[.int .i64 (spanF ls i), .int .i64 (lenX ls i), .int .i64 (arrE ls i)]) ∧ St w0 w' (RM b lim ls :: l) := by
  have S0 := Lib.hid h; clear h
  by_cases ho : outH ls i
  · have e1 : arrE ls i = 3 := by unfold arrE; rw [if_pos ho]
    have e2 : lenX ls i = 0 := by unfold lenX arrL; rw [if_pos ho]; rfl
    have e3 : spanF ls i = 0 := by unfold spanF; rw [if_pos ho]
    rw [e2, e3]
    have E1 := Lib.hid e1; clear e1 e2 e3
    rw [E1.out]
    go_enter Try.func68, Try.ntmps68
    go_wp2_with (go_at_call 69; refine (SN.len i S0.out).mono ?_; rw [E1.out]; rintro e w2 ⟨rfl, hs⟩; have S1 := Lib.hid hs; clear hs)
    go_ret3
    exact ⟨rfl, S1.out⟩
  · have hn := notOut ho
    obtain ⟨j, hj⟩ : ∃ j : Nat, i = j := ⟨i.toNat, hn.1⟩
    subst hj
    simp only [Int.toNat_natCast] at hn
    have e1 : arrE ls j = 0 := by unfold arrE; rw [if_neg ho]
    have e3 : spanF ls j = tot (ls.take j) := by unfold spanF; rw [if_neg ho]; simp
    obtain ⟨q, hq⟩ : ∃ q, lenX ls j = q := ⟨_, rfl⟩
    rw [e3, hq]
    have HQ := Lib.hid hq; clear hq
    have E1 := Lib.hid e1; clear e1 e3
    rw [E1.out]
    have H0 := Lib.hid h0; clear h0
    have HT := Lib.hid ht; clear ht
    have hjl := hn.2
    have hjm : j ≤ 1000 := by omega
    have HF := Lib.hid hf; clear hf
    clear ho hn
    go_enter Try.func68, Try.ntmps68
    go_wp2_with (go_at_call 69; refine (SN.len j S0.out).mono ?_; rw [E1.out, HQ.out]; rintro e w2 ⟨rfl, hs⟩; have S1 := Lib.hid hs; clear hs)
    go_loopw [10, 9] (fun i x wr => ∃ k f : Nat, 1 ≤ k ∧ k ≤ j + 1 ∧ (k ≤ j ∨ k = 1 ∨ j = 0) ∧ i = .int .i64 k ∧ x = .int .i64 f ∧ Hid (f = tot (ls.take k)) ∧ Hid (k ≤ max 1 j) ∧ Hid (St w0 wr (RM b lim ls :: l))) (fun i _ _ => j + 1 - (intOf i).toNat)
    case atStart => exact ⟨1, 0, by omega, by omega, Or.inr (Or.inl rfl), rfl, rfl, Lib.hid (tot_take1 H0.out (by omega)).symm, Lib.hid (by omega), S1⟩
    case round =>
      obtain ⟨k, f, hk1, hk2, _, rfl, rfl, hfk, hkm, hM⟩ := hrel
      have hf0 : f ≤ 10000 := by
        have h1 := hfk.out
        have h2 : tot (ls.take k) ≤ tot ls := by
          by_cases hkl : k < ls.length
          · have := take_tot_le ls k hkl; omega
          · rw [List.take_of_length_le (by omega)]; exact Nat.le_refl _
        have := HT.out
        omega
      by_cases hlt : k < j
      · obtain ⟨x, hx⟩ : ∃ x : Nat, lenX ls k = x := ⟨(arrL ls k).length, rfl⟩
        have hno : ¬ outH ls (k : Int) := by unfold outH; omega
        have hxl : x = (ls.getD k []).length := by
          unfold lenX at hx
          rw [arrL_in hno] at hx
          simp only [Int.toNat_natCast] at hx
          omega
        have hfk2 : Hid (f + x = tot (ls.take (k + 1))) := Lib.hid (by rw [tot_step (by omega), ← hxl, hfk.out])
        have hfx : f + x ≤ 10000 := by
          have := take_tot_le ls k (by omega)
          rw [← hxl, ← hfk.out] at this
          have := HT.out
          omega
        have HX := Lib.hid hx; clear hx
        have HXL := Lib.hid hxl; clear hxl
        have HN := Lib.hid hno; clear hno
        go_wp2_with (go_at_call 69; refine (SN.len k hM.out).mono ?_; rw [HX.out]; rintro e w2 ⟨rfl, hs⟩; have M2 := Lib.hid hs; clear hs)
        go_roundw
        case rel => exact ⟨k + 1, f + x, by omega, by omega, by omega, by go_num, by go_num, hfk2, Lib.hid (by omega), M2⟩
        case measure => simp [intOf]; omega
      · have hfj : Hid (f = tot (ls.take j)) := Lib.hid (by
          by_cases hz : j = 0
          · subst hz
            have hk1' : k = 1 := by have := hkm.out; omega
            rw [hfk.out, hk1', tot_take1 H0.out (by omega)]
            rfl
          · have : k = j := by have := hkm.out; omega
            rw [hfk.out, this])
        go_wp2
        go_ret3
        rw [← hfj.out]
        exact ⟨rfl, hM.out⟩

end Go.Proofs.Ytjganbcolaakkaa
