/-
  What a heap shows, beside the document's.
-/
import Derived.Test.YtjganbcolaakkaaOpt
import Derived.Test.YtjganbcolaakkaaClear
namespace Go.Proofs.Ytjganbcolaakkaa
open Go.RowKit

set_option maxRecDepth 10000 in
set_option maxHeartbeats 4000000 in
theorem shows_at {w0 w : World} {p q : Value} {lim : Nat} {ls : List (List Int)} {l : List Thing} [Goods l] (h : St w0 w (OH p lim ls :: OR q lim ls :: l)) (hf : ls.length ≤ 1000) :
    Calls Try.prog 53 #[p, q] w fun e w' => e = .returned (.bool true) ∧ St w0 w' (OH p lim ls :: OR q lim ls :: l) := by
  obtain ⟨ut, hut⟩ : ∃ z : Int, (tot ls : Int) = z := ⟨_, rfl⟩
  obtain ⟨ct, hct⟩ : ∃ z : Int, cntE ls = z := ⟨_, rfl⟩
  obtain ⟨lt, hlt⟩ : ∃ z : Int, limE lim ls = z := ⟨_, rfl⟩
  have hc0 : 0 ≤ ct ∧ ct ≤ 1000 := by
    subst hct
    unfold cntE nz
    split
    · omega
    · rename_i hne
      have : ls.length ≠ 0 := fun e => hne (List.length_eq_zero_iff.1 e)
      omega
  have HU := Lib.hid hut; clear hut
  have HC := Lib.hid hct; clear hct
  have HL := Lib.hid hlt; clear hlt
  have S0 := Lib.hid h; clear h
  go_enter Try.func53, Try.ntmps53
  go_wp2_with (first
    | (go_at_call 28; refine (OH.used [] S0.out).mono ?_; rw [HU.out]; rintro e w8 ⟨rfl, rfl⟩)
    | (go_at_call 72; refine (OR.used [_] S0.out (by omega)).mono ?_; rw [HU.out]; rintro e w8 ⟨rfl, rfl⟩)
    | (go_at_call 29; refine (OH.count [] S0.out).mono ?_; rw [HC.out]; rintro e w8 ⟨rfl, rfl⟩)
    | (go_at_call 73; refine (OR.count [_] S0.out (by omega)).mono ?_; rw [HC.out]; rintro e w8 ⟨rfl, rfl⟩)
    | (go_at_call 36; refine (OH.limit [] S0.out).mono ?_; rw [HL.out]; rintro e w8 ⟨rfl, rfl⟩)
    | (go_at_call 74; refine (OR.limit [_] S0.out).mono ?_; rw [HL.out]; rintro e w8 ⟨rfl, rfl⟩))
  obtain ⟨mn, hmn⟩ : ∃ z : Int, (if (70 : Int) < ct then (70 : Int) else ct) = z := ⟨_, rfl⟩
  have hm0 : 0 ≤ mn ∧ mn ≤ 70 := by split at hmn <;> omega
  go_loopw [5] (fun i wr => ∃ z : Int, -1 ≤ z ∧ z ≤ mn + 2 ∧ i = .int .i64 z ∧ Hid (St w0 wr (OH p lim ls :: OR q lim ls :: l))) (fun i _ => (mn + 2 - intOf i).toNat)
  case atStart => exact ⟨-1, by omega, by omega, rfl, S0⟩
  case round =>
    obtain ⟨z, hz1, hz2, rfl, hM⟩ := hrel
    by_cases hle : z ≤ mn + 1
    · go_wp2_with (first
        | (go_at_call 31; refine (equal_true ((K4.out.row [_]).sees) ((K4.out.row []).sees) rfl).mono ?_; rintro e w6 ⟨rfl, hu⟩; have K5 := Lib.hid (K4.out.step hu); clear hu)
        | (go_at_call 75; refine (OR.len [_, _, _] z K3.out).mono ?_; rintro e w5 ⟨rfl, hs⟩; have K4 := Lib.hid hs; clear hs)
        | (go_at_call 34; refine (OH.len [_, _] z K2.out).mono ?_; rintro e w5 ⟨rfl, hs⟩; have K3 := Lib.hid hs; clear hs)
        | (go_at_call 51; refine (OR.array [_, _] z K1.out).mono ?_; rintro e w4 ⟨u4, rfl, hs⟩; obtain ⟨uo4, un4, uc4, rfl⟩ := (hs.row []).shape; have K2 := Lib.hid hs; clear hs)
        | (go_at_call 33; refine (OH.array [] z hM.out).mono ?_; rintro e w4 ⟨u3, rfl, hs⟩; obtain ⟨uo3, un3, uc3, rfl⟩ := (hs.row []).shape; have K1 := Lib.hid hs; clear hs)
        | (go_at_call 73; refine (OR.count [_] hM.out (by omega)).mono ?_; rw [HC.out]; rintro e w8 ⟨rfl, rfl⟩))
      all_goals
        obtain ⟨wc, hcl, hs⟩ := K5.out.clear [_]
        have K6 := Lib.hid (show St w0 wc (OH p lim ls :: OR q lim ls :: l) from hs.tail.tail); clear hs
        go_wp2_with (simp only [hcl])
        go_roundw
        case rel => exact ⟨z + 1, by omega, by omega, by go_num, K6⟩
        case measure => simp [intOf]; omega
    · go_wp2_with (go_at_call 73; refine (OR.count [_] hM.out (by omega)).mono ?_; rw [HC.out]; rintro e w8 ⟨rfl, rfl⟩)
      go_ret
      exact ⟨rfl, hM.out⟩

end Go.Proofs.Ytjganbcolaakkaa
