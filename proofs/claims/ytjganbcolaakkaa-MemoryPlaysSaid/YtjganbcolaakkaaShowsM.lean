/-
  What a memory shows, beside the document's.
-/
import Derived.Test.YtjganbcolaakkaaOptM
namespace Go.Proofs.Ytjganbcolaakkaa
open Go.RowKit

set_option maxRecDepth 10000 in
set_option maxHeartbeats 4000000 in
theorem showsM_at {w0 w : World} {p q : Value} {lim : Nat} {ls : List (List Int)} {l : List Thing} [Goods l] (h : St w0 w (OM p lim ls :: ON q lim ls :: l)) (h0 : ls.getD 0 [] = []) (hf : ls.length ≤ 1000) :
    Calls Try.prog 42 #[p, q] w fun e w' => e = .returned (.bool true) ∧ St w0 w' (OM p lim ls :: ON q lim ls :: l) := by
  obtain ⟨ct, hct⟩ : ∃ z : Int, cntE ls = z := ⟨_, rfl⟩
  obtain ⟨lt, hlt⟩ : ∃ z : Int, limE lim ls = z := ⟨_, rfl⟩
  have hc0 : 0 ≤ ct ∧ ct ≤ 1000 := by
    subst hct
    unfold cntE nz
    split
    · omega
    · rename_i hne
      have : ls.length ≠ 0 := fun e => hne (List.length_eq_zero_iff.1 e)
      omega
  have HC := Lib.hid hct; clear hct
  have HL := Lib.hid hlt; clear hlt
  have H0 := Lib.hid h0; clear h0
  have S0 := Lib.hid h; clear h
  go_enter Try.func42, Try.ntmps42
  go_wp2_with (first
    | (go_at_call 31; refine (equal_true ((S2.out.row [_]).sees) ((S2.out.row []).sees) rfl).mono ?_; rintro e w6 ⟨rfl, hu⟩; have S3 := Lib.hid (show St w0 w6 (OM p lim ls :: ON q lim ls :: l) from (S2.out.step hu).tail.tail); clear hu)
    | (go_at_call 67; refine (ON.cells [_, _] S1.out H0.out hf).mono ?_; rintro e w4 ⟨u4, rfl, hs⟩; obtain ⟨uo4, un4, uc4, rfl⟩ := (hs.row []).shape; have S2 := Lib.hid hs; clear hs)
    | (go_at_call 18; refine (OM.cells [] S0.out H0.out hf).mono ?_; rintro e w4 ⟨u3, rfl, hs⟩; obtain ⟨uo3, un3, uc3, rfl⟩ := (hs.row []).shape; have S1 := Lib.hid hs; clear hs)
    | (go_at_call 19; refine (OM.count [] S0.out).mono ?_; rw [HC.out]; rintro e w8 ⟨rfl, rfl⟩)
    | (go_at_call 65; refine (ON.count [_] S0.out (by omega)).mono ?_; rw [HC.out]; rintro e w8 ⟨rfl, rfl⟩)
    | (go_at_call 44; refine (OM.limit [] S0.out).mono ?_; rw [HL.out]; rintro e w8 ⟨rfl, rfl⟩)
    | (go_at_call 66; refine (ON.limit [_] S0.out).mono ?_; rw [HL.out]; rintro e w8 ⟨rfl, rfl⟩))
  obtain ⟨mn, hmn⟩ : ∃ z : Int, (if (70 : Int) < ct then (70 : Int) else ct) = z := ⟨_, rfl⟩
  have hm0 : 0 ≤ mn ∧ mn ≤ 70 := by split at hmn <;> omega
  go_loopw [5] (fun i wr => ∃ z : Int, -1 ≤ z ∧ z ≤ mn + 2 ∧ i = .int .i64 z ∧ Hid (St w0 wr (OM p lim ls :: ON q lim ls :: l))) (fun i _ => (mn + 2 - intOf i).toNat)
  case atStart => exact ⟨-1, by omega, by omega, rfl, S3⟩
  case round =>
    obtain ⟨z, hz1, hz2, rfl, hM⟩ := hrel
    by_cases hle : z ≤ mn + 1
    · go_wp2_with (first
        | (go_at_call 69; refine (ON.len [_] z K3.out).mono ?_; rintro e w5 ⟨rfl, hs⟩; have K4 := Lib.hid hs; clear hs)
        | (go_at_call 24; refine (OM.len [] z K2.out).mono ?_; rintro e w5 ⟨rfl, hs⟩; have K3 := Lib.hid hs; clear hs)
        | (go_at_call 68; refine (ON.span [_] z K1.out H0.out hf).mono ?_; rintro e w4 ⟨rfl, hs⟩; have K2 := Lib.hid hs; clear hs)
        | (go_at_call 17; refine (OM.span [] z hM.out H0.out hf).mono ?_; rintro e w4 ⟨rfl, hs⟩; have K1 := Lib.hid hs; clear hs)
        | (go_at_call 65; refine (ON.count [_] hM.out (by omega)).mono ?_; rw [HC.out]; rintro e w8 ⟨rfl, rfl⟩))
      go_roundw
      case rel => exact ⟨z + 1, by omega, by omega, by go_num, K4⟩
      case measure => simp [intOf]; omega
    · go_wp2_with (go_at_call 65; refine (ON.count [_] hM.out (by omega)).mono ?_; rw [HC.out]; rintro e w8 ⟨rfl, rfl⟩)
      go_ret
      exact ⟨rfl, hM.out⟩

end Go.Proofs.Ytjganbcolaakkaa
