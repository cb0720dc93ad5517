/-
  The law of the full heaps, walked.
-/
import Derived.Test.YtjganbcolaakkaaWorksH
import Derived.Test.YtjganbcolaakkaaFrame
namespace Go.Proofs.Ytjganbcolaakkaa
open Go.RowKit

theorem tot_rep (i k : Nat) : tot ([] :: List.replicate i (List.replicate k (0 : Int))) = i * k := by
  rw [tot_nil]
  simp [tot]
theorem len_rep (i k : Nat) : ([] :: List.replicate i (List.replicate k (0 : Int))).length = i + 1 := by simp
theorem rep_snoc (i k : Nat) : ([] :: List.replicate i (List.replicate k (0 : Int))) ++ [List.replicate k 0] = [] :: List.replicate (i + 1) (List.replicate k 0) := by
  rw [List.replicate_succ']
  rfl

/-- The state behind i arrays. -/
def fillL (i k : Nat) : List (List Int) := [] :: List.replicate i (List.replicate k 0)
theorem tot_fill (i k : Nat) : tot (fillL i k) = i * k := tot_rep i k
theorem len_fill (i k : Nat) : (fillL i k).length = i + 1 := len_rep i k
theorem fill_snoc (i k : Nat) : fillL i k ++ [List.replicate k 0] = fillL (i + 1) k := rep_snoc i k

set_option maxRecDepth 10000 in
set_option maxHeartbeats 4000000 in
theorem hfills_some (limit length n q r : Nat) (w : World) (hl0 : limit ≤ 65535) (hn : (limit : Int) % 10001 = n) (hn1 : n ≤ 10000) (hk1 : length ≤ 255) (hq : (n : Int) / (1 + (length : Int)) = q) (hr : (n : Int) % (1 + (length : Int)) = r)
    (hqr : q * (length + 1) + r = n) (hrk : r ≤ length) (hq1 : q ≤ 10000) :
    Calls Try.prog 5 #[.int .u16 limit, .int .u8 length] w fun e w' => e = .returned (.bool true) ∧ Below w.heap.size w w' := by
  have Hqr := Lib.hid hqr; clear hqr
  have hk0 : (0 : Int) < 1 + (length : Int) := by omega
  go_enter Try.func5, Try.ntmps5
  go_wp2_with (go_at_call 26; refine (SH.new n _ (St.nil w) rfl hn1).mono ?_; rintro e w1 ⟨b, rfl, hs⟩; have S1 := Lib.hid hs; clear hs)
  go_loopw [41] (fun i wr => ∃ j : Nat, j ≤ q ∧ i = .int .i64 j ∧ Hid (St w wr [HT b n (fillL j (length + 1))])) (fun i _ => q - (intOf i).toNat)
  case atStart => exact ⟨0, Nat.zero_le _, rfl, S1⟩
  case round =>
    obtain ⟨j, hj, rfl, hM⟩ := hrel
    by_cases hlt : j < q
    · have hroom : tot (fillL j (length + 1)) + (length + 1) ≤ n := by
        have := Hqr.out
        rw [tot_fill]
        have h1 : (j + 1) * (length + 1) ≤ q * (length + 1) := Nat.mul_le_mul_right _ hlt
        rw [Nat.add_mul] at h1
        omega
      have Hroom := Lib.hid hroom; clear hroom
      have hj2 : (j : Int) < (q : Int) := by omega
      go_wp2_with (go_at_call 27; refine (SH.alloc [] (length + 1) _ ((j : Int) + 1) hM.out (by omega) Hroom.out (by rw [len_fill]; omega) (by rw [len_fill]; omega)).mono ?_; rintro e w3 ⟨rfl, hs⟩; have M3 := Lib.hid (show St w w3 [HT b n (fillL (j + 1) (length + 1))] from by rw [← fill_snoc]; exact hs); clear hs)
      go_roundw
      case rel => exact ⟨j + 1, by omega, by go_num, M3⟩
      case measure => simp [intOf]; omega
    · obtain rfl : j = q := by omega
      have htot : tot (fillL j (length + 1)) + r = n := by
        rw [tot_fill]; exact Hqr.out
      have htot2 : tot (fillL j (length + 1) ++ [List.replicate r 0]) = n := by
        rw [tot_snoc, List.length_replicate]; exact htot
      have htot3 : tot (fillL j (length + 1) ++ [List.replicate r 0] ++ [List.replicate 0 0]) = n := by
        rw [tot_snoc, htot2]; simp
      have hlen2 : (fillL j (length + 1) ++ [List.replicate r (0 : Int)]).length = j + 2 := by rw [List.length_append, len_fill]; simp
      have hlen3 : (fillL j (length + 1) ++ [List.replicate r (0 : Int)] ++ [List.replicate 0 0]).length = j + 3 := by rw [List.length_append, hlen2]; simp
      have Htot := Lib.hid htot; clear htot
      have Htot2 := Lib.hid htot2; clear htot2
      have Htot3 := Lib.hid htot3; clear htot3
      have Hlen2 := Lib.hid hlen2; clear hlen2
      have Hlen3 := Lib.hid hlen3; clear hlen3
      go_wp2_with (first
        | (go_at_call 30; refine (works17 _).mono ?_; rintro e w9 ⟨rfl, hb⟩; have BF := Lib.hid hb; clear hb)
        | (go_at_call 29; refine (SH.count [] ((j : Int) + 1 + 1) M4.out (by rw [Hlen3.out]; omega)).mono ?_; rintro e w8 ⟨rfl, rfl⟩)
        | (go_at_call 28; refine (SH.used [] n M4.out (by rw [Htot3.out])).mono ?_; rintro e w8 ⟨rfl, rfl⟩)
        | (go_at_call 27; refine (SH.alloc [] 0 _ ((j : Int) + 1 + 1) M3.out rfl (by rw [Htot2.out]; omega) (by rw [Hlen2.out]; omega) (by rw [Hlen2.out]; omega)).mono ?_; rintro e w7 ⟨rfl, hs⟩; have M4 := Lib.hid hs; clear hs)
        | (go_at_call 27; refine (SH.allocTrap [] _ M2.out (Or.inr (by rw [Htot2.out]; omega))).mono ?_; rintro e w6 ⟨rfl, hs⟩; have M3 := Lib.hid hs; clear hs)
        | (go_at_call 27; refine (SH.alloc [] r _ ((j : Int) + 1) M1.out rfl (by have := Htot.out; omega) (by rw [len_fill]; omega) (by rw [len_fill]; omega)).mono ?_; rintro e w5 ⟨rfl, hs⟩; have M2 := Lib.hid hs; clear hs)
        | (go_at_call 27; refine (SH.allocTrap [] _ hM.out (Or.inr (by have := Htot.out; omega))).mono ?_; rintro e w4 ⟨rfl, hs⟩; have M1 := Lib.hid hs; clear hs))
      go_ret
      exact ⟨rfl, Upto.below ((Upto.of_below M4.out.base _).trans (Upto.of_below BF.out _))⟩

theorem hfills_true (a b : Int) (ha : (Lit.int .u16 a).wf = true) (hb : (Lit.int .u8 b).wf = true) (w : World) : Calls Try.prog 5 #[.int .u16 a, .int .u8 b] w fun e w' => e = .returned (.bool true) ∧ Below w.heap.size w w' := by
  have h1 := bounds_u16 ha
  have h2 := bounds_u8 hb
  obtain ⟨limit, rfl⟩ := Int.eq_ofNat_of_zero_le h1.1
  obtain ⟨length, rfl⟩ := Int.eq_ofNat_of_zero_le h2.1
  have hk : (1 + (length : Int)) = ((length + 1 : Nat) : Int) := by omega
  have h3 := Nat.div_add_mod (limit % 10001) (length + 1)
  have h4 := Nat.mod_lt (limit % 10001) (show 0 < length + 1 by omega)
  have h5 := Nat.div_le_self (limit % 10001) (length + 1)
  have h6 := Nat.mod_lt limit (show 0 < 10001 by omega)
  refine hfills_some limit length (limit % 10001) (limit % 10001 / (length + 1)) (limit % 10001 % (length + 1)) w (by omega) (by omega) (by omega) (by omega) ?_ ?_ (by rw [Nat.mul_comm]; exact h3) (by omega) (by omega)
  · rw [hk, ← Int.natCast_ediv]
  · rw [hk, ← Int.natCast_emod]

end Go.Proofs.Ytjganbcolaakkaa
