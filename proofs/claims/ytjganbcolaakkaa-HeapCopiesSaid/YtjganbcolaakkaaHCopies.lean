/-
  The law of the copies of the heaps, walked.
-/
import Derived.Test.YtjganbcolaakkaaEqF
import Derived.Test.YtjganbcolaakkaaClear
import Derived.Test.YtjganbcolaakkaaSeen
namespace Go.Proofs.Ytjganbcolaakkaa
open Go.RowKit

theorem SH.setAny {w0 w : World} {b lim : Nat} {ls : List (List Int)} {l2 : List Thing} (l1 : List Thing) [Goods l1] [Goods l2] (j k : Nat) (i i' z : Int) (h : St w0 w (l1 ++ HT b lim ls :: l2)) (hi : i = j) (hi' : i' = k) : Calls Try.prog 32 #[ptr b, .int .i64 i, .int .i64 i', .int .i64 z] w fun e w' =>
    ∃ t er ls', e = .returned (.tuple #[.int .i64 t, .int .i64 er]) ∧ ls'.length = ls.length ∧ tot ls' = tot ls ∧ St w0 w' (l1 ++ HT b lim ls' :: l2) := by
  by_cases hj : j < ls.length
  · by_cases hk : k < (ls.getD j []).length
    · exact (SH.set l1 j k i i' z _ h hi hi' hj hk rfl).mono fun _ _ ⟨h1, h2⟩ => ⟨_, _, _, h1, by simp, tot_set (by simp), h2⟩
    · exact (SH.setTrap l1 j i i' z h hi hj (Or.inr (by omega))).mono fun _ _ ⟨h1, h2⟩ => ⟨_, _, _, h1, rfl, rfl, h2⟩
  · exact (SH.setOut l1 i i' z h (Or.inr (by omega))).mono fun _ _ ⟨h1, h2⟩ => ⟨_, _, _, h1, rfl, rfl, h2⟩

/-- Behind the last array, of one cell. -/
inductive One (ls : List (List Int)) (m : Nat) (z : Int) : Prop
  | mk (len : ls.length = m + 2) (last : ls.getD (m + 1) [] = [z]) (room : tot ls ≤ 101) (small : m ≤ 20)
theorem one_of {ls : List (List Int)} {m : Nat} (hl : ls.length = m + 1) (ht : tot ls ≤ 5 * m) (hm : m ≤ 20) : One (ls ++ [List.replicate 1 0]) m 0 := by
  refine ⟨by simp [hl], ?_, by rw [tot_snoc]; simp; omega, hm⟩
  simp [List.getD, ← hl]
section
variable {ls : List (List Int)} {m : Nat} {z : Int}
theorem One.in (h : One ls m z) : m + 1 < ls.length := by obtain ⟨h, _⟩ := h; omega
theorem One.few (h : One ls m z) : ls.length ≤ 1000000 := by obtain ⟨_, _, _, _⟩ := h; omega
theorem One.one (h : One ls m z) : 0 < (ls.getD (m + 1) []).length := by obtain ⟨_, h, _⟩ := h; rw [h]; exact Nat.one_pos
theorem One.at (h : One ls m z) : (ls.getD (m + 1) []).getD 0 0 = z := by obtain ⟨_, h, _⟩ := h; rw [h]; rfl
theorem One.row (h : One ls m z) : ls.getD (m + 1) [] = [z] := by obtain ⟨_, h, _⟩ := h; exact h
theorem One.set (h : One ls m z) (y : Int) : ls.set (m + 1) ((ls.getD (m + 1) []).set 0 y) = ls.set (m + 1) [y] := by obtain ⟨_, h, _⟩ := h; rw [h]; rfl
theorem One.put (h : One ls m z) (y : Int) : One (ls.set (m + 1) [y]) m y := by
  obtain ⟨h1, h2, h3, h4⟩ := h
  refine ⟨by simp [h1], by simp [List.getD, h1], ?_, h4⟩
  rw [tot_set (by rw [h2]; rfl)]
  exact h3
theorem One.eq (h : One ls m 0) (y : Int) : decide (ls = ls.set (m + 1) [y]) = (y == 0) := by
  obtain ⟨h1, h2, _⟩ := h
  rw [Bool.eq_iff_iff, decide_eq_true_eq, beq_iff_eq]
  constructor
  · intro e
    have : ls.getD (m + 1) [] = (ls.set (m + 1) [y]).getD (m + 1) [] := by rw [← e]
    rw [h2] at this
    simpa [List.getD, h1] using this.symm
  · rintro rfl
    have := set_same ls (m + 1)
    rw [h2] at this
    exact this.symm
theorem One.ne (_ : One ls m z) : decide (ls ++ [List.replicate 0 0] = ls) = false := by
  rw [decide_eq_false_iff_not]
  intro e
  have := congrArg List.length e
  simp at this
theorem One.room (h : One ls m z) : tot ls + 0 ≤ 101 := by obtain ⟨_, _, h, _⟩ := h; omega
theorem One.len (h : One ls m z) : (ls.length : Int) = (m : Int) + 1 + 1 := by obtain ⟨h, _⟩ := h; omega
theorem One.count (h : One ls m z) : (ls.length : Int) - 1 = (m : Int) + 1 := by obtain ⟨h, _⟩ := h; omega
theorem One.count' (h : One ls m z) : ((ls ++ [List.replicate 0 0]).length : Int) - 1 = (m : Int) + 1 + 1 := by obtain ⟨h, _⟩ := h; simp [h]; omega
theorem One.in' (h : One ls m z) : m + 1 < (ls ++ [List.replicate 0 0]).length := by obtain ⟨h, _⟩ := h; simp; omega
theorem One.row' (h : One ls m z) : (ls ++ [List.replicate 0 0]).getD (m + 1) [] = [z] := by
  obtain ⟨h1, h2, _⟩ := h
  rw [List.getD, List.getElem?_append_left (by omega)]
  exact h2
end

set_option maxRecDepth 10000 in
set_option maxHeartbeats 4000000 in
theorem hcopies_some (g o L c m : Nat) (ks hs is : Nat → Nat) (ns : Nat → Int) (k1 k2 k3 z : Int) (w : World) (hm : m ≤ 20) (hmL : m ≤ L) (hLc : L ≤ c) (hg : g < w.heap.size)
    (hmin : (if (20 : Int) < (L : Int) then (20 : Int) else (L : Int)) = (m : Int)) (hC : Chg w g o m ks hs is ns) :
    Calls Try.prog 10 #[.slice (some ⟨g, o, none⟩) L c, .agg #[.int .u8 k1, .int .u8 k2, .int .u8 k3, .int .i64 z]] w fun e w' => e = .returned (.bool true) ∧ Below w.heap.size w w' := by
  have HC := Lib.hid hC; clear hC
  have hmc : (m : Int) ≤ (c : Int) := by omega
  have hm0 : (0 : Int) ≤ (m : Int) := by omega
  have S0 := Lib.hid ((St.nil w).alloc (Obj.cells #[.int .u8 k1, .int .u8 k2, .int .u8 k3, .int .i64 z] 56))
  go_enter Try.func10, Try.ntmps10
  go_wp2_with (go_at_call 26; refine (SH.new 101 _ S0.out rfl (by decide)).mono ?_; rintro e w1 ⟨b, rfl, hs⟩; have S1 := Lib.hid hs; clear hs S0)
  obtain ⟨CC, hCC⟩ : ∃ CC, CC = w.heap.size := ⟨_, rfl⟩
  rw [← hCC] at S1 ⊢
  have HCC := Lib.hid hCC; clear hCC
  go_loopw [42] (fun i wr => ∃ j : Nat, j ≤ m ∧ i = .int .i64 j ∧ Hid (∃ ls, ls.length = j + 1 ∧ tot ls ≤ 5 * j ∧ St w wr [HT b 101 ls, Blk CC (Obj.cells #[.int .u8 k1, .int .u8 k2, .int .u8 k3, .int .i64 z] 56)])) (fun i _ => m - (intOf i).toNat)
  case atStart => exact ⟨0, Nat.zero_le _, rfl, Lib.hid ⟨_, rfl, Nat.le_refl _, S1.out⟩⟩
  case round =>
    obtain ⟨j, hj, rfl, hM⟩ := hrel
    obtain ⟨ls, hls, htot, hS⟩ := hM.out
    clear hM
    by_cases hlt : j < m
    · have e0 := (hS.base.cell (p := ⟨g, o + j * 4, none⟩) hg).trans (HC.out.c0 j hlt)
      have e1 := (hS.base.cell (p := ⟨g, o + j * 4 + 1, none⟩) hg).trans (HC.out.c1 j hlt)
      have e2 := (hS.base.cell (p := ⟨g, o + j * 4 + 2, none⟩) hg).trans (HC.out.c2 j hlt)
      have e3 := (hS.base.cell (p := ⟨g, o + j * 4 + 3, none⟩) hg).trans (HC.out.c3 j hlt)
      have hb := HC.out.b j hlt
      obtain ⟨hb1, hb2, hb3⟩ := hb
      generalize ks j = kd at *
      generalize hs j = hd at *
      generalize is j = id' at *
      generalize ns j = y at *
      have SB := Lib.hid (hS.alloc (Obj.cells #[.int .u8 kd, .int .u8 hd, .int .u8 id', .int .i64 y] 56))
      have Hls := Lib.hid hls; clear hls
      have Htot := Lib.hid htot; clear htot hS
      obtain ⟨nn, hnn⟩ : ∃ nn : Nat, (id' : Int) % 6 = nn := ⟨(id' % 6), by omega⟩
      obtain ⟨hh, hhh⟩ : ∃ hh : Nat, (hd : Int) % 20 = hh := ⟨(hd % 20), by omega⟩
      have hn6 : nn < 6 := by omega
      go_wp2_with (first
        | (go_at_call 32; refine (SH.setAny [_] hh nn _ _ _ M3.out rfl rfl).mono ?_; rintro e w4 ⟨tt, er, ls4, rfl, hl4, ht4, hs⟩; have M4 : Hid (∃ ls, ls.length = j + 1 + 1 ∧ tot ls ≤ 5 * (j + 1) ∧ St w w4 [HT b 101 ls, Blk CC (Obj.cells #[.int .u8 k1, .int .u8 k2, .int .u8 k3, .int .i64 z] 56)]) := Lib.hid ⟨ls4, by rw [hl4, List.length_append, Hls.out]; rfl, by rw [ht4, tot_snoc, List.length_replicate]; have := Htot.out; omega, hs.tail⟩; clear hs hl4 ht4)
        | (go_at_call 27; refine (SH.alloc [_] nn _ ((j : Int) + 1) SB.out rfl (by have := Htot.out; omega) (by have := Hls.out; omega) (by rw [Hls.out]; omega)).mono ?_; rintro e w3 ⟨rfl, hs⟩; have M3 := Lib.hid (show St w w3 [_, _, _] from hs); have b1 := hs.cell [] 1 (.int .u8 hd) rfl; have b2 := hs.cell [] 2 (.int .u8 id') rfl; have b3 := hs.cell [] 3 (.int .i64 y) rfl; clear hs))
      go_roundw
      case rel => exact ⟨j + 1, by omega, by go_num, M4⟩
      case measure => simp [intOf]; omega
    · obtain rfl : m = j := by omega
      have HM0 := Lib.hid hS; clear hS hlt hj
      have HL := Lib.hid hls; clear hls
      have HT5 := Lib.hid htot; clear htot
      clear HC hmin
      go_wp2_with (first
        | (go_at_call 46; refine (SH.same true K5.out (SH.is [_] K5.out) (SH.is [_] K5.out) L1.out.few (by simp)).mono ?_; rintro e w9 ⟨rfl, hs⟩; have K6 := Lib.hid hs; have cz0 := hs.cell [_, _] 3 (.int .i64 z) rfl; clear hs)
        | (go_at_call 46; refine (SH.same true K4.out (SH.is [] K4.out) (SH.is [_] K4.out) L1.out.few (by simp)).mono ?_; rintro e w9 ⟨rfl, hs⟩; have K5 := Lib.hid hs; clear hs)
        | (go_at_call 46; refine (SH.same true K3.out (SH.is [_] K3.out) (SH.is [] K3.out) L1.out.few (by simp)).mono ?_; rintro e w9 ⟨rfl, hs⟩; have K4 := Lib.hid hs; clear hs)
        | (go_at_call 32; refine (SH.set [] (m + 1) 0 _ _ _ _ K6.out (by omega) rfl L1.out.in L1.out.one (L1.out.set z)).mono ?_; rintro e w9 ⟨rfl, hs⟩; have K7 := Lib.hid (show St w w9 [_, _, _] from hs); have cz := hs.cell [_, _] 3 (.int .i64 z) rfl; clear hs)
        | (go_at_call 45; refine (SH.copy [] K2.out L1.out.few).mono ?_; rintro e w9 ⟨d, rfl, hs⟩; have K3 := Lib.hid (show St w w9 [_, _, _] from hs); clear hs)
        | (go_at_call 27; refine (SH.alloc [] 1 _ ((m : Int) + 1) HM0.out rfl (by have := HT5.out; omega) (by have := HL.out; omega) (by rw [HL.out]; omega)).mono ?_; rintro e w9 ⟨rfl, hs⟩; have h1 := one_of HL.out HT5.out hm; generalize ls ++ [List.replicate 1 0] = ls1 at *; have L1 := Lib.hid h1; have K2 := Lib.hid (show St w w9 [HT b 101 ls1, _] from hs); clear hs h1 HL HM0 HT5))
      have K77 := Lib.hid (K7.out.step ((Upto.refl _ _).drew))
      go_region_held3 (fun w' => w'.cell? ⟨CC, 3, none⟩ = some (.int .i64 z)) (go_keep) (first | (go_at_call 46; refine (SH.same (z == 0) K77.out (SH.is [_] K77.out) (SH.is [] K77.out) L1.out.few (L1.out.eq z)).mono ?_; rintro e w9 ⟨rfl, hs⟩; have cz2 := hs.cell [_, _] 3 (.int .i64 z) rfl; have K8 := Lib.hid hs; clear hs))
      go_wp2_with (first
        | (go_at_call 33; refine (SH.array [_] (m + 1) _ [z] KC.out (by omega) L2.out.in' L2.out.row').mono ?_; rintro e w9 ⟨u, rfl, hs⟩; obtain ⟨uo, un, uc, rfl⟩ := (hs.row []).shape; have KD := Lib.hid (show St w w9 [RowT _ _, _, _, _] from hs); clear hs)
        | (go_at_call 46; refine (SH.same false KB.out (SH.is [_] KB.out) (SH.is [] KB.out) (by have := L2.out.few; have := L2.out.len; simp; omega) L2.out.ne).mono ?_; rintro e w9 ⟨rfl, hs⟩; have KC := Lib.hid hs; clear hs)
        | (go_at_call 27; refine (SH.alloc [_] 0 _ ((m : Int) + 1 + 1) KA.out rfl L2.out.room L2.out.few L2.out.len).mono ?_; rintro e w9 ⟨rfl, hs⟩; have KB := Lib.hid (show St w w9 [_, _, _] from hs); clear hs)
        | (go_at_call 46; refine (SH.same true K9.out (SH.is [_] K9.out) (SH.is [] K9.out) L2.out.few (by simp)).mono ?_; rintro e w9 ⟨rfl, hs⟩; have KA := Lib.hid hs; clear hs)
        | (go_at_call 32; refine (SH.set [_] (m + 1) 0 _ _ _ _ K88.out (by omega) rfl L1.out.in L1.out.one (L1.out.set z)).mono ?_; rintro e w9 ⟨rfl, hs⟩; have h2 := L1.out.put z; generalize ls1.set (m + 1) [z] = ls2 at *; have L2 := Lib.hid h2; have K9 := Lib.hid (show St w w9 [HT d 101 ls2, HT b 101 ls2, _] from hs); clear hs h2)
        | (go_at_call 35; refine (SH.get [_] (m + 1) 0 _ _ 0 K8.out (by omega) rfl L1.out.in L1.out.one L1.out.at).mono ?_; rintro e w9 ⟨rfl, hs⟩; have K88 := Lib.hid (show St w w9 [_, _, _] from hs); have cz3 := hs.cell [_, _] 3 (.int .i64 z) rfl; clear hs))
      obtain ⟨wc, hcl, hs⟩ := KD.out.clear []
      have KE := Lib.hid (show St w wc [RowT _ _, _, _, _] from hs); clear hs
      go_wp2_with (first
        | (go_at_call 30; refine (works17 _).mono ?_; rintro e w9 ⟨rfl, hb⟩; have BF := Lib.hid hb; clear hb)
        | (go_at_call 29; have tk := tok; refine (SH.count [_, _, _, _] ((m : Int) + 1 + 1) KI.out L2.out.count').mono ?_; rintro e w9 ⟨rfl, rfl⟩)
        | (go_at_call 29; refine (SH.count [_, _, _] ((m : Int) + 1) KI.out L2.out.count).mono ?_; rintro e w9 ⟨rfl, rfl⟩; have tok : True := trivial)
        | (go_at_call 46; refine (SH.sameLim KH.out (SH.is [_] KH.out) (SH.is [] KH.out) (by decide)).mono ?_; rintro e w9 ⟨rfl, hs⟩; have KI := Lib.hid hs; clear hs)
        | (go_at_call 26; refine (SH.new 99 _ KG.out rfl (by decide)).mono ?_; rintro e w9 ⟨g9, rfl, hs⟩; have KH := Lib.hid hs; have cz4 := hs.cell [_, _, _, _, _] 3 (.int .i64 z) rfl; clear hs)
        | (go_at_call 26; refine (SH.new 100 _ KF.out rfl (by decide)).mono ?_; rintro e w9 ⟨o9, rfl, hs⟩; have KG := Lib.hid hs; clear hs)
        | (go_at_call 35; refine (SH.get [_, _] (m + 1) 0 _ _ z KE.out (by omega) rfl L2.out.in' (by rw [L2.out.row']; exact Nat.one_pos) (by rw [L2.out.row']; rfl)).mono ?_; rintro e w9 ⟨rfl, hs⟩; have KF := Lib.hid (show St w w9 [_, _, _, _] from hs); clear hs)
        | (simp only [hcl]))
      go_ret
      exact ⟨rfl, Upto.below ((Upto.of_below KI.out.base _).trans (Upto.of_below BF.out _))⟩

set_option maxRecDepth 10000 in
set_option maxHeartbeats 4000000 in
theorem hcopies_none (k1 k2 k3 z : Int) (w : World) :
    Calls Try.prog 10 #[.slice none 0 0, .agg #[.int .u8 k1, .int .u8 k2, .int .u8 k3, .int .i64 z]] w fun e w' => e = .returned (.bool true) ∧ Below w.heap.size w w' := by
  obtain ⟨m, hm9⟩ : ∃ m : Nat, m = 0 := ⟨0, rfl⟩
  have hm : m ≤ 20 := by omega
  have hm0 : (0 : Int) ≤ (m : Int) := by omega
  have HL : Hid (([[]] : List (List Int)).length = m + 1) := Lib.hid (by rw [hm9]; rfl)
  have HT5 : Hid (tot [[]] ≤ 5 * m) := Lib.hid (Nat.zero_le _)
  clear hm9
  have S0 := Lib.hid ((St.nil w).alloc (Obj.cells #[.int .u8 k1, .int .u8 k2, .int .u8 k3, .int .i64 z] 56))
  go_enter Try.func10, Try.ntmps10
  go_wp2_with (go_at_call 26; refine (SH.new 101 _ S0.out rfl (by decide)).mono ?_; rintro e w1 ⟨b, rfl, hs⟩; have S1 := Lib.hid hs; clear hs S0)
  obtain ⟨CC, hCC⟩ : ∃ CC, CC = w.heap.size := ⟨_, rfl⟩
  rw [← hCC] at S1 ⊢
  have HCC := Lib.hid hCC; clear hCC
  obtain ⟨ls, HM0, HL, HT5⟩ : ∃ ls, Hid (St w w1 [HT b 101 ls, Blk CC (Obj.cells #[.int .u8 k1, .int .u8 k2, .int .u8 k3, .int .i64 z] 56)]) ∧ Hid (ls.length = m + 1) ∧ Hid (tot ls ≤ 5 * m) := ⟨_, S1, HL, HT5⟩
  clear S1
  go_loop [42] (fun i => i = .int .i64 0) (fun _ => 0)
  case atStart => rfl
  case round =>
    subst hrel
    go_wp2_with (first
      | (go_at_call 46; refine (SH.same true K5.out (SH.is [_] K5.out) (SH.is [_] K5.out) L1.out.few (by simp)).mono ?_; rintro e w9 ⟨rfl, hs⟩; have K6 := Lib.hid hs; have cz0 := hs.cell [_, _] 3 (.int .i64 z) rfl; clear hs)
      | (go_at_call 46; refine (SH.same true K4.out (SH.is [] K4.out) (SH.is [_] K4.out) L1.out.few (by simp)).mono ?_; rintro e w9 ⟨rfl, hs⟩; have K5 := Lib.hid hs; clear hs)
      | (go_at_call 46; refine (SH.same true K3.out (SH.is [_] K3.out) (SH.is [] K3.out) L1.out.few (by simp)).mono ?_; rintro e w9 ⟨rfl, hs⟩; have K4 := Lib.hid hs; clear hs)
      | (go_at_call 32; refine (SH.set [] (m + 1) 0 _ _ _ _ K6.out (by omega) rfl L1.out.in L1.out.one (L1.out.set z)).mono ?_; rintro e w9 ⟨rfl, hs⟩; have K7 := Lib.hid (show St w w9 [_, _, _] from hs); have cz := hs.cell [_, _] 3 (.int .i64 z) rfl; clear hs)
      | (go_at_call 45; refine (SH.copy [] K2.out L1.out.few).mono ?_; rintro e w9 ⟨d, rfl, hs⟩; have K3 := Lib.hid (show St w w9 [_, _, _] from hs); clear hs)
      | (go_at_call 27; refine (SH.alloc [] 1 _ ((m : Int) + 1) HM0.out rfl (by have := HT5.out; omega) (by have := HL.out; omega) (by rw [HL.out]; omega)).mono ?_; rintro e w9 ⟨rfl, hs⟩; have h1 := one_of HL.out HT5.out hm; generalize ls ++ [List.replicate 1 0] = ls1 at *; have L1 := Lib.hid h1; have K2 := Lib.hid (show St w w9 [HT b 101 ls1, _] from hs); clear hs h1 HL HM0 HT5))
    have K77 := Lib.hid (K7.out.step ((Upto.refl _ _).drew))
    go_region_held3 (fun w' => w'.cell? ⟨CC, 3, none⟩ = some (.int .i64 z)) (go_keep) (first | (go_at_call 46; refine (SH.same (z == 0) K77.out (SH.is [_] K77.out) (SH.is [] K77.out) L1.out.few (L1.out.eq z)).mono ?_; rintro e w9 ⟨rfl, hs⟩; have cz2 := hs.cell [_, _] 3 (.int .i64 z) rfl; have K8 := Lib.hid hs; clear hs))
    go_wp2_with (first
      | (go_at_call 33; refine (SH.array [_] (m + 1) _ [z] KC.out (by omega) L2.out.in' L2.out.row').mono ?_; rintro e w9 ⟨u, rfl, hs⟩; obtain ⟨uo, un, uc, rfl⟩ := (hs.row []).shape; have KD := Lib.hid (show St w w9 [RowT _ _, _, _, _] from hs); clear hs)
      | (go_at_call 46; refine (SH.same false KB.out (SH.is [_] KB.out) (SH.is [] KB.out) (by have := L2.out.few; have := L2.out.len; simp; omega) L2.out.ne).mono ?_; rintro e w9 ⟨rfl, hs⟩; have KC := Lib.hid hs; clear hs)
      | (go_at_call 27; refine (SH.alloc [_] 0 _ ((m : Int) + 1 + 1) KA.out rfl L2.out.room L2.out.few L2.out.len).mono ?_; rintro e w9 ⟨rfl, hs⟩; have KB := Lib.hid (show St w w9 [_, _, _] from hs); clear hs)
      | (go_at_call 46; refine (SH.same true K9.out (SH.is [_] K9.out) (SH.is [] K9.out) L2.out.few (by simp)).mono ?_; rintro e w9 ⟨rfl, hs⟩; have KA := Lib.hid hs; clear hs)
      | (go_at_call 32; refine (SH.set [_] (m + 1) 0 _ _ _ _ K88.out (by omega) rfl L1.out.in L1.out.one (L1.out.set z)).mono ?_; rintro e w9 ⟨rfl, hs⟩; have h2 := L1.out.put z; generalize ls1.set (m + 1) [z] = ls2 at *; have L2 := Lib.hid h2; have K9 := Lib.hid (show St w w9 [HT d 101 ls2, HT b 101 ls2, _] from hs); clear hs h2)
      | (go_at_call 35; refine (SH.get [_] (m + 1) 0 _ _ 0 K8.out (by omega) rfl L1.out.in L1.out.one L1.out.at).mono ?_; rintro e w9 ⟨rfl, hs⟩; have K88 := Lib.hid (show St w w9 [_, _, _] from hs); have cz3 := hs.cell [_, _] 3 (.int .i64 z) rfl; clear hs))
    obtain ⟨wc, hcl, hs⟩ := KD.out.clear []
    have KE := Lib.hid (show St w wc [RowT _ _, _, _, _] from hs); clear hs
    go_wp2_with (first
      | (go_at_call 30; refine (works17 _).mono ?_; rintro e w9 ⟨rfl, hb⟩; have BF := Lib.hid hb; clear hb)
      | (go_at_call 29; have tk := tok; refine (SH.count [_, _, _, _] ((m : Int) + 1 + 1) KI.out L2.out.count').mono ?_; rintro e w9 ⟨rfl, rfl⟩)
      | (go_at_call 29; refine (SH.count [_, _, _] ((m : Int) + 1) KI.out L2.out.count).mono ?_; rintro e w9 ⟨rfl, rfl⟩; have tok : True := trivial)
      | (go_at_call 46; refine (SH.sameLim KH.out (SH.is [_] KH.out) (SH.is [] KH.out) (by decide)).mono ?_; rintro e w9 ⟨rfl, hs⟩; have KI := Lib.hid hs; clear hs)
      | (go_at_call 26; refine (SH.new 99 _ KG.out rfl (by decide)).mono ?_; rintro e w9 ⟨g9, rfl, hs⟩; have KH := Lib.hid hs; have cz4 := hs.cell [_, _, _, _, _] 3 (.int .i64 z) rfl; clear hs)
      | (go_at_call 26; refine (SH.new 100 _ KF.out rfl (by decide)).mono ?_; rintro e w9 ⟨o9, rfl, hs⟩; have KG := Lib.hid hs; clear hs)
      | (go_at_call 35; refine (SH.get [_, _] (m + 1) 0 _ _ z KE.out (by omega) rfl L2.out.in' (by rw [L2.out.row']; exact Nat.one_pos) (by rw [L2.out.row']; rfl)).mono ?_; rintro e w9 ⟨rfl, hs⟩; have KF := Lib.hid (show St w w9 [_, _, _, _] from hs); clear hs)
      | (simp only [hcl]))
    go_ret
    exact ⟨rfl, Upto.below ((Upto.of_below KI.out.base _).trans (Upto.of_below BF.out _))⟩

set_option maxRecDepth 10000 in
set_option maxHeartbeats 4000000 in
theorem hcopies_empty0 (a : Addr) (k1 k2 k3 z : Int) (w : World) :
    Calls Try.prog 10 #[.slice (some a) 0 0, .agg #[.int .u8 k1, .int .u8 k2, .int .u8 k3, .int .i64 z]] w fun e w' => e = .returned (.bool true) ∧ Below w.heap.size w w' := by
  obtain ⟨m, hm9⟩ : ∃ m : Nat, m = 0 := ⟨0, rfl⟩
  have hm : m ≤ 20 := by omega
  have hm0 : (0 : Int) ≤ (m : Int) := by omega
  have HL : Hid (([[]] : List (List Int)).length = m + 1) := Lib.hid (by rw [hm9]; rfl)
  have HT5 : Hid (tot [[]] ≤ 5 * m) := Lib.hid (Nat.zero_le _)
  clear hm9
  have S0 := Lib.hid ((St.nil w).alloc (Obj.cells #[.int .u8 k1, .int .u8 k2, .int .u8 k3, .int .i64 z] 56))
  go_enter Try.func10, Try.ntmps10
  go_wp2_with (go_at_call 26; refine (SH.new 101 _ S0.out rfl (by decide)).mono ?_; rintro e w1 ⟨b, rfl, hs⟩; have S1 := Lib.hid hs; clear hs S0)
  obtain ⟨CC, hCC⟩ : ∃ CC, CC = w.heap.size := ⟨_, rfl⟩
  rw [← hCC] at S1 ⊢
  have HCC := Lib.hid hCC; clear hCC
  obtain ⟨ls, HM0, HL, HT5⟩ : ∃ ls, Hid (St w w1 [HT b 101 ls, Blk CC (Obj.cells #[.int .u8 k1, .int .u8 k2, .int .u8 k3, .int .i64 z] 56)]) ∧ Hid (ls.length = m + 1) ∧ Hid (tot ls ≤ 5 * m) := ⟨_, S1, HL, HT5⟩
  clear S1
  go_loop [42] (fun i => i = .int .i64 0) (fun _ => 0)
  case atStart => rfl
  case round =>
    subst hrel
    go_wp2_with (first
      | (go_at_call 46; refine (SH.same true K5.out (SH.is [_] K5.out) (SH.is [_] K5.out) L1.out.few (by simp)).mono ?_; rintro e w9 ⟨rfl, hs⟩; have K6 := Lib.hid hs; have cz0 := hs.cell [_, _] 3 (.int .i64 z) rfl; clear hs)
      | (go_at_call 46; refine (SH.same true K4.out (SH.is [] K4.out) (SH.is [_] K4.out) L1.out.few (by simp)).mono ?_; rintro e w9 ⟨rfl, hs⟩; have K5 := Lib.hid hs; clear hs)
      | (go_at_call 46; refine (SH.same true K3.out (SH.is [_] K3.out) (SH.is [] K3.out) L1.out.few (by simp)).mono ?_; rintro e w9 ⟨rfl, hs⟩; have K4 := Lib.hid hs; clear hs)
      | (go_at_call 32; refine (SH.set [] (m + 1) 0 _ _ _ _ K6.out (by omega) rfl L1.out.in L1.out.one (L1.out.set z)).mono ?_; rintro e w9 ⟨rfl, hs⟩; have K7 := Lib.hid (show St w w9 [_, _, _] from hs); have cz := hs.cell [_, _] 3 (.int .i64 z) rfl; clear hs)
      | (go_at_call 45; refine (SH.copy [] K2.out L1.out.few).mono ?_; rintro e w9 ⟨d, rfl, hs⟩; have K3 := Lib.hid (show St w w9 [_, _, _] from hs); clear hs)
      | (go_at_call 27; refine (SH.alloc [] 1 _ ((m : Int) + 1) HM0.out rfl (by have := HT5.out; omega) (by have := HL.out; omega) (by rw [HL.out]; omega)).mono ?_; rintro e w9 ⟨rfl, hs⟩; have h1 := one_of HL.out HT5.out hm; generalize ls ++ [List.replicate 1 0] = ls1 at *; have L1 := Lib.hid h1; have K2 := Lib.hid (show St w w9 [HT b 101 ls1, _] from hs); clear hs h1 HL HM0 HT5))
    have K77 := Lib.hid (K7.out.step ((Upto.refl _ _).drew))
    go_region_held3 (fun w' => w'.cell? ⟨CC, 3, none⟩ = some (.int .i64 z)) (go_keep) (first | (go_at_call 46; refine (SH.same (z == 0) K77.out (SH.is [_] K77.out) (SH.is [] K77.out) L1.out.few (L1.out.eq z)).mono ?_; rintro e w9 ⟨rfl, hs⟩; have cz2 := hs.cell [_, _] 3 (.int .i64 z) rfl; have K8 := Lib.hid hs; clear hs))
    go_wp2_with (first
      | (go_at_call 33; refine (SH.array [_] (m + 1) _ [z] KC.out (by omega) L2.out.in' L2.out.row').mono ?_; rintro e w9 ⟨u, rfl, hs⟩; obtain ⟨uo, un, uc, rfl⟩ := (hs.row []).shape; have KD := Lib.hid (show St w w9 [RowT _ _, _, _, _] from hs); clear hs)
      | (go_at_call 46; refine (SH.same false KB.out (SH.is [_] KB.out) (SH.is [] KB.out) (by have := L2.out.few; have := L2.out.len; simp; omega) L2.out.ne).mono ?_; rintro e w9 ⟨rfl, hs⟩; have KC := Lib.hid hs; clear hs)
      | (go_at_call 27; refine (SH.alloc [_] 0 _ ((m : Int) + 1 + 1) KA.out rfl L2.out.room L2.out.few L2.out.len).mono ?_; rintro e w9 ⟨rfl, hs⟩; have KB := Lib.hid (show St w w9 [_, _, _] from hs); clear hs)
      | (go_at_call 46; refine (SH.same true K9.out (SH.is [_] K9.out) (SH.is [] K9.out) L2.out.few (by simp)).mono ?_; rintro e w9 ⟨rfl, hs⟩; have KA := Lib.hid hs; clear hs)
      | (go_at_call 32; refine (SH.set [_] (m + 1) 0 _ _ _ _ K88.out (by omega) rfl L1.out.in L1.out.one (L1.out.set z)).mono ?_; rintro e w9 ⟨rfl, hs⟩; have h2 := L1.out.put z; generalize ls1.set (m + 1) [z] = ls2 at *; have L2 := Lib.hid h2; have K9 := Lib.hid (show St w w9 [HT d 101 ls2, HT b 101 ls2, _] from hs); clear hs h2)
      | (go_at_call 35; refine (SH.get [_] (m + 1) 0 _ _ 0 K8.out (by omega) rfl L1.out.in L1.out.one L1.out.at).mono ?_; rintro e w9 ⟨rfl, hs⟩; have K88 := Lib.hid (show St w w9 [_, _, _] from hs); have cz3 := hs.cell [_, _] 3 (.int .i64 z) rfl; clear hs))
    obtain ⟨wc, hcl, hs⟩ := KD.out.clear []
    have KE := Lib.hid (show St w wc [RowT _ _, _, _, _] from hs); clear hs
    go_wp2_with (first
      | (go_at_call 30; refine (works17 _).mono ?_; rintro e w9 ⟨rfl, hb⟩; have BF := Lib.hid hb; clear hb)
      | (go_at_call 29; have tk := tok; refine (SH.count [_, _, _, _] ((m : Int) + 1 + 1) KI.out L2.out.count').mono ?_; rintro e w9 ⟨rfl, rfl⟩)
      | (go_at_call 29; refine (SH.count [_, _, _] ((m : Int) + 1) KI.out L2.out.count).mono ?_; rintro e w9 ⟨rfl, rfl⟩; have tok : True := trivial)
      | (go_at_call 46; refine (SH.sameLim KH.out (SH.is [_] KH.out) (SH.is [] KH.out) (by decide)).mono ?_; rintro e w9 ⟨rfl, hs⟩; have KI := Lib.hid hs; clear hs)
      | (go_at_call 26; refine (SH.new 99 _ KG.out rfl (by decide)).mono ?_; rintro e w9 ⟨g9, rfl, hs⟩; have KH := Lib.hid hs; have cz4 := hs.cell [_, _, _, _, _] 3 (.int .i64 z) rfl; clear hs)
      | (go_at_call 26; refine (SH.new 100 _ KF.out rfl (by decide)).mono ?_; rintro e w9 ⟨o9, rfl, hs⟩; have KG := Lib.hid hs; clear hs)
      | (go_at_call 35; refine (SH.get [_, _] (m + 1) 0 _ _ z KE.out (by omega) rfl L2.out.in' (by rw [L2.out.row']; exact Nat.one_pos) (by rw [L2.out.row']; rfl)).mono ?_; rintro e w9 ⟨rfl, hs⟩; have KF := Lib.hid (show St w w9 [_, _, _, _] from hs); clear hs)
      | (simp only [hcl]))
    go_ret
    exact ⟨rfl, Upto.below ((Upto.of_below KI.out.base _).trans (Upto.of_below BF.out _))⟩

set_option maxRecDepth 10000 in
set_option maxHeartbeats 4000000 in
theorem hcopies_empty1 (a : Addr) (c : Nat) (k1 k2 k3 z : Int) (w : World) :
    Calls Try.prog 10 #[.slice (some a) 0 (c + 1), .agg #[.int .u8 k1, .int .u8 k2, .int .u8 k3, .int .i64 z]] w fun e w' => e = .returned (.bool true) ∧ Below w.heap.size w w' := by
  have hcz : (0 : Int) ≤ (c : Int) + 1 := by omega
  obtain ⟨m, hm9⟩ : ∃ m : Nat, m = 0 := ⟨0, rfl⟩
  have hm : m ≤ 20 := by omega
  have hm0 : (0 : Int) ≤ (m : Int) := by omega
  have HL : Hid (([[]] : List (List Int)).length = m + 1) := Lib.hid (by rw [hm9]; rfl)
  have HT5 : Hid (tot [[]] ≤ 5 * m) := Lib.hid (Nat.zero_le _)
  clear hm9
  have S0 := Lib.hid ((St.nil w).alloc (Obj.cells #[.int .u8 k1, .int .u8 k2, .int .u8 k3, .int .i64 z] 56))
  go_enter Try.func10, Try.ntmps10
  go_wp2_with (go_at_call 26; refine (SH.new 101 _ S0.out rfl (by decide)).mono ?_; rintro e w1 ⟨b, rfl, hs⟩; have S1 := Lib.hid hs; clear hs S0)
  obtain ⟨CC, hCC⟩ : ∃ CC, CC = w.heap.size := ⟨_, rfl⟩
  rw [← hCC] at S1 ⊢
  have HCC := Lib.hid hCC; clear hCC
  obtain ⟨ls, HM0, HL, HT5⟩ : ∃ ls, Hid (St w w1 [HT b 101 ls, Blk CC (Obj.cells #[.int .u8 k1, .int .u8 k2, .int .u8 k3, .int .i64 z] 56)]) ∧ Hid (ls.length = m + 1) ∧ Hid (tot ls ≤ 5 * m) := ⟨_, S1, HL, HT5⟩
  clear S1
  go_loop [42] (fun i => i = .int .i64 0) (fun _ => 0)
  case atStart => rfl
  case round =>
    subst hrel
    go_wp2_with (first
      | (go_at_call 46; refine (SH.same true K5.out (SH.is [_] K5.out) (SH.is [_] K5.out) L1.out.few (by simp)).mono ?_; rintro e w9 ⟨rfl, hs⟩; have K6 := Lib.hid hs; have cz0 := hs.cell [_, _] 3 (.int .i64 z) rfl; clear hs)
      | (go_at_call 46; refine (SH.same true K4.out (SH.is [] K4.out) (SH.is [_] K4.out) L1.out.few (by simp)).mono ?_; rintro e w9 ⟨rfl, hs⟩; have K5 := Lib.hid hs; clear hs)
      | (go_at_call 46; refine (SH.same true K3.out (SH.is [_] K3.out) (SH.is [] K3.out) L1.out.few (by simp)).mono ?_; rintro e w9 ⟨rfl, hs⟩; have K4 := Lib.hid hs; clear hs)
      | (go_at_call 32; refine (SH.set [] (m + 1) 0 _ _ _ _ K6.out (by omega) rfl L1.out.in L1.out.one (L1.out.set z)).mono ?_; rintro e w9 ⟨rfl, hs⟩; have K7 := Lib.hid (show St w w9 [_, _, _] from hs); have cz := hs.cell [_, _] 3 (.int .i64 z) rfl; clear hs)
      | (go_at_call 45; refine (SH.copy [] K2.out L1.out.few).mono ?_; rintro e w9 ⟨d, rfl, hs⟩; have K3 := Lib.hid (show St w w9 [_, _, _] from hs); clear hs)
      | (go_at_call 27; refine (SH.alloc [] 1 _ ((m : Int) + 1) HM0.out rfl (by have := HT5.out; omega) (by have := HL.out; omega) (by rw [HL.out]; omega)).mono ?_; rintro e w9 ⟨rfl, hs⟩; have h1 := one_of HL.out HT5.out hm; generalize ls ++ [List.replicate 1 0] = ls1 at *; have L1 := Lib.hid h1; have K2 := Lib.hid (show St w w9 [HT b 101 ls1, _] from hs); clear hs h1 HL HM0 HT5))
    have K77 := Lib.hid (K7.out.step ((Upto.refl _ _).drew))
    go_region_held3 (fun w' => w'.cell? ⟨CC, 3, none⟩ = some (.int .i64 z)) (go_keep) (first | (go_at_call 46; refine (SH.same (z == 0) K77.out (SH.is [_] K77.out) (SH.is [] K77.out) L1.out.few (L1.out.eq z)).mono ?_; rintro e w9 ⟨rfl, hs⟩; have cz2 := hs.cell [_, _] 3 (.int .i64 z) rfl; have K8 := Lib.hid hs; clear hs))
    go_wp2_with (first
      | (go_at_call 33; refine (SH.array [_] (m + 1) _ [z] KC.out (by omega) L2.out.in' L2.out.row').mono ?_; rintro e w9 ⟨u, rfl, hs⟩; obtain ⟨uo, un, uc, rfl⟩ := (hs.row []).shape; have KD := Lib.hid (show St w w9 [RowT _ _, _, _, _] from hs); clear hs)
      | (go_at_call 46; refine (SH.same false KB.out (SH.is [_] KB.out) (SH.is [] KB.out) (by have := L2.out.few; have := L2.out.len; simp; omega) L2.out.ne).mono ?_; rintro e w9 ⟨rfl, hs⟩; have KC := Lib.hid hs; clear hs)
      | (go_at_call 27; refine (SH.alloc [_] 0 _ ((m : Int) + 1 + 1) KA.out rfl L2.out.room L2.out.few L2.out.len).mono ?_; rintro e w9 ⟨rfl, hs⟩; have KB := Lib.hid (show St w w9 [_, _, _] from hs); clear hs)
      | (go_at_call 46; refine (SH.same true K9.out (SH.is [_] K9.out) (SH.is [] K9.out) L2.out.few (by simp)).mono ?_; rintro e w9 ⟨rfl, hs⟩; have KA := Lib.hid hs; clear hs)
      | (go_at_call 32; refine (SH.set [_] (m + 1) 0 _ _ _ _ K88.out (by omega) rfl L1.out.in L1.out.one (L1.out.set z)).mono ?_; rintro e w9 ⟨rfl, hs⟩; have h2 := L1.out.put z; generalize ls1.set (m + 1) [z] = ls2 at *; have L2 := Lib.hid h2; have K9 := Lib.hid (show St w w9 [HT d 101 ls2, HT b 101 ls2, _] from hs); clear hs h2)
      | (go_at_call 35; refine (SH.get [_] (m + 1) 0 _ _ 0 K8.out (by omega) rfl L1.out.in L1.out.one L1.out.at).mono ?_; rintro e w9 ⟨rfl, hs⟩; have K88 := Lib.hid (show St w w9 [_, _, _] from hs); have cz3 := hs.cell [_, _] 3 (.int .i64 z) rfl; clear hs))
    obtain ⟨wc, hcl, hs⟩ := KD.out.clear []
    have KE := Lib.hid (show St w wc [RowT _ _, _, _, _] from hs); clear hs
    go_wp2_with (first
      | (go_at_call 30; refine (works17 _).mono ?_; rintro e w9 ⟨rfl, hb⟩; have BF := Lib.hid hb; clear hb)
      | (go_at_call 29; have tk := tok; refine (SH.count [_, _, _, _] ((m : Int) + 1 + 1) KI.out L2.out.count').mono ?_; rintro e w9 ⟨rfl, rfl⟩)
      | (go_at_call 29; refine (SH.count [_, _, _] ((m : Int) + 1) KI.out L2.out.count).mono ?_; rintro e w9 ⟨rfl, rfl⟩; have tok : True := trivial)
      | (go_at_call 46; refine (SH.sameLim KH.out (SH.is [_] KH.out) (SH.is [] KH.out) (by decide)).mono ?_; rintro e w9 ⟨rfl, hs⟩; have KI := Lib.hid hs; clear hs)
      | (go_at_call 26; refine (SH.new 99 _ KG.out rfl (by decide)).mono ?_; rintro e w9 ⟨g9, rfl, hs⟩; have KH := Lib.hid hs; have cz4 := hs.cell [_, _, _, _, _] 3 (.int .i64 z) rfl; clear hs)
      | (go_at_call 26; refine (SH.new 100 _ KF.out rfl (by decide)).mono ?_; rintro e w9 ⟨o9, rfl, hs⟩; have KG := Lib.hid hs; clear hs)
      | (go_at_call 35; refine (SH.get [_, _] (m + 1) 0 _ _ z KE.out (by omega) rfl L2.out.in' (by rw [L2.out.row']; exact Nat.one_pos) (by rw [L2.out.row']; rfl)).mono ?_; rintro e w9 ⟨rfl, hs⟩; have KF := Lib.hid (show St w w9 [_, _, _, _] from hs); clear hs)
      | (simp only [hcl]))
    go_ret
    exact ⟨rfl, Upto.below ((Upto.of_below KI.out.base _).trans (Upto.of_below BF.out _))⟩

theorem hcopies_true (k1 k2 k3 z : Int) {v : Value} {w : World} (h : ChgSeen w v) : Calls Try.prog 10 #[v, .agg #[.int .u8 k1, .int .u8 k2, .int .u8 k3, .int .i64 z]] w fun e w' => e = .returned (.bool true) ∧ Below w.heap.size w w' := by
  rcases h with rfl | ⟨a, c, rfl⟩ | ⟨g, o, n, c, ks, hs, is, ns, rfl, hc, hg, hC⟩
  · exact hcopies_none k1 k2 k3 z w
  · obtain _ | c := c
    · exact hcopies_empty0 a k1 k2 k3 z w
    · exact hcopies_empty1 a c k1 k2 k3 z w
  · obtain ⟨m, hm⟩ : ∃ m, m = min n 20 := ⟨_, rfl⟩
    refine hcopies_some g o n c m ks hs is ns k1 k2 k3 z w (by omega) (by omega) hc hg ?_ ⟨fun j hj => hC.c0 j (by omega), fun j hj => hC.c1 j (by omega), fun j hj => hC.c2 j (by omega), fun j hj => hC.c3 j (by omega), fun j hj => hC.b j (by omega)⟩
    split <;> omega

end Go.Proofs.Ytjganbcolaakkaa
