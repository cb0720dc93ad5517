/-
  The law of the plays of the memories, walked.
-/
import Derived.Test.YtjganbcolaakkaaOptMB
import Derived.Test.YtjganbcolaakkaaWorksB
namespace Go.Proofs.Ytjganbcolaakkaa
open Go.RowKit

set_option maxRecDepth 10000 in
set_option maxHeartbeats 8000000 in
theorem mplays_bad (li : Int) (ao : Option Addr) (n c : Nat) (z0 z1 z2 z3 : Nat → Int) (w : World) (hn : n ≤ 60) (hz : StepsIn w ao n z0 z1 z2 z3) (hli : li < 0 ∨ 10000 < li) :
    Calls Try.prog 8 #[.int .i64 li, .slice ao n c] w fun e w' => e = .returned (.bool true) ∧ Below w.heap.size w w' := by
  have HZ := Lib.hid hz; clear hz
  have hn60 : ¬ (60 : Int) < n := by omega
  obtain ⟨lim, hlim⟩ : ∃ lim : Nat, lim = 0 := ⟨0, rfl⟩
  have S0 := Lib.hid (St.noneM (lim := lim) (St.noneN (lim := lim) (St.noneM (lim := lim) (St.noneN (lim := lim) (St.nil w)))))
  clear hlim
  go_enter Try.func8, Try.ntmps8
  go_wp2_with (first
    | (go_at_call 37; refine (nnew_bad _ _ hli).mono ?_; rintro e w2 ⟨rfl, rfl⟩)
    | (go_at_call 15; refine (mnew_bad _ _ hli).mono ?_; rintro e w1 ⟨rfl, rfl⟩))
  go_loopw [57, 5, 7, 9, 10, 11] (fun i p q p2 q2 c wr => ∃ j : Nat, j ≤ n ∧ i = .int .i64 j ∧ ∃ ce : Int, 0 ≤ ce ∧ ce ≤ 300 ∧ c = .int .i64 ce ∧ ∃ ls ls' : List (List Int), ls.length ≤ j + 1 ∧ ls'.length ≤ j + 1 ∧ (ls' ≠ [] → ls ≠ []) ∧ ls.getD 0 [] = [] ∧ ls'.getD 0 [] = [] ∧ Hid (St w wr [OM p lim ls, ON q lim ls, OM p2 lim ls', ON q2 lim ls'])) (fun i _ _ _ _ _ _ => n - (intOf i).toNat)
  case atStart => exact ⟨0, Nat.zero_le _, rfl, 0, by omega, by omega, rfl, _, [], by simp, by simp, (fun h => (h rfl).elim), rfl, rfl, Lib.hid S0.out⟩
  case round =>
    obtain ⟨j, hj, rfl, ce, hc0, hc1, rfl, ls, ls', h1, h2, h3, h4, h5, hM⟩ := hrel
    generalize u5 = p at *
    generalize u7 = q at *
    generalize u9 = p3 at *
    generalize u10 = p4 at *
    by_cases hlt : j < n
    · obtain ⟨g, o, rfl, hg, e0, e1, e2, e3⟩ := HZ.out j hlt
      have e0 := (hM.out.base.cell (p := ⟨g, o + j * 4, none⟩) hg).trans e0
      have e1 := (hM.out.base.cell (p := ⟨g, o + j * 4 + 1, none⟩) hg).trans e1
      have e2 := (hM.out.base.cell (p := ⟨g, o + j * 4 + 2, none⟩) hg).trans e2
      have e3 := (hM.out.base.cell (p := ⟨g, o + j * 4 + 3, none⟩) hg).trans e3
      generalize z0 j = d at e0
      generalize z1 j = a at e1
      generalize z2 j = nn at e2
      generalize z3 j = tt at e3
      have SB := Lib.hid (show St w _ [Blk _ _, OM p lim ls, ON q lim ls, OM p3 lim ls', ON p4 lim ls'] from hM.out.alloc (Obj.cells #[.int .i64 d, .int .i64 a, .int .i64 nn, .int .i64 tt] 65))
      have HL1 := Lib.hid h1; clear h1
      have HL2 := Lib.hid h2; clear h2
      have HI := Lib.hid h3; clear h3
      have HD1 := Lib.hid h4; clear h4
      have HD2 := Lib.hid h5; clear h5
      clear hM
      by_cases d0 : d = 0
      · subst d0
        obtain ⟨m1, hm1⟩ : ∃ z : Int, (if (300 : Int) < nn then (300 : Int) else nn) = z := ⟨_, rfl⟩
        obtain ⟨mx, hm2⟩ : ∃ z : Int, (if m1 < (0 : Int) then (0 : Int) else m1) = z := ⟨_, rfl⟩
        have hmx : 0 ≤ mx ∧ mx ≤ 300 := by split at hm1 <;> split at hm2 <;> omega
        by_cases hA : 300 < nn
        · by_cases hB : nn ≤ li
          · go_wp2_with (go_at_call 20; refine (works29 _).mono ?_; rintro e w9 ⟨rfl, hb⟩; have BF := Lib.hid hb; clear hb)
            go_ret
            exact ⟨rfl, Upto.below ((Upto.of_below (St.base SB.out) _).trans (Upto.of_below BF.out _))⟩
          · by_cases hC : 300 < ce + mx
            · go_wp2_with (go_at_call 20; refine (works29 _).mono ?_; rintro e w9 ⟨rfl, hb⟩; have BF := Lib.hid hb; clear hb)
              go_ret
              exact ⟨rfl, Upto.below ((Upto.of_below (St.base SB.out) _).trans (Upto.of_below BF.out _))⟩
            · have hC' : ce + mx ≤ 300 := by omega
              rcases OM.shape [_, _, _] SB.out with ⟨rfl, rfl⟩ | ⟨bo, rfl, hne2⟩
              · as_aux_lemma =>
                  obtain ⟨LL, hLL⟩ : ∃ LL, allL lim ls nn = LL := ⟨_, rfl⟩
                  have HLL := Lib.hid hLL
                  have HH : Hid (LL.getD 0 [] = []) := Lib.hid (by rw [← hLL]; exact allL_head HD1.out)
                  have HH2 : Hid ([].getD 0 [] = []) := Lib.hid HD2.out
                  have HF : Hid (LL.length ≤ j + 2) := Lib.hid (by rw [← hLL]; have := allL_len (lim := lim) (ls := ls) (n := nn); have := HL1.out; omega)
                  have HF2 : Hid ([].length ≤ j + 2) := Lib.hid (by have := HL2.out; omega)
                  have HIMP : Hid ([] ≠ [] → LL ≠ []) := Lib.hid (fun h => by rw [← hLL]; exact allL_ne (HI.out h))
                  clear hLL
                  go_wp2_with (first
                    | (go_at_call 42; refine (showsM_at T0.out HH.out (by have := HF.out; omega)).mono ?_; rintro e wz ⟨rfl, hs⟩; have T1 := Lib.hid hs; clear hs)
                    | (go_at_call 38; refine (ON.alloc [_, _] nn A1.out (by have := HL1.out; omega)).mono ?_; rw [HLL.out]; rintro e w4 ⟨rfl, hs⟩; have T0 := Lib.hid (show St w w4 [OM p lim LL, ON q lim LL, OM (.pointer none) lim [], ON p4 lim []] from hs.tail); clear hs)
                    | (go_at_call 16; refine (OM.alloc [_] nn SB.out (by have := HL1.out; omega)).mono ?_; rw [HLL.out]; rintro e w3 ⟨rfl, hs⟩; have A1 := Lib.hid (show St w w3 [_, _, _, _, _] from hs); have b2 := hs.cell [] 2 (.int .i64 nn) rfl; clear hs))
                  go_roundw
                  case rel => exact ⟨j + 1, by omega, by go_num, ce + mx, by omega, by omega, by go_num, LL, [], (by have := HF.out; omega), (by have := HF2.out; omega), HIMP.out, HH.out, HH2.out, T1⟩
                  case measure => simp [intOf]; omega
              · as_aux_lemma =>
                  have HNE2 := Lib.hid hne2; clear hne2
                  obtain ⟨LL, hLL⟩ : ∃ LL, allL lim ls nn = LL := ⟨_, rfl⟩
                  have HLL := Lib.hid hLL
                  have HH : Hid (LL.getD 0 [] = []) := Lib.hid (by rw [← hLL]; exact allL_head HD1.out)
                  have HH2 : Hid (ls'.getD 0 [] = []) := Lib.hid HD2.out
                  have HF : Hid (LL.length ≤ j + 2) := Lib.hid (by rw [← hLL]; have := allL_len (lim := lim) (ls := ls) (n := nn); have := HL1.out; omega)
                  have HF2 : Hid (ls'.length ≤ j + 2) := Lib.hid (by have := HL2.out; omega)
                  have HIMP : Hid (ls' ≠ [] → LL ≠ []) := Lib.hid (fun h => by rw [← hLL]; exact allL_ne (HI.out h))
                  have HNE : Hid (LL ≠ []) := Lib.hid (by rw [← hLL]; exact allL_ne (HI.out HNE2.out))
                  obtain ⟨r, hr⟩ : ∃ r, decide (LL = ls') = r := ⟨_, rfl⟩
                  have Hr := Lib.hid hr; clear hr
                  clear hLL
                  go_wp2_with (first
                    | (go_at_call 43; refine (ON.same r T3.out HNE.out HNE2.out (by have := HF.out; omega) Hr.out).mono ?_; rintro e wz ⟨rfl, hs⟩; have T4 := Lib.hid hs; clear hs)
                    | (go_at_call 25; refine (OM.same r T2.out (OM.reads [] T2.out HNE.out) (OM.reads [_, _] T2.out HNE2.out) Hr.out).mono ?_; rintro e wz ⟨rfl, hs⟩; have T3 := Lib.hid hs; clear hs)
                    | (go_at_call 42; refine (showsM_at (St.two T1.out) HH2.out (by have := HF2.out; omega)).mono ?_; rintro e wz ⟨rfl, hs⟩; have T2 := Lib.hid (St.two hs); clear hs)
                    | (go_at_call 42; refine (showsM_at T0.out HH.out (by have := HF.out; omega)).mono ?_; rintro e wz ⟨rfl, hs⟩; have T1 := Lib.hid hs; clear hs)
                    | (go_at_call 38; refine (ON.alloc [_, _] nn A1.out (by have := HL1.out; omega)).mono ?_; rw [HLL.out]; rintro e w4 ⟨rfl, hs⟩; have T0 := Lib.hid (show St w w4 [OM p lim LL, ON q lim LL, OM (ptr bo) lim ls', ON p4 lim ls'] from hs.tail); clear hs)
                    | (go_at_call 16; refine (OM.alloc [_] nn SB.out (by have := HL1.out; omega)).mono ?_; rw [HLL.out]; rintro e w3 ⟨rfl, hs⟩; have A1 := Lib.hid (show St w w3 [_, _, _, _, _] from hs); have b2 := hs.cell [] 2 (.int .i64 nn) rfl; clear hs))
                  go_roundw
                  case rel => exact ⟨j + 1, by omega, by go_num, ce + mx, by omega, by omega, by go_num, LL, ls', (by have := HF.out; omega), (by have := HF2.out; omega), HIMP.out, HH.out, HH2.out, T4⟩
                  case measure => simp [intOf]; omega
        · by_cases hC : 300 < ce + mx
          · go_wp2_with (go_at_call 20; refine (works29 _).mono ?_; rintro e w9 ⟨rfl, hb⟩; have BF := Lib.hid hb; clear hb)
            go_ret
            exact ⟨rfl, Upto.below ((Upto.of_below (St.base SB.out) _).trans (Upto.of_below BF.out _))⟩
          · have hC' : ce + mx ≤ 300 := by omega
            rcases OM.shape [_, _, _] SB.out with ⟨rfl, rfl⟩ | ⟨bo, rfl, hne2⟩
            · as_aux_lemma =>
                obtain ⟨LL, hLL⟩ : ∃ LL, allL lim ls nn = LL := ⟨_, rfl⟩
                have HLL := Lib.hid hLL
                have HH : Hid (LL.getD 0 [] = []) := Lib.hid (by rw [← hLL]; exact allL_head HD1.out)
                have HH2 : Hid ([].getD 0 [] = []) := Lib.hid HD2.out
                have HF : Hid (LL.length ≤ j + 2) := Lib.hid (by rw [← hLL]; have := allL_len (lim := lim) (ls := ls) (n := nn); have := HL1.out; omega)
                have HF2 : Hid ([].length ≤ j + 2) := Lib.hid (by have := HL2.out; omega)
                have HIMP : Hid ([] ≠ [] → LL ≠ []) := Lib.hid (fun h => by rw [← hLL]; exact allL_ne (HI.out h))
                clear hLL
                go_wp2_with (first
                  | (go_at_call 42; refine (showsM_at T0.out HH.out (by have := HF.out; omega)).mono ?_; rintro e wz ⟨rfl, hs⟩; have T1 := Lib.hid hs; clear hs)
                  | (go_at_call 38; refine (ON.alloc [_, _] nn A1.out (by have := HL1.out; omega)).mono ?_; rw [HLL.out]; rintro e w4 ⟨rfl, hs⟩; have T0 := Lib.hid (show St w w4 [OM p lim LL, ON q lim LL, OM (.pointer none) lim [], ON p4 lim []] from hs.tail); clear hs)
                  | (go_at_call 16; refine (OM.alloc [_] nn SB.out (by have := HL1.out; omega)).mono ?_; rw [HLL.out]; rintro e w3 ⟨rfl, hs⟩; have A1 := Lib.hid (show St w w3 [_, _, _, _, _] from hs); have b2 := hs.cell [] 2 (.int .i64 nn) rfl; clear hs))
                go_roundw
                case rel => exact ⟨j + 1, by omega, by go_num, ce + mx, by omega, by omega, by go_num, LL, [], (by have := HF.out; omega), (by have := HF2.out; omega), HIMP.out, HH.out, HH2.out, T1⟩
                case measure => simp [intOf]; omega
            · as_aux_lemma =>
                have HNE2 := Lib.hid hne2; clear hne2
                obtain ⟨LL, hLL⟩ : ∃ LL, allL lim ls nn = LL := ⟨_, rfl⟩
                have HLL := Lib.hid hLL
                have HH : Hid (LL.getD 0 [] = []) := Lib.hid (by rw [← hLL]; exact allL_head HD1.out)
                have HH2 : Hid (ls'.getD 0 [] = []) := Lib.hid HD2.out
                have HF : Hid (LL.length ≤ j + 2) := Lib.hid (by rw [← hLL]; have := allL_len (lim := lim) (ls := ls) (n := nn); have := HL1.out; omega)
                have HF2 : Hid (ls'.length ≤ j + 2) := Lib.hid (by have := HL2.out; omega)
                have HIMP : Hid (ls' ≠ [] → LL ≠ []) := Lib.hid (fun h => by rw [← hLL]; exact allL_ne (HI.out h))
                have HNE : Hid (LL ≠ []) := Lib.hid (by rw [← hLL]; exact allL_ne (HI.out HNE2.out))
                obtain ⟨r, hr⟩ : ∃ r, decide (LL = ls') = r := ⟨_, rfl⟩
                have Hr := Lib.hid hr; clear hr
                clear hLL
                go_wp2_with (first
                  | (go_at_call 43; refine (ON.same r T3.out HNE.out HNE2.out (by have := HF.out; omega) Hr.out).mono ?_; rintro e wz ⟨rfl, hs⟩; have T4 := Lib.hid hs; clear hs)
                  | (go_at_call 25; refine (OM.same r T2.out (OM.reads [] T2.out HNE.out) (OM.reads [_, _] T2.out HNE2.out) Hr.out).mono ?_; rintro e wz ⟨rfl, hs⟩; have T3 := Lib.hid hs; clear hs)
                  | (go_at_call 42; refine (showsM_at (St.two T1.out) HH2.out (by have := HF2.out; omega)).mono ?_; rintro e wz ⟨rfl, hs⟩; have T2 := Lib.hid (St.two hs); clear hs)
                  | (go_at_call 42; refine (showsM_at T0.out HH.out (by have := HF.out; omega)).mono ?_; rintro e wz ⟨rfl, hs⟩; have T1 := Lib.hid hs; clear hs)
                  | (go_at_call 38; refine (ON.alloc [_, _] nn A1.out (by have := HL1.out; omega)).mono ?_; rw [HLL.out]; rintro e w4 ⟨rfl, hs⟩; have T0 := Lib.hid (show St w w4 [OM p lim LL, ON q lim LL, OM (ptr bo) lim ls', ON p4 lim ls'] from hs.tail); clear hs)
                  | (go_at_call 16; refine (OM.alloc [_] nn SB.out (by have := HL1.out; omega)).mono ?_; rw [HLL.out]; rintro e w3 ⟨rfl, hs⟩; have A1 := Lib.hid (show St w w3 [_, _, _, _, _] from hs); have b2 := hs.cell [] 2 (.int .i64 nn) rfl; clear hs))
                go_roundw
                case rel => exact ⟨j + 1, by omega, by go_num, ce + mx, by omega, by omega, by go_num, LL, ls', (by have := HF.out; omega), (by have := HF2.out; omega), HIMP.out, HH.out, HH2.out, T4⟩
                case measure => simp [intOf]; omega
      · by_cases d1 : d = 1
        · subst d1
          rcases OM.shape [_, _, _] SB.out with ⟨rfl, rfl⟩ | ⟨bo, rfl, hne2⟩
          · as_aux_lemma =>
              have HH : Hid (ls.getD 0 [] = []) := Lib.hid HD1.out
              have HH2 : Hid ([].getD 0 [] = []) := Lib.hid HD2.out
              have HF : Hid (ls.length ≤ j + 2) := Lib.hid (by have := HL1.out; omega)
              have HF2 : Hid ([].length ≤ j + 2) := Lib.hid (by have := HL2.out; omega)
              have HIMP : Hid ([] ≠ [] → ls ≠ []) := Lib.hid HI.out
              go_wp2_with (first
                | (go_at_call 42; refine (showsM_at T0.out HH.out (by have := HF.out; omega)).mono ?_; rintro e wz ⟨rfl, hs⟩; have T1 := Lib.hid hs; clear hs)
                | (go_at_call 39; refine (ON.load [_, _] a nn A1.out).mono ?_; rintro e w4 ⟨rfl, hs⟩; have T0 := Lib.hid (show St w w4 [OM p lim ls, ON q lim ls, OM (.pointer none) lim [], ON p4 lim []] from hs.tail); clear hs)
                | (go_at_call 22; refine (OM.load [_] a nn SB.out).mono ?_; rintro e w3 ⟨rfl, hs⟩; have A1 := Lib.hid (show St w w3 [_, _, _, _, _] from hs); have b1 := hs.cell [] 1 (.int .i64 a) rfl; have b2 := hs.cell [] 2 (.int .i64 nn) rfl; clear hs))
              go_roundw
              case rel => exact ⟨j + 1, by omega, by go_num, ce, by omega, by omega, by go_num, ls, [], (by have := HF.out; omega), (by have := HF2.out; omega), HIMP.out, HH.out, HH2.out, T1⟩
              case measure => simp [intOf]; omega
          · as_aux_lemma =>
              have HNE2 := Lib.hid hne2; clear hne2
              have HH : Hid (ls.getD 0 [] = []) := Lib.hid HD1.out
              have HH2 : Hid (ls'.getD 0 [] = []) := Lib.hid HD2.out
              have HF : Hid (ls.length ≤ j + 2) := Lib.hid (by have := HL1.out; omega)
              have HF2 : Hid (ls'.length ≤ j + 2) := Lib.hid (by have := HL2.out; omega)
              have HIMP : Hid (ls' ≠ [] → ls ≠ []) := Lib.hid HI.out
              have HNE : Hid (ls ≠ []) := Lib.hid (HI.out HNE2.out)
              obtain ⟨r, hr⟩ : ∃ r, decide (ls = ls') = r := ⟨_, rfl⟩
              have Hr := Lib.hid hr; clear hr
              go_wp2_with (first
                | (go_at_call 43; refine (ON.same r T3.out HNE.out HNE2.out (by have := HF.out; omega) Hr.out).mono ?_; rintro e wz ⟨rfl, hs⟩; have T4 := Lib.hid hs; clear hs)
                | (go_at_call 25; refine (OM.same r T2.out (OM.reads [] T2.out HNE.out) (OM.reads [_, _] T2.out HNE2.out) Hr.out).mono ?_; rintro e wz ⟨rfl, hs⟩; have T3 := Lib.hid hs; clear hs)
                | (go_at_call 42; refine (showsM_at (St.two T1.out) HH2.out (by have := HF2.out; omega)).mono ?_; rintro e wz ⟨rfl, hs⟩; have T2 := Lib.hid (St.two hs); clear hs)
                | (go_at_call 42; refine (showsM_at T0.out HH.out (by have := HF.out; omega)).mono ?_; rintro e wz ⟨rfl, hs⟩; have T1 := Lib.hid hs; clear hs)
                | (go_at_call 39; refine (ON.load [_, _] a nn A1.out).mono ?_; rintro e w4 ⟨rfl, hs⟩; have T0 := Lib.hid (show St w w4 [OM p lim ls, ON q lim ls, OM (ptr bo) lim ls', ON p4 lim ls'] from hs.tail); clear hs)
                | (go_at_call 22; refine (OM.load [_] a nn SB.out).mono ?_; rintro e w3 ⟨rfl, hs⟩; have A1 := Lib.hid (show St w w3 [_, _, _, _, _] from hs); have b1 := hs.cell [] 1 (.int .i64 a) rfl; have b2 := hs.cell [] 2 (.int .i64 nn) rfl; clear hs))
              go_roundw
              case rel => exact ⟨j + 1, by omega, by go_num, ce, by omega, by omega, by go_num, ls, ls', (by have := HF.out; omega), (by have := HF2.out; omega), HIMP.out, HH.out, HH2.out, T4⟩
              case measure => simp [intOf]; omega
        · by_cases d2 : d = 2
          · subst d2
            rcases OM.shape [_, _, _] SB.out with ⟨rfl, rfl⟩ | ⟨bo, rfl, hne2⟩
            · as_aux_lemma =>
                obtain ⟨LL, hLL⟩ : ∃ LL, setL ls a nn tt = LL := ⟨_, rfl⟩
                have HLL := Lib.hid hLL
                have HH : Hid (LL.getD 0 [] = []) := Lib.hid (by rw [← hLL]; exact setL_head HD1.out)
                have HH2 : Hid ([].getD 0 [] = []) := Lib.hid HD2.out
                have HF : Hid (LL.length ≤ j + 2) := Lib.hid (by rw [← hLL, len_set]; have := HL1.out; omega)
                have HF2 : Hid ([].length ≤ j + 2) := Lib.hid (by have := HL2.out; omega)
                have HIMP : Hid ([] ≠ [] → LL ≠ []) := Lib.hid (fun h => by rw [← hLL]; exact setL_ne (HI.out h))
                clear hLL
                go_wp2_with (first
                  | (go_at_call 42; refine (showsM_at T0.out HH.out (by have := HF.out; omega)).mono ?_; rintro e wz ⟨rfl, hs⟩; have T1 := Lib.hid hs; clear hs)
                  | (go_at_call 40; refine (ON.store [_, _] a nn tt A1.out).mono ?_; rw [HLL.out]; rintro e w4 ⟨rfl, hs⟩; have T0 := Lib.hid (show St w w4 [OM p lim LL, ON q lim LL, OM (.pointer none) lim [], ON p4 lim []] from hs.tail); clear hs)
                  | (go_at_call 23; refine (OM.store [_] a nn tt SB.out).mono ?_; rw [HLL.out]; rintro e w3 ⟨rfl, hs⟩; have A1 := Lib.hid (show St w w3 [_, _, _, _, _] from hs); have b1 := hs.cell [] 1 (.int .i64 a) rfl; have b2 := hs.cell [] 2 (.int .i64 nn) rfl; have b3 := hs.cell [] 3 (.int .i64 tt) rfl; clear hs))
                go_roundw
                case rel => exact ⟨j + 1, by omega, by go_num, ce, by omega, by omega, by go_num, LL, [], (by have := HF.out; omega), (by have := HF2.out; omega), HIMP.out, HH.out, HH2.out, T1⟩
                case measure => simp [intOf]; omega
            · as_aux_lemma =>
                have HNE2 := Lib.hid hne2; clear hne2
                obtain ⟨LL, hLL⟩ : ∃ LL, setL ls a nn tt = LL := ⟨_, rfl⟩
                have HLL := Lib.hid hLL
                have HH : Hid (LL.getD 0 [] = []) := Lib.hid (by rw [← hLL]; exact setL_head HD1.out)
                have HH2 : Hid (ls'.getD 0 [] = []) := Lib.hid HD2.out
                have HF : Hid (LL.length ≤ j + 2) := Lib.hid (by rw [← hLL, len_set]; have := HL1.out; omega)
                have HF2 : Hid (ls'.length ≤ j + 2) := Lib.hid (by have := HL2.out; omega)
                have HIMP : Hid (ls' ≠ [] → LL ≠ []) := Lib.hid (fun h => by rw [← hLL]; exact setL_ne (HI.out h))
                have HNE : Hid (LL ≠ []) := Lib.hid (by rw [← hLL]; exact setL_ne (HI.out HNE2.out))
                obtain ⟨r, hr⟩ : ∃ r, decide (LL = ls') = r := ⟨_, rfl⟩
                have Hr := Lib.hid hr; clear hr
                clear hLL
                go_wp2_with (first
                  | (go_at_call 43; refine (ON.same r T3.out HNE.out HNE2.out (by have := HF.out; omega) Hr.out).mono ?_; rintro e wz ⟨rfl, hs⟩; have T4 := Lib.hid hs; clear hs)
                  | (go_at_call 25; refine (OM.same r T2.out (OM.reads [] T2.out HNE.out) (OM.reads [_, _] T2.out HNE2.out) Hr.out).mono ?_; rintro e wz ⟨rfl, hs⟩; have T3 := Lib.hid hs; clear hs)
                  | (go_at_call 42; refine (showsM_at (St.two T1.out) HH2.out (by have := HF2.out; omega)).mono ?_; rintro e wz ⟨rfl, hs⟩; have T2 := Lib.hid (St.two hs); clear hs)
                  | (go_at_call 42; refine (showsM_at T0.out HH.out (by have := HF.out; omega)).mono ?_; rintro e wz ⟨rfl, hs⟩; have T1 := Lib.hid hs; clear hs)
                  | (go_at_call 40; refine (ON.store [_, _] a nn tt A1.out).mono ?_; rw [HLL.out]; rintro e w4 ⟨rfl, hs⟩; have T0 := Lib.hid (show St w w4 [OM p lim LL, ON q lim LL, OM (ptr bo) lim ls', ON p4 lim ls'] from hs.tail); clear hs)
                  | (go_at_call 23; refine (OM.store [_] a nn tt SB.out).mono ?_; rw [HLL.out]; rintro e w3 ⟨rfl, hs⟩; have A1 := Lib.hid (show St w w3 [_, _, _, _, _] from hs); have b1 := hs.cell [] 1 (.int .i64 a) rfl; have b2 := hs.cell [] 2 (.int .i64 nn) rfl; have b3 := hs.cell [] 3 (.int .i64 tt) rfl; clear hs))
                go_roundw
                case rel => exact ⟨j + 1, by omega, by go_num, ce, by omega, by omega, by go_num, LL, ls', (by have := HF.out; omega), (by have := HF2.out; omega), HIMP.out, HH.out, HH2.out, T4⟩
                case measure => simp [intOf]; omega
          · by_cases d3 : d = 3
            · subst d3
              rcases OM.shape [_] SB.out with ⟨_, rfl⟩ | ⟨bo, rfl, hne2⟩
              · as_aux_lemma =>
                  have HH : Hid (ls.getD 0 [] = []) := Lib.hid HD1.out
                  have HH2 : Hid (ls.getD 0 [] = []) := Lib.hid HD1.out
                  have HF : Hid (ls.length ≤ j + 2) := Lib.hid (by have := HL1.out; omega)
                  have HF2 : Hid (ls.length ≤ j + 2) := Lib.hid (by have := HL1.out; omega)
                  have HIMP : Hid (ls ≠ [] → ls ≠ []) := Lib.hid id
                  go_wp2_with (first
                    | (go_at_call 42; refine (showsM_at T0.out HH.out (by have := HF.out; omega)).mono ?_; rintro e wz ⟨rfl, hs⟩; have T1 := Lib.hid hs; clear hs)
                    | (go_at_call 41; refine (ON.copy [_, _, _] A1.out (by have := HL1.out; omega)).mono ?_; rintro e w4 ⟨d4, rfl, hs⟩; have T0 := Lib.hid (show St w w4 [OM d3 lim ls, ON d4 lim ls, OM _ lim ls, ON _ lim ls] from (((((show St w w4 [ON d4 lim ls, OM d3 lim ls, _, OM _ lim ls, ON _ lim ls, _, _] from hs).drop [_, _]).drop [_, _, _, _]).drop [_, _, _, _]).perm (List.Perm.swap _ _ _))); clear hs)
                    | (go_at_call 21; refine (OM.copy [_] SB.out (by have := HL1.out; omega)).mono ?_; rintro e w3 ⟨d3, rfl, hs⟩; have A1 := Lib.hid (show St w w3 [_, _, _, _, _, _] from hs); clear hs))
                  go_roundw
                  case rel => exact ⟨j + 1, by omega, by go_num, ce, by omega, by omega, by go_num, ls, ls, (by have := HF.out; omega), (by have := HF2.out; omega), HIMP.out, HH.out, HH2.out, T1⟩
                  case measure => simp [intOf]; omega
              · as_aux_lemma =>
                  have HNE2 := Lib.hid hne2; clear hne2
                  have HH : Hid (ls.getD 0 [] = []) := Lib.hid HD1.out
                  have HH2 : Hid (ls.getD 0 [] = []) := Lib.hid HD1.out
                  have HF : Hid (ls.length ≤ j + 2) := Lib.hid (by have := HL1.out; omega)
                  have HF2 : Hid (ls.length ≤ j + 2) := Lib.hid (by have := HL1.out; omega)
                  have HIMP : Hid (ls ≠ [] → ls ≠ []) := Lib.hid id
                  have HNE : Hid (ls ≠ []) := Lib.hid HNE2.out
                  go_wp2_with (first
                    | (go_at_call 43; refine (ON.same true T3.out HNE.out HNE2.out (by have := HF.out; omega) (by simp)).mono ?_; rintro e wz ⟨rfl, hs⟩; have T4 := Lib.hid hs; clear hs)
                    | (go_at_call 25; refine (OM.same true T2.out (OM.reads [] T2.out HNE.out) (OM.reads [_, _] T2.out HNE2.out) (by simp)).mono ?_; rintro e wz ⟨rfl, hs⟩; have T3 := Lib.hid hs; clear hs)
                    | (go_at_call 42; refine (showsM_at (St.two T1.out) HH2.out (by have := HF2.out; omega)).mono ?_; rintro e wz ⟨rfl, hs⟩; have T2 := Lib.hid (St.two hs); clear hs)
                    | (go_at_call 42; refine (showsM_at T0.out HH.out (by have := HF.out; omega)).mono ?_; rintro e wz ⟨rfl, hs⟩; have T1 := Lib.hid hs; clear hs)
                    | (go_at_call 41; refine (ON.copy [_, _, _] A1.out (by have := HL1.out; omega)).mono ?_; rintro e w4 ⟨d4, rfl, hs⟩; have T0 := Lib.hid (show St w w4 [OM d3 lim ls, ON d4 lim ls, OM _ lim ls, ON _ lim ls] from (((((show St w w4 [ON d4 lim ls, OM d3 lim ls, _, OM _ lim ls, ON _ lim ls, _, _] from hs).drop [_, _]).drop [_, _, _, _]).drop [_, _, _, _]).perm (List.Perm.swap _ _ _))); clear hs)
                    | (go_at_call 21; refine (OM.copy [_] SB.out (by have := HL1.out; omega)).mono ?_; rintro e w3 ⟨d3, rfl, hs⟩; have A1 := Lib.hid (show St w w3 [_, _, _, _, _, _] from hs); clear hs))
                  go_roundw
                  case rel => exact ⟨j + 1, by omega, by go_num, ce, by omega, by omega, by go_num, ls, ls, (by have := HF.out; omega), (by have := HF2.out; omega), HIMP.out, HH.out, HH2.out, T4⟩
                  case measure => simp [intOf]; omega
            · rcases OM.shape [_, _, _] SB.out with ⟨rfl, rfl⟩ | ⟨bo, rfl, hne2⟩
              · as_aux_lemma =>
                  have HH : Hid (ls.getD 0 [] = []) := Lib.hid HD1.out
                  have HH2 : Hid ([].getD 0 [] = []) := Lib.hid HD2.out
                  have HF : Hid (ls.length ≤ j + 2) := Lib.hid (by have := HL1.out; omega)
                  have HF2 : Hid ([].length ≤ j + 2) := Lib.hid (by have := HL2.out; omega)
                  have HIMP : Hid ([] ≠ [] → ls ≠ []) := Lib.hid HI.out
                  have T0 := Lib.hid (show St w _ [OM p lim ls, ON q lim ls, OM (.pointer none) lim [], ON p4 lim []] from SB.out.tail)
                  go_wp2_with (first
                    | (go_at_call 42; refine (showsM_at T0.out HH.out (by have := HF.out; omega)).mono ?_; rintro e wz ⟨rfl, hs⟩; have T1 := Lib.hid hs; clear hs))
                  go_roundw
                  case rel => exact ⟨j + 1, by omega, by go_num, ce, by omega, by omega, by go_num, ls, [], (by have := HF.out; omega), (by have := HF2.out; omega), HIMP.out, HH.out, HH2.out, T1⟩
                  case measure => simp [intOf]; omega
              · as_aux_lemma =>
                  have HNE2 := Lib.hid hne2; clear hne2
                  have HH : Hid (ls.getD 0 [] = []) := Lib.hid HD1.out
                  have HH2 : Hid (ls'.getD 0 [] = []) := Lib.hid HD2.out
                  have HF : Hid (ls.length ≤ j + 2) := Lib.hid (by have := HL1.out; omega)
                  have HF2 : Hid (ls'.length ≤ j + 2) := Lib.hid (by have := HL2.out; omega)
                  have HIMP : Hid (ls' ≠ [] → ls ≠ []) := Lib.hid HI.out
                  have HNE : Hid (ls ≠ []) := Lib.hid (HI.out HNE2.out)
                  obtain ⟨r, hr⟩ : ∃ r, decide (ls = ls') = r := ⟨_, rfl⟩
                  have Hr := Lib.hid hr; clear hr
                  have T0 := Lib.hid (show St w _ [OM p lim ls, ON q lim ls, OM (ptr bo) lim ls', ON p4 lim ls'] from SB.out.tail)
                  go_wp2_with (first
                    | (go_at_call 43; refine (ON.same r T3.out HNE.out HNE2.out (by have := HF.out; omega) Hr.out).mono ?_; rintro e wz ⟨rfl, hs⟩; have T4 := Lib.hid hs; clear hs)
                    | (go_at_call 25; refine (OM.same r T2.out (OM.reads [] T2.out HNE.out) (OM.reads [_, _] T2.out HNE2.out) Hr.out).mono ?_; rintro e wz ⟨rfl, hs⟩; have T3 := Lib.hid hs; clear hs)
                    | (go_at_call 42; refine (showsM_at (St.two T1.out) HH2.out (by have := HF2.out; omega)).mono ?_; rintro e wz ⟨rfl, hs⟩; have T2 := Lib.hid (St.two hs); clear hs)
                    | (go_at_call 42; refine (showsM_at T0.out HH.out (by have := HF.out; omega)).mono ?_; rintro e wz ⟨rfl, hs⟩; have T1 := Lib.hid hs; clear hs))
                  go_roundw
                  case rel => exact ⟨j + 1, by omega, by go_num, ce, by omega, by omega, by go_num, ls, ls', (by have := HF.out; omega), (by have := HF2.out; omega), HIMP.out, HH.out, HH2.out, T4⟩
                  case measure => simp [intOf]; omega
    · obtain rfl : n = j := by omega
      go_wp2_with (go_at_call 20; refine (works29 _).mono ?_; rintro e w9 ⟨rfl, hb⟩; have BF := Lib.hid hb; clear hb)
      go_ret
      exact ⟨rfl, Upto.below ((Upto.of_below (St.base hM.out) _).trans (Upto.of_below BF.out _))⟩

end Go.Proofs.Ytjganbcolaakkaa
