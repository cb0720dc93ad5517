/-
  The law of a memory beside a heap, walked.
-/
import Derived.Test.YtjganbcolaakkaaRes
import Derived.Test.YtjganbcolaakkaaSeen
namespace Go.Proofs.Ytjganbcolaakkaa
open Go.RowKit

/-- The two in step. -/
def Like (w0 w : World) (a b lim n : Nat) : Prop := ∃ ls, ls.length = n ∧ St w0 w [ML a lim ls, HT b lim ls]
theorem Like.base {w0 w : World} {a b lim n : Nat} (h : Like w0 w a b lim n) : Below w0.heap.size w0 w := by obtain ⟨_, _, h⟩ := h; exact h.base
theorem piece_sees {w : World} {g c T : Nat} {ls : List (List Int)} {j : Nat} (h : Row w (.slice (some ⟨g, 0, none⟩) T c) ls.flatten) (hT : ls.flatten.length = T) (hj : j < ls.length) (hc : T ≤ c) (hm : c ≤ maxLen) (hq : 0 < (ls.getD j []).length) :
    Sees w (.slice (some ⟨g, tot (ls.take j), none⟩) (ls.getD j []).length (c - tot (ls.take j))) (ls.getD j []) := by
  have hle : tot (ls.take j) + (ls.getD j []).length ≤ T := by
    rw [← hT, flat_length]
    exact take_tot_le ls j hj
  subst hT
  refine ⟨_, _, rfl, by omega, by omega, (fun h => by cases h), fun ad e => ?_⟩
  obtain rfl := Option.some.inj e
  refine ⟨fun _ => ⟨rfl, h.lt g rfl⟩, fun r hr => ?_⟩
  show w.cell? ⟨g, tot (ls.take j) + r, none⟩ = _
  rw [World.ownsRow.cellAt h _ (by omega), getElem?_map_int (by omega)]
  have := flat_get ls j r hj hr
  simp only [List.getD]
  rw [this]
theorem cells_cap {w : World} {ao : Option Addr} {n c : Nat} {xs : List Int} (h : Row w (.slice ao n c) xs) : xs.length = n ∧ n ≤ c ∧ c ≤ maxLen := by
  obtain ⟨_, _, e, h1, h2⟩ := h.slice
  simp only [Value.slice.injEq] at e
  obtain ⟨_, rfl, rfl⟩ := e
  exact ⟨rfl, h1, h2⟩

set_option maxRecDepth 10000 in
set_option maxHeartbeats 4000000 in
theorem mlike_some (limit lim g o L c m : Nat) (ks hs is : Nat → Nat) (ns : Nat → Int) (w : World) (hl0 : limit ≤ 255) (hlim : (limit : Int) % 60 = lim) (hm : m ≤ 60) (hmL : m ≤ L) (hLc : L ≤ c) (hg : g < w.heap.size)
    (hmin : (if (60 : Int) < (L : Int) then (60 : Int) else (L : Int)) = (m : Int)) (hC : Chg w g o m ks hs is ns) :
    Calls Try.prog 14 #[.int .u8 limit, .slice (some ⟨g, o, none⟩) L c] w fun e w' => e = .returned (.bool true) ∧ Below w.heap.size w w' := by
  have HC := Lib.hid hC; clear hC
  have hmc : (m : Int) ≤ (c : Int) := by omega
  have hm0 : (0 : Int) ≤ (m : Int) := by omega
  go_enter Try.func14, Try.ntmps14
  go_wp2_with (first
    | (go_at_call 26; refine (SH.new lim _ S1.out rfl (by omega)).mono ?_; rintro e w2 ⟨b, rfl, hs⟩; have S2' := hs.perm (List.Perm.swap _ _ _); have S2 : Hid (Like w w2 a b lim 1) := Lib.hid ⟨[[]], rfl, S2'⟩; clear hs S2')
    | (go_at_call 15; refine (SL.new lim _ (St.nil w) rfl (by omega)).mono ?_; rintro e w1 ⟨a, rfl, hs⟩; have S1 := Lib.hid hs; clear hs))
  go_loopw [64] (fun i wr => ∃ j n : Nat, j ≤ m ∧ 0 < n ∧ n ≤ j + 1 ∧ i = .int .i64 j ∧ Hid (Like w wr a b lim n)) (fun i _ => m - (intOf i).toNat)
  case atStart => exact ⟨0, 1, Nat.zero_le _, Nat.one_pos, Nat.le_refl _, rfl, S2⟩
  case round =>
    obtain ⟨j, n, hj, hn0, hnj, rfl, hM⟩ := hrel
    obtain ⟨ls, hls, hS⟩ := hM.out
    clear hM
    have Hls := Lib.hid hls; clear hls
    by_cases hlt : j < m
    · have e0 := (hS.base.cell (p := ⟨g, o + j * 4, none⟩) hg).trans (HC.out.c0 j hlt)
      have e1 := (hS.base.cell (p := ⟨g, o + j * 4 + 1, none⟩) hg).trans (HC.out.c1 j hlt)
      have e2 := (hS.base.cell (p := ⟨g, o + j * 4 + 2, none⟩) hg).trans (HC.out.c2 j hlt)
      have e3 := (hS.base.cell (p := ⟨g, o + j * 4 + 3, none⟩) hg).trans (HC.out.c3 j hlt)
      have hb := HC.out.b j hlt
      obtain ⟨hb1, hb2, hb3⟩ := hb
      generalize ks j = kd at *
      generalize hs j = hd at *
      generalize is j = id' at *
      generalize ns j = y at *
      have SB := Lib.hid (hS.alloc (Obj.cells #[.int .u8 kd, .int .u8 hd, .int .u8 id', .int .i64 y] 56))
      clear hS
      have hn61 : n ≤ 61 := by omega
      have h4 : (kd : Int) % 4 = 0 ∨ (kd : Int) % 4 = 1 ∨ (kd : Int) % 4 = 2 ∨ (kd : Int) % 4 = 3 := by omega
      have hcount : (ls.length : Int) - 1 = (n : Int) - 1 := by rw [Hls.out]
      have Hcount := Lib.hid hcount; clear hcount
      rcases h4 with h4 | h4 | h4 | h4
      · have h2 : (kd : Int) % 2 = 0 := by omega
        go_wp2
        go_quiet (fail)
        have SQ := Lib.hid (SB.out.step ((Upto.refl _ _).drewN nq))
        generalize hW : ((wr.alloc (Obj.cells #[.int .u8 kd, .int .u8 hd, .int .u8 id', .int .i64 y] 56)).drewN nq) = wq at *
        have b0 := SQ.out.cell [] 0 (.int .u8 kd) rfl
        have b1 := SQ.out.cell [] 1 (.int .u8 hd) rfl
        have b2 := SQ.out.cell [] 2 (.int .u8 id') rfl
        have b3 := SQ.out.cell [] 3 (.int .i64 y) rfl
        have HWW := Lib.hid hW; clear hW SB
        go_wp2_with (first
          | (go_at_call 27; refine (SH.allocR [_, _] _ M5.out (by rw [Hls.out]; omega)).mono ?_; rintro e w6 ⟨rfl, hs⟩; have M6 := Lib.hid (show St w w6 [_, _] from hs.tail); clear hs)
          | (go_at_call 16; refine (SL.allocR [_] _ SQ.out (by rw [Hls.out]; omega)).mono ?_; rintro e w5 ⟨rfl, hs⟩; have M5 := Lib.hid (show St w w5 [_, _, _] from hs); clear hs))
        go_roundw
        case rel => exact ⟨j + 1, _, by omega, Nat.lt_of_lt_of_le (by rw [Hls.out]; exact hn0) len_alloc.1, Nat.le_trans len_alloc.2 (by rw [Hls.out]; omega), by go_num, Lib.hid ⟨_, rfl, M6.out⟩⟩
        case measure => simp [intOf]; omega
      · have h2 : (kd : Int) % 2 = 1 := by omega
        go_wp2
        go_quiet (fail)
        have SQ := Lib.hid (SB.out.step ((Upto.refl _ _).drewN nq))
        generalize hW : ((wr.alloc (Obj.cells #[.int .u8 kd, .int .u8 hd, .int .u8 id', .int .i64 y] 56)).drewN nq) = wq at *
        have b0 := SQ.out.cell [] 0 (.int .u8 kd) rfl
        have b1 := SQ.out.cell [] 1 (.int .u8 hd) rfl
        have b2 := SQ.out.cell [] 2 (.int .u8 id') rfl
        have b3 := SQ.out.cell [] 3 (.int .i64 y) rfl
        have HWW := Lib.hid hW; clear hW SB
        go_wp2_with (first
          | (go_at_call 32; refine (SH.setR [_, _] _ _ _ M5.out).mono ?_; rintro e w6 ⟨rfl, hs⟩; have M6 := Lib.hid (show St w w6 [_, _] from hs.tail); clear hs)
          | (go_at_call 23; refine (SL.storeR [_] _ _ _ SQ.out).mono ?_; rintro e w5 ⟨rfl, hs⟩; have M5 := Lib.hid (show St w w5 [_, _, _] from hs); have b4 := hs.cell [] 3 (.int .i64 y) rfl; clear hs)
          | (go_at_call 29; refine (SH.count [_, _] ((n : Int) - 1) SQ.out Hcount.out).mono ?_; rintro e w4 ⟨rfl, rfl⟩))
        go_roundw
        case rel => exact ⟨j + 1, n, by omega, hn0, by omega, by go_num, Lib.hid ⟨_, by rw [len_set]; exact Hls.out, M6.out⟩⟩
        case measure => simp [intOf]; omega
      · have h2 : (kd : Int) % 2 = 0 := by omega
        go_wp2
        go_quiet (fail)
        have SQ := Lib.hid (SB.out.step ((Upto.refl _ _).drewN nq))
        generalize hW : ((wr.alloc (Obj.cells #[.int .u8 kd, .int .u8 hd, .int .u8 id', .int .i64 y] 56)).drewN nq) = wq at *
        have b0 := SQ.out.cell [] 0 (.int .u8 kd) rfl
        have b1 := SQ.out.cell [] 1 (.int .u8 hd) rfl
        have b2 := SQ.out.cell [] 2 (.int .u8 id') rfl
        have b3 := SQ.out.cell [] 3 (.int .i64 y) rfl
        have HWW := Lib.hid hW; clear hW SB
        go_wp2_with (first
          | (go_at_call 32; refine (SH.setR [_, _] _ _ _ M5.out).mono ?_; rintro e w6 ⟨rfl, hs⟩; have M6 := Lib.hid (show St w w6 [_, _] from hs.tail); clear hs)
          | (go_at_call 23; refine (SL.storeR [_] _ _ _ SQ.out).mono ?_; rintro e w5 ⟨rfl, hs⟩; have M5 := Lib.hid (show St w w5 [_, _, _] from hs); have b4 := hs.cell [] 3 (.int .i64 y) rfl; clear hs))
        go_roundw
        case rel => exact ⟨j + 1, n, by omega, hn0, by omega, by go_num, Lib.hid ⟨_, by rw [len_set]; exact Hls.out, M6.out⟩⟩
        case measure => simp [intOf]; omega
      · have h2 : (kd : Int) % 2 = 1 := by omega
        go_wp2
        go_quiet (fail)
        have SQ := Lib.hid (SB.out.step ((Upto.refl _ _).drewN nq))
        generalize hW : ((wr.alloc (Obj.cells #[.int .u8 kd, .int .u8 hd, .int .u8 id', .int .i64 y] 56)).drewN nq) = wq at *
        have b0 := SQ.out.cell [] 0 (.int .u8 kd) rfl
        have b1 := SQ.out.cell [] 1 (.int .u8 hd) rfl
        have b2 := SQ.out.cell [] 2 (.int .u8 id') rfl
        have b3 := SQ.out.cell [] 3 (.int .i64 y) rfl
        have HWW := Lib.hid hW; clear hW SB
        go_wp2_with (first
          | (go_at_call 35; refine (SH.getR [_, _] _ _ M5.out).mono ?_; rintro e w6 ⟨rfl, hs⟩; have M6 := Lib.hid (show St w w6 [_, _] from hs.tail); clear hs)
          | (go_at_call 22; refine (SL.loadR [_] _ _ SQ.out).mono ?_; rintro e w5 ⟨rfl, hs⟩; have M5 := Lib.hid (show St w w5 [_, _, _] from hs); clear hs)
          | (go_at_call 29; refine (SH.count [_, _] ((n : Int) - 1) SQ.out Hcount.out).mono ?_; rintro e w4 ⟨rfl, rfl⟩))
        go_roundw
        case rel => exact ⟨j + 1, n, by omega, hn0, by omega, by go_num, Lib.hid ⟨_, Hls.out, M6.out⟩⟩
        case measure => simp [intOf]; omega
    · obtain rfl : m = j := by omega
      have SS := Lib.hid hS; clear hS
      clear hlt hj hmin
      have hcount : (ls.length : Int) - 1 = (n : Int) - 1 := by rw [Hls.out]
      have Hcount := Lib.hid hcount; clear hcount
      have hn61 : n ≤ 61 := by omega
      obtain ⟨T, hT⟩ : ∃ T, tot ls = T := ⟨_, rfl⟩
      have hTl : T ≤ lim := by
        obtain ⟨F, hA, _⟩ := SS.out.get [_]
        have := hA.facts.2.1
        rw [hT] at this
        exact this
      have HT' := Lib.hid hT; clear hT
      go_wp2_with (first
        | (go_at_call 28; refine (SH.used [_, _] (T : Int) M2.out (by rw [HT'.out])).mono ?_; rintro e w4 ⟨rfl, rfl⟩)
        | (go_at_call 36; refine (SH.limit [_, _] (lim : Int) M2.out rfl).mono ?_; rintro e w4 ⟨rfl, rfl⟩)
        | (go_at_call 44; refine (SL.limit [_] (lim : Int) M2.out rfl).mono ?_; rintro e w4 ⟨rfl, rfl⟩)
        | (go_at_call 29; refine (SH.count [_, _] ((n : Int) - 1) M2.out Hcount.out).mono ?_; rintro e w4 ⟨rfl, rfl⟩)
        | (go_at_call 19; refine (SL.count [_] ((n : Int) - 1) M2.out Hcount.out).mono ?_; rintro e w4 ⟨rfl, rfl⟩)
        | (go_at_call 18; refine (SL.cellsR [] SS.out).mono ?_; rintro e w3 ⟨u, rfl, hs⟩; obtain ⟨uo, un, uc, rfl⟩ := (hs.row []).shape; have hcap := cells_cap (hs.row []); rw [flat_length, HT'.out] at hcap; obtain ⟨rfl, hc1, hc2⟩ := hcap; have M2 := Lib.hid (show St w w3 [RowT _ _, _, _] from hs); clear hs))
      unfold maxLen at hc2
      go_loopw [202] (fun i wr2 => ∃ k : Nat, k ≤ n ∧ i = .int .i64 k ∧ Hid (St w wr2 [RowT (.slice uo T uc) ls.flatten, ML a lim ls, HT b lim ls])) (fun i _ => n - (intOf i).toNat)
      case atStart => exact ⟨0, Nat.zero_le _, rfl, M2⟩
      case round =>
        obtain ⟨k, hk, rfl, hM⟩ := hrel
        by_cases hkn : k < n
        · have hkl : k < ls.length := by have := Hls.out; omega
          obtain ⟨xs, hxs⟩ : ∃ xs, ls.getD k [] = xs := ⟨_, rfl⟩
          obtain ⟨q, hq⟩ : ∃ q, xs.length = q := ⟨_, rfl⟩
          obtain ⟨f, hf⟩ : ∃ f, tot (ls.take k) = f := ⟨_, rfl⟩
          have hfq : f + q ≤ T := by
            have := take_tot_le ls k hkl
            rw [hxs, hq, hf, HT'.out] at this
            exact this
          have hsp := spn_at hkl
          rw [hxs, hq, hf] at hsp
          have Hsp := Lib.hid hsp; clear hsp
          have hspl : k < (spn 0 ls).length := by rw [spn_length]; exact hkl
          have Hspl := Lib.hid hspl; clear hspl
          have Hkl := Lib.hid hkl; clear hkl
          have Hxs := Lib.hid hxs; clear hxs
          have Hq := Lib.hid hq; clear hq
          have Hf := Lib.hid hf; clear hf
          have hfc : (f : Int) + (q : Int) ≤ (uc : Int) := by omega
          have hf0 : (0 : Int) ≤ (f : Int) := by omega
          have hfq0 : (f : Int) ≤ (f : Int) + (q : Int) := by omega
          have hgt : ¬ ((T : Int) < (f : Int) + (q : Int)) := by omega
          have hneg : ¬ ((f : Int) < 0) := by omega
          by_cases hq0 : q = 0
          · subst hq0
            go_wp2_with (first
              | (go_at_call 31; refine (eq_zero _ _ _ _ _).mono ?_; rintro e w7 ⟨rfl, kq, rfl⟩; have K6 := Lib.hid ((K5.out.step ((Upto.refl _ _).drewN kq)).tail))
              | (go_at_call 24; refine (SM.len [_, _] k _ 0 K4.out rfl Hspl.out (by rw [Hsp.out]; rfl)).mono ?_; rintro e w6 ⟨rfl, hs⟩; have K5 := Lib.hid (show St w w6 [RowT _ _, RowT _ _, _, _] from hs); clear hs)
              | (go_at_call 17; refine (SM.span [_, _] k _ f 0 K3.out rfl Hspl.out (by rw [Hsp.out]) (by rw [Hsp.out]; rfl)).mono ?_; rintro e w5 ⟨rfl, hs⟩; have K4 := Lib.hid (show St w w5 [RowT _ _, RowT _ _, _, _] from hs); clear hs)
              | (go_at_call 33; refine (SH.array [_, _] k _ xs hM.out rfl Hkl.out Hxs.out).mono ?_; rintro e w4 ⟨u4, rfl, hs⟩; obtain ⟨vo, vn, vc, rfl⟩ := (hs.row []).shape; have hcap := cells_cap (hs.row []); rw [Hq.out] at hcap; obtain ⟨rfl, _, _⟩ := hcap; have K3 := Lib.hid (show St w w4 [RowT _ _, RowT _ _, _, _] from hs); clear hs))
            all_goals
              go_roundw
              case rel => exact ⟨k + 1, by omega, by go_num, K6⟩
              case measure => simp [intOf]; omega
          · have hrow := hM.out.row []
            obtain ⟨gc, cc, e9, _, _, hgc⟩ := row_first hrow (by rw [flat_length, HT'.out]; omega)
            simp only [Value.slice.injEq] at e9
            obtain ⟨rfl, y1, rfl⟩ := e9
            clear y1 hgc hrow
            have hne : ¬ (uc = f) := by omega
            go_wp2_with (first
              | (go_at_call 31; refine (equal_true (xs := xs) (ys := xs) (by have h := piece_sees (j := k) (K5.out.row [_]) (by rw [flat_length, HT'.out]) Hkl.out hc1 (by unfold maxLen; exact hc2) (by rw [Hxs.out, Hq.out]; omega); rw [Hxs.out, Hq.out, Hf.out] at h; exact h) (by have h := K5.out.row []; exact h.sees) rfl).mono ?_; rintro e w7 ⟨rfl, hu⟩; have K6 := Lib.hid ((K5.out.step hu).tail); clear hu)
              | (go_at_call 24; refine (SM.len [_, _] k _ q K4.out rfl Hspl.out (by rw [Hsp.out])).mono ?_; rintro e w6 ⟨rfl, hs⟩; have K5 := Lib.hid (show St w w6 [RowT _ _, RowT _ _, _, _] from hs); clear hs)
              | (go_at_call 17; refine (SM.span [_, _] k _ f q K3.out rfl Hspl.out (by rw [Hsp.out]) (by rw [Hsp.out])).mono ?_; rintro e w5 ⟨rfl, hs⟩; have K4 := Lib.hid (show St w w5 [RowT _ _, RowT _ _, _, _] from hs); clear hs)
              | (go_at_call 33; refine (SH.array [_, _] k _ xs hM.out rfl Hkl.out Hxs.out).mono ?_; rintro e w4 ⟨u4, rfl, hs⟩; obtain ⟨vo, vn, vc, rfl⟩ := (hs.row []).shape; have hcap := cells_cap (hs.row []); rw [Hq.out] at hcap; obtain ⟨rfl, _, _⟩ := hcap; have K3 := Lib.hid (show St w w4 [RowT _ _, RowT _ _, _, _] from hs); clear hs))
            go_roundw
            case rel => exact ⟨k + 1, by omega, by go_num, K6⟩
            case measure => simp [intOf]; omega
        · obtain rfl : n = k := by omega
          go_wp2_with (go_at_call 20; refine (works29 _).mono ?_; rintro e w9 ⟨rfl, hb⟩; have BF := Lib.hid hb; clear hb)
          go_ret
          exact ⟨rfl, Upto.below ((Upto.of_below hM.out.base _).trans (Upto.of_below BF.out _))⟩

set_option maxRecDepth 10000 in
set_option maxHeartbeats 4000000 in
theorem mlike_none (limit lim : Nat) (w : World) (hl0 : limit ≤ 255) (hlim : (limit : Int) % 60 = lim) :
    Calls Try.prog 14 #[.int .u8 limit, .slice none 0 0] w fun e w' => e = .returned (.bool true) ∧ Below w.heap.size w w' := by
  go_enter Try.func14, Try.ntmps14
  go_wp2_with (first
    | (go_at_call 26; refine (SH.new lim _ S1.out rfl (by omega)).mono ?_; rintro e w2 ⟨b, rfl, hs⟩; have S2' := hs.perm (List.Perm.swap _ _ _); have S2 : Hid (Like w w2 a b lim 1) := Lib.hid ⟨[[]], rfl, S2'⟩; clear hs S2')
    | (go_at_call 15; refine (SL.new lim _ (St.nil w) rfl (by omega)).mono ?_; rintro e w1 ⟨a, rfl, hs⟩; have S1 := Lib.hid hs; clear hs))
  go_loopw [64] (fun i wr => ∃ j n : Nat, j ≤ 0 ∧ 0 < n ∧ n ≤ j + 1 ∧ i = .int .i64 j ∧ Hid (Like w wr a b lim n)) (fun _ _ => 0)
  case atStart => exact ⟨0, 1, Nat.zero_le _, Nat.one_pos, Nat.le_refl _, rfl, S2⟩
  case round =>
    obtain ⟨j, n, hj, hn0, hnj, rfl, hM⟩ := hrel
    obtain ⟨ls, hls, hS⟩ := hM.out
    clear hM
    have Hls := Lib.hid hls; clear hls
    have hj1 : ¬ ((j : Int) < 0) := by omega
    have hj61 : j ≤ 60 := by omega
    have SS := Lib.hid hS; clear hS
    clear hj
    have hcount : (ls.length : Int) - 1 = (n : Int) - 1 := by rw [Hls.out]
    have Hcount := Lib.hid hcount; clear hcount
    have hn61 : n ≤ 61 := by omega
    obtain ⟨T, hT⟩ : ∃ T, tot ls = T := ⟨_, rfl⟩
    have hTl : T ≤ lim := by
      obtain ⟨F, hA, _⟩ := SS.out.get [_]
      have := hA.facts.2.1
      rw [hT] at this
      exact this
    have HT' := Lib.hid hT; clear hT
    go_wp2_with (first
      | (go_at_call 28; refine (SH.used [_, _] (T : Int) M2.out (by rw [HT'.out])).mono ?_; rintro e w4 ⟨rfl, rfl⟩)
      | (go_at_call 36; refine (SH.limit [_, _] (lim : Int) M2.out rfl).mono ?_; rintro e w4 ⟨rfl, rfl⟩)
      | (go_at_call 44; refine (SL.limit [_] (lim : Int) M2.out rfl).mono ?_; rintro e w4 ⟨rfl, rfl⟩)
      | (go_at_call 29; refine (SH.count [_, _] ((n : Int) - 1) M2.out Hcount.out).mono ?_; rintro e w4 ⟨rfl, rfl⟩)
      | (go_at_call 19; refine (SL.count [_] ((n : Int) - 1) M2.out Hcount.out).mono ?_; rintro e w4 ⟨rfl, rfl⟩)
      | (go_at_call 18; refine (SL.cellsR [] SS.out).mono ?_; rintro e w3 ⟨u, rfl, hs⟩; obtain ⟨uo, un, uc, rfl⟩ := (hs.row []).shape; have hcap := cells_cap (hs.row []); rw [flat_length, HT'.out] at hcap; obtain ⟨rfl, hc1, hc2⟩ := hcap; have M2 := Lib.hid (show St w w3 [RowT _ _, _, _] from hs); clear hs))
    unfold maxLen at hc2
    go_loopw [202] (fun i wr2 => ∃ k : Nat, k ≤ n ∧ i = .int .i64 k ∧ Hid (St w wr2 [RowT (.slice uo T uc) ls.flatten, ML a lim ls, HT b lim ls])) (fun i _ => n - (intOf i).toNat)
    case atStart => exact ⟨0, Nat.zero_le _, rfl, M2⟩
    case round =>
      obtain ⟨k, hk, rfl, hM⟩ := hrel
      by_cases hkn : k < n
      · have hkl : k < ls.length := by have := Hls.out; omega
        obtain ⟨xs, hxs⟩ : ∃ xs, ls.getD k [] = xs := ⟨_, rfl⟩
        obtain ⟨q, hq⟩ : ∃ q, xs.length = q := ⟨_, rfl⟩
        obtain ⟨f, hf⟩ : ∃ f, tot (ls.take k) = f := ⟨_, rfl⟩
        have hfq : f + q ≤ T := by
          have := take_tot_le ls k hkl
          rw [hxs, hq, hf, HT'.out] at this
          exact this
        have hsp := spn_at hkl
        rw [hxs, hq, hf] at hsp
        have Hsp := Lib.hid hsp; clear hsp
        have hspl : k < (spn 0 ls).length := by rw [spn_length]; exact hkl
        have Hspl := Lib.hid hspl; clear hspl
        have Hkl := Lib.hid hkl; clear hkl
        have Hxs := Lib.hid hxs; clear hxs
        have Hq := Lib.hid hq; clear hq
        have Hf := Lib.hid hf; clear hf
        have hfc : (f : Int) + (q : Int) ≤ (uc : Int) := by omega
        have hf0 : (0 : Int) ≤ (f : Int) := by omega
        have hfq0 : (f : Int) ≤ (f : Int) + (q : Int) := by omega
        have hgt : ¬ ((T : Int) < (f : Int) + (q : Int)) := by omega
        have hneg : ¬ ((f : Int) < 0) := by omega
        by_cases hq0 : q = 0
        · subst hq0
          go_wp2_with (first
            | (go_at_call 31; refine (eq_zero _ _ _ _ _).mono ?_; rintro e w7 ⟨rfl, kq, rfl⟩; have K6 := Lib.hid ((K5.out.step ((Upto.refl _ _).drewN kq)).tail))
            | (go_at_call 24; refine (SM.len [_, _] k _ 0 K4.out rfl Hspl.out (by rw [Hsp.out]; rfl)).mono ?_; rintro e w6 ⟨rfl, hs⟩; have K5 := Lib.hid (show St w w6 [RowT _ _, RowT _ _, _, _] from hs); clear hs)
            | (go_at_call 17; refine (SM.span [_, _] k _ f 0 K3.out rfl Hspl.out (by rw [Hsp.out]) (by rw [Hsp.out]; rfl)).mono ?_; rintro e w5 ⟨rfl, hs⟩; have K4 := Lib.hid (show St w w5 [RowT _ _, RowT _ _, _, _] from hs); clear hs)
            | (go_at_call 33; refine (SH.array [_, _] k _ xs hM.out rfl Hkl.out Hxs.out).mono ?_; rintro e w4 ⟨u4, rfl, hs⟩; obtain ⟨vo, vn, vc, rfl⟩ := (hs.row []).shape; have hcap := cells_cap (hs.row []); rw [Hq.out] at hcap; obtain ⟨rfl, _, _⟩ := hcap; have K3 := Lib.hid (show St w w4 [RowT _ _, RowT _ _, _, _] from hs); clear hs))
          all_goals
            go_roundw
            case rel => exact ⟨k + 1, by omega, by go_num, K6⟩
            case measure => simp [intOf]; omega
        · have hrow := hM.out.row []
          obtain ⟨gc, cc, e9, _, _, hgc⟩ := row_first hrow (by rw [flat_length, HT'.out]; omega)
          simp only [Value.slice.injEq] at e9
          obtain ⟨rfl, y1, rfl⟩ := e9
          clear y1 hgc hrow
          have hne : ¬ (uc = f) := by omega
          go_wp2_with (first
            | (go_at_call 31; refine (equal_true (xs := xs) (ys := xs) (by have h := piece_sees (j := k) (K5.out.row [_]) (by rw [flat_length, HT'.out]) Hkl.out hc1 (by unfold maxLen; exact hc2) (by rw [Hxs.out, Hq.out]; omega); rw [Hxs.out, Hq.out, Hf.out] at h; exact h) (by have h := K5.out.row []; exact h.sees) rfl).mono ?_; rintro e w7 ⟨rfl, hu⟩; have K6 := Lib.hid ((K5.out.step hu).tail); clear hu)
            | (go_at_call 24; refine (SM.len [_, _] k _ q K4.out rfl Hspl.out (by rw [Hsp.out])).mono ?_; rintro e w6 ⟨rfl, hs⟩; have K5 := Lib.hid (show St w w6 [RowT _ _, RowT _ _, _, _] from hs); clear hs)
            | (go_at_call 17; refine (SM.span [_, _] k _ f q K3.out rfl Hspl.out (by rw [Hsp.out]) (by rw [Hsp.out])).mono ?_; rintro e w5 ⟨rfl, hs⟩; have K4 := Lib.hid (show St w w5 [RowT _ _, RowT _ _, _, _] from hs); clear hs)
            | (go_at_call 33; refine (SH.array [_, _] k _ xs hM.out rfl Hkl.out Hxs.out).mono ?_; rintro e w4 ⟨u4, rfl, hs⟩; obtain ⟨vo, vn, vc, rfl⟩ := (hs.row []).shape; have hcap := cells_cap (hs.row []); rw [Hq.out] at hcap; obtain ⟨rfl, _, _⟩ := hcap; have K3 := Lib.hid (show St w w4 [RowT _ _, RowT _ _, _, _] from hs); clear hs))
          go_roundw
          case rel => exact ⟨k + 1, by omega, by go_num, K6⟩
          case measure => simp [intOf]; omega
      · obtain rfl : n = k := by omega
        go_wp2_with (go_at_call 20; refine (works29 _).mono ?_; rintro e w9 ⟨rfl, hb⟩; have BF := Lib.hid hb; clear hb)
        go_ret
        exact ⟨rfl, Upto.below ((Upto.of_below hM.out.base _).trans (Upto.of_below BF.out _))⟩

set_option maxRecDepth 10000 in
set_option maxHeartbeats 4000000 in
theorem mlike_empty0 (limit lim : Nat) (a' : Addr) (w : World) (hl0 : limit ≤ 255) (hlim : (limit : Int) % 60 = lim) :
    Calls Try.prog 14 #[.int .u8 limit, .slice (some a') 0 0] w fun e w' => e = .returned (.bool true) ∧ Below w.heap.size w w' := by
  go_enter Try.func14, Try.ntmps14
  go_wp2_with (first
    | (go_at_call 26; refine (SH.new lim _ S1.out rfl (by omega)).mono ?_; rintro e w2 ⟨b, rfl, hs⟩; have S2' := hs.perm (List.Perm.swap _ _ _); have S2 : Hid (Like w w2 a b lim 1) := Lib.hid ⟨[[]], rfl, S2'⟩; clear hs S2')
    | (go_at_call 15; refine (SL.new lim _ (St.nil w) rfl (by omega)).mono ?_; rintro e w1 ⟨a, rfl, hs⟩; have S1 := Lib.hid hs; clear hs))
  go_loopw [64] (fun i wr => ∃ j n : Nat, j ≤ 0 ∧ 0 < n ∧ n ≤ j + 1 ∧ i = .int .i64 j ∧ Hid (Like w wr a b lim n)) (fun _ _ => 0)
  case atStart => exact ⟨0, 1, Nat.zero_le _, Nat.one_pos, Nat.le_refl _, rfl, S2⟩
  case round =>
    obtain ⟨j, n, hj, hn0, hnj, rfl, hM⟩ := hrel
    obtain ⟨ls, hls, hS⟩ := hM.out
    clear hM
    have Hls := Lib.hid hls; clear hls
    have hj1 : ¬ ((j : Int) < 0) := by omega
    have hj61 : j ≤ 60 := by omega
    have SS := Lib.hid hS; clear hS
    clear hj
    have hcount : (ls.length : Int) - 1 = (n : Int) - 1 := by rw [Hls.out]
    have Hcount := Lib.hid hcount; clear hcount
    have hn61 : n ≤ 61 := by omega
    obtain ⟨T, hT⟩ : ∃ T, tot ls = T := ⟨_, rfl⟩
    have hTl : T ≤ lim := by
      obtain ⟨F, hA, _⟩ := SS.out.get [_]
      have := hA.facts.2.1
      rw [hT] at this
      exact this
    have HT' := Lib.hid hT; clear hT
    go_wp2_with (first
      | (go_at_call 28; refine (SH.used [_, _] (T : Int) M2.out (by rw [HT'.out])).mono ?_; rintro e w4 ⟨rfl, rfl⟩)
      | (go_at_call 36; refine (SH.limit [_, _] (lim : Int) M2.out rfl).mono ?_; rintro e w4 ⟨rfl, rfl⟩)
      | (go_at_call 44; refine (SL.limit [_] (lim : Int) M2.out rfl).mono ?_; rintro e w4 ⟨rfl, rfl⟩)
      | (go_at_call 29; refine (SH.count [_, _] ((n : Int) - 1) M2.out Hcount.out).mono ?_; rintro e w4 ⟨rfl, rfl⟩)
      | (go_at_call 19; refine (SL.count [_] ((n : Int) - 1) M2.out Hcount.out).mono ?_; rintro e w4 ⟨rfl, rfl⟩)
      | (go_at_call 18; refine (SL.cellsR [] SS.out).mono ?_; rintro e w3 ⟨u, rfl, hs⟩; obtain ⟨uo, un, uc, rfl⟩ := (hs.row []).shape; have hcap := cells_cap (hs.row []); rw [flat_length, HT'.out] at hcap; obtain ⟨rfl, hc1, hc2⟩ := hcap; have M2 := Lib.hid (show St w w3 [RowT _ _, _, _] from hs); clear hs))
    unfold maxLen at hc2
    go_loopw [202] (fun i wr2 => ∃ k : Nat, k ≤ n ∧ i = .int .i64 k ∧ Hid (St w wr2 [RowT (.slice uo T uc) ls.flatten, ML a lim ls, HT b lim ls])) (fun i _ => n - (intOf i).toNat)
    case atStart => exact ⟨0, Nat.zero_le _, rfl, M2⟩
    case round =>
      obtain ⟨k, hk, rfl, hM⟩ := hrel
      by_cases hkn : k < n
      · have hkl : k < ls.length := by have := Hls.out; omega
        obtain ⟨xs, hxs⟩ : ∃ xs, ls.getD k [] = xs := ⟨_, rfl⟩
        obtain ⟨q, hq⟩ : ∃ q, xs.length = q := ⟨_, rfl⟩
        obtain ⟨f, hf⟩ : ∃ f, tot (ls.take k) = f := ⟨_, rfl⟩
        have hfq : f + q ≤ T := by
          have := take_tot_le ls k hkl
          rw [hxs, hq, hf, HT'.out] at this
          exact this
        have hsp := spn_at hkl
        rw [hxs, hq, hf] at hsp
        have Hsp := Lib.hid hsp; clear hsp
        have hspl : k < (spn 0 ls).length := by rw [spn_length]; exact hkl
        have Hspl := Lib.hid hspl; clear hspl
        have Hkl := Lib.hid hkl; clear hkl
        have Hxs := Lib.hid hxs; clear hxs
        have Hq := Lib.hid hq; clear hq
        have Hf := Lib.hid hf; clear hf
        have hfc : (f : Int) + (q : Int) ≤ (uc : Int) := by omega
        have hf0 : (0 : Int) ≤ (f : Int) := by omega
        have hfq0 : (f : Int) ≤ (f : Int) + (q : Int) := by omega
        have hgt : ¬ ((T : Int) < (f : Int) + (q : Int)) := by omega
        have hneg : ¬ ((f : Int) < 0) := by omega
        by_cases hq0 : q = 0
        · subst hq0
          go_wp2_with (first
            | (go_at_call 31; refine (eq_zero _ _ _ _ _).mono ?_; rintro e w7 ⟨rfl, kq, rfl⟩; have K6 := Lib.hid ((K5.out.step ((Upto.refl _ _).drewN kq)).tail))
            | (go_at_call 24; refine (SM.len [_, _] k _ 0 K4.out rfl Hspl.out (by rw [Hsp.out]; rfl)).mono ?_; rintro e w6 ⟨rfl, hs⟩; have K5 := Lib.hid (show St w w6 [RowT _ _, RowT _ _, _, _] from hs); clear hs)
            | (go_at_call 17; refine (SM.span [_, _] k _ f 0 K3.out rfl Hspl.out (by rw [Hsp.out]) (by rw [Hsp.out]; rfl)).mono ?_; rintro e w5 ⟨rfl, hs⟩; have K4 := Lib.hid (show St w w5 [RowT _ _, RowT _ _, _, _] from hs); clear hs)
            | (go_at_call 33; refine (SH.array [_, _] k _ xs hM.out rfl Hkl.out Hxs.out).mono ?_; rintro e w4 ⟨u4, rfl, hs⟩; obtain ⟨vo, vn, vc, rfl⟩ := (hs.row []).shape; have hcap := cells_cap (hs.row []); rw [Hq.out] at hcap; obtain ⟨rfl, _, _⟩ := hcap; have K3 := Lib.hid (show St w w4 [RowT _ _, RowT _ _, _, _] from hs); clear hs))
          all_goals
            go_roundw
            case rel => exact ⟨k + 1, by omega, by go_num, K6⟩
            case measure => simp [intOf]; omega
        · have hrow := hM.out.row []
          obtain ⟨gc, cc, e9, _, _, hgc⟩ := row_first hrow (by rw [flat_length, HT'.out]; omega)
          simp only [Value.slice.injEq] at e9
          obtain ⟨rfl, y1, rfl⟩ := e9
          clear y1 hgc hrow
          have hne : ¬ (uc = f) := by omega
          go_wp2_with (first
            | (go_at_call 31; refine (equal_true (xs := xs) (ys := xs) (by have h := piece_sees (j := k) (K5.out.row [_]) (by rw [flat_length, HT'.out]) Hkl.out hc1 (by unfold maxLen; exact hc2) (by rw [Hxs.out, Hq.out]; omega); rw [Hxs.out, Hq.out, Hf.out] at h; exact h) (by have h := K5.out.row []; exact h.sees) rfl).mono ?_; rintro e w7 ⟨rfl, hu⟩; have K6 := Lib.hid ((K5.out.step hu).tail); clear hu)
            | (go_at_call 24; refine (SM.len [_, _] k _ q K4.out rfl Hspl.out (by rw [Hsp.out])).mono ?_; rintro e w6 ⟨rfl, hs⟩; have K5 := Lib.hid (show St w w6 [RowT _ _, RowT _ _, _, _] from hs); clear hs)
            | (go_at_call 17; refine (SM.span [_, _] k _ f q K3.out rfl Hspl.out (by rw [Hsp.out]) (by rw [Hsp.out])).mono ?_; rintro e w5 ⟨rfl, hs⟩; have K4 := Lib.hid (show St w w5 [RowT _ _, RowT _ _, _, _] from hs); clear hs)
            | (go_at_call 33; refine (SH.array [_, _] k _ xs hM.out rfl Hkl.out Hxs.out).mono ?_; rintro e w4 ⟨u4, rfl, hs⟩; obtain ⟨vo, vn, vc, rfl⟩ := (hs.row []).shape; have hcap := cells_cap (hs.row []); rw [Hq.out] at hcap; obtain ⟨rfl, _, _⟩ := hcap; have K3 := Lib.hid (show St w w4 [RowT _ _, RowT _ _, _, _] from hs); clear hs))
          go_roundw
          case rel => exact ⟨k + 1, by omega, by go_num, K6⟩
          case measure => simp [intOf]; omega
      · obtain rfl : n = k := by omega
        go_wp2_with (go_at_call 20; refine (works29 _).mono ?_; rintro e w9 ⟨rfl, hb⟩; have BF := Lib.hid hb; clear hb)
        go_ret
        exact ⟨rfl, Upto.below ((Upto.of_below hM.out.base _).trans (Upto.of_below BF.out _))⟩

set_option maxRecDepth 10000 in
set_option maxHeartbeats 4000000 in
theorem mlike_empty1 (limit lim : Nat) (a' : Addr) (c : Nat) (w : World) (hl0 : limit ≤ 255) (hlim : (limit : Int) % 60 = lim) :
    Calls Try.prog 14 #[.int .u8 limit, .slice (some a') 0 (c + 1)] w fun e w' => e = .returned (.bool true) ∧ Below w.heap.size w w' := by
  have hcz : (0 : Int) ≤ (c : Int) + 1 := by omega
  go_enter Try.func14, Try.ntmps14
  go_wp2_with (first
    | (go_at_call 26; refine (SH.new lim _ S1.out rfl (by omega)).mono ?_; rintro e w2 ⟨b, rfl, hs⟩; have S2' := hs.perm (List.Perm.swap _ _ _); have S2 : Hid (Like w w2 a b lim 1) := Lib.hid ⟨[[]], rfl, S2'⟩; clear hs S2')
    | (go_at_call 15; refine (SL.new lim _ (St.nil w) rfl (by omega)).mono ?_; rintro e w1 ⟨a, rfl, hs⟩; have S1 := Lib.hid hs; clear hs))
  go_loopw [64] (fun i wr => ∃ j n : Nat, j ≤ 0 ∧ 0 < n ∧ n ≤ j + 1 ∧ i = .int .i64 j ∧ Hid (Like w wr a b lim n)) (fun _ _ => 0)
  case atStart => exact ⟨0, 1, Nat.zero_le _, Nat.one_pos, Nat.le_refl _, rfl, S2⟩
  case round =>
    obtain ⟨j, n, hj, hn0, hnj, rfl, hM⟩ := hrel
    obtain ⟨ls, hls, hS⟩ := hM.out
    clear hM
    have Hls := Lib.hid hls; clear hls
    have hj1 : ¬ ((j : Int) < 0) := by omega
    have hj61 : j ≤ 60 := by omega
    have SS := Lib.hid hS; clear hS
    clear hj
    have hcount : (ls.length : Int) - 1 = (n : Int) - 1 := by rw [Hls.out]
    have Hcount := Lib.hid hcount; clear hcount
    have hn61 : n ≤ 61 := by omega
    obtain ⟨T, hT⟩ : ∃ T, tot ls = T := ⟨_, rfl⟩
    have hTl : T ≤ lim := by
      obtain ⟨F, hA, _⟩ := SS.out.get [_]
      have := hA.facts.2.1
      rw [hT] at this
      exact this
    have HT' := Lib.hid hT; clear hT
    go_wp2_with (first
      | (go_at_call 28; refine (SH.used [_, _] (T : Int) M2.out (by rw [HT'.out])).mono ?_; rintro e w4 ⟨rfl, rfl⟩)
      | (go_at_call 36; refine (SH.limit [_, _] (lim : Int) M2.out rfl).mono ?_; rintro e w4 ⟨rfl, rfl⟩)
      | (go_at_call 44; refine (SL.limit [_] (lim : Int) M2.out rfl).mono ?_; rintro e w4 ⟨rfl, rfl⟩)
      | (go_at_call 29; refine (SH.count [_, _] ((n : Int) - 1) M2.out Hcount.out).mono ?_; rintro e w4 ⟨rfl, rfl⟩)
      | (go_at_call 19; refine (SL.count [_] ((n : Int) - 1) M2.out Hcount.out).mono ?_; rintro e w4 ⟨rfl, rfl⟩)
      | (go_at_call 18; refine (SL.cellsR [] SS.out).mono ?_; rintro e w3 ⟨u, rfl, hs⟩; obtain ⟨uo, un, uc, rfl⟩ := (hs.row []).shape; have hcap := cells_cap (hs.row []); rw [flat_length, HT'.out] at hcap; obtain ⟨rfl, hc1, hc2⟩ := hcap; have M2 := Lib.hid (show St w w3 [RowT _ _, _, _] from hs); clear hs))
    unfold maxLen at hc2
    go_loopw [202] (fun i wr2 => ∃ k : Nat, k ≤ n ∧ i = .int .i64 k ∧ Hid (St w wr2 [RowT (.slice uo T uc) ls.flatten, ML a lim ls, HT b lim ls])) (fun i _ => n - (intOf i).toNat)
    case atStart => exact ⟨0, Nat.zero_le _, rfl, M2⟩
    case round =>
      obtain ⟨k, hk, rfl, hM⟩ := hrel
      by_cases hkn : k < n
      · have hkl : k < ls.length := by have := Hls.out; omega
        obtain ⟨xs, hxs⟩ : ∃ xs, ls.getD k [] = xs := ⟨_, rfl⟩
        obtain ⟨q, hq⟩ : ∃ q, xs.length = q := ⟨_, rfl⟩
        obtain ⟨f, hf⟩ : ∃ f, tot (ls.take k) = f := ⟨_, rfl⟩
        have hfq : f + q ≤ T := by
          have := take_tot_le ls k hkl
          rw [hxs, hq, hf, HT'.out] at this
          exact this
        have hsp := spn_at hkl
        rw [hxs, hq, hf] at hsp
        have Hsp := Lib.hid hsp; clear hsp
        have hspl : k < (spn 0 ls).length := by rw [spn_length]; exact hkl
        have Hspl := Lib.hid hspl; clear hspl
        have Hkl := Lib.hid hkl; clear hkl
        have Hxs := Lib.hid hxs; clear hxs
        have Hq := Lib.hid hq; clear hq
        have Hf := Lib.hid hf; clear hf
        have hfc : (f : Int) + (q : Int) ≤ (uc : Int) := by omega
        have hf0 : (0 : Int) ≤ (f : Int) := by omega
        have hfq0 : (f : Int) ≤ (f : Int) + (q : Int) := by omega
        have hgt : ¬ ((T : Int) < (f : Int) + (q : Int)) := by omega
        have hneg : ¬ ((f : Int) < 0) := by omega
        by_cases hq0 : q = 0
        · subst hq0
          go_wp2_with (first
            | (go_at_call 31; refine (eq_zero _ _ _ _ _).mono ?_; rintro e w7 ⟨rfl, kq, rfl⟩; have K6 := Lib.hid ((K5.out.step ((Upto.refl _ _).drewN kq)).tail))
            | (go_at_call 24; refine (SM.len [_, _] k _ 0 K4.out rfl Hspl.out (by rw [Hsp.out]; rfl)).mono ?_; rintro e w6 ⟨rfl, hs⟩; have K5 := Lib.hid (show St w w6 [RowT _ _, RowT _ _, _, _] from hs); clear hs)
            | (go_at_call 17; refine (SM.span [_, _] k _ f 0 K3.out rfl Hspl.out (by rw [Hsp.out]) (by rw [Hsp.out]; rfl)).mono ?_; rintro e w5 ⟨rfl, hs⟩; have K4 := Lib.hid (show St w w5 [RowT _ _, RowT _ _, _, _] from hs); clear hs)
            | (go_at_call 33; refine (SH.array [_, _] k _ xs hM.out rfl Hkl.out Hxs.out).mono ?_; rintro e w4 ⟨u4, rfl, hs⟩; obtain ⟨vo, vn, vc, rfl⟩ := (hs.row []).shape; have hcap := cells_cap (hs.row []); rw [Hq.out] at hcap; obtain ⟨rfl, _, _⟩ := hcap; have K3 := Lib.hid (show St w w4 [RowT _ _, RowT _ _, _, _] from hs); clear hs))
          all_goals
            go_roundw
            case rel => exact ⟨k + 1, by omega, by go_num, K6⟩
            case measure => simp [intOf]; omega
        · have hrow := hM.out.row []
          obtain ⟨gc, cc, e9, _, _, hgc⟩ := row_first hrow (by rw [flat_length, HT'.out]; omega)
          simp only [Value.slice.injEq] at e9
          obtain ⟨rfl, y1, rfl⟩ := e9
          clear y1 hgc hrow
          have hne : ¬ (uc = f) := by omega
          go_wp2_with (first
            | (go_at_call 31; refine (equal_true (xs := xs) (ys := xs) (by have h := piece_sees (j := k) (K5.out.row [_]) (by rw [flat_length, HT'.out]) Hkl.out hc1 (by unfold maxLen; exact hc2) (by rw [Hxs.out, Hq.out]; omega); rw [Hxs.out, Hq.out, Hf.out] at h; exact h) (by have h := K5.out.row []; exact h.sees) rfl).mono ?_; rintro e w7 ⟨rfl, hu⟩; have K6 := Lib.hid ((K5.out.step hu).tail); clear hu)
            | (go_at_call 24; refine (SM.len [_, _] k _ q K4.out rfl Hspl.out (by rw [Hsp.out])).mono ?_; rintro e w6 ⟨rfl, hs⟩; have K5 := Lib.hid (show St w w6 [RowT _ _, RowT _ _, _, _] from hs); clear hs)
            | (go_at_call 17; refine (SM.span [_, _] k _ f q K3.out rfl Hspl.out (by rw [Hsp.out]) (by rw [Hsp.out])).mono ?_; rintro e w5 ⟨rfl, hs⟩; have K4 := Lib.hid (show St w w5 [RowT _ _, RowT _ _, _, _] from hs); clear hs)
            | (go_at_call 33; refine (SH.array [_, _] k _ xs hM.out rfl Hkl.out Hxs.out).mono ?_; rintro e w4 ⟨u4, rfl, hs⟩; obtain ⟨vo, vn, vc, rfl⟩ := (hs.row []).shape; have hcap := cells_cap (hs.row []); rw [Hq.out] at hcap; obtain ⟨rfl, _, _⟩ := hcap; have K3 := Lib.hid (show St w w4 [RowT _ _, RowT _ _, _, _] from hs); clear hs))
          go_roundw
          case rel => exact ⟨k + 1, by omega, by go_num, K6⟩
          case measure => simp [intOf]; omega
      · obtain rfl : n = k := by omega
        go_wp2_with (go_at_call 20; refine (works29 _).mono ?_; rintro e w9 ⟨rfl, hb⟩; have BF := Lib.hid hb; clear hb)
        go_ret
        exact ⟨rfl, Upto.below ((Upto.of_below hM.out.base _).trans (Upto.of_below BF.out _))⟩

theorem mlike_true (a : Int) (ha : (Lit.int .u8 a).wf = true) {v : Value} {w : World} (h : ChgSeen w v) : Calls Try.prog 14 #[.int .u8 a, v] w fun e w' => e = .returned (.bool true) ∧ Below w.heap.size w w' := by
  have h1 := bounds_u8 ha
  obtain ⟨limit, rfl⟩ := Int.eq_ofNat_of_zero_le h1.1
  have hlim : (limit : Int) % 60 = ((limit % 60 : Nat) : Int) := by omega
  rcases h with rfl | ⟨a, c, rfl⟩ | ⟨g, o, n, c, ks, hs, is, ns, rfl, hc, hg, hC⟩
  · exact mlike_none limit _ w (by omega) hlim
  · obtain _ | c := c
    · exact mlike_empty0 limit _ a w (by omega) hlim
    · exact mlike_empty1 limit _ a c w (by omega) hlim
  · obtain ⟨m, hm⟩ : ∃ m, m = min n 60 := ⟨_, rfl⟩
    refine mlike_some limit _ g o n c m ks hs is ns w (by omega) hlim (by omega) (by omega) hc hg ?_ ⟨fun j hj => hC.c0 j (by omega), fun j hj => hC.c1 j (by omega), fun j hj => hC.c2 j (by omega), fun j hj => hC.c3 j (by omega), fun j hj => hC.b j (by omega)⟩
    split <;> omega

end Go.Proofs.Ytjganbcolaakkaa
