/-
  The law of the copies of the memories, walked.
-/
import Derived.Test.YtjganbcolaakkaaMemE
import Derived.Test.YtjganbcolaakkaaSpans
import Derived.Test.YtjganbcolaakkaaClear
namespace Go.Proofs.Ytjganbcolaakkaa
open Go.RowKit

/-- What is known of the memory behind the first arrays. -/
inductive Laid (cs : List Int) (ss : List (Nat × Nat)) (m : Nat) : Prop
  | mk (len : cs.length ≤ 2550) (sl : ss.length = m + 1) (small : m ≤ 10)
theorem laid_of {ns : List Nat} {m : Nat} (hns : ns.length = m) (hm : m ≤ 10) (hb : ∀ j, j < ns.length → ns[j]?.getD 0 ≤ 255) : Laid (List.replicate ns.sum 0) (mSpans ns) m := by
  have h := take_sum_le hb ns.length (Nat.le_refl _)
  rw [List.take_of_length_le (Nat.le_refl _)] at h
  exact ⟨by rw [List.length_replicate]; omega, by rw [mSpans_length, hns], hm⟩
theorem Laid.l1 {cs : List Int} {ss : List (Nat × Nat)} {m : Nat} (h : Laid cs ss m) : cs.length + 1 ≤ 10000 := by obtain ⟨h, _⟩ := h; omega
theorem Laid.l2 {cs : List Int} {ss : List (Nat × Nat)} {m : Nat} (h : Laid cs ss m) : ss.length ≤ 1000000 := by obtain ⟨_, h, _⟩ := h; omega
theorem Laid.l3 {cs : List Int} {ss : List (Nat × Nat)} {m : Nat} (h : Laid cs ss m) : (ss.length : Int) = (m : Int) + 1 := by obtain ⟨_, h, _⟩ := h; omega
/-- Behind one more array of one cell. -/
inductive Laid2 (cs : List Int) (ss : List (Nat × Nat)) (m S : Nat) : Prop
  | mk (len : cs.length = S + 1) (sl : ss.length = m + 2) (at1 : cs.getD S 0 = 0) (at2 : ss.getD (m + 1) (0, 0) = (S, 1)) (bound : S ≤ 2550) (small : m ≤ 10)
theorem Laid.more {cs : List Int} {ss : List (Nat × Nat)} {m : Nat} (h : Laid cs ss m) : Laid2 (cs ++ List.replicate 1 0) (ss ++ [(cs.length, 1)]) m cs.length := by
  obtain ⟨h1, h2, h3⟩ := h
  refine ⟨by simp, by simp [h2], ?_, ?_, h1, h3⟩
  · simp [List.getD]
  · simp [List.getD, ← h2]
section
variable {cs : List Int} {ss : List (Nat × Nat)} {m S : Nat}
theorem Laid2.set (h : Laid2 cs ss m S) (z : Int) : (cs.set ((ss.getD (m + 1) (0, 0)).1 + 0) z) = cs.set S z := by
  obtain ⟨h1, h2, h3, h4, _⟩ := h
  rw [h4]; rfl
theorem Laid2.in (h : Laid2 cs ss m S) : m + 1 < ss.length := by obtain ⟨_, h2, _⟩ := h; omega
theorem Laid2.one (h : Laid2 cs ss m S) : 0 < (ss.getD (m + 1) (0, 0)).2 := by obtain ⟨_, _, _, h4, _⟩ := h; rw [h4]; exact Nat.one_pos
theorem Laid2.at (h : Laid2 cs ss m S) : cs.getD ((ss.getD (m + 1) (0, 0)).1 + 0) 0 = 0 := by obtain ⟨_, _, h3, h4, _⟩ := h; rw [h4]; exact h3
theorem Laid2.at' (h : Laid2 cs ss m S) (z : Int) : (cs.set S z).getD ((ss.getD (m + 1) (0, 0)).1 + 0) 0 = z := by
  obtain ⟨h1, _, h3, h4, _⟩ := h
  rw [h4]
  simp [List.getD, show S < cs.length by omega]
theorem Laid2.eq (h : Laid2 cs ss m S) (z : Int) : (decide (cs = cs.set S z) && decide (ss = ss)) = (z == 0) := by
  obtain ⟨h1, _, h3, _⟩ := h
  rw [decide_eq_true (show ss = ss from rfl), Bool.and_true, Bool.eq_iff_iff, decide_eq_true_eq, beq_iff_eq]
  constructor
  · intro e
    have : cs.getD S 0 = (cs.set S z).getD S 0 := by rw [← e]
    rw [h3] at this
    simpa [List.getD, show S < cs.length by omega] using this.symm
  · rintro rfl
    apply List.ext_getElem?
    intro j
    by_cases hj : j = S
    · subst hj
      have h5 : j < cs.length := by omega
      simp [List.getD, h5] at h3
      simp [h5, h3]
    · simp [List.getElem?_set_ne (Ne.symm hj)]
theorem Laid2.ne (_ : Laid2 cs ss m S) (z : Int) : (decide (cs ++ List.replicate 0 0 = cs.set S z) && decide (ss ++ [(cs.length, 0)] = ss)) = false := by
  have : ¬ (ss ++ [(cs.length, 0)] = ss) := fun e => by
    have := congrArg List.length e
    simp at this
  rw [decide_eq_false this, Bool.and_false]
theorem Laid2.room (h : Laid2 cs ss m S) : cs.length + 0 ≤ 10000 := by obtain ⟨_, _, _, _, _, _⟩ := h; omega
theorem Laid2.few (h : Laid2 cs ss m S) : ss.length ≤ 1000000 := by obtain ⟨_, _, _, _, _, _⟩ := h; omega
theorem Laid2.len (h : Laid2 cs ss m S) : (ss.length : Int) = (m : Int) + 1 + 1 := by obtain ⟨_, h, _⟩ := h; omega
theorem Laid2.count (h : Laid2 cs ss m S) : (ss.length : Int) - 1 = (m : Int) + 1 := by obtain ⟨_, h, _⟩ := h; omega
theorem Laid2.count' (h : Laid2 cs ss m S) : ((ss ++ [(cs.length, 0)]).length : Int) - 1 = (m : Int) + 1 + 1 := by obtain ⟨_, h, _⟩ := h; simp [h]; omega
theorem Laid2.shape (h : Laid2 cs ss m S) (z : Int) : (cs.set S z).length = S + 1 := by obtain ⟨h, _⟩ := h; simpa using h
end
theorem row_shape {w0 w : World} {l : List Thing} {u : Value} {xs : List Int} (h : St w0 w (RowT u xs :: l)) : ∃ ao n c, u = .slice ao n c := (h.row []).shape

set_option maxRecDepth 10000 in
set_option maxHeartbeats 4000000 in
theorem mcopies_some (g o L c m : Nat) (ns : List Nat) (n : Int) (w : World) (hns : ns.length = m) (hm : m ≤ 10) (hmL : m ≤ L) (hLc : L ≤ c) (hg : g < w.heap.size) (hb : ∀ j, j < ns.length → ns[j]?.getD 0 ≤ 255)
    (hmin : (if (10 : Int) < (L : Int) then (10 : Int) else (L : Int)) = (m : Int)) (hcell : ∀ j, j < m → w.cell? ⟨g, o + j, none⟩ = some (.int .u8 ((ns[j]?.getD 0 : Nat) : Int))) :
    Calls Try.prog 6 #[.slice (some ⟨g, o, none⟩) L c, .int .i64 n] w fun e w' => e = .returned (.bool true) ∧ Below w.heap.size w w' := by
  have Hcell := Lib.hid hcell; clear hcell
  have HL := Lib.hid (laid_of hns hm hb)
  have Hns := Lib.hid hns; clear hns
  have Hb := Lib.hid hb; clear hb
  have hmc : (m : Int) ≤ (c : Int) := by omega
  have hm0 : (0 : Int) ≤ (m : Int) := by omega
  go_enter Try.func6, Try.ntmps6
  go_wp2_with (go_at_call 15; refine (SM.new 10000 _ (St.nil w) rfl (by decide)).mono ?_; rintro e w1 ⟨b, rfl, hs⟩; have S1 := Lib.hid hs; clear hs)
  go_loopw [42] (fun i wr => ∃ j : Nat, j ≤ m ∧ i = .int .i64 j ∧ Hid (St w wr [MT b 10000 (List.replicate (ns.take j).sum 0) (mSpans (ns.take j))])) (fun i _ => m - (intOf i).toNat)
  case atStart => exact ⟨0, Nat.zero_le _, rfl, S1⟩
  case round =>
    obtain ⟨j, hj, rfl, hM⟩ := hrel
    by_cases hlt : j < m
    · have hcur := (hM.out.base.cell (p := ⟨g, o + j, none⟩) hg).trans (Hcell.out j hlt)
      have hjl : j < ns.length := by rw [Hns.out]; exact hlt
      have hn255 := Hb.out j hjl
      have hsum := take_sum_le Hb.out j (by omega)
      have hsnoc := take_snoc hjl
      have hsucc := take_sum_succ hjl
      have Hsucc := Lib.hid hsucc; clear hsucc
      generalize hnj : ns[j]?.getD 0 = x at *
      have Hsum := Lib.hid hsum; clear hsum
      have Hsnoc := Lib.hid hsnoc; clear hsnoc
      have Hjl := Lib.hid hjl; clear hjl
      clear hnj
      go_wp2_with (go_at_call 16; refine (SM.alloc [] x _ ((j : Int) + 1) hM.out rfl (by have := Hsum.out; rw [List.length_replicate]; omega) (by have := Hjl.out; rw [mSpans_length, List.length_take]; omega) (by have := Hjl.out; rw [mSpans_length, List.length_take]; omega)).mono ?_; rintro e w3 ⟨rfl, hs⟩; have M3 := Lib.hid hs; clear hs)
      go_roundw
      case rel =>
        refine ⟨j + 1, by omega, by go_num, ?_⟩
        have h := M3.out
        rw [List.length_replicate, ← mSpans_snoc, Hsnoc.out, List.replicate_append_replicate, ← Hsucc.out] at h
        exact Lib.hid h
      case measure => simp [intOf]; omega
    · obtain rfl : m = j := by omega
      have hall : ns.take m = ns := List.take_of_length_le (by rw [Hns.out]; exact Nat.le_refl _)
      have hMM := hM.out
      rw [hall] at hMM
      have HM0 := Lib.hid hMM; clear hMM hM hlt hj hall
      clear Hns Hb Hcell hmin
      generalize List.replicate ns.sum (0 : Int) = cs at *
      generalize mSpans ns = ss at *
      go_wp2_with (first
        | (go_at_call 18; refine (SM.cells [] K7.out).mono ?_; rintro e w8 ⟨u, rfl, hs⟩; obtain ⟨uo, un, uc, rfl⟩ := row_shape hs; have K8 := Lib.hid (show St w w8 [RowT _ _, _, _] from hs); clear hs)
        | (go_at_call 22; refine (SM.load [_] (m + 1) 0 _ _ 0 K6.out (by omega) rfl LL.out.in LL.out.one LL.out.at).mono ?_; rintro e w9 ⟨rfl, hs⟩; have K7 := Lib.hid (show St w w9 [_, _] from hs); clear hs)
        | (go_at_call 25; refine (SM.same (n == 0) K5.out (SM.is [_] K5.out) (SM.is [] K5.out) (LL.out.eq n)).mono ?_; rintro e w9 ⟨rfl, hs⟩; have K6 := Lib.hid hs; clear hs)
        | (go_at_call 23; refine (SM.store [] (m + 1) 0 _ _ _ _ K4.out (by omega) rfl LL.out.in LL.out.one (LL.out.set n)).mono ?_; rintro e w9 ⟨rfl, hs⟩; have K5 := Lib.hid (show St w w9 [_, _] from hs); clear hs)
        | (go_at_call 25; refine (SM.same true K3.out (SM.is [_] K3.out) (SM.is [_] K3.out) (by simp)).mono ?_; rintro e w9 ⟨rfl, hs⟩; have K4 := Lib.hid hs; clear hs)
        | (go_at_call 25; refine (SM.same true K2.out (SM.is [_] K2.out) (SM.is [] K2.out) (by simp)).mono ?_; rintro e w9 ⟨rfl, hs⟩; have K3 := Lib.hid hs; clear hs)
        | (go_at_call 21; refine (SM.copy [] K1.out).mono ?_; rintro e w9 ⟨d, rfl, hs⟩; have K2 := Lib.hid (show St w w9 [_, _] from hs); clear hs)
        | (go_at_call 16; refine (SM.alloc [] 1 _ ((m : Int) + 1) HM0.out rfl HL.out.l1 HL.out.l2 HL.out.l3).mono ?_; rintro e w9 ⟨rfl, hs⟩; have hm2 := HL.out.more; generalize cs ++ List.replicate 1 0 = cs1 at *; generalize ss ++ [(cs.length, 1)] = ss1 at *; generalize cs.length = S at *; have LL := Lib.hid hm2; have K1 := Lib.hid hs; clear hs hm2 HL HM0))
      obtain ⟨wc, hcl, hs⟩ := K8.out.clear []
      have K9 := Lib.hid hs; clear hs
      go_wp2_with (first
        | (go_at_call 19; have tk := tok; refine (SM.count [_, _, _, _, _] ((m : Int) + 1) K22.out LL.out.count).mono ?_; rintro e w9 ⟨rfl, rfl⟩)
        | (go_at_call 20; refine (works29 _).mono ?_; rintro e w9 ⟨rfl, hb⟩; have BF := Lib.hid hb; clear hb)
        | (go_at_call 25; refine (SM.same false K22.out (SM.is [_, _, _, _, _, _] K22.out) (SM.is [_, _, _, _, _] K22.out) (LL.out.ne n)).mono ?_; rintro e w9 ⟨rfl, hs⟩; have K23 := Lib.hid hs; clear hs)
        | (go_at_call 19; refine (SM.count [_, _, _, _, _, _] ((m : Int) + 1 + 1) K22.out LL.out.count').mono ?_; rintro e w9 ⟨rfl, rfl⟩; have tok : True := trivial)
        | (go_at_call 16; refine (SM.alloc [_, _, _, _, _, _] 0 _ ((m : Int) + 1 + 1) K21.out rfl LL.out.room LL.out.few LL.out.len).mono ?_; rintro e w9 ⟨rfl, hs⟩; have K22 := Lib.hid (show St w w9 [_, _, _, _, _, _, _] from hs); clear hs)
        | (go_at_call 31; refine (equal_true ((K20.out.row [_]).sees) ((K20.out.row []).sees) rfl).mono ?_; rintro e w9 ⟨rfl, hu⟩; have K21 := Lib.hid (K20.out.step hu); clear hu)
        | (go_at_call 18; refine (SM.cells [_] K19.out).mono ?_; rintro e w9 ⟨u2, rfl, hs⟩; have K20 := Lib.hid (show St w w9 [_, _, _, _, _, _, _] from hs); clear hs)
        | (go_at_call 18; refine (SM.cells [_] K18.out).mono ?_; rintro e w9 ⟨u1, rfl, hs⟩; have K19 := Lib.hid (show St w w9 [_, _, _, _, _, _] from hs); clear hs)
        | (go_at_call 25; refine (SM.same false K17.out (SM.is [_] K17.out) (SM.is [] K17.out) (by decide)).mono ?_; rintro e w9 ⟨rfl, hs⟩; have K18 := Lib.hid hs; clear hs)
        | (go_at_call 16; refine (SM.alloc [] 1 _ 2 K16.out rfl (by decide) (by decide) rfl).mono ?_; rintro e w9 ⟨rfl, hs⟩; have K17 := Lib.hid (show St w w9 [MT b2 3 [0, 0, 0] [(0, 0), (0, 2), (2, 1)], _, _, _, _] from hs); clear hs)
        | (go_at_call 16; refine (SM.alloc [] 2 _ 1 K15.out rfl (by decide) (by decide) rfl).mono ?_; rintro e w9 ⟨rfl, hs⟩; have K16 := Lib.hid (show St w w9 [MT b2 3 [0, 0] [(0, 0), (0, 2)], _, _, _, _] from hs); clear hs)
        | (go_at_call 16; refine (SM.alloc [_] 2 _ 2 K14.out rfl (by decide) (by decide) rfl).mono ?_; rintro e w9 ⟨rfl, hs⟩; have K15 := Lib.hid (show St w w9 [_, MT a2 3 [0, 0, 0] [(0, 0), (0, 1), (1, 2)], _, _, _] from hs); clear hs)
        | (go_at_call 16; refine (SM.alloc [_] 1 _ 1 K13.out rfl (by decide) (by decide) rfl).mono ?_; rintro e w9 ⟨rfl, hs⟩; have K14 := Lib.hid (show St w w9 [_, MT a2 3 [0] [(0, 0), (0, 1)], _, _, _] from hs); clear hs)
        | (go_at_call 25; refine (SM.same true K12.out (SM.is [_] K12.out) (SM.is [] K12.out) (by decide)).mono ?_; rintro e w9 ⟨rfl, hs⟩; have K13 := Lib.hid hs; clear hs)
        | (go_at_call 15; refine (SM.new 3 _ K11.out rfl (by decide)).mono ?_; rintro e w9 ⟨b2, rfl, hs⟩; have K12 := Lib.hid hs; clear hs)
        | (go_at_call 15; refine (SM.new 3 _ K10.out rfl (by decide)).mono ?_; rintro e w9 ⟨a2, rfl, hs⟩; have K11 := Lib.hid hs; clear hs)
        | (go_at_call 22; refine (SM.load [_] (m + 1) 0 _ _ n K9.out (by omega) rfl LL.out.in LL.out.one (LL.out.at' n)).mono ?_; rintro e w9 ⟨rfl, hs⟩; have K10 := Lib.hid (show St w w9 [_, _, _] from hs); clear hs)
        | (simp only [hcl]))
      go_ret
      exact ⟨rfl, Upto.below ((Upto.of_below K23.out.base _).trans (Upto.of_below BF.out _))⟩

set_option maxRecDepth 10000 in
set_option maxHeartbeats 4000000 in
theorem mcopies_none  (n : Int) (w : World) : Calls Try.prog 6 #[.slice none 0 0, .int .i64 n] w fun e w' => e = .returned (.bool true) ∧ Below w.heap.size w w' := by
  obtain ⟨m, hm⟩ : ∃ m : Nat, m = 0 := ⟨0, rfl⟩
  have HL : Hid (Laid [] [(0, 0)] m) := Lib.hid (by subst hm; exact ⟨by simp, rfl, by omega⟩)
  have hm1 : m ≤ 10 := by omega
  have hm0 : (0 : Int) ≤ (m : Int) := by omega
  have Hm := Lib.hid hm; clear hm
  go_enter Try.func6, Try.ntmps6
  go_wp2_with (go_at_call 15; refine (SM.new 10000 _ (St.nil w) rfl (by decide)).mono ?_; rintro e w1 ⟨b, rfl, hs⟩; have S1 := Lib.hid hs; clear hs)
  obtain ⟨cs, ss, HM0, HL⟩ : ∃ cs ss, Hid (St w w1 [MT b 10000 cs ss]) ∧ Hid (Laid cs ss m) := ⟨_, _, S1, HL⟩
  clear S1 Hm
  go_loop [42] (fun i => i = .int .i64 0) (fun _ => 0)
  case atStart => rfl
  case round =>
    subst hrel
    go_wp2_with (first
      | (go_at_call 18; refine (SM.cells [] K7.out).mono ?_; rintro e w8 ⟨u, rfl, hs⟩; obtain ⟨uo, un, uc, rfl⟩ := row_shape hs; have K8 := Lib.hid (show St w w8 [RowT _ _, _, _] from hs); clear hs)
      | (go_at_call 22; refine (SM.load [_] (m + 1) 0 _ _ 0 K6.out (by omega) rfl LL.out.in LL.out.one LL.out.at).mono ?_; rintro e w9 ⟨rfl, hs⟩; have K7 := Lib.hid (show St w w9 [_, _] from hs); clear hs)
      | (go_at_call 25; refine (SM.same (n == 0) K5.out (SM.is [_] K5.out) (SM.is [] K5.out) (LL.out.eq n)).mono ?_; rintro e w9 ⟨rfl, hs⟩; have K6 := Lib.hid hs; clear hs)
      | (go_at_call 23; refine (SM.store [] (m + 1) 0 _ _ _ _ K4.out (by omega) rfl LL.out.in LL.out.one (LL.out.set n)).mono ?_; rintro e w9 ⟨rfl, hs⟩; have K5 := Lib.hid (show St w w9 [_, _] from hs); clear hs)
      | (go_at_call 25; refine (SM.same true K3.out (SM.is [_] K3.out) (SM.is [_] K3.out) (by simp)).mono ?_; rintro e w9 ⟨rfl, hs⟩; have K4 := Lib.hid hs; clear hs)
      | (go_at_call 25; refine (SM.same true K2.out (SM.is [_] K2.out) (SM.is [] K2.out) (by simp)).mono ?_; rintro e w9 ⟨rfl, hs⟩; have K3 := Lib.hid hs; clear hs)
      | (go_at_call 21; refine (SM.copy [] K1.out).mono ?_; rintro e w9 ⟨d, rfl, hs⟩; have K2 := Lib.hid (show St w w9 [_, _] from hs); clear hs)
      | (go_at_call 16; refine (SM.alloc [] 1 _ ((m : Int) + 1) HM0.out rfl HL.out.l1 HL.out.l2 HL.out.l3).mono ?_; rintro e w9 ⟨rfl, hs⟩; have hm2 := HL.out.more; generalize cs ++ List.replicate 1 0 = cs1 at *; generalize ss ++ [(cs.length, 1)] = ss1 at *; generalize cs.length = S at *; have LL := Lib.hid hm2; have K1 := Lib.hid hs; clear hs hm2 HL HM0))
    obtain ⟨wc, hcl, hs⟩ := K8.out.clear []
    have K9 := Lib.hid hs; clear hs
    go_wp2_with (first
      | (go_at_call 19; have tk := tok; refine (SM.count [_, _, _, _, _] ((m : Int) + 1) K22.out LL.out.count).mono ?_; rintro e w9 ⟨rfl, rfl⟩)
      | (go_at_call 20; refine (works29 _).mono ?_; rintro e w9 ⟨rfl, hb⟩; have BF := Lib.hid hb; clear hb)
      | (go_at_call 25; refine (SM.same false K22.out (SM.is [_, _, _, _, _, _] K22.out) (SM.is [_, _, _, _, _] K22.out) (LL.out.ne n)).mono ?_; rintro e w9 ⟨rfl, hs⟩; have K23 := Lib.hid hs; clear hs)
      | (go_at_call 19; refine (SM.count [_, _, _, _, _, _] ((m : Int) + 1 + 1) K22.out LL.out.count').mono ?_; rintro e w9 ⟨rfl, rfl⟩; have tok : True := trivial)
      | (go_at_call 16; refine (SM.alloc [_, _, _, _, _, _] 0 _ ((m : Int) + 1 + 1) K21.out rfl LL.out.room LL.out.few LL.out.len).mono ?_; rintro e w9 ⟨rfl, hs⟩; have K22 := Lib.hid (show St w w9 [_, _, _, _, _, _, _] from hs); clear hs)
      | (go_at_call 31; refine (equal_true ((K20.out.row [_]).sees) ((K20.out.row []).sees) rfl).mono ?_; rintro e w9 ⟨rfl, hu⟩; have K21 := Lib.hid (K20.out.step hu); clear hu)
      | (go_at_call 18; refine (SM.cells [_] K19.out).mono ?_; rintro e w9 ⟨u2, rfl, hs⟩; have K20 := Lib.hid (show St w w9 [_, _, _, _, _, _, _] from hs); clear hs)
      | (go_at_call 18; refine (SM.cells [_] K18.out).mono ?_; rintro e w9 ⟨u1, rfl, hs⟩; have K19 := Lib.hid (show St w w9 [_, _, _, _, _, _] from hs); clear hs)
      | (go_at_call 25; refine (SM.same false K17.out (SM.is [_] K17.out) (SM.is [] K17.out) (by decide)).mono ?_; rintro e w9 ⟨rfl, hs⟩; have K18 := Lib.hid hs; clear hs)
      | (go_at_call 16; refine (SM.alloc [] 1 _ 2 K16.out rfl (by decide) (by decide) rfl).mono ?_; rintro e w9 ⟨rfl, hs⟩; have K17 := Lib.hid (show St w w9 [MT b2 3 [0, 0, 0] [(0, 0), (0, 2), (2, 1)], _, _, _, _] from hs); clear hs)
      | (go_at_call 16; refine (SM.alloc [] 2 _ 1 K15.out rfl (by decide) (by decide) rfl).mono ?_; rintro e w9 ⟨rfl, hs⟩; have K16 := Lib.hid (show St w w9 [MT b2 3 [0, 0] [(0, 0), (0, 2)], _, _, _, _] from hs); clear hs)
      | (go_at_call 16; refine (SM.alloc [_] 2 _ 2 K14.out rfl (by decide) (by decide) rfl).mono ?_; rintro e w9 ⟨rfl, hs⟩; have K15 := Lib.hid (show St w w9 [_, MT a2 3 [0, 0, 0] [(0, 0), (0, 1), (1, 2)], _, _, _] from hs); clear hs)
      | (go_at_call 16; refine (SM.alloc [_] 1 _ 1 K13.out rfl (by decide) (by decide) rfl).mono ?_; rintro e w9 ⟨rfl, hs⟩; have K14 := Lib.hid (show St w w9 [_, MT a2 3 [0] [(0, 0), (0, 1)], _, _, _] from hs); clear hs)
      | (go_at_call 25; refine (SM.same true K12.out (SM.is [_] K12.out) (SM.is [] K12.out) (by decide)).mono ?_; rintro e w9 ⟨rfl, hs⟩; have K13 := Lib.hid hs; clear hs)
      | (go_at_call 15; refine (SM.new 3 _ K11.out rfl (by decide)).mono ?_; rintro e w9 ⟨b2, rfl, hs⟩; have K12 := Lib.hid hs; clear hs)
      | (go_at_call 15; refine (SM.new 3 _ K10.out rfl (by decide)).mono ?_; rintro e w9 ⟨a2, rfl, hs⟩; have K11 := Lib.hid hs; clear hs)
      | (go_at_call 22; refine (SM.load [_] (m + 1) 0 _ _ n K9.out (by omega) rfl LL.out.in LL.out.one (LL.out.at' n)).mono ?_; rintro e w9 ⟨rfl, hs⟩; have K10 := Lib.hid (show St w w9 [_, _, _] from hs); clear hs)
      | (simp only [hcl]))
    go_ret
    exact ⟨rfl, Upto.below ((Upto.of_below K23.out.base _).trans (Upto.of_below BF.out _))⟩

set_option maxRecDepth 10000 in
set_option maxHeartbeats 4000000 in
theorem mcopies_empty0 (a : Addr) (n : Int) (w : World) : Calls Try.prog 6 #[.slice (some a) 0 0, .int .i64 n] w fun e w' => e = .returned (.bool true) ∧ Below w.heap.size w w' := by
  obtain ⟨m, hm⟩ : ∃ m : Nat, m = 0 := ⟨0, rfl⟩
  have HL : Hid (Laid [] [(0, 0)] m) := Lib.hid (by subst hm; exact ⟨by simp, rfl, by omega⟩)
  have hm1 : m ≤ 10 := by omega
  have hm0 : (0 : Int) ≤ (m : Int) := by omega
  have Hm := Lib.hid hm; clear hm
  go_enter Try.func6, Try.ntmps6
  go_wp2_with (go_at_call 15; refine (SM.new 10000 _ (St.nil w) rfl (by decide)).mono ?_; rintro e w1 ⟨b, rfl, hs⟩; have S1 := Lib.hid hs; clear hs)
  obtain ⟨cs, ss, HM0, HL⟩ : ∃ cs ss, Hid (St w w1 [MT b 10000 cs ss]) ∧ Hid (Laid cs ss m) := ⟨_, _, S1, HL⟩
  clear S1 Hm
  go_loop [42] (fun i => i = .int .i64 0) (fun _ => 0)
  case atStart => rfl
  case round =>
    subst hrel
    go_wp2_with (first
      | (go_at_call 18; refine (SM.cells [] K7.out).mono ?_; rintro e w8 ⟨u, rfl, hs⟩; obtain ⟨uo, un, uc, rfl⟩ := row_shape hs; have K8 := Lib.hid (show St w w8 [RowT _ _, _, _] from hs); clear hs)
      | (go_at_call 22; refine (SM.load [_] (m + 1) 0 _ _ 0 K6.out (by omega) rfl LL.out.in LL.out.one LL.out.at).mono ?_; rintro e w9 ⟨rfl, hs⟩; have K7 := Lib.hid (show St w w9 [_, _] from hs); clear hs)
      | (go_at_call 25; refine (SM.same (n == 0) K5.out (SM.is [_] K5.out) (SM.is [] K5.out) (LL.out.eq n)).mono ?_; rintro e w9 ⟨rfl, hs⟩; have K6 := Lib.hid hs; clear hs)
      | (go_at_call 23; refine (SM.store [] (m + 1) 0 _ _ _ _ K4.out (by omega) rfl LL.out.in LL.out.one (LL.out.set n)).mono ?_; rintro e w9 ⟨rfl, hs⟩; have K5 := Lib.hid (show St w w9 [_, _] from hs); clear hs)
      | (go_at_call 25; refine (SM.same true K3.out (SM.is [_] K3.out) (SM.is [_] K3.out) (by simp)).mono ?_; rintro e w9 ⟨rfl, hs⟩; have K4 := Lib.hid hs; clear hs)
      | (go_at_call 25; refine (SM.same true K2.out (SM.is [_] K2.out) (SM.is [] K2.out) (by simp)).mono ?_; rintro e w9 ⟨rfl, hs⟩; have K3 := Lib.hid hs; clear hs)
      | (go_at_call 21; refine (SM.copy [] K1.out).mono ?_; rintro e w9 ⟨d, rfl, hs⟩; have K2 := Lib.hid (show St w w9 [_, _] from hs); clear hs)
      | (go_at_call 16; refine (SM.alloc [] 1 _ ((m : Int) + 1) HM0.out rfl HL.out.l1 HL.out.l2 HL.out.l3).mono ?_; rintro e w9 ⟨rfl, hs⟩; have hm2 := HL.out.more; generalize cs ++ List.replicate 1 0 = cs1 at *; generalize ss ++ [(cs.length, 1)] = ss1 at *; generalize cs.length = S at *; have LL := Lib.hid hm2; have K1 := Lib.hid hs; clear hs hm2 HL HM0))
    obtain ⟨wc, hcl, hs⟩ := K8.out.clear []
    have K9 := Lib.hid hs; clear hs
    go_wp2_with (first
      | (go_at_call 19; have tk := tok; refine (SM.count [_, _, _, _, _] ((m : Int) + 1) K22.out LL.out.count).mono ?_; rintro e w9 ⟨rfl, rfl⟩)
      | (go_at_call 20; refine (works29 _).mono ?_; rintro e w9 ⟨rfl, hb⟩; have BF := Lib.hid hb; clear hb)
      | (go_at_call 25; refine (SM.same false K22.out (SM.is [_, _, _, _, _, _] K22.out) (SM.is [_, _, _, _, _] K22.out) (LL.out.ne n)).mono ?_; rintro e w9 ⟨rfl, hs⟩; have K23 := Lib.hid hs; clear hs)
      | (go_at_call 19; refine (SM.count [_, _, _, _, _, _] ((m : Int) + 1 + 1) K22.out LL.out.count').mono ?_; rintro e w9 ⟨rfl, rfl⟩; have tok : True := trivial)
      | (go_at_call 16; refine (SM.alloc [_, _, _, _, _, _] 0 _ ((m : Int) + 1 + 1) K21.out rfl LL.out.room LL.out.few LL.out.len).mono ?_; rintro e w9 ⟨rfl, hs⟩; have K22 := Lib.hid (show St w w9 [_, _, _, _, _, _, _] from hs); clear hs)
      | (go_at_call 31; refine (equal_true ((K20.out.row [_]).sees) ((K20.out.row []).sees) rfl).mono ?_; rintro e w9 ⟨rfl, hu⟩; have K21 := Lib.hid (K20.out.step hu); clear hu)
      | (go_at_call 18; refine (SM.cells [_] K19.out).mono ?_; rintro e w9 ⟨u2, rfl, hs⟩; have K20 := Lib.hid (show St w w9 [_, _, _, _, _, _, _] from hs); clear hs)
      | (go_at_call 18; refine (SM.cells [_] K18.out).mono ?_; rintro e w9 ⟨u1, rfl, hs⟩; have K19 := Lib.hid (show St w w9 [_, _, _, _, _, _] from hs); clear hs)
      | (go_at_call 25; refine (SM.same false K17.out (SM.is [_] K17.out) (SM.is [] K17.out) (by decide)).mono ?_; rintro e w9 ⟨rfl, hs⟩; have K18 := Lib.hid hs; clear hs)
      | (go_at_call 16; refine (SM.alloc [] 1 _ 2 K16.out rfl (by decide) (by decide) rfl).mono ?_; rintro e w9 ⟨rfl, hs⟩; have K17 := Lib.hid (show St w w9 [MT b2 3 [0, 0, 0] [(0, 0), (0, 2), (2, 1)], _, _, _, _] from hs); clear hs)
      | (go_at_call 16; refine (SM.alloc [] 2 _ 1 K15.out rfl (by decide) (by decide) rfl).mono ?_; rintro e w9 ⟨rfl, hs⟩; have K16 := Lib.hid (show St w w9 [MT b2 3 [0, 0] [(0, 0), (0, 2)], _, _, _, _] from hs); clear hs)
      | (go_at_call 16; refine (SM.alloc [_] 2 _ 2 K14.out rfl (by decide) (by decide) rfl).mono ?_; rintro e w9 ⟨rfl, hs⟩; have K15 := Lib.hid (show St w w9 [_, MT a2 3 [0, 0, 0] [(0, 0), (0, 1), (1, 2)], _, _, _] from hs); clear hs)
      | (go_at_call 16; refine (SM.alloc [_] 1 _ 1 K13.out rfl (by decide) (by decide) rfl).mono ?_; rintro e w9 ⟨rfl, hs⟩; have K14 := Lib.hid (show St w w9 [_, MT a2 3 [0] [(0, 0), (0, 1)], _, _, _] from hs); clear hs)
      | (go_at_call 25; refine (SM.same true K12.out (SM.is [_] K12.out) (SM.is [] K12.out) (by decide)).mono ?_; rintro e w9 ⟨rfl, hs⟩; have K13 := Lib.hid hs; clear hs)
      | (go_at_call 15; refine (SM.new 3 _ K11.out rfl (by decide)).mono ?_; rintro e w9 ⟨b2, rfl, hs⟩; have K12 := Lib.hid hs; clear hs)
      | (go_at_call 15; refine (SM.new 3 _ K10.out rfl (by decide)).mono ?_; rintro e w9 ⟨a2, rfl, hs⟩; have K11 := Lib.hid hs; clear hs)
      | (go_at_call 22; refine (SM.load [_] (m + 1) 0 _ _ n K9.out (by omega) rfl LL.out.in LL.out.one (LL.out.at' n)).mono ?_; rintro e w9 ⟨rfl, hs⟩; have K10 := Lib.hid (show St w w9 [_, _, _] from hs); clear hs)
      | (simp only [hcl]))
    go_ret
    exact ⟨rfl, Upto.below ((Upto.of_below K23.out.base _).trans (Upto.of_below BF.out _))⟩

set_option maxRecDepth 10000 in
set_option maxHeartbeats 4000000 in
theorem mcopies_empty1 (a : Addr) (c : Nat) (n : Int) (w : World) : Calls Try.prog 6 #[.slice (some a) 0 (c + 1), .int .i64 n] w fun e w' => e = .returned (.bool true) ∧ Below w.heap.size w w' := by
  have hcz : (0 : Int) ≤ (c : Int) + 1 := by omega
  obtain ⟨m, hm⟩ : ∃ m : Nat, m = 0 := ⟨0, rfl⟩
  have HL : Hid (Laid [] [(0, 0)] m) := Lib.hid (by subst hm; exact ⟨by simp, rfl, by omega⟩)
  have hm1 : m ≤ 10 := by omega
  have hm0 : (0 : Int) ≤ (m : Int) := by omega
  have Hm := Lib.hid hm; clear hm
  go_enter Try.func6, Try.ntmps6
  go_wp2_with (go_at_call 15; refine (SM.new 10000 _ (St.nil w) rfl (by decide)).mono ?_; rintro e w1 ⟨b, rfl, hs⟩; have S1 := Lib.hid hs; clear hs)
  obtain ⟨cs, ss, HM0, HL⟩ : ∃ cs ss, Hid (St w w1 [MT b 10000 cs ss]) ∧ Hid (Laid cs ss m) := ⟨_, _, S1, HL⟩
  clear S1 Hm
  go_loop [42] (fun i => i = .int .i64 0) (fun _ => 0)
  case atStart => rfl
  case round =>
    subst hrel
    go_wp2_with (first
      | (go_at_call 18; refine (SM.cells [] K7.out).mono ?_; rintro e w8 ⟨u, rfl, hs⟩; obtain ⟨uo, un, uc, rfl⟩ := row_shape hs; have K8 := Lib.hid (show St w w8 [RowT _ _, _, _] from hs); clear hs)
      | (go_at_call 22; refine (SM.load [_] (m + 1) 0 _ _ 0 K6.out (by omega) rfl LL.out.in LL.out.one LL.out.at).mono ?_; rintro e w9 ⟨rfl, hs⟩; have K7 := Lib.hid (show St w w9 [_, _] from hs); clear hs)
      | (go_at_call 25; refine (SM.same (n == 0) K5.out (SM.is [_] K5.out) (SM.is [] K5.out) (LL.out.eq n)).mono ?_; rintro e w9 ⟨rfl, hs⟩; have K6 := Lib.hid hs; clear hs)
      | (go_at_call 23; refine (SM.store [] (m + 1) 0 _ _ _ _ K4.out (by omega) rfl LL.out.in LL.out.one (LL.out.set n)).mono ?_; rintro e w9 ⟨rfl, hs⟩; have K5 := Lib.hid (show St w w9 [_, _] from hs); clear hs)
      | (go_at_call 25; refine (SM.same true K3.out (SM.is [_] K3.out) (SM.is [_] K3.out) (by simp)).mono ?_; rintro e w9 ⟨rfl, hs⟩; have K4 := Lib.hid hs; clear hs)
      | (go_at_call 25; refine (SM.same true K2.out (SM.is [_] K2.out) (SM.is [] K2.out) (by simp)).mono ?_; rintro e w9 ⟨rfl, hs⟩; have K3 := Lib.hid hs; clear hs)
      | (go_at_call 21; refine (SM.copy [] K1.out).mono ?_; rintro e w9 ⟨d, rfl, hs⟩; have K2 := Lib.hid (show St w w9 [_, _] from hs); clear hs)
      | (go_at_call 16; refine (SM.alloc [] 1 _ ((m : Int) + 1) HM0.out rfl HL.out.l1 HL.out.l2 HL.out.l3).mono ?_; rintro e w9 ⟨rfl, hs⟩; have hm2 := HL.out.more; generalize cs ++ List.replicate 1 0 = cs1 at *; generalize ss ++ [(cs.length, 1)] = ss1 at *; generalize cs.length = S at *; have LL := Lib.hid hm2; have K1 := Lib.hid hs; clear hs hm2 HL HM0))
    obtain ⟨wc, hcl, hs⟩ := K8.out.clear []
    have K9 := Lib.hid hs; clear hs
    go_wp2_with (first
      | (go_at_call 19; have tk := tok; refine (SM.count [_, _, _, _, _] ((m : Int) + 1) K22.out LL.out.count).mono ?_; rintro e w9 ⟨rfl, rfl⟩)
      | (go_at_call 20; refine (works29 _).mono ?_; rintro e w9 ⟨rfl, hb⟩; have BF := Lib.hid hb; clear hb)
      | (go_at_call 25; refine (SM.same false K22.out (SM.is [_, _, _, _, _, _] K22.out) (SM.is [_, _, _, _, _] K22.out) (LL.out.ne n)).mono ?_; rintro e w9 ⟨rfl, hs⟩; have K23 := Lib.hid hs; clear hs)
      | (go_at_call 19; refine (SM.count [_, _, _, _, _, _] ((m : Int) + 1 + 1) K22.out LL.out.count').mono ?_; rintro e w9 ⟨rfl, rfl⟩; have tok : True := trivial)
      | (go_at_call 16; refine (SM.alloc [_, _, _, _, _, _] 0 _ ((m : Int) + 1 + 1) K21.out rfl LL.out.room LL.out.few LL.out.len).mono ?_; rintro e w9 ⟨rfl, hs⟩; have K22 := Lib.hid (show St w w9 [_, _, _, _, _, _, _] from hs); clear hs)
      | (go_at_call 31; refine (equal_true ((K20.out.row [_]).sees) ((K20.out.row []).sees) rfl).mono ?_; rintro e w9 ⟨rfl, hu⟩; have K21 := Lib.hid (K20.out.step hu); clear hu)
      | (go_at_call 18; refine (SM.cells [_] K19.out).mono ?_; rintro e w9 ⟨u2, rfl, hs⟩; have K20 := Lib.hid (show St w w9 [_, _, _, _, _, _, _] from hs); clear hs)
      | (go_at_call 18; refine (SM.cells [_] K18.out).mono ?_; rintro e w9 ⟨u1, rfl, hs⟩; have K19 := Lib.hid (show St w w9 [_, _, _, _, _, _] from hs); clear hs)
      | (go_at_call 25; refine (SM.same false K17.out (SM.is [_] K17.out) (SM.is [] K17.out) (by decide)).mono ?_; rintro e w9 ⟨rfl, hs⟩; have K18 := Lib.hid hs; clear hs)
      | (go_at_call 16; refine (SM.alloc [] 1 _ 2 K16.out rfl (by decide) (by decide) rfl).mono ?_; rintro e w9 ⟨rfl, hs⟩; have K17 := Lib.hid (show St w w9 [MT b2 3 [0, 0, 0] [(0, 0), (0, 2), (2, 1)], _, _, _, _] from hs); clear hs)
      | (go_at_call 16; refine (SM.alloc [] 2 _ 1 K15.out rfl (by decide) (by decide) rfl).mono ?_; rintro e w9 ⟨rfl, hs⟩; have K16 := Lib.hid (show St w w9 [MT b2 3 [0, 0] [(0, 0), (0, 2)], _, _, _, _] from hs); clear hs)
      | (go_at_call 16; refine (SM.alloc [_] 2 _ 2 K14.out rfl (by decide) (by decide) rfl).mono ?_; rintro e w9 ⟨rfl, hs⟩; have K15 := Lib.hid (show St w w9 [_, MT a2 3 [0, 0, 0] [(0, 0), (0, 1), (1, 2)], _, _, _] from hs); clear hs)
      | (go_at_call 16; refine (SM.alloc [_] 1 _ 1 K13.out rfl (by decide) (by decide) rfl).mono ?_; rintro e w9 ⟨rfl, hs⟩; have K14 := Lib.hid (show St w w9 [_, MT a2 3 [0] [(0, 0), (0, 1)], _, _, _] from hs); clear hs)
      | (go_at_call 25; refine (SM.same true K12.out (SM.is [_] K12.out) (SM.is [] K12.out) (by decide)).mono ?_; rintro e w9 ⟨rfl, hs⟩; have K13 := Lib.hid hs; clear hs)
      | (go_at_call 15; refine (SM.new 3 _ K11.out rfl (by decide)).mono ?_; rintro e w9 ⟨b2, rfl, hs⟩; have K12 := Lib.hid hs; clear hs)
      | (go_at_call 15; refine (SM.new 3 _ K10.out rfl (by decide)).mono ?_; rintro e w9 ⟨a2, rfl, hs⟩; have K11 := Lib.hid hs; clear hs)
      | (go_at_call 22; refine (SM.load [_] (m + 1) 0 _ _ n K9.out (by omega) rfl LL.out.in LL.out.one (LL.out.at' n)).mono ?_; rintro e w9 ⟨rfl, hs⟩; have K10 := Lib.hid (show St w w9 [_, _, _] from hs); clear hs)
      | (simp only [hcl]))
    go_ret
    exact ⟨rfl, Upto.below ((Upto.of_below K23.out.base _).trans (Upto.of_below BF.out _))⟩

theorem mcopies_true (n : Int) {v : Value} {ns : List Nat} {w : World} (h : BSees w v ns) : Calls Try.prog 6 #[v, .int .i64 n] w fun e w' => e = .returned (.bool true) ∧ Below w.heap.size w w' := by
  rcases h with ⟨rfl, rfl | ⟨a, c, rfl⟩⟩ | ⟨g, o, c, rfl, hc, hg, hb, hcell⟩
  · exact mcopies_none n w
  · obtain _ | c := c
    · exact mcopies_empty0 a n w
    · exact mcopies_empty1 a c n w
  · obtain ⟨m, hm⟩ : ∃ m, m = min ns.length 10 := ⟨_, rfl⟩
    have hl : (ns.take m).length = m := by rw [List.length_take]; omega
    have hget : ∀ j, j < m → (ns.take m)[j]?.getD 0 = ns[j]?.getD 0 := fun j hj => by rw [List.getElem?_take, if_pos hj]
    refine mcopies_some g o ns.length c m (ns.take m) n w hl (by omega) (by omega) hc hg (fun j hj => ?_) ?_ (fun j hj => ?_)
    · rw [hget j (by omega)]; exact hb j (by omega)
    · split <;> omega
    · rw [hget j hj]; exact hcell j (by omega)

end Go.Proofs.Ytjganbcolaakkaa
