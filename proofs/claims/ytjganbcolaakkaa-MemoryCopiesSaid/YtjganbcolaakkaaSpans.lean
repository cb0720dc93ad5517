/-
  The law of the spans, walked.
-/
import Derived.Test.YtjganbcolaakkaaWorksB
import Derived.Test.YtjganbcolaakkaaFrame
namespace Go.Proofs.Ytjganbcolaakkaa
open Go.RowKit

def spansFrom : Nat → List Nat → List (Nat × Nat)
  | _, [] => []
  | f, n :: ns => (f, n) :: spansFrom (f + n) ns
theorem spansFrom_snoc (n : Nat) : ∀ (ns : List Nat) (f : Nat), spansFrom f (ns ++ [n]) = spansFrom f ns ++ [(f + ns.sum, n)]
  | [], f => by simp [spansFrom]
  | m :: ns, f => by simp [spansFrom, spansFrom_snoc n ns, Nat.add_assoc]
theorem spansFrom_length : ∀ (ns : List Nat) (f : Nat), (spansFrom f ns).length = ns.length
  | [], f => rfl
  | m :: ns, f => by simp [spansFrom, spansFrom_length ns]
theorem spansFrom_get : ∀ (ns : List Nat) (f j : Nat), j < ns.length → (spansFrom f ns)[j]?.getD (0, 0) = (f + (ns.take j).sum, ns[j]?.getD 0)
  | [], f, j, h => by simp at h
  | m :: ns, f, 0, h => by simp [spansFrom]
  | m :: ns, f, j + 1, h => by
    have := spansFrom_get ns (f + m) j (by simpa using h)
    simp [spansFrom, this, Nat.add_assoc]
theorem take_snoc {ns : List Nat} {k : Nat} (h : k < ns.length) : ns.take k ++ [ns[k]?.getD 0] = ns.take (k + 1) := by
  rw [List.take_add_one, List.getElem?_eq_getElem h]
  rfl
theorem take_sum_succ {ns : List Nat} {j : Nat} (h : j < ns.length) : (ns.take (j + 1)).sum = (ns.take j).sum + ns[j]?.getD 0 := by
  rw [← take_snoc h, List.sum_append]
  simp
theorem take_sum_le {ns : List Nat} (hb : ∀ j, j < ns.length → ns[j]?.getD 0 ≤ 255) : ∀ j, j ≤ ns.length → (ns.take j).sum ≤ 255 * j
  | 0, _ => by simp
  | j + 1, h => by
    have := take_sum_le hb j (by omega)
    have := hb j (by omega)
    rw [take_sum_succ (by omega)]
    omega

/-- The memory behind these lengths. -/
def mSpans (ns : List Nat) : List (Nat × Nat) := (0, 0) :: spansFrom 0 ns
theorem mSpans_snoc (ns : List Nat) (n : Nat) : mSpans (ns ++ [n]) = mSpans ns ++ [(ns.sum, n)] := by simp [mSpans, spansFrom_snoc]
theorem mSpans_length (ns : List Nat) : (mSpans ns).length = ns.length + 1 := by simp [mSpans, spansFrom_length]
theorem mSpans_get (ns : List Nat) (j : Nat) (h : j < ns.length) : (mSpans ns).getD (j + 1) (0, 0) = ((ns.take j).sum, ns[j]?.getD 0) := by
  have := spansFrom_get ns 0 j h
  simpa [mSpans, List.getD] using this
set_option maxRecDepth 10000 in
set_option maxHeartbeats 4000000 in
theorem spans_some (g o L c m : Nat) (ns : List Nat) (w : World) (hns : ns.length = m) (hm : m ≤ 39) (hmL : m ≤ L) (hLc : L ≤ c) (hg : g < w.heap.size) (hb : ∀ j, j < ns.length → ns[j]?.getD 0 ≤ 255)
    (hmin : (if (39 : Int) < (L : Int) then (39 : Int) else (L : Int)) = (m : Int)) (hcell : ∀ j, j < m → w.cell? ⟨g, o + j, none⟩ = some (.int .u8 ((ns[j]?.getD 0 : Nat) : Int))) :
    Calls Try.prog 3 #[.slice (some ⟨g, o, none⟩) L c] w fun e w' => e = .returned (.bool true) ∧ Below w.heap.size w w' := by
  have Hcell := Lib.hid hcell; clear hcell
  have Hns := Lib.hid hns; clear hns
  have Hb := Lib.hid hb; clear hb
  have hmc : (m : Int) ≤ (c : Int) := by omega
  have hm0 : (0 : Int) ≤ (m : Int) := by omega
  go_enter Try.func3, Try.ntmps3
  go_wp2_with (go_at_call 15; refine (mnew_own 10000 _ _ rfl (by decide)).mono ?_; rintro e w1 ⟨b, rfl, hs⟩; have S1 := Lib.hid hs; clear hs)
  go_loopw [34] (fun i wr => ∃ j : Nat, j ≤ m ∧ i = .int .i64 j ∧ Hid (MOwn w wr b 10000 (List.replicate (ns.take j).sum 0) (mSpans (ns.take j)) (fun _ => False))) (fun i _ => m - (intOf i).toNat)
  case atStart => exact ⟨0, Nat.zero_le _, rfl, S1⟩
  case round =>
    obtain ⟨j, hj, rfl, hM⟩ := hrel
    by_cases hlt : j < m
    · have hcur := (hM.out.base.cell (p := ⟨g, o + j, none⟩) hg).trans (Hcell.out j hlt)
      have hjl : j < ns.length := by rw [Hns.out]; exact hlt
      have hn255 := Hb.out j hjl
      have hsum := take_sum_le Hb.out j (by omega)
      have hsnoc := take_snoc hjl
      have hsucc := take_sum_succ hjl
      have Hsucc := Lib.hid hsucc; clear hsucc
      generalize hnj : ns[j]?.getD 0 = n at *
      have Hsum := Lib.hid hsum; clear hsum
      have Hsnoc := Lib.hid hsnoc; clear hsnoc
      have Hjl := Lib.hid hjl; clear hjl
      clear hnj
      go_wp2_with (go_at_call 16; refine (MOwn.alloc n _ ((j : Int) + 1) hM.out rfl (by have := Hsum.out; rw [List.length_replicate]; omega) (by have := Hjl.out; rw [mSpans_length, List.length_take]; omega) (by have := Hjl.out; rw [mSpans_length, List.length_take]; omega)).mono ?_; rintro e w3 ⟨rfl, hs, _⟩; have M3 := Lib.hid hs; clear hs)
      go_roundw
      case rel =>
        refine ⟨j + 1, by omega, by go_num, ?_⟩
        have h := M3.out
        rw [List.length_replicate, ← mSpans_snoc, Hsnoc.out, List.replicate_append_replicate, ← Hsucc.out] at h
        exact Lib.hid h
      case measure => simp [intOf]; omega
    · obtain rfl : j = m := by omega
      have hall : ns.take j = ns := List.take_of_length_le (by rw [Hns.out]; exact Nat.le_refl _)
      have hMM := hM.out
      rw [hall] at hMM
      have M5 := Lib.hid hMM; clear hMM hM hlt hj
      have hS := take_sum_le Hb.out j (by rw [Hns.out]; exact Nat.le_refl _)
      rw [hall] at hS
      have HS := Lib.hid hS; clear hS
      have Hall := Lib.hid hall; clear hall
      go_wp2
      go_loopw [62, 5] (fun i en wr2 => ∃ k : Nat, k ≤ j ∧ i = .int .i64 k ∧ en = .int .i64 ((ns.take k).sum : Nat) ∧ Hid (MOwn w wr2 b 10000 (List.replicate ns.sum 0) (mSpans ns) (fun _ => False))) (fun i _ _ => j - (intOf i).toNat)
      case atStart => exact ⟨0, Nat.zero_le _, rfl, rfl, M5⟩
      case round =>
        obtain ⟨k, hk, rfl, rfl, hM2⟩ := hrel
        by_cases hlt : k < j
        · have hcur := (hM2.out.base.cell (p := ⟨g, o + k, none⟩) hg).trans (Hcell.out k hlt)
          have hjl : k < ns.length := by rw [Hns.out]; exact hlt
          have hn255 := Hb.out k hjl
          have hsum := take_sum_le Hb.out k (by omega)
          have hsucc := take_sum_succ hjl
          have hget := mSpans_get ns k hjl
          generalize hnj : ns[k]?.getD 0 = n at *
          generalize hsk : (ns.take k).sum = s at *
          generalize hsk1 : (ns.take (k + 1)).sum = s1 at *
          have hs10 : s + n ≤ 10000 := by omega
          have Hget := Lib.hid hget; clear hget
          have Hsucc := Lib.hid hsucc; clear hsucc
          have Hsk1 := Lib.hid hsk1; clear hsk1
          have Hjl := Lib.hid hjl; clear hjl
          clear hnj hsk hsum
          go_wp2_with (go_at_call 17; refine (MOwn.span (k + 1) _ s n hM2.out (by omega) (by rw [mSpans_length]; have := Hjl.out; omega) (by rw [Hget.out]) (by rw [Hget.out])).mono ?_; rintro e w3 ⟨rfl, hu⟩; have M3 := Lib.hid (hM2.out.step hu); clear hu)
          go_roundw
          case rel => exact ⟨k + 1, by omega, by go_num, by rw [Hsk1.out, Hsucc.out]; go_num, M3⟩
          case measure => simp [intOf]; omega
        · obtain rfl : k = j := by omega
          rw [Hall.out]
          have hl0 : (List.replicate ns.sum (0 : Int)).length = ns.sum := List.length_replicate
          have Hl0 := Lib.hid hl0; clear hl0
          go_wp2_with (first
            | (go_at_call 19; refine (MOwn.count k M7.out (by rw [mSpans_length, Hns.out]; omega)).mono ?_; rintro e w8 ⟨rfl, rfl⟩)
            | (go_at_call 18; refine M6.out.cells.mono ?_; rintro e w7 ⟨u, rfl, hr, _, hu⟩; obtain ⟨uo, uc, rfl, _, _⟩ := hr.slice; rw [Hl0.out]; rw [Hl0.out] at hr; have RC := Lib.hid hr; have M7 := Lib.hid (M6.out.step hu); clear hr hu)
            | (go_at_call 17; refine (MOwn.span 0 _ 0 0 hM2.out rfl (by rw [mSpans_length]; omega) rfl rfl).mono ?_; rintro e w6 ⟨rfl, hu⟩; have M6 := Lib.hid (hM2.out.step hu); clear hu))
          have HS' := HS.out
          clear HS
          generalize ns.sum = S at *
          have hS2 : S ≤ 9945 := by omega
          have HS2 := Lib.hid hS2; clear hS2
          clear HS' hmin hmc hm0 hmL hk hlt
          by_cases hS0 : 0 < S
          · obtain ⟨g2, o2, c2, e2, _, _, _, hc2⟩ := RC.out.sees.cellsAt (by rw [Hl0.out]; exact hS0)
            simp only [Value.slice.injEq] at e2
            obtain ⟨rfl, e3, e4⟩ := e2
            clear e3 e4
            have HC2 : Hid (∀ t, t < S → w7.cell? ⟨g2, o2 + t, none⟩ = some (.int .i64 0)) := Lib.hid fun t ht => by
              rw [hc2 t (by rw [Hl0.out]; exact ht)]
              simp [List.getD, ht]
            clear hc2
            go_loop [125] (fun i => ∃ t : Nat, t ≤ S ∧ i = .int .i64 t) (fun i => S - (intOf i).toNat)
            case atStart => exact ⟨0, Nat.zero_le _, rfl⟩
            case round =>
              obtain ⟨t, ht, rfl⟩ := hrel
              by_cases htS : t < S
              · have hct := HC2.out t htS
                have htb : (t : Int) ≤ 9945 := by have := HS2.out; omega
                go_wp2
                go_round
                case rel => exact ⟨t + 1, by omega, by go_num⟩
                case measure => simp [intOf]; omega
              · obtain rfl : t = S := by omega
                go_wp2_with (go_at_call 20; refine (works29 _).mono ?_; rintro e w9 ⟨rfl, hb⟩)
                go_ret
                exact ⟨rfl, Upto.below ((Upto.of_below M7.out.base _).trans (Upto.of_below hb _))⟩
          · obtain rfl : S = 0 := by omega
            go_loop [125] (fun i => i = .int .i64 0) (fun _ => 0)
            case atStart => rfl
            case round =>
              subst hrel
              go_wp2_with (go_at_call 20; refine (works29 _).mono ?_; rintro e w9 ⟨rfl, hb⟩)
              go_ret
              exact ⟨rfl, Upto.below ((Upto.of_below M7.out.base _).trans (Upto.of_below hb _))⟩


set_option maxRecDepth 10000 in
set_option maxHeartbeats 4000000 in
theorem spans_none (w : World) : Calls Try.prog 3 #[.slice none 0 0] w fun e w' => e = .returned (.bool true) ∧ Below w.heap.size w w' := by
  go_enter Try.func3, Try.ntmps3
  go_wp2_with (go_at_call 15; refine (mnew_own 10000 _ _ rfl (by decide)).mono ?_; rintro e w1 ⟨b, rfl, hs⟩; have S1 := Lib.hid hs; clear hs)
  go_loop [34] (fun i => i = .int .i64 0) (fun _ => 0)
  case atStart => rfl
  case round =>
    subst hrel
    go_wp2
    go_loop [62, 5] (fun i en => i = .int .i64 0 ∧ en = .int .i64 0) (fun _ _ => 0)
    case atStart => exact ⟨rfl, rfl⟩
    case round =>
      obtain ⟨rfl, rfl⟩ := hrel
      go_wp2_with (first
        | (go_at_call 19; refine (MOwn.count 0 M7.out (by decide)).mono ?_; rintro e w8 ⟨rfl, rfl⟩)
        | (go_at_call 18; refine M6.out.cells.mono ?_; rintro e w7 ⟨u, rfl, hr, _, hu⟩; obtain ⟨uo, uc, rfl, _, _⟩ := hr.slice; have M7 := Lib.hid (M6.out.step hu); clear hr hu)
        | (go_at_call 17; refine (MOwn.span 0 _ 0 0 S1.out rfl (by decide) rfl rfl).mono ?_; rintro e w6 ⟨rfl, hu⟩; have M6 := Lib.hid (S1.out.step hu); clear hu))
      go_loop [125] (fun i => i = .int .i64 0) (fun _ => 0)
      case atStart => rfl
      case round =>
        subst hrel
        go_wp2_with (go_at_call 20; refine (works29 _).mono ?_; rintro e w9 ⟨rfl, hb⟩)
        go_ret
        exact ⟨rfl, Upto.below ((Upto.of_below M7.out.base _).trans (Upto.of_below hb _))⟩

set_option maxRecDepth 10000 in
set_option maxHeartbeats 4000000 in
theorem spans_empty0 (a : Addr) (w : World) : Calls Try.prog 3 #[.slice (some a) 0 0] w fun e w' => e = .returned (.bool true) ∧ Below w.heap.size w w' := by
  go_enter Try.func3, Try.ntmps3
  go_wp2_with (go_at_call 15; refine (mnew_own 10000 _ _ rfl (by decide)).mono ?_; rintro e w1 ⟨b, rfl, hs⟩; have S1 := Lib.hid hs; clear hs)
  go_loop [34] (fun i => i = .int .i64 0) (fun _ => 0)
  case atStart => rfl
  case round =>
    subst hrel
    go_wp2
    go_loop [62, 5] (fun i en => i = .int .i64 0 ∧ en = .int .i64 0) (fun _ _ => 0)
    case atStart => exact ⟨rfl, rfl⟩
    case round =>
      obtain ⟨rfl, rfl⟩ := hrel
      go_wp2_with (first
        | (go_at_call 19; refine (MOwn.count 0 M7.out (by decide)).mono ?_; rintro e w8 ⟨rfl, rfl⟩)
        | (go_at_call 18; refine M6.out.cells.mono ?_; rintro e w7 ⟨u, rfl, hr, _, hu⟩; obtain ⟨uo, uc, rfl, _, _⟩ := hr.slice; have M7 := Lib.hid (M6.out.step hu); clear hr hu)
        | (go_at_call 17; refine (MOwn.span 0 _ 0 0 S1.out rfl (by decide) rfl rfl).mono ?_; rintro e w6 ⟨rfl, hu⟩; have M6 := Lib.hid (S1.out.step hu); clear hu))
      go_loop [125] (fun i => i = .int .i64 0) (fun _ => 0)
      case atStart => rfl
      case round =>
        subst hrel
        go_wp2_with (go_at_call 20; refine (works29 _).mono ?_; rintro e w9 ⟨rfl, hb⟩)
        go_ret
        exact ⟨rfl, Upto.below ((Upto.of_below M7.out.base _).trans (Upto.of_below hb _))⟩

set_option maxRecDepth 10000 in
set_option maxHeartbeats 4000000 in
theorem spans_empty1 (a : Addr) (c : Nat) (w : World) : Calls Try.prog 3 #[.slice (some a) 0 (c + 1)] w fun e w' => e = .returned (.bool true) ∧ Below w.heap.size w w' := by
  have hcz : (0 : Int) ≤ (c : Int) + 1 := by omega
  go_enter Try.func3, Try.ntmps3
  go_wp2_with (go_at_call 15; refine (mnew_own 10000 _ _ rfl (by decide)).mono ?_; rintro e w1 ⟨b, rfl, hs⟩; have S1 := Lib.hid hs; clear hs)
  go_loop [34] (fun i => i = .int .i64 0) (fun _ => 0)
  case atStart => rfl
  case round =>
    subst hrel
    go_wp2
    go_loop [62, 5] (fun i en => i = .int .i64 0 ∧ en = .int .i64 0) (fun _ _ => 0)
    case atStart => exact ⟨rfl, rfl⟩
    case round =>
      obtain ⟨rfl, rfl⟩ := hrel
      go_wp2_with (first
        | (go_at_call 19; refine (MOwn.count 0 M7.out (by decide)).mono ?_; rintro e w8 ⟨rfl, rfl⟩)
        | (go_at_call 18; refine M6.out.cells.mono ?_; rintro e w7 ⟨u, rfl, hr, _, hu⟩; obtain ⟨uo, uc, rfl, _, _⟩ := hr.slice; have M7 := Lib.hid (M6.out.step hu); clear hr hu)
        | (go_at_call 17; refine (MOwn.span 0 _ 0 0 S1.out rfl (by decide) rfl rfl).mono ?_; rintro e w6 ⟨rfl, hu⟩; have M6 := Lib.hid (S1.out.step hu); clear hu))
      go_loop [125] (fun i => i = .int .i64 0) (fun _ => 0)
      case atStart => rfl
      case round =>
        subst hrel
        go_wp2_with (go_at_call 20; refine (works29 _).mono ?_; rintro e w9 ⟨rfl, hb⟩)
        go_ret
        exact ⟨rfl, Upto.below ((Upto.of_below M7.out.base _).trans (Upto.of_below hb _))⟩

/-- A slice of bytes that came in. -/
def BSees (w : World) (v : Value) (ns : List Nat) : Prop :=
  (ns = [] ∧ ((v = .slice none 0 0) ∨ ∃ a c, v = .slice (some a) 0 c)) ∨
    ∃ g o c, v = .slice (some ⟨g, o, none⟩) ns.length c ∧ ns.length ≤ c ∧ g < w.heap.size ∧ (∀ j, j < ns.length → ns[j]?.getD 0 ≤ 255) ∧ ∀ j, j < ns.length → w.cell? ⟨g, o + j, none⟩ = some (.int .u8 ((ns[j]?.getD 0 : Nat) : Int))

theorem spans_true {v : Value} {ns : List Nat} {w : World} (h : BSees w v ns) : Calls Try.prog 3 #[v] w fun e w' => e = .returned (.bool true) ∧ Below w.heap.size w w' := by
  rcases h with ⟨rfl, rfl | ⟨a, c, rfl⟩⟩ | ⟨g, o, c, rfl, hc, hg, hb, hcell⟩
  · exact spans_none w
  · obtain _ | c := c
    · exact spans_empty0 a w
    · exact spans_empty1 a c w
  · obtain ⟨m, hm⟩ : ∃ m, m = min ns.length 39 := ⟨_, rfl⟩
    have hl : (ns.take m).length = m := by rw [List.length_take]; omega
    have hget : ∀ j, j < m → (ns.take m)[j]?.getD 0 = ns[j]?.getD 0 := fun j hj => by rw [List.getElem?_take, if_pos hj]
    refine spans_some g o ns.length c m (ns.take m) w hl (by omega) (by omega) hc hg (fun j hj => ?_) ?_ (fun j hj => ?_)
    · rw [hget j (by omega)]; exact hb j (by omega)
    · split <;> omega
    · rw [hget j hj]; exact hcell j (by omega)

set_option maxRecDepth 100000 in
theorem bytes_seen {H : Type} {enc : TypeId × Value → H} {W : World} {r : Reach} {b0 : Nat} {v : Value} {d : DataW H} {ps : List MemPlace} (hval : Value.okWide Try.prog W r b0 22 v) (h : DataW.Trod enc Try.prog W 0 (fun _ => true) true 22 v d ps) :
    ∃ ns : List Nat, BSees W v ns ∧ True := by
  obtain ⟨a0, len, cap, rfl⟩ := WideShapes.okWide_slice Try.underlying22 hval
  obtain ⟨fuel, hf⟩ := h
  have hc : Try.prog.cellsOf 5 = 1 := by kernel_rfl
  rcases ChangeShapes.open_ints Try.underlying22 Try.underlying5 hc hf with ⟨hcs, hx⟩ | ⟨a, len', cap', zs, hcs, _, hle, hmax, hall, hx, hcell, hwf⟩
  · simp [Value.cells] at hcs
    obtain ⟨rfl, rfl, rfl⟩ := hcs
    exact ⟨[], Or.inl ⟨rfl, Or.inl rfl⟩, trivial⟩
  · simp [Value.cells] at hcs
    obtain ⟨rfl, rfl, rfl⟩ := hcs
    simp only [if_true] at hall
    by_cases h0 : len = 0
    · subst h0
      exact ⟨[], Or.inl ⟨rfl, Or.inr ⟨_, _, rfl⟩⟩, trivial⟩
    · have hl : ((zs.take len).map Int.toNat).length = len := by simp; omega
      have hz : ∀ j, j < len → 0 ≤ zs.getD j 0 ∧ zs.getD j 0 ≤ 255 ∧ ((zs.take len).map Int.toNat)[j]?.getD 0 = (zs.getD j 0).toNat := fun j hj => by
        have hj' : j < zs.length := by omega
        have h1 := bounds_u8 (hwf zs[j] (List.getElem_mem hj'))
        have h2 : zs.getD j 0 = zs[j] := by simp [List.getD, hj']
        rw [h2]
        refine ⟨h1.1, h1.2, ?_⟩
        simp [hj, hj']
      obtain ⟨b, off, rfl, hat⟩ := Go.ints_at hcell (by omega)
      refine ⟨(zs.take len).map Int.toNat, Or.inr ⟨b, off, cap, by rw [hl], by rw [hl]; exact hle, World.block_lt_of_cell? _ _ (hat 0 (by omega)), fun j hj => ?_, fun j hj => ?_⟩, trivial⟩
      · rw [hl] at hj
        rw [(hz j hj).2.2]
        have := hz j hj
        omega
      · rw [hl] at hj
        rw [hat j (by omega), (hz j hj).2.2]
        have := hz j hj
        congr 2
        omega

end Go.Proofs.Ytjganbcolaakkaa
