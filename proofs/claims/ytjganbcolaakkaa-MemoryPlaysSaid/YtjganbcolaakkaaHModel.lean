/-
  The law of the model of the heaps, walked.
-/
import Derived.Test.YtjganbcolaakkaaWorksH
import Derived.Test.YtjganbcolaakkaaMat
import Derived.Test.YtjganbcolaakkaaFrame
import Derived.Deep.RegionLaw
namespace Go.Proofs.Ytjganbcolaakkaa
open Go.RowKit

/-- Changes in memory: four cells each. -/
structure Chg (w : World) (g o m : Nat) (ks hs is : Nat → Nat) (ns : Nat → Int) : Prop where
  c0 : ∀ j, j < m → w.cell? ⟨g, o + j * 4, none⟩ = some (.int .u8 (ks j : Nat))
  c1 : ∀ j, j < m → w.cell? ⟨g, o + j * 4 + 1, none⟩ = some (.int .u8 (hs j : Nat))
  c2 : ∀ j, j < m → w.cell? ⟨g, o + j * 4 + 2, none⟩ = some (.int .u8 (is j : Nat))
  c3 : ∀ j, j < m → w.cell? ⟨g, o + j * 4 + 3, none⟩ = some (.int .i64 (ns j))
  b : ∀ j, j < m → ks j ≤ 255 ∧ hs j ≤ 255 ∧ is j ≤ 255

theorem Row.cellAt {w : World} {so : Option Addr} {sc : Nat} {xs : List Int} (h : Row w (.slice so xs.length sc) xs) (i : Nat) (hi : i < xs.length) : ∃ g, so = some ⟨g, 0, none⟩ ∧ g < w.heap.size ∧ w.cell? ⟨g, i, none⟩ = some (.int .i64 (xs.getD i 0)) ∧ w.frozen? ⟨g, i, none⟩ = false := by
  obtain ⟨g, c, e, _, _, hg⟩ := row_first h (by omega)
  simp only [Value.slice.injEq] at e
  obtain ⟨rfl, _, rfl⟩ := e
  exact ⟨g, rfl, hg, by rw [World.ownsRow.cellAt h i (by omega), getElem?_map_int hi], World.ownsRow.frozenAt h i⟩

section
variable {w0 w : World} {l2 : List Thing} {gm n cm : Nat} {ls : List (List Int)}
theorem St.matCell (l1 : List Thing) (j : Nat) (h : St w0 w (l1 ++ MatT (.slice (some ⟨gm, 0, none⟩) n cm) ls :: l2)) (hj : j < ls.length) : ∃ so sc, w.cell? ⟨gm, j, none⟩ = some (.slice so (ls.getD j []).length sc) ∧ Row w (.slice so (ls.getD j []).length sc) (ls.getD j []) := by
  obtain ⟨F, hA, _⟩ := h.get l1
  obtain ⟨g, c, so, sc, F1, e, hc, hr, _⟩ := hA.row j hj
  simp only [Value.slice.injEq, Option.some.injEq, Addr.mk.injEq] at e
  obtain ⟨⟨rfl, _⟩, _⟩ := e
  exact ⟨so, sc, hc, hr⟩
theorem St.matPut (l1 : List Thing) [Goods l1] [Goods l2] (j i : Nat) (h : St w0 w (l1 ++ MatT (.slice (some ⟨gm, 0, none⟩) n cm) ls :: l2)) (hj : j < ls.length) (hi : i < (ls.getD j []).length) : ∃ gr sc, w.cell? ⟨gm, j, none⟩ = some (.slice (some ⟨gr, 0, none⟩) (ls.getD j []).length sc) ∧ gr < w.heap.size ∧
    w.cell? ⟨gr, i, none⟩ = some (.int .i64 ((ls.getD j []).getD i 0)) ∧ w.frozen? ⟨gr, i, none⟩ = false ∧ ∀ z w1, Upto (fun _ => False) w w1 → St w0 (w1.setCell ⟨gr, i, none⟩ (.int .i64 z)) (l1 ++ MatT (.slice (some ⟨gm, 0, none⟩) n cm) (ls.set j ((ls.getD j []).set i z)) :: l2) := by
  obtain ⟨F, hA, _, close⟩ := h.focus l1
  obtain ⟨g, c, so, sc, F1, e, hc, hr, hF, hF1, ht⟩ := hA.row j hj
  simp only [Value.slice.injEq, Option.some.injEq, Addr.mk.injEq] at e
  obtain ⟨⟨rfl, _⟩, _⟩ := e
  obtain ⟨gr, rfl, hg, hc2, hf2⟩ := hr.cellAt i hi
  refine ⟨gr, sc, hc, hg, hc2, hf2, fun z w1 hu => close _ _ (ht _ _ ?_)⟩
  have r1 := row_put (hr.kept hu (fun _ _ => id)) i z
  exact ⟨_, RowT.of r1, (hu.mono (fun _ _ h => h.elim)).setCell (Or.inl (hF1 gr rfl)) _, fun k hk => Or.inl (hF1 k hk)⟩
/-- A slice of rows whose values are known. -/
def MatV (u : Value) (vs : List Value) (ls : List (List Int)) : Thing := fun w F => vs.length = ls.length ∧ All (VRowT TII u vs :: RowsT vs ls) w F
instance (u : Value) (vs : List Value) (ls : List (List Int)) : Good (MatV u vs ls) := ⟨fun h hu hd => ⟨h.1, All.kept inferInstance h.2 hu hd⟩, fun h => All.lt inferInstance h.2⟩
theorem St.matOpen {u : Value} {l : List Thing} (h : St w0 w (MatT u ls :: l)) : ∃ vs, St w0 w (MatV u vs ls :: l) := by
  obtain ⟨F, ⟨F1, F2, ⟨vs, h1, h2⟩, h3⟩, h4⟩ := h
  exact ⟨vs, F, ⟨F1, F2, ⟨h1, h2⟩, h3⟩, h4⟩
theorem St.vCell (l1 : List Thing) (j : Nat) {vs : List Value} (h : St w0 w (l1 ++ MatV (.slice (some ⟨gm, 0, none⟩) n cm) vs ls :: l2)) (hj : j < ls.length) : ∃ so sc, vs[j]? = some (.slice so (ls.getD j []).length sc) ∧ w.cell? ⟨gm, j, none⟩ = some (.slice so (ls.getD j []).length sc) := by
  obtain ⟨F, ⟨h2, h5⟩, _⟩ := h.get l1
  have hu : VRow w TII (.slice (some ⟨gm, 0, none⟩) n cm) vs := by
    obtain ⟨F1, h, _⟩ := All.open [] h5
    exact h.1
  obtain ⟨v, m1, m2, e1, e2, _⟩ := rows_split h2 hj
  have h6 : All (VRowT TII (.slice (some ⟨gm, 0, none⟩) n cm) vs :: m1 ++ RowT v (ls.getD j []) :: m2) w F := by rw [e2] at h5; exact h5
  obtain ⟨F2, k1, _⟩ := All.open _ h6
  obtain ⟨so, sc, rfl, _⟩ := k1.1.slice
  obtain ⟨g, gc, e, _, _, _, hg5⟩ := hu.open (by omega)
  simp only [Value.slice.injEq, Option.some.injEq, Addr.mk.injEq] at e
  obtain ⟨⟨rfl, _⟩, _⟩ := e
  exact ⟨so, sc, e1, (hg5 j (by omega)).trans e1⟩
theorem St.vRow (l1 : List Thing) (j : Nat) {u v : Value} {vs : List Value} (h : St w0 w (l1 ++ MatV u vs ls :: l2)) (hj : j < ls.length) (hv : vs[j]? = some v) : Row w v (ls.getD j []) := by
  obtain ⟨F, ⟨h2, h5⟩, _⟩ := h.get l1
  obtain ⟨v', m1, m2, e1, e2, _⟩ := rows_split h2 hj
  rw [hv] at e1
  obtain rfl := Option.some.inj e1
  have h6 : All (VRowT TII u vs :: m1 ++ RowT v (ls.getD j []) :: m2) w F := by rw [e2] at h5; exact h5
  obtain ⟨F2, k1, _⟩ := All.open _ h6
  exact k1.1
theorem St.conv {A A' : Thing} {l : List Thing} (h : St w0 w (A :: l)) (hA : ∀ F, A w F → A' w F) : St w0 w (A' :: l) := by
  obtain ⟨F, ⟨F1, F2, h1, h2⟩, h3⟩ := h
  exact ⟨F, ⟨F1, F2, hA F1 h1, h2⟩, h3⟩
theorem St.matNil {B : Nat} {l : List Thing} (h : St w0 w (Blk B (.cells #[.slice none 0 0] TII) :: l)) : St w0 w (MatT (.slice (some ⟨B, 0, none⟩) 1 1) [[]] :: l) := h.conv fun F hF => by
  refine ⟨[.slice none 0 0], rfl, F, fun _ => False, ⟨?_, fun k => ?_⟩, ⟨fun _ => False, fun _ => False, ⟨rowNone w, fun k => ⟨fun h => h.elim, fun h => rowOf_none h⟩⟩, fun _ => id, fun _ h => h.elim, fun k => by simp⟩, fun _ _ h => h, fun k => by simp⟩
  · exact ⟨rfl, .inr ⟨B, 1, #[.slice none 0 0], rfl, Nat.zero_le _, hF.1, Nat.le_refl _, by unfold maxLen; omega, rfl, rfl⟩⟩
  · rw [hF.2]
    exact ⟨fun h => by subst h; rfl, fun h => by cases h; rfl⟩
theorem tot_set {ls : List (List Int)} {j : Nat} {x : List Int} (h : x.length = (ls.getD j []).length) : tot (ls.set j x) = tot ls := by
  by_cases hj : j < ls.length
  · have q1 : ls = ls.take j ++ ls.getD j [] :: ls.drop (j + 1) := by simp [List.getD, hj]
    rw [List.set_eq_take_append_cons_drop, if_pos hj, tot_mid, h]
    conv => rhs; rw [q1]
    rw [tot_mid]
  · rw [List.set_eq_of_length_le (by omega)]
/-- A row of zeros was made, and a cell with it. -/
theorem St.made {l : List Thing} [Goods l] (h : St w0 w l) (nn : Nat) (hn : nn ≤ 10000) : Hid (St w0 ((w.alloc (Obj.cells (zrow nn) 2)).alloc (Obj.cells #[.slice (some ⟨w.heap.size, 0, none⟩) nn nn] 31)) (Blk (w.heap.size + 1) (.cells #[.slice (some ⟨w.heap.size, 0, none⟩) nn nn] TII) :: RowT (.slice (some ⟨w.heap.size, 0, none⟩) nn nn) (List.replicate nn 0) :: l)) := by
  have h2 := (h.fresh (w' := w.alloc (Obj.cells (zrow nn) 2)) (RowT.of (row_zrow w nn hn)) (fun k hk => by cases hk; exact Nat.le_refl _) ((Below.refl _ _).alloc (Nat.le_refl _) _)).alloc (Obj.cells #[.slice (some ⟨w.heap.size, 0, none⟩) nn nn] 31)
  rw [show (w.alloc (Obj.cells (zrow nn) 2)).heap.size = w.heap.size + 1 from by simp] at h2
  exact Lib.hid h2
end

/-- The two models in step. -/
inductive HMod (w0 w : World) (b lim gm n cm t : Nat) : Prop
  | mk (ls : List (List Int)) (hl : ls.length = n) (ht : tot ls = t) (hp : 0 < n) (h : St w0 w [MatT (.slice (some ⟨gm, 0, none⟩) n cm) ls, HT b lim ls])

set_option maxRecDepth 10000 in
set_option maxHeartbeats 4000000 in
theorem hmodel_some (limit lim : Nat) (g o L c m : Nat) (ks hs is : Nat → Nat) (ns : Nat → Int) (w : World) (hl0 : limit ≤ 255) (hlim : (limit : Int) % 60 = lim) (hm : m ≤ 60) (hmL : m ≤ L) (hLc : L ≤ c) (hg : g < w.heap.size)
    (hmin : (if (60 : Int) < (L : Int) then (60 : Int) else (L : Int)) = (m : Int)) (hC : Chg w g o m ks hs is ns) :
    Calls Try.prog 7 #[.int .u8 limit, .slice (some ⟨g, o, none⟩) L c] w fun e w' => e = .returned (.bool true) ∧ Below w.heap.size w w' := by
  have HC := Lib.hid hC; clear hC
  have hmc : (m : Int) ≤ (c : Int) := by omega
  have hm0 : (0 : Int) ≤ (m : Int) := by omega
  go_enter Try.func7, Try.ntmps7
  go_wp2_with (go_at_call 26; refine (SH.new lim _ (St.nil w) rfl (by omega)).mono ?_; rintro e w1 ⟨b, rfl, hs⟩; have S1 := Lib.hid hs; clear hs)
  have S2 : Hid (HMod w (w1.alloc (Obj.cells #[.slice none 0 0] 31)) b lim w1.heap.size 1 1 0) := Lib.hid ⟨[[]], rfl, rfl, Nat.one_pos, (S1.out.alloc (.cells #[.slice none 0 0] 31)).matNil⟩
  go_loopw [47, 7, 8] (fun i wv us wr => ∃ j n gm cm t : Nat, j ≤ m ∧ n ≤ j + 1 ∧ i = .int .i64 j ∧ wv = .slice (some ⟨gm, 0, none⟩) n cm ∧ us = .int .i64 t ∧ Hid (HMod w wr b lim gm n cm t)) (fun i _ _ _ => m - (intOf i).toNat)
  case atStart => exact ⟨0, 1, w1.heap.size, 1, 0, Nat.zero_le _, by omega, rfl, rfl, rfl, S2⟩
  case round =>
    obtain ⟨j, n, gm, cm, t, hj, hnj, rfl, rfl, rfl, hM⟩ := hrel
    obtain ⟨ls, hls, htot, hnp, hS⟩ := hM.out
    have hfacts : tot ls ≤ lim := by
      obtain ⟨F, hA, _⟩ := hS.get [_]
      exact hA.facts.2.1
    have htl : t ≤ lim := by omega
    have Hls := Lib.hid hls; clear hls
    have Htot := Lib.hid htot; clear htot hfacts
    have SS := Lib.hid hS; clear hS hM
    have hn0 : (0 : Int) < (n : Int) := by omega
    by_cases hlt : j < m
    · have e0 := (SS.out.base.cell (p := ⟨g, o + j * 4, none⟩) hg).trans (HC.out.c0 j hlt)
      have e1 := (SS.out.base.cell (p := ⟨g, o + j * 4 + 1, none⟩) hg).trans (HC.out.c1 j hlt)
      have e2 := (SS.out.base.cell (p := ⟨g, o + j * 4 + 2, none⟩) hg).trans (HC.out.c2 j hlt)
      have e3 := (SS.out.base.cell (p := ⟨g, o + j * 4 + 3, none⟩) hg).trans (HC.out.c3 j hlt)
      have hb := HC.out.b j hlt
      obtain ⟨hb1, hb2, hb3⟩ := hb
      generalize ks j = kd at *
      generalize hs j = hd at *
      generalize is j = id' at *
      generalize ns j = z at *
      have SB := Lib.hid (SS.out.alloc (Obj.cells #[.int .u8 kd, .int .u8 hd, .int .u8 id', .int .i64 z] 56))
      by_cases h3 : (kd : Int) % 3 = 0
      · obtain ⟨nn, hnn⟩ : ∃ nn : Nat, (id' : Int) % 12 = nn := ⟨(id' % 12), by omega⟩
        have hn12 : nn < 12 := by omega
        by_cases hroom : t + nn ≤ lim
        · have hgt : ¬ ((lim : Int) < (t : Int) + nn) := by omega
          have Hroom := Lib.hid hroom; clear hroom
          have hmk := run_make_n (T := 31) nn Try.underlying31 (by omega)
          go_wp2_with (first
            | (go_at_call 27; refine (SH.alloc [_, _] nn _ (n : Int) SB.out rfl (by have := Htot.out; have := Hroom.out; omega) (by have := Hls.out; omega) (by rw [Hls.out])).mono ?_; rintro e w3 ⟨rfl, hs⟩; have S5 := (St.made (show St w w3 [_, _, _] from hs) nn (by omega)); clear hs)
            | (at_builtin; go_loud (refine wpList_append_mat (l1 := [_]) rfl (.tmp 98) (.tmp 101) rfl rfl rfl S5.out (by have := Hls.out; omega) ?_; intro g5 c5 w5 hs5; rw [Hls.out] at hs5 ⊢; have S6 := Lib.hid (show St w w5 [_, _] from hs5.tail); clear hs5)))
          go_roundw
          case rel => exact ⟨j + 1, n + 1, g5, c5, t + nn, by omega, by omega, by go_num, rfl, by go_num, Lib.hid ⟨ls ++ [List.replicate nn 0], by rw [List.length_append, Hls.out]; rfl, by rw [tot_snoc, Htot.out, List.length_replicate], by omega, S6.out⟩⟩
          case measure => simp [intOf]; omega
        · have hgt : ((lim : Int) < (t : Int) + nn) := by omega
          have Hroom := Lib.hid hroom; clear hroom
          go_wp2_with (go_at_call 27; refine (SH.allocTrap [_, _] _ SB.out (Or.inr (by have := Htot.out; have := Hroom.out; omega))).mono ?_; rintro e w3 ⟨rfl, hs⟩; have S6 := Lib.hid (show St w w3 [_, _] from hs.tail); clear hs)
          go_roundw
          case rel => exact ⟨j + 1, n, gm, cm, t, by omega, by omega, by go_num, rfl, rfl, Lib.hid ⟨ls, Hls.out, Htot.out, by omega, S6.out⟩⟩
          case measure => simp [intOf]; omega
      · obtain ⟨kk, hkk, hkn⟩ : ∃ kk : Nat, (hd : Int) % (n : Int) = kk ∧ kk < n := ⟨hd % n, by rw [Int.natCast_emod], Nat.mod_lt _ (by omega)⟩
        obtain ⟨ii, hii, hi13⟩ : ∃ ii : Nat, (id' : Int) % 13 = ii ∧ ii < 13 := ⟨id' % 13, by omega, by omega⟩
        have hkn' : (kk : Int) < (n : Int) := by omega
        have hk0 : (0 : Int) ≤ (kk : Int) := by omega
        have hi0 : (0 : Int) ≤ (ii : Int) := by omega
        obtain ⟨q, hq⟩ : ∃ q, (ls.getD kk []).length = q := ⟨_, rfl⟩
        have Hq := Lib.hid hq; clear hq
        by_cases hin : ii < q
        · have hin' : (ii : Int) < (q : Int) := by omega
          go_wp2_with (go_at_call 32; refine (SH.set [_, _] kk ii _ _ _ _ SB.out rfl rfl (by have := Hls.out; omega) (by have := Hq.out; omega) rfl).mono ?_; rintro e w3 ⟨rfl, hs⟩; obtain ⟨gr, sc, x1, x2, x3, x4, x5⟩ := St.matPut [_] kk ii (show St w w3 [_, _, _] from hs) (by have := Hls.out; omega) (by have := Hq.out; omega); rw [Hq.out] at x1; have b3 := hs.cell [] 3 (.int .i64 z) rfl; have X5 := Lib.hid x5; clear x5 hs)
          have y5 := X5.out z w3.drew ((Upto.refl _ w3).drew)
          have Y5 := Lib.hid (show St w _ [_, _] from y5.tail); clear y5 X5
          go_region
          all_goals
            go_wp2
            go_roundw
            case rel => exact ⟨j + 1, n, gm, cm, t, by omega, by omega, by go_num, rfl, rfl, Lib.hid ⟨_, by rw [List.length_set]; exact Hls.out, by rw [tot_set (by rw [List.length_set])]; exact Htot.out, by omega, Y5.out⟩⟩
            case measure => simp [intOf]; omega
        · have hin' : ¬ ((ii : Int) < (q : Int)) := by omega
          go_wp2_with (go_at_call 32; refine (SH.setTrap [_, _] kk _ _ _ SB.out rfl (by have := Hls.out; omega) (Or.inr (by have := Hq.out; omega))).mono ?_; rintro e w3 ⟨rfl, hs⟩; obtain ⟨so, sc, x1, _⟩ := St.matCell [_] kk (show St w w3 [_, _, _] from hs) (by have := Hls.out; omega); rw [Hq.out] at x1; have S6 := Lib.hid (show St w w3 [_, _] from hs.tail); clear hs)
          go_roundw
          case rel => exact ⟨j + 1, n, gm, cm, t, by omega, by omega, by go_num, rfl, rfl, Lib.hid ⟨ls, Hls.out, Htot.out, by omega, S6.out⟩⟩
          case measure => simp [intOf]; omega
    · obtain rfl : m = j := by omega
      clear hj hlt hmin hmc hm0
      obtain ⟨vs, hSV⟩ := SS.out.matOpen
      have SV := Lib.hid hSV; clear hSV SS
      go_wp2
      go_loopw [157] (fun i wr2 => ∃ k : Nat, k ≤ n ∧ i = .int .i64 k ∧ Hid (St w wr2 [MatV (.slice (some ⟨gm, 0, none⟩) n cm) vs ls, HT b lim ls])) (fun i _ => n - (intOf i).toNat)
      case atStart => exact ⟨0, Nat.zero_le _, rfl, SV⟩
      case round =>
        obtain ⟨k, hk, rfl, hM⟩ := hrel
        by_cases hlt : k < n
        · have hkl : k < ls.length := by have := Hls.out; omega
          obtain ⟨so, sc, x0, x1⟩ := St.vCell [] k hM.out hkl
          obtain ⟨xs, hxs⟩ : ∃ xs, ls.getD k [] = xs := ⟨_, rfl⟩
          obtain ⟨q, hq⟩ : ∃ q, xs.length = q := ⟨_, rfl⟩
          rw [hxs, hq] at x0 x1
          have X0 := Lib.hid x0; clear x0
          have Hkl := Lib.hid hkl; clear hkl
          have Hxs := Lib.hid hxs; clear hxs
          have Hq := Lib.hid hq; clear hq
          have hq8 : q ≤ lim := by
            obtain ⟨F, hA, _⟩ := hM.out.get [_]
            have h1 := hA.facts.2.1
            have h2 : (ls.getD k []).length ≤ tot ls := len_le_tot
            rw [Hxs.out, Hq.out] at h2
            omega
          have hk0 : (0 : Int) ≤ (k : Int) := by omega
          have hkn' : (k : Int) < (n : Int) := by omega
          go_wp2_with (first
            | (go_at_call 31; refine (equal_true (xs := xs) (ys := xs) ((K3.out.row []).sees) ((by have h := St.vRow [_] k K3.out Hkl.out X0.out; rw [Hxs.out] at h; exact h.sees)) rfl).mono ?_; rintro e w6 ⟨rfl, hu⟩; have K4 := Lib.hid (show St w w6 [_, _] from (K3.out.step hu).tail); clear hu)
            | (go_at_call 34; refine (SH.len [_, _] k _ q K2.out rfl Hkl.out (by rw [Hxs.out, Hq.out])).mono ?_; rintro e w5 ⟨rfl, hs⟩; have K3 := Lib.hid (show St w w5 [RowT _ _, _, _] from hs); clear hs)
            | (go_at_call 33; refine (SH.array [_] k _ _ hM.out rfl Hkl.out Hxs.out).mono ?_; rintro e w4 ⟨u4, rfl, hs⟩; have K2 := Lib.hid (show St w w4 [RowT _ _, _, _] from hs); clear hs))
          go_loopw [194] (fun i wr3 => ∃ r : Nat, r ≤ q ∧ i = .int .i64 r ∧ Hid (St w wr3 [MatV (.slice (some ⟨gm, 0, none⟩) n cm) vs ls, HT b lim ls])) (fun i _ => q - (intOf i).toNat)
          case atStart => exact ⟨0, Nat.zero_le _, rfl, K4⟩
          case round =>
            obtain ⟨r, hr, rfl, hM3⟩ := hrel
            by_cases hlr : r < q
            · have hrow := St.vRow [] k hM3.out Hkl.out X0.out
              rw [Hxs.out, ← Hq.out] at hrow
              obtain ⟨gr, e5, _, y1, _⟩ := hrow.cellAt r (by have := Hq.out; omega)
              subst e5
              have Hr := Lib.hid hrow; clear hrow
              have hr0 : (0 : Int) ≤ (r : Int) := by omega
              have hrq : (r : Int) < (q : Int) := by omega
              obtain ⟨y, hy⟩ : ∃ y, xs.getD r 0 = y := ⟨_, rfl⟩
              rw [hy] at y1
              have Hy := Lib.hid hy; clear hy
              go_wp2_with (go_at_call 35; refine (SH.get [_] k r _ _ y hM3.out rfl rfl Hkl.out (by rw [Hxs.out, Hq.out]; omega) (by rw [Hxs.out, Hy.out])).mono ?_; rintro e w7 ⟨rfl, hs⟩; have K7 := Lib.hid (show St w w7 [_, _] from hs); clear hs)
              go_roundw
              case rel => exact ⟨r + 1, by omega, by go_num, K7⟩
              case measure => simp [intOf]; omega
            · obtain rfl : q = r := by omega
              go_wp2
              go_roundw
              case rel => exact ⟨k + 1, by omega, by go_num, hM3⟩
              case measure => simp [intOf]; omega
        · obtain rfl : n = k := by omega
          go_wp2_with (first
            | (go_at_call 30; refine (works17 _).mono ?_; rintro e w9 ⟨rfl, hb⟩; have BF := Lib.hid hb; clear hb)
            | (go_at_call 36; refine (SH.limit [_] lim hM.out rfl).mono ?_; rintro e w8 ⟨rfl, rfl⟩)
            | (go_at_call 29; refine (SH.count [_] ((n : Int) - 1) hM.out (by have := Hls.out; omega)).mono ?_; rintro e w8 ⟨rfl, rfl⟩)
            | (go_at_call 28; refine (SH.used [_] t hM.out (by rw [Htot.out])).mono ?_; rintro e w8 ⟨rfl, rfl⟩))
          go_ret
          exact ⟨rfl, Upto.below ((Upto.of_below hM.out.base _).trans (Upto.of_below BF.out _))⟩

-- variants
set_option maxRecDepth 10000 in
set_option maxHeartbeats 4000000 in
theorem hmodel_none (limit lim : Nat) (w : World) (hl0 : limit ≤ 255) (hlim : (limit : Int) % 60 = lim) :
    Calls Try.prog 7 #[.int .u8 limit, .slice none 0 0] w fun e w' => e = .returned (.bool true) ∧ Below w.heap.size w w' := by
  go_enter Try.func7, Try.ntmps7
  go_wp2_with (go_at_call 26; refine (SH.new lim _ (St.nil w) rfl (by omega)).mono ?_; rintro e w1 ⟨b, rfl, hs⟩; have S1 := Lib.hid hs; clear hs)
  have S2 : Hid (HMod w (w1.alloc (Obj.cells #[.slice none 0 0] 31)) b lim w1.heap.size 1 1 0) := Lib.hid ⟨[[]], rfl, rfl, Nat.one_pos, (S1.out.alloc (.cells #[.slice none 0 0] 31)).matNil⟩
  go_loopw [47, 7, 8] (fun i wv us wr => ∃ j n gm cm t : Nat, j ≤ 0 ∧ n ≤ j + 1 ∧ i = .int .i64 j ∧ wv = .slice (some ⟨gm, 0, none⟩) n cm ∧ us = .int .i64 t ∧ Hid (HMod w wr b lim gm n cm t)) (fun _ _ _ _ => 0)
  case atStart => exact ⟨0, 1, w1.heap.size, 1, 0, Nat.zero_le _, by omega, rfl, rfl, rfl, S2⟩
  case round =>
    obtain ⟨j, n, gm, cm, t, hj, hnj, rfl, rfl, rfl, hM⟩ := hrel
    obtain ⟨ls, hls, htot, hnp, hS⟩ := hM.out
    have hfacts : tot ls ≤ lim := by
      obtain ⟨F, hA, _⟩ := hS.get [_]
      exact hA.facts.2.1
    have htl : t ≤ lim := by omega
    have Hls := Lib.hid hls; clear hls
    have Htot := Lib.hid htot; clear htot hfacts
    have SS := Lib.hid hS; clear hS hM
    have hn0 : (0 : Int) < (n : Int) := by omega
    · have hj1 : ¬ ((j : Int) < 0) := by omega
      have hj61 : j ≤ 60 := by omega
      clear hj
      obtain ⟨vs, hSV⟩ := SS.out.matOpen
      have SV := Lib.hid hSV; clear hSV SS
      go_wp2
      go_loopw [157] (fun i wr2 => ∃ k : Nat, k ≤ n ∧ i = .int .i64 k ∧ Hid (St w wr2 [MatV (.slice (some ⟨gm, 0, none⟩) n cm) vs ls, HT b lim ls])) (fun i _ => n - (intOf i).toNat)
      case atStart => exact ⟨0, Nat.zero_le _, rfl, SV⟩
      case round =>
        obtain ⟨k, hk, rfl, hM⟩ := hrel
        by_cases hlt : k < n
        · have hkl : k < ls.length := by have := Hls.out; omega
          obtain ⟨so, sc, x0, x1⟩ := St.vCell [] k hM.out hkl
          obtain ⟨xs, hxs⟩ : ∃ xs, ls.getD k [] = xs := ⟨_, rfl⟩
          obtain ⟨q, hq⟩ : ∃ q, xs.length = q := ⟨_, rfl⟩
          rw [hxs, hq] at x0 x1
          have X0 := Lib.hid x0; clear x0
          have Hkl := Lib.hid hkl; clear hkl
          have Hxs := Lib.hid hxs; clear hxs
          have Hq := Lib.hid hq; clear hq
          have hq8 : q ≤ lim := by
            obtain ⟨F, hA, _⟩ := hM.out.get [_]
            have h1 := hA.facts.2.1
            have h2 : (ls.getD k []).length ≤ tot ls := len_le_tot
            rw [Hxs.out, Hq.out] at h2
            omega
          have hk0 : (0 : Int) ≤ (k : Int) := by omega
          have hkn' : (k : Int) < (n : Int) := by omega
          go_wp2_with (first
            | (go_at_call 31; refine (equal_true (xs := xs) (ys := xs) ((K3.out.row []).sees) ((by have h := St.vRow [_] k K3.out Hkl.out X0.out; rw [Hxs.out] at h; exact h.sees)) rfl).mono ?_; rintro e w6 ⟨rfl, hu⟩; have K4 := Lib.hid (show St w w6 [_, _] from (K3.out.step hu).tail); clear hu)
            | (go_at_call 34; refine (SH.len [_, _] k _ q K2.out rfl Hkl.out (by rw [Hxs.out, Hq.out])).mono ?_; rintro e w5 ⟨rfl, hs⟩; have K3 := Lib.hid (show St w w5 [RowT _ _, _, _] from hs); clear hs)
            | (go_at_call 33; refine (SH.array [_] k _ _ hM.out rfl Hkl.out Hxs.out).mono ?_; rintro e w4 ⟨u4, rfl, hs⟩; have K2 := Lib.hid (show St w w4 [RowT _ _, _, _] from hs); clear hs))
          go_loopw [194] (fun i wr3 => ∃ r : Nat, r ≤ q ∧ i = .int .i64 r ∧ Hid (St w wr3 [MatV (.slice (some ⟨gm, 0, none⟩) n cm) vs ls, HT b lim ls])) (fun i _ => q - (intOf i).toNat)
          case atStart => exact ⟨0, Nat.zero_le _, rfl, K4⟩
          case round =>
            obtain ⟨r, hr, rfl, hM3⟩ := hrel
            by_cases hlr : r < q
            · have hrow := St.vRow [] k hM3.out Hkl.out X0.out
              rw [Hxs.out, ← Hq.out] at hrow
              obtain ⟨gr, e5, _, y1, _⟩ := hrow.cellAt r (by have := Hq.out; omega)
              subst e5
              have Hr := Lib.hid hrow; clear hrow
              have hr0 : (0 : Int) ≤ (r : Int) := by omega
              have hrq : (r : Int) < (q : Int) := by omega
              obtain ⟨y, hy⟩ : ∃ y, xs.getD r 0 = y := ⟨_, rfl⟩
              rw [hy] at y1
              have Hy := Lib.hid hy; clear hy
              go_wp2_with (go_at_call 35; refine (SH.get [_] k r _ _ y hM3.out rfl rfl Hkl.out (by rw [Hxs.out, Hq.out]; omega) (by rw [Hxs.out, Hy.out])).mono ?_; rintro e w7 ⟨rfl, hs⟩; have K7 := Lib.hid (show St w w7 [_, _] from hs); clear hs)
              go_roundw
              case rel => exact ⟨r + 1, by omega, by go_num, K7⟩
              case measure => simp [intOf]; omega
            · obtain rfl : q = r := by omega
              go_wp2
              go_roundw
              case rel => exact ⟨k + 1, by omega, by go_num, hM3⟩
              case measure => simp [intOf]; omega
        · obtain rfl : n = k := by omega
          go_wp2_with (first
            | (go_at_call 30; refine (works17 _).mono ?_; rintro e w9 ⟨rfl, hb⟩; have BF := Lib.hid hb; clear hb)
            | (go_at_call 36; refine (SH.limit [_] lim hM.out rfl).mono ?_; rintro e w8 ⟨rfl, rfl⟩)
            | (go_at_call 29; refine (SH.count [_] ((n : Int) - 1) hM.out (by have := Hls.out; omega)).mono ?_; rintro e w8 ⟨rfl, rfl⟩)
            | (go_at_call 28; refine (SH.used [_] t hM.out (by rw [Htot.out])).mono ?_; rintro e w8 ⟨rfl, rfl⟩))
          go_ret
          exact ⟨rfl, Upto.below ((Upto.of_below hM.out.base _).trans (Upto.of_below BF.out _))⟩

set_option maxRecDepth 10000 in
set_option maxHeartbeats 4000000 in
theorem hmodel_empty0 (limit lim : Nat) (a : Addr) (w : World) (hl0 : limit ≤ 255) (hlim : (limit : Int) % 60 = lim) :
    Calls Try.prog 7 #[.int .u8 limit, .slice (some a) 0 0] w fun e w' => e = .returned (.bool true) ∧ Below w.heap.size w w' := by
  go_enter Try.func7, Try.ntmps7
  go_wp2_with (go_at_call 26; refine (SH.new lim _ (St.nil w) rfl (by omega)).mono ?_; rintro e w1 ⟨b, rfl, hs⟩; have S1 := Lib.hid hs; clear hs)
  have S2 : Hid (HMod w (w1.alloc (Obj.cells #[.slice none 0 0] 31)) b lim w1.heap.size 1 1 0) := Lib.hid ⟨[[]], rfl, rfl, Nat.one_pos, (S1.out.alloc (.cells #[.slice none 0 0] 31)).matNil⟩
  go_loopw [47, 7, 8] (fun i wv us wr => ∃ j n gm cm t : Nat, j ≤ 0 ∧ n ≤ j + 1 ∧ i = .int .i64 j ∧ wv = .slice (some ⟨gm, 0, none⟩) n cm ∧ us = .int .i64 t ∧ Hid (HMod w wr b lim gm n cm t)) (fun _ _ _ _ => 0)
  case atStart => exact ⟨0, 1, w1.heap.size, 1, 0, Nat.zero_le _, by omega, rfl, rfl, rfl, S2⟩
  case round =>
    obtain ⟨j, n, gm, cm, t, hj, hnj, rfl, rfl, rfl, hM⟩ := hrel
    obtain ⟨ls, hls, htot, hnp, hS⟩ := hM.out
    have hfacts : tot ls ≤ lim := by
      obtain ⟨F, hA, _⟩ := hS.get [_]
      exact hA.facts.2.1
    have htl : t ≤ lim := by omega
    have Hls := Lib.hid hls; clear hls
    have Htot := Lib.hid htot; clear htot hfacts
    have SS := Lib.hid hS; clear hS hM
    have hn0 : (0 : Int) < (n : Int) := by omega
    · have hj1 : ¬ ((j : Int) < 0) := by omega
      have hj61 : j ≤ 60 := by omega
      clear hj
      obtain ⟨vs, hSV⟩ := SS.out.matOpen
      have SV := Lib.hid hSV; clear hSV SS
      go_wp2
      go_loopw [157] (fun i wr2 => ∃ k : Nat, k ≤ n ∧ i = .int .i64 k ∧ Hid (St w wr2 [MatV (.slice (some ⟨gm, 0, none⟩) n cm) vs ls, HT b lim ls])) (fun i _ => n - (intOf i).toNat)
      case atStart => exact ⟨0, Nat.zero_le _, rfl, SV⟩
      case round =>
        obtain ⟨k, hk, rfl, hM⟩ := hrel
        by_cases hlt : k < n
        · have hkl : k < ls.length := by have := Hls.out; omega
          obtain ⟨so, sc, x0, x1⟩ := St.vCell [] k hM.out hkl
          obtain ⟨xs, hxs⟩ : ∃ xs, ls.getD k [] = xs := ⟨_, rfl⟩
          obtain ⟨q, hq⟩ : ∃ q, xs.length = q := ⟨_, rfl⟩
          rw [hxs, hq] at x0 x1
          have X0 := Lib.hid x0; clear x0
          have Hkl := Lib.hid hkl; clear hkl
          have Hxs := Lib.hid hxs; clear hxs
          have Hq := Lib.hid hq; clear hq
          have hq8 : q ≤ lim := by
            obtain ⟨F, hA, _⟩ := hM.out.get [_]
            have h1 := hA.facts.2.1
            have h2 : (ls.getD k []).length ≤ tot ls := len_le_tot
            rw [Hxs.out, Hq.out] at h2
            omega
          have hk0 : (0 : Int) ≤ (k : Int) := by omega
          have hkn' : (k : Int) < (n : Int) := by omega
          go_wp2_with (first
            | (go_at_call 31; refine (equal_true (xs := xs) (ys := xs) ((K3.out.row []).sees) ((by have h := St.vRow [_] k K3.out Hkl.out X0.out; rw [Hxs.out] at h; exact h.sees)) rfl).mono ?_; rintro e w6 ⟨rfl, hu⟩; have K4 := Lib.hid (show St w w6 [_, _] from (K3.out.step hu).tail); clear hu)
            | (go_at_call 34; refine (SH.len [_, _] k _ q K2.out rfl Hkl.out (by rw [Hxs.out, Hq.out])).mono ?_; rintro e w5 ⟨rfl, hs⟩; have K3 := Lib.hid (show St w w5 [RowT _ _, _, _] from hs); clear hs)
            | (go_at_call 33; refine (SH.array [_] k _ _ hM.out rfl Hkl.out Hxs.out).mono ?_; rintro e w4 ⟨u4, rfl, hs⟩; have K2 := Lib.hid (show St w w4 [RowT _ _, _, _] from hs); clear hs))
          go_loopw [194] (fun i wr3 => ∃ r : Nat, r ≤ q ∧ i = .int .i64 r ∧ Hid (St w wr3 [MatV (.slice (some ⟨gm, 0, none⟩) n cm) vs ls, HT b lim ls])) (fun i _ => q - (intOf i).toNat)
          case atStart => exact ⟨0, Nat.zero_le _, rfl, K4⟩
          case round =>
            obtain ⟨r, hr, rfl, hM3⟩ := hrel
            by_cases hlr : r < q
            · have hrow := St.vRow [] k hM3.out Hkl.out X0.out
              rw [Hxs.out, ← Hq.out] at hrow
              obtain ⟨gr, e5, _, y1, _⟩ := hrow.cellAt r (by have := Hq.out; omega)
              subst e5
              have Hr := Lib.hid hrow; clear hrow
              have hr0 : (0 : Int) ≤ (r : Int) := by omega
              have hrq : (r : Int) < (q : Int) := by omega
              obtain ⟨y, hy⟩ : ∃ y, xs.getD r 0 = y := ⟨_, rfl⟩
              rw [hy] at y1
              have Hy := Lib.hid hy; clear hy
              go_wp2_with (go_at_call 35; refine (SH.get [_] k r _ _ y hM3.out rfl rfl Hkl.out (by rw [Hxs.out, Hq.out]; omega) (by rw [Hxs.out, Hy.out])).mono ?_; rintro e w7 ⟨rfl, hs⟩; have K7 := Lib.hid (show St w w7 [_, _] from hs); clear hs)
              go_roundw
              case rel => exact ⟨r + 1, by omega, by go_num, K7⟩
              case measure => simp [intOf]; omega
            · obtain rfl : q = r := by omega
              go_wp2
              go_roundw
              case rel => exact ⟨k + 1, by omega, by go_num, hM3⟩
              case measure => simp [intOf]; omega
        · obtain rfl : n = k := by omega
          go_wp2_with (first
            | (go_at_call 30; refine (works17 _).mono ?_; rintro e w9 ⟨rfl, hb⟩; have BF := Lib.hid hb; clear hb)
            | (go_at_call 36; refine (SH.limit [_] lim hM.out rfl).mono ?_; rintro e w8 ⟨rfl, rfl⟩)
            | (go_at_call 29; refine (SH.count [_] ((n : Int) - 1) hM.out (by have := Hls.out; omega)).mono ?_; rintro e w8 ⟨rfl, rfl⟩)
            | (go_at_call 28; refine (SH.used [_] t hM.out (by rw [Htot.out])).mono ?_; rintro e w8 ⟨rfl, rfl⟩))
          go_ret
          exact ⟨rfl, Upto.below ((Upto.of_below hM.out.base _).trans (Upto.of_below BF.out _))⟩

set_option maxRecDepth 10000 in
set_option maxHeartbeats 4000000 in
theorem hmodel_empty1 (limit lim : Nat) (a : Addr) (c : Nat) (w : World) (hl0 : limit ≤ 255) (hlim : (limit : Int) % 60 = lim) :
    Calls Try.prog 7 #[.int .u8 limit, .slice (some a) 0 (c + 1)] w fun e w' => e = .returned (.bool true) ∧ Below w.heap.size w w' := by
  have hcz : (0 : Int) ≤ (c : Int) + 1 := by omega
  go_enter Try.func7, Try.ntmps7
  go_wp2_with (go_at_call 26; refine (SH.new lim _ (St.nil w) rfl (by omega)).mono ?_; rintro e w1 ⟨b, rfl, hs⟩; have S1 := Lib.hid hs; clear hs)
  have S2 : Hid (HMod w (w1.alloc (Obj.cells #[.slice none 0 0] 31)) b lim w1.heap.size 1 1 0) := Lib.hid ⟨[[]], rfl, rfl, Nat.one_pos, (S1.out.alloc (.cells #[.slice none 0 0] 31)).matNil⟩
  go_loopw [47, 7, 8] (fun i wv us wr => ∃ j n gm cm t : Nat, j ≤ 0 ∧ n ≤ j + 1 ∧ i = .int .i64 j ∧ wv = .slice (some ⟨gm, 0, none⟩) n cm ∧ us = .int .i64 t ∧ Hid (HMod w wr b lim gm n cm t)) (fun _ _ _ _ => 0)
  case atStart => exact ⟨0, 1, w1.heap.size, 1, 0, Nat.zero_le _, by omega, rfl, rfl, rfl, S2⟩
  case round =>
    obtain ⟨j, n, gm, cm, t, hj, hnj, rfl, rfl, rfl, hM⟩ := hrel
    obtain ⟨ls, hls, htot, hnp, hS⟩ := hM.out
    have hfacts : tot ls ≤ lim := by
      obtain ⟨F, hA, _⟩ := hS.get [_]
      exact hA.facts.2.1
    have htl : t ≤ lim := by omega
    have Hls := Lib.hid hls; clear hls
    have Htot := Lib.hid htot; clear htot hfacts
    have SS := Lib.hid hS; clear hS hM
    have hn0 : (0 : Int) < (n : Int) := by omega
    · have hj1 : ¬ ((j : Int) < 0) := by omega
      have hj61 : j ≤ 60 := by omega
      clear hj
      obtain ⟨vs, hSV⟩ := SS.out.matOpen
      have SV := Lib.hid hSV; clear hSV SS
      go_wp2
      go_loopw [157] (fun i wr2 => ∃ k : Nat, k ≤ n ∧ i = .int .i64 k ∧ Hid (St w wr2 [MatV (.slice (some ⟨gm, 0, none⟩) n cm) vs ls, HT b lim ls])) (fun i _ => n - (intOf i).toNat)
      case atStart => exact ⟨0, Nat.zero_le _, rfl, SV⟩
      case round =>
        obtain ⟨k, hk, rfl, hM⟩ := hrel
        by_cases hlt : k < n
        · have hkl : k < ls.length := by have := Hls.out; omega
          obtain ⟨so, sc, x0, x1⟩ := St.vCell [] k hM.out hkl
          obtain ⟨xs, hxs⟩ : ∃ xs, ls.getD k [] = xs := ⟨_, rfl⟩
          obtain ⟨q, hq⟩ : ∃ q, xs.length = q := ⟨_, rfl⟩
          rw [hxs, hq] at x0 x1
          have X0 := Lib.hid x0; clear x0
          have Hkl := Lib.hid hkl; clear hkl
          have Hxs := Lib.hid hxs; clear hxs
          have Hq := Lib.hid hq; clear hq
          have hq8 : q ≤ lim := by
            obtain ⟨F, hA, _⟩ := hM.out.get [_]
            have h1 := hA.facts.2.1
            have h2 : (ls.getD k []).length ≤ tot ls := len_le_tot
            rw [Hxs.out, Hq.out] at h2
            omega
          have hk0 : (0 : Int) ≤ (k : Int) := by omega
          have hkn' : (k : Int) < (n : Int) := by omega
          go_wp2_with (first
            | (go_at_call 31; refine (equal_true (xs := xs) (ys := xs) ((K3.out.row []).sees) ((by have h := St.vRow [_] k K3.out Hkl.out X0.out; rw [Hxs.out] at h; exact h.sees)) rfl).mono ?_; rintro e w6 ⟨rfl, hu⟩; have K4 := Lib.hid (show St w w6 [_, _] from (K3.out.step hu).tail); clear hu)
            | (go_at_call 34; refine (SH.len [_, _] k _ q K2.out rfl Hkl.out (by rw [Hxs.out, Hq.out])).mono ?_; rintro e w5 ⟨rfl, hs⟩; have K3 := Lib.hid (show St w w5 [RowT _ _, _, _] from hs); clear hs)
            | (go_at_call 33; refine (SH.array [_] k _ _ hM.out rfl Hkl.out Hxs.out).mono ?_; rintro e w4 ⟨u4, rfl, hs⟩; have K2 := Lib.hid (show St w w4 [RowT _ _, _, _] from hs); clear hs))
          go_loopw [194] (fun i wr3 => ∃ r : Nat, r ≤ q ∧ i = .int .i64 r ∧ Hid (St w wr3 [MatV (.slice (some ⟨gm, 0, none⟩) n cm) vs ls, HT b lim ls])) (fun i _ => q - (intOf i).toNat)
          case atStart => exact ⟨0, Nat.zero_le _, rfl, K4⟩
          case round =>
            obtain ⟨r, hr, rfl, hM3⟩ := hrel
            by_cases hlr : r < q
            · have hrow := St.vRow [] k hM3.out Hkl.out X0.out
              rw [Hxs.out, ← Hq.out] at hrow
              obtain ⟨gr, e5, _, y1, _⟩ := hrow.cellAt r (by have := Hq.out; omega)
              subst e5
              have Hr := Lib.hid hrow; clear hrow
              have hr0 : (0 : Int) ≤ (r : Int) := by omega
              have hrq : (r : Int) < (q : Int) := by omega
              obtain ⟨y, hy⟩ : ∃ y, xs.getD r 0 = y := ⟨_, rfl⟩
              rw [hy] at y1
              have Hy := Lib.hid hy; clear hy
              go_wp2_with (go_at_call 35; refine (SH.get [_] k r _ _ y hM3.out rfl rfl Hkl.out (by rw [Hxs.out, Hq.out]; omega) (by rw [Hxs.out, Hy.out])).mono ?_; rintro e w7 ⟨rfl, hs⟩; have K7 := Lib.hid (show St w w7 [_, _] from hs); clear hs)
              go_roundw
              case rel => exact ⟨r + 1, by omega, by go_num, K7⟩
              case measure => simp [intOf]; omega
            · obtain rfl : q = r := by omega
              go_wp2
              go_roundw
              case rel => exact ⟨k + 1, by omega, by go_num, hM3⟩
              case measure => simp [intOf]; omega
        · obtain rfl : n = k := by omega
          go_wp2_with (first
            | (go_at_call 30; refine (works17 _).mono ?_; rintro e w9 ⟨rfl, hb⟩; have BF := Lib.hid hb; clear hb)
            | (go_at_call 36; refine (SH.limit [_] lim hM.out rfl).mono ?_; rintro e w8 ⟨rfl, rfl⟩)
            | (go_at_call 29; refine (SH.count [_] ((n : Int) - 1) hM.out (by have := Hls.out; omega)).mono ?_; rintro e w8 ⟨rfl, rfl⟩)
            | (go_at_call 28; refine (SH.used [_] t hM.out (by rw [Htot.out])).mono ?_; rintro e w8 ⟨rfl, rfl⟩))
          go_ret
          exact ⟨rfl, Upto.below ((Upto.of_below hM.out.base _).trans (Upto.of_below BF.out _))⟩

/-- A slice of changes that came in. -/
def ChgSeen (W : World) (v : Value) : Prop :=
  v = .slice none 0 0 ∨ (∃ a c, v = .slice (some a) 0 c) ∨ ∃ g o n c ks hs is ns, v = .slice (some ⟨g, o, none⟩) n c ∧ n ≤ c ∧ g < W.heap.size ∧ Chg W g o n ks hs is ns

theorem hmodel_true (a : Int) (ha : (Lit.int .u8 a).wf = true) {v : Value} {w : World} (h : ChgSeen w v) : Calls Try.prog 7 #[.int .u8 a, v] w fun e w' => e = .returned (.bool true) ∧ Below w.heap.size w w' := by
  have h1 := bounds_u8 ha
  obtain ⟨limit, rfl⟩ := Int.eq_ofNat_of_zero_le h1.1
  have hlim : (limit : Int) % 60 = ((limit % 60 : Nat) : Int) := by omega
  rcases h with rfl | ⟨a, c, rfl⟩ | ⟨g, o, n, c, ks, hs, is, ns, rfl, hc, hg, hC⟩
  · exact hmodel_none limit _ w (by omega) hlim
  · obtain _ | c := c
    · exact hmodel_empty0 limit _ a w (by omega) hlim
    · exact hmodel_empty1 limit _ a c w (by omega) hlim
  · obtain ⟨m, hm⟩ : ∃ m, m = min n 60 := ⟨_, rfl⟩
    refine hmodel_some limit _ g o n c m ks hs is ns w (by omega) hlim (by omega) (by omega) hc hg ?_ ⟨fun j hj => hC.c0 j (by omega), fun j hj => hC.c1 j (by omega), fun j hj => hC.c2 j (by omega), fun j hj => hC.c3 j (by omega), fun j hj => hC.b j (by omega)⟩
    split <;> omega

end Go.Proofs.Ytjganbcolaakkaa
