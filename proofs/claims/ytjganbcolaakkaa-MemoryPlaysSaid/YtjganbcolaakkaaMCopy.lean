/-
  Clone and Equal over spans, Copy and Same of memories, walked.
-/
import Derived.Test.YtjganbcolaakkaaWorksB
import Derived.Deep.AppendLies
import Derived.Deep.RegionHeld3
namespace Go.Proofs.Ytjganbcolaakkaa
open Go.RowKit

def SCloned (w : World) (ss : List (Nat × Nat)) (e : Ending) (w' : World) : Prop := ∃ u, e = .returned u ∧ SRow w' u ss ∧ (∀ k, rowOf u k → w.heap.size ≤ k) ∧ Below w.heap.size w w'

set_option maxHeartbeats 400000 in
theorem sclone_some (w : World) (g n c : Nat) (ss : List (Nat × Nat)) (h : SRow w (.slice (some ⟨g, 0, none⟩) (n + 1) c) ss) (hl : ss.length = n + 1) (hf : n ≤ 1000000000) : Calls Try.prog 57 #[.slice (some ⟨g, 0, none⟩) (n + 1) c] w (SCloned w ss) := by
  have heq := fun (w : World) => Lib.run_eql_slice_nil (P := Try.prog) w 70 91 (some ⟨g, 0, none⟩) (n + 1) c 0 0 Try.underlying70
  obtain ⟨i0, hi0, hz0, hz1, hz2⟩ := info_parts Try.infoSpan
  have Hl := Lib.hid hl; clear hl
  have hcells : ∀ j u, (spanCells ss)[j]? = some u → (w.alloc (.cells #[] 91)).cell? ((⟨g, 0, none⟩ : Addr).add j) = some u := fun j u hu => by
    have hg := h.lt g rfl
    rw [(((Upto.refl (fun _ => False) w).alloc _).cell (p := (⟨g, 0, none⟩ : Addr).add j) (by simpa [Addr.add_lit] using hg) id)]
    exact World.ownsRow.cells h (g := g) rfl j u hu
  have hmade : (w.alloc (.cells #[] 91)).ownsRow 0 TSp 2 (.slice (some ⟨w.heap.size, 0, none⟩) 0 0) 0 [] := World.ownsRow_made w #[] 0 (Nat.zero_le _) (Nat.zero_le _) rfl
  have Hc := Lib.hid hcells; clear hcells
  have Hm := Lib.hid hmade; clear hmade
  clear h
  go_enter Try.func57, Try.ntmps57
  go_wp2_with (at_builtin; refine wpList_append_lies _ rfl (.tmp 5) (.tmp 6) 70 rfl 0 TSp i0 _ 2 16 Try.underlying70 hi0 hz0 hz1 hz2 rfl (by omega) (.slice (some ⟨w.heap.size, 0, none⟩) 0 0) 0 [] rfl Hm.out ⟨g, 0, none⟩ (n + 1) c (spanCells ss) rfl (by rw [spanCells_length, Hl.out]) Hc.out (by intro u hu; rw [spanCells, List.mem_flatMap] at hu; obtain ⟨s, _, hs⟩ := hu; simp only [List.mem_cons, List.not_mem_nil, or_false] at hs; rcases hs with rfl | rfl <;> rfl) (by omega) (by unfold maxLen; omega) (by omega) (Nat.zero_le _) (w.heap.size + 1) (by simp) ?_)
  intro gg cap w1 hown hgrow hat hlt
  have HO := Lib.hid hown; clear hown
  have HG := Lib.hid hgrow; clear hgrow
  go_wp2
  go_ret
  have hgg : w.heap.size ≤ gg := by
    rcases hat with h | h
    · cases h; exact Nat.le_refl _
    · omega
  refine ⟨_, rfl, ?_, fun k hk => by cases hk; exact hgg, Upto.below (((Upto.refl (fun _ => False) w).alloc _).step ((Upto.refl _ _).grown HG.out (fun k hk => Or.inl hk)) fun i hi hS => ?_)⟩
  · have := HO.out
    unfold SRow
    rw [Hl.out]
    simpa using this
  · have := Option.some.inj hS
    simp at this
    omega

theorem SRow.sshape {w : World} {u : Value} {ss : List (Nat × Nat)} (h : SRow w u ss) : ∃ ao n c, u = .slice ao n c := by
  rcases h.2 with ⟨rfl, _⟩ | ⟨g, cap, cur, rfl, _⟩
  · exact ⟨_, _, _, rfl⟩
  · exact ⟨_, _, _, rfl⟩
theorem sclone_at {w : World} {u : Value} {ss : List (Nat × Nat)} (h : SRow w u ss) (hp : 0 < ss.length) (hf : ss.length ≤ 1000000000) : Calls Try.prog 57 #[u] w (SCloned w ss) := by
  obtain ⟨g, c, rfl, _⟩ := h.open hp
  obtain ⟨n, hn⟩ : ∃ n, ss.length = n + 1 := ⟨ss.length - 1, by omega⟩
  rw [hn] at h ⊢
  exact sclone_some w g n c ss h hn (by omega)

theorem mcopy_nil (w : World) : Calls Try.prog 21 #[.pointer none] w fun e w' => e = .returned (.pointer none) ∧ w = w' := by
  go_enter Try.func21, Try.ntmps21
  go_wp2_with (go_at_call 55; refine (mvalid_nil _).mono ?_; rintro e w' ⟨rfl, rfl⟩)
  go_ret
  exact ⟨rfl, rfl⟩

def MCopied (w : World) (lim : Nat) (cs : List Int) (ss : List (Nat × Nat)) (e : Ending) (w' : World) : Prop :=
  ∃ b F, e = .returned (ptr b) ∧ MPile w' b lim cs ss F ∧ (∀ k, F k → w.heap.size ≤ k) ∧ Below w.heap.size w w'

set_option maxRecDepth 10000 in
set_option maxHeartbeats 1000000 in
theorem mcopy_at {w : World} {b lim : Nat} {v u : Value} {cs : List Int} {ss : List (Nat × Nat)} (m : Mem w b lim v u cs ss) : Calls Try.prog 21 #[ptr b] w (MCopied w lim cs ss) := by
  obtain ⟨g0, n0, c0, hn0, k2, _⟩ := m.pile.spans
  have hf := m.pile.facts
  have h0 := m.c0
  have h1 := m.c1
  have h2 := m.c2
  have hlt := m.lt
  obtain ⟨mb, mv, mu, _⟩ := id m
  obtain ⟨vo, vn, vc, rfl⟩ := mv.shape
  rw [h2] at k2
  obtain rfl := Option.some.inj k2
  clear k2
  have Hf := Lib.hid hf; clear hf
  have MV := Lib.hid mv; clear mv
  have MU := Lib.hid mu; clear mu mb
  have M := Lib.hid m; clear m
  clear hn0
  go_enter Try.func21, Try.ntmps21
  go_wp2_with (go_at_call 55; refine (mvalid_at b _ n0 c0 _ h2).mono ?_; rintro e w' ⟨rfl, rfl⟩)
  go_region_held3 (fun w' => w'.cell? ⟨b, 0, none⟩ = some (.int .i64 lim) ∧ w'.cell? ⟨b, 1, none⟩ = some (.slice vo vn vc) ∧ w'.cell? ⟨b, 2, none⟩ = some (.slice (some ⟨g0, 0, none⟩) (n0 + 1) c0)) (go_keep) (first
    | (go_at_call 57; refine (sclone_at (ss := ss) (MU.out.kept (Upto.of_below HB1.out (fun _ => False)) (fun _ _ => id)) Hf.out.1 (Hf.out.2.2.2.2)).mono ?_; rintro e w2 ⟨u2, rfl, hr, hk, hbl⟩; obtain ⟨bo2, m2, d2, rfl⟩ := hr.sshape; have r0 := (hbl.cell (p := ⟨b, 0, none⟩) (Nat.lt_of_lt_of_le hlt HB1.out.size)).trans q0; have r1 := (hbl.cell (p := ⟨b, 1, none⟩) (Nat.lt_of_lt_of_le hlt HB1.out.size)).trans q1; have r2 := (hbl.cell (p := ⟨b, 2, none⟩) (Nat.lt_of_lt_of_le hlt HB1.out.size)).trans q2; have Hr2 := Lib.hid hr; have Hk2 := Lib.hid hk; have HB2 := Lib.hid hbl; clear hr hk hbl)
    | (go_at_call 56; refine (clone_at (w := w.drew) (xs := cs) (MV.out.kept (Upto.refl (fun _ => False) w).drew (fun _ _ => id)).sees (by have := Hf.out; omega)).mono ?_; rintro e w1 ⟨u1, rfl, hr, hk, hbl⟩; obtain ⟨bo1, m1, d1, rfl⟩ := hr.shape; have q0 := (hbl.cell (p := ⟨b, 0, none⟩) hlt).trans h0; have q1 := (hbl.cell (p := ⟨b, 1, none⟩) hlt).trans h1; have q2 := (hbl.cell (p := ⟨b, 2, none⟩) hlt).trans h2; have Hr1 := Lib.hid hr; have Hk1 := Lib.hid hk; have HB1 : Hid (Below w.heap.size w w1) := Lib.hid (Upto.below (((Upto.refl (fun _ => False) w).drew).trans (Upto.of_below hbl _))); clear hr hk hbl))
  go_wp2
  go_ret
  have hz1 := HB1.out.size
  have hz2 := HB2.out.size
  have hv1 : ∀ j, rowOf (.slice bo1 m1 d1) j → j < w1.heap.size := Hr1.out.lt
  have hu2 : Upto (fun _ => False) w2 (w2.alloc (Obj.cells #[.int .i64 lim, .slice bo1 m1 d1, .slice bo2 m2 d2] TM)) := (Upto.refl _ w2).alloc _
  have hr1 : Row (w2.alloc (Obj.cells #[.int .i64 lim, .slice bo1 m1 d1, .slice bo2 m2 d2] TM)) (.slice bo1 m1 d1) cs := (Hr1.out.kept (Upto.of_below HB2.out (fun _ => False)) (fun _ _ => id)).kept hu2 (fun _ _ => id)
  have hr2 : SRow (w2.alloc (Obj.cells #[.int .i64 lim, .slice bo1 m1 d1, .slice bo2 m2 d2] TM)) (.slice bo2 m2 d2) ss := Hr2.out.kept hu2 (fun _ _ => id)
  refine ⟨w2.heap.size, fun k => k = w2.heap.size ∨ rowOf (.slice bo1 m1 d1) k ∨ rowOf (.slice bo2 m2 d2) k, rfl, ⟨_, _, ⟨heap_alloc_new w2 _, hr1, hr2, fun e => ?_, fun e => ?_, fun j hj hj' => ?_, Hf.out.1, Hf.out.2.1, Hf.out.2.2.1, Hf.out.2.2.2.1, Hf.out.2.2.2.2⟩, Or.inl rfl, fun _ h => Or.inr (Or.inl h), fun _ h => Or.inr (Or.inr h), fun k hk => ?_⟩, fun k hk => ?_, Upto.below (((Upto.of_below HB1.out _).trans (Upto.of_below HB2.out _)).trans hu2)⟩
  · have := hv1 _ e; omega
  · have := Hr2.out.lt _ e; omega
  · have := hv1 _ hj; have := Hk2.out _ hj'; omega
  · rcases hk with rfl | hk | hk
    · simp
    · exact hr1.lt k hk
    · exact hr2.lt k hk
  · rcases hk with rfl | hk | hk
    · omega
    · exact Hk1.out k hk
    · have := Hk2.out k hk; omega

theorem MPile.copy {w : World} {b lim : Nat} {cs : List Int} {ss : List (Nat × Nat)} {F : Nat → Prop} (h : MPile w b lim cs ss F) : Calls Try.prog 21 #[ptr b] w (MCopied w lim cs ss) := by
  obtain ⟨v, u, m, _⟩ := h
  exact mcopy_at m

/-! slices.Equal over spans -/

theorem seq_len (ao bo : Option Addr) (n c m d : Nat) (w : World) (h : n ≠ m) :
    Calls Try.prog 59 #[.slice ao n c, .slice bo m d] w fun e w' => e = .returned (.bool false) ∧ ∃ k, w' = w.drewN k := by
  have h1 : ((n : Int) != (m : Int)) = true := by simp; omega
  go_enter Try.func59, Try.ntmps59
  go_wp2
  go_ret
  exact ⟨rfl, 0, rfl⟩

set_option maxHeartbeats 800000 in
theorem seq_some (b b' n c d : Nat) (xs ys : List (Nat × Nat)) (w : World) (hm : n ≤ 1000000000) (hxl : xs.length = n) (hyl : ys.length = n)
    (hx : ∀ j, j < n → w.cell? ⟨b, j * 2, none⟩ = some (.int .i64 (xs.getD j (0, 0)).1) ∧ w.cell? ⟨b, j * 2 + 1, none⟩ = some (.int .i64 (xs.getD j (0, 0)).2))
    (hy : ∀ j, j < n → w.cell? ⟨b', j * 2, none⟩ = some (.int .i64 (ys.getD j (0, 0)).1) ∧ w.cell? ⟨b', j * 2 + 1, none⟩ = some (.int .i64 (ys.getD j (0, 0)).2)) :
    Calls Try.prog 59 #[.slice (some ⟨b, 0, none⟩) n c, .slice (some ⟨b', 0, none⟩) n d] w fun e w' => e = .returned (.bool (decide (xs = ys))) ∧ ∃ k, w' = w.drewN k := by
  have Hx := Lib.hid hx; clear hx
  have Hy := Lib.hid hy; clear hy
  have Hxl := Lib.hid hxl; clear hxl
  have Hyl := Lib.hid hyl; clear hyl
  go_enter Try.func59, Try.ntmps59
  go_wp2
  go_loopw [13] (fun i wr => ∃ k : Nat, k ≤ n ∧ i = .int .i64 k ∧ Hid (∀ j, j < k → xs.getD j (0, 0) = ys.getD j (0, 0)) ∧ ∃ m, wr = w.drewN m) (fun i _ => n - (intOf i).toNat)
  case atStart => exact ⟨0, Nat.zero_le _, rfl, Lib.hid (fun j hj => by omega), 0, rfl⟩
  case round =>
    obtain ⟨k, hk, rfl, he, m, rfl⟩ := hrel
    by_cases hlt : k < n
    · have cx := (Hx.out k hlt).1
      have cx' := (Hx.out k hlt).2
      have cy := (Hy.out k hlt).1
      have cy' := (Hy.out k hlt).2
      generalize hp : xs.getD k (0, 0) = p at *
      generalize hq' : ys.getD k (0, 0) = q at *
      obtain ⟨p1, p2⟩ := p
      obtain ⟨q1, q2⟩ := q
      have Hp := Lib.hid hp; clear hp
      have Hq' := Lib.hid hq'; clear hq'
      by_cases hq : p1 = q1 ∧ p2 = q2
      · obtain ⟨rfl, rfl⟩ := hq
        go_wp2
        go_quiet (fail)
        go_wp2
        go_roundw
        case rel => exact ⟨k + 1, by omega, by go_num, Lib.hid (fun j hj => by
          by_cases e : j = k
          · subst e; rw [Hp.out, Hq'.out]
          · exact he.out j (by omega)), m + nq, rfl⟩
        case measure => simp [intOf]; omega
      · have hne : decide (xs = ys) = false := by
          rw [decide_eq_false_iff_not]
          intro e
          have h1 := Hp.out
          rw [e, Hq'.out] at h1
          simp only [Prod.mk.injEq] at h1
          exact hq ⟨h1.1.symm, h1.2.symm⟩
        have Hne := Lib.hid hne; clear hne
        by_cases h1 : p1 = q1
        · subst h1
          have h2 : ¬ ((p2 : Int) = (q2 : Int)) := fun e => hq ⟨rfl, by omega⟩
          clear hq
          go_wp2
          go_quiet (fail)
          go_wp2
          go_ret
          exact ⟨by rw [Hne.out]; rfl, m + nq, by first | rfl | rw [World.drewN_drewN]⟩
        · have h2 : ¬ ((p1 : Int) = (q1 : Int)) := by omega
          clear hq h1
          go_wp2
          go_quiet (fail)
          go_wp2
          go_ret
          exact ⟨by rw [Hne.out]; rfl, m + nq, by first | rfl | rw [World.drewN_drewN]⟩
    · obtain rfl : k = n := by omega
      have hne : decide (xs = ys) = true := by
        rw [decide_eq_true_eq]
        apply List.ext_getElem?
        intro j
        have h1 := Hxl.out
        have h2 := Hyl.out
        by_cases hj : j < k
        · have := he.out j hj
          simp only [List.getD] at this
          rw [List.getElem?_eq_getElem (by omega), List.getElem?_eq_getElem (by omega)] at this ⊢
          simpa using this
        · rw [List.getElem?_eq_none (by omega), List.getElem?_eq_none (by omega)]
      have Hne := Lib.hid hne; clear hne
      go_wp2
      go_ret
      exact ⟨by rw [Hne.out]; rfl, m, rfl⟩

theorem seq_at {w : World} {v u : Value} {xs ys : List (Nat × Nat)} (hv : SRow w v xs) (hu : SRow w u ys) (hpx : 0 < xs.length) (hpy : 0 < ys.length) (hm : xs.length ≤ 1000000000) :
    Calls Try.prog 59 #[v, u] w fun e w' => e = .returned (.bool (decide (xs = ys))) ∧ Upto (fun _ => False) w w' := by
  obtain ⟨g, c, rfl, _, _, _, hx⟩ := hv.open hpx
  obtain ⟨g', c', rfl, _, _, _, hy⟩ := hu.open hpy
  by_cases hl : xs.length = ys.length
  · rw [← hl]
    exact (seq_some g g' xs.length c c' xs ys w hm rfl hl.symm hx (fun j hj => hy j (by omega))).mono fun _ _ ⟨h1, _, h2⟩ => ⟨h1, Upto.drewN_of _ h2⟩
  · have e : decide (xs = ys) = false := by
      rw [decide_eq_false_iff_not]; intro e; exact hl (by rw [e])
    rw [e]
    exact (seq_len _ _ _ c _ c' w hl).mono fun _ _ ⟨h1, _, h2⟩ => ⟨h1, Upto.drewN_of _ h2⟩
theorem equal_at {w : World} {v u : Value} {xs ys : List Int} (hv : Sees w v xs) (hu : Sees w u ys) : Calls Try.prog 31 #[v, u] w fun e w' => e = .returned (.bool (decide (xs = ys))) ∧ Upto (fun _ => False) w w' :=
  (eq_at hv hu).mono fun _ _ ⟨h1, _, h2⟩ => ⟨h1, Upto.drewN_of _ h2⟩

/-! Same -/

set_option maxRecDepth 10000 in
set_option maxHeartbeats 2000000 in
theorem msame_mem {w : World} {b b' lim : Nat} {v u v' u' : Value} {cs cs' : List Int} {ss ss' : List (Nat × Nat)} (m : Mem w b lim v u cs ss) (m' : Mem w b' lim v' u' cs' ss') :
    Calls Try.prog 25 #[ptr b, ptr b'] w fun e w' => e = .returned (.bool (decide (cs = cs') && decide (ss = ss'))) ∧ Upto (fun _ => False) w w' := by
  obtain ⟨g, n, c, hn, hsp, _⟩ := m.pile.spans
  obtain ⟨g', n', c', hn', hsp', _⟩ := m'.pile.spans
  have hf := m.pile.facts
  have hf' := m'.pile.facts
  have h0 := m.c0
  have h1 := m.c1
  have h2 := m.c2
  have k0 := m'.c0
  have k1 := m'.c1
  have k2 := m'.c2
  have hlt := m.lt
  have hlt' := m'.lt
  obtain ⟨_, mv, mu, _⟩ := id m
  obtain ⟨_, mv', mu', _⟩ := id m'
  obtain ⟨vo, vn, vc, rfl⟩ := mv.shape
  obtain ⟨vo', vn', vc', rfl⟩ := mv'.shape
  rw [h2] at hsp
  rw [k2] at hsp'
  obtain rfl := Option.some.inj hsp
  obtain rfl := Option.some.inj hsp'
  have HE := Lib.hid (fun (w' : World) (hu : Upto (fun _ => False) w w') => equal_at (mv.kept hu (fun _ _ => id)).sees (mv'.kept hu (fun _ _ => id)).sees)
  have HS := Lib.hid (fun (w' : World) (hu : Upto (fun _ => False) w w') => seq_at (mu.kept hu (fun _ _ => id)) (mu'.kept hu (fun _ _ => id)) hf.1 hf'.1 hf.2.2.2.2)
  have HQ := Lib.hid (fun (n : Nat) => eq_at (mv.kept ((Upto.refl (fun _ => False) w).drewN n) (fun _ _ => id)).sees (mv'.kept ((Upto.refl (fun _ => False) w).drewN n) (fun _ _ => id)).sees)
  have HV : Hid (∀ (m : Nat) (c1 : Value), c1 = ptr b ∨ c1 = ptr b' → Calls Try.prog 55 #[c1] (w.drewN m) fun e w' => e = .returned (.bool true) ∧ w' = w.drewN m) := Lib.hid fun m c1 hc1 => by
    rcases hc1 with rfl | rfl
    · exact (mvalid_at b _ n c (w.drewN m) h2).mono fun _ _ ⟨h1, h2⟩ => ⟨h1, h2.symm⟩
    · exact (mvalid_at b' _ n' c' (w.drewN m) k2).mono fun _ _ ⟨h1, h2⟩ => ⟨h1, h2.symm⟩
  have HU0 : Hid (Upto (fun _ => False) w w.drew) := Lib.hid (Upto.refl _ w).drew
  clear hsp hsp' mv mv' mu mu' hf hf' m m' hn hn'
  have d2 : w.drew.cell? ⟨b, 2, none⟩ = some (.slice (some ⟨g, 0, none⟩) (n + 1) c) := h2
  have e2 : w.drew.cell? ⟨b', 2, none⟩ = some (.slice (some ⟨g', 0, none⟩) (n' + 1) c') := k2
  by_cases hC : cs = cs'
  · have e : (decide (cs = cs') && decide (ss = ss')) = decide (ss = ss') := by simp [hC]
    rw [e]
    have hC' : decide (cs = cs') = true := decide_eq_true hC
    have HC := Lib.hid hC'; clear hC hC' e
    go_enter Try.func25, Try.ntmps25
    go_wp2
    go_region_held3 (fun w' => w'.cell? ⟨b, 0, none⟩ = some (.int .i64 lim) ∧ w'.cell? ⟨b, 1, none⟩ = some (.slice vo vn vc) ∧ w'.cell? ⟨b, 2, none⟩ = some (.slice (some ⟨g, 0, none⟩) (n + 1) c) ∧ w'.cell? ⟨b', 0, none⟩ = some (.int .i64 lim) ∧ w'.cell? ⟨b', 1, none⟩ = some (.slice vo' vn' vc') ∧ w'.cell? ⟨b', 2, none⟩ = some (.slice (some ⟨g', 0, none⟩) (n' + 1) c')) (go_keep) (first
      | (go_at_call 59; have mm := HUa; clear mm; refine (HS.out _ HUa.out).mono ?_; rintro e wb ⟨rfl, hu⟩; have HUb := Lib.hid (HUa.out.trans hu); have hb0 := (HUb.out.cell (p := ⟨b, 0, none⟩) hlt id).trans h0; have hb1 := (HUb.out.cell (p := ⟨b, 1, none⟩) hlt id).trans h1; have hb2 := (HUb.out.cell (p := ⟨b, 2, none⟩) hlt id).trans h2; have kb0 := (HUb.out.cell (p := ⟨b', 0, none⟩) hlt' id).trans k0; have kb1 := (HUb.out.cell (p := ⟨b', 1, none⟩) hlt' id).trans k1; have kb2 := (HUb.out.cell (p := ⟨b', 2, none⟩) hlt' id).trans k2; clear hu)
        | (go_at_call 31; refine (HE.out _ HU0.out).mono ?_; rintro e wa ⟨rfl, hu⟩; rw [HC.out]; have HUa := Lib.hid (HU0.out.trans hu); have ha0 := (HUa.out.cell (p := ⟨b, 0, none⟩) hlt id).trans h0; have ha1 := (HUa.out.cell (p := ⟨b, 1, none⟩) hlt id).trans h1; have ha2 := (HUa.out.cell (p := ⟨b, 2, none⟩) hlt id).trans h2; have ka0 := (HUa.out.cell (p := ⟨b', 0, none⟩) hlt' id).trans k0; have ka1 := (HUa.out.cell (p := ⟨b', 1, none⟩) hlt' id).trans k1; have ka2 := (HUa.out.cell (p := ⟨b', 2, none⟩) hlt' id).trans k2; clear hu)
        | (go_at_call 55; refine (mvalid_at _ _ _ _ _ (by assumption)).mono ?_; rintro e w' ⟨rfl, rfl⟩))
    go_wp2
    go_ret
    exact ⟨rfl, HUb.out⟩
  · have hC' : decide (cs = cs') = false := decide_eq_false hC
    have e : (decide (cs = cs') && decide (ss = ss')) = false := by simp [hC']
    rw [e]
    have HC := Lib.hid hC'; clear hC hC' e
    go_enter Try.func25, Try.ntmps25
    go_wp2
    have HQf : Hid (∀ n : Nat, Calls Try.prog 31 #[.slice vo vn vc, .slice vo' vn' vc'] (w.drewN n) fun e w' => e = .returned (.bool false) ∧ ∃ m, w' = (w.drewN n).drewN m) := Lib.hid fun n => (HQ.out n).mono fun _ _ ⟨h1, h2⟩ => ⟨by rw [h1, HC.out], h2⟩
    clear HQ HC
    go_quiet (first
      | (go_at_call 31; exact Calls.quiet_of (HQf.out _))
      | (go_at_call 55; exact Calls.quiet_of_same (HV.out _ _ (by first | exact Or.inl rfl | exact Or.inr rfl))))
    go_wp2
    go_ret
    exact ⟨rfl, (Upto.refl _ _).drewN _⟩
theorem MPile.same {w : World} {b b' lim : Nat} {cs cs' : List Int} {ss ss' : List (Nat × Nat)} {F F' : Nat → Prop} (h : MPile w b lim cs ss F) (h' : MPile w b' lim cs' ss' F') :
    Calls Try.prog 25 #[ptr b, ptr b'] w fun e w' => e = .returned (.bool (decide (cs = cs') && decide (ss = ss'))) ∧ Upto (fun _ => False) w w' := by
  obtain ⟨v, u, m, _⟩ := h
  obtain ⟨v', u', m', _⟩ := h'
  exact msame_mem m m'

end Go.Proofs.Ytjganbcolaakkaa
