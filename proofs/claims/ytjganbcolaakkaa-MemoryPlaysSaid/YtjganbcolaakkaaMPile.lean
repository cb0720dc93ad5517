/-
  A memory as the caller sees it: one contract for each operation.
-/
import Derived.Test.YtjganbcolaakkaaMalloc
namespace Go.Proofs.Ytjganbcolaakkaa
open Go.RowKit

inductive MPile (w : World) (b : Nat) (lim : Nat) (cs : List Int) (ss : List (Nat × Nat)) (F : Nat → Prop) : Prop
  | mk (v u : Value) (mem : Mem w b lim v u cs ss) (fb : F b) (fv : ∀ k, rowOf v k → F k) (fu : ∀ k, rowOf u k → F k) (flt : ∀ k, F k → k < w.heap.size)

abbrev ptr (b : Nat) : Value := .pointer (some ⟨b, 0, none⟩)

section
variable {w w' : World} {b lim : Nat} {cs : List Int} {ss : List (Nat × Nat)} {F : Nat → Prop}

theorem MPile.kept {S : Nat → Prop} (h : MPile w b lim cs ss F) (hu : Upto S w w') (hd : ∀ k, F k → ¬ S k) : MPile w' b lim cs ss F := by
  obtain ⟨v, u, m, f1, f2, f3, f4⟩ := h
  exact ⟨v, u, m.kept hu (hd b f1) (fun k hk => hd k (f2 k hk)) (fun k hk => hd k (f3 k hk)), f1, f2, f3, fun k hk => Nat.lt_of_lt_of_le (f4 k hk) hu.size⟩
theorem MPile.facts (h : MPile w b lim cs ss F) : 0 < ss.length ∧ cs.length ≤ lim ∧ lim ≤ 10000 ∧ (∀ s ∈ ss, s.1 + s.2 ≤ cs.length) ∧ ss.length ≤ 1000000000 := by
  obtain ⟨v, u, ⟨_, _, _, _, _, _, a, b, c, d, e⟩, _⟩ := h
  exact ⟨a, b, c, d, e⟩

/-- The slice of spans, opened. -/
theorem MPile.spans (h : MPile w b lim cs ss F) : ∃ g n c, ss.length = n + 1 ∧ w.cell? ⟨b, 2, none⟩ = some (.slice (some ⟨g, 0, none⟩) (n + 1) c) ∧
    ∀ j, j < ss.length → w.cell? ⟨g, j * 2, none⟩ = some (.int .i64 (ss.getD j (0, 0)).1) ∧ w.cell? ⟨g, j * 2 + 1, none⟩ = some (.int .i64 (ss.getD j (0, 0)).2) := by
  obtain ⟨v, u, m, _⟩ := h
  have h2 := m.c2
  obtain ⟨_, _, hs, _, _, _, hp, _⟩ := m
  obtain ⟨g, c, rfl, _, _, _, hc⟩ := hs.open hp
  exact ⟨g, ss.length - 1, c, by omega, by rw [h2]; congr 2; omega, hc⟩
theorem MPile.fit (h : MPile w b lim cs ss F) {j : Nat} (hj : j < ss.length) : (ss.getD j (0, 0)).1 + (ss.getD j (0, 0)).2 ≤ cs.length := by
  have := h.facts.2.2.2.1 (ss.getD j (0, 0)) (by simp [List.getD, hj])
  exact this

theorem MPile.span (j : Nat) (h : MPile w b lim cs ss F) (hj : j < ss.length) : Calls Try.prog 17 #[ptr b, .int .i64 j] w fun e w' =>
    e = .returned (.tuple #[.int .i64 (ss.getD j (0, 0)).1, .int .i64 (ss.getD j (0, 0)).2, .int .i64 0]) ∧ Upto (fun _ => False) w w' := by
  obtain ⟨g, n, c, hn, h2, hc⟩ := h.spans
  exact mspan_in b g n c j _ _ w h2 (by omega) (hc j hj).1 (hc j hj).2
theorem MPile.spanOut (i : Int) (h : MPile w b lim cs ss F) (hi : i < 0 ∨ (ss.length : Int) ≤ i) : Calls Try.prog 17 #[ptr b, .int .i64 i] w fun e w' =>
    e = .returned (.tuple #[.int .i64 0, .int .i64 0, .int .i64 3]) ∧ w = w' := by
  obtain ⟨g, n, c, hn, h2, hc⟩ := h.spans
  exact mspan_out b _ n c i w h2 (by omega)
theorem MPile.len (j : Nat) (h : MPile w b lim cs ss F) (hj : j < ss.length) : Calls Try.prog 24 #[ptr b, .int .i64 j] w fun e w' =>
    e = .returned (.tuple #[.int .i64 (ss.getD j (0, 0)).2, .int .i64 0]) ∧ Upto (fun _ => False) w w' := mlen_of _ _ _ _ _ w (h.span j hj)
theorem MPile.lenOut (i : Int) (h : MPile w b lim cs ss F) (hi : i < 0 ∨ (ss.length : Int) ≤ i) : Calls Try.prog 24 #[ptr b, .int .i64 i] w fun e w' =>
    e = .returned (.tuple #[.int .i64 0, .int .i64 3]) ∧ Upto (fun _ => False) w w' :=
  mlen_of _ _ _ _ _ w ((h.spanOut i hi).mono fun _ _ ⟨h1, h2⟩ => ⟨h1, h2 ▸ Upto.refl _ _⟩)
theorem MPile.count (h : MPile w b lim cs ss F) : Calls Try.prog 19 #[ptr b] w fun e w' => e = .returned (.int .i64 ((ss.length : Int) - 1)) ∧ w = w' := by
  obtain ⟨g, n, c, hn, h2, hc⟩ := h.spans
  have := h.facts.2.2.2.2
  rw [hn, show ((n + 1 : Nat) : Int) - 1 = n by omega]
  exact mcount_at b _ n c w (by omega) h2
theorem MPile.limit (h : MPile w b lim cs ss F) : Calls Try.prog 44 #[ptr b] w fun e w' => e = .returned (.int .i64 lim) ∧ w = w' := by
  obtain ⟨g, n, c, hn, h2, hc⟩ := h.spans
  obtain ⟨v, u, m, _⟩ := h
  exact mlimit_at b _ n c lim w m.c0 h2
theorem MPile.cells (h : MPile w b lim cs ss F) : Calls Try.prog 18 #[ptr b] w (Cloned w cs) := by
  obtain ⟨g, n, c, hn, h2, hc⟩ := h.spans
  have hf := h.facts
  obtain ⟨v, u, m, _⟩ := h
  have h1 := m.c1
  obtain ⟨_, hv, _⟩ := m
  exact mcells_at b _ n c v cs w h1 h2 hv (by omega)

end

section
variable {w w' : World} {b lim : Nat} {v u : Value} {cs : List Int} {ss : List (Nat × Nat)}
theorem Mem.pile (m : Mem w b lim v u cs ss) : MPile w b lim cs ss (fun k => k = b ∨ rowOf v k ∨ rowOf u k) := by
  have hlt := m.lt
  obtain ⟨_, hv, hu, _⟩ := id m
  refine ⟨v, u, m, Or.inl rfl, fun k h => Or.inr (Or.inl h), fun k h => Or.inr (Or.inr h), fun k h => ?_⟩
  rcases h with rfl | h | h
  · exact hlt
  · exact hv.lt k h
  · exact hu.lt k h
theorem Mem.arr (j : Nat) (m : Mem w b lim v u cs ss) (hj : j < ss.length) (hl : 0 < (ss.getD j (0, 0)).2) : ∃ g c, v = .slice (some ⟨g, 0, none⟩) cs.length c ∧ Arr (ptr b) j w (.slice (some ⟨g, (ss.getD j (0, 0)).1, none⟩) (ss.getD j (0, 0)).2 (ss.getD j (0, 0)).2) 0 := by
  have hS := m.pile.span j hj
  have hfit := m.pile.fit hj
  have hf := m.pile.facts
  have h1 := m.c1
  have hlt := m.lt
  generalize (ss.getD j (0, 0)).1 = f at *
  generalize (ss.getD j (0, 0)).2 = l at *
  obtain ⟨_, hv, _⟩ := id m
  obtain ⟨l, rfl⟩ : ∃ l', l = l' + 1 := ⟨l - 1, by omega⟩
  obtain ⟨g, c, rfl, _, _, hg⟩ := row_first hv (by omega)
  have hnc : cs.length ≤ c := by
    obtain ⟨_, _, e, hh, _⟩ := hv.slice
    simp only [Value.slice.injEq] at e
    rw [e.2.2]; exact hh
  exact ⟨g, c, rfl, marray_some b g cs.length c f l j w h1 hlt hfit hnc (by omega) hS⟩
theorem Mem.arrE (j : Nat) (m : Mem w b lim v u cs ss) (hj : j < ss.length) : ArrE (ptr b) j w (ss.getD j (0, 0)).2 := by
  by_cases h0 : (ss.getD j (0, 0)).2 = 0
  · have hS := m.pile.span j hj
    have hfit := m.pile.fit hj
    have hf := m.pile.facts
    have h1 := m.c1
    have hlt := m.lt
    rw [h0] at hS hfit ⊢
    generalize (ss.getD j (0, 0)).1 = f at *
    obtain ⟨_, hv, _⟩ := id m
    obtain ⟨vo, vc, rfl, hnc, hcm⟩ := hv.slice
    cases vo with
    | none =>
      have hcs : cs.length = 0 ∧ vc = 0 := by
        rcases hv.2 with ⟨e, hn⟩ | ⟨g', cap, cur, e, _⟩
        · simp only [Value.slice.injEq] at e
          exact ⟨hn, e.2.2⟩
        · cases e
      obtain rfl : f = 0 := by omega
      rw [hcs.1, hcs.2] at h1
      exact (marray_none b j w h1 hlt hS).mono fun _ _ ⟨e1, e2⟩ => ⟨_, _, e1, e2⟩
    | some a =>
      have ha : a = ⟨a.block, 0, none⟩ := by
        rcases hv.2 with ⟨e, _⟩ | ⟨g', cap, cur, e, _⟩
        · cases e
        · simp only [Value.slice.injEq, Option.some.injEq] at e
          rw [e.1]
      rw [ha] at h1
      exact (marray_zero b a.block cs.length vc f j w h1 hlt (by omega) hnc (by omega) hS).mono fun _ _ ⟨so, e1, e2⟩ => ⟨so, 0, e1, e2⟩
  · obtain ⟨g, c, _, h⟩ := m.arr j hj (by omega)
    exact h.mono fun _ _ ⟨e1, e2⟩ => ⟨_, _, e1, e2⟩
theorem Mem.put {g n c : Nat} (k : Nat) (z : Int) (m : Mem w b lim (.slice (some ⟨g, 0, none⟩) n c) u cs ss) : Mem (w.setCell ⟨g, k, none⟩ (.int .i64 z)) b lim (.slice (some ⟨g, 0, none⟩) n c) u (cs.set k z) ss := by
  obtain ⟨m1, m2, m3, m4, m5, m6, m7, m8, m9, m10, m11⟩ := m
  have hn : cs.length = n := by
    rcases m2.2 with ⟨e, _⟩ | ⟨g', cap, cur, e, _⟩
    · cases e
    · simp only [Value.slice.injEq] at e
      exact e.2.1.symm
  subst hn
  have hu : Upto (fun k => k = g) w (w.setCell ⟨g, k, none⟩ (.int .i64 z)) := (Upto.refl (fun k => k = g) w).setCell (p := ⟨g, k, none⟩) (Or.inl rfl) (.int .i64 z)
  refine ⟨(hu.block b (lt_of_block m1) (fun e => m4 (by subst e; rfl))).trans m1, ?_, m3.kept hu (fun j hj e => m6 g rfl (by subst e; exact hj)), m4, m5, m6, m7, by simpa using m8, m9, by simpa using m10, m11⟩
  have := World.ownsRow.stored m2 k (.int .i64 z)
  unfold Row
  rw [List.length_set, List.map_set]
  exact this.1
end

section
variable {w w' : World} {b lim : Nat} {cs : List Int} {ss : List (Nat × Nat)} {F : Nat → Prop}

/-- The memory at b now is this; of what was there, only its own blocks have turned. -/
def MTurned (w : World) (b lim : Nat) (cs : List Int) (ss : List (Nat × Nat)) (F : Nat → Prop) (w' : World) : Prop :=
  ∃ F', MPile w' b lim cs ss F' ∧ Upto F w w' ∧ ∀ k, F' k → F k ∨ w.heap.size ≤ k

theorem MPile.load (j k : Nat) (h : MPile w b lim cs ss F) (hj : j < ss.length) (hk : k < (ss.getD j (0, 0)).2) : Calls Try.prog 22 #[ptr b, .int .i64 j, .int .i64 k] w fun e w' =>
    e = .returned (.tuple #[.int .i64 (cs.getD ((ss.getD j (0, 0)).1 + k) 0), .int .i64 0, .int .i64 0]) ∧ Upto (fun _ => False) w w' := by
  have hfit := h.fit hj
  obtain ⟨v, u, m, f1, f2, f3, f4⟩ := h
  obtain ⟨g, c, rfl, hA⟩ := m.arr j hj (by omega)
  obtain ⟨_, hv, _⟩ := m
  refine mload_ok _ j _ g _ _ _ k w hk (f4 g (f2 g rfl)) ?_ hA
  rw [World.ownsRow.cellAt hv _ (by omega), getElem?_map_int (by omega)]
theorem MPile.loadTrap (j : Nat) (i : Int) (h : MPile w b lim cs ss F) (hj : j < ss.length) (hi : i < 0 ∨ ((ss.getD j (0, 0)).2 : Int) ≤ i) : Calls Try.prog 22 #[ptr b, .int .i64 j, .int .i64 i] w fun e w' =>
    e = .returned (.tuple #[.int .i64 0, .int .i64 2, .int .i64 0]) ∧ Upto (fun _ => False) w w' := by
  obtain ⟨v, u, m, f1, f2, f3, f4⟩ := h
  exact mload_trap _ j i _ w hi (m.arrE j hj)
theorem MPile.arrOut (i : Int) (h : MPile w b lim cs ss F) (hi : i < 0 ∨ (ss.length : Int) ≤ i) : Arr (ptr b) i w (.slice none 0 0) 3 :=
  (marray_bad _ i 3 w (by decide) (h.spanOut i hi)).mono fun _ _ ⟨h1, h2⟩ => ⟨h1, h2 ▸ Upto.refl _ _⟩
theorem MPile.loadOut (i k : Int) (h : MPile w b lim cs ss F) (hi : i < 0 ∨ (ss.length : Int) ≤ i) : Calls Try.prog 22 #[ptr b, .int .i64 i, .int .i64 k] w fun e w' =>
    e = .returned (.tuple #[.int .i64 0, .int .i64 0, .int .i64 3]) ∧ Upto (fun _ => False) w w' := mload_bad _ i k 3 w (by decide) (h.arrOut i hi)
theorem MPile.store (j k : Nat) (z : Int) (h : MPile w b lim cs ss F) (hj : j < ss.length) (hk : k < (ss.getD j (0, 0)).2) : Calls Try.prog 23 #[ptr b, .int .i64 j, .int .i64 k, .int .i64 z] w fun e w' =>
    e = .returned (.tuple #[.int .i64 0, .int .i64 0]) ∧ MTurned w b lim (cs.set ((ss.getD j (0, 0)).1 + k) z) ss F w' := by
  have hfit := h.fit hj
  obtain ⟨v, u, m, f1, f2, f3, f4⟩ := h
  obtain ⟨g, c, rfl, hA⟩ := m.arr j hj (by omega)
  obtain ⟨_, hv, _⟩ := id m
  refine (mstore_ok _ j z (cs.getD ((ss.getD j (0, 0)).1 + k) 0) g _ _ _ k w hk (f4 g (f2 g rfl)) ?_ (World.ownsRow.frozenAt hv _) hA).mono ?_
  · rw [World.ownsRow.cellAt hv _ (by omega), getElem?_map_int (by omega)]
  · rintro e w' ⟨rfl, w1, hu, rfl⟩
    have m1 := m.kept hu id (fun _ _ => id) (fun _ _ => id)
    exact ⟨rfl, F, ⟨_, _, m1.put _ z, f1, f2, f3, fun k hk => by simpa [World.setCell] using Nat.lt_of_lt_of_le (f4 k hk) hu.size⟩, (hu.mono (fun _ _ h => h.elim)).setCell (Or.inl (f2 g rfl)) _, fun _ h => Or.inl h⟩
theorem MPile.storeTrap (j : Nat) (i z : Int) (h : MPile w b lim cs ss F) (hj : j < ss.length) (hi : i < 0 ∨ ((ss.getD j (0, 0)).2 : Int) ≤ i) : Calls Try.prog 23 #[ptr b, .int .i64 j, .int .i64 i, .int .i64 z] w fun e w' =>
    e = .returned (.tuple #[.int .i64 2, .int .i64 0]) ∧ Upto (fun _ => False) w w' := by
  obtain ⟨v, u, m, f1, f2, f3, f4⟩ := h
  exact mstore_trap _ j i z _ w hi (m.arrE j hj)
theorem MPile.storeOut (i k z : Int) (h : MPile w b lim cs ss F) (hi : i < 0 ∨ (ss.length : Int) ≤ i) : Calls Try.prog 23 #[ptr b, .int .i64 i, .int .i64 k, .int .i64 z] w fun e w' =>
    e = .returned (.tuple #[.int .i64 0, .int .i64 3]) ∧ Upto (fun _ => False) w w' := mstore_bad _ i k z 3 w (by decide) (h.arrOut i hi)

theorem MPile.alloc (n : Nat) (h : MPile w b lim cs ss F) (hn : cs.length + n ≤ lim) (hf : ss.length ≤ 1000000) : Calls Try.prog 16 #[ptr b, .int .i64 n] w fun e w' =>
    e = .returned (.tuple #[.int .i64 ss.length, .int .i64 0, .int .i64 0]) ∧ MTurned w b lim (cs ++ List.replicate n 0) (ss ++ [(cs.length, n)]) F w' := by
  obtain ⟨v, u, m, f1, f2, f3, f4⟩ := h
  obtain ⟨_, hv, hu, _, _, _, hp, _⟩ := id m
  obtain ⟨vo, vc, rfl, _⟩ := hv.slice
  obtain ⟨g, c, rfl, _⟩ := hu.open hp
  obtain ⟨k, hk⟩ : ∃ k, ss.length = k + 1 := ⟨ss.length - 1, by omega⟩
  rw [hk] at m f3 hu
  refine (malloc_some b g c k cs.length vc lim vo cs ss n w m hk rfl hn (by omega)).mono ?_
  rintro e w' ⟨rfl, v', u', m', hup, h1, h2⟩
  have hlt := m'.lt
  refine ⟨rfl, fun j => F j ∨ rowOf v' j ∨ rowOf u' j, ⟨v', u', m', Or.inl f1, fun _ h => Or.inr (Or.inl h), fun _ h => Or.inr (Or.inr h), fun j hj => ?_⟩, hup.mono (fun j _ hj => ?_), fun j hj => ?_⟩
  · obtain ⟨_, hv', hu', _⟩ := m'
    rcases hj with hj | hj | hj
    · exact Nat.lt_of_lt_of_le (f4 j hj) hup.size
    · exact hv'.lt j hj
    · exact hu'.lt j hj
  · rcases hj with rfl | hj | hj
    · exact f1
    · exact f2 j hj
    · exact f3 j hj
  · rcases hj with hj | hj | hj
    · exact Or.inl hj
    · exact (h1 j hj).imp (f2 j) id
    · exact (h2 j hj).imp (f3 j) id
theorem MPile.allocTrap (n : Int) (h : MPile w b lim cs ss F) (hn : n < 0 ∨ (lim : Int) - cs.length < n) : Calls Try.prog 16 #[ptr b, .int .i64 n] w fun e w' =>
    e = .returned (.tuple #[.int .i64 0, .int .i64 5, .int .i64 0]) ∧ Upto (fun _ => False) w w' := by
  obtain ⟨g, k, c, hk, h2, hc⟩ := h.spans
  have hf := h.facts
  obtain ⟨v, u, m, f1, f2, f3, f4⟩ := h
  have h0 := m.c0
  have h1 := m.c1
  obtain ⟨_, hv, _⟩ := id m
  obtain ⟨vo, vc, rfl, _⟩ := hv.slice
  by_cases hneg : n < 0
  · exact malloc_neg b _ k c n w h2 hneg
  · exact malloc_many b _ vo k c cs.length vc lim n w h0 h1 h2 hf.2.2.1 hf.2.1 (by omega) (by omega)

theorem mnew_pile (n : Nat) (w : World) (hn : n ≤ 10000) : Calls Try.prog 15 #[.int .i64 n] w fun e w' =>
    ∃ b F, e = .returned (.tuple #[ptr b, .int .i64 0]) ∧ MPile w' b n [] [(0, 0)] F ∧ (∀ k, F k → w.heap.size ≤ k) ∧ Below w.heap.size w w' := by
  refine (mnew_ok n w (by omega) (by omega)).mono ?_
  rintro e w' ⟨rfl, rfl⟩
  refine ⟨_, fun k => k = w.heap.size ∨ k = w.heap.size + 1, rfl, ⟨.slice none 0 0, .slice (some ⟨w.heap.size, 0, none⟩) 1 1, ⟨?_, rowNone _, ?_, rowOf_none, fun e => ?_, fun _ h => (rowOf_none h).elim, by simp, by simp, hn, by simp, by simp⟩, Or.inr rfl, fun _ h => (rowOf_none h).elim, fun k hk => ?_, fun k hk => ?_⟩, fun k hk => ?_, ((Below.refl _ _).alloc (Nat.le_refl _) _).alloc (by simp) _⟩
  · have := heap_alloc_new (w.alloc (.cells #[.int .i64 0, .int .i64 0] TSp)) (.cells #[.int .i64 n, .slice none 0 0, .slice (some ⟨w.heap.size, 0, none⟩) 1 1] TM)
    simpa using this
  · have := World.ownsRow_lit (base := 0) (e := TSp) (size := 2) w #[.int .i64 0, .int .i64 0] 1 (Nat.zero_le _) (by simp [maxLen]) rfl
    exact World.ownsRow.alloc this _
  · have := Option.some.inj e
    simp at this
  · cases hk; exact Or.inl rfl
  · rcases hk with rfl | rfl
    · simp; omega
    · simp
  · rcases hk with rfl | rfl <;> omega
end

end Go.Proofs.Ytjganbcolaakkaa
