/-
  The operations of a heap that stands beside other things.
-/
import Derived.Test.YtjganbcolaakkaaHeapD
namespace Go.Proofs.Ytjganbcolaakkaa
open Go.RowKit

theorem okLook0 : okLook 0 0 := Or.inl ⟨rfl, rfl⟩
theorem okLook2 : okLook 2 3 := Or.inr (Or.inr ⟨rfl, rfl⟩)

section
variable {w0 w : World} {b lim : Nat} {ls : List (List Int)} {l2 : List Thing}
theorem SH.used (l1 : List Thing) (n : Int) (h : St w0 w (l1 ++ HT b lim ls :: l2)) (hn : (tot ls : Int) = n) : Calls Try.prog 28 #[ptr b] w fun e w' => e = .returned (.int .i64 n) ∧ w = w' := by
  subst hn
  obtain ⟨F, hA, _⟩ := h.get l1
  obtain ⟨c0, c1, c2, ao, c, c3⟩ := hA.cells
  exact hused_at b _ w c0 c2
theorem SH.limit (l1 : List Thing) (n : Int) (h : St w0 w (l1 ++ HT b lim ls :: l2)) (hn : (lim : Int) = n) : Calls Try.prog 36 #[ptr b] w fun e w' => e = .returned (.int .i64 n) ∧ w = w' := by
  subst hn
  obtain ⟨F, hA, _⟩ := h.get l1
  obtain ⟨c0, c1, c2, ao, c, c3⟩ := hA.cells
  exact hlimit_at b _ w c0 c1
theorem SH.count (l1 : List Thing) (n : Int) (h : St w0 w (l1 ++ HT b lim ls :: l2)) (hn : (ls.length : Int) - 1 = n) : Calls Try.prog 29 #[ptr b] w fun e w' => e = .returned (.int .i64 n) ∧ w = w' := by
  subst hn
  obtain ⟨F, hA, _⟩ := h.get l1
  have hf := hA.facts
  obtain ⟨c0, c1, c2, ao, c, c3⟩ := hA.cells
  have := hcount_at b ao _ c w c0 c3
  rwa [show ((ls.length - 1 : Nat) : Int) = (ls.length : Int) - 1 by omega] at this
end

section
variable {w0 w w' : World} {b lim : Nat} {ls : List (List Int)} {l1 l2 : List Thing} [Goods l1] [Goods l2]

theorem SH.len (l1 : List Thing) [Goods l1] (j : Nat) (i n : Int) (h : St w0 w (l1 ++ HT b lim ls :: l2)) (hi : i = j) (hj : j < ls.length) (hn : ((ls.getD j []).length : Int) = n) : Calls Try.prog 34 #[ptr b, .int .i64 i] w fun e w' =>
    e = .returned (.tuple #[.int .i64 n, .int .i64 0]) ∧ St w0 w' (l1 ++ HT b lim ls :: l2) := by
  subst hn
  obtain ⟨F, hA, _⟩ := h.get l1
  obtain ⟨v, F1, ⟨so, n, c, rfl, hE⟩, _, hr, _⟩ := hA.arr j i hi hj
  obtain ⟨_, _, e, _⟩ := hr.slice
  simp only [Value.slice.injEq] at e
  obtain ⟨_, rfl, _⟩ := e
  exact (hlen_of _ i 0 0 so _ c w hE okLook0).mono fun _ _ ⟨h1, h2⟩ => ⟨h1, h.step h2⟩
theorem SH.lenOut (l1 : List Thing) [Goods l1] (i : Int) (h : St w0 w (l1 ++ HT b lim ls :: l2)) (hi : i < 0 ∨ (ls.length : Int) ≤ i) : Calls Try.prog 34 #[ptr b, .int .i64 i] w fun e w' =>
    e = .returned (.tuple #[.int .i64 0, .int .i64 3]) ∧ St w0 w' (l1 ++ HT b lim ls :: l2) := by
  obtain ⟨F, hA, _⟩ := h.get l1
  exact (hlen_of _ i 2 3 none 0 0 w (hA.arrOut i hi) okLook2).mono fun _ _ ⟨h1, h2⟩ => ⟨h1, h.step h2⟩
theorem SH.array (l1 : List Thing) [Goods l1] (j : Nat) (i : Int) (xs : List Int) (h : St w0 w (l1 ++ HT b lim ls :: l2)) (hi : i = j) (hj : j < ls.length) (hx : ls.getD j [] = xs) : Calls Try.prog 33 #[ptr b, .int .i64 i] w fun e w' =>
    ∃ u, e = .returned (.tuple #[u, .int .i64 0]) ∧ St w0 w' (RowT u xs :: (l1 ++ HT b lim ls :: l2)) := by
  subst hx
  obtain ⟨F, hA, _⟩ := h.get l1
  have hf := hA.facts
  have ht : (ls.getD j []).length ≤ tot ls := len_le_tot
  obtain ⟨v, F1, ⟨so, n, c, rfl, hE⟩, _, hr, _⟩ := hA.arr j i hi hj
  exact (harr_of _ i 0 0 so n c _ w hE okLook0 hr.sees (by omega)).mono fun _ _ ⟨u, h1, h2⟩ => ⟨u, h1, h.fresh (RowT.of h2.1) h2.2.1 h2.2.2⟩
theorem SH.arrayOut (l1 : List Thing) [Goods l1] (i : Int) (h : St w0 w (l1 ++ HT b lim ls :: l2)) (hi : i < 0 ∨ (ls.length : Int) ≤ i) : Calls Try.prog 33 #[ptr b, .int .i64 i] w fun e w' =>
    ∃ u, e = .returned (.tuple #[u, .int .i64 3]) ∧ St w0 w' (RowT u [] :: (l1 ++ HT b lim ls :: l2)) := by
  obtain ⟨F, hA, _⟩ := h.get l1
  exact (harr_of _ i 2 3 none 0 0 [] w (hA.arrOut i hi) okLook2 (Sees.nil w) (by simp)).mono fun _ _ ⟨u, h1, h2⟩ => ⟨u, h1, h.fresh (RowT.of h2.1) h2.2.1 h2.2.2⟩
theorem SH.get (l1 : List Thing) [Goods l1] (j k : Nat) (i i' x : Int) (h : St w0 w (l1 ++ HT b lim ls :: l2)) (hi : i = j) (hi' : i' = k) (hj : j < ls.length) (hk : k < (ls.getD j []).length) (hx : (ls.getD j []).getD k 0 = x) : Calls Try.prog 35 #[ptr b, .int .i64 i, .int .i64 i'] w fun e w' =>
    e = .returned (.tuple #[.int .i64 x, .int .i64 0, .int .i64 0]) ∧ St w0 w' (l1 ++ HT b lim ls :: l2) := by
  subst hx
  obtain ⟨F, hA, _⟩ := h.get l1
  obtain ⟨g, hE, hg, hc, _⟩ := hA.els j k i i' hi hi' hj hk
  exact (hget_some _ i i' _ g k w hE hg hc).mono fun _ _ ⟨h1, h2⟩ => ⟨h1, h.step h2⟩
theorem SH.getTrap (l1 : List Thing) [Goods l1] (j : Nat) (i i' : Int) (h : St w0 w (l1 ++ HT b lim ls :: l2)) (hi : i = j) (hj : j < ls.length) (hk : i' < 0 ∨ ((ls.getD j []).length : Int) ≤ i') : Calls Try.prog 35 #[ptr b, .int .i64 i, .int .i64 i'] w fun e w' =>
    e = .returned (.tuple #[.int .i64 0, .int .i64 2, .int .i64 0]) ∧ St w0 w' (l1 ++ HT b lim ls :: l2) := by
  obtain ⟨F, hA, _⟩ := h.get l1
  exact (hget_none _ i i' 2 0 w (hA.elsTrap j i i' hi hj hk)).mono fun _ _ ⟨h1, h2⟩ => ⟨h1, h.step h2⟩
theorem SH.getOut (l1 : List Thing) [Goods l1] (i i' : Int) (h : St w0 w (l1 ++ HT b lim ls :: l2)) (hi : i < 0 ∨ (ls.length : Int) ≤ i) : Calls Try.prog 35 #[ptr b, .int .i64 i, .int .i64 i'] w fun e w' =>
    e = .returned (.tuple #[.int .i64 0, .int .i64 0, .int .i64 3]) ∧ St w0 w' (l1 ++ HT b lim ls :: l2) := by
  obtain ⟨F, hA, _⟩ := h.get l1
  exact (hget_none _ i i' 0 3 w (hels_bad2 _ i i' w (hA.arrOut i hi))).mono fun _ _ ⟨h1, h2⟩ => ⟨h1, h.step h2⟩
theorem SH.set (l1 : List Thing) [Goods l1] (j k : Nat) (i i' z : Int) (ls' : List (List Int)) (h : St w0 w (l1 ++ HT b lim ls :: l2)) (hi : i = j) (hi' : i' = k) (hj : j < ls.length) (hk : k < (ls.getD j []).length) (hl : ls.set j ((ls.getD j []).set k z) = ls') : Calls Try.prog 32 #[ptr b, .int .i64 i, .int .i64 i', .int .i64 z] w fun e w' =>
    e = .returned (.tuple #[.int .i64 0, .int .i64 0]) ∧ St w0 w' (l1 ++ HT b lim ls' :: l2) := by
  subst hl
  obtain ⟨F, hA, _, close⟩ := h.focus l1
  obtain ⟨g, hE, hg, hc, hf, ht⟩ := hA.els j k i i' hi hi' hj hk
  exact (hset_some _ i i' _ z g k w hE hg hc hf).mono fun _ w' ⟨h1, h2⟩ => ⟨h1, close w' _ (ht z w' h2)⟩
theorem SH.setTrap (l1 : List Thing) [Goods l1] (j : Nat) (i i' z : Int) (h : St w0 w (l1 ++ HT b lim ls :: l2)) (hi : i = j) (hj : j < ls.length) (hk : i' < 0 ∨ ((ls.getD j []).length : Int) ≤ i') : Calls Try.prog 32 #[ptr b, .int .i64 i, .int .i64 i', .int .i64 z] w fun e w' =>
    e = .returned (.tuple #[.int .i64 2, .int .i64 0]) ∧ St w0 w' (l1 ++ HT b lim ls :: l2) := by
  obtain ⟨F, hA, _⟩ := h.get l1
  exact (hset_none _ i i' z 2 0 w (hA.elsTrap j i i' hi hj hk)).mono fun _ _ ⟨h1, h2⟩ => ⟨h1, h.step h2⟩
theorem SH.setOut (l1 : List Thing) [Goods l1] (i i' z : Int) (h : St w0 w (l1 ++ HT b lim ls :: l2)) (hi : i < 0 ∨ (ls.length : Int) ≤ i) : Calls Try.prog 32 #[ptr b, .int .i64 i, .int .i64 i', .int .i64 z] w fun e w' =>
    e = .returned (.tuple #[.int .i64 0, .int .i64 3]) ∧ St w0 w' (l1 ++ HT b lim ls :: l2) := by
  obtain ⟨F, hA, _⟩ := h.get l1
  exact (hset_none _ i i' z 0 3 w (hels_bad2 _ i i' w (hA.arrOut i hi))).mono fun _ _ ⟨h1, h2⟩ => ⟨h1, h.step h2⟩
theorem HT.grow (n : Nat) {F : Fp} (h : HT b lim ls w F) (hn : tot ls + n ≤ lim) (hf : ls.length ≤ 1000000) : Calls Try.prog 27 #[ptr b, .int .i64 n] w fun e w' =>
    e = .returned (.tuple #[.int .i64 ls.length, .int .i64 0, .int .i64 0]) ∧ Turned (HT b lim (ls ++ [List.replicate n 0])) w F w' := by
  obtain ⟨rs, u, vs, rfl, h2, h3, h4, h5⟩ := h
  obtain ⟨F1, F2, a1, ⟨F3, F4, a2, a3, a4, a5⟩, a6, a7⟩ := id h5
  obtain ⟨uo, uc, rfl, _⟩ := a2.1.slice
  have hub : ¬ rowOf (.slice uo vs.length uc) b := fun e => a6 b ((a1.2 b).2 rfl) ((a5 b).2 (Or.inl ((a2.2 b).2 e)))
  refine (halloc_some b lim (tot ([] :: rs)) n vs.length uo uc vs w a1.1 a2.1 rfl hub hn h4 (by simp at hf; omega)).mono ?_
  rintro e w' ⟨g, u', rfl, blk, rowu, row, late, hgu, hub', news, up⟩
  refine ⟨by simp [h2], fun k => (k = b ∨ rowOf u' k) ∨ F4 k ∨ k = g, ⟨rs ++ [List.replicate n 0], u', vs ++ [.slice (some ⟨g, 0, none⟩) n n], by simp, by simp [h2], ?_, h4, ?_⟩, up.mono (fun k _ hk => ?_), fun k hk => ?_⟩
  · rw [tot_snoc, List.length_replicate]; exact hn
  · have e1 : (([] :: rs) ++ [List.replicate n (0 : Int)]) = [] :: rs ++ [List.replicate n 0] := rfl
    have hdis : ∀ k, F4 k → ¬ (k = b ∨ rowOf (.slice uo vs.length uc) k) := fun k hk hk' => by
      rcases hk' with rfl | hk'
      · exact a6 k ((a1.2 k).2 rfl) ((a5 k).2 (Or.inr hk))
      · exact a4 k ((a2.2 k).2 hk') hk
    have h6 := All.kept inferInstance a3 up hdis
    have hlt4 : ∀ k, F4 k → k < w.heap.size := All.lt inferInstance a3
    have hrows : All (RowsT (vs ++ [.slice (some ⟨g, 0, none⟩) n n]) (rs ++ [List.replicate n 0])) w' (fun k => F4 k ∨ k = g) := by
      unfold RowsT
      rw [List.zipWith_append h2]
      refine All.perm (l := RowT (.slice (some ⟨g, 0, none⟩) n n) (List.replicate n 0) :: RowsT vs rs) (List.perm_append_comm (l₁ := [_])) ⟨fun k => k = g, F4, ⟨row, fun k => ⟨fun e => by subst e; rfl, fun e => by cases e; rfl⟩⟩, h6, fun k hk hk' => ?_, fun k => Or.comm⟩
      have := hlt4 k hk'
      have : k = g := hk
      omega
    have hblt := lt_of_block a1.1
    refine ⟨fun k => k = b, fun k => rowOf u' k ∨ F4 k ∨ k = g, ⟨?_, fun _ => Iff.rfl⟩, ⟨rowOf u', fun k => F4 k ∨ k = g, ⟨rowu, fun _ => Iff.rfl⟩, hrows, fun k hk hk' => ?_, fun _ => Iff.rfl⟩, fun k hk hk' => ?_, fun k => or_assoc⟩
    · rw [blk, tot_snoc, List.length_replicate]
      rfl
    · rcases hk' with hk' | hk'
      · rcases news k hk with h | h
        · exact a4 k ((a2.2 k).2 h) hk'
        · have := hlt4 k hk'; omega
      · have : k = g := hk'
        subst this
        exact hgu hk
    · have : k = b := hk
      subst this
      rcases hk' with hk' | hk' | hk'
      · exact hub' hk'
      · exact hdis k hk' (Or.inl rfl)
      · omega
  · rcases hk with rfl | hk
    · exact (a7 k).2 (Or.inl ((a1.2 k).2 rfl))
    · exact (a7 k).2 (Or.inr ((a5 k).2 (Or.inl ((a2.2 k).2 hk))))
  · rcases hk with (rfl | hk) | hk | rfl
    · exact Or.inl ((a7 k).2 (Or.inl ((a1.2 k).2 rfl)))
    · rcases news k hk with h | h
      · exact Or.inl ((a7 k).2 (Or.inr ((a5 k).2 (Or.inl ((a2.2 k).2 h)))))
      · exact Or.inr h
    · exact Or.inl ((a7 k).2 (Or.inr ((a5 k).2 (Or.inr hk))))
    · exact Or.inr late
theorem SH.alloc (l1 : List Thing) [Goods l1] (n : Nat) (i m : Int) (h : St w0 w (l1 ++ HT b lim ls :: l2)) (hi : i = n) (hn : tot ls + n ≤ lim) (hf : ls.length ≤ 1000000) (hm : (ls.length : Int) = m) : Calls Try.prog 27 #[ptr b, .int .i64 i] w fun e w' =>
    e = .returned (.tuple #[.int .i64 m, .int .i64 0, .int .i64 0]) ∧ St w0 w' (l1 ++ HT b lim (ls ++ [List.replicate n 0]) :: l2) := by
  subst hi hm
  obtain ⟨F, hA, _, close⟩ := h.focus l1
  exact (hA.grow n hn hf).mono fun _ w' ⟨h1, h2⟩ => ⟨h1, close w' _ h2⟩
theorem SH.allocTrap (l1 : List Thing) [Goods l1] (n : Int) (h : St w0 w (l1 ++ HT b lim ls :: l2)) (hn : n < 0 ∨ (lim : Int) - tot ls < n) : Calls Try.prog 27 #[ptr b, .int .i64 n] w fun e w' =>
    e = .returned (.tuple #[.int .i64 0, .int .i64 5, .int .i64 0]) ∧ St w0 w' (l1 ++ HT b lim ls :: l2) := by
  obtain ⟨F, hA, _⟩ := h.get l1
  have hf := hA.facts
  obtain ⟨c0, c1, c2, ao, c, c3⟩ := hA.cells
  by_cases hneg : n < 0
  · exact (halloc_neg b n w c0 hneg).mono fun _ _ ⟨h1, h2⟩ => ⟨h1, h.step h2⟩
  · exact (halloc_many b lim (tot ls) n w c0 c1 c2 hf.2.2.1 hf.2.1 (by omega) (by omega)).mono fun _ _ ⟨h1, h2⟩ => ⟨h1, h.step h2⟩
end

theorem hnew_thing (n : Nat) (w : World) (hn : n ≤ 10000) : Calls Try.prog 26 #[.int .i64 n] w fun e w' =>
    ∃ b F, e = .returned (.tuple #[ptr b, .int .i64 0]) ∧ HT b n [[]] w' F ∧ (∀ k, F k → w.heap.size ≤ k) ∧ Below w.heap.size w w' := by
  refine (hnew_ok n w (by omega) (by omega)).mono ?_
  rintro e w' ⟨rfl, rfl⟩
  refine ⟨_, fun k => k = w.heap.size, rfl, ⟨[], .slice none 0 0, [], rfl, rfl, Nat.zero_le _, hn, fun k => k = w.heap.size, fun _ => False, ⟨heap_alloc_new w _, fun _ => Iff.rfl⟩, ⟨fun _ => False, fun _ => False, ⟨World.ownsRow_nil _ 0 _ 1, fun k => ⟨fun h => h.elim, fun h => rowOf_none h⟩⟩, fun _ => id, fun _ h => h.elim, fun k => by simp⟩, fun _ _ h => h, fun k => by simp⟩, fun k hk => Nat.le_of_eq hk.symm, (Below.refl _ _).alloc (Nat.le_refl _) _⟩
theorem SH.new {w0 w : World} {l : List Thing} [Goods l] (n : Nat) (i : Int) (h : St w0 w l) (hi : i = n) (hn : n ≤ 10000) : Calls Try.prog 26 #[.int .i64 i] w fun e w' =>
    ∃ b, e = .returned (.tuple #[ptr b, .int .i64 0]) ∧ St w0 w' (HT b n [[]] :: l) := by
  subst hi
  exact (hnew_thing n w hn).mono fun _ _ ⟨b, F, h1, h2, h3, h4⟩ => ⟨b, h1, h.fresh h2 h3 h4⟩

end Go.Proofs.Ytjganbcolaakkaa
