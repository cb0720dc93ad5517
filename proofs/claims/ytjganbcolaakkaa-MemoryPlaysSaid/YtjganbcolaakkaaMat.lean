/-
  A slice of rows of numbers that the program made: read, grown, copied.
-/
import Derived.Test.YtjganbcolaakkaaHeapD
namespace Go.Proofs.Ytjganbcolaakkaa
open Go.RowKit

theorem St.join {w0 w : World} {A B : Thing} {l : List Thing} (h : St w0 w (A :: B :: l)) : St w0 w (All [A, B] :: l) := by
  obtain ⟨F, ⟨F1, F2, h1, ⟨F3, F4, h3, h4, h5, h6⟩, h7, h8⟩, h9, h10⟩ := h
  refine ⟨F, ⟨fun k => F1 k ∨ F3 k, F4, ⟨F1, F3, h1, ⟨F3, fun _ => False, h3, fun _ => id, fun _ _ h => h, fun k => by simp⟩, fun k hk hk' => h7 k hk ((h6 k).2 (Or.inl hk')), fun _ => Iff.rfl⟩, h4, fun k hk hk' => ?_, fun k => by rw [h8, h6, or_assoc]⟩, h9, h10⟩
  rcases hk with hk | hk
  · exact h7 k hk ((h6 k).2 (Or.inr hk'))
  · exact h5 k hk hk'

/-- A slice of rows. -/
def MatT (u : Value) (ls : List (List Int)) : Thing := fun w F => ∃ vs, vs.length = ls.length ∧ All (VRowT TII u vs :: RowsT vs ls) w F
instance (u : Value) (ls : List (List Int)) : Good (MatT u ls) := ⟨fun h hu hd => by
  obtain ⟨vs, h1, h2⟩ := h
  exact ⟨vs, h1, All.kept inferInstance h2 hu hd⟩, fun h => by
  obtain ⟨vs, h1, h2⟩ := h
  exact All.lt inferInstance h2⟩
theorem set_same (ls : List (List Int)) (j : Nat) : ls.set j (ls.getD j []) = ls := by
  apply List.ext_getElem?
  intro i
  by_cases h : j = i
  · subst h
    by_cases hj : j < ls.length
    · simp [List.getD, hj]
    · rw [List.getElem?_eq_none (by simp; omega), List.getElem?_eq_none (by omega)]
  · rw [List.getElem?_set_ne h]

section
variable {w w' : World} {u : Value} {ls : List (List Int)} {F : Fp}
theorem MatT.shape (h : MatT u ls w F) (hp : 0 < ls.length) : ∃ g c, u = .slice (some ⟨g, 0, none⟩) ls.length c ∧ ls.length ≤ c ∧ c ≤ maxLen ∧ g < w.heap.size := by
  obtain ⟨vs, h1, F1, F2, h2, _⟩ := h
  obtain ⟨g, c, rfl, h3, h4, h5, _⟩ := h2.1.open (by omega)
  exact ⟨g, c, by rw [h1], by omega, h4, h5⟩
theorem MatT.len (h : MatT u ls w F) : ∃ ao c, u = .slice ao ls.length c ∧ ls.length ≤ c ∧ c ≤ maxLen := by
  obtain ⟨vs, h1, F1, F2, h2, _⟩ := h
  obtain ⟨ao, c, rfl, h3, h4, _⟩ := h2.1.slice
  exact ⟨ao, c, by rw [h1], by omega, h4⟩
/-- Row j, opened. -/
theorem MatT.row (j : Nat) (h : MatT u ls w F) (hj : j < ls.length) : ∃ g c so sc F1, u = .slice (some ⟨g, 0, none⟩) ls.length c ∧ w.cell? ⟨g, j, none⟩ = some (.slice so (ls.getD j []).length sc) ∧ Row w (.slice so (ls.getD j []).length sc) (ls.getD j []) ∧
    (∀ k, F1 k → F k) ∧ (∀ k, rowOf (.slice so (ls.getD j []).length sc) k → F1 k) ∧ ∀ x w', Turned (RowT (.slice so (ls.getD j []).length sc) x) w F1 w' → Turned (MatT u (ls.set j x)) w F w' := by
  obtain ⟨vs, h2, h5⟩ := h
  have hu : VRow w TII u vs := by
    obtain ⟨F1, h, _⟩ := All.open [] h5
    exact h.1
  obtain ⟨v, l1, l2, e1, e2, e3, g1, g2⟩ := rows_split h2 hj
  obtain ⟨F1, k1, k2, k3⟩ := All.focus (l1 := VRowT TII u vs :: l1) (l2 := l2) (A := RowT v (ls.getD j [])) (by rw [e2] at h5; exact h5)
  obtain ⟨so, sc, rfl, hs1, hs2⟩ := k1.1.slice
  obtain ⟨g, gc, rfl, hg2, hg3, hg4, hg5⟩ := hu.open (by omega)
  refine ⟨g, gc, so, sc, F1, by rw [h2], (hg5 j (by omega)).trans e1, k1.1, k2, fun k hk => (k1.2 k).2 hk, fun x w' ht => ?_⟩
  obtain ⟨F', t1, t2, t3⟩ := k3 w' _ ht
  refine ⟨F', ⟨vs, by simpa using h2, ?_⟩, t2, t3⟩
  rw [e3]
  exact t1
end

/-- Append of one row that was made: the run. -/
theorem run_append_mat {w0 w : World} {l1 l2 : List Thing} [Goods l1] [Goods l2] {u x : Value} {ls : List (List Int)} {xs : List Int} {B : Nat} (h : St w0 w (Blk B (.cells #[x] TII) :: RowT x xs :: (l1 ++ MatT u ls :: l2))) (hf : ls.length ≤ 1000000) (ty : TypeId) :
    ∃ g cap w', (Builtin.append_ #[54, 54] ty #[u, .slice (some ⟨B, 0, none⟩) 1 1]).run Try.prog w = .ok (.slice (some ⟨g, 0, none⟩) (ls.length + 1) cap) w' ∧ St w0 w' (l1 ++ MatT (.slice (some ⟨g, 0, none⟩) (ls.length + 1) cap) (ls ++ [xs]) :: l2) := by
  have hB := h.blk []
  have h2 : St w0 w (RowT x xs :: (l1 ++ MatT u ls :: l2)) := h.tail
  have h3 : St w0 w (RowT x xs :: MatT u ls :: (l1 ++ l2)) := h2.perm (List.Perm.cons _ List.perm_middle)
  obtain ⟨F, hA, _, close⟩ := (h3.join).focus []
  obtain ⟨F1, F2, k1, ⟨F3, F4, ⟨vs, m1, m2⟩, m3, m4, m5⟩, k3, k4⟩ := hA
  obtain ⟨F5, F6, v1, v2, v3, v4⟩ := m2
  obtain ⟨so, sc, rfl, _⟩ := k1.1.slice
  obtain ⟨i0, hi0, hz0, hz1, hz2⟩ := info_parts (show (Try.prog.info? 31).map (fun i => (i.zero, i.size, i.bytes)) = some (some (.slice none 0 0), 1, 24) by kernel_rfl)
  obtain ⟨g, cap, w', hr, r1, r2, r3, r4⟩ := run_append_lies (P := Try.prog) (w := w) 54 ty 0 TII i0 _ 1 24 Try.underlying54 hi0 hz0 hz1 hz2 rfl (by omega) u vs.length vs v1.1 ⟨B, 0, none⟩ 1 1 [.slice so xs.length sc] rfl
    (World.news_of_block (cs := #[.slice so xs.length sc]) (t := TII) (fr := (0, 0)) hB) (by simp [Value.oneCell']) (by omega) (by unfold maxLen; omega) (by omega) (Nat.zero_le _) w.heap.size rfl
  rw [m1] at hr r1
  refine ⟨g, cap, w', hr, St.down l1 (close w' (MatT (.slice (some ⟨g, 0, none⟩) (ls.length + 1) cap) (ls ++ [xs])) ?_)⟩
  have hup : Upto F5 w w' := (Upto.refl _ w).grown r2 (fun k hk => Or.inl ((v1.2 k).2 hk))
  have hltx := k1.1.lt
  have h6lt : ∀ k, F6 k → k < w.heap.size := All.lt inferInstance v2
  have hrow : Row w' (.slice so xs.length sc) xs := k1.1.kept hup (fun k hk hk5 => k3 k ((k1.2 k).2 hk) ((m5 k).2 (Or.inl ((v4 k).2 (Or.inl hk5)))))
  have hrows : All (RowsT vs ls) w' F6 := All.kept inferInstance v2 hup (fun k hk hk5 => v3 k hk5 hk)
  have hg5 : ∀ k, k = g → F5 k ∨ k = w.heap.size := fun k hk => by
    subst hk
    rcases r3 with r3 | r3
    · exact Or.inl ((v1.2 k).2 r3)
    · exact Or.inr r3
  refine ⟨fun k => k = g ∨ F6 k ∨ F1 k, ⟨vs ++ [.slice so xs.length sc], by simp [m1], fun k => k = g, fun k => F6 k ∨ F1 k, ⟨?_, fun k => ⟨fun e => by subst e; rfl, fun e => by cases e; rfl⟩⟩, ?_, fun k hk hk' => ?_, fun _ => Iff.rfl⟩, hup.mono (fun k _ hk => (k4 k).2 (Or.inr ((m5 k).2 (Or.inl ((v4 k).2 (Or.inl hk)))))), fun k hk => ?_⟩
  · unfold VRow
    rw [List.length_append, m1]
    exact r1
  · unfold RowsT
    rw [List.zipWith_append m1]
    refine All.perm (l := RowT (.slice so xs.length sc) xs :: RowsT vs ls) (List.perm_append_comm (l₁ := [_])) ⟨F1, F6, ⟨hrow, k1.2⟩, hrows, fun k hk hk' => ?_, fun k => Or.comm⟩
    exact k3 k hk ((m5 k).2 (Or.inl ((v4 k).2 (Or.inr hk'))))
  · rcases hg5 k hk with h5 | h5
    · rcases hk' with hk' | hk'
      · exact v3 k h5 hk'
      · exact k3 k hk' ((m5 k).2 (Or.inl ((v4 k).2 (Or.inl h5))))
    · rcases hk' with hk' | hk'
      · have := h6lt k hk'; omega
      · have := hltx k ((k1.2 k).1 hk'); omega
  · rcases hk with hk | hk | hk
    · rcases hg5 k hk with h5 | h5
      · exact Or.inl ((k4 k).2 (Or.inr ((m5 k).2 (Or.inl ((v4 k).2 (Or.inl h5))))))
      · right; omega
    · exact Or.inl ((k4 k).2 (Or.inr ((m5 k).2 (Or.inl ((v4 k).2 (Or.inr hk))))))
    · exact Or.inl ((k4 k).2 (Or.inl hk))

theorem wpList_append_mat {w0 w : World} {l1 l2 : List Thing} [Goods l1] [Goods l2] {ops : Array Oper} {rest : List Oper} {o : Oper} {a : Act} {Q : Exit → Act → World → Prop} (hgd : o.guard = none) (s x : Operand)
    (ho : o.op = .call { callee := .builtin .append, args := #[s, x], argTypes := #[54, 54] }) {u v : Value} {ls : List (List Int)} {xs : List Int} {B : Nat} (hs : a.eval s = u) (hx : a.eval x = .slice (some ⟨B, 0, none⟩) 1 1)
    (hS : St w0 w (Blk B (.cells #[v] TII) :: RowT v xs :: (l1 ++ MatT u ls :: l2))) (hf : ls.length ≤ 1000000)
    (h : ∀ g cap w', St w0 w' (l1 ++ MatT (.slice (some ⟨g, 0, none⟩) (ls.length + 1) cap) (ls ++ [xs]) :: l2) → wpList Try.prog ops Q rest (a.put o.dst (.slice (some ⟨g, 0, none⟩) (ls.length + 1) cap)) w') : wpList Try.prog ops Q (o :: rest) a w := by
  refine wpList_plain hgd fun K hK => ?_
  obtain ⟨g, cap, w', hr, h2⟩ := run_append_mat hS hf o.type
  unfold Oper.wp execOp
  simp only [ho, resolve, invoke, builtin, Sem.run_bind, Sem.run_pure, Result.andThen_ok, List.map_toArray, List.map_cons, List.map_nil, hs, hx, hr]
  exact hK _ _ (h g cap w' h2)

end Go.Proofs.Ytjganbcolaakkaa
