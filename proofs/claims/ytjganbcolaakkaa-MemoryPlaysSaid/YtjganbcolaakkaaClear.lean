/-
  The builtin clear over a row of numbers that the program made.
-/
import Derived.Test.YtjganbcolaakkaaSep
import Derived.Test.YtjganbcolaakkaaNums
import Derived.Lib.SliceRun
namespace Go.Proofs.Ytjganbcolaakkaa
open Go.RowKit

theorem Try.zeroInt (w : World) : (zeroValue 2).run Try.prog w = .ok (.int .i64 0) w := by kernel_rfl

theorem row_cleared {g c : Nat} : ∀ (m o : Nat) (w : World) (ys : List Int), Row w (.slice (some ⟨g, 0, none⟩) ys.length c) ys → o + m ≤ ys.length →
    ∃ zs, Row (w.setCells g o (List.replicate m (Value.int .i64 0))) (.slice (some ⟨g, 0, none⟩) ys.length c) zs ∧ Upto (fun k => k = g) w (w.setCells g o (List.replicate m (Value.int .i64 0))) ∧ zs.length = ys.length ∧ ∀ j, zs.getD j 0 = if o ≤ j ∧ j < o + m then 0 else ys.getD j 0
  | 0, o, w, ys, h, _ => ⟨ys, h, Upto.refl _ w, rfl, fun j => by rw [if_neg (by omega)]⟩
  | m + 1, o, w, ys, h, hl => by
    have h1 : Row (w.setCell ⟨g, o, none⟩ (.int .i64 0)) (.slice (some ⟨g, 0, none⟩) (ys.set o 0).length c) (ys.set o 0) := by
      have := World.ownsRow.stored h o (.int .i64 0)
      unfold Row
      rw [List.length_set, List.map_set]
      exact this.1
    obtain ⟨zs, r1, r2, r3, r4⟩ := row_cleared m (o + 1) _ (ys.set o 0) h1 (by rw [List.length_set]; omega)
    rw [List.length_set] at r1 r3
    refine ⟨zs, r1, ((Upto.refl (fun k => k = g) w).setCell (p := ⟨g, o, none⟩) (Or.inl rfl) _).trans r2, r3, fun j => ?_⟩
    rw [r4]
    by_cases hj : j = o
    · subst hj
      rw [if_neg (by omega), if_pos (by omega)]
      simp [List.getD, show j < ys.length by omega]
    · have : (ys.set o 0).getD j 0 = ys.getD j 0 := by
        simp [List.getD, Ne.symm hj]
      rw [this]
      by_cases hin : o + 1 ≤ j ∧ j < o + 1 + m
      · rw [if_pos hin, if_pos (by omega)]
      · rw [if_neg hin, if_neg (by omega)]

theorem clear_row {w : World} {u : Value} {xs : List Int} (h : Row w u xs) : ∃ w', (∀ ty, (Builtin.clear_ #[31] ty #[u]).run Try.prog w = .ok (.tuple #[]) w') ∧ Row w' u (List.replicate xs.length 0) ∧ Upto (rowOf u) w w' := by
  by_cases h0 : xs.length = 0
  · obtain rfl := List.eq_nil_of_length_eq_zero h0
    obtain ⟨ao, c, rfl, _⟩ := h.slice
    refine ⟨w, fun ty => ?_, h, Upto.refl _ w⟩
    cases ao <;> simp [Builtin.clear_, run_underlying Try.underlying31]
  · obtain ⟨g, c, rfl, _, _, hg⟩ := row_first h (by omega)
    obtain ⟨zs, r1, r2, r3, r4⟩ := row_cleared xs.length 0 w xs h (by omega)
    have e : zs = List.replicate xs.length 0 := by
      apply List.ext_getElem?
      intro j
      by_cases hj : j < xs.length
      · have := r4 j
        rw [if_pos (by omega)] at this
        simp [List.getD, r3, hj] at this
        simp [r3, hj, this]
      · rw [List.getElem?_eq_none (by omega), List.getElem?_eq_none (by simp; omega)]
    subst e
    refine ⟨_, fun ty => Lib.run_clear_slice w 31 2 ty (.int .i64 0) Try.underlying31 Try.zeroInt rfl rfl g 0 xs.length c (by omega) (fun j hj => ?_) (fun j _ => World.ownsRow.frozenAt h _), ?_, r2.mono (fun k _ hk => by subst hk; rfl)⟩
    · rw [World.ownsRow.cellAt h _ (by omega), Nat.zero_add, getElem?_map_int hj]
      rfl
    · have := r1
      rwa [show (.slice (some ⟨g, 0, none⟩) xs.length c : Value) = .slice (some ⟨g, 0, none⟩) xs.length c from rfl] at this
theorem St.clear {w0 w : World} {l2 : List Thing} (l1 : List Thing) [Goods l1] [Goods l2] {u : Value} {xs : List Int} (h : St w0 w (l1 ++ RowT u xs :: l2)) :
    ∃ w', (∀ ty, (Builtin.clear_ #[31] ty #[u]).run Try.prog w = .ok (.tuple #[]) w') ∧ St w0 w' (l1 ++ RowT u (List.replicate xs.length 0) :: l2) := by
  obtain ⟨F, hA, _, close⟩ := h.focus l1
  obtain ⟨w', h1, h2, h3⟩ := clear_row hA.1
  exact ⟨w', h1, close w' _ ⟨F, ⟨h2, hA.2⟩, h3.mono (fun k _ hk => (hA.2 k).2 hk), fun _ h => Or.inl h⟩⟩

end Go.Proofs.Ytjganbcolaakkaa
