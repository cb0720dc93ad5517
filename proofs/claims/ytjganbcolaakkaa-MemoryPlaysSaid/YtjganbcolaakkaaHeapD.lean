/-
  A heap as the caller sees it, beside other things: one contract for each operation.
-/
import Derived.Test.YtjganbcolaakkaaHeapC
namespace Go.Proofs.Ytjganbcolaakkaa
open Go.RowKit

/-- How many cells there are. -/
def tot (ls : List (List Int)) : Nat := (ls.map List.length).sum
theorem tot_nil (ls : List (List Int)) : tot ([] :: ls) = tot ls := by simp [tot]
theorem tot_snoc (ls : List (List Int)) (a : List Int) : tot (ls ++ [a]) = tot ls + a.length := by simp [tot]
theorem tot_mid (l1 l2 : List (List Int)) (a : List Int) : tot (l1 ++ a :: l2) = tot l1 + a.length + tot l2 := by simp [tot, Nat.add_assoc]
theorem len_le_tot {ls : List (List Int)} {j : Nat} : (ls.getD j []).length ≤ tot ls := by
  by_cases hj : j < ls.length
  · have h : ls = ls.take j ++ ls[j] :: ls.drop (j + 1) := by simp
    have e : ls.getD j [] = ls[j] := by simp [List.getD, hj]
    rw [e]
    have := tot_mid (ls.take j) (ls.drop (j + 1)) ls[j]
    rw [← h] at this
    omega
  · have e : ls.getD j [] = [] := by simp [List.getD, List.getElem?_eq_none (Nat.le_of_not_lt hj)]
    rw [e]
    exact Nat.zero_le _

def RowsT (vs : List Value) (rs : List (List Int)) : List Thing := List.zipWith RowT vs rs
theorem goods_rows : ∀ (vs : List Value) (rs : List (List Int)), Goods (RowsT vs rs)
  | [], _ => (inferInstance : Goods [])
  | _ :: _, [] => (inferInstance : Goods [])
  | v :: vs, r :: rs => by
    have := goods_rows vs rs
    exact (inferInstance : Goods (RowT v r :: RowsT vs rs))
instance (vs : List Value) (rs : List (List Int)) : Goods (RowsT vs rs) := goods_rows vs rs
theorem rows_split {vs : List Value} {rs : List (List Int)} {j : Nat} (hl : vs.length = rs.length) (hj : j < rs.length) : ∃ v l1 l2, vs[j]? = some v ∧ RowsT vs rs = l1 ++ RowT v (rs.getD j []) :: l2 ∧ (∀ x, RowsT vs (rs.set j x) = l1 ++ RowT v x :: l2) ∧ Goods l1 ∧ Goods l2 := by
  have hv : j < vs.length := by omega
  have e1 : vs = vs.take j ++ vs[j] :: vs.drop (j + 1) := by simp
  have e2 : rs = rs.take j ++ rs.getD j [] :: rs.drop (j + 1) := by simp [List.getD, hj]
  have hlen : (vs.take j).length = (rs.take j).length := by simp; omega
  have key : ∀ x, RowsT vs (rs.take j ++ x :: rs.drop (j + 1)) = RowsT (vs.take j) (rs.take j) ++ RowT vs[j] x :: RowsT (vs.drop (j + 1)) (rs.drop (j + 1)) := fun x => by
    unfold RowsT
    conv => lhs; rw [e1]
    rw [List.zipWith_append hlen]
    rfl
  refine ⟨vs[j], RowsT (vs.take j) (rs.take j), RowsT (vs.drop (j + 1)) (rs.drop (j + 1)), by simp, ?_, fun x => ?_, inferInstance, inferInstance⟩
  · conv => lhs; rw [e2]
    exact key _
  · rw [List.set_eq_take_append_cons_drop, if_pos hj]
    exact key x

inductive HT (b lim : Nat) (ls : List (List Int)) (w : World) (F : Fp) : Prop
  | mk (rs : List (List Int)) (u : Value) (vs : List Value) (hls : ls = [] :: rs) (hl : vs.length = rs.length) (room : tot ls ≤ lim) (hlim : lim ≤ 10000)
      (h : All (Blk b (.cells #[.bool true, .int .i64 lim, .int .i64 (tot ls : Nat), u] TH) :: VRowT TII u vs :: RowsT vs rs) w F)
instance (b lim : Nat) (ls : List (List Int)) : Good (HT b lim ls) := ⟨fun h hu hd => by
  obtain ⟨rs, u, vs, h1, h2, h3, h4, h5⟩ := h
  exact ⟨rs, u, vs, h1, h2, h3, h4, All.kept inferInstance h5 hu hd⟩, fun h => by
  obtain ⟨rs, u, vs, h1, h2, h3, h4, h5⟩ := h
  exact All.lt inferInstance h5⟩

theorem row_put {w : World} {g n c : Nat} {ys : List Int} (h : Row w (.slice (some ⟨g, 0, none⟩) n c) ys) (k : Nat) (z : Int) : Row (w.setCell ⟨g, k, none⟩ (.int .i64 z)) (.slice (some ⟨g, 0, none⟩) n c) (ys.set k z) := by
  have hn : ys.length = n := by
    rcases h.2 with ⟨e, _⟩ | ⟨g', cap, cur, e, _⟩
    · cases e
    · simp only [Value.slice.injEq] at e
      exact e.2.1.symm
  subst hn
  have := World.ownsRow.stored h k (.int .i64 z)
  unfold Row
  rw [List.length_set, List.map_set]
  exact this.1

section
variable {w w' : World} {b lim : Nat} {ls : List (List Int)} {F : Fp}
theorem HT.facts (h : HT b lim ls w F) : 0 < ls.length ∧ tot ls ≤ lim ∧ lim ≤ 10000 ∧ b < w.heap.size ∧ F b := by
  obtain ⟨rs, u, vs, rfl, h2, h3, h4, F1, F2, h5, _, _, h8⟩ := h
  exact ⟨by simp, h3, h4, lt_of_block h5.1, (h8 b).2 (Or.inl ((h5.2 b).2 rfl))⟩
theorem HT.cells (h : HT b lim ls w F) : w.cell? ⟨b, 0, none⟩ = some (.bool true) ∧ w.cell? ⟨b, 1, none⟩ = some (.int .i64 lim) ∧ w.cell? ⟨b, 2, none⟩ = some (.int .i64 (tot ls : Nat)) ∧ ∃ ao c, w.cell? ⟨b, 3, none⟩ = some (.slice ao (ls.length - 1) c) := by
  obtain ⟨rs, u, vs, rfl, h2, h3, h4, F1, F2, h5, ⟨F3, F4, h6, _⟩, _⟩ := h
  have hb := h5.1
  obtain ⟨ao, c, rfl, _⟩ := h6.1.slice
  refine ⟨?_, ?_, ?_, ao, c, ?_⟩
  · rw [cell_of_row w b 0 _ TH (0, 0) hb]; rfl
  · rw [cell_of_row w b 1 _ TH (0, 0) hb]; rfl
  · rw [cell_of_row w b 2 _ TH (0, 0) hb]; rfl
  · rw [cell_of_row w b 3 _ TH (0, 0) hb, h2]; rfl

/-- Array j, opened. -/
theorem HT.arr (j : Nat) (i : Int) (h : HT b lim ls w F) (hi : i = j) (hj : j < ls.length) : ∃ v F1, (∃ so n c, v = .slice so n c ∧ HArr (ptr b) i w (.slice so n c) 0) ∧ (j = 0 → v = .slice none 0 0) ∧ Row w v (ls.getD j []) ∧ (∀ k, F1 k → F k) ∧ (∀ k, rowOf v k → F1 k) ∧
    ∀ x w', x.length = (ls.getD j []).length → Turned (RowT v x) w F1 w' → Turned (HT b lim (ls.set j x)) w F w' := by
  subst hi
  have hc := h.cells
  obtain ⟨rs, u, vs, rfl, h2, h3, h4, h5⟩ := h
  obtain ⟨c0, _, _, ao, c, c3⟩ := hc
  have hb : w.heap[b]? = some (.cells #[.bool true, .int .i64 lim, .int .i64 (tot ([] :: rs) : Nat), u] TH) := by
    obtain ⟨F1, h, _⟩ := All.open [] h5
    exact h.1
  have hu : VRow w TII u vs := by
    obtain ⟨F1, h, _⟩ := All.open [_] h5
    exact h.1
  have hlt := lt_of_block hb
  obtain _ | j := j
  · refine ⟨.slice none 0 0, fun _ => False, ⟨_, _, _, rfl, fun w' hw' => ?_⟩, fun _ => rfl, rowNone w, fun _ h => h.elim, fun _ h => rowOf_none h, fun x w' hx ht => ?_⟩
    · exact harray_none b ao _ c w' ((hw'.cell (p := ⟨b, 0, none⟩) hlt id).trans c0) ((hw'.cell (p := ⟨b, 3, none⟩) hlt id).trans c3)
    · obtain ⟨F', t1, t2, t3⟩ := ht
      obtain rfl : x = [] := List.eq_nil_of_length_eq_zero (by simpa using hx)
      exact Turned.of_upto (A := HT b lim ([] :: rs)) ⟨rs, u, vs, rfl, h2, h3, h4, h5⟩ t2
  · have hj' : j < rs.length := by simpa using hj
    obtain ⟨v, l1, l2, e1, e2, e3, g1, g2⟩ := rows_split h2 hj'
    obtain ⟨F1, k1, k2, k3⟩ := All.focus (l1 := Blk b (.cells #[.bool true, .int .i64 lim, .int .i64 (tot ([] :: rs) : Nat), u] TH) :: VRowT TII u vs :: l1) (l2 := l2) (A := RowT v (rs.getD j [])) (by rw [e2] at h5; exact h5)
    obtain ⟨so, sc, rfl, hs1, hs2⟩ := k1.1.slice
    obtain ⟨g, gc, hg1, hg2, hg3, hg4, hg5⟩ := hu.open (by omega)
    subst hg1
    have c3' : w.cell? ⟨b, 3, none⟩ = some (.slice (some ⟨g, 0, none⟩) vs.length gc) := by rw [cell_of_row w b 3 _ TH (0, 0) hb]; rfl
    have cj := (hg5 j (by omega)).trans e1
    refine ⟨_, F1, ⟨_, _, _, rfl, fun w' hw' => ?_⟩, fun e => by omega, by simpa using k1.1, k2, fun k hk => (k1.2 k).2 hk, fun x w' hx ht => ?_⟩
    · exact harray_some b j g _ gc so _ sc _ w' (by omega) ((hw'.cell (p := ⟨b, 0, none⟩) hlt id).trans c0) ((hw'.cell (p := ⟨b, 3, none⟩) hlt id).trans c3') (by omega) (by omega) ((hw'.cell (p := ⟨g, j, none⟩) hg4 id).trans cj)
    · obtain ⟨F', t1, t2, t3⟩ := k3 w' _ ht
      have etot : tot (([] :: rs).set (j + 1) x) = tot ([] :: rs) := by
        have q1 : rs = rs.take j ++ rs.getD j [] :: rs.drop (j + 1) := by simp [List.getD, hj']
        rw [List.set_cons_succ, tot_nil, tot_nil, List.set_eq_take_append_cons_drop, if_pos hj', tot_mid]
        conv => rhs; rw [q1]
        rw [tot_mid, hx]
        simp
      refine ⟨F', ⟨rs.set j x, .slice (some ⟨g, 0, none⟩) vs.length gc, vs, rfl, by simpa using h2, by rw [etot]; exact h3, h4, ?_⟩, t2, t3⟩
      rw [etot, e3]
      exact t1
theorem HT.arrOut (i : Int) (h : HT b lim ls w F) (hi : i < 0 ∨ (ls.length : Int) ≤ i) : HArr (ptr b) i w (.slice none 0 0) 2 := by
  have hf := h.facts
  obtain ⟨c0, _, _, ao, c, c3⟩ := h.cells
  intro w' hw'
  have d0 := (hw'.cell (p := ⟨b, 0, none⟩) hf.2.2.2.1 id).trans c0
  have d3 := (hw'.cell (p := ⟨b, 3, none⟩) hf.2.2.2.1 id).trans c3
  by_cases hn : i < 0
  · exact harray_neg b i w' d0 hn
  · exact harray_many b i ao _ c w' d0 d3 (by omega)
/-- An element, opened. -/
theorem HT.els (j k : Nat) (i i' : Int) (h : HT b lim ls w F) (hi : i = j) (hi' : i' = k) (hj : j < ls.length) (hk : k < (ls.getD j []).length) : ∃ g, HEls (ptr b) i i' w (.pointer (some ⟨g, k, none⟩)) 0 0 ∧ g < w.heap.size ∧ w.cell? ⟨g, k, none⟩ = some (.int .i64 ((ls.getD j []).getD k 0)) ∧ w.frozen? ⟨g, k, none⟩ = false ∧
    ∀ z w', Poked w g k z w' → Turned (HT b lim (ls.set j ((ls.getD j []).set k z))) w F w' := by
  subst hi'
  obtain ⟨v, F1, ⟨so, n, c, rfl, hA⟩, _, hr, hF, hF1, ht⟩ := h.arr j i hi hj
  obtain ⟨g, c', e, _, _, hg⟩ := row_first hr (by omega)
  simp only [Value.slice.injEq] at e
  obtain ⟨rfl, rfl, rfl⟩ := e
  refine ⟨g, hels_ok (ptr b) i k g _ _ w hA hk, hg, ?_, World.ownsRow.frozenAt hr k, fun z w' hp => ?_⟩
  · rw [World.ownsRow.cellAt hr k (by omega), getElem?_map_int hk]
  · obtain ⟨w1, hu1, hu2⟩ := hp
    have r1 := row_put (hr.kept hu1 (fun _ _ => id)) k z
    have r2 := r1.kept hu2 (fun _ _ => id)
    exact ht _ w' (by simp) ⟨_, RowT.of r2, ((hu1.mono (fun _ _ h => h.elim)).setCell (Or.inl (hF1 g rfl)) _).trans (hu2.mono (fun _ _ h => h.elim)), fun k hk => Or.inl (hF1 k hk)⟩
theorem HT.elsTrap (j : Nat) (i i' : Int) (h : HT b lim ls w F) (hi : i = j) (hj : j < ls.length) (hk : i' < 0 ∨ ((ls.getD j []).length : Int) ≤ i') : HEls (ptr b) i i' w (.pointer none) 2 0 := by
  obtain ⟨v, F1, ⟨so, n, c, rfl, hA⟩, _, hr, _⟩ := h.arr j i hi hj
  obtain ⟨_, _, e, _⟩ := hr.slice
  simp only [Value.slice.injEq] at e
  obtain ⟨rfl, rfl, rfl⟩ := e
  by_cases hn : i' < 0
  · exact hels_neg _ i i' so _ c w hA hn
  · exact hels_many _ i i' so _ c w hA (by omega)
end

end Go.Proofs.Ytjganbcolaakkaa
