/-
  append over rows of 64-bit numbers that the program made, whatever the source; as a law for the walk.
-/
import Derived.Test.YtjganbcolaakkaaBase
import Derived.Laws.AppendOwnNone
namespace Go.Proofs.Ytjganbcolaakkaa
open Go.RowKit

theorem Sees.cells {w : World} {a : Addr} {n c : Nat} {ys : List Int} (h : Sees w (.slice (some a) n c) ys) : ∀ j u, (ys.map (Value.int .i64))[j]? = some u → w.cell? (a.add j) = some u := by
  obtain ⟨ao, c', e, _, _, _, h4⟩ := h
  simp only [Value.slice.injEq] at e
  obtain ⟨rfl, rfl, rfl⟩ := e
  obtain ⟨s1, s3⟩ := h4 a rfl
  obtain ⟨b, o, sp⟩ := a
  intro j u hu
  have hj : j < ys.length := by have := (List.getElem?_eq_some_iff.1 hu).1; simpa using this
  obtain rfl : sp = none := (s1 (by omega)).1
  rw [getElem?_map_int hj] at hu
  rw [Addr.add_lit, s3 j hj]
  exact hu

theorem run_append_row {P : Program} (w : World) (t ty : TypeId) (i : TypeInfo) (ht : P.underlying t = some (.slice 2)) (hi : P.info? 2 = some i) (hz : i.zero = some (.int .i64 0)) (hsize : i.size = 1) (hby : i.bytes = 8)
    (v u : Value) (xs ys : List Int) (hv : Row w v xs) (hu : Sees w u ys) (hlen : (xs.length + ys.length) * 8 ≤ 140737488355328) :
    ∃ v' w', (Builtin.append_ #[t, t] ty #[v, u]).run P w = .ok v' w' ∧ Row w' v' (xs ++ ys) ∧ Upto (rowOf v) w w' ∧ ∀ k, rowOf v' k → rowOf v k ∨ w.heap.size ≤ k := by
  have hml : xs.length + ys.length ≤ maxLen := by unfold maxLen; omega
  obtain ⟨ao, c, rfl, h1, h2, h3, h4⟩ := id hu
  cases ao with
  | none =>
    have h0 := h3 rfl
    subst h0
    obtain rfl : ys = [] := List.eq_nil_of_length_eq_zero (by omega)
    refine ⟨v, w, run_append_owned_none (P := P) (w := w) 0 t ty 2 i 1 ht hi v _ _ hv, by simpa using hv, Upto.refl _ _, fun k hk => Or.inl hk⟩
  | some a =>
    have hc := hu.cells
    have hone : ∀ x ∈ ys.map (Value.int .i64), x.oneCell' = true := ints_oneCell .i64 ys
    obtain ⟨v', w', hr, ho, hg, hn⟩ := run_append_own (P := P) w 0 t ty 2 i (.int .i64 0) 1 8 ht hi hz hsize hby rfl (by decide) v _ _ hv a ys.length c (ys.map (Value.int .i64)) (by simp) hc hone hml hlen (Nat.zero_le _)
    refine ⟨v', w', hr, ?_, (Upto.refl _ w).grown hg (fun k hk => Or.inl hk), ?_⟩
    · unfold Row
      rw [List.length_append, List.map_append]
      exact ho
    · intro k hk
      rcases hv.2 with ⟨rfl, hx0⟩ | ⟨g, cap, cur, rfl, _, hgg, hnc, hcm, hcs, htake⟩
      · obtain rfl : xs = [] := List.eq_nil_of_length_eq_zero hx0
        by_cases hy0 : ys.length = 0
        · obtain rfl : v' = .slice none 0 0 := hn.2 ⟨rfl, hy0⟩
          cases hk
        · have hr2 := run_append_nil (P := P) w t ty 2 i (.int .i64 0) ht hi hz a ys.length c (ys.map (Value.int .i64)) (by simp [hsize]) hc (by omega) (by omega) (by rw [hby]; simp at hlen; omega)
          rw [hr] at hr2
          simp only [Result.ok.injEq] at hr2
          obtain ⟨rfl, _⟩ := hr2
          simp only [rowOf, Value.ownBlock, Option.some.injEq] at hk
          right; omega
      · by_cases hroom : xs.length + ys.length ≤ cap
        · obtain ⟨w2, hr2, _⟩ := run_append_fits (P := P) w 0 t ty 2 i 1 ht hi hsize g xs.length cap _ hv a ys.length c (ys.map (Value.int .i64)) (by simp) hc hone hroom
          rw [hr] at hr2
          simp only [Result.ok.injEq] at hr2
          obtain ⟨rfl, _⟩ := hr2
          left; exact hk
        · have hr2 := run_append_grow (P := P) w t ty 2 i (.int .i64 0) ht hi hz ⟨g, 0, none⟩ xs.length cap (xs.map (Value.int .i64)) (by simp [hsize]) (hv.cells (g := g) rfl) a ys.length c (ys.map (Value.int .i64)) (by simp [hsize]) hc (by omega) (by omega) (by rw [hby]; exact growslice_fits (by omega) hlen)
          rw [hr] at hr2
          simp only [Result.ok.injEq] at hr2
          obtain ⟨rfl, _⟩ := hr2
          simp only [rowOf, Value.ownBlock, Option.some.injEq] at hk
          right; omega

theorem wpList_append_row {P : Program} (w : World) {ops : Array Oper} {rest : List Oper} {o : Oper} {a : Act} {Q : Exit → Act → World → Prop} (hgd : o.guard = none) (s x : Operand) (t : TypeId)
    (ho : o.op = .call { callee := .builtin .append, args := #[s, x], argTypes := #[t, t] })
    (ht : P.underlying t = some (.slice 2)) (hI : (P.info? 2).map (fun i => (i.zero, i.size, i.bytes)) = some (some (.int .i64 0), 1, 8))
    (v u : Value) (xs ys : List Int) (hs : a.eval s = v) (hx : a.eval x = u) (hv : Row w v xs) (hu : Sees w u ys) (hlen : (xs.length + ys.length) * 8 ≤ 140737488355328)
    (h : ∀ v' w', Row w' v' (xs ++ ys) → Upto (rowOf v) w w' → (∀ k, rowOf v' k → rowOf v k ∨ w.heap.size ≤ k) → wpList P ops Q rest (a.put o.dst v') w') : wpList P ops Q (o :: rest) a w := by
  obtain ⟨i, hi, hz0, hz1, hz2⟩ := info_parts hI
  refine wpList_plain hgd fun K hK => ?_
  obtain ⟨v', w', hr, h2, h3, h4⟩ := run_append_row (P := P) w t o.type i ht hi hz0 hz1 hz2 v u xs ys hv hu hlen
  unfold Oper.wp execOp
  simp only [ho, resolve, invoke, builtin, Sem.run_bind, Sem.run_pure, Result.andThen_ok, List.map_toArray, List.map_cons, List.map_nil, hs, hx, hr]
  exact hK _ _ (h v' w' h2 h3 h4)

/-- A block of one number, just made, as a slice. -/
theorem Sees.one (w : World) (n : Int) (e : TypeId) : Sees (w.alloc (.cells #[.int .i64 n] e)) (.slice (some ⟨w.heap.size, 0, none⟩) 1 1) [n] := by
  refine ⟨_, _, rfl, Nat.le_refl _, by unfold maxLen; simp, (fun h => by cases h), fun ad e' => ?_⟩
  obtain rfl := Option.some.inj e'
  refine ⟨fun _ => ⟨rfl, by simp⟩, fun j hj => ?_⟩
  obtain rfl : j = 0 := by simpa using hj
  simp

/-- An empty block, just made. -/
theorem Row.made (w : World) : Row (w.alloc (.cells #[] 2)) (.slice (some ⟨w.heap.size, 0, none⟩) 0 0) [] :=
  World.ownsRow_made w #[] 0 (Nat.zero_le _) (Nat.zero_le _) rfl

end Go.Proofs.Ytjganbcolaakkaa
