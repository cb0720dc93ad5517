/-
  append(l, make([]int64, n)...) over a row of numbers that the program made.
-/
import Derived.Test.YtjganbcolaakkaaNums
import Derived.Lib.AppendZerosOnto
namespace Go.Proofs.Ytjganbcolaakkaa
open Go.RowKit

theorem zeroCells_one (z : Value) (m : Nat) : Builtin.zeroCells #[z] m = Array.replicate m z := by
  apply Array.ext
  · simp [Builtin.zeroCells]
  · intro i h1 h2
    simp [Builtin.zeroCells, Nat.mod_one]

theorem run_zeros_room {P : Program} (w : World) (t tn ty e : TypeId) (i : TypeInfo) (kq kn : IntKind) (ht : P.underlying t = some (.slice e)) (htn : P.underlying tn = some (.int kn)) (hi : P.info? e = some i) (hz : i.zero = some (.int .i64 0)) (hsize : i.size = 1) (hby : i.bytes = 8)
    (g n cap : Nat) (cur : Array Value) (hg : w.heap[g]? = some (.cells cur e (0, 0))) (m : Nat) (h0 : 0 < m) (hm : m ≤ 1000000) (hroom : n + m ≤ cap) (hfit : n + m ≤ cur.size) :
    (Builtin.append_ #[t, tn] ty #[.slice (some ⟨g, 0, none⟩) n cap, .int kq m]).run P w =
      .ok (.slice (some ⟨g, 0, none⟩) (n + m) cap) (w.setRow g (cur.toList.take n ++ List.replicate m (Value.int .i64 0) ++ cur.toList.drop (n + m)).toArray) := by
  have hk : m ≠ 0 := by omega
  have hw : IntKind.i64.wrap (m : Int) = m := by rw [IntKind.wrap_i64]; omega
  have h48i : ¬ (281474976710656 < (m : Int) * (8 : Int)) := by omega
  have hneg : ¬ ((m : Int) < 0) := by omega
  have hst := run_storeCells_at P g n e (List.replicate m (Value.int .i64 0)) 0 cur w hg (by simpa using hfit) (fun u hu => by rw [(List.mem_replicate.1 hu).2]; rfl)
  simp only [Nat.add_zero, List.length_replicate] at hst
  have hzc : Builtin.zeroCells (Value.int .i64 0).cells m = Array.replicate m (.int .i64 0) := zeroCells_one _ m
  simp [Builtin.append_, run_underlying ht, run_underlying htn, sizeOf, typeInfo, zeroValue, hi, hz, asInt, asIntOf, hw, hneg, hk, h48i, hroom, hsize, hby, hzc, Addr.add_lit, hst]

theorem run_zeros_none {P : Program} (w : World) (t tn ty e : TypeId) (i : TypeInfo) (kq kn : IntKind) (ht : P.underlying t = some (.slice e)) (htn : P.underlying tn = some (.int kn)) (hi : P.info? e = some i)
    (ao : Option Addr) (n cap : Nat) (hnc : n ≤ cap) :
    (Builtin.append_ #[t, tn] ty #[.slice ao n cap, .int kq 0]).run P w = .ok (.slice ao n cap) w := by
  have hw : IntKind.i64.wrap (0 : Int) = 0 := by rw [IntKind.wrap_i64]; decide
  cases ao <;> simp [Builtin.append_, run_underlying ht, run_underlying htn, sizeOf, typeInfo, hi, asInt, asIntOf, hw, hnc, storeCells]

theorem run_append_zeros {P : Program} (w : World) (t tn ty e : TypeId) (i : TypeInfo) (kq kn : IntKind) (he : e = 2) (ht : P.underlying t = some (.slice e)) (htn : P.underlying tn = some (.int kn)) (hi : P.info? e = some i) (hz : i.zero = some (.int .i64 0)) (hsize : i.size = 1) (hby : i.bytes = 8)
    (v : Value) (xs : List Int) (hv : Row w v xs) (m : Nat) (hlen : xs.length + m ≤ 1000000) :
    ∃ v' w', (Builtin.append_ #[t, tn] ty #[v, .int kq m]).run P w = .ok v' w' ∧ Row w' v' (xs ++ List.replicate m 0) ∧ Upto (rowOf v) w w' ∧ ∀ k, rowOf v' k → rowOf v k ∨ w.heap.size ≤ k := by
  subst he
  have hml : xs.length + m ≤ maxLen := by unfold maxLen; omega
  by_cases h0 : m = 0
  · subst h0
    obtain ⟨ao, c, rfl, hnc, _⟩ := hv.slice
    exact ⟨_, w, run_zeros_none w t tn ty _ i kq kn ht htn hi ao _ c hnc, by simpa using hv, Upto.refl _ _, fun k hk => Or.inl hk⟩
  have hzc : ∀ k, Builtin.zeroCells (Value.int .i64 0).cells k = Array.replicate k (.int .i64 0) := fun k => zeroCells_one _ k
  have grown : ∀ old, old < xs.length + m →
      Row (w.drew.alloc (.cells ((xs.map (Value.int .i64)).toArray ++ Builtin.zeroCells (Value.int .i64 0).cells m ++ Builtin.zeroCells (Value.int .i64 0).cells (grownCap w (xs.length + m) old 2 - (xs.length + m))) 2))
        (.slice (some ⟨w.heap.size, 0, none⟩) (xs.length + m) (grownCap w (xs.length + m) old 2)) (xs ++ List.replicate m 0) := by
    intro old ho
    have hge := grownCap_ge w (xs.length + m) old 2
    have hcm : grownCap w (xs.length + m) old 2 ≤ maxLen := grownCap_le_maxLen w (xs.length + m) old 2 hml
    refine ⟨by simp, .inr ⟨w.heap.size, _, _, by rw [List.length_append, List.length_replicate], Nat.zero_le _, heap_alloc_new w.drew _, by simpa using hge, hcm, ?_, ?_⟩⟩
    · simp only [hzc, Array.size_append, List.size_toArray, List.length_map, Array.size_replicate]
      omega
    · simp only [hzc, Array.toList_append, List.append_assoc, Array.toList_replicate, List.map_append, List.map_replicate]
      rw [← List.append_assoc]
      exact List.take_left' (by simp)
  have hup : ∀ o, Upto (rowOf v) w (w.drew.alloc o) := fun o => ((Upto.refl _ w).drew).alloc o
  rcases id hv.2 with ⟨rfl, hn⟩ | ⟨g, cap, cur, rfl, _, hg, hnc, hcm, hcs, htake⟩
  · obtain rfl : xs = [] := List.eq_nil_of_length_eq_zero hn
    have hr := Lib.run_append_nil_zeros (P := P) w t tn ty 2 i (.int .i64 0) kq kn ht htn hi hz m (by omega) (by omega) (by omega) (by rw [hby]; omega)
    have hgr := grown 0 (by simp; omega)
    simp only [List.length_nil, Nat.zero_add, List.map_nil, Array.empty_append] at hgr
    exact ⟨_, _, hr, hgr, hup _, fun k hk => Or.inr (Nat.le_of_eq (by cases hk; rfl))⟩
  · by_cases hroom : xs.length + m ≤ cap
    · have hr := run_zeros_room (P := P) w t tn ty 2 i kq kn ht htn hi hz hsize hby g xs.length cap cur hg m (by omega) (by omega) hroom (by omega)
      refine ⟨_, _, hr, ⟨by simp, .inr ⟨g, cap, _, by rw [List.length_append, List.length_replicate], Nat.zero_le _, setRow_heap w g cur _ 2 _ hg, by simpa using hroom, hcm, ?_, ?_⟩⟩, ⟨rfl, rfl, rfl, by simp, fun k _ hk => setRow_other w g k _ (fun e => hk (by subst e; rfl))⟩, fun k hk => Or.inl hk⟩
      · simp only [List.size_toArray, List.length_append, List.length_take, List.length_drop, Array.length_toList, List.length_replicate]
        omega
      · rw [Nat.mul_one] at htake
        rw [htake]
        simp only [List.map_append, List.map_replicate]
        exact List.take_left' (by simp)
    · have hold : (Builtin.firstCells i.size xs.length (.slice (some ⟨g, 0, none⟩) xs.length cap)).run P w.drew = .ok (xs.map (Value.int .i64)).toArray w.drew := by
        exact run_firstCells_some (P := P) w.drew i.size xs.length ⟨g, 0, none⟩ xs.length cap (xs.map (Value.int .i64)) (by simp [hsize]) (hv.cells (g := g) rfl)
      have hr := Lib.run_append_grow_zeros (P := P) w t tn ty 2 i (.int .i64 0) kq kn ht htn hi hz (some ⟨g, 0, none⟩) xs.length cap (xs.map (Value.int .i64)) hold m (by omega) (by omega) (by omega) (by omega) (by rw [hby]; omega) (by rw [hby]; exact growslice_fits (by omega) (by omega))
      exact ⟨_, _, hr, grown cap (by omega), hup _, fun k hk => Or.inr (Nat.le_of_eq (by cases hk; rfl))⟩

theorem wpList_append_zeros {P : Program} (w : World) {ops : Array Oper} {rest : List Oper} {o : Oper} {a : Act} {Q : Exit → Act → World → Prop} (hgd : o.guard = none) (s x : Operand) (t tn : TypeId) (kn kq : IntKind)
    (ho : o.op = .call { callee := .builtin .append, args := #[s, x], argTypes := #[t, tn] })
    (ht : P.underlying t = some (.slice 2)) (htn : P.underlying tn = some (.int kn)) (hI : (P.info? 2).map (fun i => (i.zero, i.size, i.bytes)) = some (some (.int .i64 0), 1, 8))
    (v : Value) (xs : List Int) (m : Nat) (hs : a.eval s = v) (hx : a.eval x = .int kq m) (hv : Row w v xs) (hlen : xs.length + m ≤ 1000000)
    (h : ∀ v' w', Row w' v' (xs ++ List.replicate m 0) → Upto (rowOf v) w w' → (∀ k, rowOf v' k → rowOf v k ∨ w.heap.size ≤ k) → wpList P ops Q rest (a.put o.dst v') w') : wpList P ops Q (o :: rest) a w := by
  obtain ⟨i, hi, hz0, hz1, hz2⟩ := info_parts hI
  obtain ⟨v', w', hr, h2, h3, h4⟩ := run_append_zeros (P := P) w t tn o.type _ i kq kn rfl ht htn hi hz0 hz1 hz2 v xs hv m hlen
  exact Lib.wpList_append_run w hgd s x t tn ho v _ hs hx v' w' hr (h v' w' h2 h3 h4)

end Go.Proofs.Ytjganbcolaakkaa
