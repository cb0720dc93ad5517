/-
  Worlds: 'Upto S w w2': only the blocks in S, of those that were there, may have turned. 'Sees': a slice of 64-bit numbers that reads as a list. 'Stk': a stack in memory.
-/
import Derived.WalkKit
import Derived.Deep.Draws
namespace Go.Proofs.Ytjganbcolaakkaa
open Go.RowKit

/-- From w to w', of the blocks that were there only those in S may have turned. -/
structure Upto (S : Nat → Prop) (w w' : World) : Prop where
  os : w'.os = w.os
  tape : w'.tape = w.tape
  output : w'.output = w.output
  size : w.heap.size ≤ w'.heap.size
  block : ∀ k, k < w.heap.size → ¬ S k → w'.heap[k]? = w.heap[k]?

theorem Upto.refl (S : Nat → Prop) (w : World) : Upto S w w := ⟨rfl, rfl, rfl, Nat.le_refl _, fun _ _ _ => rfl⟩
theorem Upto.trans {S : Nat → Prop} {a b c : World} (h : Upto S a b) (k : Upto S b c) : Upto S a c :=
  ⟨k.os.trans h.os, k.tape.trans h.tape, k.output.trans h.output, Nat.le_trans h.size k.size, fun i hi hs => (k.block i (Nat.lt_of_lt_of_le hi h.size) hs).trans (h.block i hi hs)⟩
theorem Upto.mono {S S' : Nat → Prop} {w w' : World} (h : Upto S w w') (hs : ∀ k, k < w.heap.size → S k → S' k) : Upto S' w w' :=
  ⟨h.os, h.tape, h.output, h.size, fun k hk hn => h.block k hk fun e => hn (hs k hk e)⟩
theorem Upto.drew {S : Nat → Prop} {a w : World} (h : Upto S a w) : Upto S a w.drew := ⟨h.os, h.tape, h.output, h.size, h.block⟩
theorem Upto.drewN {S : Nat → Prop} {a w : World} (h : Upto S a w) (n : Nat) : Upto S a (w.drewN n) := ⟨h.os, h.tape, h.output, h.size, h.block⟩
theorem Upto.alloc {S : Nat → Prop} {a w : World} (h : Upto S a w) (o : Obj) : Upto S a (w.alloc o) :=
  h.trans ⟨rfl, rfl, rfl, by simp, fun k hk _ => Below.heap_alloc _ _ _ hk⟩
theorem Upto.setCell {S : Nat → Prop} {a w : World} (h : Upto S a w) {p : Addr} (hp : S p.block ∨ a.heap.size ≤ p.block) (u : Value) : Upto S a (w.setCell p u) := by
  refine ⟨h.os, h.tape, h.output, by simpa [World.setCell] using h.size, fun k hk hs => ?_⟩
  rw [Below.heap_setCell _ _ _ _ (fun e => by subst e; rcases hp with hp | hp; exact hs hp; omega)]
  exact h.block k hk hs
theorem Upto.grown {S : Nat → Prop} {a w w' : World} {row : Option Nat} (h : Upto S a w) (hg : w.grownBy w' row) (hr : ∀ k, row = some k → S k ∨ a.heap.size ≤ k) : Upto S a w' :=
  ⟨hg.os.trans h.os, hg.tape.trans h.tape, hg.output.trans h.output, Nat.le_trans h.size hg.size, fun k hk hs => by
    rw [hg.block k (Nat.lt_of_lt_of_le hk h.size) (fun e => by rcases hr k e.symm with h1 | h1; exact hs h1; omega)]
    exact h.block k hk hs⟩
theorem Upto.below {w w' : World} (h : Upto (fun _ => False) w w') : Below w.heap.size w w' := ⟨h.os, h.tape, h.output, h.size, fun k hk => h.block k hk id⟩
theorem Upto.of_below {w w' : World} (h : Below w.heap.size w w') (S : Nat → Prop) : Upto S w w' := ⟨h.os, h.tape, h.output, h.size, fun k hk _ => h.block k hk⟩
/-- Behind a step that turns blocks of S2, all of them in S or new. -/
theorem Upto.step {S S2 : Nat → Prop} {a b c : World} (h : Upto S a b) (k : Upto S2 b c) (hs : ∀ i, i < a.heap.size → S2 i → S i) : Upto S a c :=
  ⟨k.os.trans h.os, k.tape.trans h.tape, k.output.trans h.output, Nat.le_trans h.size k.size, fun i hi hn => (k.block i (Nat.lt_of_lt_of_le hi h.size) (fun e => hn (hs i hi e))).trans (h.block i hi hn)⟩
theorem Upto.cell {S : Nat → Prop} {w w' : World} (h : Upto S w w') {p : Addr} (hp : p.block < w.heap.size) (hs : ¬ S p.block) : w'.cell? p = w.cell? p := World.cell?_of_block (w := w) (h.block p.block hp hs)
theorem Upto.frozen {S : Nat → Prop} {w w' : World} (h : Upto S w w') {p : Addr} (hp : p.block < w.heap.size) (hs : ¬ S p.block) : w'.frozen? p = w.frozen? p := World.frozen?_of_block (w := w) (h.block p.block hp hs)

theorem lt_of_block {w : World} {b : Nat} {o : Obj} (h : w.heap[b]? = some o) : b < w.heap.size := (Array.getElem?_eq_some_iff.1 h).1

/-- A slice value that reads as this list of 64-bit numbers. -/
def Sees (w : World) (v : Value) (xs : List Int) : Prop :=
  ∃ ao c, v = .slice ao xs.length c ∧ xs.length ≤ c ∧ c ≤ maxLen ∧ (ao = none → c = 0) ∧
    ∀ ad, ao = some ad → (0 < xs.length → ad.spot = none ∧ ad.block < w.heap.size) ∧ ∀ j, j < xs.length → w.cell? ⟨ad.block, ad.off + j, none⟩ = some (.int .i64 (xs.getD j 0))

theorem Sees.nil (w : World) : Sees w (.slice none 0 0) [] := ⟨none, 0, rfl, Nat.le_refl _, Nat.zero_le _, fun _ => rfl, fun _ h => by cases h⟩

/-- The blocks that a value of a slice has its row in. -/
def rowOf (v : Value) (k : Nat) : Prop := v.ownBlock = some k

theorem rowOf_slice (ao : Option Addr) (n c k : Nat) : rowOf (.slice ao n c) k ↔ ao.map (·.block) = some k := by
  cases ao <;> simp [rowOf, Value.ownBlock]

theorem Sees.kept {S : Nat → Prop} {w w' : World} {v : Value} {xs : List Int} (h : Sees w v xs) (hu : Upto S w w') (hd : ∀ k, rowOf v k → ¬ S k) : Sees w' v xs := by
  obtain ⟨ao, c, rfl, h1, h2, h3, h4⟩ := h
  refine ⟨ao, c, rfl, h1, h2, h3, fun ad e => ?_⟩
  obtain ⟨s2, s3⟩ := h4 ad e
  subst e
  refine ⟨fun h0 => ⟨(s2 h0).1, Nat.lt_of_lt_of_le (s2 h0).2 hu.size⟩, fun j hj => ?_⟩
  rw [hu.cell (p := ⟨ad.block, ad.off + j, none⟩) (s2 (by omega)).2 (hd _ rfl)]
  exact s3 j hj

theorem Sees.below {w w' : World} {v : Value} {xs : List Int} (h : Sees w v xs) (hu : Below w.heap.size w w') : Sees w' v xs := h.kept (Upto.of_below hu (fun _ => False)) (fun _ _ => id)

/-- A row of numbers that the call owns. -/
def Row (w : World) (v : Value) (xs : List Int) : Prop := w.ownsRow 0 2 1 v xs.length (xs.map (Value.int .i64))

theorem getElem?_map_int {xs : List Int} {j : Nat} (hj : j < xs.length) : (xs.map (Value.int .i64))[j]? = some (.int .i64 (xs.getD j 0)) := by
  simp [List.getD, hj]

theorem Row.sees {w : World} {v : Value} {xs : List Int} (h : Row w v xs) : Sees w v xs := by
  rcases h.2 with ⟨rfl, hn⟩ | ⟨g, cap, cur, rfl, _, hg, hnc, hcm, hcs, htake⟩
  · obtain rfl : xs = [] := List.eq_nil_of_length_eq_zero hn
    exact Sees.nil w
  · refine ⟨some ⟨g, 0, none⟩, cap, rfl, hnc, hcm, (fun h => by cases h), fun ad e => ?_⟩
    obtain rfl := Option.some.inj e
    refine ⟨fun _ => ⟨rfl, lt_of_block hg⟩, fun j hj => ?_⟩
    rw [cell_of_row w g _ cur 2 (0, 0) hg, Nat.zero_add, ← getElem?_map_int hj, ← htake, List.getElem?_take, if_pos (by omega)]
    simp

theorem Row.lt {w : World} {v : Value} {xs : List Int} (h : Row w v xs) : ∀ k, rowOf v k → k < w.heap.size := fun k hk => (World.ownsRow.lt h k hk).2

theorem Row.kept {S : Nat → Prop} {w w' : World} {v : Value} {xs : List Int} (h : Row w v xs) (hu : Upto S w w') (hd : ∀ k, rowOf v k → ¬ S k) : Row w' v xs := by
  refine ⟨h.1, ?_⟩
  rcases h.2 with hn | ⟨g, cap, cur, rfl, hb, hgg, rest⟩
  · exact .inl hn
  · exact .inr ⟨g, cap, cur, rfl, hb, (hu.block g (lt_of_block hgg) (hd g rfl)).trans hgg, rest⟩

theorem Row.take {w : World} {ao : Option Addr} {n c : Nat} {xs : List Int} (h : Row w (.slice ao n c) xs) (k : Nat) (hk : k ≤ xs.length) : Row w (.slice ao k c) (xs.take k) := by
  have hl : (xs.take k).length = k := by simp; omega
  rcases h.2 with ⟨e, hn⟩ | ⟨g, cap, cur, e, hb, hgg, hnc, hcm, hcs, htake⟩
  · obtain rfl : xs = [] := List.eq_nil_of_length_eq_zero hn
    simp only [Value.slice.injEq] at e
    obtain ⟨rfl, rfl, rfl⟩ := e
    obtain rfl : k = 0 := by simpa using hk
    exact World.ownsRow_nil w 0 _ 1
  · simp only [Value.slice.injEq] at e
    obtain ⟨rfl, hn', rfl⟩ := e
    refine ⟨by simp, .inr ⟨g, c, cur, by rw [hl], hb, hgg, by omega, hcm, hcs, ?_⟩⟩
    rw [hl, List.map_take, ← htake, List.take_take]
    congr 1
    omega

theorem Sees.drop {w : World} {ao : Option Addr} {n c : Nat} {xs : List Int} (h : Sees w (.slice ao n c) xs) (k : Nat) (hk : k ≤ xs.length) :
    Sees w (.slice (if c = k then ao else ao.map (·.add (k * 1))) (n - k) (c - k)) (xs.drop k) := by
  obtain ⟨ao', c', e, h1, h2, h3, h4⟩ := h
  simp only [Value.slice.injEq] at e
  obtain ⟨rfl, rfl, rfl⟩ := e
  refine ⟨_, _, by rw [List.length_drop], by simp; omega, by omega, fun hn => ?_, fun ad e => ?_⟩
  · split at hn
    · have := h3 hn; omega
    · cases ao with
      | none => have := h3 rfl; omega
      | some a => simp at hn
  · rw [List.length_drop]
    by_cases hck : c = k
    · rw [if_pos hck] at e
      exact ⟨fun h0 => by omega, fun j hj => by omega⟩
    · rw [if_neg hck] at e
      cases ao with
      | none => simp at e
      | some a =>
        simp only [Option.map_some, Option.some.injEq] at e
        obtain ⟨s2, s3⟩ := h4 a rfl
        have e2 : 0 < xs.length - k → a.add (k * 1) = ⟨a.block, a.off + k, none⟩ := fun h0 => by
          have s1 := (s2 (by omega)).1
          unfold Addr.add; split
          · cases a; simp_all
          · simp
        refine ⟨fun h0 => ?_, fun j hj => ?_⟩
        · rw [e2 h0] at e; subst e
          exact ⟨rfl, (s2 (by omega)).2⟩
        · rw [e2 (by omega)] at e; subst e
          rw [Nat.add_assoc, s3 (k + j) (by omega)]
          simp [List.getD]

theorem Sees.length {w : World} {v : Value} {xs : List Int} (h : Sees w v xs) : xs.length ≤ maxLen := by
  obtain ⟨ao, c, rfl, h1, h2, _⟩ := h
  omega

end Go.Proofs.Ytjganbcolaakkaa
