/-
  One memory, made since a world w0.
-/
import Derived.Test.YtjganbcolaakkaaEq
namespace Go.Proofs.Ytjganbcolaakkaa
open Go.RowKit

/-- A memory made since w0, beside blocks K that stay as they are. -/
inductive MOwn (w0 w : World) (b lim : Nat) (cs : List Int) (ss : List (Nat × Nat)) (K : Nat → Prop) : Prop
  | mk (F : Nat → Prop) (pile : MPile w b lim cs ss F) (late : ∀ k, F k → w0.heap.size ≤ k) (below : Below w0.heap.size w0 w) (far : ∀ k, F k → ¬ K k) (klt : ∀ k, K k → k < w.heap.size)

/-- What a step may turn. -/
def MOurs (w0 : World) (K : Nat → Prop) (k : Nat) : Prop := w0.heap.size ≤ k ∧ ¬ K k

section
variable {w0 w w' : World} {b lim : Nat} {cs : List Int} {ss : List (Nat × Nat)} {K : Nat → Prop}
theorem MOwn.base (h : MOwn w0 w b lim cs ss K) : Below w0.heap.size w0 w := by obtain ⟨F, h1, h2, h3, h4, h5⟩ := h; exact h3
theorem MOwn.step (h : MOwn w0 w b lim cs ss K) (hu : Upto (fun _ => False) w w') : MOwn w0 w' b lim cs ss K := by
  obtain ⟨F, h1, h2, h3, h4, h5⟩ := h
  exact ⟨F, h1.kept hu (fun _ _ => id), h2, Upto.below ((Upto.of_below h3 _).trans hu), h4, fun k hk => Nat.lt_of_lt_of_le (h5 k hk) hu.size⟩
theorem MOwn.mono {K' : Nat → Prop} (h : MOwn w0 w b lim cs ss K) (hK : ∀ k, K' k → K k) : MOwn w0 w b lim cs ss K' := by
  obtain ⟨F, h1, h2, h3, h4, h5⟩ := h
  exact ⟨F, h1, h2, h3, fun k hk h => h4 k hk (hK k h), fun k hk => h5 k (hK k hk)⟩
theorem MOwn.guard (h : MOwn w0 w b lim cs ss K) (o : Obj) : MOwn w0 (w.alloc o) b lim cs ss (fun k => K k ∨ k = w.heap.size) := by
  have hu : Upto (fun _ => False) w (w.alloc o) := (Upto.refl _ w).alloc o
  obtain ⟨F, h1, h2, h3, h4, h5⟩ := h
  have h1' := h1
  obtain ⟨_, _, _, _, _, _, hlt⟩ := h1'
  refine ⟨F, h1.kept hu (fun _ _ => id), h2, Upto.below ((Upto.of_below h3 _).trans hu), fun k hk hK => ?_, fun k hk => ?_⟩
  · rcases hK with hK | rfl
    · exact h4 k hk hK
    · have := hlt _ hk; omega
  · rcases hk with hk | rfl
    · exact Nat.lt_of_lt_of_le (h5 k hk) hu.size
    · simp
theorem MOwn.turned {F : Nat → Prop} {cs' : List Int} {ss' : List (Nat × Nat)} (h2 : ∀ k, F k → w0.heap.size ≤ k) (h3 : Below w0.heap.size w0 w) (h4 : ∀ k, F k → ¬ K k) (h5 : ∀ k, K k → k < w.heap.size) (h : MTurned w b lim cs' ss' F w') : MOwn w0 w' b lim cs' ss' K ∧ Upto (MOurs w0 K) w w' := by
  obtain ⟨F', g4, g5, g6⟩ := h
  refine ⟨⟨F', g4, fun k hk => (g6 k hk).elim (h2 k) (Nat.le_trans h3.size), Upto.below ((Upto.of_below h3 _).step g5 fun i hi hF => ?_), fun k hk hK => ?_, fun k hk => Nat.lt_of_lt_of_le (h5 k hk) g5.size⟩, g5.mono (fun k _ hk => ⟨h2 k hk, h4 k hk⟩)⟩
  · have := h2 i hF
    omega
  · rcases g6 k hk with h | h
    · exact h4 k h hK
    · have := h5 k hK; omega
theorem MOwn.facts (h : MOwn w0 w b lim cs ss K) : 0 < ss.length ∧ cs.length ≤ lim ∧ lim ≤ 10000 ∧ (∀ s ∈ ss, s.1 + s.2 ≤ cs.length) ∧ ss.length ≤ 1000000000 := by obtain ⟨F, h1, _⟩ := h; exact h1.facts

theorem mnew_own (n : Nat) (i : Int) (w : World) (hi : i = n) (hn : n ≤ 10000) : Calls Try.prog 15 #[.int .i64 i] w fun e w' =>
    ∃ b, e = .returned (.tuple #[ptr b, .int .i64 0]) ∧ MOwn w w' b n [] [(0, 0)] (fun _ => False) := by
  subst hi
  refine (mnew_pile n w hn).mono ?_
  rintro e w' ⟨b, F, rfl, h1, h2, h3⟩
  exact ⟨b, rfl, F, h1, h2, h3, fun _ _ => id, fun _ h => h.elim⟩
theorem MOwn.alloc (n : Nat) (i m : Int) (h : MOwn w0 w b lim cs ss K) (hi : i = n) (hn : cs.length + n ≤ lim) (hf : ss.length ≤ 1000000) (hm : (ss.length : Int) = m) : Calls Try.prog 16 #[ptr b, .int .i64 i] w fun e w' =>
    e = .returned (.tuple #[.int .i64 m, .int .i64 0, .int .i64 0]) ∧ MOwn w0 w' b lim (cs ++ List.replicate n 0) (ss ++ [(cs.length, n)]) K ∧ Upto (MOurs w0 K) w w' := by
  subst hi hm
  obtain ⟨F, h1, h2, h3, h4, h5⟩ := h
  refine (h1.alloc n hn hf).mono ?_
  rintro e w' ⟨rfl, h⟩
  exact ⟨rfl, MOwn.turned h2 h3 h4 h5 h⟩
theorem MOwn.allocTrap (n : Int) (h : MOwn w0 w b lim cs ss K) (hn : n < 0 ∨ (lim : Int) - cs.length < n) : Calls Try.prog 16 #[ptr b, .int .i64 n] w fun e w' =>
    e = .returned (.tuple #[.int .i64 0, .int .i64 5, .int .i64 0]) ∧ Upto (fun _ => False) w w' := by
  obtain ⟨F, h1, h2, h3, h4, h5⟩ := h
  exact h1.allocTrap n hn
theorem MOwn.span (j : Nat) (i f l : Int) (h : MOwn w0 w b lim cs ss K) (hi : i = j) (hj : j < ss.length) (hf : ((ss.getD j (0, 0)).1 : Int) = f) (hl : ((ss.getD j (0, 0)).2 : Int) = l) : Calls Try.prog 17 #[ptr b, .int .i64 i] w fun e w' =>
    e = .returned (.tuple #[.int .i64 f, .int .i64 l, .int .i64 0]) ∧ Upto (fun _ => False) w w' := by
  subst hi hf hl
  obtain ⟨F, h1, h2, h3, h4, h5⟩ := h
  exact h1.span j hj
theorem MOwn.spanOut (i : Int) (h : MOwn w0 w b lim cs ss K) (hi : i < 0 ∨ (ss.length : Int) ≤ i) : Calls Try.prog 17 #[ptr b, .int .i64 i] w fun e w' =>
    e = .returned (.tuple #[.int .i64 0, .int .i64 0, .int .i64 3]) ∧ w = w' := by
  obtain ⟨F, h1, h2, h3, h4, h5⟩ := h
  exact h1.spanOut i hi
theorem MOwn.len (j : Nat) (i l : Int) (h : MOwn w0 w b lim cs ss K) (hi : i = j) (hj : j < ss.length) (hl : ((ss.getD j (0, 0)).2 : Int) = l) : Calls Try.prog 24 #[ptr b, .int .i64 i] w fun e w' =>
    e = .returned (.tuple #[.int .i64 l, .int .i64 0]) ∧ Upto (fun _ => False) w w' := by
  subst hi hl
  obtain ⟨F, h1, h2, h3, h4, h5⟩ := h
  exact h1.len j hj
theorem MOwn.lenOut (i : Int) (h : MOwn w0 w b lim cs ss K) (hi : i < 0 ∨ (ss.length : Int) ≤ i) : Calls Try.prog 24 #[ptr b, .int .i64 i] w fun e w' =>
    e = .returned (.tuple #[.int .i64 0, .int .i64 3]) ∧ Upto (fun _ => False) w w' := by
  obtain ⟨F, h1, h2, h3, h4, h5⟩ := h
  exact h1.lenOut i hi
theorem MOwn.count (n : Int) (h : MOwn w0 w b lim cs ss K) (hn : (ss.length : Int) - 1 = n) : Calls Try.prog 19 #[ptr b] w fun e w' => e = .returned (.int .i64 n) ∧ w = w' := by
  subst hn
  obtain ⟨F, h1, h2, h3, h4, h5⟩ := h
  exact h1.count
theorem MOwn.cells (h : MOwn w0 w b lim cs ss K) : Calls Try.prog 18 #[ptr b] w fun e w' => ∃ u, e = .returned u ∧ Row w' u cs ∧ (∀ k, rowOf u k → w.heap.size ≤ k) ∧ Upto (fun _ => False) w w' := by
  obtain ⟨F, h1, h2, h3, h4, h5⟩ := h
  refine h1.cells.mono ?_
  rintro e w' ⟨u, rfl, h1, h2, h3⟩
  exact ⟨u, rfl, h1, h2, Upto.of_below h3 _⟩
theorem MOwn.load (j k : Nat) (i i' x : Int) (h : MOwn w0 w b lim cs ss K) (hi : i = j) (hi' : i' = k) (hj : j < ss.length) (hk : k < (ss.getD j (0, 0)).2) (hx : cs.getD ((ss.getD j (0, 0)).1 + k) 0 = x) : Calls Try.prog 22 #[ptr b, .int .i64 i, .int .i64 i'] w fun e w' =>
    e = .returned (.tuple #[.int .i64 x, .int .i64 0, .int .i64 0]) ∧ Upto (fun _ => False) w w' := by
  subst hi hi' hx
  obtain ⟨F, h1, h2, h3, h4, h5⟩ := h
  exact h1.load j k hj hk
theorem MOwn.loadTrap (j : Nat) (i i' : Int) (h : MOwn w0 w b lim cs ss K) (hi : i = j) (hj : j < ss.length) (hk : i' < 0 ∨ ((ss.getD j (0, 0)).2 : Int) ≤ i') : Calls Try.prog 22 #[ptr b, .int .i64 i, .int .i64 i'] w fun e w' =>
    e = .returned (.tuple #[.int .i64 0, .int .i64 2, .int .i64 0]) ∧ Upto (fun _ => False) w w' := by
  subst hi
  obtain ⟨F, h1, h2, h3, h4, h5⟩ := h
  exact h1.loadTrap j i' hj hk
theorem MOwn.loadOut (i i' : Int) (h : MOwn w0 w b lim cs ss K) (hi : i < 0 ∨ (ss.length : Int) ≤ i) : Calls Try.prog 22 #[ptr b, .int .i64 i, .int .i64 i'] w fun e w' =>
    e = .returned (.tuple #[.int .i64 0, .int .i64 0, .int .i64 3]) ∧ Upto (fun _ => False) w w' := by
  obtain ⟨F, h1, h2, h3, h4, h5⟩ := h
  exact h1.loadOut i i' hi
theorem MOwn.store (j k : Nat) (i i' z : Int) (cs' : List Int) (h : MOwn w0 w b lim cs ss K) (hi : i = j) (hi' : i' = k) (hj : j < ss.length) (hk : k < (ss.getD j (0, 0)).2) (hcs : cs.set ((ss.getD j (0, 0)).1 + k) z = cs') : Calls Try.prog 23 #[ptr b, .int .i64 i, .int .i64 i', .int .i64 z] w fun e w' =>
    e = .returned (.tuple #[.int .i64 0, .int .i64 0]) ∧ MOwn w0 w' b lim cs' ss K ∧ Upto (MOurs w0 K) w w' := by
  subst hi hi' hcs
  obtain ⟨F, h1, h2, h3, h4, h5⟩ := h
  refine (h1.store j k z hj hk).mono ?_
  rintro e w' ⟨rfl, h⟩
  exact ⟨rfl, MOwn.turned h2 h3 h4 h5 h⟩
theorem MOwn.storeTrap (j : Nat) (i i' z : Int) (h : MOwn w0 w b lim cs ss K) (hi : i = j) (hj : j < ss.length) (hk : i' < 0 ∨ ((ss.getD j (0, 0)).2 : Int) ≤ i') : Calls Try.prog 23 #[ptr b, .int .i64 i, .int .i64 i', .int .i64 z] w fun e w' =>
    e = .returned (.tuple #[.int .i64 2, .int .i64 0]) ∧ Upto (fun _ => False) w w' := by
  subst hi
  obtain ⟨F, h1, h2, h3, h4, h5⟩ := h
  exact h1.storeTrap j i' z hj hk
theorem MOwn.storeOut (i i' z : Int) (h : MOwn w0 w b lim cs ss K) (hi : i < 0 ∨ (ss.length : Int) ≤ i) : Calls Try.prog 23 #[ptr b, .int .i64 i, .int .i64 i', .int .i64 z] w fun e w' =>
    e = .returned (.tuple #[.int .i64 0, .int .i64 3]) ∧ Upto (fun _ => False) w w' := by
  obtain ⟨F, h1, h2, h3, h4, h5⟩ := h
  exact h1.storeOut i i' z hi
end

theorem equal_true {w : World} {v u : Value} {xs ys : List Int} (hv : Sees w v xs) (hu : Sees w u ys) (h : xs = ys) : Calls Try.prog 31 #[v, u] w fun e w' => e = .returned (.bool true) ∧ Upto (fun _ => False) w w' := by
  refine (eq_at hv hu).mono ?_
  rintro e w' ⟨rfl, k, rfl⟩
  exact ⟨by rw [decide_eq_true h], (Upto.refl _ _).drewN k⟩
theorem eq_lit {w : World} {u : Value} {ys : List Int} {t : TypeId} (ls : List Int) (h : Row w u ys) (he : ys = ls) (hl : ls.length ≤ maxLen) :
    Calls Try.prog 31 #[u, .slice (some ⟨w.heap.size, 0, none⟩) ls.length ls.length] (w.alloc (.cells (ls.map (Value.int .i64)).toArray t)) fun e w' => e = .returned (.bool true) ∧ Upto (fun _ => False) w w' := by
  have hu : Upto (fun _ => False) w (w.alloc (.cells (ls.map (Value.int .i64)).toArray t)) := (Upto.refl _ w).alloc _
  refine (equal_true (h.kept hu (fun _ _ => id)).sees (Sees.lit w ls t hl) he).mono ?_
  rintro e w' ⟨rfl, h2⟩
  exact ⟨rfl, hu.trans h2⟩

end Go.Proofs.Ytjganbcolaakkaa
