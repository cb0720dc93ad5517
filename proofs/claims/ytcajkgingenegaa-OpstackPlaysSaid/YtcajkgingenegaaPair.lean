/-
  Two stacks apart from one another, made since a world w0, beside blocks K that stay as they are.
-/
import Derived.Test.YtcajkgingenegaaPoke
namespace Go.Proofs.Ytcajkgingenegaa
open Go.RowKit

inductive Pair (w0 w : World) (T U : TypeId) (p q : Value) (most : Int) (o o' : Option (List Int)) (K : Nat → Prop) : Prop
  | mk (F G : Nat → Prop) (one : Pile w T p most o F) (two : Pile w U q most o' G) (h1 : ∀ k, F k → w0.heap.size ≤ k ∧ k < w.heap.size ∧ ¬ K k) (h2 : ∀ k, G k → w0.heap.size ≤ k ∧ k < w.heap.size ∧ ¬ K k) (h3 : ∀ k, F k → ¬ G k) (h4 : ∀ k, K k → k < w.heap.size) (h5 : Below w0.heap.size w0 w)

/-- What a step on a pair may turn. -/
def Ours (w0 : World) (K : Nat → Prop) (k : Nat) : Prop := w0.heap.size ≤ k ∧ ¬ K k

section
variable {w0 w w' : World} {T U : TypeId} {p q : Value} {most : Int} {o o' : Option (List Int)} {K : Nat → Prop}

theorem Pair.base (h : Pair w0 w T U p q most o o' K) : Below w0.heap.size w0 w := by obtain ⟨F, G, a, b, c, d, e, f, g⟩ := h; exact g
theorem Pair.step (h : Pair w0 w T U p q most o o' K) (hu : Upto (fun _ => False) w w') : Pair w0 w' T U p q most o o' K := by
  obtain ⟨F, G, a, b, c, d, e, f, g⟩ := h
  exact ⟨F, G, a.kept hu (fun _ _ => id), b.kept hu (fun _ _ => id), fun k hk => ⟨(c k hk).1, Nat.lt_of_lt_of_le (c k hk).2.1 hu.size, (c k hk).2.2⟩, fun k hk => ⟨(d k hk).1, Nat.lt_of_lt_of_le (d k hk).2.1 hu.size, (d k hk).2.2⟩, e, fun k hk => Nat.lt_of_lt_of_le (f k hk) hu.size, Upto.below ((Upto.of_below g _).trans hu)⟩
theorem Pair.swap (h : Pair w0 w T U p q most o o' K) : Pair w0 w U T q p most o' o K := by
  obtain ⟨F, G, a, b, c, d, e, f, g⟩ := h
  exact ⟨G, F, b, a, d, c, fun k hg hf => e k hf hg, f, g⟩

theorem Pair.mono {K' : Nat → Prop} (h : Pair w0 w T U p q most o o' K) (hK : ∀ k, K' k → K k) : Pair w0 w T U p q most o o' K' := by
  obtain ⟨F, G, a, b, c, d, e, f, g⟩ := h
  exact ⟨F, G, a, b, fun k hk => ⟨(c k hk).1, (c k hk).2.1, fun h => (c k hk).2.2 (hK k h)⟩, fun k hk => ⟨(d k hk).1, (d k hk).2.1, fun h => (d k hk).2.2 (hK k h)⟩, e, fun k hk => f k (hK k hk), g⟩

/-- The first one turned, and a row R was made beside it. -/
theorem Pair.turnR {F G F' R : Nat → Prop} {o1 : Option (List Int)} (b : Pile w U q most o' G) (c : ∀ k, F k → w0.heap.size ≤ k ∧ k < w.heap.size ∧ ¬ K k) (d : ∀ k, G k → w0.heap.size ≤ k ∧ k < w.heap.size ∧ ¬ K k) (e : ∀ k, F k → ¬ G k) (f : ∀ k, K k → k < w.heap.size) (g : Below w0.heap.size w0 w)
    (a' : Pile w' T p most o1 F') (u : Upto F w w') (v : ∀ k, F' k → F k ∨ w.heap.size ≤ k) (r : ∀ k, R k → w.heap.size ≤ k ∧ k < w'.heap.size) (r' : ∀ k, F' k → ¬ R k) : Pair w0 w' T U p q most o1 o' (fun k => K k ∨ R k) ∧ Upto (Ours w0 K) w w' := by
  have hu : Upto (Ours w0 K) w w' := u.mono (fun k _ hk => ⟨(c k hk).1, (c k hk).2.2⟩)
  have hsz := u.size
  have hd : ∀ k, G k → w0.heap.size ≤ k ∧ k < w'.heap.size ∧ ¬ (K k ∨ R k) := fun k hk => ⟨(d k hk).1, Nat.lt_of_lt_of_le (d k hk).2.1 hsz, fun h => h.elim (d k hk).2.2 (fun h => by have := (d k hk).2.1; have := (r k h).1; omega)⟩
  have hf : ∀ k, (K k ∨ R k) → k < w'.heap.size := fun k hk => hk.elim (fun h => Nat.lt_of_lt_of_le (f k h) hsz) (fun h => (r k h).2)
  have hb : Below w0.heap.size w0 w' := Upto.below ((Upto.of_below g _).step u fun i hi hF => by have := (c i hF).1; omega)
  refine ⟨?_, hu⟩
  cases o1 with
  | none =>
    obtain rfl := a'
    exact ⟨fun _ => False, G, rfl, b.kept u (fun k hg hf => e k hf hg), fun _ h => h.elim, hd, fun _ h => h.elim, hf, hb⟩
  | some xs =>
    obtain ⟨_, _, hlt, _⟩ := id a'
    refine ⟨F', G, a', b.kept u (fun k hg hf => e k hf hg), fun k hk => ⟨?_, hlt k hk, fun hK => ?_⟩, hd, fun k hk hg => ?_, hf, hb⟩
    · rcases v k hk with h | h
      · exact (c k h).1
      · exact Nat.le_trans g.size h
    · rcases hK with hK | hK
      · rcases v k hk with h | h
        · exact (c k h).2.2 hK
        · have := f k hK; omega
      · exact r' k hk hK
    · rcases v k hk with h | h
      · exact e k h hg
      · have := (d k hg).2.1; omega

/-- The first one turned. -/
theorem Pair.turn {F G : Nat → Prop} {o1 : Option (List Int)} (b : Pile w U q most o' G) (c : ∀ k, F k → w0.heap.size ≤ k ∧ k < w.heap.size ∧ ¬ K k) (d : ∀ k, G k → w0.heap.size ≤ k ∧ k < w.heap.size ∧ ¬ K k) (e : ∀ k, F k → ¬ G k) (f : ∀ k, K k → k < w.heap.size) (g : Below w0.heap.size w0 w)
    (h : Turned w T p most o1 F w') : Pair w0 w' T U p q most o1 o' K ∧ Upto (Ours w0 K) w w' := by
  obtain ⟨F', a', u, v⟩ := h
  obtain ⟨h1, h2⟩ := Pair.turnR (R := fun _ => False) b c d e f g a' u v (fun _ h => h.elim) (fun _ _ h => h)
  exact ⟨h1.mono (fun _ h => Or.inl h), h2⟩
end


section
variable {w0 w : World} {U : TypeId} {p q : Value} {most : Int} {o o' : Option (List Int)} {K : Nat → Prop}
theorem Pair.push {T : TypeId} (x : Int) (h : Pair w0 w T U p q most o o' K) : Calls Try.prog 10 #[p, .int .i64 x] w fun e w' =>
    e = .returned (.int .i64 (pushE most o)) ∧ Pair w0 w' T U p q most (pushO most x o) o' K ∧ Upto (Ours w0 K) w w' := by
  obtain ⟨F, G, a, b, c, d, e, f, g⟩ := h
  refine (push_pile x a).mono ?_
  rintro _ w' ⟨rfl, ht⟩
  exact ⟨rfl, Pair.turn b c d e f g ht⟩
theorem Pair.pop {T : TypeId} (h : Pair w0 w T U p q most o o' K) : Calls Try.prog 17 #[p] w fun e w' =>
    e = .returned (.tuple #[.int .i64 (popX o), .int .i64 (popE o)]) ∧ Pair w0 w' T U p q most (popO o) o' K ∧ Upto (Ours w0 K) w w' := by
  obtain ⟨F, G, a, b, c, d, e, f, g⟩ := h
  refine (pop_pile a).mono ?_
  rintro _ w' ⟨rfl, ht⟩
  exact ⟨rfl, Pair.turn b c d e f g ht⟩
theorem Pair.take {T : TypeId} (k : Int) (h : Pair w0 w T U p q most o o' K) : Calls Try.prog 12 #[p, .int .i64 k] w fun e w' =>
    ∃ u, e = .returned (.tuple #[u, .int .i64 (takeE k o)]) ∧ Row w' u (takeL k o) ∧ (∀ j, rowOf u j → w.heap.size ≤ j) ∧ Pair w0 w' T U p q most (takeO k o) o' (fun j => K j ∨ rowOf u j) ∧ Upto (Ours w0 K) w w' := by
  obtain ⟨F, G, a, b, c, d, e, f, g⟩ := h
  refine (take_pile k a).mono ?_
  rintro _ w' ⟨u, F', rfl, r1, r2, r3, r4, r5, r6⟩
  obtain ⟨h1, h2⟩ := Pair.turnR (R := rowOf u) b c d e f g r3 r4 r5 (fun k hk => ⟨r2 k hk, r1.lt k hk⟩) r6
  exact ⟨u, rfl, r1, r2, h1, h2⟩
theorem Pair.len {T : TypeId} (h : Pair w0 w T U p q most o o' K) : Calls Try.prog 14 #[p] w fun e w' => e = .returned (.int .i64 (lenO o)) ∧ w = w' := by
  obtain ⟨F, G, a, b, c, d, e, f, g⟩ := h
  exact len_pile a
theorem Pair.all {T : TypeId} (h : Pair w0 w T U p q most o o' K) : Calls Try.prog 11 #[p] w (Cloned w (allO o)) := by
  obtain ⟨F, G, a, b, c, d, e, f, g⟩ := h
  exact all_pile a
end

section
variable {w0 w : World} {U : TypeId} {p q : Value} {most : Int} {o o' : Option (List Int)} {K : Nat → Prop}
theorem Pair.rpush {T : TypeId} (x : Int) (h : Pair w0 w T U p q most o o' K) : Calls Try.prog 16 #[p, .int .i64 x] w fun e w' =>
    e = .returned (.int .i64 (pushE most o)) ∧ Pair w0 w' T U p q most (pushO most x o) o' K ∧ Upto (Ours w0 K) w w' := by
  obtain ⟨F, G, a, b, c, d, e, f, g⟩ := h
  refine (rpush_pile x a).mono ?_
  rintro _ w' ⟨rfl, ht⟩
  exact ⟨rfl, Pair.turn b c d e f g ht⟩
theorem Pair.rpop {T : TypeId} (h : Pair w0 w T U p q most o o' K) : Calls Try.prog 18 #[p] w fun e w' =>
    e = .returned (.tuple #[.int .i64 (popX o), .int .i64 (popE o)]) ∧ Pair w0 w' T U p q most (popO o) o' K ∧ Upto (Ours w0 K) w w' := by
  obtain ⟨F, G, a, b, c, d, e, f, g⟩ := h
  refine (rpop_pile a).mono ?_
  rintro _ w' ⟨rfl, ht⟩
  exact ⟨rfl, Pair.turn b c d e f g ht⟩
theorem Pair.rtake {T : TypeId} (k : Int) (h : Pair w0 w T U p q most o o' K) : Calls Try.prog 19 #[p, .int .i64 k] w fun e w' =>
    ∃ u, e = .returned (.tuple #[u, .int .i64 (takeE k o)]) ∧ Row w' u (takeL k o) ∧ (∀ j, rowOf u j → w.heap.size ≤ j) ∧ Pair w0 w' T U p q most (takeO k o) o' (fun j => K j ∨ rowOf u j) ∧ Upto (Ours w0 K) w w' := by
  obtain ⟨F, G, a, b, c, d, e, f, g⟩ := h
  refine (rtake_pile k a).mono ?_
  rintro _ w' ⟨u, F', rfl, r1, r2, r3, r4, r5, r6⟩
  obtain ⟨h1, h2⟩ := Pair.turnR (R := rowOf u) b c d e f g r3 r4 r5 (fun k hk => ⟨r2 k hk, r1.lt k hk⟩) r6
  exact ⟨u, rfl, r1, r2, h1, h2⟩
theorem Pair.rlen {T : TypeId} (h : Pair w0 w T U p q most o o' K) : Calls Try.prog 22 #[p] w fun e w' => e = .returned (.int .i64 (lenO o)) ∧ w = w' := by
  obtain ⟨F, G, a, b, c, d, e, f, g⟩ := h
  exact rlen_pile a
theorem Pair.rall {T : TypeId} (h : Pair w0 w T U p q most o o' K) : Calls Try.prog 23 #[p] w (Cloned w (allO o)) := by
  obtain ⟨F, G, a, b, c, d, e, f, g⟩ := h
  exact rall_pile a
end

end Go.Proofs.Ytcajkgingenegaa
