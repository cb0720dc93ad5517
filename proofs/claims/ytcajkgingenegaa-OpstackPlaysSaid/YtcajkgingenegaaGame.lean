/-
  The game of the two stacks, the program's and the reference's, and of the two that were copied.
-/
import Derived.Test.YtcajkgingenegaaPair
namespace Go.Proofs.Ytcajkgingenegaa
open Go.RowKit

theorem Pile.tight {w : World} {T : TypeId} {p : Value} {most : Int} {o : Option (List Int)} {F : Nat → Prop} (h : Pile w T p most o F) : ∃ F', Pile w T p most o F' ∧ (∀ k, F' k → F k) ∧ ∀ k, F' k → k < w.heap.size := by
  cases o with
  | none => exact ⟨fun _ => False, h, fun _ h => h.elim, fun _ h => h.elim⟩
  | some xs => exact ⟨F, h, fun _ h => h, h.2.2.1⟩

abbrev TS : TypeId := 48
abbrev TR : TypeId := 54

inductive Game (w0 w : World) (p q p2 q2 : Value) (most : Int) (o o' : Option (List Int)) (R : Nat → Prop) : Prop
  | same (h : Pair w0 w TS TR p q most o o' R) (hp : p2 = p) (hq : q2 = q)
  | apart (K F G : Nat → Prop) (o2 : Option (List Int)) (h : Pair w0 w TS TR p q most o o' K) (one : Pile w TS p2 most o2 F) (two : Pile w TR q2 most o2 G) (hF : ∀ k, F k → K k) (hG : ∀ k, G k → K k) (hR : ∀ k, R k → K k)

section
variable {w0 w w' : World} {p q p2 q2 : Value} {most : Int} {o o' : Option (List Int)} {R : Nat → Prop}

theorem Game.base (h : Game w0 w p q p2 q2 most o o' R) : Below w0.heap.size w0 w := by
  cases h with
  | same h => exact h.base
  | apart K F G o2 h => exact h.base
theorem Game.step (h : Game w0 w p q p2 q2 most o o' R) (hu : Upto (fun _ => False) w w') : Game w0 w' p q p2 q2 most o o' R := by
  cases h with
  | same h hp hq => exact .same (h.step hu) hp hq
  | apart K F G o2 h a b c d e => exact .apart K F G o2 (h.step hu) (a.kept hu (fun _ _ => id)) (b.kept hu (fun _ _ => id)) c d e
theorem Game.mono {R' : Nat → Prop} (h : Game w0 w p q p2 q2 most o o' R) (hR : ∀ k, R' k → R k) : Game w0 w p q p2 q2 most o o' R' := by
  cases h with
  | same h hp hq => exact .same (h.mono hR) hp hq
  | apart K F G o2 h a b c d e => exact .apart K F G o2 h a b c d (fun k hk => e k (hR k hk))

/-- A step of the pair, as a step of the game. -/
theorem Pair.far {U V : TypeId} {o1 o1' : Option (List Int)} {K F : Nat → Prop} {T : TypeId} {o2 : Option (List Int)} (_ : Pair w0 w' U V p q most o1 o1' K) (hu : Upto (Ours w0 K) w w') (a : Pile w T p2 most o2 F) (hF : ∀ k, F k → K k) : Pile w' T p2 most o2 F :=
  a.kept hu (fun k hk h => h.2 (hF k hk))

theorem Row.outside {u : Value} {ys : List Int} {K : Nat → Prop} (h : Row w u ys) (hu : Upto (Ours w0 K) w w') (hK : ∀ k, rowOf u k → K k) : Row w' u ys := h.kept hu (fun k hk e => e.2 (hK k hk))

theorem Game.push (x : Int) (h : Game w0 w p q p2 q2 most o o' R) : Calls Try.prog 10 #[p, .int .i64 x] w fun e w' => e = .returned (.int .i64 (pushE most o)) ∧ Game w0 w' p q p2 q2 most (pushO most x o) o' R ∧ Upto (Ours w0 R) w w' := by
  cases h with
  | same h hp hq =>
    refine (Pair.push x h).mono ?_
    rintro e w' ⟨rfl, h, hu⟩
    exact ⟨rfl, .same h hp hq, hu⟩
  | apart K F G o2 h a b c d e =>
    refine (Pair.push x h).mono ?_
    rintro _ w' ⟨rfl, h, hu⟩
    exact ⟨rfl, .apart K F G o2 h (Pair.far h hu a c) (Pair.far h hu b d) c d e, hu.mono (fun k _ hk => ⟨hk.1, fun hR => hk.2 (e k hR)⟩)⟩
theorem Game.pop (h : Game w0 w p q p2 q2 most o o' R) : Calls Try.prog 17 #[p] w fun e w' => e = .returned (.tuple #[.int .i64 (popX o), .int .i64 (popE o)]) ∧ Game w0 w' p q p2 q2 most (popO o) o' R ∧ Upto (Ours w0 R) w w' := by
  cases h with
  | same h hp hq =>
    refine (Pair.pop h).mono ?_
    rintro e w' ⟨rfl, h, hu⟩
    exact ⟨rfl, .same h hp hq, hu⟩
  | apart K F G o2 h a b c d e =>
    refine (Pair.pop h).mono ?_
    rintro _ w' ⟨rfl, h, hu⟩
    exact ⟨rfl, .apart K F G o2 h (Pair.far h hu a c) (Pair.far h hu b d) c d e, hu.mono (fun k _ hk => ⟨hk.1, fun hR => hk.2 (e k hR)⟩)⟩
theorem Game.take (k : Int) (h : Game w0 w p q p2 q2 most o o' R) : Calls Try.prog 12 #[p, .int .i64 k] w fun e w' => ∃ u, e = .returned (.tuple #[u, .int .i64 (takeE k o)]) ∧ Row w' u (takeL k o) ∧ Game w0 w' p q p2 q2 most (takeO k o) o' (fun j => R j ∨ rowOf u j) ∧ Upto (Ours w0 R) w w' := by
  cases h with
  | same h hp hq =>
    refine (Pair.take k h).mono ?_
    rintro e w' ⟨u, rfl, r1, _, h, hu⟩
    exact ⟨u, rfl, r1, .same h hp hq, hu⟩
  | apart K F G o2 h a b c d e =>
    refine (Pair.take k h).mono ?_
    rintro _ w' ⟨u, rfl, r1, _, h, hu⟩
    exact ⟨u, rfl, r1, .apart (fun j => K j ∨ rowOf u j) F G o2 h (a.kept hu (fun k hk h => h.2 (c k hk))) (b.kept hu (fun k hk h => h.2 (d k hk))) (fun k hk => Or.inl (c k hk)) (fun k hk => Or.inl (d k hk)) (fun k hk => hk.imp (e k) id), hu.mono (fun k _ hk => ⟨hk.1, fun hR => hk.2 (e k hR)⟩)⟩
theorem Game.len (h : Game w0 w p q p2 q2 most o o' R) : Calls Try.prog 14 #[p] w fun e w' => e = .returned (.int .i64 (lenO o)) ∧ w = w' := by
  cases h with
  | same h => exact Pair.len h
  | apart K F G o2 h => exact Pair.len h
theorem Game.all (h : Game w0 w p q p2 q2 most o o' R) : Calls Try.prog 11 #[p] w fun e w' => ∃ u, e = .returned u ∧ Row w' u (allO o) ∧ Upto (fun _ => False) w w' := by
  have h : Calls Try.prog 11 #[p] w (Cloned w (allO o)) := by
    cases h with
    | same h => exact Pair.all h
    | apart K F G o2 h => exact Pair.all h
  refine h.mono ?_
  rintro e w' ⟨u, rfl, h1, _, h2⟩
  exact ⟨u, rfl, h1, Upto.of_below h2 _⟩
theorem Game.rpush (x : Int) (h : Game w0 w p q p2 q2 most o o' R) : Calls Try.prog 16 #[q, .int .i64 x] w fun e w' => e = .returned (.int .i64 (pushE most o')) ∧ Game w0 w' p q p2 q2 most o (pushO most x o') R ∧ Upto (Ours w0 R) w w' := by
  cases h with
  | same h hp hq =>
    refine (Pair.rpush x h.swap).mono ?_
    rintro e w' ⟨rfl, h, hu⟩
    exact ⟨rfl, .same h.swap hp hq, hu⟩
  | apart K F G o2 h a b c d e =>
    refine (Pair.rpush x h.swap).mono ?_
    rintro _ w' ⟨rfl, h, hu⟩
    exact ⟨rfl, .apart K F G o2 h.swap (Pair.far h hu a c) (Pair.far h hu b d) c d e, hu.mono (fun k _ hk => ⟨hk.1, fun hR => hk.2 (e k hR)⟩)⟩
theorem Game.rpop (h : Game w0 w p q p2 q2 most o o' R) : Calls Try.prog 18 #[q] w fun e w' => e = .returned (.tuple #[.int .i64 (popX o'), .int .i64 (popE o')]) ∧ Game w0 w' p q p2 q2 most o (popO o') R ∧ Upto (Ours w0 R) w w' := by
  cases h with
  | same h hp hq =>
    refine (Pair.rpop h.swap).mono ?_
    rintro e w' ⟨rfl, h, hu⟩
    exact ⟨rfl, .same h.swap hp hq, hu⟩
  | apart K F G o2 h a b c d e =>
    refine (Pair.rpop h.swap).mono ?_
    rintro _ w' ⟨rfl, h, hu⟩
    exact ⟨rfl, .apart K F G o2 h.swap (Pair.far h hu a c) (Pair.far h hu b d) c d e, hu.mono (fun k _ hk => ⟨hk.1, fun hR => hk.2 (e k hR)⟩)⟩
theorem Game.rtake (k : Int) (h : Game w0 w p q p2 q2 most o o' R) : Calls Try.prog 19 #[q, .int .i64 k] w fun e w' => ∃ u, e = .returned (.tuple #[u, .int .i64 (takeE k o')]) ∧ Row w' u (takeL k o') ∧ Game w0 w' p q p2 q2 most o (takeO k o') (fun j => R j ∨ rowOf u j) ∧ Upto (Ours w0 R) w w' := by
  cases h with
  | same h hp hq =>
    refine (Pair.rtake k h.swap).mono ?_
    rintro e w' ⟨u, rfl, r1, _, h, hu⟩
    exact ⟨u, rfl, r1, .same h.swap hp hq, hu⟩
  | apart K F G o2 h a b c d e =>
    refine (Pair.rtake k h.swap).mono ?_
    rintro _ w' ⟨u, rfl, r1, _, h, hu⟩
    exact ⟨u, rfl, r1, .apart (fun j => K j ∨ rowOf u j) F G o2 h.swap (a.kept hu (fun k hk h => h.2 (c k hk))) (b.kept hu (fun k hk h => h.2 (d k hk))) (fun k hk => Or.inl (c k hk)) (fun k hk => Or.inl (d k hk)) (fun k hk => hk.imp (e k) id), hu.mono (fun k _ hk => ⟨hk.1, fun hR => hk.2 (e k hR)⟩)⟩
theorem Game.rlen (h : Game w0 w p q p2 q2 most o o' R) : Calls Try.prog 22 #[q] w fun e w' => e = .returned (.int .i64 (lenO o')) ∧ w = w' := by
  cases h with
  | same h => exact Pair.rlen h.swap
  | apart K F G o2 h => exact Pair.rlen h.swap
theorem Game.rall (h : Game w0 w p q p2 q2 most o o' R) : Calls Try.prog 23 #[q] w fun e w' => ∃ u, e = .returned u ∧ Row w' u (allO o') ∧ Upto (fun _ => False) w w' := by
  have h : Calls Try.prog 23 #[q] w (Cloned w (allO o')) := by
    cases h with
    | same h => exact Pair.rall h.swap
    | apart K F G o2 h => exact Pair.rall h.swap
  refine h.mono ?_
  rintro e w' ⟨u, rfl, h1, _, h2⟩
  exact ⟨u, rfl, h1, Upto.of_below h2 _⟩
end

/-- The first copy is made. -/
inductive Half (w0 w : World) (p q p' : Value) (most : Int) (o : Option (List Int)) : Prop
  | mk (F : Nat → Prop) (h : Pair w0 w TS TR p q most o o F) (one : Pile w TS p' most o F) (late : ∀ k, F k → w0.heap.size ≤ k)

theorem Game.copy {w0 w : World} {p q p2 q2 : Value} {most : Int} {o : Option (List Int)} {R : Nat → Prop} (h : Game w0 w p q p2 q2 most o o R) : Calls Try.prog 20 #[p] w fun e w' => ∃ p', e = .returned p' ∧ Half w0 w' p q p' most o := by
  have h : ∃ K, Pair w0 w TS TR p q most o o K := by
    cases h with
    | same h => exact ⟨_, h⟩
    | apart K F G o2 h => exact ⟨_, h⟩
  obtain ⟨K, F, G, a, b, c, d, e, f, g⟩ := h
  refine (copy_pile a).mono ?_
  rintro _ w' ⟨p', F', rfl, r1, r2, r3, _⟩
  obtain ⟨F1, s1, s2, s3⟩ := r1.tight
  have hu := Upto.of_below r3 (fun _ => False)
  have hb : Below w0.heap.size w0 w' := Upto.below ((Upto.of_below g _).trans hu)
  refine ⟨p', rfl, F1, ⟨F, G, a.kept hu (fun _ _ => id), b.kept hu (fun _ _ => id), fun k hk => ⟨(c k hk).1, Nat.lt_of_lt_of_le (c k hk).2.1 hu.size, fun hk' => ?_⟩, fun k hk => ⟨(d k hk).1, Nat.lt_of_lt_of_le (d k hk).2.1 hu.size, fun hk' => ?_⟩, e, s3, hb⟩, s1, fun k hk => Nat.le_trans g.size (r2 k (s2 k hk))⟩
  · have := (c k hk).2.1; have := r2 k (s2 k hk'); omega
  · have := (d k hk).2.1; have := r2 k (s2 k hk'); omega
theorem Half.copy {w0 w : World} {p q p' : Value} {most : Int} {o : Option (List Int)} (h : Half w0 w p q p' most o) : Calls Try.prog 21 #[q] w fun e w' => ∃ q', e = .returned q' ∧ Game w0 w' p' q' p q most o o (fun _ => False) := by
  obtain ⟨F1, ⟨F, G, a, b, c, d, e, f, g⟩, s1, s2⟩ := h
  refine (rcopy_pile b).mono ?_
  rintro _ w' ⟨q', G', rfl, r1, r2, r3, _⟩
  obtain ⟨G1, t1, t2, t3⟩ := r1.tight
  have hu := Upto.of_below r3 (fun _ => False)
  have hb : Below w0.heap.size w0 w' := Upto.below ((Upto.of_below g _).trans hu)
  refine ⟨q', rfl, .apart (fun k => F k ∨ G k) F G o ⟨F1, G1, s1.kept hu (fun _ _ => id), t1, fun k hk => ⟨s2 k hk, Nat.lt_of_lt_of_le (f k hk) hu.size, fun h => ?_⟩, fun k hk => ⟨Nat.le_trans g.size (r2 k (t2 k hk)), t3 k hk, fun h => ?_⟩, fun k hk hk' => ?_, fun k hk => ?_, hb⟩ (a.kept hu (fun _ _ => id)) (b.kept hu (fun _ _ => id)) (fun _ h => Or.inl h) (fun _ h => Or.inr h) (fun _ h => h.elim)⟩
  · rcases h with h | h
    · exact (c k h).2.2 hk
    · exact (d k h).2.2 hk
  · have := r2 k (t2 k hk)
    rcases h with h | h
    · have := (c k h).2.1; omega
    · have := (d k h).2.1; omega
  · have := r2 k (t2 k hk'); have := f k hk; omega
  · rcases hk with h | h
    · exact Nat.lt_of_lt_of_le (c k h).2.1 hu.size
    · exact Nat.lt_of_lt_of_le (d k h).2.1 hu.size

/-- At the end: the two old ones say the same. -/
theorem Game.olds {w0 w : World} {p q p2 q2 : Value} {most : Int} {o : Option (List Int)} {R : Nat → Prop} (h : Game w0 w p q p2 q2 most o o R) : ∃ o2 F G, Pile w TS p2 most o2 F ∧ Pile w TR q2 most o2 G := by
  cases h with
  | same h hp hq =>
    subst hp hq
    obtain ⟨F, G, a, b, _⟩ := h
    exact ⟨o, F, G, a, b⟩
  | apart K F G o2 h a b => exact ⟨o2, F, G, a, b⟩

end Go.Proofs.Ytcajkgingenegaa
