/-
  One stack of opstack, made since a world w0; what its operations answer.
-/
import Derived.Test.YtcajkgingenegaaPile
namespace Go.Proofs.Ytcajkgingenegaa
open Go.RowKit

/-- Since w0 one stack was made; what was there then is as it was. -/
inductive Own (w0 w : World) (b : Nat) (most : Int) (xs : List Int) : Prop
  | mk (F : Nat → Prop) (pile : Pile w 48 (.pointer (some ⟨b, 0, none⟩)) most (some xs) F) (late : ∀ k, F k → w0.heap.size ≤ k) (below : Below w0.heap.size w0 w)

/-- A row that is apart from the stack, made since w0. -/
inductive Apart (w0 w : World) (b : Nat) (most : Int) (xs : List Int) (u : Value) (ys : List Int) : Prop
  | mk (row : Row w u ys) (own : ∀ k, rowOf u k → w0.heap.size ≤ k) (F : Nat → Prop) (pile : Pile w 48 (.pointer (some ⟨b, 0, none⟩)) most (some xs) F) (late : ∀ k, F k → w0.heap.size ≤ k) (far : ∀ k, F k → ¬ rowOf u k) (below : Below w0.heap.size w0 w)

theorem Own.step {w0 w w' : World} {b : Nat} {most : Int} {xs : List Int} (h : Own w0 w b most xs) (hu : Upto (fun _ => False) w w') : Own w0 w' b most xs := by
  obtain ⟨F, h1, h2, h3⟩ := h
  exact ⟨F, h1.kept hu (fun _ _ => id), h2, Upto.below ((Upto.of_below h3 _).trans hu)⟩
theorem Own.alloc {w0 w : World} {b : Nat} {most : Int} {xs : List Int} (h : Own w0 w b most xs) (o : Obj) : Own w0 (w.alloc o) b most xs := h.step ((Upto.refl _ w).alloc o)
theorem Own.base {w0 w : World} {b : Nat} {most : Int} {xs : List Int} (h : Own w0 w b most xs) : Below w0.heap.size w0 w := by obtain ⟨F, h1, h2, h3⟩ := h; exact h3
theorem Own.turned {w0 w w' : World} {b : Nat} {most : Int} {xs : List Int} {F : Nat → Prop} (h2 : ∀ k, F k → w0.heap.size ≤ k) (h3 : Below w0.heap.size w0 w) (h : Turned w 48 (.pointer (some ⟨b, 0, none⟩)) most (some xs) F w') : Own w0 w' b most xs := by
  obtain ⟨F', h4, h5, h6⟩ := h
  refine ⟨F', h4, fun k hk => (h6 k hk).elim (h2 k) (Nat.le_trans h3.size), Upto.below ((Upto.of_below h3 _).step h5 fun i hi hF => ?_)⟩
  have := h2 i hF
  omega

theorem new_own (n : Int) (w : World) (hn : 0 ≤ n ∧ n ≤ 10000) : Calls Try.prog 9 #[.int .i64 n] w fun e w' =>
    ∃ b, e = .returned (.tuple #[.pointer (some ⟨b, 0, none⟩), .int .i64 0]) ∧ Own w w' b n [] := by
  refine (new_pile n w).mono ?_
  simp only [if_pos hn]
  rintro e w' ⟨p, F, rfl, hp, hF, hb⟩
  obtain ⟨_, _, _, b, v, rfl, _⟩ := id hp
  exact ⟨b, rfl, F, hp, hF, hb⟩

theorem push_own {w0 w : World} {b : Nat} {most : Int} {xs : List Int} (x : Int) (h : Own w0 w b most xs) (hm : (xs.length : Int) < most) : Calls Try.prog 10 #[.pointer (some ⟨b, 0, none⟩), .int .i64 x] w fun e w' =>
    e = .returned (.int .i64 0) ∧ Own w0 w' b most (xs ++ [x]) := by
  obtain ⟨F, h1, h2, h3⟩ := h
  refine (push_pile x h1).mono ?_
  simp only [pushE, pushO, if_pos hm]
  rintro e w' ⟨rfl, h⟩
  exact ⟨rfl, Own.turned h2 h3 h⟩
theorem push_many {w0 w : World} {b : Nat} {most : Int} {xs : List Int} (x : Int) (h : Own w0 w b most xs) (hm : most ≤ (xs.length : Int)) : Calls Try.prog 10 #[.pointer (some ⟨b, 0, none⟩), .int .i64 x] w fun e w' =>
    e = .returned (.int .i64 10) ∧ Own w0 w' b most xs := by
  obtain ⟨F, h1, h2, h3⟩ := h
  refine (push_pile x h1).mono ?_
  simp only [pushE, pushO, if_neg (Int.not_lt.2 hm)]
  rintro e w' ⟨rfl, h⟩
  exact ⟨rfl, Own.turned h2 h3 h⟩
theorem pop_none_own {w0 w : World} {b : Nat} {most : Int} (h : Own w0 w b most []) : Calls Try.prog 17 #[.pointer (some ⟨b, 0, none⟩)] w fun e w' =>
    e = .returned (.tuple #[.int .i64 0, .int .i64 4]) ∧ Own w0 w' b most [] := by
  obtain ⟨F, h1, h2, h3⟩ := h
  refine (pop_pile h1).mono ?_
  rintro e w' ⟨rfl, h⟩
  exact ⟨rfl, Own.turned h2 h3 h⟩
theorem pop_own {w0 w : World} {b : Nat} {most x : Int} {xs : List Int} (h : Own w0 w b most (xs ++ [x])) : Calls Try.prog 17 #[.pointer (some ⟨b, 0, none⟩)] w fun e w' =>
    e = .returned (.tuple #[.int .i64 x, .int .i64 0]) ∧ Own w0 w' b most xs := by
  obtain ⟨F, h1, h2, h3⟩ := h
  refine (pop_pile h1).mono ?_
  simp only [popX, popE, popO, List.dropLast_concat, List.getLast?_concat, Option.getD_some, List.append_eq_nil_iff, List.cons_ne_nil, and_false, if_false]
  rintro e w' ⟨rfl, h⟩
  exact ⟨rfl, Own.turned h2 h3 h⟩
theorem len_own {w0 w : World} {b : Nat} {most : Int} {xs : List Int} (h : Own w0 w b most xs) : Calls Try.prog 14 #[.pointer (some ⟨b, 0, none⟩)] w fun e w' =>
    e = .returned (.int .i64 xs.length) ∧ w = w' := by
  obtain ⟨F, h1, h2, h3⟩ := h
  exact len_pile h1
theorem all_own {w0 w : World} {b : Nat} {most : Int} {xs : List Int} (h : Own w0 w b most xs) : Calls Try.prog 11 #[.pointer (some ⟨b, 0, none⟩)] w fun e w' =>
    ∃ u, e = .returned u ∧ Apart w0 w' b most xs u xs ∧ Upto (fun _ => False) w w' := by
  obtain ⟨F, h1, h2, h3⟩ := h
  refine (all_pile h1).mono ?_
  rintro e w' ⟨u, rfl, q1, q2, q3⟩
  have hk := h1.below q3
  refine ⟨u, rfl, ⟨q1, fun k hk => Nat.le_trans h3.size (q2 k hk), F, hk, h2, fun k hk hu => ?_, Upto.below ((Upto.of_below h3 _).trans (Upto.of_below q3 _))⟩, Upto.of_below q3 _⟩
  obtain ⟨_, _, h4, _⟩ := h1
  have := h4 k hk; have := q2 k hu
  omega
theorem take_none_own {w0 w : World} {b : Nat} {most k : Int} {xs : List Int} (h : Own w0 w b most xs) (hk : (xs.length : Int) < k) : Calls Try.prog 12 #[.pointer (some ⟨b, 0, none⟩), .int .i64 k] w fun e w' =>
    e = .returned (.tuple #[.slice none 0 0, .int .i64 4]) ∧ w = w' := by
  obtain ⟨F, ⟨_, _, _, b', v, e, h4, _⟩, h2, h3⟩ := h
  simp only [Value.pointer.injEq, Option.some.injEq, Addr.mk.injEq, and_true] at e
  subst e
  obtain ⟨ao, c, rfl, _⟩ := h4.2.1.slice
  exact take_many' b k w ao xs.length c h4.c0 h4.c2 hk
theorem take_neg_own {w0 w : World} {b : Nat} {most k : Int} {xs : List Int} (h : Own w0 w b most xs) (hk : k < 0) : Calls Try.prog 12 #[.pointer (some ⟨b, 0, none⟩), .int .i64 k] w fun e w' =>
    e = .returned (.tuple #[.slice none 0 0, .int .i64 2]) ∧ w = w' := by
  obtain ⟨F, ⟨_, _, _, b', v, e, h4, _⟩, h2, h3⟩ := h
  simp only [Value.pointer.injEq, Option.some.injEq, Addr.mk.injEq, and_true] at e
  subst e
  exact take_neg b k w h4.c0 hk
theorem take_own {w0 w : World} {b : Nat} {most k : Int} {xs ys : List Int} (h : Own w0 w b most (xs ++ ys)) (hk : (ys.length : Int) = k) : Calls Try.prog 12 #[.pointer (some ⟨b, 0, none⟩), .int .i64 k] w fun e w' =>
    ∃ u, e = .returned (.tuple #[u, .int .i64 0]) ∧ Apart w0 w' b most xs u ys := by
  obtain ⟨F, h1, h2, h3⟩ := h
  refine (take_pile k h1).mono ?_
  have e1 : ¬ k < 0 := by omega
  have e2 : ¬ ((xs ++ ys).length : Int) < k := by simp; omega
  have e3 : (xs ++ ys).length - k.toNat = xs.length := by simp; omega
  simp only [takeO, takeE, takeL, if_neg e1, if_neg e2, e3, List.take_left, List.drop_left]
  rintro e w' ⟨u, F', rfl, q1, q2, q3, q4, q5, q6⟩
  refine ⟨u, rfl, q1, fun k hk => Nat.le_trans h3.size (q2 k hk), F', q3, fun k hk => (q5 k hk).elim (h2 k) (Nat.le_trans h3.size), q6, Upto.below ((Upto.of_below h3 _).step q4 fun i hi hF => ?_)⟩
  have := h2 i hF
  omega
theorem Apart.own {w0 w : World} {b : Nat} {most : Int} {xs ys : List Int} {u : Value} (h : Apart w0 w b most xs u ys) : Own w0 w b most xs := by
  obtain ⟨h1, h2, F, h3, h4, h5, h6⟩ := h
  exact ⟨F, h3, h4, h6⟩
theorem Apart.row {w0 w : World} {b : Nat} {most : Int} {xs ys : List Int} {u : Value} (h : Apart w0 w b most xs u ys) : Row w u ys := by obtain ⟨h1, _⟩ := h; exact h1
theorem Apart.step {w0 w w' : World} {b : Nat} {most : Int} {xs ys : List Int} {u : Value} (h : Apart w0 w b most xs u ys) (hu : Upto (fun _ => False) w w') : Apart w0 w' b most xs u ys := by
  obtain ⟨h1, h2, F, h3, h4, h5, h6⟩ := h
  exact ⟨h1.kept hu (fun _ _ => id), h2, F, h3.kept hu (fun _ _ => id), h4, h5, Upto.below ((Upto.of_below h6 _).trans hu)⟩
theorem same_own {w : World} {v u : Value} {xs ys : List Int} (hv : Sees w v xs) (hu : Sees w u ys) (h : xs = ys) : Calls Try.prog 13 #[v, u] w fun e w' => e = .returned (.bool true) ∧ Upto (fun _ => False) w w' := by
  refine (same_at hv hu).mono ?_
  rintro e w' ⟨rfl, k, rfl⟩
  exact ⟨by rw [decide_eq_true h], (Upto.refl _ _).drewN k⟩

theorem Apart.turned {w0 w w' : World} {b : Nat} {most : Int} {xs ys : List Int} {u : Value} {F : Nat → Prop} (h1 : Row w u ys) (h2 : ∀ k, rowOf u k → w0.heap.size ≤ k) (h4 : ∀ k, F k → w0.heap.size ≤ k) (h5 : ∀ k, F k → ¬ rowOf u k) (h6 : Below w0.heap.size w0 w)
    (h : Turned w 48 (.pointer (some ⟨b, 0, none⟩)) most (some xs) F w') : Apart w0 w' b most xs u ys := by
  obtain ⟨F', g1, g2, g3⟩ := h
  refine ⟨h1.kept g2 (fun k hk hF => h5 k hF hk), h2, F', g1, fun k hk => (g3 k hk).elim (h4 k) (Nat.le_trans h6.size), fun k hk hu => ?_, Upto.below ((Upto.of_below h6 _).step g2 fun i hi hF => ?_)⟩
  · rcases g3 k hk with e | e
    · exact h5 k e hu
    · have := h1.lt k hu; omega
  · have := h4 i hF
    omega
theorem push_apart {w0 w : World} {b : Nat} {most : Int} {xs ys : List Int} {u : Value} (x : Int) (h : Apart w0 w b most xs u ys) (hm : (xs.length : Int) < most) : Calls Try.prog 10 #[.pointer (some ⟨b, 0, none⟩), .int .i64 x] w fun e w' =>
    e = .returned (.int .i64 0) ∧ Apart w0 w' b most (xs ++ [x]) u ys := by
  obtain ⟨h1, h2, F, h3, h4, h5, h6⟩ := h
  refine (push_pile x h3).mono ?_
  simp only [pushE, pushO, if_pos hm]
  rintro e w' ⟨rfl, h⟩
  exact ⟨rfl, Apart.turned h1 h2 h4 h5 h6 h⟩
theorem pop_apart {w0 w : World} {b : Nat} {most x : Int} {xs ys : List Int} {u : Value} (h : Apart w0 w b most (xs ++ [x]) u ys) : Calls Try.prog 17 #[.pointer (some ⟨b, 0, none⟩)] w fun e w' =>
    e = .returned (.tuple #[.int .i64 x, .int .i64 0]) ∧ Apart w0 w' b most xs u ys := by
  obtain ⟨h1, h2, F, h3, h4, h5, h6⟩ := h
  refine (pop_pile h3).mono ?_
  simp only [popX, popE, popO, List.dropLast_concat, List.getLast?_concat, Option.getD_some, List.append_eq_nil_iff, List.cons_ne_nil, and_false, if_false]
  rintro e w' ⟨rfl, h⟩
  exact ⟨rfl, Apart.turned h1 h2 h4 h5 h6 h⟩
theorem Apart.len {w0 w : World} {b : Nat} {most : Int} {xs ys : List Int} {u : Value} (n : Int) (h : Apart w0 w b most xs u ys) (hn : (xs.length : Int) = n) : Calls Try.prog 14 #[.pointer (some ⟨b, 0, none⟩)] w fun e w' =>
    e = .returned (.int .i64 n) ∧ w = w' := by
  subst hn
  exact len_own h.own
theorem Own.len {w0 w : World} {b : Nat} {most : Int} {xs : List Int} (n : Int) (h : Own w0 w b most xs) (hn : (xs.length : Int) = n) : Calls Try.prog 14 #[.pointer (some ⟨b, 0, none⟩)] w fun e w' =>
    e = .returned (.int .i64 n) ∧ w = w' := by
  subst hn
  exact len_own h
/-- A literal's slice, just made. -/
theorem Sees.lit (w : World) (xs : List Int) (e : TypeId) (h : xs.length ≤ maxLen) : Sees (w.alloc (.cells (xs.map (Value.int .i64)).toArray e)) (.slice (some ⟨w.heap.size, 0, none⟩) xs.length xs.length) xs := by
  refine ⟨_, _, rfl, Nat.le_refl _, h, (fun h => by cases h), fun ad e' => ?_⟩
  obtain rfl := Option.some.inj e'
  refine ⟨fun _ => ⟨rfl, by simp⟩, fun j hj => ?_⟩
  rw [cell_of_row _ w.heap.size _ _ e (0, 0) (heap_alloc_new w _), Nat.zero_add, ← getElem?_map_int hj]
  simp

theorem Own.take {w0 w : World} {b : Nat} {most k : Int} {zs : List Int} (xs ys : List Int) (h : Own w0 w b most zs) (hz : zs = xs ++ ys) (hk : (ys.length : Int) = k) : Calls Try.prog 12 #[.pointer (some ⟨b, 0, none⟩), .int .i64 k] w fun e w' =>
    ∃ u, e = .returned (.tuple #[u, .int .i64 0]) ∧ Apart w0 w' b most xs u ys := by
  subst hz
  exact take_own h hk
theorem Own.popNone {w0 w : World} {b : Nat} {most : Int} {zs : List Int} (h : Own w0 w b most zs) (hz : zs = []) : Calls Try.prog 17 #[.pointer (some ⟨b, 0, none⟩)] w fun e w' =>
    e = .returned (.tuple #[.int .i64 0, .int .i64 4]) ∧ Own w0 w' b most [] := by
  subst hz
  exact pop_none_own h
theorem Own.pop {w0 w : World} {b : Nat} {most : Int} {zs : List Int} (xs : List Int) (x : Int) (h : Own w0 w b most zs) (hz : zs = xs ++ [x]) : Calls Try.prog 17 #[.pointer (some ⟨b, 0, none⟩)] w fun e w' =>
    e = .returned (.tuple #[.int .i64 x, .int .i64 0]) ∧ Own w0 w' b most xs := by
  subst hz
  exact pop_own h
theorem Apart.pop {w0 w : World} {b : Nat} {most : Int} {zs ys : List Int} {u : Value} (xs : List Int) (x : Int) (h : Apart w0 w b most zs u ys) (hz : zs = xs ++ [x]) : Calls Try.prog 17 #[.pointer (some ⟨b, 0, none⟩)] w fun e w' =>
    e = .returned (.tuple #[.int .i64 x, .int .i64 0]) ∧ Apart w0 w' b most xs u ys := by
  subst hz
  exact pop_apart h
theorem same_lit {w0 w : World} {b : Nat} {most : Int} {xs ys : List Int} {u : Value} {t : TypeId} (ls : List Int) (h : Apart w0 w b most xs u ys) (he : ys = ls) (hl : ls.length ≤ maxLen) :
    Calls Try.prog 13 #[u, .slice (some ⟨w.heap.size, 0, none⟩) ls.length ls.length] (w.alloc (.cells (ls.map (Value.int .i64)).toArray t)) fun e w' => e = .returned (.bool true) ∧ Apart w0 w' b most xs u ys := by
  have hu : Upto (fun _ => False) w (w.alloc (.cells (ls.map (Value.int .i64)).toArray t)) := (Upto.refl _ w).alloc _
  refine (same_own (h.row.kept hu (fun _ _ => id)).sees (Sees.lit w ls t hl) he).mono ?_
  rintro e w' ⟨rfl, h2⟩
  exact ⟨rfl, (h.step hu).step h2⟩

theorem new_many (n : Int) (w : World) (hn : n < 0 ∨ 10000 < n) : Calls Try.prog 9 #[.int .i64 n] w fun e w' => e = .returned (.tuple #[.pointer none, .int .i64 2]) ∧ w = w' := new_bad n w hn

end Go.Proofs.Ytcajkgingenegaa
