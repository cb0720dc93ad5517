/-
  A stack as the caller sees it: what it holds, what it answers, which blocks it has. One contract for each operation, for both packages.
-/
import Derived.Test.YtcajkgingenegaaWalkI
namespace Go.Proofs.Ytcajkgingenegaa
open Go.RowKit

/-- The stack at p: nil, or these numbers; F: the blocks that are its own. -/
def Pile (w : World) (T : TypeId) (p : Value) (most : Int) (o : Option (List Int)) (F : Nat → Prop) : Prop :=
  match o with
  | none => p = .pointer none
  | some xs => (xs.length : Int) ≤ most ∧ most ≤ 10000 ∧ (∀ k, F k → k < w.heap.size) ∧ ∃ b v, p = .pointer (some ⟨b, 0, none⟩) ∧ Stk w T b most v xs ∧ F b ∧ ∀ k, rowOf v k → F k

theorem Pile.kept {S : Nat → Prop} {w w' : World} {T : TypeId} {p : Value} {most : Int} {o : Option (List Int)} {F : Nat → Prop} (h : Pile w T p most o F) (hu : Upto S w w') (hd : ∀ k, F k → ¬ S k) : Pile w' T p most o F := by
  cases o with
  | none => exact h
  | some xs =>
    obtain ⟨h1, h2, h3, b, v, rfl, h4, h5, h6⟩ := h
    exact ⟨h1, h2, fun k hk => Nat.lt_of_lt_of_le (h3 k hk) hu.size, b, v, rfl, h4.kept hu (hd b h5) (fun k hk => hd k (h6 k hk)), h5, h6⟩
theorem Pile.below {w w' : World} {T : TypeId} {p : Value} {most : Int} {o : Option (List Int)} {F : Nat → Prop} (h : Pile w T p most o F) (hu : Below w.heap.size w w') : Pile w' T p most o F :=
  h.kept (Upto.of_below hu (fun _ => False)) (fun _ _ => id)
theorem Pile.drewN {w : World} {T : TypeId} {p : Value} {most : Int} {o : Option (List Int)} {F : Nat → Prop} (h : Pile w T p most o F) (n : Nat) : Pile (w.drewN n) T p most o F :=
  h.kept ((Upto.refl (fun _ => False) w).drewN n) (fun _ _ => id)

def pushE (most : Int) : Option (List Int) → Int
  | none => 1
  | some xs => if (xs.length : Int) < most then 0 else 10
def pushO (most x : Int) : Option (List Int) → Option (List Int)
  | none => none
  | some xs => if (xs.length : Int) < most then some (xs ++ [x]) else some xs
def takeE (k : Int) : Option (List Int) → Int
  | none => 1
  | some xs => if k < 0 then 2 else if (xs.length : Int) < k then 4 else 0
def takeO (k : Int) : Option (List Int) → Option (List Int)
  | none => none
  | some xs => if k < 0 then some xs else if (xs.length : Int) < k then some xs else some (xs.take (xs.length - k.toNat))
def takeL (k : Int) : Option (List Int) → List Int
  | none => []
  | some xs => if k < 0 then [] else if (xs.length : Int) < k then [] else xs.drop (xs.length - k.toNat)
def popE : Option (List Int) → Int
  | none => 1
  | some xs => if xs = [] then 4 else 0
def popX : Option (List Int) → Int
  | none => 0
  | some xs => xs.getLast?.getD 0
def popO : Option (List Int) → Option (List Int)
  | none => none
  | some xs => some xs.dropLast
def lenO : Option (List Int) → Int
  | none => 0
  | some xs => xs.length
def allO : Option (List Int) → List Int
  | none => []
  | some xs => xs

/-- The stack at p now is o; of what was there, only its own blocks have turned. -/
def Turned (w : World) (T : TypeId) (p : Value) (most : Int) (o : Option (List Int)) (F : Nat → Prop) (w' : World) : Prop :=
  ∃ F', Pile w' T p most o F' ∧ Upto F w w' ∧ ∀ k, F' k → F k ∨ w.heap.size ≤ k
def Got (w : World) (T : TypeId) (p : Value) (most : Int) (o : Option (List Int)) (F : Nat → Prop) (c : Int) (l : List Int) (e : Ending) (w' : World) : Prop :=
  ∃ u F', e = .returned (.tuple #[u, .int .i64 c]) ∧ Row w' u l ∧ (∀ k, rowOf u k → w.heap.size ≤ k) ∧ Pile w' T p most o F' ∧ Upto F w w' ∧ (∀ k, F' k → F k ∨ w.heap.size ≤ k) ∧ ∀ k, F' k → ¬ rowOf u k
def Copied (w : World) (T : TypeId) (most : Int) (o : Option (List Int)) (e : Ending) (w' : World) : Prop :=
  ∃ p F, e = .returned p ∧ Pile w' T p most o F ∧ (∀ k, F k → w.heap.size ≤ k) ∧ Below w.heap.size w w' ∧ (p = .pointer none ↔ o = none)

theorem Upto.drewN_of {w w' : World} (S : Nat → Prop) {k : Nat} (h : w' = w.drewN k) : Upto S w w' := by subst h; exact (Upto.refl S w).drewN k
theorem Row.none (w : World) : Row w (.slice none 0 0) [] := World.ownsRow_nil w 0 _ 1
theorem rowOf_none {n c k : Nat} : ¬ rowOf (.slice none n c) k := fun h => by cases h

theorem Pile.bound {w : World} {T : TypeId} {p : Value} {most : Int} {xs : List Int} {F : Nat → Prop} (h : Pile w T p most (some xs) F) : xs.length ≤ 10000 := by
  obtain ⟨h1, h2, _⟩ := h
  omega

theorem Turned.same {w w' : World} {T : TypeId} {p : Value} {most : Int} {o : Option (List Int)} {F : Nat → Prop} (h : Pile w T p most o F) (hu : Upto (fun _ => False) w w') : Turned w T p most o F w' :=
  ⟨F, h.kept hu (fun _ _ => id), hu.mono (fun _ _ h => h.elim), fun _ h => Or.inl h⟩

/-- From what a walk says of one stack. -/
theorem Pile.now {w w' : World} {T b : Nat} {most : Int} {v : Value} {ys : List Int} {F : Nat → Prop} {v' : Value} (hF : ∀ k, F k → k < w.heap.size) (hb : F b) (hv : ∀ k, rowOf v k → F k) (hl : (ys.length : Int) ≤ most) (hm : most ≤ 10000)
    (hs : Stk w' T b most v' ys) (hu : Upto F w w') (hr : ∀ k, rowOf v' k → rowOf v k ∨ w.heap.size ≤ k) :
    Pile w' T (.pointer (some ⟨b, 0, none⟩)) most (some ys) (fun k => F k ∨ rowOf v' k) ∧ ∀ k, (F k ∨ rowOf v' k) → F k ∨ w.heap.size ≤ k := by
  refine ⟨⟨hl, hm, fun k hk => ?_, b, v', rfl, hs, Or.inl hb, fun k hk => Or.inr hk⟩, fun k hk => ?_⟩
  · rcases hk with hk | hk
    · exact Nat.lt_of_lt_of_le (hF k hk) hu.size
    · exact hs.2.1.lt k hk
  · rcases hk with hk | hk
    · exact Or.inl hk
    · exact (hr k hk).imp (hv k) id


/-! (*rewind/opstack.Stack) -/

theorem push_pile {w : World} {T : TypeId} {p : Value} {most : Int} {o : Option (List Int)} {F : Nat → Prop} (x : Int) (h : Pile w T p most o F) :
    Calls Try.prog 10 #[p, .int .i64 x] w fun e w' => e = .returned (.int .i64 (pushE most o)) ∧ Turned w T p most (pushO most x o) F w' := by
  cases o with
  | none =>
    obtain rfl := h
    refine (push_nil x w).mono ?_
    rintro e w' ⟨rfl, rfl⟩
    exact ⟨rfl, Turned.same rfl (Upto.refl _ _)⟩
  | some xs =>
    have hxs := h.bound
    obtain ⟨h1, h2, h3, b, v, rfl, h4, h5, h6⟩ := id h
    by_cases hm : (xs.length : Int) < most
    · refine (push_at x h4 hm (by omega)).mono ?_
      rintro e w' ⟨rfl, v', q1, q2, q3⟩
      simp only [pushE, pushO, if_pos hm]
      obtain ⟨r1, r2⟩ := Pile.now (ys := xs ++ [x]) h3 h5 h6 (by simp; omega) h2 q1 (q2.mono (fun k _ hk => hk.elim (fun e => e ▸ h5) (h6 k))) q3
      exact ⟨trivial, _, r1, q2.mono (fun k _ hk => hk.elim (fun e => e ▸ h5) (h6 k)), r2⟩
    · refine (push_full x h4 (by omega)).mono ?_
      rintro e w' ⟨rfl, k, rfl⟩
      simp only [pushE, pushO, if_neg hm]
      exact ⟨trivial, Turned.same h ((Upto.refl _ _).drewN k)⟩

theorem Got.common_s {w : World} {T b : Nat} {most : Int} {v : Value} {xs : List Int} {F : Nat → Prop} {r : Nat} {e : Ending} {w' : World} (h3 : ∀ k, F k → k < w.heap.size) (h5 : F b) (h6 : ∀ k, rowOf v k → F k) (hl : (xs.length : Int) ≤ most) (hm : most ≤ 10000)
    (h : TookC w T b most v xs r e w') : Got w T (.pointer (some ⟨b, 0, none⟩)) most (some (xs.take r)) F 0 (xs.drop r) e w' := by
  obtain ⟨u, v', rfl, q1, q2, q3, q4, q5, q6⟩ := h
  have hu : Upto F w w' := q4.mono (fun k _ e => e ▸ h5)
  obtain ⟨r1, r2⟩ := Pile.now (ys := xs.take r) h3 h5 h6 (by simp; omega) hm q3 hu q5
  refine ⟨u, _, rfl, q1, q2, r1, hu, r2, fun k hk hku => ?_⟩
  rcases hk with hk | hk
  · have := h3 k hk; have := q2 k hku; omega
  · exact q6 k hk hku

theorem take_pile {w : World} {T : TypeId} {p : Value} {most : Int} {o : Option (List Int)} {F : Nat → Prop} (k : Int) (h : Pile w T p most o F) :
    Calls Try.prog 12 #[p, .int .i64 k] w (Got w T p most (takeO k o) F (takeE k o) (takeL k o)) := by
  cases o with
  | none =>
    obtain rfl := h
    refine (take_nil k w).mono ?_
    rintro e w' ⟨rfl, rfl⟩
    exact ⟨_, F, rfl, Row.none _, fun _ h => (rowOf_none h).elim, rfl, Upto.refl _ _, fun _ h => Or.inl h, fun _ _ => rowOf_none⟩
  | some xs =>
    have hxs := h.bound
    obtain ⟨h1, h2, h3, b, v, rfl, h4, h5, h6⟩ := id h
    by_cases hk : k < 0
    · refine (take_neg b k w h4.c0 hk).mono ?_
      rintro e w' ⟨rfl, rfl⟩
      simp only [takeO, takeE, takeL, if_pos hk]
      exact ⟨_, F, rfl, Row.none _, fun _ h => (rowOf_none h).elim, h, Upto.refl _ _, fun _ h => Or.inl h, fun _ _ => rowOf_none⟩
    · by_cases hn : (xs.length : Int) < k
      · obtain ⟨ao, c, rfl, _⟩ := h4.2.1.slice
        refine (take_many' b k w ao xs.length c h4.c0 h4.c2 hn).mono ?_
        rintro e w' ⟨rfl, rfl⟩
        simp only [takeO, takeE, takeL, if_neg hk, if_pos hn]
        exact ⟨_, F, rfl, Row.none _, fun _ h => (rowOf_none h).elim, h, Upto.refl _ _, fun _ h => Or.inl h, fun _ _ => rowOf_none⟩
      · obtain ⟨m, rfl⟩ : ∃ m : Nat, k = m := ⟨k.toNat, by omega⟩
        refine (take_at_some m h4 (by omega) (by omega)).mono fun e w' h' => ?_
        simp only [takeO, takeE, takeL, if_neg hk, if_neg hn, Int.toNat_natCast]
        exact Got.common_s h3 h5 h6 h1 h2 h'

theorem pop_pile {w : World} {T : TypeId} {p : Value} {most : Int} {o : Option (List Int)} {F : Nat → Prop} (h : Pile w T p most o F) :
    Calls Try.prog 17 #[p] w fun e w' => e = .returned (.tuple #[.int .i64 (popX o), .int .i64 (popE o)]) ∧ Turned w T p most (popO o) F w' := by
  cases o with
  | none =>
    obtain rfl := h
    refine (pop_nil w).mono ?_
    rintro e w' ⟨rfl, rfl⟩
    exact ⟨rfl, Turned.same rfl (Upto.refl _ _)⟩
  | some xs =>
    have hxs := h.bound
    obtain ⟨h1, h2, h3, b, v, rfl, h4, h5, h6⟩ := id h
    rcases List.eq_nil_or_concat xs with rfl | ⟨ys, x, rfl⟩
    · refine (pop_none h4).mono ?_
      rintro e w' ⟨rfl, rfl⟩
      exact ⟨rfl, Turned.same h (Upto.refl _ _)⟩
    · simp only [List.concat_eq_append] at *
      refine (pop_some h4 (by simp at hxs; omega)).mono ?_
      rintro e w' ⟨rfl, v', q1, q2, q3⟩
      simp only [popX, popE, popO]
      have hu : Upto F w w' := q2.mono (fun k _ e => e ▸ h5)
      obtain ⟨r1, r2⟩ := Pile.now (ys := ys) h3 h5 h6 (by simp at h1; omega) h2 q1 hu q3
      exact ⟨by simp, _, by simpa using r1, hu, r2⟩

theorem len_pile {w : World} {T : TypeId} {p : Value} {most : Int} {o : Option (List Int)} {F : Nat → Prop} (h : Pile w T p most o F) :
    Calls Try.prog 14 #[p] w fun e w' => e = .returned (.int .i64 (lenO o)) ∧ w = w' := by
  cases o with
  | none => obtain rfl := h; exact len_nil w
  | some xs => obtain ⟨h1, h2, h3, b, v, rfl, h4, h5, h6⟩ := h; exact len_at h4

theorem all_pile {w : World} {T : TypeId} {p : Value} {most : Int} {o : Option (List Int)} {F : Nat → Prop} (h : Pile w T p most o F) :
    Calls Try.prog 11 #[p] w (Cloned w (allO o)) := by
  cases o with
  | none =>
    obtain rfl := h
    refine (all_nil w).mono ?_
    rintro e w' ⟨rfl, rfl⟩
    exact ⟨_, rfl, Row.none _, fun _ h => (rowOf_none h).elim, Below.refl _ _⟩
  | some xs =>
    have hxs := h.bound
    obtain ⟨h1, h2, h3, b, v, rfl, h4, h5, h6⟩ := h
    exact all_at (xs := xs) h4 (by omega)

theorem copy_pile {w : World} {p : Value} {most : Int} {o : Option (List Int)} {F : Nat → Prop} (h : Pile w 48 p most o F) :
    Calls Try.prog 20 #[p] w (Copied w 48 most o) := by
  cases o with
  | none =>
    obtain rfl := h
    refine (copy_nil w).mono ?_
    rintro e w' ⟨rfl, rfl⟩
    exact ⟨_, fun _ => False, rfl, rfl, fun _ h => h.elim, Below.refl _ _, by simp⟩
  | some xs =>
    have hxs := h.bound
    obtain ⟨h1, h2, h3, b, v, rfl, h4, h5, h6⟩ := h
    refine (copy_at h4 (by omega)).mono ?_
    rintro e w' ⟨b', v', rfl, q1, q2, q3, q4⟩
    refine ⟨_, fun k => k = b' ∨ rowOf v' k, rfl, ⟨h1, h2, fun k hk => ?_, b', v', rfl, q1, Or.inl rfl, fun _ h => Or.inr h⟩, fun k hk => ?_, q4, by simp⟩
    · rcases hk with rfl | hk
      · exact q1.lt
      · exact q1.2.1.lt k hk
    · rcases hk with rfl | hk
      · exact q2
      · exact q3 k hk

theorem new_pile (n : Int) (w : World) :
    Calls Try.prog 9 #[.int .i64 n] w fun e w' => ∃ p F, e = .returned (.tuple #[p, .int .i64 (if 0 ≤ n ∧ n ≤ 10000 then 0 else 2)]) ∧ Pile w' 48 p n (if 0 ≤ n ∧ n ≤ 10000 then some [] else none) F ∧
      (∀ k, F k → w.heap.size ≤ k) ∧ Below w.heap.size w w' := by
  by_cases h : 0 ≤ n ∧ n ≤ 10000
  · refine (new_ok n w h.1 h.2).mono ?_
    rintro e w' ⟨rfl, rfl⟩
    simp only [if_pos h]
    refine ⟨_, fun k => k = w.heap.size, rfl, ⟨by simpa using h.1, h.2, fun k hk => by subst hk; simp, w.heap.size, .slice none 0 0, rfl, Stk.made n _ (Row.none w), rfl, fun k hk => (rowOf_none hk).elim⟩, fun k hk => by omega, (Below.refl _ _).alloc (Nat.le_refl _) _⟩
  · refine (new_bad n w (by omega)).mono ?_
    rintro e w' ⟨rfl, rfl⟩
    simp only [if_neg h]
    exact ⟨_, fun _ => False, rfl, rfl, fun _ h => h.elim, Below.refl _ _⟩

/-! (*rewind/rewindref28.Stack) -/

theorem rpush_pile {w : World} {T : TypeId} {p : Value} {most : Int} {o : Option (List Int)} {F : Nat → Prop} (x : Int) (h : Pile w T p most o F) :
    Calls Try.prog 16 #[p, .int .i64 x] w fun e w' => e = .returned (.int .i64 (pushE most o)) ∧ Turned w T p most (pushO most x o) F w' := by
  cases o with
  | none =>
    obtain rfl := h
    refine (rpush_nil x w).mono ?_
    rintro e w' ⟨rfl, rfl⟩
    exact ⟨rfl, Turned.same rfl (Upto.refl _ _)⟩
  | some xs =>
    have hxs := h.bound
    obtain ⟨h1, h2, h3, b, v, rfl, h4, h5, h6⟩ := id h
    by_cases hm : (xs.length : Int) < most
    · refine (rpush_at x h4 hm (by omega)).mono ?_
      rintro e w' ⟨rfl, v', q1, q2, q3⟩
      simp only [pushE, pushO, if_pos hm]
      obtain ⟨r1, r2⟩ := Pile.now (ys := xs ++ [x]) h3 h5 h6 (by simp; omega) h2 q1 (q2.mono (fun k _ hk => hk.elim (fun e => e ▸ h5) (h6 k))) q3
      exact ⟨trivial, _, r1, q2.mono (fun k _ hk => hk.elim (fun e => e ▸ h5) (h6 k)), r2⟩
    · refine (rpush_full x h4 (by omega)).mono ?_
      rintro e w' ⟨rfl, k, rfl⟩
      simp only [pushE, pushO, if_neg hm]
      exact ⟨trivial, Turned.same h ((Upto.refl _ _).drewN k)⟩

theorem Got.common_r {w : World} {T b : Nat} {most : Int} {v : Value} {xs : List Int} {F : Nat → Prop} {r : Nat} {e : Ending} {w' : World} (h3 : ∀ k, F k → k < w.heap.size) (h5 : F b) (h6 : ∀ k, rowOf v k → F k) (hl : (xs.length : Int) ≤ most) (hm : most ≤ 10000)
    (h : TookC w T b most v xs r e w') : Got w T (.pointer (some ⟨b, 0, none⟩)) most (some (xs.take r)) F 0 (xs.drop r) e w' := by
  obtain ⟨u, v', rfl, q1, q2, q3, q4, q5, q6⟩ := h
  have hu : Upto F w w' := q4.mono (fun k _ e => e ▸ h5)
  obtain ⟨r1, r2⟩ := Pile.now (ys := xs.take r) h3 h5 h6 (by simp; omega) hm q3 hu q5
  refine ⟨u, _, rfl, q1, q2, r1, hu, r2, fun k hk hku => ?_⟩
  rcases hk with hk | hk
  · have := h3 k hk; have := q2 k hku; omega
  · exact q6 k hk hku

theorem rtake_pile {w : World} {T : TypeId} {p : Value} {most : Int} {o : Option (List Int)} {F : Nat → Prop} (k : Int) (h : Pile w T p most o F) :
    Calls Try.prog 19 #[p, .int .i64 k] w (Got w T p most (takeO k o) F (takeE k o) (takeL k o)) := by
  cases o with
  | none =>
    obtain rfl := h
    refine (rtake_nil k w).mono ?_
    rintro e w' ⟨rfl, rfl⟩
    exact ⟨_, F, rfl, Row.none _, fun _ h => (rowOf_none h).elim, rfl, Upto.refl _ _, fun _ h => Or.inl h, fun _ _ => rowOf_none⟩
  | some xs =>
    have hxs := h.bound
    obtain ⟨h1, h2, h3, b, v, rfl, h4, h5, h6⟩ := id h
    by_cases hk : k < 0
    · refine (rtake_neg b k w h4.c0 hk).mono ?_
      rintro e w' ⟨rfl, rfl⟩
      simp only [takeO, takeE, takeL, if_pos hk]
      exact ⟨_, F, rfl, Row.none _, fun _ h => (rowOf_none h).elim, h, Upto.refl _ _, fun _ h => Or.inl h, fun _ _ => rowOf_none⟩
    · by_cases hn : (xs.length : Int) < k
      · obtain ⟨ao, c, rfl, _⟩ := h4.2.1.slice
        refine (rtake_many' b k w ao xs.length c h4.c0 h4.c2 hn).mono ?_
        rintro e w' ⟨rfl, rfl⟩
        simp only [takeO, takeE, takeL, if_neg hk, if_pos hn]
        exact ⟨_, F, rfl, Row.none _, fun _ h => (rowOf_none h).elim, h, Upto.refl _ _, fun _ h => Or.inl h, fun _ _ => rowOf_none⟩
      · obtain ⟨m, rfl⟩ : ∃ m : Nat, k = m := ⟨k.toNat, by omega⟩
        refine (rtake_some m h4 (by omega) (by omega)).mono fun e w' h' => ?_
        simp only [takeO, takeE, takeL, if_neg hk, if_neg hn, Int.toNat_natCast]
        exact Got.common_r h3 h5 h6 h1 h2 h'

theorem rpop_pile {w : World} {T : TypeId} {p : Value} {most : Int} {o : Option (List Int)} {F : Nat → Prop} (h : Pile w T p most o F) :
    Calls Try.prog 18 #[p] w fun e w' => e = .returned (.tuple #[.int .i64 (popX o), .int .i64 (popE o)]) ∧ Turned w T p most (popO o) F w' := by
  cases o with
  | none =>
    obtain rfl := h
    refine (rpop_nil w).mono ?_
    rintro e w' ⟨rfl, rfl⟩
    exact ⟨rfl, Turned.same rfl (Upto.refl _ _)⟩
  | some xs =>
    have hxs := h.bound
    obtain ⟨h1, h2, h3, b, v, rfl, h4, h5, h6⟩ := id h
    rcases List.eq_nil_or_concat xs with rfl | ⟨ys, x, rfl⟩
    · refine (rpop_none h4).mono ?_
      rintro e w' ⟨rfl, rfl⟩
      exact ⟨rfl, Turned.same h (Upto.refl _ _)⟩
    · simp only [List.concat_eq_append] at *
      refine (rpop_some h4 (by simp at hxs; omega)).mono ?_
      rintro e w' ⟨rfl, v', q1, q2, q3⟩
      simp only [popX, popE, popO]
      have hu : Upto F w w' := q2.mono (fun k _ e => e ▸ h5)
      obtain ⟨r1, r2⟩ := Pile.now (ys := ys) h3 h5 h6 (by simp at h1; omega) h2 q1 hu q3
      exact ⟨by simp, _, by simpa using r1, hu, r2⟩

theorem rlen_pile {w : World} {T : TypeId} {p : Value} {most : Int} {o : Option (List Int)} {F : Nat → Prop} (h : Pile w T p most o F) :
    Calls Try.prog 22 #[p] w fun e w' => e = .returned (.int .i64 (lenO o)) ∧ w = w' := by
  cases o with
  | none => obtain rfl := h; exact rlen_nil w
  | some xs => obtain ⟨h1, h2, h3, b, v, rfl, h4, h5, h6⟩ := h; exact rlen_at h4

theorem rall_pile {w : World} {T : TypeId} {p : Value} {most : Int} {o : Option (List Int)} {F : Nat → Prop} (h : Pile w T p most o F) :
    Calls Try.prog 23 #[p] w (Cloned w (allO o)) := by
  cases o with
  | none =>
    obtain rfl := h
    refine (rall_nil w).mono ?_
    rintro e w' ⟨rfl, rfl⟩
    exact ⟨_, rfl, Row.none _, fun _ h => (rowOf_none h).elim, Below.refl _ _⟩
  | some xs =>
    have hxs := h.bound
    obtain ⟨h1, h2, h3, b, v, rfl, h4, h5, h6⟩ := h
    exact rall_at (xs := xs) h4 (by omega)

theorem rcopy_pile {w : World} {p : Value} {most : Int} {o : Option (List Int)} {F : Nat → Prop} (h : Pile w 54 p most o F) :
    Calls Try.prog 21 #[p] w (Copied w 54 most o) := by
  cases o with
  | none =>
    obtain rfl := h
    refine (rcopy_nil w).mono ?_
    rintro e w' ⟨rfl, rfl⟩
    exact ⟨_, fun _ => False, rfl, rfl, fun _ h => h.elim, Below.refl _ _, by simp⟩
  | some xs =>
    have hxs := h.bound
    obtain ⟨h1, h2, h3, b, v, rfl, h4, h5, h6⟩ := h
    refine (rcopy_at h4 (by omega)).mono ?_
    rintro e w' ⟨b', v', rfl, q1, q2, q3, q4⟩
    refine ⟨_, fun k => k = b' ∨ rowOf v' k, rfl, ⟨h1, h2, fun k hk => ?_, b', v', rfl, q1, Or.inl rfl, fun _ h => Or.inr h⟩, fun k hk => ?_, q4, by simp⟩
    · rcases hk with rfl | hk
      · exact q1.lt
      · exact q1.2.1.lt k hk
    · rcases hk with rfl | hk
      · exact q2
      · exact q3 k hk

theorem rnew_pile (n : Int) (w : World) :
    Calls Try.prog 15 #[.int .i64 n] w fun e w' => ∃ p F, e = .returned (.tuple #[p, .int .i64 (if 0 ≤ n ∧ n ≤ 10000 then 0 else 2)]) ∧ Pile w' 54 p n (if 0 ≤ n ∧ n ≤ 10000 then some [] else none) F ∧
      (∀ k, F k → w.heap.size ≤ k) ∧ Below w.heap.size w w' := by
  by_cases h : 0 ≤ n ∧ n ≤ 10000
  · refine (rnew_ok n w h.1 h.2).mono ?_
    rintro e w' ⟨rfl, rfl⟩
    simp only [if_pos h]
    refine ⟨_, fun k => k = w.heap.size, rfl, ⟨by simpa using h.1, h.2, fun k hk => by subst hk; simp, w.heap.size, .slice none 0 0, rfl, Stk.made n _ (Row.none w), rfl, fun k hk => (rowOf_none hk).elim⟩, fun k hk => by omega, (Below.refl _ _).alloc (Nat.le_refl _) _⟩
  · refine (rnew_bad n w (by omega)).mono ?_
    rintro e w' ⟨rfl, rfl⟩
    simp only [if_neg h]
    exact ⟨_, fun _ => False, rfl, rfl, fun _ h => h.elim, Below.refl _ _⟩

end Go.Proofs.Ytcajkgingenegaa
