/-
  What the operations of heaps and memories answer, as functions of the list of arrays; one contract for each operation, without conditions.
-/
import Derived.Test.YtjganbcolaakkaaEqF
import Derived.Test.YtjganbcolaakkaaMemE
namespace Go.Proofs.Ytjganbcolaakkaa
open Go.RowKit

/-! the row and the spans of a list of arrays -/
def spn : Nat → List (List Int) → List (Nat × Nat)
  | _, [] => []
  | o, l :: ls => (o, l.length) :: spn (o + l.length) ls
theorem spn_length : ∀ (ls : List (List Int)) (o : Nat), (spn o ls).length = ls.length
  | [], _ => rfl
  | l :: ls, o => by simp [spn, spn_length ls]
theorem tot_cons (l : List Int) (ls : List (List Int)) : tot (l :: ls) = l.length + tot ls := by simp [tot]
theorem spn_get : ∀ (ls : List (List Int)) (o j : Nat), j < ls.length → (spn o ls)[j]?.getD (0, 0) = (o + tot (ls.take j), (ls[j]?.getD []).length)
  | [], _, _, h => by simp at h
  | l :: ls, o, 0, _ => by simp [spn, tot]
  | l :: ls, o, j + 1, h => by
    have := spn_get ls (o + l.length) j (by simpa using h)
    simp only [spn, List.getElem?_cons_succ, List.take_succ_cons, tot_cons, this]
    rw [Nat.add_assoc]
theorem spn_snoc (a : List Int) : ∀ (ls : List (List Int)) (o : Nat), spn o (ls ++ [a]) = spn o ls ++ [(o + tot ls, a.length)]
  | [], o => by simp [spn, tot]
  | l :: ls, o => by simp [spn, spn_snoc a ls, tot_cons, Nat.add_assoc]
theorem spn_set (x : List Int) : ∀ (ls : List (List Int)) (o j : Nat), x.length = (ls.getD j []).length → spn o (ls.set j x) = spn o ls
  | [], _, _, _ => by simp
  | l :: ls, o, 0, h => by
    have h : x.length = l.length := by simpa [List.getD] using h
    simp [spn, h]
  | l :: ls, o, j + 1, h => by
    have := spn_set x ls (o + l.length) j (by simpa [List.getD] using h)
    simp [spn, this]
theorem flat_length : ∀ (ls : List (List Int)), ls.flatten.length = tot ls
  | [] => rfl
  | l :: ls => by simp [tot_cons, flat_length ls]
theorem flat_get : ∀ (ls : List (List Int)) (j k : Nat), j < ls.length → k < (ls[j]?.getD []).length → ls.flatten[tot (ls.take j) + k]? = (ls[j]?.getD [])[k]?
  | [], _, _, h, _ => by simp at h
  | l :: ls, 0, k, _, hk => by
    have hk : k < l.length := by simpa using hk
    simp only [List.take_zero, List.flatten_cons, List.getElem?_cons_zero, Option.getD_some]
    rw [show tot [] + k = k from by simp [tot], List.getElem?_append_left hk]
  | l :: ls, j + 1, k, h, hk => by
    have := flat_get ls j k (by simpa using h) (by simpa using hk)
    simp only [List.take_succ_cons, tot_cons, List.flatten_cons, List.getElem?_cons_succ]
    rw [Nat.add_assoc, List.getElem?_append_right (Nat.le_add_right _ _), Nat.add_sub_cancel_left, this]
theorem flat_set (z : Int) : ∀ (ls : List (List Int)) (j k : Nat), j < ls.length → k < (ls[j]?.getD []).length → ls.flatten.set (tot (ls.take j) + k) z = (ls.set j ((ls[j]?.getD []).set k z)).flatten
  | [], _, _, h, _ => by simp at h
  | l :: ls, 0, k, _, hk => by
    have hk : k < l.length := by simpa using hk
    simp only [List.take_zero, List.flatten_cons, List.getElem?_cons_zero, Option.getD_some, List.set_cons_zero]
    rw [show tot [] + k = k from by simp [tot], List.set_append_left _ _ hk]
  | l :: ls, j + 1, k, h, hk => by
    have := flat_set z ls j k (by simpa using h) (by simpa using hk)
    simp only [List.take_succ_cons, tot_cons, List.flatten_cons, List.getElem?_cons_succ, List.set_cons_succ]
    rw [Nat.add_assoc, List.set_append_right _ _ (Nat.le_add_right _ _), Nat.add_sub_cancel_left, this]
theorem take_tot_le (ls : List (List Int)) (j : Nat) (hj : j < ls.length) : tot (ls.take j) + (ls.getD j []).length ≤ tot ls := by
  have q1 : ls = ls.take j ++ ls.getD j [] :: ls.drop (j + 1) := by simp [List.getD, hj]
  have : tot ls = tot (ls.take j ++ ls.getD j [] :: ls.drop (j + 1)) := by rw [← q1]
  rw [this, tot_mid]
  omega

/-! what the operations answer -/
def badN (lim : Nat) (ls : List (List Int)) (n : Int) : Prop := n < 0 ∨ (lim : Int) - tot ls < n
instance (lim : Nat) (ls : List (List Int)) (n : Int) : Decidable (badN lim ls n) := by unfold badN; exact inferInstance
def allocH (lim : Nat) (ls : List (List Int)) (n : Int) : Int := if badN lim ls n then 0 else ls.length
def allocT (lim : Nat) (ls : List (List Int)) (n : Int) : Int := if badN lim ls n then 5 else 0
def allocL (lim : Nat) (ls : List (List Int)) (n : Int) : List (List Int) := if badN lim ls n then ls else ls ++ [List.replicate n.toNat 0]
def outH (ls : List (List Int)) (i : Int) : Prop := i < 0 ∨ (ls.length : Int) ≤ i
instance (ls : List (List Int)) (i : Int) : Decidable (outH ls i) := by unfold outH; exact inferInstance
def arrL (ls : List (List Int)) (i : Int) : List Int := if outH ls i then [] else ls.getD i.toNat []
def arrE (ls : List (List Int)) (i : Int) : Int := if outH ls i then 3 else 0
def lenX (ls : List (List Int)) (i : Int) : Int := (arrL ls i).length
def outK (ls : List (List Int)) (i k : Int) : Prop := k < 0 ∨ ((arrL ls i).length : Int) ≤ k
instance (ls : List (List Int)) (i k : Int) : Decidable (outK ls i k) := by unfold outK; exact inferInstance
def getT (ls : List (List Int)) (i k : Int) : Int := if outH ls i then 0 else if outK ls i k then 2 else 0
def getX (ls : List (List Int)) (i k : Int) : Int := if outH ls i then 0 else if outK ls i k then 0 else (arrL ls i).getD k.toNat 0
def setL (ls : List (List Int)) (i k z : Int) : List (List Int) := if outH ls i then ls else if outK ls i k then ls else ls.set i.toNat ((ls.getD i.toNat []).set k.toNat z)
def spanF (ls : List (List Int)) (i : Int) : Int := if outH ls i then 0 else tot (ls.take i.toNat)

theorem notOut {ls : List (List Int)} {i : Int} (h : ¬ outH ls i) : i = (i.toNat : Int) ∧ i.toNat < ls.length := by unfold outH at h; omega
theorem arrL_in {ls : List (List Int)} {i : Int} (h : ¬ outH ls i) : arrL ls i = ls.getD i.toNat [] := by unfold arrL; rw [if_neg h]
theorem notOutK {ls : List (List Int)} {i k : Int} (h : ¬ outH ls i) (hk : ¬ outK ls i k) : k = (k.toNat : Int) ∧ k.toNat < (ls.getD i.toNat []).length := by
  unfold outK at hk
  rw [arrL_in h] at hk
  omega
theorem isOutK {ls : List (List Int)} {i k : Int} (h : ¬ outH ls i) (hk : outK ls i k) : k < 0 ∨ ((ls.getD i.toNat []).length : Int) ≤ k := by
  unfold outK at hk
  rwa [arrL_in h] at hk
theorem tot_alloc {lim : Nat} {ls : List (List Int)} {n : Int} (h : tot ls ≤ lim) : tot (allocL lim ls n) ≤ lim := by
  unfold allocL
  split
  · exact h
  · rename_i hb
    unfold badN at hb
    rw [tot_snoc, List.length_replicate]
    omega
theorem len_alloc {lim : Nat} {ls : List (List Int)} {n : Int} : ls.length ≤ (allocL lim ls n).length ∧ (allocL lim ls n).length ≤ ls.length + 1 := by
  unfold allocL
  split <;> simp
theorem len_set {ls : List (List Int)} {i k z : Int} : (setL ls i k z).length = ls.length := by
  unfold setL
  split
  · rfl
  · split <;> simp

section
variable {w0 w : World} {b lim : Nat} {ls : List (List Int)} {l2 : List Thing} [Goods l2]
theorem SH.allocR (l1 : List Thing) [Goods l1] (n : Int) (h : St w0 w (l1 ++ HT b lim ls :: l2)) (hf : ls.length ≤ 1000000) : Calls Try.prog 27 #[ptr b, .int .i64 n] w fun e w' =>
    e = .returned (.tuple #[.int .i64 (allocH lim ls n), .int .i64 (allocT lim ls n), .int .i64 0]) ∧ St w0 w' (l1 ++ HT b lim (allocL lim ls n) :: l2) := by
  unfold allocH allocT allocL
  by_cases hb : badN lim ls n
  · simp only [if_pos hb]
    exact SH.allocTrap l1 n h hb
  · simp only [if_neg hb]
    unfold badN at hb
    exact SH.alloc l1 n.toNat n _ h (by omega) (by omega) hf rfl
theorem SH.lenR (l1 : List Thing) [Goods l1] (i : Int) (h : St w0 w (l1 ++ HT b lim ls :: l2)) : Calls Try.prog 34 #[ptr b, .int .i64 i] w fun e w' =>
    e = .returned (.tuple #[.int .i64 (lenX ls i), .int .i64 (arrE ls i)]) ∧ St w0 w' (l1 ++ HT b lim ls :: l2) := by
  unfold lenX arrE
  by_cases ho : outH ls i
  · simp only [arrL, if_pos ho]
    exact SH.lenOut l1 i h ho
  · rw [arrL_in ho, if_neg ho]
    exact SH.len l1 i.toNat i _ h (notOut ho).1 (notOut ho).2 rfl
theorem SH.arrayR (l1 : List Thing) [Goods l1] (i : Int) (h : St w0 w (l1 ++ HT b lim ls :: l2)) : Calls Try.prog 33 #[ptr b, .int .i64 i] w fun e w' =>
    ∃ u, e = .returned (.tuple #[u, .int .i64 (arrE ls i)]) ∧ St w0 w' (RowT u (arrL ls i) :: (l1 ++ HT b lim ls :: l2)) := by
  unfold arrE
  by_cases ho : outH ls i
  · simp only [arrL, if_pos ho]
    exact SH.arrayOut l1 i h ho
  · rw [arrL_in ho, if_neg ho]
    exact SH.array l1 i.toNat i _ h (notOut ho).1 (notOut ho).2 rfl
theorem SH.getR (l1 : List Thing) [Goods l1] (i k : Int) (h : St w0 w (l1 ++ HT b lim ls :: l2)) : Calls Try.prog 35 #[ptr b, .int .i64 i, .int .i64 k] w fun e w' =>
    e = .returned (.tuple #[.int .i64 (getX ls i k), .int .i64 (getT ls i k), .int .i64 (arrE ls i)]) ∧ St w0 w' (l1 ++ HT b lim ls :: l2) := by
  unfold getX getT arrE
  by_cases ho : outH ls i
  · simp only [if_pos ho]
    exact SH.getOut l1 i k h ho
  · simp only [if_neg ho]
    by_cases hk : outK ls i k
    · simp only [if_pos hk]
      exact SH.getTrap l1 i.toNat i k h (notOut ho).1 (notOut ho).2 (isOutK ho hk)
    · simp only [if_neg hk]
      rw [arrL_in ho]
      exact SH.get l1 i.toNat k.toNat i k _ h (notOut ho).1 (notOutK ho hk).1 (notOut ho).2 (notOutK ho hk).2 rfl
theorem SH.setR (l1 : List Thing) [Goods l1] (i k z : Int) (h : St w0 w (l1 ++ HT b lim ls :: l2)) : Calls Try.prog 32 #[ptr b, .int .i64 i, .int .i64 k, .int .i64 z] w fun e w' =>
    e = .returned (.tuple #[.int .i64 (getT ls i k), .int .i64 (arrE ls i)]) ∧ St w0 w' (l1 ++ HT b lim (setL ls i k z) :: l2) := by
  unfold getT arrE setL
  by_cases ho : outH ls i
  · simp only [if_pos ho]
    exact SH.setOut l1 i k z h ho
  · simp only [if_neg ho]
    by_cases hk : outK ls i k
    · simp only [if_pos hk]
      exact SH.setTrap l1 i.toNat i k z h (notOut ho).1 (notOut ho).2 (isOutK ho hk)
    · simp only [if_neg hk]
      exact SH.set l1 i.toNat k.toNat i k z _ h (notOut ho).1 (notOutK ho hk).1 (notOut ho).2 (notOutK ho hk).2 rfl
end

/-- A memory that bears a list of arrays. -/
def ML (b lim : Nat) (ls : List (List Int)) : Thing := MT b lim ls.flatten (spn 0 ls)
instance (b lim : Nat) (ls : List (List Int)) : Good (ML b lim ls) := (inferInstance : Good (MT b lim ls.flatten (spn 0 ls)))
theorem spn_at {ls : List (List Int)} {j : Nat} (hj : j < ls.length) : (spn 0 ls).getD j (0, 0) = (tot (ls.take j), (ls.getD j []).length) := by
  have := spn_get ls 0 j hj
  simpa [List.getD] using this

section
variable {w0 w : World} {b lim : Nat} {ls : List (List Int)} {l2 : List Thing} [Goods l2]
theorem SL.allocR (l1 : List Thing) [Goods l1] (n : Int) (h : St w0 w (l1 ++ ML b lim ls :: l2)) (hf : ls.length ≤ 1000000) : Calls Try.prog 16 #[ptr b, .int .i64 n] w fun e w' =>
    e = .returned (.tuple #[.int .i64 (allocH lim ls n), .int .i64 (allocT lim ls n), .int .i64 0]) ∧ St w0 w' (l1 ++ ML b lim (allocL lim ls n) :: l2) := by
  unfold allocH allocT allocL
  by_cases hb : badN lim ls n
  · simp only [if_pos hb]
    exact SM.allocTrap l1 n h (by rw [flat_length]; exact hb)
  · simp only [if_neg hb]
    unfold badN at hb
    have := SM.alloc l1 n.toNat n ls.length h (by omega) (by rw [flat_length]; omega) (by rw [spn_length]; exact hf) (by rw [spn_length])
    have e1 : ls.flatten ++ List.replicate n.toNat 0 = (ls ++ [List.replicate n.toNat 0]).flatten := by simp
    have e2 : spn 0 ls ++ [(ls.flatten.length, n.toNat)] = spn 0 (ls ++ [List.replicate n.toNat 0]) := by rw [spn_snoc, flat_length]; simp
    rw [e1, e2] at this
    exact this
theorem SL.lenR (l1 : List Thing) [Goods l1] (i : Int) (h : St w0 w (l1 ++ ML b lim ls :: l2)) : Calls Try.prog 24 #[ptr b, .int .i64 i] w fun e w' =>
    e = .returned (.tuple #[.int .i64 (lenX ls i), .int .i64 (arrE ls i)]) ∧ St w0 w' (l1 ++ ML b lim ls :: l2) := by
  unfold lenX arrE
  by_cases ho : outH ls i
  · simp only [arrL, if_pos ho]
    exact SM.lenOut l1 i h (by rw [spn_length]; exact ho)
  · rw [arrL_in ho, if_neg ho]
    exact SM.len l1 i.toNat i _ h (notOut ho).1 (by rw [spn_length]; exact (notOut ho).2) (by rw [spn_at (notOut ho).2])
theorem SL.spanR (l1 : List Thing) [Goods l1] (i : Int) (h : St w0 w (l1 ++ ML b lim ls :: l2)) : Calls Try.prog 17 #[ptr b, .int .i64 i] w fun e w' =>
    e = .returned (.tuple #[.int .i64 (spanF ls i), .int .i64 (lenX ls i), .int .i64 (arrE ls i)]) ∧ St w0 w' (l1 ++ ML b lim ls :: l2) := by
  unfold lenX arrE spanF
  by_cases ho : outH ls i
  · simp only [arrL, if_pos ho]
    exact (SM.spanOut l1 i h (by rw [spn_length]; exact ho)).mono fun _ _ ⟨h1, h2⟩ => ⟨h1, h2 ▸ h⟩
  · rw [arrL_in ho, if_neg ho, if_neg ho]
    exact SM.span l1 i.toNat i _ _ h (notOut ho).1 (by rw [spn_length]; exact (notOut ho).2) (by rw [spn_at (notOut ho).2]) (by rw [spn_at (notOut ho).2])
theorem SL.loadR (l1 : List Thing) [Goods l1] (i k : Int) (h : St w0 w (l1 ++ ML b lim ls :: l2)) : Calls Try.prog 22 #[ptr b, .int .i64 i, .int .i64 k] w fun e w' =>
    e = .returned (.tuple #[.int .i64 (getX ls i k), .int .i64 (getT ls i k), .int .i64 (arrE ls i)]) ∧ St w0 w' (l1 ++ ML b lim ls :: l2) := by
  unfold getX getT arrE
  by_cases ho : outH ls i
  · simp only [if_pos ho]
    exact SM.loadOut l1 i k h (by rw [spn_length]; exact ho)
  · simp only [if_neg ho]
    by_cases hk : outK ls i k
    · simp only [if_pos hk]
      exact SM.loadTrap l1 i.toNat i k h (notOut ho).1 (by rw [spn_length]; exact (notOut ho).2) (by rw [spn_at (notOut ho).2]; exact isOutK ho hk)
    · simp only [if_neg hk]
      rw [arrL_in ho]
      refine SM.load l1 i.toNat k.toNat i k _ h (notOut ho).1 (notOutK ho hk).1 (by rw [spn_length]; exact (notOut ho).2) (by rw [spn_at (notOut ho).2]; exact (notOutK ho hk).2) ?_
      rw [spn_at (notOut ho).2]
      have := flat_get ls i.toNat k.toNat (notOut ho).2 (notOutK ho hk).2
      simp only [List.getD]
      rw [this]
theorem SL.storeR (l1 : List Thing) [Goods l1] (i k z : Int) (h : St w0 w (l1 ++ ML b lim ls :: l2)) : Calls Try.prog 23 #[ptr b, .int .i64 i, .int .i64 k, .int .i64 z] w fun e w' =>
    e = .returned (.tuple #[.int .i64 (getT ls i k), .int .i64 (arrE ls i)]) ∧ St w0 w' (l1 ++ ML b lim (setL ls i k z) :: l2) := by
  unfold getT arrE setL
  by_cases ho : outH ls i
  · simp only [if_pos ho]
    exact SM.storeOut l1 i k z h (by rw [spn_length]; exact ho)
  · simp only [if_neg ho]
    by_cases hk : outK ls i k
    · simp only [if_pos hk]
      exact SM.storeTrap l1 i.toNat i k z h (notOut ho).1 (by rw [spn_length]; exact (notOut ho).2) (by rw [spn_at (notOut ho).2]; exact isOutK ho hk)
    · simp only [if_neg hk]
      have := SM.store l1 i.toNat k.toNat i k z _ h (notOut ho).1 (notOutK ho hk).1 (by rw [spn_length]; exact (notOut ho).2) (by rw [spn_at (notOut ho).2]; exact (notOutK ho hk).2) rfl
      rw [spn_at (notOut ho).2] at this
      have e1 := flat_set z ls i.toNat k.toNat (notOut ho).2 (notOutK ho hk).2
      have e2 := spn_set ((ls.getD i.toNat []).set k.toNat z) ls 0 i.toNat (by simp)
      unfold ML
      rw [e2]
      rw [show (ls.set i.toNat ((ls.getD i.toNat []).set k.toNat z)).flatten = ls.flatten.set (tot (ls.take i.toNat) + k.toNat) z from e1.symm]
      exact this
theorem SL.cellsR (l1 : List Thing) [Goods l1] (h : St w0 w (l1 ++ ML b lim ls :: l2)) : Calls Try.prog 18 #[ptr b] w fun e w' =>
    ∃ u, e = .returned u ∧ St w0 w' (RowT u ls.flatten :: (l1 ++ ML b lim ls :: l2)) := SM.cells l1 h
theorem SL.copyR (l1 : List Thing) [Goods l1] (h : St w0 w (l1 ++ ML b lim ls :: l2)) : Calls Try.prog 21 #[ptr b] w fun e w' =>
    ∃ d, e = .returned (ptr d) ∧ St w0 w' (ML d lim ls :: (l1 ++ ML b lim ls :: l2)) := SM.copy l1 h
end
section
variable {w0 w : World} {b lim : Nat} {ls : List (List Int)} {l2 : List Thing}
theorem SL.count (l1 : List Thing) (n : Int) (h : St w0 w (l1 ++ ML b lim ls :: l2)) (hn : (ls.length : Int) - 1 = n) : Calls Try.prog 19 #[ptr b] w fun e w' => e = .returned (.int .i64 n) ∧ w = w' := SM.count l1 n h (by rw [spn_length]; exact hn)
theorem SL.limit (l1 : List Thing) (n : Int) (h : St w0 w (l1 ++ ML b lim ls :: l2)) (hn : (lim : Int) = n) : Calls Try.prog 44 #[ptr b] w fun e w' => e = .returned (.int .i64 n) ∧ w = w' := SM.limit l1 n h hn
end
theorem SL.new {w0 w : World} {l : List Thing} [Goods l] (n : Nat) (i : Int) (h : St w0 w l) (hi : i = n) (hn : n ≤ 10000) : Calls Try.prog 15 #[.int .i64 i] w fun e w' =>
    ∃ b, e = .returned (.tuple #[ptr b, .int .i64 0]) ∧ St w0 w' (ML b n [[]] :: l) := SM.new n i h hi hn

end Go.Proofs.Ytjganbcolaakkaa
