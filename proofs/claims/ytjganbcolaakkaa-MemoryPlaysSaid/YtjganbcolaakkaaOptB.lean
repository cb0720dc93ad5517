/-
  Heaps that may be nil: New, Same, shapes; a slice of steps that came in.
-/
import Derived.Test.YtjganbcolaakkaaShows
import Derived.Test.YtjganbcolaakkaaSeen
namespace Go.Proofs.Ytjganbcolaakkaa
open Go.ChangeShapes Go.WideShapes Go.ChangeAt Go.RowKit

section
variable {w0 w : World} {p q p' q' : Value} {lim : Nat} {ls ls' : List (List Int)} {l l2 : List Thing}
theorem OH.shape (l1 : List Thing) (h : St w0 w (l1 ++ OH p lim ls :: l2)) : (ls = [] ∧ p = .pointer none) ∨ ∃ b, p = ptr b ∧ ls ≠ [] := by
  rcases St.opOpen l1 h with h | ⟨b, h1, h2, _⟩
  · exact Or.inl h
  · exact Or.inr ⟨b, h1, h2⟩
theorem OR.shape (l1 : List Thing) (h : St w0 w (l1 ++ OR p lim ls :: l2)) : (ls = [] ∧ p = .pointer none) ∨ ∃ b, p = ptr b ∧ ls ≠ [] := by
  rcases St.opOpen l1 h with h | ⟨b, h1, h2, _⟩
  · exact Or.inl h
  · exact Or.inr ⟨b, h1, h2⟩
theorem OH.reads (l1 : List Thing) (h : St w0 w (l1 ++ OH p lim ls :: l2)) (hne : ls ≠ []) : ∃ b, p = ptr b ∧ HReads w b lim ls := by
  rcases St.opOpen l1 h with ⟨h1, _⟩ | ⟨b, h1, h2, h3⟩
  · exact (hne h1).elim
  · exact ⟨b, h1, SH.is l1 h3⟩
theorem OR.reads (l1 : List Thing) (h : St w0 w (l1 ++ OR p lim ls :: l2)) (hne : ls ≠ []) : ∃ b, p = ptr b ∧ RReads w b lim ls ∧ tot ls ≤ 10000 := by
  rcases St.opOpen l1 h with ⟨h1, _⟩ | ⟨b, h1, h2, h3⟩
  · exact (hne h1).elim
  · obtain ⟨_, _, _, k1, k2, _⟩ := (h3.up l1).rOpen
    exact ⟨b, h1, SR.is l1 h3, by omega⟩
theorem OH.same [Goods l] (r : Bool) (h : St w0 w l) (h1 : ∃ b, p = ptr b ∧ HReads w b lim ls) (h2 : ∃ b, p' = ptr b ∧ HReads w b lim ls') (hf : ls.length ≤ 1000000) (hr : decide (ls = ls') = r) : Calls Try.prog 46 #[p, p'] w fun e w' =>
    e = .returned (.bool r) ∧ St w0 w' l := by
  obtain ⟨b, rfl, k1⟩ := h1
  obtain ⟨b', rfl, k2⟩ := h2
  exact SH.same r h k1 k2 hf hr
theorem OR.same [Goods l] (r : Bool) (h : St w0 w l) (h1 : ∃ b, q = ptr b ∧ RReads w b lim ls ∧ tot ls ≤ 10000) (h2 : ∃ b, q' = ptr b ∧ RReads w b lim ls' ∧ tot ls' ≤ 10000) (hf : ls.length ≤ 1000000) (hr : decide (ls = ls') = r) : Calls Try.prog 54 #[q, q'] w fun e w' =>
    e = .returned (.bool r) ∧ St w0 w' l := by
  obtain ⟨b, rfl, k1, k3⟩ := h1
  obtain ⟨b', rfl, k2, _⟩ := h2
  exact SR.same r h k1 k2 hf k3 (by simpa using hr)
theorem OH.new [Goods l] (n : Nat) (i : Int) (h : St w0 w l) (hi : i = n) (hn : n ≤ 10000) : Calls Try.prog 26 #[.int .i64 i] w fun e w' =>
    ∃ b, e = .returned (.tuple #[ptr b, .int .i64 0]) ∧ St w0 w' (OH (ptr b) n [[]] :: l) := by
  refine (SH.new n i h hi hn).mono ?_
  rintro e w' ⟨b, rfl, hS⟩
  exact ⟨b, rfl, St.opSome [] hS (by simp)⟩
theorem OR.new [Goods l] (n : Nat) (i : Int) (h : St w0 w l) (hi : i = n) (hn : n ≤ 10000) : Calls Try.prog 47 #[.int .i64 i] w fun e w' =>
    ∃ b, e = .returned (.tuple #[ptr b, .int .i64 0]) ∧ St w0 w' (OR (ptr b) n [[]] :: l) := by
  refine (SR.new n i h hi hn).mono ?_
  rintro e w' ⟨b, rfl, hS⟩
  exact ⟨b, rfl, St.opSome [] hS (by simp)⟩
theorem St.noneH (h : St w0 w l) : St w0 w (OH (.pointer none) lim [] :: l) := St.opNone h
theorem St.noneR (h : St w0 w l) : St w0 w (OR (.pointer none) lim [] :: l) := St.opNone h
theorem St.two {A B C D : Thing} (h : St w0 w [A, B, C, D]) : St w0 w [C, D, A, B] := h.perm (List.perm_append_comm (l₁ := [A, B]) (l₂ := [C, D]))
theorem allL_len {n : Int} : (allL lim ls n).length ≤ ls.length + 1 := by
  unfold allL
  split
  · simp
  · exact len_alloc.2
theorem allL_ne {n : Int} (h : ls ≠ []) : allL lim ls n ≠ [] := by
  unfold allL
  rw [if_neg h]
  exact allocL_ne h
end

/-- The steps that came in. -/
def StepsIn (w : World) (ao : Option Addr) (n : Nat) (z0 z1 z2 z3 : Nat → Int) : Prop := ∀ j, j < n → ∃ g o, ao = some ⟨g, o, none⟩ ∧ g < w.heap.size ∧
  w.cell? ⟨g, o + j * 4, none⟩ = some (.int .i64 (z0 j)) ∧ w.cell? ⟨g, o + j * 4 + 1, none⟩ = some (.int .i64 (z1 j)) ∧ w.cell? ⟨g, o + j * 4 + 2, none⟩ = some (.int .i64 (z2 j)) ∧ w.cell? ⟨g, o + j * 4 + 3, none⟩ = some (.int .i64 (z3 j))

set_option maxRecDepth 100000 in
theorem hsteps_seen {H : Type} {enc : TypeId × Value → H} {W : World} {r : Reach} {b0 : Nat} {v : Value} {d : DataW H} {ps : List MemPlace} (hval : Value.okWide Try.prog W r b0 78 v) (h : DataW.Trod enc Try.prog W 0 (fun _ => true) true 78 v d ps) :
    ∃ _ : Unit, FourSeen W v .i64 .i64 .i64 .i64 ∧ True :=
  ⟨(), four_seen Try.underlying78 Try.underlying82 (by kernel_rfl) Try.underlying3 Try.underlying2 Try.underlying2 Try.underlying2 (by kernel_rfl) (by kernel_rfl) (by kernel_rfl) (by kernel_rfl) rfl rfl rfl rfl hval h, trivial⟩

end Go.Proofs.Ytjganbcolaakkaa
