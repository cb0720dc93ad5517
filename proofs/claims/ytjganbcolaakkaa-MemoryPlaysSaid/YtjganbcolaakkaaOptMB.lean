/-
  Memories that may be nil: New, Same, shapes; a slice of steps that came in.
-/
import Derived.Test.YtjganbcolaakkaaShowsM
import Derived.Test.YtjganbcolaakkaaSeen
namespace Go.Proofs.Ytjganbcolaakkaa
open Go.ChangeShapes Go.WideShapes Go.ChangeAt Go.RowKit

section
variable {w0 w : World} {p q p' q' : Value} {lim : Nat} {ls ls' : List (List Int)} {l l2 : List Thing}
theorem OM.shape (l1 : List Thing) (h : St w0 w (l1 ++ OM p lim ls :: l2)) : (ls = [] ∧ p = .pointer none) ∨ ∃ b, p = ptr b ∧ ls ≠ [] := by
  rcases St.opOpen l1 h with h | ⟨b, h1, h2, _⟩
  · exact Or.inl h
  · exact Or.inr ⟨b, h1, h2⟩
theorem OM.reads (l1 : List Thing) (h : St w0 w (l1 ++ OM p lim ls :: l2)) (hne : ls ≠ []) : ∃ b, p = ptr b ∧ ∃ F, MPile w b lim ls.flatten (spn 0 ls) F := by
  rcases St.opOpen l1 h with ⟨h1, _⟩ | ⟨b, h1, h2, h3⟩
  · exact (hne h1).elim
  · obtain ⟨F, hA, _⟩ := h3.get l1
    exact ⟨b, h1, F, hA⟩
theorem OM.same [Goods l] (r : Bool) (h : St w0 w l) (h1 : ∃ b, p = ptr b ∧ ∃ F, MPile w b lim ls.flatten (spn 0 ls) F) (h2 : ∃ b, p' = ptr b ∧ ∃ F, MPile w b lim ls'.flatten (spn 0 ls') F) (hr : decide (ls = ls') = r) : Calls Try.prog 25 #[p, p'] w fun e w' =>
    e = .returned (.bool r) ∧ St w0 w' l := by
  obtain ⟨b, rfl, k1⟩ := h1
  obtain ⟨b', rfl, k2⟩ := h2
  exact SM.same r h k1 k2 (by rw [same_spn]; exact hr)
theorem ON.same {A B : Thing} [Good A] [Good B] (r : Bool) (h : St w0 w [A, ON q lim ls, B, ON q' lim ls']) (hn1 : ls ≠ []) (hn2 : ls' ≠ []) (hf : ls.length ≤ 1000) (hr : decide (ls = ls') = r) : Calls Try.prog 43 #[q, q'] w fun e w' =>
    e = .returned (.bool r) ∧ St w0 w' [A, ON q lim ls, B, ON q' lim ls'] := by
  rcases St.opOpen [A] h with ⟨h1, _⟩ | ⟨b, rfl, _, k⟩
  · exact (hn1 h1).elim
  · rcases St.opOpen [A, RM b lim ls, B] k with ⟨h1, _⟩ | ⟨b', rfl, _, k2⟩
    · exact (hn2 h1).elim
    · have k3 : St w0 w [RM b lim ls, RM b' lim ls', A, B] := St.up [RM b' lim ls', A] (A := RM b lim ls) (l2 := [B]) (St.up [A, RM b lim ls, B] (A := RM b' lim ls') (l2 := []) k2)
      refine (SN.same_raw k3 hf).mono ?_
      rintro e w' ⟨rfl, hu⟩
      exact ⟨by rw [hr], h.step hu⟩
theorem OM.new [Goods l] (n : Nat) (i : Int) (h : St w0 w l) (hi : i = n) (hn : n ≤ 10000) : Calls Try.prog 15 #[.int .i64 i] w fun e w' =>
    ∃ b, e = .returned (.tuple #[ptr b, .int .i64 0]) ∧ St w0 w' (OM (ptr b) n [[]] :: l) := by
  refine (SL.new n i h hi hn).mono ?_
  rintro e w' ⟨b, rfl, hS⟩
  exact ⟨b, rfl, St.opSome [] hS (by simp)⟩
theorem ON.new [Goods l] (n : Nat) (i : Int) (h : St w0 w l) (hi : i = n) (hn : n ≤ 10000) : Calls Try.prog 37 #[.int .i64 i] w fun e w' =>
    ∃ b, e = .returned (.tuple #[ptr b, .int .i64 0]) ∧ St w0 w' (ON (ptr b) n [[]] :: l) := by
  refine (SN.new n i h hi hn).mono ?_
  rintro e w' ⟨b, rfl, hS⟩
  exact ⟨b, rfl, St.opSome [] hS (by simp)⟩
theorem St.noneM (h : St w0 w l) : St w0 w (OM (.pointer none) lim [] :: l) := St.opNone h
theorem St.noneN (h : St w0 w l) : St w0 w (ON (.pointer none) lim [] :: l) := St.opNone h
theorem allL_head {n : Int} (h : ls.getD 0 [] = []) : (allL lim ls n).getD 0 [] = [] := by
  unfold allL
  split
  · rfl
  · rename_i hne
    unfold allocL
    split
    · exact h
    · have : 0 < ls.length := by
        have : ls.length ≠ 0 := fun e => hne (List.length_eq_zero_iff.1 e)
        omega
      rw [List.getD, List.getElem?_append_left this]
      exact h
theorem setL_head {i k z : Int} (h : ls.getD 0 [] = []) : (setL ls i k z).getD 0 [] = [] := by
  unfold setL
  split
  · exact h
  · rename_i ho
    split
    · exact h
    · rename_i hk
      by_cases hi : i.toNat = 0
      · have := notOutK ho hk
        rw [hi, h] at this
        simp at this
      · rw [List.getD, List.getElem?_set_ne (by omega)]
        exact h
end

set_option maxRecDepth 100000 in
theorem msteps_seen {H : Type} {enc : TypeId × Value → H} {W : World} {r : Reach} {b0 : Nat} {v : Value} {d : DataW H} {ps : List MemPlace} (hval : Value.okWide Try.prog W r b0 60 v) (h : DataW.Trod enc Try.prog W 0 (fun _ => true) true 60 v d ps) :
    ∃ _ : Unit, FourSeen W v .i64 .i64 .i64 .i64 ∧ True :=
  ⟨(), four_seen Try.underlying60 Try.underlying65 (by kernel_rfl) Try.underlying3 Try.underlying2 Try.underlying2 Try.underlying2 (by kernel_rfl) (by kernel_rfl) (by kernel_rfl) (by kernel_rfl) rfl rfl rfl rfl hval h, trivial⟩

end Go.Proofs.Ytjganbcolaakkaa
