/-
  Memories that may be nil (then no arrays are there), of the program and of the document.
-/
import Derived.Test.YtjganbcolaakkaaRMemD
import Derived.Test.YtjganbcolaakkaaMNil
namespace Go.Proofs.Ytjganbcolaakkaa
open Go.RowKit

def OM (p : Value) (lim : Nat) (ls : List (List Int)) : Thing := OpT (fun b => ML b lim ls) p ls
def ON (p : Value) (lim : Nat) (ls : List (List Int)) : Thing := OpT (fun b => RM b lim ls) p ls
instance (p : Value) (lim : Nat) (ls : List (List Int)) : Good (OM p lim ls) := (inferInstance : Good (OpT (fun b => ML b lim ls) p ls))
instance (p : Value) (lim : Nat) (ls : List (List Int)) : Good (ON p lim ls) := (inferInstance : Good (OpT (fun b => RM b lim ls) p ls))
theorem spanF_nil (i : Int) : spanF [] i = 0 := by unfold spanF; rw [if_pos (outH_nil i)]
theorem spn_flat : ∀ (ls ls' : List (List Int)) (o : Nat), spn o ls = spn o ls' → ls.flatten = ls'.flatten → ls = ls'
  | [], [], _, _, _ => rfl
  | [], _ :: _, _, h, _ => by simp [spn] at h
  | _ :: _, [], _, h, _ => by simp [spn] at h
  | a :: ls, a' :: ls', o, h, hf => by
    simp only [spn, List.cons.injEq, Prod.mk.injEq, true_and] at h
    obtain ⟨h1, h2⟩ := h
    simp only [List.flatten_cons] at hf
    have h3 := List.append_inj hf h1
    rw [h1] at h2
    rw [h3.1, spn_flat ls ls' _ h2 h3.2]
theorem same_spn (ls ls' : List (List Int)) : (decide (ls.flatten = ls'.flatten) && decide (spn 0 ls = spn 0 ls')) = decide (ls = ls') := by
  by_cases h : ls = ls'
  · subst h; simp
  · rw [decide_eq_false h]
    by_cases h1 : ls.flatten = ls'.flatten
    · by_cases h2 : spn 0 ls = spn 0 ls'
      · exact (h (spn_flat _ _ _ h2 h1)).elim
      · rw [decide_eq_false h2, Bool.and_false]
    · rw [decide_eq_false h1, Bool.false_and]
theorem RM.room {w0 w : World} {b lim : Nat} {ls : List (List Int)} {l : List Thing} (h : St w0 w (RM b lim ls :: l)) : 0 < ls.length ∧ tot ls ≤ 10000 := by
  obtain ⟨k, h1⟩ := h.rmOpen
  obtain ⟨_, _, h2, h3, h4, _⟩ := (h1.up [_] (A := RH k lim ls) (l2 := l)).rOpen
  exact ⟨h2, by omega⟩

section
variable {w0 w : World} {p : Value} {lim : Nat} {ls : List (List Int)} {l2 : List Thing}
theorem OM.count (l1 : List Thing)  (h : St w0 w (l1 ++ OM p lim ls :: l2)) : Calls Try.prog 19 #[p] w fun e w' =>
    e = .returned (.int .i64 (cntE ls)) ∧ w = w' := by
  rcases St.opOpen l1 h with ⟨rfl, rfl⟩ | ⟨b, rfl, hne, hS⟩
  · exact mb_count _ _ (mbNone _)
  · exact SL.count l1 _ hS (by unfold cntE; rw [nz_ne _ _ hne])
theorem OM.limit (l1 : List Thing)  (h : St w0 w (l1 ++ OM p lim ls :: l2)) : Calls Try.prog 44 #[p] w fun e w' =>
    e = .returned (.int .i64 (limE lim ls)) ∧ w = w' := by
  rcases St.opOpen l1 h with ⟨rfl, rfl⟩ | ⟨b, rfl, hne, hS⟩
  · exact mb_limit _ _ (mbNone _)
  · exact SL.limit l1 _ hS (by unfold limE; rw [nz_ne _ _ hne])
theorem OM.alloc (l1 : List Thing) [Goods l1] [Goods l2] (n : Int) (h : St w0 w (l1 ++ OM p lim ls :: l2)) (hf : ls.length ≤ 999999) : Calls Try.prog 16 #[p, .int .i64 n] w fun e w' =>
    e = .returned (.tuple #[.int .i64 (allocH lim ls n), .int .i64 (allT lim ls n), .int .i64 (okE ls)]) ∧ St w0 w' (l1 ++ OM p lim (allL lim ls n) :: l2) := by
  rcases St.opOpen l1 h with ⟨rfl, rfl⟩ | ⟨b, rfl, hne, hS⟩
  · rw [allocH_nil]
    refine (mb_alloc _ n _ (mbNone _)).mono ?_
    rintro e w' ⟨rfl, rfl⟩
    exact ⟨rfl, h⟩
  · refine (SL.allocR l1 n hS (by omega)).mono ?_
    rintro e w' ⟨rfl, hS'⟩
    unfold allT okE allL
    rw [nz_ne _ _ hne, nz_ne _ _ hne, if_neg hne]
    exact ⟨rfl, St.opSome l1 hS' (allocL_ne hne)⟩
theorem OM.load (l1 : List Thing) [Goods l1] [Goods l2] (i k : Int) (h : St w0 w (l1 ++ OM p lim ls :: l2)) : Calls Try.prog 22 #[p, .int .i64 i, .int .i64 k] w fun e w' =>
    e = .returned (.tuple #[.int .i64 (getX ls i k), .int .i64 (getT ls i k), .int .i64 (errE ls i)]) ∧ St w0 w' (l1 ++ OM p lim ls :: l2) := by
  rcases St.opOpen l1 h with ⟨rfl, rfl⟩ | ⟨b, rfl, hne, hS⟩
  · rw [getX_nil, getT_nil]
    refine (mload_bad _ i k 1 _ (by decide) (mb_arr _ _ _ (mbNone _))).mono ?_
    rintro e w' ⟨rfl, hu⟩
    exact ⟨rfl, h.step hu⟩
  · refine (SL.loadR l1 i k hS).mono ?_
    rintro e w' ⟨rfl, hS'⟩
    unfold errE
    rw [nz_ne _ _ hne]
    exact ⟨rfl, St.opSome l1 hS' hne⟩
theorem OM.store (l1 : List Thing) [Goods l1] [Goods l2] (i k z : Int) (h : St w0 w (l1 ++ OM p lim ls :: l2)) : Calls Try.prog 23 #[p, .int .i64 i, .int .i64 k, .int .i64 z] w fun e w' =>
    e = .returned (.tuple #[.int .i64 (getT ls i k), .int .i64 (errE ls i)]) ∧ St w0 w' (l1 ++ OM p lim (setL ls i k z) :: l2) := by
  rcases St.opOpen l1 h with ⟨rfl, rfl⟩ | ⟨b, rfl, hne, hS⟩
  · rw [getT_nil, setL_nil]
    refine (mstore_bad _ i k z 1 _ (by decide) (mb_arr _ _ _ (mbNone _))).mono ?_
    rintro e w' ⟨rfl, hu⟩
    exact ⟨rfl, h.step hu⟩
  · refine (SL.storeR l1 i k z hS).mono ?_
    rintro e w' ⟨rfl, hS'⟩
    unfold errE
    rw [nz_ne _ _ hne]
    exact ⟨rfl, St.opSome l1 hS' (setL_ne hne)⟩
theorem OM.len (l1 : List Thing) [Goods l1] [Goods l2] (i : Int) (h : St w0 w (l1 ++ OM p lim ls :: l2)) : Calls Try.prog 24 #[p, .int .i64 i] w fun e w' =>
    e = .returned (.tuple #[.int .i64 (lenX ls i), .int .i64 (errE ls i)]) ∧ St w0 w' (l1 ++ OM p lim ls :: l2) := by
  rcases St.opOpen l1 h with ⟨rfl, rfl⟩ | ⟨b, rfl, hne, hS⟩
  · rw [lenX_nil]
    refine (mb_len _ i _ (mbNone _)).mono ?_
    rintro e w' ⟨rfl, hu⟩
    exact ⟨rfl, h.step hu⟩
  · refine (SL.lenR l1 i hS).mono ?_
    rintro e w' ⟨rfl, hS'⟩
    unfold errE
    rw [nz_ne _ _ hne]
    exact ⟨rfl, St.opSome l1 hS' hne⟩
theorem OM.span (l1 : List Thing) [Goods l1] [Goods l2] (i : Int) (h : St w0 w (l1 ++ OM p lim ls :: l2)) (h0 : ls.getD 0 [] = []) (hf : ls.length ≤ 1000) : Calls Try.prog 17 #[p, .int .i64 i] w fun e w' =>
    e = .returned (.tuple #[.int .i64 (spanF ls i), .int .i64 (lenX ls i), .int .i64 (errE ls i)]) ∧ St w0 w' (l1 ++ OM p lim ls :: l2) := by
  rcases St.opOpen l1 h with ⟨rfl, rfl⟩ | ⟨b, rfl, hne, hS⟩
  · rw [spanF_nil, lenX_nil]
    refine (mb_span _ i _ (mbNone _)).mono ?_
    rintro e w' ⟨rfl, rfl⟩
    exact ⟨rfl, h⟩
  · refine (SL.spanR l1 i hS).mono ?_
    rintro e w' ⟨rfl, hS'⟩
    unfold errE
    rw [nz_ne _ _ hne]
    exact ⟨rfl, St.opSome l1 hS' hne⟩
theorem OM.cells (l1 : List Thing) [Goods l1] [Goods l2] (h : St w0 w (l1 ++ OM p lim ls :: l2)) (h0 : ls.getD 0 [] = []) (hf : ls.length ≤ 1000) : Calls Try.prog 18 #[p] w fun e w' =>
    ∃ u, e = .returned u ∧ St w0 w' (RowT u ls.flatten :: (l1 ++ OM p lim ls :: l2)) := by
  rcases St.opOpen l1 h with ⟨rfl, rfl⟩ | ⟨b, rfl, hne, hS⟩
  · refine (mb_cells _ _ (mbNone _)).mono ?_
    rintro e w' ⟨rfl, rfl⟩
    exact ⟨_, rfl, h.fresh (RowT.of (rowNone w)) (fun k h => (rowOf_none h).elim) (Below.refl _ _)⟩
  · refine (SL.cellsR l1 hS).mono ?_
    rintro e w' ⟨u, rfl, hS'⟩
    exact ⟨u, rfl, St.opSome (RowT _ _ :: l1) hS' hne⟩
theorem OM.copy (l1 : List Thing) [Goods l1] [Goods l2] (h : St w0 w (l1 ++ OM p lim ls :: l2)) (hf : ls.length ≤ 1000000) : Calls Try.prog 21 #[p] w fun e w' =>
    ∃ d, e = .returned d ∧ St w0 w' (OM d lim ls :: (l1 ++ OM p lim ls :: l2)) := by
  rcases St.opOpen l1 h with ⟨rfl, rfl⟩ | ⟨b, rfl, hne, hS⟩
  · refine (mb_copy _ _ (mbNone _)).mono ?_
    rintro e w' ⟨rfl, rfl⟩
    exact ⟨_, rfl, h.opNone⟩
  · refine (SL.copyR l1 hS).mono ?_
    rintro e w' ⟨d, rfl, hS'⟩
    exact ⟨_, rfl, St.opSome [] (St.opSome (T := fun b => ML b lim ls) (ls := ls) (ML d lim ls :: l1) hS' hne) hne⟩
theorem ON.count (l1 : List Thing)  (h : St w0 w (l1 ++ ON p lim ls :: l2)) (hf : ls.length ≤ 1000000) : Calls Try.prog 65 #[p] w fun e w' =>
    e = .returned (.int .i64 (cntE ls)) ∧ w = w' := by
  rcases St.opOpen l1 h with ⟨rfl, rfl⟩ | ⟨b, rfl, hne, hS⟩
  · exact nn_count _
  · exact SN.count _ (hS.up l1) (by unfold cntE; rw [nz_ne _ _ hne]) hf
theorem ON.limit (l1 : List Thing)  (h : St w0 w (l1 ++ ON p lim ls :: l2)) : Calls Try.prog 66 #[p] w fun e w' =>
    e = .returned (.int .i64 (limE lim ls)) ∧ w = w' := by
  rcases St.opOpen l1 h with ⟨rfl, rfl⟩ | ⟨b, rfl, hne, hS⟩
  · exact nn_limit _
  · exact SN.limit _ (hS.up l1) (by unfold limE; rw [nz_ne _ _ hne])
theorem nn_cells (w : World) : Calls Try.prog 67 #[.pointer none] w fun e w' => e = .returned (.slice none 0 0) ∧ w = w' := by
  go_enter Try.func67, Try.ntmps67
  go_wp2
  go_loop [4, 3] (fun i v => i = .int .i64 1 ∧ v = .slice none 0 0) (fun _ _ => 0)
  case atStart => exact ⟨rfl, rfl⟩
  case round =>
    obtain ⟨rfl, rfl⟩ := hrel
    go_wp2_with (go_at_call 65; refine (nn_count _).mono ?_; rintro e w2 ⟨rfl, rfl⟩)
    go_ret
    exact ⟨rfl, rfl⟩
theorem ON.alloc (l1 : List Thing) [Goods l1] [Goods l2] (n : Int) (h : St w0 w (l1 ++ ON p lim ls :: l2)) (hf : ls.length ≤ 999999) : Calls Try.prog 38 #[p, .int .i64 n] w fun e w' =>
    e = .returned (.tuple #[.int .i64 (allocH lim ls n), .int .i64 (allT lim ls n), .int .i64 (okE ls)]) ∧ St w0 w' (l1 ++ ON p lim (allL lim ls n) :: l2) := by
  rcases St.opOpen l1 h with ⟨rfl, rfl⟩ | ⟨b, rfl, hne, hS⟩
  · rw [allocH_nil]
    refine (nn_alloc n _).mono ?_
    rintro e w' ⟨rfl, rfl⟩
    exact ⟨rfl, h⟩
  · refine (SN.alloc n (hS.up l1) (by omega)).mono ?_
    rintro e w' ⟨rfl, hS'⟩
    unfold allT okE allL
    rw [nz_ne _ _ hne, nz_ne _ _ hne, if_neg hne]
    exact ⟨rfl, St.opSome l1 (St.down l1 hS') (allocL_ne hne)⟩
theorem ON.load (l1 : List Thing) [Goods l1] [Goods l2] (i k : Int) (h : St w0 w (l1 ++ ON p lim ls :: l2)) : Calls Try.prog 39 #[p, .int .i64 i, .int .i64 k] w fun e w' =>
    e = .returned (.tuple #[.int .i64 (getX ls i k), .int .i64 (getT ls i k), .int .i64 (errE ls i)]) ∧ St w0 w' (l1 ++ ON p lim ls :: l2) := by
  rcases St.opOpen l1 h with ⟨rfl, rfl⟩ | ⟨b, rfl, hne, hS⟩
  · rw [getX_nil, getT_nil]
    refine (nn_load i k _).mono ?_
    rintro e w' ⟨rfl, rfl⟩
    exact ⟨rfl, h⟩
  · refine (SN.load i k (hS.up l1)).mono ?_
    rintro e w' ⟨rfl, hS'⟩
    unfold errE
    rw [nz_ne _ _ hne]
    exact ⟨rfl, St.opSome l1 (St.down l1 hS') hne⟩
theorem ON.store (l1 : List Thing) [Goods l1] [Goods l2] (i k z : Int) (h : St w0 w (l1 ++ ON p lim ls :: l2)) : Calls Try.prog 40 #[p, .int .i64 i, .int .i64 k, .int .i64 z] w fun e w' =>
    e = .returned (.tuple #[.int .i64 (getT ls i k), .int .i64 (errE ls i)]) ∧ St w0 w' (l1 ++ ON p lim (setL ls i k z) :: l2) := by
  rcases St.opOpen l1 h with ⟨rfl, rfl⟩ | ⟨b, rfl, hne, hS⟩
  · rw [getT_nil, setL_nil]
    refine (nn_store i k z _).mono ?_
    rintro e w' ⟨rfl, rfl⟩
    exact ⟨rfl, h⟩
  · refine (SN.store i k z (hS.up l1)).mono ?_
    rintro e w' ⟨rfl, hS'⟩
    unfold errE
    rw [nz_ne _ _ hne]
    exact ⟨rfl, St.opSome l1 (St.down l1 hS') (setL_ne hne)⟩
theorem ON.len (l1 : List Thing) [Goods l1] [Goods l2] (i : Int) (h : St w0 w (l1 ++ ON p lim ls :: l2)) : Calls Try.prog 69 #[p, .int .i64 i] w fun e w' =>
    e = .returned (.tuple #[.int .i64 (lenX ls i), .int .i64 (errE ls i)]) ∧ St w0 w' (l1 ++ ON p lim ls :: l2) := by
  rcases St.opOpen l1 h with ⟨rfl, rfl⟩ | ⟨b, rfl, hne, hS⟩
  · rw [lenX_nil]
    refine (nn_len i _).mono ?_
    rintro e w' ⟨rfl, rfl⟩
    exact ⟨rfl, h⟩
  · refine (SN.len i (hS.up l1)).mono ?_
    rintro e w' ⟨rfl, hS'⟩
    unfold errE
    rw [nz_ne _ _ hne]
    exact ⟨rfl, St.opSome l1 (St.down l1 hS') hne⟩
theorem ON.span (l1 : List Thing) [Goods l1] [Goods l2] (i : Int) (h : St w0 w (l1 ++ ON p lim ls :: l2)) (h0 : ls.getD 0 [] = []) (hf : ls.length ≤ 1000) : Calls Try.prog 68 #[p, .int .i64 i] w fun e w' =>
    e = .returned (.tuple #[.int .i64 (spanF ls i), .int .i64 (lenX ls i), .int .i64 (errE ls i)]) ∧ St w0 w' (l1 ++ ON p lim ls :: l2) := by
  rcases St.opOpen l1 h with ⟨rfl, rfl⟩ | ⟨b, rfl, hne, hS⟩
  · rw [spanF_nil, lenX_nil]
    refine (nn_span i _).mono ?_
    rintro e w' ⟨rfl, rfl⟩
    exact ⟨rfl, h⟩
  · refine (SN.span i (hS.up l1) h0 hf (RM.room (hS.up l1)).2).mono ?_
    rintro e w' ⟨rfl, hS'⟩
    unfold errE
    rw [nz_ne _ _ hne]
    exact ⟨rfl, St.opSome l1 (St.down l1 hS') hne⟩
theorem ON.cells (l1 : List Thing) [Goods l1] [Goods l2] (h : St w0 w (l1 ++ ON p lim ls :: l2)) (h0 : ls.getD 0 [] = []) (hf : ls.length ≤ 1000) : Calls Try.prog 67 #[p] w fun e w' =>
    ∃ u, e = .returned u ∧ St w0 w' (RowT u ls.flatten :: (l1 ++ ON p lim ls :: l2)) := by
  rcases St.opOpen l1 h with ⟨rfl, rfl⟩ | ⟨b, rfl, hne, hS⟩
  · refine (nn_cells _).mono ?_
    rintro e w' ⟨rfl, rfl⟩
    exact ⟨_, rfl, h.fresh (RowT.of (rowNone w)) (fun k h => (rowOf_none h).elim) (Below.refl _ _)⟩
  · refine (SN.cells (hS.up l1) h0 (RM.room (hS.up l1)).1 hf (RM.room (hS.up l1)).2).mono ?_
    rintro e w' ⟨u, rfl, hS'⟩
    exact ⟨u, rfl, St.opSome (RowT _ _ :: l1) (St.down (RowT _ _ :: l1) (hS'.perm (List.Perm.swap _ _ _))) hne⟩
theorem ON.copy (l1 : List Thing) [Goods l1] [Goods l2] (h : St w0 w (l1 ++ ON p lim ls :: l2)) (hf : ls.length ≤ 1000000) : Calls Try.prog 41 #[p] w fun e w' =>
    ∃ d, e = .returned d ∧ St w0 w' (ON d lim ls :: (l1 ++ ON p lim ls :: l2)) := by
  rcases St.opOpen l1 h with ⟨rfl, rfl⟩ | ⟨b, rfl, hne, hS⟩
  · refine (nn_copy _).mono ?_
    rintro e w' ⟨rfl, rfl⟩
    exact ⟨_, rfl, h.opNone⟩
  · refine (SN.copy (hS.up l1) hf).mono ?_
    rintro e w' ⟨d, rfl, hS'⟩
    exact ⟨_, rfl, St.opSome [] (St.opSome (T := fun b => RM b lim ls) (ls := ls) (RM d lim ls :: l1) (St.down (RM d lim ls :: l1) (hS'.perm (List.Perm.swap _ _ _))) hne) hne⟩
end

end Go.Proofs.Ytjganbcolaakkaa
