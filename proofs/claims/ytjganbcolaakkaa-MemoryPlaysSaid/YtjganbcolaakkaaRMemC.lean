/-
  The document's memories: Cells and Same, walked.
-/
import Derived.Test.YtjganbcolaakkaaRMemB
namespace Go.Proofs.Ytjganbcolaakkaa
open Go.RowKit

theorem wpList_append_rowT {w0 w : World} {l1 l2 : List Thing} [Goods l1] [Goods l2] {ops : Array Oper} {rest : List Oper} {o : Oper} {a : Act} {Q : Exit → Act → World → Prop} (hgd : o.guard = none) (s x : Operand)
    (ho : o.op = .call { callee := .builtin .append, args := #[s, x], argTypes := #[31, 31] }) {v u : Value} {xs ys : List Int} (hs : a.eval s = v) (hx : a.eval x = u) (hS : St w0 w (l1 ++ RowT v xs :: l2)) (hu : Sees w u ys) (hlen : (xs.length + ys.length) * 8 ≤ 140737488355328)
    (h : ∀ v' w', St w0 w' (l1 ++ RowT v' (xs ++ ys) :: l2) → wpList Try.prog ops Q rest (a.put o.dst v') w') : wpList Try.prog ops Q (o :: rest) a w := by
  refine wpList_plain hgd fun K hK => ?_
  obtain ⟨v', w', hr, h2⟩ := run_append_rowT hS hu hlen o.type
  unfold Oper.wp execOp
  simp only [ho, resolve, invoke, builtin, Sem.run_bind, Sem.run_pure, Result.andThen_ok, List.map_toArray, List.map_cons, List.map_nil, hs, hx, hr]
  exact hK _ _ (h v' w' h2)

theorem flat_take {ls : List (List Int)} {k : Nat} (hk : k < ls.length) : (ls.take (k + 1)).flatten = (ls.take k).flatten ++ ls.getD k [] := by
  have e : ls.take (k + 1) = ls.take k ++ [ls.getD k []] := by rw [List.take_add_one]; simp [List.getD, hk]
  rw [e]
  simp
theorem flat_take1 {ls : List (List Int)} (h0 : ls.getD 0 [] = []) (hp : 0 < ls.length) : (ls.take 1).flatten = [] := by
  have := flat_take (k := 0) hp
  rw [h0] at this
  simpa using this

set_option maxRecDepth 10000 in
set_option maxHeartbeats 1000000 in
theorem SN.cells {w0 w : World} {b lim : Nat} {ls : List (List Int)} {l : List Thing} [Goods l] (h : St w0 w (RM b lim ls :: l)) (h0 : ls.getD 0 [] = []) (hp : 0 < ls.length) (hf : ls.length ≤ 1000) (ht : tot ls ≤ 10000) : Calls Try.prog 67 #[ptr b] w fun e w' =>
    ∃ u, e = .returned u ∧ St w0 w' (RowT u ls.flatten :: RM b lim ls :: l) := by
  have S0 : Hid (St w0 w (RowT (.slice none 0 0) (ls.take 1).flatten :: RM b lim ls :: l)) := Lib.hid (by
    rw [flat_take1 h0 hp]
    exact h.fresh (RowT.of (rowNone w)) (fun k h => (rowOf_none h).elim) (Below.refl _ _))
  obtain ⟨n, hn⟩ : ∃ n, ls.length = n := ⟨_, rfl⟩
  rw [hn] at hp hf
  have HN := Lib.hid hn; clear hn
  have HT := Lib.hid ht; clear ht h0 h
  go_enter Try.func67, Try.ntmps67
  go_wp2
  go_loopw [4, 3] (fun i v wr => ∃ k : Nat, 1 ≤ k ∧ k ≤ n ∧ i = .int .i64 k ∧ Hid (St w0 wr (RowT v (ls.take k).flatten :: RM b lim ls :: l))) (fun i _ _ => n - (intOf i).toNat)
  case atStart => exact ⟨1, by omega, by omega, rfl, S0⟩
  case round =>
    obtain ⟨k, hk1, hk2, rfl, hM⟩ := hrel
    generalize u3 = v at *
    have hM2 := Lib.hid (hM.out.perm (List.Perm.swap _ _ _))
    have HC : Hid (∀ w9, w9 = wr → Calls Try.prog 65 #[ptr b] w9 fun e w' => e = .returned (.int .i64 ((n : Int) - 1)) ∧ w9 = w') := Lib.hid fun w9 e => by
      subst e
      exact SN.count _ hM2.out (by rw [HN.out]) (by rw [HN.out]; omega)
    by_cases hlt : k < n
    · obtain ⟨hb, hO⟩ := hM2.out.rmOpen
      have c0 := hO.cell [] 0 (ptr hb) rfl
      have O := Lib.hid hO; clear hO
      have hno : ¬ outH ls (k : Int) := by unfold outH; rw [HN.out]; omega
      have e1 : arrE ls k = 0 := by unfold arrE; rw [if_neg hno]
      have e2 : arrL ls k = ls.getD k [] := by rw [arrL_in hno]; simp
      have hsn : (ls.take k).flatten ++ ls.getD k [] = (ls.take (k + 1)).flatten := (flat_take (by rw [HN.out]; exact hlt)).symm
      have hle : (ls.take k).flatten.length + (ls.getD k []).length ≤ 10000 := by
        have := take_tot_le ls k (by rw [HN.out]; exact hlt)
        rw [flat_length]
        have := HT.out
        omega
      have E1 := Lib.hid e1; clear e1
      have E2 := Lib.hid e2; clear e2
      have E3 := Lib.hid hsn; clear hsn
      have E4 := Lib.hid hle; clear hle hno
      have hkn : (k : Int) ≤ (n : Int) - 1 := by omega
      go_wp2_with (first
        | (at_builtin; refine wpList_append_rowT (l1 := [_, _, _]) rfl (.tmp 22) (.tmp 23) rfl rfl rfl O2.out ((O2.out.row []).sees) (by have := E4.out; omega) ?_; intro v5 w5 hs5; rw [E3.out] at hs5; have O3 := Lib.hid ((St.rmClose (show St w0 w5 (Blk b _ :: RH hb lim ls :: RowT v5 _ :: l) from hs5.tail)).perm (List.Perm.swap _ _ _)); clear hs5)
        | (go_at_call 51; refine (SR.arrayR [_] k O.out).mono ?_; rw [E1.out, E2.out]; rintro e w2 ⟨u9, rfl, hs⟩; have O2 := Lib.hid (show St w0 w2 (RowT u9 _ :: Blk b _ :: RH hb lim ls :: RowT v _ :: l) from hs); clear hs)
        | (go_at_call 65; refine (HC.out _ rfl).mono ?_; rintro e w2 ⟨rfl, rfl⟩))
      go_roundw
      case rel => exact ⟨k + 1, by omega, by omega, by go_num, O3⟩
      case measure => simp [intOf]; omega
    · obtain rfl : n = k := by omega
      have hall : ls.take n = ls := List.take_of_length_le (by rw [HN.out]; exact Nat.le_refl _)
      have hgt : ¬ (n : Int) ≤ (n : Int) - 1 := by omega
      go_wp2_with (go_at_call 65; refine (HC.out _ rfl).mono ?_; rintro e w2 ⟨rfl, rfl⟩)
      go_ret
      have := hM.out
      rw [hall] at this
      exact ⟨_, rfl, this⟩

end Go.Proofs.Ytjganbcolaakkaa
