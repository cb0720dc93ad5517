/-
  The document's heaps: Alloc beside other things; Copy, walked.
-/
import Derived.Test.YtjganbcolaakkaaRefD
import Derived.Test.YtjganbcolaakkaaRefE
namespace Go.Proofs.Ytjganbcolaakkaa
open Go.RowKit

section
variable {w0 w w' : World} {l l2 : List Thing}
theorem St.vRows {u : Value} {vs : List Value} {ls : List (List Int)} (h : St w0 w (MatV u vs ls :: l)) : St w0 w (All (RowsT vs ls) :: l) := by
  obtain ⟨F, ⟨F1, F2, ⟨h1, F3, F4, h2, h3, h4, h5⟩, h6, h7, h8⟩, h9, h10⟩ := h
  exact ⟨fun k => F4 k ∨ F2 k, ⟨F4, F2, h3, h6, fun k hk => h7 k ((h5 k).2 (Or.inr hk)), fun _ => Iff.rfl⟩, fun k hk => h9 k ((h8 k).2 (hk.imp (fun h => (h5 k).2 (Or.inr h)) id)), h10⟩
theorem St.mkMat {u x : Value} {vs : List Value} {ls : List (List Int)} {z : List Int} (h : St w0 w (VRowT TII u (vs ++ [x]) :: RowT x z :: All (RowsT vs ls) :: l)) (hl : vs.length = ls.length) : St w0 w (MatT u (ls ++ [z]) :: l) := by
  obtain ⟨F, ⟨F1, G1, a1, ⟨F2, G2, a2, ⟨F3, G3, a3, a4, a5, a6⟩, a7, a8⟩, a9, a10⟩, a11, a12⟩ := h
  refine ⟨F, ⟨fun k => F1 k ∨ F2 k ∨ F3 k, G3, ⟨vs ++ [x], by simp [hl], F1, fun k => F2 k ∨ F3 k, a1, ?_, fun k hk hk' => ?_, fun _ => Iff.rfl⟩, a4, fun k hk hk' => ?_, fun k => by rw [a10, a8, a6]; constructor <;> intro h <;> (first | (rcases h with h | h | h | h <;> simp [h]) | (rcases h with (h | h | h) | h <;> simp [h]))⟩, a11, a12⟩
  · unfold RowsT
    rw [List.zipWith_append hl]
    exact All.perm (l := RowT x z :: RowsT vs ls) (List.perm_append_comm (l₁ := [_])) ⟨F2, F3, a2, a3, fun k hk hk' => a7 k hk ((a6 k).2 (Or.inl hk')), fun _ => Iff.rfl⟩
  · refine a9 k hk ((a8 k).2 ?_)
    rcases hk' with h | h
    · exact Or.inl h
    · exact Or.inr ((a6 k).2 (Or.inl h))
  · rcases hk with h | h | h
    · exact a9 k h ((a8 k).2 (Or.inr ((a6 k).2 (Or.inr hk'))))
    · exact a7 k h ((a6 k).2 (Or.inr hk'))
    · exact a5 k h hk'
/-- Two new rows. -/
theorem St.fresh2 [g : Goods l] {v u : Value} {xs : List Int} {vs : List Value} (h : St w0 w l) (hr : Row w' v xs) (hu : VRow w' TII u vs) (h1 : ∀ k, rowOf v k → w.heap.size ≤ k) (h2 : ∀ k, rowOf u k → w.heap.size ≤ k) (hd : ∀ k, rowOf u k → ¬ rowOf v k) (hb : Below w.heap.size w w') : St w0 w' (VRowT TII u vs :: RowT v xs :: l) :=
  (h.fresh (A := All [VRowT TII u vs, RowT v xs]) (G := fun k => rowOf u k ∨ rowOf v k) ⟨rowOf u, rowOf v, ⟨hu, fun _ => Iff.rfl⟩, ⟨rowOf v, fun _ => False, RowT.of hr, fun _ => id, fun _ _ h => h, fun k => by simp⟩, hd, fun _ => Iff.rfl⟩ (fun k hk => hk.elim (h2 k) (h1 k)) hb).split
end

section
variable {w0 w : World} {b lim : Nat} {ls : List (List Int)} {l2 : List Thing}
theorem SR.allocR (l1 : List Thing) [Goods l1] [Goods l2] (n : Int) (h : St w0 w (l1 ++ RH b lim ls :: l2)) (hf : ls.length ≤ 999999) : Calls Try.prog 48 #[ptr b, .int .i64 n] w fun e w' =>
    e = .returned (.tuple #[.int .i64 (allocH lim ls n), .int .i64 (allocT lim ls n), .int .i64 0]) ∧ St w0 w' (l1 ++ RH b lim (allocL lim ls n) :: l2) := by
  obtain ⟨u, vs, h1, h2, h3, hS⟩ := (h.up l1).rOpen
  obtain ⟨g, c, rfl, hc⟩ := hS.vShape [_] h1
  have c0 := hS.cell [] 0 _ rfl
  have c1 := hS.cell [] 1 (.int .i64 lim) rfl
  have f0 := hS.frozen [] 0
  have hU : ∀ m, Calls Try.prog 72 #[ptr b] (w.drewN m) fun e w' => e = .returned (.int .i64 (tot ls : Nat)) ∧ w' = w.drewN m := fun m => (SR.used (w0 := w0) l1 _ (h.step ((Upto.refl _ w).drewN m)) rfl (by omega)).mono fun _ _ ⟨h1, h2⟩ => ⟨h1, h2.symm⟩
  unfold allocH allocT allocL
  by_cases hb : badN lim ls n
  · simp only [if_pos hb]
    unfold badN at hb
    by_cases hneg : n < 0
    · exact (ralloc_neg n w _ _ c h1 c0 hneg).mono fun _ _ ⟨h1, h2⟩ => ⟨h1, h.step h2⟩
    · exact (ralloc_many (tot ls) n w _ _ c h1 c0 c1 h3 h2 (by omega) (by omega) hU).mono fun _ _ ⟨h1, h2⟩ => ⟨h1, h.step h2⟩
  · simp only [if_neg hb]
    unfold badN at hb
    obtain ⟨n, rfl⟩ := Int.eq_ofNat_of_zero_le (show 0 ≤ n by omega)
    have hvl : vs.length = ls.length := by obtain ⟨_, hA, _⟩ := hS.get [_]; exact hA.1
    have hvr : VRow w TII (.slice (some ⟨g, 0, none⟩) ls.length c) vs := by
      obtain ⟨F, hA, _⟩ := hS.get [_]
      obtain ⟨F1, k1, _⟩ := All.open [] hA.2
      exact k1.1
    have hone : ∀ x ∈ vs, x.oneCell' = true := fun x hx => by
      obtain ⟨j, hj⟩ := List.getElem?_of_mem hx
      have hjl : j < ls.length := by rw [← hvl]; exact (List.getElem?_eq_some_iff.1 hj).1
      obtain ⟨so, sc, x0, _⟩ := hS.vCell [_] j hjl
      rw [hj] at x0
      rw [Option.some.inj x0]
      rfl
    refine (ralloc_some b lim (tot ls) n ls.length g c vs w h1 (by omega) hvl c0 c1 f0 h3 (by omega) (fun j x hj => ?_) hone (hvr.lt g rfl) hU).mono ?_
    · have hjl : j < ls.length := by rw [← hvl]; exact (List.getElem?_eq_some_iff.1 hj).1
      obtain ⟨so, sc, x0, x1⟩ := hS.vCell [_] j hjl
      rw [x1, ← x0, hj]
    · rintro e w' ⟨rfl, w3, u2, Z, hF, rfl⟩
      obtain ⟨f1, f2, f3, f4, f5, f6, f7⟩ := hF
      refine ⟨rfl, St.down l1 ?_⟩
      have s1 := St.fresh2 hS f3 f2 (fun k hk => by cases hk; exact f4) f5 (fun k hk hk' => by cases hk'; exact f6 hk) f7.below
      have s2 := St.blkSet (i := 0) (v := u2) [_, _] s1 rfl
      have s3 := s2.up [_, _]
      have s4 : St w0 _ (MatV (.slice (some ⟨g, 0, none⟩) ls.length c) vs ls :: Blk b _ :: VRowT TII u2 _ :: RowT _ _ :: (l1 ++ l2)) := St.up [_, _, _] s3
      have s5 := St.down (A := All (RowsT vs ls)) [Blk b _, VRowT TII u2 _, RowT _ _] s4.vRows
      have s6 := St.down (A := Blk b _) [VRowT TII u2 _, RowT _ _, All (RowsT vs ls)] s5
      have s7 := St.mkMat s6 hvl
      exact St.rCloseT (s7.perm (List.Perm.swap _ _ _)) (by simp) (by rw [tot_snoc, List.length_replicate]; omega) h3
end

/-- Append of numbers to a row of the state. -/
theorem run_append_rowT {w0 w : World} {l1 l2 : List Thing} [Goods l1] [Goods l2] {v u : Value} {xs ys : List Int} (h : St w0 w (l1 ++ RowT v xs :: l2)) (hu : Sees w u ys) (hlen : (xs.length + ys.length) * 8 ≤ 140737488355328) (ty : TypeId) :
    ∃ v' w', (Builtin.append_ #[31, 31] ty #[v, u]).run Try.prog w = .ok v' w' ∧ St w0 w' (l1 ++ RowT v' (xs ++ ys) :: l2) := by
  obtain ⟨F, hA, _, close⟩ := h.focus l1
  obtain ⟨i, hi, hz0, hz1, hz2⟩ := info_parts Try.infoInt
  obtain ⟨v', w', hr, h2, h3, h4⟩ := run_append_row (P := Try.prog) w 31 ty i Try.underlying31 hi hz0 hz1 hz2 v u xs ys hA.1 hu hlen
  exact ⟨v', w', hr, close w' _ ⟨rowOf v', RowT.of h2, h3.mono (fun k _ hk => (hA.2 k).2 hk), fun k hk => (h4 k hk).imp (fun h => (hA.2 k).2 h) id⟩⟩
theorem step_append_rowT {w0 w : World} {l1 l2 : List Thing} [Goods l1] [Goods l2] {ops : Array Oper} {o : Oper} {a : Act} {K : Act → World → Prop} {Q : Exit → Act → World → Prop} {E : Prop} (hgd : o.guard = none) (s x : Operand)
    (ho : o.op = .call { callee := .builtin .append, args := #[s, x], argTypes := #[31, 31] }) {v u : Value} {xs ys : List Int} (hs : a.eval s = v) (hx : a.eval x = u) (hS : St w0 w (l1 ++ RowT v xs :: l2)) (hu : Sees w u ys) (hlen : (xs.length + ys.length) * 8 ≤ 140737488355328)
    (h : ∀ v' w', St w0 w' (l1 ++ RowT v' (xs ++ ys) :: l2) → K (a.put o.dst v') w') :
    if Region.wanted o (yielded ops a.tmps) = true then Oper.wp Try.prog o a w K Q else E := by
  have hw : Region.wanted o (yielded ops a.tmps) = true := by simp [Region.wanted, hgd]
  rw [if_pos hw]
  obtain ⟨v', w', hr, h2⟩ := run_append_rowT hS hu hlen o.type
  unfold Oper.wp execOp
  simp only [ho, resolve, invoke, builtin, Sem.run_bind, Sem.run_pure, Result.andThen_ok, List.map_toArray, List.map_cons, List.map_nil, hs, hx, hr]
  exact h v' w' h2
/-- An empty row was made. -/
theorem St.empty {w0 w : World} {l : List Thing} [Goods l] (h : St w0 w l) : St w0 (w.alloc (Obj.cells #[] 2)) (RowT (.slice (some ⟨w.heap.size, 0, none⟩) 0 0) [] :: l) :=
  h.fresh (RowT.of (Row.made w)) (fun k hk => by cases hk; exact Nat.le_refl _) ((Below.refl _ _).alloc (Nat.le_refl _) _)

/-- The copy under way. -/
inductive RP (w0 wr : World) (B lim : Nat) (ls : List (List Int)) (k : Nat) (o : Obj) (b : Nat) (u : Value) (vs : List Value) (l : List Thing) : Prop
  | mk (um : Value) (h : St w0 wr (Blk B (.cells #[um, .int .i64 lim] TRH) :: MatT um (ls.take k) :: Blk b o :: MatV u vs ls :: l))

set_option maxRecDepth 100000 in
set_option maxHeartbeats 2000000 in
theorem rcopy_st {w0 w : World} {l : List Thing} [Goods l] {b lim : Nat} {ls : List (List Int)} (h : St w0 w (RH b lim ls :: l)) (hf : ls.length ≤ 1000000) : Calls Try.prog 52 #[ptr b] w fun e w' =>
    ∃ d, e = .returned (ptr d) ∧ St w0 w' (RH d lim ls :: RH b lim ls :: l) := by
  obtain ⟨u, vs, hp, ht, hl, hS⟩ := h.rOpen
  obtain ⟨g, uc, rfl, hu1⟩ := hS.vShape [_] hp
  have c0 := hS.cell [] 0 _ rfl
  have c1 := hS.cell [] 1 (.int .i64 lim) rfl
  obtain ⟨n, hn⟩ : ∃ n, ls.length = n := ⟨_, rfl⟩
  rw [hn] at c0 hu1 hf hp hS
  have Hn := Lib.hid hn; clear hn
  have Ht := Lib.hid ht; clear ht
  have SS := Lib.hid hS; clear hS h
  go_enter Try.func52, Try.ntmps52
  go_wp2_with (go_at_call 71; refine (rvalid_at b _ _ _ _ c0 hp).mono ?_; rintro e w' ⟨rfl, rfl⟩)
  have S2 : Hid (RP w0 (w.alloc (Obj.cells #[.slice none 0 0, .int .i64 lim] TRH)) w.heap.size lim ls 0 (.cells #[.slice (some ⟨g, 0, none⟩) n uc, .int .i64 lim] TRH) b (.slice (some ⟨g, 0, none⟩) n uc) vs l) :=
    Lib.hid ⟨_, ((SS.out.matNone).alloc (Obj.cells #[.slice none 0 0, .int .i64 lim] TRH))⟩
  generalize w.alloc (Obj.cells #[.slice none 0 0, .int .i64 lim] TRH) = wa at *
  generalize w.heap.size = B at *
  go_loopw [4] (fun i wr => ∃ k : Nat, k ≤ n ∧ i = .int .i64 k ∧ Hid (RP w0 wr B lim ls k (.cells #[.slice (some ⟨g, 0, none⟩) n uc, .int .i64 lim] TRH) b (.slice (some ⟨g, 0, none⟩) n uc) vs l)) (fun i _ => n - (intOf i).toNat)
  case atStart => exact ⟨0, Nat.zero_le _, rfl, S2⟩
  case round =>
    obtain ⟨k, hk, rfl, hM⟩ := hrel
    obtain ⟨um, hT⟩ := hM.out
    clear hM
    obtain ⟨mo, mc, rfl, _, _⟩ := St.mLen [_] hT
    have e0 := hT.cell [_, _] 0 (.slice (some ⟨g, 0, none⟩) n uc) rfl
    by_cases hlt : k < n
    · have hkl : k < ls.length := by have := Hn.out; omega
      have hlk : (ls.take k).length = k := by rw [List.length_take]; omega
      rw [hlk] at hT
      obtain ⟨so, sc, x0, x1⟩ := St.vCell [_, _, _] k hT hkl
      have x2 := St.vRow [_, _, _] k hT hkl x0
      obtain ⟨xs, hxs⟩ : ∃ xs, ls.getD k [] = xs := ⟨_, rfl⟩
      obtain ⟨q, hq⟩ : ∃ q, xs.length = q := ⟨_, rfl⟩
      rw [hxs, hq] at x0 x1 x2
      have hq8 : q ≤ lim := by
        have h1 : (ls.getD k []).length ≤ tot ls := len_le_tot
        rw [hxs, hq] at h1
        have := Ht.out
        omega
      have q3 := hT.cell [] 0 (.slice mo k mc) rfl
      have f3 := hT.frozen [] 0
      have hsnoc : ls.take k ++ [xs] = ls.take (k + 1) := by
        rw [← hxs, List.take_add_one]
        simp [List.getD, hkl]
      have Hlk := Lib.hid hlk; clear hlk
      have X0 := Lib.hid x0; clear x0
      have X2 := Lib.hid x2; clear x2
      have Hkl := Lib.hid hkl; clear hkl
      have Hxs := Lib.hid hxs; clear hxs
      have Hq := Lib.hid hq; clear hq
      have Hsnoc := Lib.hid hsnoc; clear hsnoc
      have T2 := Lib.hid hT; clear hT
      have hk0 : (0 : Int) ≤ (k : Int) := by omega
      have hkn' : (k : Int) < (n : Int) := by omega
      have n0 := fun o => cell_new (o := o) q3
      have n1 := fun o => cell_new (o := o) e0
      have n2 := fun o => cell_new (o := o) x1
      clear c0 c1
      go_wp2
      go_region_law (first
        | ((refine step_append_mat (l1 := [_]) rfl (.tmp 27) (.tmp 37) rfl (by rfl) (by rfl) (T3.out.boxed) (by rw [Hlk.out]; omega) ?_; intro g5 c5 w5 hs5; rw [Hlk.out, Hsnoc.out] at hs5; rw [Hlk.out]; have q5 := hs5.cell [] 0 (.slice mo k mc) rfl; have f5 := hs5.frozen [] 0; have T5 := Lib.hid (show St w0 w5 (_ :: _ :: _ :: _ :: l) from hs5); clear hs5))
        | ((refine step_append_rowT (l1 := []) (xs := []) (ys := xs) rfl (.tmp 28) (.tmp 35) rfl (by rfl) (by rfl) ((St.empty T2.out).step ((Upto.refl (fun _ => False) _).drew)) (X2.out.kept (((Upto.refl (fun _ => False) wr).alloc _).drew) (fun _ _ => id)).sees (by have := Hq.out; simp; omega) ?_; intro v4 w4 hs4; have T3 := Lib.hid (show St w0 w4 (RowT v4 xs :: _ :: _ :: _ :: _ :: l) from hs4); obtain ⟨bo1, m1, d1, rfl⟩ := (hs4.row []).shape; have q4 := T3.out.cell [_] 0 (.slice mo k mc) rfl; have q6 := fun o => cell_new (o := o) q4; clear hs4)))
      all_goals
        have T6 := Lib.hid (St.blkSet (i := 0) (v := .slice (some ⟨g5, 0, none⟩) (k + 1) c5) [] T5.out rfl)
        go_wp2
        go_roundw
        case rel => exact ⟨k + 1, by omega, by go_num, Lib.hid ⟨_, T6.out⟩⟩
        case measure => simp [intOf]; omega
    · obtain rfl : n = k := by omega
      have hall : ls.take n = ls := List.take_of_length_le (by rw [Hn.out]; exact Nat.le_refl _)
      rw [hall] at hT
      have T2 := Lib.hid hT; clear hT hall
      go_wp2
      go_ret
      refine ⟨B, rfl, ?_⟩
      have hp' : 0 < ls.length := by have := Hn.out; omega
      have h3 := St.rCloseT (lim := lim) T2.out hp' Ht.out hl
      have h6 := St.up [_] (A := Blk b _) h3
      have h7 := St.up [_, _] (A := MatV _ vs ls) (l2 := l) h6
      have h8 := h7.perm (l' := Blk b _ :: MatV _ vs ls :: RH B lim ls :: l) (List.Perm.swap _ _ _)
      exact (St.rClose h8 hp' Ht.out hl).perm (List.Perm.swap _ _ _)
theorem SR.copy {w0 w : World} {b lim : Nat} {ls : List (List Int)} (l1 : List Thing) {l2 : List Thing} [Goods l1] [Goods l2] (h : St w0 w (l1 ++ RH b lim ls :: l2)) (hf : ls.length ≤ 1000000) : Calls Try.prog 52 #[ptr b] w fun e w' =>
    ∃ d, e = .returned (ptr d) ∧ St w0 w' (RH d lim ls :: l1 ++ RH b lim ls :: l2) := by
  refine (rcopy_st (h.up l1) hf).mono ?_
  rintro e w' ⟨d, rfl, hS⟩
  exact ⟨d, rfl, St.down (RH d lim ls :: l1) (hS.perm (List.Perm.swap _ _ _))⟩

end Go.Proofs.Ytjganbcolaakkaa
