/-
  Copy of the heaps, walked.
-/
import Derived.Test.YtjganbcolaakkaaHModel
import Derived.Deep.RegionHeld3
namespace Go.Proofs.Ytjganbcolaakkaa
open Go.RowKit

section
variable {w0 w w' : World} {l l2 : List Thing}
theorem All.assoc2 {A B : Thing} {F : Fp} (h : All [All [A, B]] w F) : All [A, B] w F := by
  obtain ⟨F1, F2, h1, h2, h3, h4⟩ := h
  have : F1 = F := by
    funext k
    have := h2 k
    rw [h4]
    simp [this]
  rwa [← this]
theorem St.split {A B : Thing} (h : St w0 w (All [A, B] :: l)) : St w0 w (A :: B :: l) := by
  obtain ⟨F, ⟨F1, F2, ⟨F3, F4, h3, ⟨F5, F6, h5, h6, h7, h8⟩, h9, h10⟩, h2, h11, h12⟩, h13, h14⟩ := h
  have e : ∀ k, F4 k ↔ F5 k := fun k => by rw [h8]; have := h6 k; simp [this]
  refine ⟨F, ⟨F3, fun k => F5 k ∨ F2 k, h3, ⟨F5, F2, h5, h2, fun k hk hk' => h11 k ((h10 k).2 (Or.inr ((e k).2 hk))) hk', fun _ => Iff.rfl⟩, fun k hk hk' => ?_, fun k => by rw [h12, h10, e, or_assoc]⟩, h13, h14⟩
  rcases hk' with hk' | hk'
  · exact h9 k hk ((e k).2 hk')
  · exact h11 k ((h10 k).2 (Or.inl hk)) hk'
theorem St.blkSet (l1 : List Thing) [Goods l1] [Goods l2] {b i : Nat} {cs cs' : Array Value} {e : TypeId} {v : Value} (h : St w0 w (l1 ++ Blk b (.cells cs e) :: l2)) (hc : cs.setIfInBounds i v = cs') : St w0 (w.setCell ⟨b, i, none⟩ v) (l1 ++ Blk b (.cells cs' e) :: l2) := by
  obtain ⟨F, hA, _, close⟩ := h.focus l1
  refine close _ _ ⟨F, ⟨?_, hA.2⟩, (Upto.refl _ w).setCell (p := ⟨b, i, none⟩) (Or.inl ((hA.2 b).2 rfl)) _, fun _ h => Or.inl h⟩
  rw [heap_setCell_same w b i _ e _ hA.1, hc]
theorem St.frozen (l1 : List Thing) {b : Nat} {cs : Array Value} {e : TypeId} (h : St w0 w (l1 ++ Blk b (.cells cs e) :: l2)) (i : Nat) : w.frozen? ⟨b, i, none⟩ = false := frozen_of_row w b i _ e (h.blk l1)

theorem St.htOpen {b lim : Nat} {ls : List (List Int)} (h : St w0 w (HT b lim ls :: l)) : ∃ rs u vs, ls = [] :: rs ∧ vs.length = rs.length ∧ tot ls ≤ lim ∧ lim ≤ 10000 ∧ St w0 w (Blk b (.cells #[.bool true, .int .i64 lim, .int .i64 (tot ls : Nat), u] TH) :: MatV u vs rs :: l) := by
  obtain ⟨F, ⟨F1, F2, ⟨rs, u, vs, e, h1, h2, h3, F3, F4, h4, h5, h6, h7⟩, h8, h9, h10⟩, h11, h12⟩ := h
  refine ⟨rs, u, vs, e, h1, h2, h3, F, ⟨F3, fun k => F4 k ∨ F2 k, h4, ⟨F4, F2, ⟨h1, h5⟩, h8, fun k hk => h9 k ((h7 k).2 (Or.inr hk)), fun _ => Iff.rfl⟩, fun k hk hk' => ?_, fun k => by rw [h10, h7, or_assoc]⟩, h11, h12⟩
  rcases hk' with hk' | hk'
  · exact h6 k hk hk'
  · exact h9 k ((h7 k).2 (Or.inl hk)) hk'
theorem St.htClose {b lim : Nat} {rs : List (List Int)} {u : Value} {vs : List Value} (h : St w0 w (Blk b (.cells #[.bool true, .int .i64 lim, .int .i64 (tot ([] :: rs) : Nat), u] TH) :: MatV u vs rs :: l)) (h1 : tot ([] :: rs) ≤ lim) (h2 : lim ≤ 10000) : St w0 w (HT b lim ([] :: rs) :: l) := by
  refine h.join.conv fun F ⟨F1, F2, h3, ⟨F3, F4, h4, h5, h6, h7⟩, h8, h9⟩ => ⟨rs, u, vs, rfl, h4.1, h1, h2, F1, F3, h3, h4.2, fun k hk hk' => h8 k hk ((h7 k).2 (Or.inl hk')), fun k => ?_⟩
  rw [h9, h7]
  have := h5 k
  simp [this]
theorem St.vClose {u : Value} {vs : List Value} {rs : List (List Int)} (h : St w0 w (MatV u vs rs :: l)) : St w0 w (MatT u rs :: l) := h.conv fun _ hF => ⟨vs, hF.1, hF.2⟩
theorem St.matNone [g : Goods l] (h : St w0 w l) : St w0 w (MatT (.slice none 0 0) [] :: l) :=
  h.fresh (A := MatT (.slice none 0 0) []) (G := fun _ => False) ⟨[], rfl, fun _ => False, fun _ => False, ⟨World.ownsRow_nil w 0 _ 1, fun k => ⟨fun h => h.elim, fun h => rowOf_none h⟩⟩, fun _ => id, fun _ h => h.elim, fun k => by simp⟩ (fun _ h => h.elim) (Below.refl _ _)
theorem St.vShape (l1 : List Thing) {u : Value} {vs : List Value} {rs : List (List Int)} (h : St w0 w (l1 ++ MatV u vs rs :: l2)) (hp : 0 < rs.length) : ∃ g c, u = .slice (some ⟨g, 0, none⟩) rs.length c ∧ rs.length ≤ c := by
  obtain ⟨F, hA, _⟩ := h.get l1
  obtain ⟨g, c, e, h2, _⟩ := MatT.shape (u := u) (ls := rs) ⟨vs, hA.1, hA.2⟩ hp
  exact ⟨g, c, e, h2⟩
theorem St.vLen (l1 : List Thing) {u : Value} {vs : List Value} {rs : List (List Int)} (h : St w0 w (l1 ++ MatV u vs rs :: l2)) : ∃ ao c, u = .slice ao rs.length c ∧ rs.length ≤ c ∧ c ≤ maxLen := by
  obtain ⟨F, hA, _⟩ := h.get l1
  exact MatT.len (u := u) (ls := rs) ⟨vs, hA.1, hA.2⟩
theorem St.mLen (l1 : List Thing) {u : Value} {rs : List (List Int)} (h : St w0 w (l1 ++ MatT u rs :: l2)) : ∃ ao c, u = .slice ao rs.length c ∧ rs.length ≤ c ∧ c ≤ maxLen := by
  obtain ⟨F, hA, _⟩ := h.get l1
  exact MatT.len hA
end

/-- A cell that bears a row. -/
theorem St.boxed {w0 w : World} {v : Value} {xs : List Int} {l : List Thing} [Goods l] (h : St w0 w (RowT v xs :: l)) : St w0 (w.alloc (Obj.cells #[v] 31)) (Blk w.heap.size (.cells #[v] TII) :: RowT v xs :: l) := h.alloc _

/-- The append of a made row, at a step of a region that draws its order. -/
theorem step_append_mat {w0 w : World} {l1 l2 : List Thing} [Goods l1] [Goods l2] {ops : Array Oper} {o : Oper} {a : Act} {K : Act → World → Prop} {Q : Exit → Act → World → Prop} {E : Prop} (hgd : o.guard = none) (s x : Operand)
    (ho : o.op = .call { callee := .builtin .append, args := #[s, x], argTypes := #[54, 54] }) {u v : Value} {ls : List (List Int)} {xs : List Int} {B : Nat} (hs : a.eval s = u) (hx : a.eval x = .slice (some ⟨B, 0, none⟩) 1 1)
    (hS : St w0 w (Blk B (.cells #[v] TII) :: RowT v xs :: (l1 ++ MatT u ls :: l2))) (hf : ls.length ≤ 1000000)
    (h : ∀ g cap w', St w0 w' (l1 ++ MatT (.slice (some ⟨g, 0, none⟩) (ls.length + 1) cap) (ls ++ [xs]) :: l2) → K (a.put o.dst (.slice (some ⟨g, 0, none⟩) (ls.length + 1) cap)) w') :
    if Region.wanted o (yielded ops a.tmps) = true then Oper.wp Try.prog o a w K Q else E := by
  have hw : Region.wanted o (yielded ops a.tmps) = true := by simp [Region.wanted, hgd]
  rw [if_pos hw]
  obtain ⟨g, cap, w', hr, h2⟩ := run_append_mat hS hf o.type
  unfold Oper.wp execOp
  simp only [ho, resolve, invoke, builtin, Sem.run_bind, Sem.run_pure, Result.andThen_ok, List.map_toArray, List.map_cons, List.map_nil, hs, hx, hr]
  exact h g cap w' h2

/-- A call of a Go function, at a step of a region that draws its order. -/
theorem step_call {P : Program} {w : World} {ops : Array Oper} {o : Oper} {a : Act} {K : Act → World → Prop} {Q : Exit → Act → World → Prop} {E : Prop} (hgd : o.guard = none) (f : FuncId) (vals : Array Value)
    (he : (execOp a.eval o).run P w = .ok (.enter f vals) w) (hc : Calls P f vals w (fun e w' => ∃ v, e = .returned v ∧ K (a.put o.dst v) w')) :
    if Region.wanted o (yielded ops a.tmps) = true then Oper.wp P o a w K Q else E := by
  have hw : Region.wanted o (yielded ops a.tmps) = true := by simp [Region.wanted, hgd]
  rw [if_pos hw]
  unfold Oper.wp
  rw [he]
  exact hc.mono fun e w' ⟨v, h1, h2⟩ => by subst h1; exact h2

theorem cell_new {w : World} {b i : Nat} {v : Value} {o : Obj} (h : w.cell? ⟨b, i, none⟩ = some v) : (w.alloc o).cell? ⟨b, i, none⟩ = some v :=
  ((upto_none o).cell (p := ⟨b, i, none⟩) (World.block_lt_of_cell? _ _ h) id).trans h

/-- The copy under way: its arrays so far. -/
inductive CP (w0 wr : World) (B lim t : Nat) (rs : List (List Int)) (k : Nat) (o : Obj) (b : Nat) (u : Value) (vs : List Value) (l : List Thing) : Prop
  | mk (um : Value) (h : St w0 wr (Blk B (.cells #[.bool true, .int .i64 lim, .int .i64 t, um] TH) :: MatT um (rs.take k) :: Blk b o :: MatV u vs rs :: l))

set_option maxRecDepth 10000 in
set_option maxHeartbeats 2000000 in
theorem hcopy_st {w0 w : World} {l : List Thing} [Goods l] {b lim : Nat} {ls : List (List Int)} (h : St w0 w (HT b lim ls :: l)) (hf : ls.length ≤ 1000000) : Calls Try.prog 45 #[ptr b] w fun e w' =>
    ∃ d, e = .returned (ptr d) ∧ St w0 w' (HT d lim ls :: HT b lim ls :: l) := by
  obtain ⟨rs, u, vs, rfl, hvl, ht, hl, hS⟩ := h.htOpen
  generalize htt : tot ([] :: rs) = t at *
  have c0 := hS.cell [] 0 (.bool true) rfl
  have c1 := hS.cell [] 1 (.int .i64 lim) rfl
  have c2 := hS.cell [] 2 (.int .i64 t) rfl
  have c3 := hS.cell [] 3 u rfl
  obtain ⟨uo, uc, rfl, hu1, hu2⟩ := hS.vLen [_]
  obtain ⟨n, hn⟩ : ∃ n, rs.length = n := ⟨_, rfl⟩
  have hnf : n ≤ 1000000 := by simp at hf; omega
  rw [hn] at c3 hu1
  have hlt : b < w.heap.size := lt_of_block (hS.blk [])
  have Hn := Lib.hid hn; clear hn
  have Htt := Lib.hid htt; clear htt
  have SS := Lib.hid hS; clear hS h hf hvl
  unfold maxLen at hu2
  go_enter Try.func45, Try.ntmps45
  go_wp2_with (go_at_call 60; refine (hvalid_at b true _ c0).mono ?_; rintro e w' ⟨rfl, rfl⟩)
  have S2 : Hid (CP w0 (w.alloc (Obj.cells #[.bool true, .int .i64 lim, .int .i64 t, .slice none 0 0] TH)) w.heap.size lim t rs 0 (.cells #[.bool true, .int .i64 lim, .int .i64 t, .slice uo n uc] TH) b (.slice uo n uc) vs l) := by
    have h1 := SS.out
    rw [Hn.out] at h1
    exact Lib.hid ⟨_, (((h1.matNone).alloc (Obj.cells #[.bool true, .int .i64 lim, .int .i64 t, .slice none 0 0] TH)))⟩
  generalize w.alloc (Obj.cells #[.bool true, .int .i64 lim, .int .i64 t, .slice none 0 0] TH) = wa at *
  generalize w.heap.size = B at *
  go_loopw [18] (fun i wr => ∃ k : Nat, k ≤ n ∧ i = .int .i64 k ∧ Hid (CP w0 wr B lim t rs k (.cells #[.bool true, .int .i64 lim, .int .i64 t, .slice uo n uc] TH) b (.slice uo n uc) vs l)) (fun i _ => n - (intOf i).toNat)
  case atStart => exact ⟨0, Nat.zero_le _, rfl, S2⟩
  case round =>
    obtain ⟨k, hk, rfl, hM⟩ := hrel
    obtain ⟨um, hT⟩ := hM.out
    clear hM
    obtain ⟨mo, mc, rfl, _, _⟩ := St.mLen [_] hT
    by_cases hlt : k < n
    · have hkl : k < rs.length := by have := Hn.out; omega
      have hlk : (rs.take k).length = k := by rw [List.length_take]; omega
      rw [hlk] at hT
      obtain ⟨g, gc, e5, _⟩ := St.vShape [_, _, _] hT (by omega)
      simp only [Value.slice.injEq] at e5
      obtain ⟨rfl, y1, y2⟩ := e5
      clear y1 y2
      obtain ⟨so, sc, x0, x1⟩ := St.vCell [_, _, _] k hT hkl
      have x2 := St.vRow [_, _, _] k hT hkl x0
      obtain ⟨xs, hxs⟩ : ∃ xs, rs.getD k [] = xs := ⟨_, rfl⟩
      obtain ⟨q, hq⟩ : ∃ q, xs.length = q := ⟨_, rfl⟩
      rw [hxs, hq] at x0 x1 x2
      have hq8 : q ≤ lim := by
        have h1 : (rs.getD k []).length ≤ tot rs := len_le_tot
        rw [hxs, hq, ← tot_nil, Htt.out] at h1
        omega
      have q3 := hT.cell [] 3 (.slice mo k mc) rfl
      have f3 := hT.frozen [] 3
      have hsnoc : rs.take k ++ [xs] = rs.take (k + 1) := by
        rw [← hxs, List.take_add_one]
        simp [List.getD, hkl]
      have Hlk := Lib.hid hlk; clear hlk
      have X0 := Lib.hid x0; clear x0
      have X2 := Lib.hid x2; clear x2
      have Hkl := Lib.hid hkl; clear hkl
      have Hxs := Lib.hid hxs; clear hxs
      have Hq := Lib.hid hq; clear hq
      have Hsnoc := Lib.hid hsnoc; clear hsnoc
      have T2 := Lib.hid hT; clear hT
      have hk0 : (0 : Int) ≤ (k : Int) := by omega
      have hkn' : (k : Int) < (n : Int) := by omega
      clear c0 c1 c2 c3
      go_wp2
      go_region_law (first
        | ((refine step_append_mat (l1 := [_]) rfl (.tmp 23) (.tmp 26) rfl (by rfl) (by rfl) (T3.out.boxed) (by rw [Hlk.out]; omega) ?_; intro g5 c5 w5 hs5; rw [Hlk.out, Hsnoc.out] at hs5; rw [Hlk.out]; have q5 := hs5.cell [] 3 (.slice mo k mc) rfl; have f5 := hs5.frozen [] 3; have T5 := Lib.hid (show St w0 w5 (_ :: _ :: _ :: _ :: l) from hs5); clear hs5))
        | ((refine step_call rfl 56 #[.slice so q sc] (by simp [go_sem]) ?_; refine (clone_at (w := wr.drew) (xs := xs) (X2.out.kept (Upto.refl (fun _ => False) wr).drew (fun _ _ => id)).sees (by have := Hq.out; omega)).mono ?_; rintro e w1 ⟨u1, rfl, hf⟩; have T3 := Lib.hid (show St w0 w1 (RowT _ _ :: _ :: _ :: _ :: _ :: l) from (T2.out.step ((Upto.refl (fun _ => False) wr).drew)).fresh (RowT.of hf.1) hf.2.1 hf.2.2); obtain ⟨bo1, m1, d1, rfl⟩ := hf.1.shape; have q4 := T3.out.cell [_] 3 (.slice mo k mc) rfl; have q6 := fun o => cell_new (o := o) q4; clear hf; refine ⟨_, rfl, ?_⟩)))
      all_goals
        have T6 := Lib.hid (St.blkSet (i := 3) (v := .slice (some ⟨g5, 0, none⟩) (k + 1) c5) [] T5.out rfl)
        go_wp2
        go_roundw
        case rel => exact ⟨k + 1, by omega, by go_num, Lib.hid ⟨_, T6.out⟩⟩
        case measure => simp [intOf]; omega
    · obtain rfl : n = k := by omega
      have hall : rs.take n = rs := List.take_of_length_le (by rw [Hn.out]; exact Nat.le_refl _)
      rw [hall] at hT
      have T2 := Lib.hid hT; clear hT hall
      go_wp2
      go_ret
      refine ⟨B, rfl, ?_⟩
      obtain ⟨ws, h3⟩ := St.matOpen (T2.out.perm (l' := MatT (.slice mo rs.length mc) rs :: Blk B _ :: Blk b _ :: MatV (.slice uo n uc) vs rs :: l) (List.Perm.swap _ _ _))
      have h4 := h3.perm (l' := Blk B _ :: MatV (.slice mo rs.length mc) ws rs :: Blk b _ :: MatV (.slice uo n uc) vs rs :: l) (List.Perm.swap _ _ _)
      have h5 := St.htClose (lim := lim) (by rw [Htt.out]; exact h4) (by rw [Htt.out]; exact ht) hl
      have h6 := St.up [_] (A := Blk b _) h5
      have h7 := St.up [_, _] (A := MatV (.slice uo n uc) vs rs) (l2 := l) h6
      have h8 := h7.perm (l' := Blk b _ :: MatV (.slice uo n uc) vs rs :: HT B lim ([] :: rs) :: l) (List.Perm.swap _ _ _)
      have h9 := St.htClose (lim := lim) (by rw [Htt.out]; exact h8) (by rw [Htt.out]; exact ht) hl
      exact h9.perm (List.Perm.swap _ _ _)

end Go.Proofs.Ytjganbcolaakkaa
