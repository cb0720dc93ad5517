/-
  The document's heaps: Set and Alloc, walked.
-/
import Derived.Test.YtjganbcolaakkaaRefB
namespace Go.Proofs.Ytjganbcolaakkaa
open Go.RowKit

/-- What Get says here. -/
def RGet (p : Value) (i k : Int) (w : World) (x t er : Int) : Prop := Calls Try.prog 49 #[p, .int .i64 i, .int .i64 k] w fun e w' => e = .returned (.tuple #[.int .i64 x, .int .i64 t, .int .i64 er]) ∧ Upto (fun _ => False) w w'
theorem rset_skip (p : Value) (i k z x t er : Int) (w : World) (h : RGet p i k w x t er) (hne : ¬ (t = 0 ∧ er = 0)) : Calls Try.prog 50 #[p, .int .i64 i, .int .i64 k, .int .i64 z] w fun e w' =>
    e = .returned (.tuple #[.int .i64 t, .int .i64 er]) ∧ Upto (fun _ => False) w w' := by
  have H := Lib.hid h; clear h
  by_cases ht : t = 0
  · have her : ¬ er = 0 := fun e => hne ⟨ht, e⟩
    subst ht
    clear hne
    go_enter Try.func50, Try.ntmps50
    go_wp2_with (go_at_call 49; refine H.out.mono ?_; rintro e w' ⟨rfl, hu⟩; have HU := Lib.hid hu; clear hu)
    go_ret2
    exact ⟨rfl, HU.out⟩
  · clear hne
    go_enter Try.func50, Try.ntmps50
    go_wp2_with (go_at_call 49; refine H.out.mono ?_; rintro e w' ⟨rfl, hu⟩; have HU := Lib.hid hu; clear hu)
    go_ret2
    exact ⟨rfl, HU.out⟩
theorem rset_ok (b g n c j k q gr sc : Nat) (i i' z x y : Int) (w : World) (hi : i = j) (hi' : i' = k) (h : RGet (ptr b) i i' w x 0 0) (hj : j < n) (hk : k < q) (c0 : w.cell? ⟨b, 0, none⟩ = some (.slice (some ⟨g, 0, none⟩) n c)) (cj : w.cell? ⟨g, j, none⟩ = some (.slice (some ⟨gr, 0, none⟩) q sc))
    (cy : w.cell? ⟨gr, k, none⟩ = some (.int .i64 y)) (fy : w.frozen? ⟨gr, k, none⟩ = false) : Calls Try.prog 50 #[ptr b, .int .i64 i, .int .i64 i', .int .i64 z] w fun e w' =>
    e = .returned (.tuple #[.int .i64 0, .int .i64 0]) ∧ ∃ w1, Upto (fun _ => False) w w1 ∧ w' = w1.setCell ⟨gr, k, none⟩ (.int .i64 z) := by
  subst hi hi'
  have H := Lib.hid h; clear h
  have hj0 : (0 : Int) ≤ (j : Int) := by omega
  have hjn : (j : Int) < (n : Int) := by omega
  have hk0 : (0 : Int) ≤ (k : Int) := by omega
  have hkq : (k : Int) < (q : Int) := by omega
  have l0 := World.block_lt_of_cell? _ _ c0
  have l1 := World.block_lt_of_cell? _ _ cj
  have l2 := World.block_lt_of_cell? _ _ cy
  go_enter Try.func50, Try.ntmps50
  go_wp2_with (go_at_call 49; refine H.out.mono ?_; rintro e w1 ⟨rfl, hu⟩; have d0 := (hu.cell (p := ⟨b, 0, none⟩) l0 id).trans c0; have dj := (hu.cell (p := ⟨g, j, none⟩) l1 id).trans cj; have dy := (hu.cell (p := ⟨gr, k, none⟩) l2 id).trans cy; have fy1 := (hu.frozen (p := ⟨gr, k, none⟩) l2 id).trans fy; have HU := Lib.hid hu; clear hu)
  go_ret2
  exact ⟨rfl, w1, HU.out, rfl⟩

section
variable {w0 w : World} {b lim : Nat} {ls : List (List Int)} {l l2 : List Thing}
theorem St.rCloseT {u : Value} (h : St w0 w (Blk b (.cells #[u, .int .i64 lim] TRH) :: MatT u ls :: l)) (h1 : 0 < ls.length) (h2 : tot ls ≤ lim) (h3 : lim ≤ 10000) : St w0 w (RH b lim ls :: l) :=
  St.conv h.join fun _ hF => ⟨u, h1, h2, h3, hF⟩
theorem SR.setR (l1 : List Thing) [Goods l1] [Goods l2] (i k z : Int) (h : St w0 w (l1 ++ RH b lim ls :: l2)) : Calls Try.prog 50 #[ptr b, .int .i64 i, .int .i64 k, .int .i64 z] w fun e w' =>
    e = .returned (.tuple #[.int .i64 (getT ls i k), .int .i64 (arrE ls i)]) ∧ St w0 w' (l1 ++ RH b lim (setL ls i k z) :: l2) := by
  have hG : RGet (ptr b) i k w (getX ls i k) (getT ls i k) (arrE ls i) := SR.get_raw l1 i k h
  by_cases ho : outH ls i
  · have e1 : arrE ls i = 3 := by unfold arrE; rw [if_pos ho]
    have e2 : setL ls i k z = ls := by unfold setL; rw [if_pos ho]
    rw [e2]
    refine (rset_skip _ i k z _ _ _ w hG ?_).mono fun _ _ ⟨h1, h2⟩ => ⟨h1, h.step h2⟩
    rw [e1]; rintro ⟨_, h⟩; cases h
  · have e1 : arrE ls i = 0 := by unfold arrE; rw [if_neg ho]
    by_cases hk : outK ls i k
    · have e2 : setL ls i k z = ls := by unfold setL; rw [if_neg ho, if_pos hk]
      have e3 : getT ls i k = 2 := by unfold getT; rw [if_neg ho, if_pos hk]
      rw [e2]
      refine (rset_skip _ i k z _ _ _ w hG ?_).mono fun _ _ ⟨h1, h2⟩ => ⟨h1, h.step h2⟩
      rw [e3]; rintro ⟨h, _⟩; cases h
    · have e2 : setL ls i k z = ls.set i.toNat ((ls.getD i.toNat []).set k.toNat z) := by unfold setL; rw [if_neg ho, if_neg hk]
      have e3 : getT ls i k = 0 := by unfold getT; rw [if_neg ho, if_neg hk]
      rw [e3, e1] at hG ⊢
      rw [e2]
      obtain ⟨u, vs, h1, h2, h3, hS⟩ := (h.up l1).rOpen
      obtain ⟨g, c, rfl, hc⟩ := hS.vShape [_] h1
      have c0 := hS.cell [] 0 _ rfl
      have hT := (hS.perm (List.Perm.swap _ _ _)).vClose.perm (List.Perm.swap _ _ _)
      have hn := notOut ho
      have hkk := notOutK ho hk
      obtain ⟨gr, sc, x1, x2, x3, x4, x5⟩ := St.matPut [_] i.toNat k.toNat hT hn.2 hkk.2
      refine (rset_ok b g _ c i.toNat k.toNat _ gr sc i k z _ _ w hn.1 hkk.1 hG hn.2 hkk.2 c0 x1 x3 x4).mono ?_
      rintro e w' ⟨rfl, w1, hu, rfl⟩
      exact ⟨rfl, St.down l1 (St.rCloseT (x5 z w1 hu) (by simpa using h1) (by rw [tot_set (by simp)]; exact h2) h3)⟩

theorem rused_in (l1 : List Thing) (h : St w0 w (l1 ++ RH b lim ls :: l2)) (hf : ls.length ≤ 1000000) : Calls Try.prog 72 #[ptr b] w fun e w' => e = .returned (.int .i64 (tot ls : Nat)) ∧ w = w' := SR.used l1 _ h rfl hf
theorem ralloc_neg (n : Int) (w : World) (ao : Option Addr) (m c : Nat) (hp : 0 < m) (c0 : w.cell? ⟨b, 0, none⟩ = some (.slice ao m c)) (hn : n < 0) : Calls Try.prog 48 #[ptr b, .int .i64 n] w fun e w' =>
    e = .returned (.tuple #[.int .i64 0, .int .i64 5, .int .i64 0]) ∧ Upto (fun _ => False) w w' := by
  go_enter Try.func48, Try.ntmps48
  go_wp2_with (go_at_call 71; refine (rvalid_at b _ _ _ _ c0 hp).mono ?_; rintro e w' ⟨rfl, rfl⟩)
  go_quiet (fail)
  go_wp2
  go_ret3
  exact ⟨rfl, (Upto.refl _ w).drewN nq⟩
theorem ralloc_many (t : Nat) (n : Int) (w : World) (ao : Option Addr) (m c : Nat) (hp : 0 < m) (c0 : w.cell? ⟨b, 0, none⟩ = some (.slice ao m c)) (c1 : w.cell? ⟨b, 1, none⟩ = some (.int .i64 lim)) (hl : lim ≤ 10000) (ht : t ≤ lim) (hn0 : 0 ≤ n) (hn : (lim : Int) - t < n)
    (hU : ∀ m, Calls Try.prog 72 #[ptr b] (w.drewN m) fun e w' => e = .returned (.int .i64 t) ∧ w' = w.drewN m) : Calls Try.prog 48 #[ptr b, .int .i64 n] w fun e w' =>
    e = .returned (.tuple #[.int .i64 0, .int .i64 5, .int .i64 0]) ∧ Upto (fun _ => False) w w' := by
  have HU := Lib.hid hU; clear hU
  have hneg : ¬ n < 0 := by omega
  have hw : IntKind.i64.wrap ((lim : Int) - t) = (lim : Int) - t := wrap_small _ (by omega) (by omega)
  go_enter Try.func48, Try.ntmps48
  go_wp2_with (go_at_call 71; refine (rvalid_at b _ _ _ _ c0 hp).mono ?_; rintro e w' ⟨rfl, rfl⟩)
  go_quiet ((go_at_call 72; exact Calls.quiet_of_same (HU.out _)))
  go_wp2
  go_ret3
  exact ⟨rfl, (Upto.refl _ w).drewN nq⟩
end

end Go.Proofs.Ytjganbcolaakkaa
