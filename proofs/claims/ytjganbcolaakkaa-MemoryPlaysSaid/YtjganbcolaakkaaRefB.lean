/-
  The document's heaps: Array, Len, Get, Set, walked.
-/
import Derived.Test.YtjganbcolaakkaaRefA
namespace Go.Proofs.Ytjganbcolaakkaa
open Go.RowKit

theorem rarray_nil (i : Int) (w : World) : Calls Try.prog 51 #[.pointer none, .int .i64 i] w fun e w' => e = .returned (.tuple #[.slice none 0 0, .int .i64 1]) ∧ w = w' := by
  go_enter Try.func51, Try.ntmps51
  go_wp2_with (go_at_call 71; refine (rvalid_nil _).mono ?_; rintro e w' ⟨rfl, rfl⟩)
  go_ret2
  exact ⟨rfl, rfl⟩
theorem rarray_out (b n c : Nat) (ao : Option Addr) (i : Int) (w : World) (hp : 0 < n) (c0 : w.cell? ⟨b, 0, none⟩ = some (.slice ao n c)) (hi : i < 0 ∨ (n : Int) ≤ i) : Calls Try.prog 51 #[ptr b, .int .i64 i] w fun e w' => e = .returned (.tuple #[.slice none 0 0, .int .i64 3]) ∧ w = w' := by
  by_cases hneg : i < 0
  · go_enter Try.func51, Try.ntmps51
    go_wp2_with (go_at_call 71; refine (rvalid_at b _ _ _ _ c0 hp).mono ?_; rintro e w' ⟨rfl, rfl⟩)
    go_ret2
    exact ⟨rfl, rfl⟩
  · have hge : (n : Int) ≤ i := by omega
    clear hi
    go_enter Try.func51, Try.ntmps51
    go_wp2_with (go_at_call 71; refine (rvalid_at b _ _ _ _ c0 hp).mono ?_; rintro e w' ⟨rfl, rfl⟩)
    go_ret2
    exact ⟨rfl, rfl⟩
theorem rarray_in (b g n c k : Nat) (so : Option Addr) (sn sc : Nat) (xs : List Int) (i : Int) (w : World) (hi : i = k) (hk : k < n) (c0 : w.cell? ⟨b, 0, none⟩ = some (.slice (some ⟨g, 0, none⟩) n c)) (cj : w.cell? ⟨g, k, none⟩ = some (.slice so sn sc))
    (hs : Sees w (.slice so sn sc) xs) (hb : xs.length ≤ 10000) : Calls Try.prog 51 #[ptr b, .int .i64 i] w fun e w' => ∃ u, e = .returned (.tuple #[u, .int .i64 0]) ∧ Fresh w xs u w' := by
  subst hi
  have HS := Lib.hid hs; clear hs
  have HB := Lib.hid hb; clear hb
  have h1 : ¬ ((k : Int) < 0) := by omega
  have h2 : ¬ ((n : Int) ≤ (k : Int)) := by omega
  have hk0 : (0 : Int) ≤ (k : Int) := by omega
  have hp : 0 < n := by omega
  have d0 := fun o => cell_new (o := o) c0
  have dj := fun o => cell_new (o := o) cj
  go_enter Try.func51, Try.ntmps51
  go_wp2_with (first
    | (go_at_call 71; refine (rvalid_at b _ _ _ _ c0 hp).mono ?_; rintro e w' ⟨rfl, rfl⟩)
    | (at_builtin; refine wpList_append_row _ rfl (.tmp 20) (.tmp 27) 31 rfl Try.underlying31 Try.infoInt _ _ [] xs rfl rfl (Row.made w) ?c1 ?c2 ?c3))
  case c1 => exact HS.out.below ((Below.refl _ _).alloc (Nat.le_refl _) _)
  case c2 => have := HB.out; simp; omega
  case c3 =>
    intro v' w' hr hu hk
    obtain ⟨vo, vn, vc, rfl⟩ := hr.shape
    have HR := Lib.hid hr; clear hr
    have HU := Lib.hid hu; clear hu
    have HK := Lib.hid hk; clear hk
    go_wp2
    go_ret2
    refine ⟨_, rfl, by simpa using HR.out, fun k h => ?_, Upto.below (((Upto.refl _ w).alloc _).step HU.out fun i hi hS => ?_)⟩
    · rcases HK.out k h with h | h
      · cases h; exact Nat.le_refl _
      · exact Nat.le_trans (by simp) h
    · have : i = w.heap.size := by cases hS; rfl
      omega

section
variable {w0 w : World} {b lim : Nat} {ls : List (List Int)} {l2 : List Thing}
theorem SR.arr (l1 : List Thing) [Goods l1] [Goods l2] (i : Int) (h : St w0 w (l1 ++ RH b lim ls :: l2)) : Calls Try.prog 51 #[ptr b, .int .i64 i] w fun e w' =>
    ∃ u, e = .returned (.tuple #[u, .int .i64 (arrE ls i)]) ∧ Fresh w (arrL ls i) u w' := by
  obtain ⟨u, vs, h1, h2, h3, hS⟩ := (h.up l1).rOpen
  obtain ⟨g, c, rfl, hc⟩ := hS.vShape [_] h1
  have c0 := hS.cell [] 0 _ rfl
  unfold arrE
  by_cases ho : outH ls i
  · simp only [arrL, if_pos ho]
    refine (rarray_out b _ c _ i w h1 c0 ho).mono ?_
    rintro e w' ⟨rfl, rfl⟩
    exact ⟨_, rfl, rowNone w, fun k h => (rowOf_none h).elim, Below.refl _ _⟩
  · rw [arrL_in ho, if_neg ho]
    have hn := notOut ho
    obtain ⟨so, sc, x0, x1⟩ := hS.vCell [_] i.toNat hn.2
    have hr := hS.vRow [_] i.toNat hn.2 x0
    have hle := take_tot_le ls i.toNat hn.2
    exact rarray_in b g _ c i.toNat so _ sc _ i w hn.1 hn.2 c0 x1 hr.sees (by omega)
theorem SR.arrayR (l1 : List Thing) [Goods l1] [Goods l2] (i : Int) (h : St w0 w (l1 ++ RH b lim ls :: l2)) : Calls Try.prog 51 #[ptr b, .int .i64 i] w fun e w' =>
    ∃ u, e = .returned (.tuple #[u, .int .i64 (arrE ls i)]) ∧ St w0 w' (RowT u (arrL ls i) :: (l1 ++ RH b lim ls :: l2)) :=
  (SR.arr l1 i h).mono fun _ _ ⟨u, h1, h2⟩ => ⟨u, h1, h.fresh (RowT.of h2.1) h2.2.1 h2.2.2⟩

/-- What Array says here. -/
def RArr (p : Value) (i : Int) (w : World) (xs : List Int) (er : Int) : Prop := Calls Try.prog 51 #[p, .int .i64 i] w fun e w' => ∃ u, e = .returned (.tuple #[u, .int .i64 er]) ∧ Fresh w xs u w'
theorem rlen_of (p : Value) (i er : Int) (xs : List Int) (w : World) (h : RArr p i w xs er) : Calls Try.prog 75 #[p, .int .i64 i] w fun e w' =>
    e = .returned (.tuple #[.int .i64 xs.length, .int .i64 er]) ∧ Upto (fun _ => False) w w' := by
  have H := Lib.hid h; clear h
  obtain ⟨q, hq⟩ : ∃ q, xs.length = q := ⟨_, rfl⟩
  rw [hq]
  have Hq := Lib.hid hq; clear hq
  go_enter Try.func75, Try.ntmps75
  go_wp2_with (go_at_call 51; refine H.out.mono ?_; rintro e w' ⟨u, rfl, hf⟩; obtain ⟨ao, c, rfl, _⟩ := hf.1.slice; rw [Hq.out]; have HF := Lib.hid hf.2.2; clear hf)
  go_ret2
  exact ⟨rfl, Upto.of_below HF.out _⟩
theorem rget_bad (p : Value) (i k er : Int) (xs : List Int) (w : World) (h : RArr p i w xs er) (he : ¬ er = 0) : Calls Try.prog 49 #[p, .int .i64 i, .int .i64 k] w fun e w' =>
    e = .returned (.tuple #[.int .i64 0, .int .i64 0, .int .i64 er]) ∧ Upto (fun _ => False) w w' := by
  have H := Lib.hid h; clear h
  go_enter Try.func49, Try.ntmps49
  go_wp2_with (go_at_call 51; refine H.out.mono ?_; rintro e w' ⟨u, rfl, hf⟩; obtain ⟨ao, n, c, rfl⟩ := hf.1.shape; have HF := Lib.hid hf.2.2; clear hf)
  go_ret3
  exact ⟨rfl, Upto.of_below HF.out _⟩
theorem rget_trap (p : Value) (i k : Int) (xs : List Int) (w : World) (h : RArr p i w xs 0) (hk : k < 0 ∨ (xs.length : Int) ≤ k) : Calls Try.prog 49 #[p, .int .i64 i, .int .i64 k] w fun e w' =>
    e = .returned (.tuple #[.int .i64 0, .int .i64 2, .int .i64 0]) ∧ Upto (fun _ => False) w w' := by
  have H := Lib.hid h; clear h
  obtain ⟨q, hq⟩ : ∃ q, xs.length = q := ⟨_, rfl⟩
  rw [hq] at hk
  have Hq := Lib.hid hq; clear hq
  by_cases hneg : k < 0
  · go_enter Try.func49, Try.ntmps49
    go_wp2_with (go_at_call 51; refine H.out.mono ?_; rintro e w' ⟨u, rfl, hf⟩; obtain ⟨ao, n, c, rfl⟩ := hf.1.shape; have HF := Lib.hid hf.2.2; clear hf)
    go_ret3
    exact ⟨rfl, Upto.of_below HF.out _⟩
  · have hge : (q : Int) ≤ k := by omega
    clear hk
    go_enter Try.func49, Try.ntmps49
    go_wp2_with (go_at_call 51; refine H.out.mono ?_; rintro e w' ⟨u, rfl, hf⟩; obtain ⟨ao, c, rfl, _⟩ := hf.1.slice; rw [Hq.out]; have HF := Lib.hid hf.2.2; clear hf)
    go_ret3
    exact ⟨rfl, Upto.of_below HF.out _⟩
theorem rget_ok (p : Value) (i : Int) (k : Nat) (xs : List Int) (w : World) (h : RArr p i w xs 0) (hk : k < xs.length) : Calls Try.prog 49 #[p, .int .i64 i, .int .i64 k] w fun e w' =>
    e = .returned (.tuple #[.int .i64 (xs.getD k 0), .int .i64 0, .int .i64 0]) ∧ Upto (fun _ => False) w w' := by
  have H := Lib.hid h; clear h
  obtain ⟨q, hq⟩ : ∃ q, xs.length = q := ⟨_, rfl⟩
  rw [hq] at hk
  obtain ⟨y, hy⟩ : ∃ y, xs.getD k 0 = y := ⟨_, rfl⟩
  rw [hy]
  have Hq := Lib.hid hq; clear hq
  have Hy := Lib.hid hy; clear hy
  have hneg : ¬ ((k : Int) < 0) := by omega
  have hge : ¬ ((q : Int) ≤ (k : Int)) := by omega
  go_enter Try.func49, Try.ntmps49
  go_wp2_with (go_at_call 51; refine H.out.mono ?_; rintro e w' ⟨u, rfl, hf⟩; obtain ⟨ao, c, rfl, _⟩ := hf.1.slice; obtain ⟨g, rfl, _, cy, _⟩ := Row.cellAt hf.1 k (by rw [Hq.out]; exact hk); rw [Hy.out] at cy; rw [Hq.out]; have HF := Lib.hid hf.2.2; clear hf)
  go_ret3
  exact ⟨rfl, Upto.of_below HF.out _⟩

theorem SR.lenR (l1 : List Thing) [Goods l1] [Goods l2] (i : Int) (h : St w0 w (l1 ++ RH b lim ls :: l2)) : Calls Try.prog 75 #[ptr b, .int .i64 i] w fun e w' =>
    e = .returned (.tuple #[.int .i64 (lenX ls i), .int .i64 (arrE ls i)]) ∧ St w0 w' (l1 ++ RH b lim ls :: l2) :=
  (rlen_of _ i _ _ w (SR.arr l1 i h)).mono fun _ _ ⟨h1, h2⟩ => ⟨h1, h.step h2⟩
theorem SR.get_raw (l1 : List Thing) [Goods l1] [Goods l2] (i k : Int) (h : St w0 w (l1 ++ RH b lim ls :: l2)) : Calls Try.prog 49 #[ptr b, .int .i64 i, .int .i64 k] w fun e w' =>
    e = .returned (.tuple #[.int .i64 (getX ls i k), .int .i64 (getT ls i k), .int .i64 (arrE ls i)]) ∧ Upto (fun _ => False) w w' := by
  have hA := SR.arr l1 i h
  unfold getX getT
  by_cases ho : outH ls i
  · simp only [if_pos ho]
    exact rget_bad _ i k _ _ w hA (by unfold arrE; rw [if_pos ho]; decide)
  · have he : arrE ls i = 0 := by unfold arrE; rw [if_neg ho]
    rw [he] at hA ⊢
    simp only [if_neg ho]
    by_cases hk : outK ls i k
    · simp only [if_pos hk]
      exact rget_trap _ i k _ w hA hk
    · simp only [if_neg hk]
      have hkk := notOutK ho hk
      rw [← arrL_in ho] at hkk
      have := rget_ok _ i k.toNat _ w hA hkk.2
      rwa [← hkk.1] at this
theorem SR.getR (l1 : List Thing) [Goods l1] [Goods l2] (i k : Int) (h : St w0 w (l1 ++ RH b lim ls :: l2)) : Calls Try.prog 49 #[ptr b, .int .i64 i, .int .i64 k] w fun e w' =>
    e = .returned (.tuple #[.int .i64 (getX ls i k), .int .i64 (getT ls i k), .int .i64 (arrE ls i)]) ∧ St w0 w' (l1 ++ RH b lim ls :: l2) :=
  (SR.get_raw l1 i k h).mono fun _ _ ⟨h1, h2⟩ => ⟨h1, h.step h2⟩
end

end Go.Proofs.Ytjganbcolaakkaa
