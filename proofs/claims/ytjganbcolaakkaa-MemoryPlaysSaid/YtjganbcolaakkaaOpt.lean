/-
  Heaps that may be nil (then no arrays are there), of the program and of the document.
-/
import Derived.Test.YtjganbcolaakkaaRefG
import Derived.Test.YtjganbcolaakkaaHNil
namespace Go.Proofs.Ytjganbcolaakkaa
open Go.RowKit

/-- A heap, or nil. -/
def OpT (T : Nat → Thing) (p : Value) (ls : List (List Int)) : Thing := fun w F => (ls = [] ∧ p = .pointer none ∧ ∀ k, ¬ F k) ∨ ∃ b, p = ptr b ∧ ls ≠ [] ∧ T b w F
instance (T : Nat → Thing) [g : ∀ b, Good (T b)] (p : Value) (ls : List (List Int)) : Good (OpT T p ls) := ⟨fun h hu hd => by
  rcases h with ⟨h1, h2, h3⟩ | ⟨b, h1, h2, h3⟩
  · exact Or.inl ⟨h1, h2, h3⟩
  · exact Or.inr ⟨b, h1, h2, (g b).kept h3 hu hd⟩, fun h k hk => by
  rcases h with ⟨h1, h2, h3⟩ | ⟨b, h1, h2, h3⟩
  · exact (h3 k hk).elim
  · exact (g b).lt h3 k hk⟩
def OH (p : Value) (lim : Nat) (ls : List (List Int)) : Thing := OpT (fun b => HT b lim ls) p ls
def OR (p : Value) (lim : Nat) (ls : List (List Int)) : Thing := OpT (fun b => RH b lim ls) p ls
instance (p : Value) (lim : Nat) (ls : List (List Int)) : Good (OH p lim ls) := (inferInstance : Good (OpT (fun b => HT b lim ls) p ls))
instance (p : Value) (lim : Nat) (ls : List (List Int)) : Good (OR p lim ls) := (inferInstance : Good (OpT (fun b => RH b lim ls) p ls))
section
variable {w0 w : World} {l1 l2 : List Thing} {T : Nat → Thing} {p : Value} {ls : List (List Int)}
theorem St.opOpen (l1 : List Thing) (h : St w0 w (l1 ++ OpT T p ls :: l2)) : (ls = [] ∧ p = .pointer none) ∨ ∃ b, p = ptr b ∧ ls ≠ [] ∧ St w0 w (l1 ++ T b :: l2) := by
  obtain ⟨F, ⟨F1, F2, hT, h2, h3, h4⟩, h5⟩ := h.up l1
  rcases hT with ⟨e1, e2, _⟩ | ⟨b, e1, e2, e3⟩
  · exact Or.inl ⟨e1, e2⟩
  · exact Or.inr ⟨b, e1, e2, St.down l1 ⟨F, ⟨F1, F2, e3, h2, h3, h4⟩, h5⟩⟩
theorem St.opSome (l1 : List Thing) {b : Nat} (h : St w0 w (l1 ++ T b :: l2)) (hne : ls ≠ []) : St w0 w (l1 ++ OpT T (ptr b) ls :: l2) :=
  St.down l1 (St.conv (h.up l1) fun _ hF => Or.inr ⟨b, rfl, hne, hF⟩)
theorem St.opNone (h : St w0 w l2) : St w0 w (OpT T (.pointer none) [] :: l2) := by
  obtain ⟨F, h1, h2, h3⟩ := h
  exact ⟨F, ⟨fun _ => False, F, Or.inl ⟨rfl, rfl, fun _ h => h⟩, h1, fun _ h => h.elim, fun k => ⟨Or.inr, fun h => h.elim False.elim id⟩⟩, h2, h3⟩
end
def nz (ls : List (List Int)) (d x : Int) : Int := if ls = [] then d else x
def okE (ls : List (List Int)) : Int := nz ls 1 0
def errE (ls : List (List Int)) (i : Int) : Int := nz ls 1 (arrE ls i)
def cntE (ls : List (List Int)) : Int := nz ls 0 ((ls.length : Int) - 1)
def limE (lim : Nat) (ls : List (List Int)) : Int := nz ls 0 lim
def allT (lim : Nat) (ls : List (List Int)) (n : Int) : Int := nz ls 0 (allocT lim ls n)
def allL (lim : Nat) (ls : List (List Int)) (n : Int) : List (List Int) := if ls = [] then [] else allocL lim ls n
theorem outH_nil (i : Int) : outH [] i := by unfold outH; simp; omega
theorem arrL_nil (i : Int) : arrL [] i = [] := by unfold arrL; rw [if_pos (outH_nil i)]
theorem lenX_nil (i : Int) : lenX [] i = 0 := by unfold lenX; rw [arrL_nil]; rfl
theorem getX_nil (i k : Int) : getX [] i k = 0 := by unfold getX; rw [if_pos (outH_nil i)]
theorem getT_nil (i k : Int) : getT [] i k = 0 := by unfold getT; rw [if_pos (outH_nil i)]
theorem setL_nil (i k z : Int) : setL [] i k z = [] := by unfold setL; rw [if_pos (outH_nil i)]
theorem allocH_nil (lim : Nat) (n : Int) : allocH lim [] n = 0 := by unfold allocH; split <;> simp
theorem allocL_ne {lim : Nat} {ls : List (List Int)} {n : Int} (h : ls ≠ []) : allocL lim ls n ≠ [] := by unfold allocL; split <;> simp [h]
theorem setL_ne {ls : List (List Int)} {i k z : Int} (h : ls ≠ []) : setL ls i k z ≠ [] := by
  intro e
  have h1 : (setL ls i k z).length = ls.length := len_set
  rw [e] at h1
  exact h (List.length_eq_zero_iff.1 h1.symm)
theorem nz_nil (d x : Int) : nz [] d x = d := rfl
theorem nz_ne {ls : List (List Int)} (d x : Int) (h : ls ≠ []) : nz ls d x = x := by unfold nz; rw [if_neg h]

section
variable {w0 w : World} {p : Value} {lim : Nat} {ls : List (List Int)} {l2 : List Thing}
theorem OH.used (l1 : List Thing)  (h : St w0 w (l1 ++ OH p lim ls :: l2)) : Calls Try.prog 28 #[p] w fun e w' =>
    e = .returned (.int .i64 ((tot ls : Int))) ∧ w = w' := by
  rcases St.opOpen l1 h with ⟨rfl, rfl⟩ | ⟨b, rfl, hne, hS⟩
  · exact hb_used _ _ (hbNone _)
  · exact SH.used l1 _ hS rfl
theorem OH.count (l1 : List Thing)  (h : St w0 w (l1 ++ OH p lim ls :: l2)) : Calls Try.prog 29 #[p] w fun e w' =>
    e = .returned (.int .i64 (cntE ls)) ∧ w = w' := by
  rcases St.opOpen l1 h with ⟨rfl, rfl⟩ | ⟨b, rfl, hne, hS⟩
  · exact hb_count _ _ (hbNone _)
  · exact SH.count l1 _ hS (by unfold cntE; rw [nz_ne _ _ hne])
theorem OH.limit (l1 : List Thing)  (h : St w0 w (l1 ++ OH p lim ls :: l2)) : Calls Try.prog 36 #[p] w fun e w' =>
    e = .returned (.int .i64 (limE lim ls)) ∧ w = w' := by
  rcases St.opOpen l1 h with ⟨rfl, rfl⟩ | ⟨b, rfl, hne, hS⟩
  · exact hb_limit _ _ (hbNone _)
  · exact SH.limit l1 _ hS (by unfold limE; rw [nz_ne _ _ hne])
theorem OH.alloc (l1 : List Thing) [Goods l1] [Goods l2] (n : Int) (h : St w0 w (l1 ++ OH p lim ls :: l2)) (hf : ls.length ≤ 999999) : Calls Try.prog 27 #[p, .int .i64 n] w fun e w' =>
    e = .returned (.tuple #[.int .i64 (allocH lim ls n), .int .i64 (allT lim ls n), .int .i64 (okE ls)]) ∧ St w0 w' (l1 ++ OH p lim (allL lim ls n) :: l2) := by
  rcases St.opOpen l1 h with ⟨rfl, rfl⟩ | ⟨b, rfl, hne, hS⟩
  · rw [allocH_nil]
    refine (hb_alloc _ n _ (hbNone _)).mono ?_
    rintro e w' ⟨rfl, rfl⟩
    exact ⟨rfl, h⟩
  · refine (SH.allocR l1 n hS (by omega)).mono ?_
    rintro e w' ⟨rfl, hS'⟩
    unfold allT okE allL
    rw [nz_ne _ _ hne, nz_ne _ _ hne, if_neg hne]
    exact ⟨rfl, St.opSome l1 hS' (allocL_ne hne)⟩
theorem OH.get (l1 : List Thing) [Goods l1] [Goods l2] (i k : Int) (h : St w0 w (l1 ++ OH p lim ls :: l2)) : Calls Try.prog 35 #[p, .int .i64 i, .int .i64 k] w fun e w' =>
    e = .returned (.tuple #[.int .i64 (getX ls i k), .int .i64 (getT ls i k), .int .i64 (errE ls i)]) ∧ St w0 w' (l1 ++ OH p lim ls :: l2) := by
  rcases St.opOpen l1 h with ⟨rfl, rfl⟩ | ⟨b, rfl, hne, hS⟩
  · rw [getX_nil, getT_nil]
    refine (hb_get _ i k _ (hbNone _)).mono ?_
    rintro e w' ⟨rfl, hu⟩
    exact ⟨rfl, h.step hu⟩
  · refine (SH.getR l1 i k hS).mono ?_
    rintro e w' ⟨rfl, hS'⟩
    unfold errE
    rw [nz_ne _ _ hne]
    exact ⟨rfl, St.opSome l1 hS' hne⟩
theorem OH.set (l1 : List Thing) [Goods l1] [Goods l2] (i k z : Int) (h : St w0 w (l1 ++ OH p lim ls :: l2)) : Calls Try.prog 32 #[p, .int .i64 i, .int .i64 k, .int .i64 z] w fun e w' =>
    e = .returned (.tuple #[.int .i64 (getT ls i k), .int .i64 (errE ls i)]) ∧ St w0 w' (l1 ++ OH p lim (setL ls i k z) :: l2) := by
  rcases St.opOpen l1 h with ⟨rfl, rfl⟩ | ⟨b, rfl, hne, hS⟩
  · rw [getT_nil, setL_nil]
    refine (hb_set _ i k z _ (hbNone _)).mono ?_
    rintro e w' ⟨rfl, hu⟩
    exact ⟨rfl, h.step hu⟩
  · refine (SH.setR l1 i k z hS).mono ?_
    rintro e w' ⟨rfl, hS'⟩
    unfold errE
    rw [nz_ne _ _ hne]
    exact ⟨rfl, St.opSome l1 hS' (setL_ne hne)⟩
theorem OH.len (l1 : List Thing) [Goods l1] [Goods l2] (i : Int) (h : St w0 w (l1 ++ OH p lim ls :: l2)) : Calls Try.prog 34 #[p, .int .i64 i] w fun e w' =>
    e = .returned (.tuple #[.int .i64 (lenX ls i), .int .i64 (errE ls i)]) ∧ St w0 w' (l1 ++ OH p lim ls :: l2) := by
  rcases St.opOpen l1 h with ⟨rfl, rfl⟩ | ⟨b, rfl, hne, hS⟩
  · rw [lenX_nil]
    refine (hb_len _ i _ (hbNone _)).mono ?_
    rintro e w' ⟨rfl, hu⟩
    exact ⟨rfl, h.step hu⟩
  · refine (SH.lenR l1 i hS).mono ?_
    rintro e w' ⟨rfl, hS'⟩
    unfold errE
    rw [nz_ne _ _ hne]
    exact ⟨rfl, St.opSome l1 hS' hne⟩
theorem OH.array (l1 : List Thing) [Goods l1] [Goods l2] (i : Int) (h : St w0 w (l1 ++ OH p lim ls :: l2)) : Calls Try.prog 33 #[p, .int .i64 i] w fun e w' =>
    ∃ u, e = .returned (.tuple #[u, .int .i64 (errE ls i)]) ∧ St w0 w' (RowT u (arrL ls i) :: (l1 ++ OH p lim ls :: l2)) := by
  rcases St.opOpen l1 h with ⟨rfl, rfl⟩ | ⟨b, rfl, hne, hS⟩
  · rw [arrL_nil]
    refine Calls.mono (hb_array _ i _ (hbNone _)) ?_
    rintro e w' ⟨u, rfl, hf⟩
    exact ⟨u, rfl, h.fresh (RowT.of hf.1) hf.2.1 hf.2.2⟩
  · refine (SH.arrayR l1 i hS).mono ?_
    rintro e w' ⟨u, rfl, hS'⟩
    unfold errE
    rw [nz_ne _ _ hne]
    exact ⟨u, rfl, St.opSome (RowT _ _ :: l1) hS' hne⟩
theorem OH.copy (l1 : List Thing) [Goods l1] [Goods l2] (h : St w0 w (l1 ++ OH p lim ls :: l2)) (hf : ls.length ≤ 1000000) : Calls Try.prog 45 #[p] w fun e w' =>
    ∃ d, e = .returned d ∧ St w0 w' (OH d lim ls :: (l1 ++ OH p lim ls :: l2)) := by
  rcases St.opOpen l1 h with ⟨rfl, rfl⟩ | ⟨b, rfl, hne, hS⟩
  · refine (hb_copy _ _ (hbNone _)).mono ?_
    rintro e w' ⟨rfl, rfl⟩
    exact ⟨_, rfl, h.opNone⟩
  · refine (SH.copy l1 hS hf).mono ?_
    rintro e w' ⟨d, rfl, hS'⟩
    exact ⟨_, rfl, St.opSome [] (St.opSome (T := fun b => HT b lim ls) (ls := ls) (HT d lim ls :: l1) hS' hne) hne⟩
theorem OR.used (l1 : List Thing)  (h : St w0 w (l1 ++ OR p lim ls :: l2)) (hf : ls.length ≤ 1000000) : Calls Try.prog 72 #[p] w fun e w' =>
    e = .returned (.int .i64 ((tot ls : Int))) ∧ w = w' := by
  rcases St.opOpen l1 h with ⟨rfl, rfl⟩ | ⟨b, rfl, hne, hS⟩
  · exact rn_used _
  · exact SR.used l1 _ hS rfl hf
theorem OR.count (l1 : List Thing)  (h : St w0 w (l1 ++ OR p lim ls :: l2)) (hf : ls.length ≤ 1000000) : Calls Try.prog 73 #[p] w fun e w' =>
    e = .returned (.int .i64 (cntE ls)) ∧ w = w' := by
  rcases St.opOpen l1 h with ⟨rfl, rfl⟩ | ⟨b, rfl, hne, hS⟩
  · exact rn_count _
  · exact SR.count l1 _ hS (by unfold cntE; rw [nz_ne _ _ hne]) hf
theorem OR.limit (l1 : List Thing)  (h : St w0 w (l1 ++ OR p lim ls :: l2)) : Calls Try.prog 74 #[p] w fun e w' =>
    e = .returned (.int .i64 (limE lim ls)) ∧ w = w' := by
  rcases St.opOpen l1 h with ⟨rfl, rfl⟩ | ⟨b, rfl, hne, hS⟩
  · exact rn_limit _
  · exact SR.limit l1 _ hS (by unfold limE; rw [nz_ne _ _ hne])
theorem OR.alloc (l1 : List Thing) [Goods l1] [Goods l2] (n : Int) (h : St w0 w (l1 ++ OR p lim ls :: l2)) (hf : ls.length ≤ 999999) : Calls Try.prog 48 #[p, .int .i64 n] w fun e w' =>
    e = .returned (.tuple #[.int .i64 (allocH lim ls n), .int .i64 (allT lim ls n), .int .i64 (okE ls)]) ∧ St w0 w' (l1 ++ OR p lim (allL lim ls n) :: l2) := by
  rcases St.opOpen l1 h with ⟨rfl, rfl⟩ | ⟨b, rfl, hne, hS⟩
  · rw [allocH_nil]
    refine (rn_alloc n _).mono ?_
    rintro e w' ⟨rfl, rfl⟩
    exact ⟨rfl, h⟩
  · refine (SR.allocR l1 n hS (by omega)).mono ?_
    rintro e w' ⟨rfl, hS'⟩
    unfold allT okE allL
    rw [nz_ne _ _ hne, nz_ne _ _ hne, if_neg hne]
    exact ⟨rfl, St.opSome l1 hS' (allocL_ne hne)⟩
theorem OR.get (l1 : List Thing) [Goods l1] [Goods l2] (i k : Int) (h : St w0 w (l1 ++ OR p lim ls :: l2)) : Calls Try.prog 49 #[p, .int .i64 i, .int .i64 k] w fun e w' =>
    e = .returned (.tuple #[.int .i64 (getX ls i k), .int .i64 (getT ls i k), .int .i64 (errE ls i)]) ∧ St w0 w' (l1 ++ OR p lim ls :: l2) := by
  rcases St.opOpen l1 h with ⟨rfl, rfl⟩ | ⟨b, rfl, hne, hS⟩
  · rw [getX_nil, getT_nil]
    refine (rn_get i k _).mono ?_
    rintro e w' ⟨rfl, hu⟩
    exact ⟨rfl, h.step hu⟩
  · refine (SR.getR l1 i k hS).mono ?_
    rintro e w' ⟨rfl, hS'⟩
    unfold errE
    rw [nz_ne _ _ hne]
    exact ⟨rfl, St.opSome l1 hS' hne⟩
theorem OR.set (l1 : List Thing) [Goods l1] [Goods l2] (i k z : Int) (h : St w0 w (l1 ++ OR p lim ls :: l2)) : Calls Try.prog 50 #[p, .int .i64 i, .int .i64 k, .int .i64 z] w fun e w' =>
    e = .returned (.tuple #[.int .i64 (getT ls i k), .int .i64 (errE ls i)]) ∧ St w0 w' (l1 ++ OR p lim (setL ls i k z) :: l2) := by
  rcases St.opOpen l1 h with ⟨rfl, rfl⟩ | ⟨b, rfl, hne, hS⟩
  · rw [getT_nil, setL_nil]
    refine (rn_set i k z _).mono ?_
    rintro e w' ⟨rfl, hu⟩
    exact ⟨rfl, h.step hu⟩
  · refine (SR.setR l1 i k z hS).mono ?_
    rintro e w' ⟨rfl, hS'⟩
    unfold errE
    rw [nz_ne _ _ hne]
    exact ⟨rfl, St.opSome l1 hS' (setL_ne hne)⟩
theorem OR.len (l1 : List Thing) [Goods l1] [Goods l2] (i : Int) (h : St w0 w (l1 ++ OR p lim ls :: l2)) : Calls Try.prog 75 #[p, .int .i64 i] w fun e w' =>
    e = .returned (.tuple #[.int .i64 (lenX ls i), .int .i64 (errE ls i)]) ∧ St w0 w' (l1 ++ OR p lim ls :: l2) := by
  rcases St.opOpen l1 h with ⟨rfl, rfl⟩ | ⟨b, rfl, hne, hS⟩
  · rw [lenX_nil]
    refine (rn_len i _).mono ?_
    rintro e w' ⟨rfl, hu⟩
    exact ⟨rfl, h.step hu⟩
  · refine (SR.lenR l1 i hS).mono ?_
    rintro e w' ⟨rfl, hS'⟩
    unfold errE
    rw [nz_ne _ _ hne]
    exact ⟨rfl, St.opSome l1 hS' hne⟩
theorem OR.array (l1 : List Thing) [Goods l1] [Goods l2] (i : Int) (h : St w0 w (l1 ++ OR p lim ls :: l2)) : Calls Try.prog 51 #[p, .int .i64 i] w fun e w' =>
    ∃ u, e = .returned (.tuple #[u, .int .i64 (errE ls i)]) ∧ St w0 w' (RowT u (arrL ls i) :: (l1 ++ OR p lim ls :: l2)) := by
  rcases St.opOpen l1 h with ⟨rfl, rfl⟩ | ⟨b, rfl, hne, hS⟩
  · rw [arrL_nil]
    refine Calls.mono (rn_arr i _) ?_
    rintro e w' ⟨u, rfl, hf⟩
    exact ⟨u, rfl, h.fresh (RowT.of hf.1) hf.2.1 hf.2.2⟩
  · refine (SR.arrayR l1 i hS).mono ?_
    rintro e w' ⟨u, rfl, hS'⟩
    unfold errE
    rw [nz_ne _ _ hne]
    exact ⟨u, rfl, St.opSome (RowT _ _ :: l1) hS' hne⟩
theorem OR.copy (l1 : List Thing) [Goods l1] [Goods l2] (h : St w0 w (l1 ++ OR p lim ls :: l2)) (hf : ls.length ≤ 1000000) : Calls Try.prog 52 #[p] w fun e w' =>
    ∃ d, e = .returned d ∧ St w0 w' (OR d lim ls :: (l1 ++ OR p lim ls :: l2)) := by
  rcases St.opOpen l1 h with ⟨rfl, rfl⟩ | ⟨b, rfl, hne, hS⟩
  · refine (rn_copy _).mono ?_
    rintro e w' ⟨rfl, rfl⟩
    exact ⟨_, rfl, h.opNone⟩
  · refine (SR.copy l1 hS hf).mono ?_
    rintro e w' ⟨d, rfl, hS'⟩
    exact ⟨_, rfl, St.opSome [] (St.opSome (T := fun b => RH b lim ls) (ls := ls) (RH d lim ls :: l1) hS' hne) hne⟩
end

end Go.Proofs.Ytjganbcolaakkaa
