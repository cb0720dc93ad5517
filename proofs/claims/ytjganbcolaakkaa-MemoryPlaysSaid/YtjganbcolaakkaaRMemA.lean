/-
  The document's memories: the calls that go to their heap.
-/
import Derived.Test.YtjganbcolaakkaaOptB
namespace Go.Proofs.Ytjganbcolaakkaa
open Go.RowKit

abbrev TRM : TypeId := 109

theorem nvalid_nil (w : World) : Calls Try.prog 64 #[.pointer none] w fun e w' => e = .returned (.bool false) ∧ w = w' := by
  go_enter Try.func64, Try.ntmps64
  go_wp2
  go_ret
  exact ⟨rfl, rfl⟩
theorem nvalid_at (b h : Nat) (w : World) (c0 : w.cell? ⟨b, 0, none⟩ = some (ptr h)) : Calls Try.prog 64 #[ptr b] w fun e w' => e = .returned (.bool true) ∧ w = w' := by
  go_enter Try.func64, Try.ntmps64
  go_wp2
  go_ret
  exact ⟨rfl, rfl⟩

/-- A memory of the document. -/
inductive RM (b lim : Nat) (ls : List (List Int)) (w : World) (F : Fp) : Prop
  | mk (h : Nat) (hA : All [Blk b (.cells #[ptr h] TRM), RH h lim ls] w F)
instance (b lim : Nat) (ls : List (List Int)) : Good (RM b lim ls) := ⟨fun h hu hd => by
  obtain ⟨k, h4⟩ := h
  exact ⟨k, All.kept inferInstance h4 hu hd⟩, fun h => by
  obtain ⟨k, h4⟩ := h
  exact All.lt inferInstance h4⟩
section
variable {w0 w w' : World} {b lim : Nat} {ls : List (List Int)} {l : List Thing}
theorem St.rmOpen (h : St w0 w (RM b lim ls :: l)) : ∃ k, St w0 w (Blk b (.cells #[ptr k] TRM) :: RH k lim ls :: l) := by
  obtain ⟨F, ⟨F1, F2, ⟨k, h4⟩, h5⟩, h6⟩ := h
  have h7 : St w0 w (All [Blk b (.cells #[ptr k] TRM), RH k lim ls] :: l) := ⟨F, ⟨F1, F2, h4, h5⟩, h6⟩
  exact ⟨k, h7.split⟩
theorem St.rmClose {k : Nat} (h : St w0 w (Blk b (.cells #[ptr k] TRM) :: RH k lim ls :: l)) : St w0 w (RM b lim ls :: l) :=
  St.conv h.join fun _ hF => ⟨k, hF⟩
end

theorem St.rot (A B C : Thing) (l : List Thing) : (A :: B :: C :: l).Perm (B :: C :: A :: l) := (List.Perm.swap _ _ _).trans (List.Perm.cons _ (List.Perm.swap _ _ _))
section
variable {w0 w : World} {b lim : Nat} {ls : List (List Int)} {l : List Thing} [Goods l]
theorem SN.alloc (n : Int) (h : St w0 w (RM b lim ls :: l)) (hf : ls.length ≤ 999999) : Calls Try.prog 38 #[ptr b, .int .i64 n] w fun e w' =>
    e = .returned (.tuple #[.int .i64 (allocH lim ls n), .int .i64 (allocT lim ls n), .int .i64 0]) ∧ St w0 w' (RM b lim (allocL lim ls n) :: l) := by
  obtain ⟨hb, hS⟩ := h.rmOpen
  have c0 := hS.cell [] 0 (ptr hb) rfl
  have SS := Lib.hid hS; clear hS h
  go_enter Try.func38, Try.ntmps38
  go_wp2_with (first
    | (go_at_call 64; refine (nvalid_at b hb _ c0).mono ?_; rintro e w' ⟨rfl, rfl⟩)
    | (go_at_call 48; refine (SR.allocR [_] n SS.out hf).mono ?_; rintro e w2 ⟨rfl, hs⟩; have S2 := Lib.hid hs; clear hs))
  go_ret3
  exact ⟨rfl, St.rmClose S2.out⟩
theorem SN.len (i : Int) (h : St w0 w (RM b lim ls :: l)) : Calls Try.prog 69 #[ptr b, .int .i64 i] w fun e w' =>
    e = .returned (.tuple #[.int .i64 (lenX ls i), .int .i64 (arrE ls i)]) ∧ St w0 w' (RM b lim ls :: l) := by
  obtain ⟨hb, hS⟩ := h.rmOpen
  have c0 := hS.cell [] 0 (ptr hb) rfl
  have SS := Lib.hid hS; clear hS h
  go_enter Try.func69, Try.ntmps69
  go_wp2_with (first
    | (go_at_call 64; refine (nvalid_at b hb _ c0).mono ?_; rintro e w' ⟨rfl, rfl⟩)
    | (go_at_call 75; refine (SR.lenR [_] i SS.out).mono ?_; rintro e w2 ⟨rfl, hs⟩; have S2 := Lib.hid hs; clear hs))
  go_ret2
  exact ⟨rfl, St.rmClose S2.out⟩
theorem SN.load (i k : Int) (h : St w0 w (RM b lim ls :: l)) : Calls Try.prog 39 #[ptr b, .int .i64 i, .int .i64 k] w fun e w' =>
    e = .returned (.tuple #[.int .i64 (getX ls i k), .int .i64 (getT ls i k), .int .i64 (arrE ls i)]) ∧ St w0 w' (RM b lim ls :: l) := by
  obtain ⟨hb, hS⟩ := h.rmOpen
  have c0 := hS.cell [] 0 (ptr hb) rfl
  have SS := Lib.hid hS; clear hS h
  go_enter Try.func39, Try.ntmps39
  go_wp2_with (first
    | (go_at_call 64; refine (nvalid_at b hb _ c0).mono ?_; rintro e w' ⟨rfl, rfl⟩)
    | (go_at_call 49; refine (SR.getR [_] i k SS.out).mono ?_; rintro e w2 ⟨rfl, hs⟩; have S2 := Lib.hid hs; clear hs))
  go_ret3
  exact ⟨rfl, St.rmClose S2.out⟩
theorem SN.store (i k z : Int) (h : St w0 w (RM b lim ls :: l)) : Calls Try.prog 40 #[ptr b, .int .i64 i, .int .i64 k, .int .i64 z] w fun e w' =>
    e = .returned (.tuple #[.int .i64 (getT ls i k), .int .i64 (arrE ls i)]) ∧ St w0 w' (RM b lim (setL ls i k z) :: l) := by
  obtain ⟨hb, hS⟩ := h.rmOpen
  have c0 := hS.cell [] 0 (ptr hb) rfl
  have SS := Lib.hid hS; clear hS h
  go_enter Try.func40, Try.ntmps40
  go_wp2_with (first
    | (go_at_call 64; refine (nvalid_at b hb _ c0).mono ?_; rintro e w' ⟨rfl, rfl⟩)
    | (go_at_call 50; refine (SR.setR [_] i k z SS.out).mono ?_; rintro e w2 ⟨rfl, hs⟩; have S2 := Lib.hid hs; clear hs))
  go_ret2
  exact ⟨rfl, St.rmClose S2.out⟩
omit [Goods l] in
theorem SN.count (n : Int) (h : St w0 w (RM b lim ls :: l)) (hn : (ls.length : Int) - 1 = n) (hf : ls.length ≤ 1000000) : Calls Try.prog 65 #[ptr b] w fun e w' => e = .returned (.int .i64 n) ∧ w = w' := by
  obtain ⟨hb, hS⟩ := h.rmOpen
  have c0 := hS.cell [] 0 (ptr hb) rfl
  have SS := Lib.hid hS; clear hS h
  have HN := Lib.hid hn; clear hn
  go_enter Try.func65, Try.ntmps65
  go_wp2_with (first
    | (go_at_call 64; refine (nvalid_at b hb _ c0).mono ?_; rintro e w' ⟨rfl, rfl⟩)
    | (go_at_call 73; refine (SR.count [_] n SS.out HN.out hf).mono ?_; rintro e w2 ⟨rfl, rfl⟩))
  go_ret
  exact ⟨rfl, rfl⟩
omit [Goods l] in
theorem SN.limit (n : Int) (h : St w0 w (RM b lim ls :: l)) (hn : (lim : Int) = n) : Calls Try.prog 66 #[ptr b] w fun e w' => e = .returned (.int .i64 n) ∧ w = w' := by
  obtain ⟨hb, hS⟩ := h.rmOpen
  have c0 := hS.cell [] 0 (ptr hb) rfl
  have SS := Lib.hid hS; clear hS h
  have HN := Lib.hid hn; clear hn
  go_enter Try.func66, Try.ntmps66
  go_wp2_with (first
    | (go_at_call 64; refine (nvalid_at b hb _ c0).mono ?_; rintro e w' ⟨rfl, rfl⟩)
    | (go_at_call 74; refine (SR.limit [_] n SS.out HN.out).mono ?_; rintro e w2 ⟨rfl, rfl⟩))
  go_ret
  exact ⟨rfl, rfl⟩
theorem SN.copy (h : St w0 w (RM b lim ls :: l)) (hf : ls.length ≤ 1000000) : Calls Try.prog 41 #[ptr b] w fun e w' =>
    ∃ d, e = .returned (ptr d) ∧ St w0 w' (RM d lim ls :: RM b lim ls :: l) := by
  obtain ⟨hb, hS⟩ := h.rmOpen
  have c0 := hS.cell [] 0 (ptr hb) rfl
  have SS := Lib.hid hS; clear hS h
  go_enter Try.func41, Try.ntmps41
  go_wp2_with (first
    | (go_at_call 64; refine (nvalid_at b hb _ c0).mono ?_; rintro e w' ⟨rfl, rfl⟩)
    | (go_at_call 52; refine (SR.copy [_] SS.out hf).mono ?_; rintro e w2 ⟨d, rfl, hs⟩; have S2 := Lib.hid (show St w0 w2 (RH d lim ls :: Blk b _ :: RH hb lim ls :: l) from hs); clear hs))
  go_ret
  refine ⟨_, rfl, ?_⟩
  have h1 := St.rmClose (l := Blk b _ :: RH hb lim ls :: l) (S2.out.alloc (.cells #[ptr d] TRM))
  exact (St.rmClose (h1.perm (l' := Blk b _ :: RH hb lim ls :: RM _ lim ls :: l) (St.rot _ _ _ _))).perm (List.Perm.swap _ _ _)
theorem SN.new (n : Nat) (i : Int) (h : St w0 w l) (hi : i = n) (hn : n ≤ 10000) : Calls Try.prog 37 #[.int .i64 i] w fun e w' =>
    ∃ b, e = .returned (.tuple #[ptr b, .int .i64 0]) ∧ St w0 w' (RM b n [[]] :: l) := by
  have S0 := Lib.hid h; clear h
  have HI := Lib.hid hi; clear hi
  go_enter Try.func37, Try.ntmps37
  go_wp2_with (go_at_call 47; refine (SR.new n i S0.out HI.out hn).mono ?_; rintro e w2 ⟨d, rfl, hs⟩; have S2 := Lib.hid hs; clear hs)
  go_ret2
  exact ⟨_, rfl, St.rmClose (S2.out.alloc (.cells #[ptr d] TRM))⟩
end
theorem nnew_bad (n : Int) (w : World) (h : n < 0 ∨ 10000 < n) : Calls Try.prog 37 #[.int .i64 n] w fun e w' => e = .returned (.tuple #[.pointer none, .int .i64 2]) ∧ w = w' := by
  go_enter Try.func37, Try.ntmps37
  go_wp2_with (go_at_call 47; refine (rnew_bad _ _ h).mono ?_; rintro e w2 ⟨rfl, rfl⟩)
  go_ret2
  exact ⟨rfl, rfl⟩
theorem nn_alloc (n : Int) (w : World) : Calls Try.prog 38 #[.pointer none, .int .i64 n] w fun e w' => e = .returned (.tuple #[.int .i64 0, .int .i64 0, .int .i64 1]) ∧ w = w' := by
  go_enter Try.func38, Try.ntmps38
  go_wp2_with (go_at_call 64; refine (nvalid_nil _).mono ?_; rintro e w' ⟨rfl, rfl⟩)
  go_ret3
  exact ⟨rfl, rfl⟩
theorem nn_len (i : Int) (w : World) : Calls Try.prog 69 #[.pointer none, .int .i64 i] w fun e w' => e = .returned (.tuple #[.int .i64 0, .int .i64 1]) ∧ w = w' := by
  go_enter Try.func69, Try.ntmps69
  go_wp2_with (go_at_call 64; refine (nvalid_nil _).mono ?_; rintro e w' ⟨rfl, rfl⟩)
  go_ret2
  exact ⟨rfl, rfl⟩
theorem nn_load (i k : Int) (w : World) : Calls Try.prog 39 #[.pointer none, .int .i64 i, .int .i64 k] w fun e w' => e = .returned (.tuple #[.int .i64 0, .int .i64 0, .int .i64 1]) ∧ w = w' := by
  go_enter Try.func39, Try.ntmps39
  go_wp2_with (go_at_call 64; refine (nvalid_nil _).mono ?_; rintro e w' ⟨rfl, rfl⟩)
  go_ret3
  exact ⟨rfl, rfl⟩
theorem nn_store (i k z : Int) (w : World) : Calls Try.prog 40 #[.pointer none, .int .i64 i, .int .i64 k, .int .i64 z] w fun e w' => e = .returned (.tuple #[.int .i64 0, .int .i64 1]) ∧ w = w' := by
  go_enter Try.func40, Try.ntmps40
  go_wp2_with (go_at_call 64; refine (nvalid_nil _).mono ?_; rintro e w' ⟨rfl, rfl⟩)
  go_ret2
  exact ⟨rfl, rfl⟩
theorem nn_count (w : World) : Calls Try.prog 65 #[.pointer none] w fun e w' => e = .returned (.int .i64 0) ∧ w = w' := by
  go_enter Try.func65, Try.ntmps65
  go_wp2_with (go_at_call 64; refine (nvalid_nil _).mono ?_; rintro e w' ⟨rfl, rfl⟩)
  go_ret
  exact ⟨rfl, rfl⟩
theorem nn_limit (w : World) : Calls Try.prog 66 #[.pointer none] w fun e w' => e = .returned (.int .i64 0) ∧ w = w' := by
  go_enter Try.func66, Try.ntmps66
  go_wp2_with (go_at_call 64; refine (nvalid_nil _).mono ?_; rintro e w' ⟨rfl, rfl⟩)
  go_ret
  exact ⟨rfl, rfl⟩
theorem nn_copy (w : World) : Calls Try.prog 41 #[.pointer none] w fun e w' => e = .returned (.pointer none) ∧ w = w' := by
  go_enter Try.func41, Try.ntmps41
  go_wp2_with (go_at_call 64; refine (nvalid_nil _).mono ?_; rintro e w' ⟨rfl, rfl⟩)
  go_ret
  exact ⟨rfl, rfl⟩
theorem nn_span (i : Int) (w : World) : Calls Try.prog 68 #[.pointer none, .int .i64 i] w fun e w' => e = .returned (.tuple #[.int .i64 0, .int .i64 0, .int .i64 1]) ∧ w = w' := by
  go_enter Try.func68, Try.ntmps68
  go_wp2_with (go_at_call 69; refine (nn_len _ _).mono ?_; rintro e w2 ⟨rfl, rfl⟩)
  go_ret3
  exact ⟨rfl, rfl⟩

end Go.Proofs.Ytjganbcolaakkaa
