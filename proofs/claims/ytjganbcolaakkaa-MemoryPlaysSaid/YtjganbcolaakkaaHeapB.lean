/-
  Len, Get, Set, Array, Used, Count, Limit of the heaps, walked.
-/
import Derived.Test.YtjganbcolaakkaaHeapA
namespace Go.Proofs.Ytjganbcolaakkaa
open Go.RowKit

theorem fld0 (w : World) : Sem.run Try.prog (Instr.field 101 (oc 0 0) 1) w = .ok (.int .i64 0) w := by kernel_rfl
theorem fld1 (w : World) : Sem.run Try.prog (Instr.field 101 (oc 0 1) 1) w = .ok (.int .i64 1) w := by kernel_rfl
theorem fld2 (w : World) : Sem.run Try.prog (Instr.field 101 (oc 0 3) 1) w = .ok (.int .i64 3) w := by kernel_rfl

theorem HArr.later {p : Value} {i look : Int} {w w' : World} {v : Value} (h : HArr p i w v look) (hu : Upto (fun _ => False) w w') : HArr p i w' v look := fun w2 h2 => h w2 (hu.trans h2)

def okLook (look er : Int) : Prop := (look = 0 ∧ er = 0) ∨ (look = 1 ∧ er = 1) ∨ (look = 2 ∧ er = 3)
set_option maxRecDepth 100000 in
theorem hlen_of (p : Value) (i look er : Int) (so : Option Addr) (n c : Nat) (w : World) (h : HArr p i w (.slice so n c) look) (hl : okLook look er) : Calls Try.prog 34 #[p, .int .i64 i] w fun e w' =>
    e = .returned (.tuple #[.int .i64 n, .int .i64 er]) ∧ Upto (fun _ => False) w w' := by
  have H := Lib.hid (h w (Upto.refl _ w)); clear h
  have i0 := idx0
  have i1 := idx1
  have i2 := idx2
  have f0 := fld0
  have f1 := fld1
  have f2 := fld2
  rcases hl with ⟨rfl, rfl⟩ | ⟨rfl, rfl⟩ | ⟨rfl, rfl⟩
  all_goals
    go_enter Try.func34, Try.ntmps34
    go_wp2_with (go_at_call 62; refine H.out.mono ?_; rintro e w' ⟨rfl, rfl⟩)
    go_region_held3 (fun _ => True) (trivial) (first | (go_at_call 63; refine (outcomes_at _).mono ?_; rintro e w2 ⟨rfl, hu⟩; have HU := Lib.hid hu; clear hu))
    go_wp2
    go_ret2
    exact ⟨rfl, ((Upto.refl _ _).drew).trans HU.out⟩

set_option maxRecDepth 100000 in
theorem harr_of (p : Value) (i look er : Int) (so : Option Addr) (n c : Nat) (xs : List Int) (w : World) (h : HArr p i w (.slice so n c) look) (hl : okLook look er) (hs : Sees w (.slice so n c) xs) (hb : xs.length * 8 ≤ 140737488355328) : Calls Try.prog 33 #[p, .int .i64 i] w fun e w' =>
    ∃ u, e = .returned (.tuple #[u, .int .i64 er]) ∧ Fresh w xs u w' := by
  have H := Lib.hid (h w (Upto.refl _ w)); clear h
  have HS := Lib.hid hs; clear hs
  have HB := Lib.hid hb; clear hb
  have i0 := idx0
  have i1 := idx1
  have i2 := idx2
  have f0 := fld0
  have f1 := fld1
  have f2 := fld2
  rcases hl with ⟨rfl, rfl⟩ | ⟨rfl, rfl⟩ | ⟨rfl, rfl⟩
  all_goals
    go_enter Try.func33, Try.ntmps33
    go_wp2_with (go_at_call 62; refine H.out.mono ?_; rintro e w' ⟨rfl, rfl⟩)
    go_region_held3 (fun _ => True) (trivial) (first
      | (go_at_call 63; refine (outcomes_at _).mono ?_; rintro e w2 ⟨rfl, hu⟩; have HU := Lib.hid hu; clear hu)
      | (go_at_call 56; refine (clone_at (w := w.drew) (xs := xs) (HS.out.kept (Upto.refl (fun _ => False) w).drew (fun _ _ => id)) HB.out).mono ?_; rintro e w1 ⟨u1, rfl, hf⟩; obtain ⟨uo, un, uc, rfl⟩ := hf.1.shape; have HF := Lib.hid hf; clear hf))
    go_wp2
    go_ret2
    exact ⟨_, rfl, HF.out.1.kept HU.out (fun _ _ => id), HF.out.2.1, Upto.below (((Upto.refl _ _).drew).trans ((Upto.of_below HF.out.2.2 _).trans HU.out))⟩

theorem hget_none (p : Value) (i k t er : Int) (w : World) (h : HEls p i k w (.pointer none) t er) : Calls Try.prog 35 #[p, .int .i64 i, .int .i64 k] w fun e w' =>
    e = .returned (.tuple #[.int .i64 0, .int .i64 t, .int .i64 er]) ∧ Upto (fun _ => False) w w' := by
  have H := Lib.hid h; clear h
  go_enter Try.func35, Try.ntmps35
  go_wp2_with (go_at_call 61; refine H.out.mono ?_; rintro e w1 ⟨rfl, hu⟩; have HU := Lib.hid hu; clear hu)
  go_quiet (fail)
  go_wp2
  go_ret3
  exact ⟨rfl, (HU.out.alloc _).drewN nq⟩
theorem hget_some (p : Value) (i k x : Int) (g j : Nat) (w : World) (h : HEls p i k w (.pointer (some ⟨g, j, none⟩)) 0 0) (hg : g < w.heap.size) (hc : w.cell? ⟨g, j, none⟩ = some (.int .i64 x)) : Calls Try.prog 35 #[p, .int .i64 i, .int .i64 k] w fun e w' =>
    e = .returned (.tuple #[.int .i64 x, .int .i64 0, .int .i64 0]) ∧ Upto (fun _ => False) w w' := by
  have H := Lib.hid h; clear h
  go_enter Try.func35, Try.ntmps35
  go_wp2_with (go_at_call 61; refine H.out.mono ?_; rintro e w1 ⟨rfl, hu⟩; have c1 := (hu.cell (p := ⟨g, j, none⟩) hg id).trans hc; have hz : g < w1.heap.size := Nat.lt_of_lt_of_le hg hu.size; have HU := Lib.hid hu; clear hu)
  go_ret3
  exact ⟨rfl, (HU.out.alloc _)⟩

/-- One cell was stored to. -/
def Poked (w : World) (g j : Nat) (z : Int) (w' : World) : Prop := ∃ w1, Upto (fun _ => False) w w1 ∧ Upto (fun _ => False) (w1.setCell ⟨g, j, none⟩ (.int .i64 z)) w'

theorem hset_none (p : Value) (i k z t er : Int) (w : World) (h : HEls p i k w (.pointer none) t er) : Calls Try.prog 32 #[p, .int .i64 i, .int .i64 k, .int .i64 z] w fun e w' =>
    e = .returned (.tuple #[.int .i64 t, .int .i64 er]) ∧ Upto (fun _ => False) w w' := by
  have H := Lib.hid h; clear h
  go_enter Try.func32, Try.ntmps32
  go_wp2_with (go_at_call 61; refine H.out.mono ?_; rintro e w1 ⟨rfl, hu⟩; have HU := Lib.hid hu; clear hu)
  go_quiet (fail)
  go_wp2
  go_ret2
  exact ⟨rfl, (HU.out.alloc _).drewN nq⟩
theorem hset_some (p : Value) (i k x z : Int) (g j : Nat) (w : World) (h : HEls p i k w (.pointer (some ⟨g, j, none⟩)) 0 0) (hg : g < w.heap.size) (hc : w.cell? ⟨g, j, none⟩ = some (.int .i64 x)) (hf : w.frozen? ⟨g, j, none⟩ = false) : Calls Try.prog 32 #[p, .int .i64 i, .int .i64 k, .int .i64 z] w fun e w' =>
    e = .returned (.tuple #[.int .i64 0, .int .i64 0]) ∧ Poked w g j z w' := by
  have H := Lib.hid h; clear h
  go_enter Try.func32, Try.ntmps32
  go_wp2_with (go_at_call 61; refine H.out.mono ?_; rintro e w1 ⟨rfl, hu⟩; have c1 := (hu.cell (p := ⟨g, j, none⟩) hg id).trans hc; have f1 := (hu.frozen (p := ⟨g, j, none⟩) hg id).trans hf; have hz : g < w1.heap.size := Nat.lt_of_lt_of_le hg hu.size; have hne : ¬ w1.heap.size = g := (by omega); have HU := Lib.hid hu; clear hu)
  go_quiet (fail)
  go_wp2
  go_ret2
  exact ⟨rfl, w1, HU.out, (upto_none _).drewN nq⟩

theorem hused_at (b : Nat) (k : Int) (w : World) (h0 : w.cell? ⟨b, 0, none⟩ = some (.bool true)) (h2 : w.cell? ⟨b, 2, none⟩ = some (.int .i64 k)) : Calls Try.prog 28 #[.pointer (some ⟨b, 0, none⟩)] w fun e w' => e = .returned (.int .i64 k) ∧ w = w' := by
  go_enter Try.func28, Try.ntmps28
  go_wp2_with (go_at_call 60; refine (hvalid_at b true _ h0).mono ?_; rintro e w' ⟨rfl, rfl⟩)
  go_ret
  exact ⟨rfl, rfl⟩
theorem hlimit_at (b : Nat) (k : Int) (w : World) (h0 : w.cell? ⟨b, 0, none⟩ = some (.bool true)) (h1 : w.cell? ⟨b, 1, none⟩ = some (.int .i64 k)) : Calls Try.prog 36 #[.pointer (some ⟨b, 0, none⟩)] w fun e w' => e = .returned (.int .i64 k) ∧ w = w' := by
  go_enter Try.func36, Try.ntmps36
  go_wp2_with (go_at_call 60; refine (hvalid_at b true _ h0).mono ?_; rintro e w' ⟨rfl, rfl⟩)
  go_ret
  exact ⟨rfl, rfl⟩
theorem hcount_at (b : Nat) (ao : Option Addr) (n c : Nat) (w : World) (h0 : w.cell? ⟨b, 0, none⟩ = some (.bool true)) (h3 : w.cell? ⟨b, 3, none⟩ = some (.slice ao n c)) : Calls Try.prog 29 #[.pointer (some ⟨b, 0, none⟩)] w fun e w' => e = .returned (.int .i64 n) ∧ w = w' := by
  go_enter Try.func29, Try.ntmps29
  go_wp2_with (go_at_call 60; refine (hvalid_at b true _ h0).mono ?_; rintro e w' ⟨rfl, rfl⟩)
  go_ret
  exact ⟨rfl, rfl⟩

end Go.Proofs.Ytjganbcolaakkaa
