/-
  The small functions of the heaps, walked.
-/
import Derived.Test.YtjganbcolaakkaaSep
import Derived.Test.YtjganbcolaakkaaMOwn
import Derived.Deep.RegionHeld3
namespace Go.Proofs.Ytjganbcolaakkaa
open Go.RowKit

abbrev TH : TypeId := 88
abbrev TII : TypeId := 31

theorem hvalid_nil (w : World) : Calls Try.prog 60 #[.pointer none] w fun e w' => e = .returned (.bool false) ∧ w = w' := by
  go_enter Try.func60, Try.ntmps60
  go_wp2
  go_ret
  exact ⟨rfl, rfl⟩
theorem hvalid_at (b : Nat) (m : Bool) (w : World) (h0 : w.cell? ⟨b, 0, none⟩ = some (.bool m)) : Calls Try.prog 60 #[.pointer (some ⟨b, 0, none⟩)] w fun e w' => e = .returned (.bool m) ∧ w = w' := by
  go_enter Try.func60, Try.ntmps60
  go_wp2
  go_ret
  exact ⟨rfl, rfl⟩

theorem hnew_bad (n : Int) (w : World) (h : n < 0 ∨ 10000 < n) : Calls Try.prog 26 #[.int .i64 n] w fun e w' => e = .returned (.tuple #[.pointer none, .int .i64 2]) ∧ w = w' := by
  rcases h with h | h
  · go_enter Try.func26, Try.ntmps26
    go_wp2
    go_ret2
    exact ⟨rfl, rfl⟩
  · have h' : ¬ n < 0 := by omega
    go_enter Try.func26, Try.ntmps26
    go_wp2
    go_ret2
    exact ⟨rfl, rfl⟩
theorem hnew_ok (n : Int) (w : World) (h0 : 0 ≤ n) (h1 : n ≤ 10000) : Calls Try.prog 26 #[.int .i64 n] w fun e w' =>
    e = .returned (.tuple #[.pointer (some ⟨w.heap.size, 0, none⟩), .int .i64 0]) ∧ w' = w.alloc (.cells #[.bool true, .int .i64 n, .int .i64 0, .slice none 0 0] TH) := by
  go_enter Try.func26, Try.ntmps26
  go_wp2
  go_ret2
  exact ⟨rfl, rfl⟩

abbrev oc (t e : Int) : Value := .agg #[.int .i64 t, .int .i64 e]
def ocs : Value := .agg #[.int .i64 0, .int .i64 0, .int .i64 0, .int .i64 1, .int .i64 0, .int .i64 3, .int .i64 2, .int .i64 0]
theorem outcomes_at (w : World) : Calls Try.prog 63 #[] w fun e w' => e = .returned ocs ∧ Upto (fun _ => False) w w' := by
  go_enter Try.func63, Try.ntmps63
  go_wp2
  exact bodyPost_ret (v := ocs) (by simp [results, Try.results63, go_sem, ocs]) rfl ⟨rfl, (Upto.refl _ w).alloc _⟩

theorem idx0 (w : World) : Sem.run Try.prog (Instr.index 106 ocs (Value.int IntKind.i64 0)) w = .ok (oc 0 0) w := by kernel_rfl
theorem idx1 (w : World) : Sem.run Try.prog (Instr.index 106 ocs (Value.int IntKind.i64 1)) w = .ok (oc 0 1) w := by kernel_rfl
theorem idx2 (w : World) : Sem.run Try.prog (Instr.index 106 ocs (Value.int IntKind.i64 2)) w = .ok (oc 0 3) w := by kernel_rfl
theorem idx3 (w : World) : Sem.run Try.prog (Instr.index 106 ocs (Value.int IntKind.i64 3)) w = .ok (oc 2 0) w := by kernel_rfl

/-! array -/

theorem harray_nil (i : Int) (w : World) : Calls Try.prog 62 #[.pointer none, .int .i64 i] w fun e w' => e = .returned (.tuple #[.slice none 0 0, .int .i64 1]) ∧ w = w' := by
  go_enter Try.func62, Try.ntmps62
  go_wp2_with (go_at_call 60; refine (hvalid_nil _).mono ?_; rintro e w' ⟨rfl, rfl⟩)
  go_ret2
  exact ⟨rfl, rfl⟩
theorem harray_zero (b : Nat) (i : Int) (w : World) (h0 : w.cell? ⟨b, 0, none⟩ = some (.bool false)) : Calls Try.prog 62 #[.pointer (some ⟨b, 0, none⟩), .int .i64 i] w fun e w' => e = .returned (.tuple #[.slice none 0 0, .int .i64 1]) ∧ w = w' := by
  go_enter Try.func62, Try.ntmps62
  go_wp2_with (go_at_call 60; refine (hvalid_at b false _ h0).mono ?_; rintro e w' ⟨rfl, rfl⟩)
  go_ret2
  exact ⟨rfl, rfl⟩
theorem harray_neg (b : Nat) (i : Int) (w : World) (h0 : w.cell? ⟨b, 0, none⟩ = some (.bool true)) (hi : i < 0) : Calls Try.prog 62 #[.pointer (some ⟨b, 0, none⟩), .int .i64 i] w fun e w' => e = .returned (.tuple #[.slice none 0 0, .int .i64 2]) ∧ w = w' := by
  go_enter Try.func62, Try.ntmps62
  go_wp2_with (go_at_call 60; refine (hvalid_at b true _ h0).mono ?_; rintro e w' ⟨rfl, rfl⟩)
  go_ret2
  exact ⟨rfl, rfl⟩
theorem harray_many (b : Nat) (i : Int) (ao : Option Addr) (n c : Nat) (w : World) (h0 : w.cell? ⟨b, 0, none⟩ = some (.bool true)) (h3 : w.cell? ⟨b, 3, none⟩ = some (.slice ao n c)) (hi : (n : Int) < i) : Calls Try.prog 62 #[.pointer (some ⟨b, 0, none⟩), .int .i64 i] w fun e w' => e = .returned (.tuple #[.slice none 0 0, .int .i64 2]) ∧ w = w' := by
  have hn : ¬ i < 0 := by omega
  go_enter Try.func62, Try.ntmps62
  go_wp2_with (go_at_call 60; refine (hvalid_at b true _ h0).mono ?_; rintro e w' ⟨rfl, rfl⟩)
  go_ret2
  exact ⟨rfl, rfl⟩
theorem harray_none (b : Nat) (ao : Option Addr) (n c : Nat) (w : World) (h0 : w.cell? ⟨b, 0, none⟩ = some (.bool true)) (h3 : w.cell? ⟨b, 3, none⟩ = some (.slice ao n c)) : Calls Try.prog 62 #[.pointer (some ⟨b, 0, none⟩), .int .i64 0] w fun e w' => e = .returned (.tuple #[.slice none 0 0, .int .i64 0]) ∧ w = w' := by
  have hn : ¬ (n : Int) < 0 := by omega
  go_enter Try.func62, Try.ntmps62
  go_wp2_with (go_at_call 60; refine (hvalid_at b true _ h0).mono ?_; rintro e w' ⟨rfl, rfl⟩)
  go_ret2
  exact ⟨rfl, rfl⟩
theorem harray_some (b j g n c : Nat) (so : Option Addr) (sn sc : Nat) (i : Int) (w : World) (hi : i = (j : Int) + 1) (h0 : w.cell? ⟨b, 0, none⟩ = some (.bool true)) (h3 : w.cell? ⟨b, 3, none⟩ = some (.slice (some ⟨g, 0, none⟩) n c)) (hj : j < n) (hm : n ≤ maxLen)
    (hc : w.cell? ⟨g, j, none⟩ = some (.slice so sn sc)) :
    Calls Try.prog 62 #[.pointer (some ⟨b, 0, none⟩), .int .i64 i] w fun e w' => e = .returned (.tuple #[.slice so sn sc, .int .i64 0]) ∧ w = w' := by
  subst hi
  unfold maxLen at hm
  have h1 : ¬ ((j : Int) + 1 < 0) := by omega
  have h2 : ¬ ((n : Int) < (j : Int) + 1) := by omega
  have h4 : ¬ ((j : Int) + 1 = 0) := by omega
  have hw : IntKind.i64.wrap ((j : Int) + 1 - 1) = (j : Int) := by
    rw [show (j : Int) + 1 - 1 = j by omega]
    exact wrap_small _ (by omega) (by omega)
  go_enter Try.func62, Try.ntmps62
  go_wp2_with (go_at_call 60; refine (hvalid_at b true _ h0).mono ?_; rintro e w' ⟨rfl, rfl⟩)
  go_ret2
  exact ⟨rfl, rfl⟩

/-! element -/

/-- What array says of a handle, here and later: the slice and the look. -/
def HArr (p : Value) (i : Int) (w : World) (v : Value) (look : Int) : Prop := ∀ w', Upto (fun _ => False) w w' → Calls Try.prog 62 #[p, .int .i64 i] w' fun e w2 => e = .returned (.tuple #[v, .int .i64 look]) ∧ w' = w2

theorem upto_none {w : World} (o : Obj) : Upto (fun _ => False) w (w.alloc o) := (Upto.refl _ w).alloc o

/-- What element says. -/
def HEls (p : Value) (i k : Int) (w : World) (q : Value) (t er : Int) : Prop := Calls Try.prog 61 #[p, .int .i64 i, .int .i64 k] w fun e w' => e = .returned (.tuple #[q, oc t er]) ∧ Upto (fun _ => False) w w'

set_option maxRecDepth 100000 in
set_option maxHeartbeats 400000 in
theorem hels_bad1 (p : Value) (i k : Int) (w : World) (h : HArr p i w (.slice none 0 0) 1) : Calls Try.prog 61 #[p, .int .i64 i, .int .i64 k] w fun e w' => e = .returned (.tuple #[.pointer none, oc 0 1]) ∧ Upto (fun _ => False) w w' := by
  have H := Lib.hid (h _ (upto_none (.cells #[.int .i64 0, .int .i64 0] 101))); clear h
  have i1 := idx1
  go_enter Try.func61, Try.ntmps61
  go_wp2_with (go_at_call 62; refine H.out.mono ?_; rintro e w' ⟨rfl, rfl⟩)
  go_region_held3 (fun _ => True) (trivial) (first | (go_at_call 63; refine (outcomes_at _).mono ?_; rintro e w2 ⟨rfl, hu⟩; have c0 := (hu.cell (p := ⟨w.heap.size, 0, none⟩) (by simp) id).trans (show _ = some (Value.int .i64 0) by simp); have c1 := (hu.cell (p := ⟨w.heap.size, 1, none⟩) (by simp) id).trans (show _ = some (Value.int .i64 0) by simp); have f0 := (hu.frozen (p := ⟨w.heap.size, 0, none⟩) (by simp) id).trans (show _ = false by simp);  have f1 := (hu.frozen (p := ⟨w.heap.size, 1, none⟩) (by simp) id).trans (show _ = false by simp); have HU := Lib.hid hu; clear hu))
  go_wp2
  exact bodyPost_ret (v := .tuple #[.pointer none, oc 0 1]) (by simp [results, Try.results61, go_sem, oc, c0, c1]) rfl ⟨rfl, ((((upto_none _).trans ((Upto.refl _ _).drew)).trans HU.out).setCell (Or.inr (Nat.le_refl _)) _).setCell (Or.inr (Nat.le_refl _)) _⟩
set_option maxRecDepth 100000 in
set_option maxHeartbeats 400000 in
theorem hels_bad2 (p : Value) (i k : Int) (w : World) (h : HArr p i w (.slice none 0 0) 2) : Calls Try.prog 61 #[p, .int .i64 i, .int .i64 k] w fun e w' => e = .returned (.tuple #[.pointer none, oc 0 3]) ∧ Upto (fun _ => False) w w' := by
  have H := Lib.hid (h _ (upto_none (.cells #[.int .i64 0, .int .i64 0] 101))); clear h
  have i1 := idx2
  go_enter Try.func61, Try.ntmps61
  go_wp2_with (go_at_call 62; refine H.out.mono ?_; rintro e w' ⟨rfl, rfl⟩)
  go_region_held3 (fun _ => True) (trivial) (first | (go_at_call 63; refine (outcomes_at _).mono ?_; rintro e w2 ⟨rfl, hu⟩; have c0 := (hu.cell (p := ⟨w.heap.size, 0, none⟩) (by simp) id).trans (show _ = some (Value.int .i64 0) by simp); have c1 := (hu.cell (p := ⟨w.heap.size, 1, none⟩) (by simp) id).trans (show _ = some (Value.int .i64 0) by simp); have f0 := (hu.frozen (p := ⟨w.heap.size, 0, none⟩) (by simp) id).trans (show _ = false by simp);  have f1 := (hu.frozen (p := ⟨w.heap.size, 1, none⟩) (by simp) id).trans (show _ = false by simp); have HU := Lib.hid hu; clear hu))
  go_wp2
  exact bodyPost_ret (v := .tuple #[.pointer none, oc 0 3]) (by simp [results, Try.results61, go_sem, oc, c0, c1]) rfl ⟨rfl, ((((upto_none _).trans ((Upto.refl _ _).drew)).trans HU.out).setCell (Or.inr (Nat.le_refl _)) _).setCell (Or.inr (Nat.le_refl _)) _⟩
set_option maxRecDepth 100000 in
set_option maxHeartbeats 400000 in
theorem hels_neg (p : Value) (i k : Int) (so : Option Addr) (n c : Nat) (w : World) (h : HArr p i w (.slice so n c) 0) (hk : k < 0) : Calls Try.prog 61 #[p, .int .i64 i, .int .i64 k] w fun e w' => e = .returned (.tuple #[.pointer none, oc 2 0]) ∧ Upto (fun _ => False) w w' := by
  have H := Lib.hid (h _ (upto_none (.cells #[.int .i64 0, .int .i64 0] 101))); clear h
  have i1 := idx3
  go_enter Try.func61, Try.ntmps61
  go_wp2_with (go_at_call 62; refine H.out.mono ?_; rintro e w' ⟨rfl, rfl⟩)
  go_region_held3 (fun _ => True) (trivial) (first | (go_at_call 63; refine (outcomes_at _).mono ?_; rintro e w2 ⟨rfl, hu⟩; have c0 := (hu.cell (p := ⟨w.heap.size, 0, none⟩) (by simp) id).trans (show _ = some (Value.int .i64 0) by simp); have c1 := (hu.cell (p := ⟨w.heap.size, 1, none⟩) (by simp) id).trans (show _ = some (Value.int .i64 0) by simp); have f0 := (hu.frozen (p := ⟨w.heap.size, 0, none⟩) (by simp) id).trans (show _ = false by simp);  have f1 := (hu.frozen (p := ⟨w.heap.size, 1, none⟩) (by simp) id).trans (show _ = false by simp); have HU := Lib.hid hu; clear hu))
  go_wp2
  exact bodyPost_ret (v := .tuple #[.pointer none, oc 2 0]) (by simp [results, Try.results61, go_sem, oc, c0, c1]) rfl ⟨rfl, ((((upto_none _).trans ((Upto.refl _ _).drew)).trans HU.out).setCell (Or.inr (Nat.le_refl _)) _).setCell (Or.inr (Nat.le_refl _)) _⟩
set_option maxRecDepth 100000 in
set_option maxHeartbeats 400000 in
theorem hels_many (p : Value) (i k : Int) (so : Option Addr) (n c : Nat) (w : World) (h : HArr p i w (.slice so n c) 0) (hk : (n : Int) ≤ k) : Calls Try.prog 61 #[p, .int .i64 i, .int .i64 k] w fun e w' => e = .returned (.tuple #[.pointer none, oc 2 0]) ∧ Upto (fun _ => False) w w' := by
  have H := Lib.hid (h _ (upto_none (.cells #[.int .i64 0, .int .i64 0] 101))); clear h
  have i1 := idx3
  have hk0 : ¬ k < 0 := by omega
  go_enter Try.func61, Try.ntmps61
  go_wp2_with (go_at_call 62; refine H.out.mono ?_; rintro e w' ⟨rfl, rfl⟩)
  go_region_held3 (fun _ => True) (trivial) (first | (go_at_call 63; refine (outcomes_at _).mono ?_; rintro e w2 ⟨rfl, hu⟩; have c0 := (hu.cell (p := ⟨w.heap.size, 0, none⟩) (by simp) id).trans (show _ = some (Value.int .i64 0) by simp); have c1 := (hu.cell (p := ⟨w.heap.size, 1, none⟩) (by simp) id).trans (show _ = some (Value.int .i64 0) by simp); have f0 := (hu.frozen (p := ⟨w.heap.size, 0, none⟩) (by simp) id).trans (show _ = false by simp);  have f1 := (hu.frozen (p := ⟨w.heap.size, 1, none⟩) (by simp) id).trans (show _ = false by simp); have HU := Lib.hid hu; clear hu))
  go_wp2
  exact bodyPost_ret (v := .tuple #[.pointer none, oc 2 0]) (by simp [results, Try.results61, go_sem, oc, c0, c1]) rfl ⟨rfl, ((((upto_none _).trans ((Upto.refl _ _).drew)).trans HU.out).setCell (Or.inr (Nat.le_refl _)) _).setCell (Or.inr (Nat.le_refl _)) _⟩
set_option maxRecDepth 100000 in
set_option maxHeartbeats 400000 in
theorem hels_ok (p : Value) (i : Int) (k g n c : Nat) (w : World) (h : HArr p i w (.slice (some ⟨g, 0, none⟩) n c) 0) (hk : k < n) : Calls Try.prog 61 #[p, .int .i64 i, .int .i64 (k : Nat)] w fun e w' => e = .returned (.tuple #[.pointer (some ⟨g, k, none⟩), oc 0 0]) ∧ Upto (fun _ => False) w w' := by
  have H := Lib.hid (h _ (upto_none (.cells #[.int .i64 0, .int .i64 0] 101))); clear h
  have i1 := idx0
  have hk0 : ¬ (k : Int) < 0 := by omega
  have hk1 : ¬ (n : Int) ≤ k := by omega
  go_enter Try.func61, Try.ntmps61
  go_wp2_with (go_at_call 62; refine H.out.mono ?_; rintro e w' ⟨rfl, rfl⟩)
  go_region_held3 (fun _ => True) (trivial) (first | (go_at_call 63; refine (outcomes_at _).mono ?_; rintro e w2 ⟨rfl, hu⟩; have c0 := (hu.cell (p := ⟨w.heap.size, 0, none⟩) (by simp) id).trans (show _ = some (Value.int .i64 0) by simp); have c1 := (hu.cell (p := ⟨w.heap.size, 1, none⟩) (by simp) id).trans (show _ = some (Value.int .i64 0) by simp); have f0 := (hu.frozen (p := ⟨w.heap.size, 0, none⟩) (by simp) id).trans (show _ = false by simp);  have f1 := (hu.frozen (p := ⟨w.heap.size, 1, none⟩) (by simp) id).trans (show _ = false by simp); have HU := Lib.hid hu; clear hu))
  go_wp2
  exact bodyPost_ret (v := .tuple #[.pointer (some ⟨g, k, none⟩), oc 0 0]) (by simp [results, Try.results61, go_sem, oc, c0, c1]) rfl ⟨rfl, ((((upto_none _).trans ((Upto.refl _ _).drew)).trans HU.out).setCell (Or.inr (Nat.le_refl _)) _).setCell (Or.inr (Nat.le_refl _)) _⟩

end Go.Proofs.Ytjganbcolaakkaa
