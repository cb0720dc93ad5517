/-
  A memory in memory; its small functions, walked.
-/
import Derived.Test.YtjganbcolaakkaaNums
namespace Go.Proofs.Ytjganbcolaakkaa
open Go.RowKit

abbrev TM : TypeId := 72
abbrev TSp : TypeId := 91

def spanCells (ss : List (Nat × Nat)) : List Value := ss.flatMap fun s => [.int .i64 s.1, .int .i64 s.2]
theorem spanCells_cons (s : Nat × Nat) (ss : List (Nat × Nat)) : spanCells (s :: ss) = .int .i64 s.1 :: .int .i64 s.2 :: spanCells ss := rfl
theorem spanCells_append (ss ts : List (Nat × Nat)) : spanCells (ss ++ ts) = spanCells ss ++ spanCells ts := by simp [spanCells]
theorem spanCells_length (ss : List (Nat × Nat)) : (spanCells ss).length = ss.length * 2 := by
  induction ss with
  | nil => rfl
  | cons s ss ih => rw [spanCells_cons]; simp only [List.length_cons]; omega
theorem spanCells_get (ss : List (Nat × Nat)) : ∀ j, j < ss.length → (spanCells ss)[j * 2]? = some (.int .i64 (ss.getD j (0, 0)).1) ∧ (spanCells ss)[j * 2 + 1]? = some (.int .i64 (ss.getD j (0, 0)).2) := by
  induction ss with
  | nil => intro j hj; simp at hj
  | cons s ss ih =>
    intro j hj
    rw [spanCells_cons]
    cases j with
    | zero => exact ⟨rfl, rfl⟩
    | succ j =>
      have := ih j (by simpa using hj)
      rw [show (j + 1) * 2 = (j * 2 + 1) + 1 by omega]
      simpa using this

/-- A row of spans that the program made. -/
def SRow (w : World) (u : Value) (ss : List (Nat × Nat)) : Prop := w.ownsRow 0 TSp 2 u ss.length (spanCells ss)

theorem SRow.kept {S : Nat → Prop} {w w' : World} {v : Value} {xs : List (Nat × Nat)} (h : SRow w v xs) (hu : Upto S w w') (hd : ∀ k, rowOf v k → ¬ S k) : SRow w' v xs := by
  refine ⟨h.1, ?_⟩
  rcases h.2 with hn | ⟨g, cap, cur, rfl, hb, hgg, rest⟩
  · exact .inl hn
  · exact .inr ⟨g, cap, cur, rfl, hb, (hu.block g (lt_of_block hgg) (hd g rfl)).trans hgg, rest⟩
theorem SRow.lt {w : World} {v : Value} {xs : List (Nat × Nat)} (h : SRow w v xs) : ∀ k, rowOf v k → k < w.heap.size := fun k hk => (World.ownsRow.lt h k hk).2
theorem SRow.open {w : World} {v : Value} {ss : List (Nat × Nat)} (h : SRow w v ss) (hp : 0 < ss.length) : ∃ g c, v = .slice (some ⟨g, 0, none⟩) ss.length c ∧ ss.length ≤ c ∧ c ≤ maxLen ∧ g < w.heap.size ∧
    ∀ j, j < ss.length → w.cell? ⟨g, j * 2, none⟩ = some (.int .i64 (ss.getD j (0, 0)).1) ∧ w.cell? ⟨g, j * 2 + 1, none⟩ = some (.int .i64 (ss.getD j (0, 0)).2) := by
  rcases id h.2 with ⟨rfl, hn⟩ | ⟨g, cap, cur, rfl, _, hg, hnc, hcm, hcs, htake⟩
  · omega
  · refine ⟨g, cap, rfl, hnc, hcm, lt_of_block hg, fun j hj => ?_⟩
    have h1 := World.ownsRow.cellAt h (j * 2) (by omega)
    have h2 := World.ownsRow.cellAt h (j * 2 + 1) (by omega)
    rw [h1, h2]
    exact spanCells_get ss j hj

inductive Mem (w : World) (b : Nat) (limit : Nat) (v u : Value) (cs : List Int) (ss : List (Nat × Nat)) : Prop
  | mk (block : w.heap[b]? = some (.cells #[.int .i64 limit, v, u] TM (0, 0))) (cells : Row w v cs) (spans : SRow w u ss) (h1 : ¬ rowOf v b) (h2 : ¬ rowOf u b) (h3 : ∀ k, rowOf v k → ¬ rowOf u k)
      (pos : 0 < ss.length) (room : cs.length ≤ limit) (lim : limit ≤ 10000) (fit : ∀ s ∈ ss, s.1 + s.2 ≤ cs.length) (few : ss.length ≤ 1000000000)

section
variable {w w' : World} {b limit : Nat} {v u : Value} {cs : List Int} {ss : List (Nat × Nat)}
theorem Mem.c0 (h : Mem w b limit v u cs ss) : w.cell? ⟨b, 0, none⟩ = some (.int .i64 limit) := by
  obtain ⟨hb, _⟩ := h
  rw [cell_of_row w b 0 _ TM (0, 0) hb]; rfl
theorem Mem.c1 (h : Mem w b limit v u cs ss) : w.cell? ⟨b, 1, none⟩ = some v := by
  obtain ⟨hb, _⟩ := h
  rw [cell_of_row w b 1 _ TM (0, 0) hb]; rfl
theorem Mem.c2 (h : Mem w b limit v u cs ss) : w.cell? ⟨b, 2, none⟩ = some u := by
  obtain ⟨hb, _⟩ := h
  rw [cell_of_row w b 2 _ TM (0, 0) hb]; rfl
theorem Mem.f1 (h : Mem w b limit v u cs ss) : w.frozen? ⟨b, 1, none⟩ = false := by
  obtain ⟨hb, _⟩ := h
  exact frozen_of_row w b 1 _ TM hb
theorem Mem.f2 (h : Mem w b limit v u cs ss) : w.frozen? ⟨b, 2, none⟩ = false := by
  obtain ⟨hb, _⟩ := h
  exact frozen_of_row w b 2 _ TM hb
theorem Mem.lt (h : Mem w b limit v u cs ss) : b < w.heap.size := by
  obtain ⟨hb, _⟩ := h
  exact lt_of_block hb
theorem Mem.kept {S : Nat → Prop} (h : Mem w b limit v u cs ss) (hu : Upto S w w') (hb : ¬ S b) (hv : ∀ k, rowOf v k → ¬ S k) (huu : ∀ k, rowOf u k → ¬ S k) : Mem w' b limit v u cs ss := by
  have hlt := h.lt
  obtain ⟨h1, h2, h3, h4, h5, h6, h7, h8, h9, h10, h11⟩ := h
  exact ⟨(hu.block b hlt hb).trans h1, h2.kept hu hv, h3.kept hu huu, h4, h5, h6, h7, h8, h9, h10, h11⟩
end

theorem mvalid_nil (w : World) : Calls Try.prog 55 #[.pointer none] w fun e w' => e = .returned (.bool false) ∧ w = w' := by
  go_enter Try.func55, Try.ntmps55
  go_wp2
  go_ret
  exact ⟨rfl, rfl⟩
theorem mvalid_at (b : Nat) (ao : Option Addr) (n c : Nat) (w : World) (h2 : w.cell? ⟨b, 2, none⟩ = some (.slice ao (n + 1) c)) : Calls Try.prog 55 #[.pointer (some ⟨b, 0, none⟩)] w fun e w' => e = .returned (.bool true) ∧ w = w' := by
  have h0 : (0 : Int) < (n : Int) + 1 := by omega
  go_enter Try.func55, Try.ntmps55
  go_wp2
  go_ret
  exact ⟨rfl, rfl⟩
theorem mvalid_zero (b : Nat) (ao : Option Addr) (c : Nat) (w : World) (h2 : w.cell? ⟨b, 2, none⟩ = some (.slice ao 0 c)) : Calls Try.prog 55 #[.pointer (some ⟨b, 0, none⟩)] w fun e w' => e = .returned (.bool false) ∧ w = w' := by
  go_enter Try.func55, Try.ntmps55
  go_wp2
  go_ret
  exact ⟨rfl, rfl⟩

theorem mnew_bad (n : Int) (w : World) (h : n < 0 ∨ 10000 < n) : Calls Try.prog 15 #[.int .i64 n] w fun e w' => e = .returned (.tuple #[.pointer none, .int .i64 2]) ∧ w = w' := by
  rcases h with h | h
  · go_enter Try.func15, Try.ntmps15
    go_wp2
    go_ret2
    exact ⟨rfl, rfl⟩
  · have h' : ¬ n < 0 := by omega
    go_enter Try.func15, Try.ntmps15
    go_wp2
    go_ret2
    exact ⟨rfl, rfl⟩
theorem mnew_ok (n : Int) (w : World) (h0 : 0 ≤ n) (h1 : n ≤ 10000) : Calls Try.prog 15 #[.int .i64 n] w fun e w' =>
    e = .returned (.tuple #[.pointer (some ⟨w.heap.size + 1, 0, none⟩), .int .i64 0]) ∧
    w' = (w.alloc (.cells #[.int .i64 0, .int .i64 0] TSp)).alloc (.cells #[.int .i64 n, .slice none 0 0, .slice (some ⟨w.heap.size, 0, none⟩) 1 1] TM) := by
  go_enter Try.func15, Try.ntmps15
  go_wp2
  go_ret2
  exact ⟨rfl, rfl⟩

theorem mcount_at (b : Nat) (ao : Option Addr) (n c : Nat) (w : World) (hn : n ≤ 1000000000) (h2 : w.cell? ⟨b, 2, none⟩ = some (.slice ao (n + 1) c)) : Calls Try.prog 19 #[.pointer (some ⟨b, 0, none⟩)] w fun e w' => e = .returned (.int .i64 n) ∧ w = w' := by
  go_enter Try.func19, Try.ntmps19
  go_wp2_with (go_at_call 55; refine (mvalid_at b ao n c _ h2).mono ?_; rintro e w' ⟨rfl, rfl⟩)
  go_ret
  exact ⟨by go_num, rfl⟩
theorem mlimit_at (b : Nat) (ao : Option Addr) (n c limit : Nat) (w : World) (h0 : w.cell? ⟨b, 0, none⟩ = some (.int .i64 limit)) (h2 : w.cell? ⟨b, 2, none⟩ = some (.slice ao (n + 1) c)) : Calls Try.prog 44 #[.pointer (some ⟨b, 0, none⟩)] w fun e w' => e = .returned (.int .i64 limit) ∧ w = w' := by
  go_enter Try.func44, Try.ntmps44
  go_wp2_with (go_at_call 55; refine (mvalid_at b ao n c _ h2).mono ?_; rintro e w' ⟨rfl, rfl⟩)
  go_ret
  exact ⟨rfl, rfl⟩
theorem mcells_at (b : Nat) (ao : Option Addr) (n c : Nat) (v : Value) (cs : List Int) (w : World) (h1 : w.cell? ⟨b, 1, none⟩ = some v) (h2 : w.cell? ⟨b, 2, none⟩ = some (.slice ao (n + 1) c)) (hs : Row w v cs) (hb : cs.length ≤ 10000) :
    Calls Try.prog 18 #[.pointer (some ⟨b, 0, none⟩)] w (Cloned w cs) := by
  obtain ⟨vo, vn, vc, rfl⟩ := hs.shape
  have Hs := Lib.hid hs; clear hs
  have Hb := Lib.hid hb; clear hb
  go_enter Try.func18, Try.ntmps18
  go_wp2_with (first
    | (go_at_call 55; refine (mvalid_at b ao n c _ h2).mono ?_; rintro e w' ⟨rfl, rfl⟩)
    | (go_at_call 56; refine (clone_at Hs.out.sees (by have := Hb.out; omega)).mono ?_; rintro e w1 ⟨u, rfl, hF⟩))
  go_ret
  exact ⟨_, rfl, hF⟩

set_option maxHeartbeats 400000 in
theorem mspan_in (b g n c j : Nat) (f l : Int) (w : World) (h2 : w.cell? ⟨b, 2, none⟩ = some (.slice (some ⟨g, 0, none⟩) (n + 1) c)) (hj : j < n + 1)
    (hf : w.cell? ⟨g, j * 2, none⟩ = some (.int .i64 f)) (hl : w.cell? ⟨g, j * 2 + 1, none⟩ = some (.int .i64 l)) :
    Calls Try.prog 17 #[.pointer (some ⟨b, 0, none⟩), .int .i64 j] w fun e w' => e = .returned (.tuple #[.int .i64 f, .int .i64 l, .int .i64 0]) ∧ Upto (fun _ => False) w w' := by
  have h0 : ¬ ((j : Int) < 0) := by omega
  have h1 : ¬ ((n : Int) + 1 ≤ (j : Int)) := by omega
  have h3 : ((j : Int) < (n : Int) + 1) := by omega
  go_enter Try.func17, Try.ntmps17
  go_wp2_with (go_at_call 55; refine (mvalid_at b _ n c _ h2).mono ?_; rintro e w' ⟨rfl, rfl⟩)
  go_quiet (fail)
  go_wp2
  go_ret3
  exact ⟨rfl, ((Upto.refl _ w).alloc _).drewN nq⟩

theorem mspan_nil (h : Int) (w : World) : Calls Try.prog 17 #[.pointer none, .int .i64 h] w fun e w' => e = .returned (.tuple #[.int .i64 0, .int .i64 0, .int .i64 1]) ∧ w = w' := by
  go_enter Try.func17, Try.ntmps17
  go_wp2_with (go_at_call 55; refine (mvalid_nil _).mono ?_; rintro e w' ⟨rfl, rfl⟩)
  go_ret3
  exact ⟨rfl, rfl⟩
theorem mspan_out (b : Nat) (ao : Option Addr) (n c : Nat) (h : Int) (w : World) (h2 : w.cell? ⟨b, 2, none⟩ = some (.slice ao (n + 1) c)) (hh : h < 0 ∨ (n : Int) + 1 ≤ h) :
    Calls Try.prog 17 #[.pointer (some ⟨b, 0, none⟩), .int .i64 h] w fun e w' => e = .returned (.tuple #[.int .i64 0, .int .i64 0, .int .i64 3]) ∧ w = w' := by
  rcases hh with hh | hh
  · go_enter Try.func17, Try.ntmps17
    go_wp2_with (go_at_call 55; refine (mvalid_at b ao n c _ h2).mono ?_; rintro e w' ⟨rfl, rfl⟩)
    go_ret3
    exact ⟨rfl, rfl⟩
  · have h' : ¬ h < 0 := by omega
    go_enter Try.func17, Try.ntmps17
    go_wp2_with (go_at_call 55; refine (mvalid_at b ao n c _ h2).mono ?_; rintro e w' ⟨rfl, rfl⟩)
    go_ret3
    exact ⟨rfl, rfl⟩

/-- A call of Span answered so, and made at most new blocks. -/
theorem mlen_of (p : Value) (h f l x : Int) (w : World) (hS : Calls Try.prog 17 #[p, .int .i64 h] w fun e w' => e = .returned (.tuple #[.int .i64 f, .int .i64 l, .int .i64 x]) ∧ Upto (fun _ => False) w w') :
    Calls Try.prog 24 #[p, .int .i64 h] w fun e w' => e = .returned (.tuple #[.int .i64 l, .int .i64 x]) ∧ Upto (fun _ => False) w w' := by
  have HS := Lib.hid hS; clear hS
  go_enter Try.func24, Try.ntmps24
  go_wp2_with (go_at_call 17; refine HS.out.mono ?_; rintro e w' ⟨rfl, hu⟩; have HU := Lib.hid hu; clear hu)
  go_ret2
  exact ⟨rfl, HU.out⟩
theorem marray_bad (p : Value) (h x : Int) (w : World) (hx : x ≠ 0) (hS : Calls Try.prog 17 #[p, .int .i64 h] w fun e w' => e = .returned (.tuple #[.int .i64 0, .int .i64 0, .int .i64 x]) ∧ w = w') :
    Calls Try.prog 58 #[p, .int .i64 h] w fun e w' => e = .returned (.tuple #[.slice none 0 0, .int .i64 x]) ∧ w = w' := by
  have HS := Lib.hid hS; clear hS
  go_enter Try.func58, Try.ntmps58
  go_wp2_with (go_at_call 17; refine HS.out.mono ?_; rintro e w' ⟨rfl, rfl⟩)
  go_ret2
  exact ⟨rfl, rfl⟩
theorem marray_some (b g n c f l : Nat) (h : Int) (w : World) (h1 : w.cell? ⟨b, 1, none⟩ = some (.slice (some ⟨g, 0, none⟩) n c)) (hb : b < w.heap.size) (hfl : f + (l + 1) ≤ n) (hnc : n ≤ c) (hn : n ≤ 10000)
    (hS : Calls Try.prog 17 #[.pointer (some ⟨b, 0, none⟩), .int .i64 h] w fun e w' => e = .returned (.tuple #[.int .i64 f, .int .i64 ((l + 1 : Nat) : Int), .int .i64 0]) ∧ Upto (fun _ => False) w w') :
    Calls Try.prog 58 #[.pointer (some ⟨b, 0, none⟩), .int .i64 h] w fun e w' => e = .returned (.tuple #[.slice (some ⟨g, f, none⟩) (l + 1) (l + 1), .int .i64 0]) ∧ Upto (fun _ => False) w w' := by
  have HS := Lib.hid hS; clear hS
  go_enter Try.func58, Try.ntmps58
  go_wp2_with (go_at_call 17; refine HS.out.mono ?_; rintro e w' ⟨rfl, hu⟩; have k1 := (hu.cell (p := ⟨b, 1, none⟩) hb id).trans h1; have HU := Lib.hid hu; clear hu)
  go_ret2
  exact ⟨by rw [show f + (l + 1) - f = l + 1 by omega]; rfl, HU.out⟩
theorem marray_none (b : Nat) (h : Int) (w : World) (h1 : w.cell? ⟨b, 1, none⟩ = some (.slice none 0 0)) (hb : b < w.heap.size)
    (hS : Calls Try.prog 17 #[.pointer (some ⟨b, 0, none⟩), .int .i64 h] w fun e w' => e = .returned (.tuple #[.int .i64 0, .int .i64 0, .int .i64 0]) ∧ Upto (fun _ => False) w w') :
    Calls Try.prog 58 #[.pointer (some ⟨b, 0, none⟩), .int .i64 h] w fun e w' => e = .returned (.tuple #[.slice none 0 0, .int .i64 0]) ∧ Upto (fun _ => False) w w' := by
  have HS := Lib.hid hS; clear hS
  go_enter Try.func58, Try.ntmps58
  go_wp2_with (go_at_call 17; refine HS.out.mono ?_; rintro e w' ⟨rfl, hu⟩; have k1 := (hu.cell (p := ⟨b, 1, none⟩) hb id).trans h1; have HU := Lib.hid hu; clear hu)
  go_ret2
  exact ⟨rfl, HU.out⟩
theorem marray_zero (b g n c f : Nat) (h : Int) (w : World) (h1 : w.cell? ⟨b, 1, none⟩ = some (.slice (some ⟨g, 0, none⟩) n c)) (hb : b < w.heap.size) (hfl : f ≤ n) (hnc : n ≤ c) (hn : n ≤ 10000)
    (hS : Calls Try.prog 17 #[.pointer (some ⟨b, 0, none⟩), .int .i64 h] w fun e w' => e = .returned (.tuple #[.int .i64 f, .int .i64 0, .int .i64 0]) ∧ Upto (fun _ => False) w w') :
    Calls Try.prog 58 #[.pointer (some ⟨b, 0, none⟩), .int .i64 h] w fun e w' => ∃ so, e = .returned (.tuple #[.slice so 0 0, .int .i64 0]) ∧ Upto (fun _ => False) w w' := by
  have HS := Lib.hid hS; clear hS
  go_enter Try.func58, Try.ntmps58
  go_wp2_with (go_at_call 17; refine HS.out.mono ?_; rintro e w' ⟨rfl, hu⟩; have k1 := (hu.cell (p := ⟨b, 1, none⟩) hb id).trans h1; have HU := Lib.hid hu; clear hu)
  go_ret2
  exact ⟨_, rfl, HU.out⟩

/-! Load and Store, from what array answers -/
def Arr (p : Value) (h : Int) (w : World) (v : Value) (x : Int) : Prop := Calls Try.prog 58 #[p, .int .i64 h] w fun e w' => e = .returned (.tuple #[v, .int .i64 x]) ∧ Upto (fun _ => False) w w'

def ArrE (p : Value) (h : Int) (w : World) (L : Nat) : Prop := Calls Try.prog 58 #[p, .int .i64 h] w fun e w' => ∃ so c, e = .returned (.tuple #[.slice so L c, .int .i64 0]) ∧ Upto (fun _ => False) w w'
theorem mload_bad (p : Value) (h i x : Int) (w : World) (hx : x ≠ 0) (hA : Arr p h w (.slice none 0 0) x) :
    Calls Try.prog 22 #[p, .int .i64 h, .int .i64 i] w fun e w' => e = .returned (.tuple #[.int .i64 0, .int .i64 0, .int .i64 x]) ∧ Upto (fun _ => False) w w' := by
  have HA := Lib.hid hA; clear hA
  go_enter Try.func22, Try.ntmps22
  go_wp2_with (go_at_call 58; refine HA.out.mono ?_; rintro e w' ⟨rfl, hu⟩; have HU := Lib.hid hu; clear hu)
  go_ret3
  exact ⟨rfl, HU.out⟩
theorem mload_trap (p : Value) (h i : Int) (L : Nat) (w : World) (hi : i < 0 ∨ (L : Int) ≤ i) (hA : ArrE p h w L) :
    Calls Try.prog 22 #[p, .int .i64 h, .int .i64 i] w fun e w' => e = .returned (.tuple #[.int .i64 0, .int .i64 2, .int .i64 0]) ∧ Upto (fun _ => False) w w' := by
  have HA := Lib.hid hA; clear hA
  rcases hi with hi | hi
  · go_enter Try.func22, Try.ntmps22
    go_wp2_with (go_at_call 58; refine HA.out.mono ?_; rintro e w' ⟨so, c, rfl, hu⟩; have HU := Lib.hid hu; clear hu)
    go_ret3
    exact ⟨rfl, HU.out⟩
  · have h' : ¬ i < 0 := by omega
    go_enter Try.func22, Try.ntmps22
    go_wp2_with (go_at_call 58; refine HA.out.mono ?_; rintro e w' ⟨so, c, rfl, hu⟩; have HU := Lib.hid hu; clear hu)
    go_ret3
    exact ⟨rfl, HU.out⟩
theorem mload_ok (p : Value) (h x : Int) (g f L c k : Nat) (w : World) (hk : k < L) (hg : g < w.heap.size) (hc : w.cell? ⟨g, f + k, none⟩ = some (.int .i64 x)) (hA : Arr p h w (.slice (some ⟨g, f, none⟩) L c) 0) :
    Calls Try.prog 22 #[p, .int .i64 h, .int .i64 k] w fun e w' => e = .returned (.tuple #[.int .i64 x, .int .i64 0, .int .i64 0]) ∧ Upto (fun _ => False) w w' := by
  have HA := Lib.hid hA; clear hA
  have h0 : ¬ ((k : Int) < 0) := by omega
  have h1 : ¬ ((L : Int) ≤ (k : Int)) := by omega
  have h3 : ((k : Int) < (L : Int)) := by omega
  go_enter Try.func22, Try.ntmps22
  go_wp2_with (go_at_call 58; refine HA.out.mono ?_; rintro e w' ⟨rfl, hu⟩; have k1 := (hu.cell (p := ⟨g, f + k, none⟩) hg id).trans hc; have HU := Lib.hid hu; clear hu)
  go_ret3
  exact ⟨rfl, HU.out⟩
theorem mstore_bad (p : Value) (h i n x : Int) (w : World) (hx : x ≠ 0) (hA : Arr p h w (.slice none 0 0) x) :
    Calls Try.prog 23 #[p, .int .i64 h, .int .i64 i, .int .i64 n] w fun e w' => e = .returned (.tuple #[.int .i64 0, .int .i64 x]) ∧ Upto (fun _ => False) w w' := by
  have HA := Lib.hid hA; clear hA
  go_enter Try.func23, Try.ntmps23
  go_wp2_with (go_at_call 58; refine HA.out.mono ?_; rintro e w' ⟨rfl, hu⟩; have HU := Lib.hid hu; clear hu)
  go_ret2
  exact ⟨rfl, HU.out⟩
theorem mstore_trap (p : Value) (h i n : Int) (L : Nat) (w : World) (hi : i < 0 ∨ (L : Int) ≤ i) (hA : ArrE p h w L) :
    Calls Try.prog 23 #[p, .int .i64 h, .int .i64 i, .int .i64 n] w fun e w' => e = .returned (.tuple #[.int .i64 2, .int .i64 0]) ∧ Upto (fun _ => False) w w' := by
  have HA := Lib.hid hA; clear hA
  rcases hi with hi | hi
  · go_enter Try.func23, Try.ntmps23
    go_wp2_with (go_at_call 58; refine HA.out.mono ?_; rintro e w' ⟨so, c, rfl, hu⟩; have HU := Lib.hid hu; clear hu)
    go_ret2
    exact ⟨rfl, HU.out⟩
  · have h' : ¬ i < 0 := by omega
    go_enter Try.func23, Try.ntmps23
    go_wp2_with (go_at_call 58; refine HA.out.mono ?_; rintro e w' ⟨so, c, rfl, hu⟩; have HU := Lib.hid hu; clear hu)
    go_ret2
    exact ⟨rfl, HU.out⟩
theorem mstore_ok (p : Value) (h n x : Int) (g f L c k : Nat) (w : World) (hk : k < L) (hg : g < w.heap.size) (hc : w.cell? ⟨g, f + k, none⟩ = some (.int .i64 x)) (hf : w.frozen? ⟨g, f + k, none⟩ = false) (hA : Arr p h w (.slice (some ⟨g, f, none⟩) L c) 0) :
    Calls Try.prog 23 #[p, .int .i64 h, .int .i64 k, .int .i64 n] w fun e w' => e = .returned (.tuple #[.int .i64 0, .int .i64 0]) ∧ ∃ w1, Upto (fun _ => False) w w1 ∧ w' = w1.setCell ⟨g, f + k, none⟩ (.int .i64 n) := by
  have HA := Lib.hid hA; clear hA
  have h0 : ¬ ((k : Int) < 0) := by omega
  have h1 : ¬ ((L : Int) ≤ (k : Int)) := by omega
  have h3 : ((k : Int) < (L : Int)) := by omega
  go_enter Try.func23, Try.ntmps23
  go_wp2_with (go_at_call 58; refine HA.out.mono ?_; rintro e w' ⟨rfl, hu⟩; have k1 := (hu.cell (p := ⟨g, f + k, none⟩) hg id).trans hc; have k2 := (hu.frozen (p := ⟨g, f + k, none⟩) hg id).trans hf; have HU := Lib.hid hu; clear hu)
  go_ret2
  exact ⟨rfl, _, HU.out, rfl⟩

end Go.Proofs.Ytjganbcolaakkaa
