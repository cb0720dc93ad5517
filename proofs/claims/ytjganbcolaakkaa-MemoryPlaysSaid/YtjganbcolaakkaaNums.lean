/-
  Rows of numbers: read, cloned, written; for the heaps and the memories.
-/
import Derived.Test.YtjganbcolaakkaaApp
import Derived.Test.YtjganbcolaakkaaRows
import Derived.WalkKit
import Derived.Deep.QuietTactic
import Derived.BigQuiet
import Derived.WalkSpells
import Derived.Lib.Hide
import Derived.Laws.OwnMore
namespace Go.Proofs.Ytjganbcolaakkaa
open Go.RowKit

theorem Try.infoInt : (Try.prog.info? 2).map (fun i => (i.zero, i.size, i.bytes)) = some (some (.int .i64 0), 1, 8) := by kernel_rfl

theorem Row.slice {w : World} {v : Value} {xs : List Int} (h : Row w v xs) : ∃ ao c, v = .slice ao xs.length c ∧ xs.length ≤ c ∧ c ≤ maxLen := by
  obtain ⟨ao, c, rfl, h1, h2, _⟩ := h.sees
  exact ⟨ao, c, rfl, h1, h2⟩

theorem Row.shape {w : World} {v : Value} {xs : List Int} (h : Row w v xs) : ∃ ao n c, v = .slice ao n c := by
  obtain ⟨ao, c, rfl, _⟩ := h.slice
  exact ⟨_, _, _, rfl⟩

theorem rowOf_made (n c m : Nat) : ∀ k, rowOf (.slice (some ⟨m, 0, none⟩) n c) k → k = m := fun k h => by cases h; rfl

theorem Sees.cellsAt {w : World} {u : Value} {ys : List Int} (h : Sees w u ys) (hp : 0 < ys.length) : ∃ g o c, u = .slice (some ⟨g, o, none⟩) ys.length c ∧ ys.length ≤ c ∧ c ≤ maxLen ∧ g < w.heap.size ∧ ∀ j, j < ys.length → w.cell? ⟨g, o + j, none⟩ = some (.int .i64 (ys.getD j 0)) := by
  obtain ⟨ao, c, rfl, h1, h2, h3, h4⟩ := h
  cases ao with
  | none => have := h3 rfl; omega
  | some a =>
    obtain ⟨g, o, sp⟩ := a
    obtain ⟨hs, h5⟩ := h4 _ rfl
    obtain ⟨rfl, hb⟩ := hs hp
    exact ⟨g, o, c, rfl, h1, h2, hb, h5⟩

theorem row_first {w : World} {u : Value} {ys : List Int} (h : Row w u ys) (hp : 0 < ys.length) : ∃ g c, u = .slice (some ⟨g, 0, none⟩) ys.length c ∧ w.cell? ⟨g, 0, none⟩ = some (.int .i64 (ys.getD 0 0)) ∧ w.frozen? ⟨g, 0, none⟩ = false ∧ g < w.heap.size := by
  obtain ⟨g, o, c, rfl, h1, h2, hg, hcell⟩ := h.sees.cellsAt hp
  obtain rfl : o = 0 := by
    rcases h.2 with ⟨e, _⟩ | ⟨g', cap, cur, e, _⟩
    · cases e
    · simp only [Value.slice.injEq, Option.some.injEq, Addr.mk.injEq] at e
      exact e.1.2.1
  exact ⟨g, c, rfl, by simpa using hcell 0 hp, World.ownsRow.frozenAt h 0, hg⟩

theorem row_poke {w : World} {g n c : Nat} {ys : List Int} (h : Row w (.slice (some ⟨g, 0, none⟩) n c) ys) (z : Int) : Row (w.setCell ⟨g, 0, none⟩ (.int .i64 z)) (.slice (some ⟨g, 0, none⟩) n c) (ys.set 0 z) := by
  have hn : ys.length = n := by
    rcases h.2 with ⟨e, _⟩ | ⟨g', cap, cur, e, _⟩
    · cases e
    · simp only [Value.slice.injEq] at e
      exact e.2.1.symm
  subst hn
  have := World.ownsRow.stored h 0 (.int .i64 z)
  unfold Row
  rw [List.length_set, List.map_set]
  exact this.1

/-- A literal's slice, just made. -/
theorem Sees.lit (w : World) (xs : List Int) (e : TypeId) (h : xs.length ≤ maxLen) : Sees (w.alloc (.cells (xs.map (Value.int .i64)).toArray e)) (.slice (some ⟨w.heap.size, 0, none⟩) xs.length xs.length) xs := by
  refine ⟨_, _, rfl, Nat.le_refl _, h, (fun h => by cases h), fun ad e' => ?_⟩
  obtain rfl := Option.some.inj e'
  refine ⟨fun _ => ⟨rfl, by simp⟩, fun j hj => ?_⟩
  rw [cell_of_row _ w.heap.size _ _ e (0, 0) (heap_alloc_new w _), Nat.zero_add, ← getElem?_map_int hj]
  simp

theorem Sees.upto {w : World} {ao : Option Addr} {n c : Nat} {xs : List Int} (h : Sees w (.slice ao n c) xs) (k : Nat) (hk : k ≤ xs.length) : Sees w (.slice ao k c) (xs.take k) := by
  obtain ⟨ao', c', e, h1, h2, h3, h4⟩ := h
  simp only [Value.slice.injEq] at e
  obtain ⟨rfl, rfl, rfl⟩ := e
  have hl : (xs.take k).length = k := by simp; omega
  refine ⟨ao, c, by rw [hl], by rw [hl]; omega, h2, h3, fun ad e => ?_⟩
  rw [hl]
  obtain ⟨s1, s2⟩ := h4 ad e
  refine ⟨fun h0 => s1 (by omega), fun j hj => ?_⟩
  rw [s2 j (by omega)]
  simp [List.getD, hj]

/-- A new row that bears these numbers was made, and is returned. -/
def Fresh (w : World) (xs : List Int) (u : Value) (w' : World) : Prop := Row w' u xs ∧ (∀ k, rowOf u k → w.heap.size ≤ k) ∧ Below w.heap.size w w'
def Cloned (w : World) (xs : List Int) (e : Ending) (w' : World) : Prop := ∃ u, e = .returned u ∧ Fresh w xs u w'

set_option maxHeartbeats 400000 in
theorem clone_none (w : World) (c : Nat) : Calls Try.prog 56 #[.slice none 0 c] w (Cloned w []) := by
  have heq := fun (w : World) => Lib.run_eql_slice_nil (P := Try.prog) w 31 2 none 0 c 0 0 Try.underlying31
  go_enter Try.func56, Try.ntmps56
  go_wp2
  go_ret
  exact ⟨_, rfl, World.ownsRow_nil w 0 _ 1, fun k h => (by cases h), Below.refl _ _⟩

set_option maxHeartbeats 400000 in
theorem clone_some (w : World) (a : Addr) (n c : Nat) (xs : List Int) (hs : Sees w (.slice (some a) n c) xs) (hb : xs.length * 8 ≤ 140737488355328) : Calls Try.prog 56 #[.slice (some a) n c] w (Cloned w xs) := by
  have heq := fun (w : World) => Lib.run_eql_slice_nil (P := Try.prog) w 31 2 (some a) n c 0 0 Try.underlying31
  have Hs := Lib.hid hs; clear hs
  go_enter Try.func56, Try.ntmps56
  go_wp2_with (at_builtin; refine wpList_append_row _ rfl (.tmp 5) (.tmp 6) 31 rfl Try.underlying31 Try.infoInt _ _ [] xs rfl rfl (Row.made w) ?c1 ?c2 ?c3)
  case c1 => exact Hs.out.below ((Below.refl _ _).alloc (Nat.le_refl _) _)
  case c2 => simpa using hb
  case c3 =>
    intro v' w' hr hu hk
    go_wp2
    go_ret
    have key : ∀ k, rowOf (.slice (some ⟨w.heap.size, 0, none⟩) 0 0) k → k = w.heap.size := fun k h => by cases h; rfl
    refine ⟨_, rfl, by simpa using hr, fun k h => ?_, Upto.below (((Upto.refl _ w).alloc _).step hu fun i hi hS => ?_)⟩
    · rcases hk k h with h | h
      · exact Nat.le_of_eq (key k h).symm
      · exact Nat.le_trans (by simp) h
    · have := key i hS; omega

theorem clone_at {w : World} {v : Value} {xs : List Int} (h : Sees w v xs) (hb : xs.length * 8 ≤ 140737488355328) : Calls Try.prog 56 #[v] w (Cloned w xs) := by
  obtain ⟨ao, c, rfl, h1, h2, h3, h4⟩ := id h
  cases ao with
  | none =>
    have h0 := h3 rfl
    subst h0
    obtain rfl : xs = [] := List.eq_nil_of_length_eq_zero (by omega)
    exact clone_none w 0
  | some a => exact clone_some w a _ _ xs h hb


theorem Upto.drewN_of {w w' : World} (S : Nat → Prop) {k : Nat} (h : w' = w.drewN k) : Upto S w w' := by subst h; exact (Upto.refl S w).drewN k
theorem rowNone (w : World) : Row w (.slice none 0 0) [] := World.ownsRow_nil w 0 _ 1
theorem rowOf_none {n c k : Nat} : ¬ rowOf (.slice none n c) k := fun h => by cases h

end Go.Proofs.Ytjganbcolaakkaa
