/-
  A row's first number, read and written; numbers that came in, read later.
-/
import Derived.Test.YtcajkgingenegaaKnown
import Derived.Laws.OwnMore
namespace Go.Proofs.Ytcajkgingenegaa
open Go.RowKit

theorem row_first {w : World} {u : Value} {ys : List Int} (h : Row w u ys) (hp : 0 < ys.length) : ∃ g c, u = .slice (some ⟨g, 0, none⟩) ys.length c ∧ w.cell? ⟨g, 0, none⟩ = some (.int .i64 (ys.getD 0 0)) ∧ w.frozen? ⟨g, 0, none⟩ = false ∧ g < w.heap.size := by
  obtain ⟨g, o, c, rfl, h1, h2, hg, hcell⟩ := h.sees.cellsAt hp
  obtain rfl : o = 0 := by
    rcases h.2 with ⟨e, _⟩ | ⟨g', cap, cur, e, _⟩
    · cases e
    · simp only [Value.slice.injEq, Option.some.injEq, Addr.mk.injEq] at e
      exact e.1.2.1
  exact ⟨g, c, rfl, by simpa using hcell 0 hp, World.ownsRow.frozenAt h 0, hg⟩

theorem row_poke {w : World} {g n c : Nat} {ys : List Int} (h : Row w (.slice (some ⟨g, 0, none⟩) n c) ys) (z : Int) : Row (w.setCell ⟨g, 0, none⟩ (.int .i64 z)) (.slice (some ⟨g, 0, none⟩) n c) (ys.set 0 z) := by
  have hn : ys.length = n := by
    rcases h.2 with ⟨e, _⟩ | ⟨g', cap, cur, e, _⟩
    · cases e
    · simp only [Value.slice.injEq] at e
      exact e.2.1.symm
  subst hn
  have := World.ownsRow.stored h 0 (.int .i64 z)
  unfold Row
  rw [List.length_set, List.map_set]
  exact this.1

theorem Apart.poke {w0 w : World} {b : Nat} {most : Int} {xs ys : List Int} {g n c : Nat} (h : Apart w0 w b most xs (.slice (some ⟨g, 0, none⟩) n c) ys) (z : Int) :
    Apart w0 (w.setCell ⟨g, 0, none⟩ (.int .i64 z)) b most xs (.slice (some ⟨g, 0, none⟩) n c) (ys.set 0 z) := by
  obtain ⟨h1, h2, F, h3, h4, h5, h6⟩ := h
  have hu : Upto (fun k => k = g) w (w.setCell ⟨g, 0, none⟩ (.int .i64 z)) := (Upto.refl (fun k => k = g) w).setCell (p := ⟨g, 0, none⟩) (Or.inl rfl) (.int .i64 z)
  refine ⟨row_poke h1 z, h2, F, h3.kept hu (fun k hk e => h5 k hk (by subst e; rfl)), h4, h5, Upto.below ((Upto.of_below h6 _).step hu fun i hi e => ?_)⟩
  have := h2 g rfl
  omega

theorem take_zero_own {w0 w : World} {b : Nat} {most : Int} {xs : List Int} (h : Own w0 w b most xs) : Calls Try.prog 12 #[.pointer (some ⟨b, 0, none⟩), .int .i64 0] w fun e w' =>
    ∃ ao c, e = .returned (.tuple #[.slice ao 0 c, .int .i64 0]) ∧ Own w0 w' b most xs := by
  refine (Own.take xs [] h (by simp) rfl).mono ?_
  rintro e w' ⟨u, rfl, hA⟩
  obtain ⟨ao, c, rfl, _⟩ := hA.row.slice
  exact ⟨ao, c, rfl, hA.own⟩

theorem take_succ_get {xs : List Int} {k : Nat} (h : k < xs.length) : xs.take k ++ [xs[k]?.getD 0] = xs.take (k + 1) := by
  rw [List.take_add_one, List.getElem?_eq_getElem h]
  rfl

end Go.Proofs.Ytcajkgingenegaa
