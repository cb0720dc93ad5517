/-
  A slice of steps that came in, opened.
-/
import Derived.Test.YtcajkgingenegaaPlays
import Derived.Test.YtcajkgingenegaaFrame
import Derived.Deep.Slices
namespace Go.Proofs.Ytcajkgingenegaa
open Go.ChangeShapes Go.WideShapes Go.ChangeAt Go.RowKit

def StepsSeen (W : World) (v : Value) : Prop :=
  (∃ ao c, v = .slice ao 0 c) ∨ ∃ g off n c dos ns, v = .slice (some ⟨g, off, none⟩) n c ∧ g < W.heap.size ∧ StepsAt W g off n dos ns

theorem cells_two {w : World} {a : Addr} {cs : List Value} (h : w.cells? 0 a 2 = some cs) : ∃ x y, cs = [x, y] ∧ w.cell? (a.add 0) = some x ∧ w.cell? (a.add 1) = some y := by
  unfold World.cells? at h
  rw [if_pos (Nat.zero_le _)] at h
  simp only [show List.range 2 = [0, 1] by rfl, List.mapM_cons, List.mapM_nil, Option.bind_eq_bind, Option.pure_def] at h
  cases h0 : w.cell? (a.add 0) with
  | none => simp [h0] at h
  | some x =>
    cases h1 : w.cell? (a.add 1) with
    | none => simp [h0, h1] at h
    | some y =>
      simp [h0, h1] at h
      exact ⟨x, y, h.symm, rfl, rfl⟩

theorem steps_seen {H : Type} {enc : TypeId × Value → H} {W : World} {r : Reach} {b0 : Nat} {v : Value} {d : DataW H} {ps : List MemPlace} (hval : Value.okWide Try.prog W r b0 36 v) (h : DataW.Trod enc Try.prog W 0 (fun _ => true) true 36 v d ps) :
    ∃ _ : Unit, StepsSeen W v ∧ True := by
  obtain ⟨a0, len, cap, rfl⟩ := okWide_slice Try.underlying36 hval
  obtain ⟨fuel, hf⟩ := h
  refine ⟨(), ?_, trivial⟩
  have hc : Try.prog.cellsOf 41 = 2 := by kernel_rfl
  rcases Go.Deep.open_slice Try.underlying36 hf with ⟨hcs, hx⟩ | ⟨a, len', cap', m, n, D, Pl, hcs, _, hle, hmax, hm, hx, hcell⟩
  · simp [Value.cells] at hcs
    obtain ⟨rfl, rfl, rfl⟩ := hcs
    exact Or.inl ⟨_, _, rfl⟩
  · simp [Value.cells] at hcs
    obtain ⟨rfl, rfl, rfl⟩ := hcs
    simp only [if_true] at hm
    by_cases h0 : len = 0
    · subst h0
      exact Or.inl ⟨_, _, rfl⟩
    · have each : ∀ i, i < len → ∃ z : Int × Int, W.cell? ((a.add (i * 2)).add 0) = some (.int .i64 z.1) ∧ W.cell? ((a.add (i * 2)).add 1) = some (.int .i64 z.2) := fun i hi => by
        obtain ⟨cs', h1, h2⟩ := hcell i (by omega)
        rw [hc] at h1
        obtain ⟨x, y, rfl, hx0, hy0⟩ := cells_two h1
        obtain ⟨y0, y1, n', _, _, e0, e1⟩ := trod_struct2 Try.underlying41 h2
        have c0 : Try.prog.cellsOf 3 = 1 := by kernel_rfl
        have c1 : Try.prog.cellsOf 2 = 1 := by kernel_rfl
        obtain ⟨p, hp, _⟩ := DataW.trod_int Try.underlying3 e0
        obtain ⟨q, hq, _⟩ := DataW.trod_int Try.underlying2 e1
        simp [c0] at hp
        simp [c1] at hq
        subst hp hq
        exact ⟨(p, q), hx0, hy0⟩
      obtain ⟨z, hz⟩ := Go.Deep.choose_lt each
      obtain ⟨g, off, sp⟩ := a
      obtain rfl : sp = none := by
        have := World.cell?_spot (hz 0 (by omega)).1
        simpa [Addr.add] using this
      refine Or.inr ⟨g, off, len, cap, fun j => (z j).1, fun j => (z j).2, rfl, World.block_lt_of_cell? _ _ (by have := (hz 0 (by omega)).1; simpa [Addr.add_lit] using this), fun j hj => ?_⟩
      have h1 := hz j hj
      simp only [Addr.add_lit] at h1
      exact ⟨by simpa using h1.1, by simpa using h1.2⟩

theorem plays_true (most : Int) {v : Value} {W : World} (h : StepsSeen W v) : Calls Try.prog 5 #[.int .i64 most, v] W fun e w' => e = .returned (.bool true) ∧ Below W.heap.size W w' := by
  rcases h with ⟨ao, c, rfl⟩ | ⟨g, off, n, c, dos, ns, rfl, hg, hc⟩
  · exact plays_zero most ao c W
  · exact plays_some most g off n c dos ns W hg hc

end Go.Proofs.Ytcajkgingenegaa
