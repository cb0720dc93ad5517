/-
  Slices of structs of four numbers that came in.
-/
import Derived.Test.YtjganbcolaakkaaHModel
import Derived.Deep.Slices
namespace Go.Proofs.Ytjganbcolaakkaa
open Go.ChangeShapes Go.WideShapes Go.ChangeAt Go.RowKit

/-- A slice of structs of four numbers. -/
def FourSeen (W : World) (v : Value) (k0 k1 k2 k3 : IntKind) : Prop :=
  v = .slice none 0 0 ∨ (∃ a c, v = .slice (some a) 0 c) ∨ ∃ g off n c, ∃ z0 z1 z2 z3 : Nat → Int, v = .slice (some ⟨g, off, none⟩) n c ∧ n ≤ c ∧ g < W.heap.size ∧ ∀ j, j < n →
    (W.cell? ⟨g, off + j * 4, none⟩ = some (.int k0 (z0 j)) ∧ (Lit.int k0 (z0 j)).wf = true) ∧ (W.cell? ⟨g, off + j * 4 + 1, none⟩ = some (.int k1 (z1 j)) ∧ (Lit.int k1 (z1 j)).wf = true) ∧
    (W.cell? ⟨g, off + j * 4 + 2, none⟩ = some (.int k2 (z2 j)) ∧ (Lit.int k2 (z2 j)).wf = true) ∧ (W.cell? ⟨g, off + j * 4 + 3, none⟩ = some (.int k3 (z3 j)) ∧ (Lit.int k3 (z3 j)).wf = true)

theorem four_seen {P : Program} {H : Type} {enc : TypeId × Value → H} {W : World} {r : Reach} {b0 : Nat} {v : Value} {d : DataW H} {ps : List MemPlace} {t st : TypeId} {f0 f1 f2 f3 : Field} {k0 k1 k2 k3 : IntKind}
    (ht : P.underlying t = some (.slice st)) (hs : P.underlying st = some (.struct #[f0, f1, f2, f3])) (hc : P.cellsOf st = 4) (h0 : P.underlying f0.type = some (.int k0)) (h1 : P.underlying f1.type = some (.int k1)) (h2 : P.underlying f2.type = some (.int k2)) (h3 : P.underlying f3.type = some (.int k3))
    (c0 : P.cellsOf f0.type = 1) (c1 : P.cellsOf f1.type = 1) (c2 : P.cellsOf f2.type = 1) (c3 : P.cellsOf f3.type = 1) (o0 : f0.offset = 0) (o1 : f1.offset = 1) (o2 : f2.offset = 2) (o3 : f3.offset = 3)
    (hval : Value.okWide P W r b0 t v) (h : DataW.Trod enc P W 0 (fun _ => true) true t v d ps) : FourSeen W v k0 k1 k2 k3 := by
  obtain ⟨a0, len, cap, rfl⟩ := okWide_slice ht hval
  obtain ⟨fuel, hf⟩ := h
  rcases Go.Deep.open_slice ht hf with ⟨hcs, hx⟩ | ⟨a, len', cap', m, n, D, Pl, hcs, _, hle, hmax, hm, hx, hcell⟩
  · simp [Value.cells] at hcs
    obtain ⟨rfl, rfl, rfl⟩ := hcs
    exact Or.inl rfl
  · simp [Value.cells] at hcs
    obtain ⟨rfl, rfl, rfl⟩ := hcs
    simp only [if_true] at hm
    by_cases hl0 : len = 0
    · subst hl0
      exact Or.inr (Or.inl ⟨_, _, rfl⟩)
    · have each : ∀ i, i < len → ∃ z : Int × Int × Int × Int, (W.cell? ((a.add (i * 4)).add 0) = some (.int k0 z.1) ∧ (Lit.int k0 z.1).wf = true) ∧ (W.cell? ((a.add (i * 4)).add 1) = some (.int k1 z.2.1) ∧ (Lit.int k1 z.2.1).wf = true) ∧
          (W.cell? ((a.add (i * 4)).add 2) = some (.int k2 z.2.2.1) ∧ (Lit.int k2 z.2.2.1).wf = true) ∧ (W.cell? ((a.add (i * 4)).add 3) = some (.int k3 z.2.2.2) ∧ (Lit.int k3 z.2.2.2).wf = true) := fun i hi => by
        obtain ⟨cs', e1, e2⟩ := hcell i (by omega)
        rw [hc] at e1
        obtain ⟨_, hlen, hat⟩ := World.cells?_some e1
        match cs', hlen with
        | [x0, x1, x2, x3], _ =>
          obtain ⟨xs, n', _, _, _, hxs, hf⟩ := DataW.trod_struct hs e2
          match xs, hxs with
          | [y0, y1, y2, y3], _ =>
            have g0 := hf 0 f0 rfl
            have g1 := hf 1 f1 rfl
            have g2 := hf 2 f2 rfl
            have g3 := hf 3 f3 rfl
            rw [o0, c0] at g0
            rw [o1, c1] at g1
            rw [o2, c2] at g2
            rw [o3, c3] at g3
            obtain ⟨p0, q0, _, w0⟩ := DataW.trod_int h0 (by simpa using g0)
            obtain ⟨p1, q1, _, w1⟩ := DataW.trod_int h1 (by simpa using g1)
            obtain ⟨p2, q2, _, w2⟩ := DataW.trod_int h2 (by simpa using g2)
            obtain ⟨p3, q3, _, w3⟩ := DataW.trod_int h3 (by simpa using g3)
            simp at q0 q1 q2 q3
            subst q0 q1 q2 q3
            exact ⟨(p0, p1, p2, p3), ⟨hat 0 (by omega), w0⟩, ⟨hat 1 (by omega), w1⟩, ⟨hat 2 (by omega), w2⟩, ⟨hat 3 (by omega), w3⟩⟩
      obtain ⟨z, hz⟩ := Go.Deep.choose_lt each
      obtain ⟨g, off, sp⟩ := a
      obtain rfl : sp = none := by
        have := World.cell?_spot (hz 0 (by omega)).1.1
        simpa [Addr.add] using this
      refine Or.inr (Or.inr ⟨g, off, len, cap, fun j => (z j).1, fun j => (z j).2.1, fun j => (z j).2.2.1, fun j => (z j).2.2.2, rfl, hle, World.block_lt_of_cell? _ _ (by have := (hz 0 (by omega)).1.1; simpa [Addr.add_lit] using this), fun j hj => ?_⟩)
      have e := hz j hj
      simp only [Addr.add_lit] at e
      simpa using e

set_option maxRecDepth 100000 in
theorem changes_seen {H : Type} {enc : TypeId × Value → H} {W : World} {r : Reach} {b0 : Nat} {v : Value} {d : DataW H} {ps : List MemPlace} (hval : Value.okWide Try.prog W r b0 53 v) (h : DataW.Trod enc Try.prog W 0 (fun _ => true) true 53 v d ps) :
    ∃ _ : Unit, ChgSeen W v ∧ True := by
  refine ⟨(), ?_, trivial⟩
  rcases four_seen Try.underlying53 Try.underlying56 (by kernel_rfl) Try.underlying5 Try.underlying5 Try.underlying5 Try.underlying2 (by kernel_rfl) (by kernel_rfl) (by kernel_rfl) (by kernel_rfl) rfl rfl rfl rfl hval h with rfl | h | ⟨g, off, n, c, z0, z1, z2, z3, rfl, hc, hg, hz⟩
  · exact Or.inl rfl
  · exact Or.inr (Or.inl h)
  · have hb : ∀ j, j < n → (0 ≤ z0 j ∧ z0 j ≤ 255) ∧ (0 ≤ z1 j ∧ z1 j ≤ 255) ∧ (0 ≤ z2 j ∧ z2 j ≤ 255) := fun j hj => ⟨bounds_u8 (hz j hj).1.2, bounds_u8 (hz j hj).2.1.2, bounds_u8 (hz j hj).2.2.1.2⟩
    refine Or.inr (Or.inr ⟨g, off, n, c, fun j => (z0 j).toNat, fun j => (z1 j).toNat, fun j => (z2 j).toNat, z3, rfl, hc, hg, ⟨fun j hj => ?_, fun j hj => ?_, fun j hj => ?_, fun j hj => (hz j hj).2.2.2.1, fun j hj => ?_⟩⟩)
    · rw [(hz j hj).1.1, Int.toNat_of_nonneg (hb j hj).1.1]
    · rw [(hz j hj).2.1.1, Int.toNat_of_nonneg (hb j hj).2.1.1]
    · rw [(hz j hj).2.2.1.1, Int.toNat_of_nonneg (hb j hj).2.2.1]
    · have := hb j hj; omega

end Go.Proofs.Ytjganbcolaakkaa
