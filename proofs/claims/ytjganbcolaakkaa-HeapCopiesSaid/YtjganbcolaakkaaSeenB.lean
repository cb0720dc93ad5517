/-
  A change by value that came in.
-/
import Derived.Test.YtjganbcolaakkaaHCopies
import Derived.Lib.SmallJoins
namespace Go.Proofs.Ytjganbcolaakkaa
open Go.ChangeShapes Go.WideShapes Go.ChangeAt Go.RowKit

set_option maxRecDepth 100000 in
theorem change_seen {H : Type} {enc : TypeId × Value → H} {W : World} {r : Reach} {b0 : Nat} {v : Value} {d : DataW H} {ps : List MemPlace} (hval : Value.okWide Try.prog W r b0 56 v) (h : DataW.Trod enc Try.prog W 0 (fun _ => true) true 56 v d ps) :
    ∃ q : Int × Int × Int × Int, v = .agg #[.int .u8 q.1, .int .u8 q.2.1, .int .u8 q.2.2.1, .int .i64 q.2.2.2] ∧ True := by
  obtain ⟨v0, v1, v2, v3, y0, y1, y2, y3, n, rfl, _, _, e0, e1, e2, e3⟩ := Go.Joins.open_agg4 Try.underlying56 (by kernel_rfl) (by kernel_rfl) hval h
  obtain ⟨p0, q0, _, _⟩ := DataW.trod_int Try.underlying5 e0
  obtain ⟨p1, q1, _, _⟩ := DataW.trod_int Try.underlying5 e1
  obtain ⟨p2, q2, _, _⟩ := DataW.trod_int Try.underlying5 e2
  obtain ⟨p3, q3, _, _⟩ := DataW.trod_int Try.underlying2 e3
  simp at q0 q1 q2 q3
  subst q0 q1 q2 q3
  exact ⟨(p0, p1, p2, p3), rfl, trivial⟩

theorem hcopies_agg {q : Int × Int × Int × Int} {v u : Value} {w : World} (h1 : u = .agg #[.int .u8 q.1, .int .u8 q.2.1, .int .u8 q.2.2.1, .int .i64 q.2.2.2]) (h : ChgSeen w v) : Calls Try.prog 10 #[v, u] w fun e w' => e = .returned (.bool true) ∧ Below w.heap.size w w' := by
  subst h1
  exact hcopies_true _ _ _ _ h

end Go.Proofs.Ytjganbcolaakkaa
