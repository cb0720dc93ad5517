/-
  No cell of these rows narrows 'for every input' (looked for: loops, veiled, ifaces, maps, wideKeys, modest, calm, conditions, laid).
  DERIVED. THE GIVEN ROWS OF THIS SEAT. 5 by the template 'for every input the law returns true; each argument reads behind the call as it read before'; 0 by the template 'total and deterministic' (their statements: YtcajkgingenegaaTotals.lean).
  GIVEN WITH THE SEED: the statements are not yours to turn. If you find one false, say at which input.
  Laid BY PROGRAM, IN A SANDBOX (cutbox-rows.mjs): the forced cells as the released guide's own fill.sh prints them over the translation a4df3d48ad57b948… (all of the seat's roots in one cut). By AI agents, Wed Nov 11 2026. No macro, syntax, notation, axiom, sorry.
-/
import Derived.Test.YtcajkgingenegaaChecked
import GoSem.Claim
import GoSem.ClaimJoined
import GoSem.ClaimMapViews
import Derived.JoinedTies
import Derived.KernelRfl
namespace Go.Proofs.Ytcajkgingenegaa
/- THE CELL 'sum', in the pinned program and in every row, IS THE sha256 OF THE DUMP (.gsa) THAT YtcajkgingenegaaProg.lean LOADS. Nothing in Lean hashes anything: it is a label: what it is worth is what the hold of that sum in a sandbox is worth. -/
noncomputable def Try.pinned : Pinned := { name := "ytcajkgingenegaa", sum := "a4df3d48ad57b9488a3bd432475943cb02f062a4ef4760be067c3e7d5e436447", checked := Try.checked }
namespace Rows
def none {H : Type} : Left H := { results := [], args := [] }

/-- 'rewindlaw28.OpstackRefuses': WHATEVER THE INPUT: true; the input reads as it did. -/
def opstackRefusesSpec : ChangeSpec := { name := "opstackRefuses", fn := fun _ => fun
  | [d1, d2] => { results := [.lit (.bool true)], args := [d1, d2] }
  | _ => none }
def opstackRefusesRow : OpenClaim := { program := "ytcajkgingenegaa", sum := "a4df3d48ad57b9488a3bd432475943cb02f062a4ef4760be067c3e7d5e436447", func := "rewind/rewindlaw28.OpstackRefuses", spec := "opstackRefuses", apart := false }
def OpstackRefusesSaid : Prop := opstackRefusesRow.holds Try.pinned (OpenSpec.ofChange opstackRefusesSpec)

/-- ITS FALSE NEIGHBOUR: 'it returns false'. Refute it at one input. -/
def opstackRefusesWrong : ChangeSpec := { name := "opstackRefuses", fn := fun _ => fun
  | [d1, d2] => { results := [.lit (.bool false)], args := [d1, d2] }
  | _ => none }
def OpstackRefusesWrongFalsely : Prop := opstackRefusesRow.holds Try.pinned (OpenSpec.ofChange opstackRefusesWrong)

/-- 'rewindlaw28.OpstackKnown': WHATEVER THE INPUT: true; the input reads as it did. -/
def opstackKnownSpec : ChangeSpec := { name := "opstackKnown", fn := fun _ => fun
  | [] => { results := [.lit (.bool true)], args := [] }
  | _ => none }
def opstackKnownRow : OpenClaim := { program := "ytcajkgingenegaa", sum := "a4df3d48ad57b9488a3bd432475943cb02f062a4ef4760be067c3e7d5e436447", func := "rewind/rewindlaw28.OpstackKnown", spec := "opstackKnown", apart := false }
def OpstackKnownSaid : Prop := opstackKnownRow.holds Try.pinned (OpenSpec.ofChange opstackKnownSpec)

/-- ITS FALSE NEIGHBOUR: 'it returns false'. Refute it at one input. -/
def opstackKnownWrong : ChangeSpec := { name := "opstackKnown", fn := fun _ => fun
  | [] => { results := [.lit (.bool false)], args := [] }
  | _ => none }
def OpstackKnownWrongFalsely : Prop := opstackKnownRow.holds Try.pinned (OpenSpec.ofChange opstackKnownWrong)

/-- 'rewindlaw28.OpstackPlays': WHATEVER THE INPUT: true; the input reads as it did. -/
def opstackPlaysSpec : ChangeSpec := { name := "opstackPlays", fn := fun _ => fun
  | [d1, d2] => { results := [.lit (.bool true)], args := [d1, d2] }
  | _ => none }
def opstackPlaysRow : OpenClaim := { program := "ytcajkgingenegaa", sum := "a4df3d48ad57b9488a3bd432475943cb02f062a4ef4760be067c3e7d5e436447", func := "rewind/rewindlaw28.OpstackPlays", spec := "opstackPlays", apart := false }
def OpstackPlaysSaid : Prop := opstackPlaysRow.holds Try.pinned (OpenSpec.ofChange opstackPlaysSpec)

/-- ITS FALSE NEIGHBOUR: 'it returns false'. Refute it at one input. -/
def opstackPlaysWrong : ChangeSpec := { name := "opstackPlays", fn := fun _ => fun
  | [d1, d2] => { results := [.lit (.bool false)], args := [d1, d2] }
  | _ => none }
def OpstackPlaysWrongFalsely : Prop := opstackPlaysRow.holds Try.pinned (OpenSpec.ofChange opstackPlaysWrong)

/-- 'rewindlaw28.OpstackNil': WHATEVER THE INPUT: true; the input reads as it did. -/
def opstackNilSpec : ChangeSpec := { name := "opstackNil", fn := fun _ => fun
  | [d1, d2] => { results := [.lit (.bool true)], args := [d1, d2] }
  | _ => none }
def opstackNilRow : OpenClaim := { program := "ytcajkgingenegaa", sum := "a4df3d48ad57b9488a3bd432475943cb02f062a4ef4760be067c3e7d5e436447", func := "rewind/rewindlaw28.OpstackNil", spec := "opstackNil", apart := false }
def OpstackNilSaid : Prop := opstackNilRow.holds Try.pinned (OpenSpec.ofChange opstackNilSpec)

/-- ITS FALSE NEIGHBOUR: 'it returns false'. Refute it at one input. -/
def opstackNilWrong : ChangeSpec := { name := "opstackNil", fn := fun _ => fun
  | [d1, d2] => { results := [.lit (.bool false)], args := [d1, d2] }
  | _ => none }
def OpstackNilWrongFalsely : Prop := opstackNilRow.holds Try.pinned (OpenSpec.ofChange opstackNilWrong)

/-- 'rewindlaw28.OpstackOrder': WHATEVER THE INPUT: true; the input reads as it did. -/
def opstackOrderSpec : ChangeSpec := { name := "opstackOrder", fn := fun _ => fun
  | [d1, d2, d3] => { results := [.lit (.bool true)], args := [d1, d2, d3] }
  | _ => none }
def opstackOrderRow : OpenClaim := { program := "ytcajkgingenegaa", sum := "a4df3d48ad57b9488a3bd432475943cb02f062a4ef4760be067c3e7d5e436447", func := "rewind/rewindlaw28.OpstackOrder", spec := "opstackOrder", apart := false }
def OpstackOrderSaid : Prop := opstackOrderRow.holds Try.pinned (OpenSpec.ofChange opstackOrderSpec)

/-- ITS FALSE NEIGHBOUR: 'it returns false'. Refute it at one input. -/
def opstackOrderWrong : ChangeSpec := { name := "opstackOrder", fn := fun _ => fun
  | [d1, d2, d3] => { results := [.lit (.bool false)], args := [d1, d2, d3] }
  | _ => none }
def OpstackOrderWrongFalsely : Prop := opstackOrderRow.holds Try.pinned (OpenSpec.ofChange opstackOrderWrong)

/- THE SECOND FORM. 'bulk': how many values and letters a reading holds, each counted each time it is reached (what is shared counts as often as it is met; a slice's spare places count too). A statement '..UptoSaid' is the law's where the arguments, and the package variables that the reading takes, are together of bulk at most 1048576: NARROWER than '..Said'. Prove '..Said' where nothing that the law and all that it calls make is longer than what came in: it says more and counts as full. Else prove '..UptoSaid'. A law counts once. -/
mutual
def uptoBulk {H : Type} : DataW H → Nat
  | .lit (.string bytes) => bytes.length + 1
  | .lit _ => 1
  | .nil => 1
  | .ptr d => uptoBulk d + 1
  | .slice elems spare => uptoBulkAll elems + uptoBulkAll spare + 1
  | .agg parts => uptoBulkAll parts + 1
  | .iface _ d => uptoBulk d + 1
  | .map entries => uptoBulkEntries entries + 1
  | .held _ => 1
def uptoBulkAll {H : Type} : List (DataW H) → Nat
  | [] => 0
  | d :: r => uptoBulk d + uptoBulkAll r
def uptoBulkEntries {H : Type} : List (Lit × DataW H) → Nat
  | [] => 0
  | x :: r => uptoBulkEntry x + uptoBulkEntries r
def uptoBulkEntry {H : Type} : Lit × DataW H → Nat
  | (.string bytes, d) => bytes.length + uptoBulk d + 1
  | (_, d) => uptoBulk d + 1
 end
def uptoSmall : (H : Type) → List (DataW H) → Bool := fun _ ds => decide (uptoBulkAll ds ≤ 1048576)
def OpenSpec.upto (s : _root_.Go.ChangeSpec) : _root_.Go.OpenSpec := { _root_.Go.OpenSpec.ofChange s with cond := some uptoSmall }

/-- 'rewindlaw28.OpstackRefuses', WHERE WHAT IT READS IS OF BULK AT MOST 1048576: true; the input reads as it did. -/
def opstackRefusesUptoRow : OpenClaim := { program := "ytcajkgingenegaa", sum := "a4df3d48ad57b9488a3bd432475943cb02f062a4ef4760be067c3e7d5e436447", func := "rewind/rewindlaw28.OpstackRefuses", spec := "opstackRefuses", apart := false, narrowed := true }
def OpstackRefusesUptoSaid : Prop := opstackRefusesUptoRow.holds Try.pinned (OpenSpec.upto opstackRefusesSpec)

/-- 'rewindlaw28.OpstackKnown', WHERE WHAT IT READS IS OF BULK AT MOST 1048576: true; the input reads as it did. -/
def opstackKnownUptoRow : OpenClaim := { program := "ytcajkgingenegaa", sum := "a4df3d48ad57b9488a3bd432475943cb02f062a4ef4760be067c3e7d5e436447", func := "rewind/rewindlaw28.OpstackKnown", spec := "opstackKnown", apart := false, narrowed := true }
def OpstackKnownUptoSaid : Prop := opstackKnownUptoRow.holds Try.pinned (OpenSpec.upto opstackKnownSpec)

/-- 'rewindlaw28.OpstackPlays', WHERE WHAT IT READS IS OF BULK AT MOST 1048576: true; the input reads as it did. -/
def opstackPlaysUptoRow : OpenClaim := { program := "ytcajkgingenegaa", sum := "a4df3d48ad57b9488a3bd432475943cb02f062a4ef4760be067c3e7d5e436447", func := "rewind/rewindlaw28.OpstackPlays", spec := "opstackPlays", apart := false, narrowed := true }
def OpstackPlaysUptoSaid : Prop := opstackPlaysUptoRow.holds Try.pinned (OpenSpec.upto opstackPlaysSpec)

/-- 'rewindlaw28.OpstackNil', WHERE WHAT IT READS IS OF BULK AT MOST 1048576: true; the input reads as it did. -/
def opstackNilUptoRow : OpenClaim := { program := "ytcajkgingenegaa", sum := "a4df3d48ad57b9488a3bd432475943cb02f062a4ef4760be067c3e7d5e436447", func := "rewind/rewindlaw28.OpstackNil", spec := "opstackNil", apart := false, narrowed := true }
def OpstackNilUptoSaid : Prop := opstackNilUptoRow.holds Try.pinned (OpenSpec.upto opstackNilSpec)

/-- 'rewindlaw28.OpstackOrder', WHERE WHAT IT READS IS OF BULK AT MOST 1048576: true; the input reads as it did. -/
def opstackOrderUptoRow : OpenClaim := { program := "ytcajkgingenegaa", sum := "a4df3d48ad57b9488a3bd432475943cb02f062a4ef4760be067c3e7d5e436447", func := "rewind/rewindlaw28.OpstackOrder", spec := "opstackOrder", apart := false, narrowed := true }
def OpstackOrderUptoSaid : Prop := opstackOrderUptoRow.holds Try.pinned (OpenSpec.upto opstackOrderSpec)

end Rows
end Go.Proofs.Ytcajkgingenegaa
