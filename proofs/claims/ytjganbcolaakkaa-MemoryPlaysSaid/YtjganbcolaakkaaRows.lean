/-
  No cell of these rows narrows 'for every input' (looked for: loops, veiled, ifaces, maps, wideKeys, modest, calm, conditions, laid).
  DERIVED. THE GIVEN ROWS OF THIS SEAT. 12 by the template 'for every input the law returns true; each argument reads behind the call as it read before'; 0 by the template 'total and deterministic' (their statements: YtjganbcolaakkaaTotals.lean).
  GIVEN WITH THE SEED: the statements are not yours to turn. If you find one false, say at which input.
  Laid BY PROGRAM, IN A SANDBOX (cutbox-rows.mjs): the forced cells as the released guide's own fill.sh prints them over the translation ce93fcd7028ba767… (all of the seat's roots in one cut). By AI agents, Wed Nov 11 2026. No macro, syntax, notation, axiom, sorry.
-/
import Derived.Test.YtjganbcolaakkaaChecked
import GoSem.Claim
import GoSem.ClaimJoined
import GoSem.ClaimMapViews
import Derived.JoinedTies
import Derived.KernelRfl
namespace Go.Proofs.Ytjganbcolaakkaa
/- THE CELL 'sum', in the pinned program and in every row, IS THE sha256 OF THE DUMP (.gsa) THAT YtjganbcolaakkaaProg.lean LOADS. Nothing in Lean hashes anything: it is a label: what it is worth is what the hold of that sum in a sandbox is worth. -/
noncomputable def Try.pinned : Pinned := { name := "ytjganbcolaakkaa", sum := "ce93fcd7028ba7678d2eb8c24a2ba00e63e6d23f286c2e79bfd4bc4a6a0e2921", checked := Try.checked }
namespace Rows
def none {H : Type} : Left H := { results := [], args := [] }

/-- 'rewindlaw29.MemorySpans': WHATEVER THE INPUT: true; the input reads as it did. -/
def memorySpansSpec : ChangeSpec := { name := "memorySpans", fn := fun _ => fun
  | [d] => { results := [.lit (.bool true)], args := [d] }
  | _ => none }
def memorySpansRow : OpenClaim := { program := "ytjganbcolaakkaa", sum := "ce93fcd7028ba7678d2eb8c24a2ba00e63e6d23f286c2e79bfd4bc4a6a0e2921", func := "rewind/rewindlaw29.MemorySpans", spec := "memorySpans", apart := false }
def MemorySpansSaid : Prop := memorySpansRow.holds Try.pinned (OpenSpec.ofChange memorySpansSpec)

/-- ITS FALSE NEIGHBOUR: 'it returns false'. Refute it at one input. -/
def memorySpansWrong : ChangeSpec := { name := "memorySpans", fn := fun _ => fun
  | [d] => { results := [.lit (.bool false)], args := [d] }
  | _ => none }
def MemorySpansWrongFalsely : Prop := memorySpansRow.holds Try.pinned (OpenSpec.ofChange memorySpansWrong)

/-- 'rewindlaw29.MemoryRefuses': WHATEVER THE INPUT: true; the input reads as it did. -/
def memoryRefusesSpec : ChangeSpec := { name := "memoryRefuses", fn := fun _ => fun
  | [d] => { results := [.lit (.bool true)], args := [d] }
  | _ => none }
def memoryRefusesRow : OpenClaim := { program := "ytjganbcolaakkaa", sum := "ce93fcd7028ba7678d2eb8c24a2ba00e63e6d23f286c2e79bfd4bc4a6a0e2921", func := "rewind/rewindlaw29.MemoryRefuses", spec := "memoryRefuses", apart := false }
def MemoryRefusesSaid : Prop := memoryRefusesRow.holds Try.pinned (OpenSpec.ofChange memoryRefusesSpec)

/-- ITS FALSE NEIGHBOUR: 'it returns false'. Refute it at one input. -/
def memoryRefusesWrong : ChangeSpec := { name := "memoryRefuses", fn := fun _ => fun
  | [d] => { results := [.lit (.bool false)], args := [d] }
  | _ => none }
def MemoryRefusesWrongFalsely : Prop := memoryRefusesRow.holds Try.pinned (OpenSpec.ofChange memoryRefusesWrong)

/-- 'rewindlaw17.HeapFills': WHATEVER THE INPUT: true; the input reads as it did. -/
def heapFillsSpec : ChangeSpec := { name := "heapFills", fn := fun _ => fun
  | [d1, d2] => { results := [.lit (.bool true)], args := [d1, d2] }
  | _ => none }
def heapFillsRow : OpenClaim := { program := "ytjganbcolaakkaa", sum := "ce93fcd7028ba7678d2eb8c24a2ba00e63e6d23f286c2e79bfd4bc4a6a0e2921", func := "rewind/rewindlaw17.HeapFills", spec := "heapFills", apart := false }
def HeapFillsSaid : Prop := heapFillsRow.holds Try.pinned (OpenSpec.ofChange heapFillsSpec)

/-- ITS FALSE NEIGHBOUR: 'it returns false'. Refute it at one input. -/
def heapFillsWrong : ChangeSpec := { name := "heapFills", fn := fun _ => fun
  | [d1, d2] => { results := [.lit (.bool false)], args := [d1, d2] }
  | _ => none }
def HeapFillsWrongFalsely : Prop := heapFillsRow.holds Try.pinned (OpenSpec.ofChange heapFillsWrong)

/-- 'rewindlaw29.MemoryCopies': WHATEVER THE INPUT: true; the input reads as it did. -/
def memoryCopiesSpec : ChangeSpec := { name := "memoryCopies", fn := fun _ => fun
  | [d1, d2] => { results := [.lit (.bool true)], args := [d1, d2] }
  | _ => none }
def memoryCopiesRow : OpenClaim := { program := "ytjganbcolaakkaa", sum := "ce93fcd7028ba7678d2eb8c24a2ba00e63e6d23f286c2e79bfd4bc4a6a0e2921", func := "rewind/rewindlaw29.MemoryCopies", spec := "memoryCopies", apart := false }
def MemoryCopiesSaid : Prop := memoryCopiesRow.holds Try.pinned (OpenSpec.ofChange memoryCopiesSpec)

/-- ITS FALSE NEIGHBOUR: 'it returns false'. Refute it at one input. -/
def memoryCopiesWrong : ChangeSpec := { name := "memoryCopies", fn := fun _ => fun
  | [d1, d2] => { results := [.lit (.bool false)], args := [d1, d2] }
  | _ => none }
def MemoryCopiesWrongFalsely : Prop := memoryCopiesRow.holds Try.pinned (OpenSpec.ofChange memoryCopiesWrong)

/-- 'rewindlaw17.HeapModel': WHATEVER THE INPUT: true; the input reads as it did. -/
def heapModelSpec : ChangeSpec := { name := "heapModel", fn := fun _ => fun
  | [d1, d2] => { results := [.lit (.bool true)], args := [d1, d2] }
  | _ => none }
def heapModelRow : OpenClaim := { program := "ytjganbcolaakkaa", sum := "ce93fcd7028ba7678d2eb8c24a2ba00e63e6d23f286c2e79bfd4bc4a6a0e2921", func := "rewind/rewindlaw17.HeapModel", spec := "heapModel", apart := false }
def HeapModelSaid : Prop := heapModelRow.holds Try.pinned (OpenSpec.ofChange heapModelSpec)

/-- ITS FALSE NEIGHBOUR: 'it returns false'. Refute it at one input. -/
def heapModelWrong : ChangeSpec := { name := "heapModel", fn := fun _ => fun
  | [d1, d2] => { results := [.lit (.bool false)], args := [d1, d2] }
  | _ => none }
def HeapModelWrongFalsely : Prop := heapModelRow.holds Try.pinned (OpenSpec.ofChange heapModelWrong)

/-- 'rewindlaw29.MemoryPlays': WHATEVER THE INPUT: true; the input reads as it did. -/
def memoryPlaysSpec : ChangeSpec := { name := "memoryPlays", fn := fun _ => fun
  | [d1, d2] => { results := [.lit (.bool true)], args := [d1, d2] }
  | _ => none }
def memoryPlaysRow : OpenClaim := { program := "ytjganbcolaakkaa", sum := "ce93fcd7028ba7678d2eb8c24a2ba00e63e6d23f286c2e79bfd4bc4a6a0e2921", func := "rewind/rewindlaw29.MemoryPlays", spec := "memoryPlays", apart := false }
def MemoryPlaysSaid : Prop := memoryPlaysRow.holds Try.pinned (OpenSpec.ofChange memoryPlaysSpec)

/-- ITS FALSE NEIGHBOUR: 'it returns false'. Refute it at one input. -/
def memoryPlaysWrong : ChangeSpec := { name := "memoryPlays", fn := fun _ => fun
  | [d1, d2] => { results := [.lit (.bool false)], args := [d1, d2] }
  | _ => none }
def MemoryPlaysWrongFalsely : Prop := memoryPlaysRow.holds Try.pinned (OpenSpec.ofChange memoryPlaysWrong)

/-- 'rewindlaw29.MemoryNil': WHATEVER THE INPUT: true; the input reads as it did. -/
def memoryNilSpec : ChangeSpec := { name := "memoryNil", fn := fun _ => fun
  | [d1, d2, d3] => { results := [.lit (.bool true)], args := [d1, d2, d3] }
  | _ => none }
def memoryNilRow : OpenClaim := { program := "ytjganbcolaakkaa", sum := "ce93fcd7028ba7678d2eb8c24a2ba00e63e6d23f286c2e79bfd4bc4a6a0e2921", func := "rewind/rewindlaw29.MemoryNil", spec := "memoryNil", apart := false }
def MemoryNilSaid : Prop := memoryNilRow.holds Try.pinned (OpenSpec.ofChange memoryNilSpec)

/-- ITS FALSE NEIGHBOUR: 'it returns false'. Refute it at one input. -/
def memoryNilWrong : ChangeSpec := { name := "memoryNil", fn := fun _ => fun
  | [d1, d2, d3] => { results := [.lit (.bool false)], args := [d1, d2, d3] }
  | _ => none }
def MemoryNilWrongFalsely : Prop := memoryNilRow.holds Try.pinned (OpenSpec.ofChange memoryNilWrong)

/-- 'rewindlaw17.HeapCopies': WHATEVER THE INPUT: true; the input reads as it did. -/
def heapCopiesSpec : ChangeSpec := { name := "heapCopies", fn := fun _ => fun
  | [d1, d2] => { results := [.lit (.bool true)], args := [d1, d2] }
  | _ => none }
def heapCopiesRow : OpenClaim := { program := "ytjganbcolaakkaa", sum := "ce93fcd7028ba7678d2eb8c24a2ba00e63e6d23f286c2e79bfd4bc4a6a0e2921", func := "rewind/rewindlaw17.HeapCopies", spec := "heapCopies", unfollowed := true, recurses := true, apart := false }
def HeapCopiesSaid : Prop := heapCopiesRow.holds Try.pinned (OpenSpec.ofChange heapCopiesSpec)

/-- ITS FALSE NEIGHBOUR: 'it returns false'. Refute it at one input. -/
def heapCopiesWrong : ChangeSpec := { name := "heapCopies", fn := fun _ => fun
  | [d1, d2] => { results := [.lit (.bool false)], args := [d1, d2] }
  | _ => none }
def HeapCopiesWrongFalsely : Prop := heapCopiesRow.holds Try.pinned (OpenSpec.ofChange heapCopiesWrong)

/-- 'rewindlaw17.HeapRefuses': WHATEVER THE INPUT: true; the input reads as it did. -/
def heapRefusesSpec : ChangeSpec := { name := "heapRefuses", fn := fun _ => fun
  | [d] => { results := [.lit (.bool true)], args := [d] }
  | _ => none }
def heapRefusesRow : OpenClaim := { program := "ytjganbcolaakkaa", sum := "ce93fcd7028ba7678d2eb8c24a2ba00e63e6d23f286c2e79bfd4bc4a6a0e2921", func := "rewind/rewindlaw17.HeapRefuses", spec := "heapRefuses", unfollowed := true, recurses := true, apart := false }
def HeapRefusesSaid : Prop := heapRefusesRow.holds Try.pinned (OpenSpec.ofChange heapRefusesSpec)

/-- ITS FALSE NEIGHBOUR: 'it returns false'. Refute it at one input. -/
def heapRefusesWrong : ChangeSpec := { name := "heapRefuses", fn := fun _ => fun
  | [d] => { results := [.lit (.bool false)], args := [d] }
  | _ => none }
def HeapRefusesWrongFalsely : Prop := heapRefusesRow.holds Try.pinned (OpenSpec.ofChange heapRefusesWrong)

/-- 'rewindlaw17.HeapPlays': WHATEVER THE INPUT: true; the input reads as it did. -/
def heapPlaysSpec : ChangeSpec := { name := "heapPlays", fn := fun _ => fun
  | [d1, d2] => { results := [.lit (.bool true)], args := [d1, d2] }
  | _ => none }
def heapPlaysRow : OpenClaim := { program := "ytjganbcolaakkaa", sum := "ce93fcd7028ba7678d2eb8c24a2ba00e63e6d23f286c2e79bfd4bc4a6a0e2921", func := "rewind/rewindlaw17.HeapPlays", spec := "heapPlays", unfollowed := true, recurses := true, apart := false }
def HeapPlaysSaid : Prop := heapPlaysRow.holds Try.pinned (OpenSpec.ofChange heapPlaysSpec)

/-- ITS FALSE NEIGHBOUR: 'it returns false'. Refute it at one input. -/
def heapPlaysWrong : ChangeSpec := { name := "heapPlays", fn := fun _ => fun
  | [d1, d2] => { results := [.lit (.bool false)], args := [d1, d2] }
  | _ => none }
def HeapPlaysWrongFalsely : Prop := heapPlaysRow.holds Try.pinned (OpenSpec.ofChange heapPlaysWrong)

/-- 'rewindlaw17.HeapNil': WHATEVER THE INPUT: true; the input reads as it did. -/
def heapNilSpec : ChangeSpec := { name := "heapNil", fn := fun _ => fun
  | [d1, d2, d3] => { results := [.lit (.bool true)], args := [d1, d2, d3] }
  | _ => none }
def heapNilRow : OpenClaim := { program := "ytjganbcolaakkaa", sum := "ce93fcd7028ba7678d2eb8c24a2ba00e63e6d23f286c2e79bfd4bc4a6a0e2921", func := "rewind/rewindlaw17.HeapNil", spec := "heapNil", unfollowed := true, recurses := true, apart := false }
def HeapNilSaid : Prop := heapNilRow.holds Try.pinned (OpenSpec.ofChange heapNilSpec)

/-- ITS FALSE NEIGHBOUR: 'it returns false'. Refute it at one input. -/
def heapNilWrong : ChangeSpec := { name := "heapNil", fn := fun _ => fun
  | [d1, d2, d3] => { results := [.lit (.bool false)], args := [d1, d2, d3] }
  | _ => none }
def HeapNilWrongFalsely : Prop := heapNilRow.holds Try.pinned (OpenSpec.ofChange heapNilWrong)

/-- 'rewindlaw29.MemoryLike': WHATEVER THE INPUT: true; the input reads as it did. -/
def memoryLikeSpec : ChangeSpec := { name := "memoryLike", fn := fun _ => fun
  | [d1, d2] => { results := [.lit (.bool true)], args := [d1, d2] }
  | _ => none }
def memoryLikeRow : OpenClaim := { program := "ytjganbcolaakkaa", sum := "ce93fcd7028ba7678d2eb8c24a2ba00e63e6d23f286c2e79bfd4bc4a6a0e2921", func := "rewind/rewindlaw29.MemoryLike", spec := "memoryLike", apart := false }
def MemoryLikeSaid : Prop := memoryLikeRow.holds Try.pinned (OpenSpec.ofChange memoryLikeSpec)

/-- ITS FALSE NEIGHBOUR: 'it returns false'. Refute it at one input. -/
def memoryLikeWrong : ChangeSpec := { name := "memoryLike", fn := fun _ => fun
  | [d1, d2] => { results := [.lit (.bool false)], args := [d1, d2] }
  | _ => none }
def MemoryLikeWrongFalsely : Prop := memoryLikeRow.holds Try.pinned (OpenSpec.ofChange memoryLikeWrong)

/- THE SECOND FORM. 'bulk': how many values and letters a reading holds, each counted each time it is reached (what is shared counts as often as it is met; a slice's spare places count too). A statement '..UptoSaid' is the law's where the arguments, and the package variables that the reading takes, are together of bulk at most 1048576: NARROWER than '..Said'. Prove '..Said' where nothing that the law and all that it calls make is longer than what came in: it says more and counts as full. Else prove '..UptoSaid'. A law counts once. -/
mutual
def uptoBulk {H : Type} : DataW H → Nat
  | .lit (.string bytes) => bytes.length + 1
  | .lit _ => 1
  | .nil => 1
  | .ptr d => uptoBulk d + 1
  | .slice elems spare => uptoBulkAll elems + uptoBulkAll spare + 1
  | .agg parts => uptoBulkAll parts + 1
  | .iface _ d => uptoBulk d + 1
  | .map entries => uptoBulkEntries entries + 1
  | .held _ => 1
def uptoBulkAll {H : Type} : List (DataW H) → Nat
  | [] => 0
  | d :: r => uptoBulk d + uptoBulkAll r
def uptoBulkEntries {H : Type} : List (Lit × DataW H) → Nat
  | [] => 0
  | x :: r => uptoBulkEntry x + uptoBulkEntries r
def uptoBulkEntry {H : Type} : Lit × DataW H → Nat
  | (.string bytes, d) => bytes.length + uptoBulk d + 1
  | (_, d) => uptoBulk d + 1
 end
def uptoSmall : (H : Type) → List (DataW H) → Bool := fun _ ds => decide (uptoBulkAll ds ≤ 1048576)
def OpenSpec.upto (s : _root_.Go.ChangeSpec) : _root_.Go.OpenSpec := { _root_.Go.OpenSpec.ofChange s with cond := some uptoSmall }

/-- 'rewindlaw29.MemorySpans', WHERE WHAT IT READS IS OF BULK AT MOST 1048576: true; the input reads as it did. -/
def memorySpansUptoRow : OpenClaim := { program := "ytjganbcolaakkaa", sum := "ce93fcd7028ba7678d2eb8c24a2ba00e63e6d23f286c2e79bfd4bc4a6a0e2921", func := "rewind/rewindlaw29.MemorySpans", spec := "memorySpans", apart := false, narrowed := true }
def MemorySpansUptoSaid : Prop := memorySpansUptoRow.holds Try.pinned (OpenSpec.upto memorySpansSpec)

/-- 'rewindlaw29.MemoryRefuses', WHERE WHAT IT READS IS OF BULK AT MOST 1048576: true; the input reads as it did. -/
def memoryRefusesUptoRow : OpenClaim := { program := "ytjganbcolaakkaa", sum := "ce93fcd7028ba7678d2eb8c24a2ba00e63e6d23f286c2e79bfd4bc4a6a0e2921", func := "rewind/rewindlaw29.MemoryRefuses", spec := "memoryRefuses", apart := false, narrowed := true }
def MemoryRefusesUptoSaid : Prop := memoryRefusesUptoRow.holds Try.pinned (OpenSpec.upto memoryRefusesSpec)

/-- 'rewindlaw17.HeapFills', WHERE WHAT IT READS IS OF BULK AT MOST 1048576: true; the input reads as it did. -/
def heapFillsUptoRow : OpenClaim := { program := "ytjganbcolaakkaa", sum := "ce93fcd7028ba7678d2eb8c24a2ba00e63e6d23f286c2e79bfd4bc4a6a0e2921", func := "rewind/rewindlaw17.HeapFills", spec := "heapFills", apart := false, narrowed := true }
def HeapFillsUptoSaid : Prop := heapFillsUptoRow.holds Try.pinned (OpenSpec.upto heapFillsSpec)

/-- 'rewindlaw29.MemoryCopies', WHERE WHAT IT READS IS OF BULK AT MOST 1048576: true; the input reads as it did. -/
def memoryCopiesUptoRow : OpenClaim := { program := "ytjganbcolaakkaa", sum := "ce93fcd7028ba7678d2eb8c24a2ba00e63e6d23f286c2e79bfd4bc4a6a0e2921", func := "rewind/rewindlaw29.MemoryCopies", spec := "memoryCopies", apart := false, narrowed := true }
def MemoryCopiesUptoSaid : Prop := memoryCopiesUptoRow.holds Try.pinned (OpenSpec.upto memoryCopiesSpec)

/-- 'rewindlaw17.HeapModel', WHERE WHAT IT READS IS OF BULK AT MOST 1048576: true; the input reads as it did. -/
def heapModelUptoRow : OpenClaim := { program := "ytjganbcolaakkaa", sum := "ce93fcd7028ba7678d2eb8c24a2ba00e63e6d23f286c2e79bfd4bc4a6a0e2921", func := "rewind/rewindlaw17.HeapModel", spec := "heapModel", apart := false, narrowed := true }
def HeapModelUptoSaid : Prop := heapModelUptoRow.holds Try.pinned (OpenSpec.upto heapModelSpec)

/-- 'rewindlaw29.MemoryPlays', WHERE WHAT IT READS IS OF BULK AT MOST 1048576: true; the input reads as it did. -/
def memoryPlaysUptoRow : OpenClaim := { program := "ytjganbcolaakkaa", sum := "ce93fcd7028ba7678d2eb8c24a2ba00e63e6d23f286c2e79bfd4bc4a6a0e2921", func := "rewind/rewindlaw29.MemoryPlays", spec := "memoryPlays", apart := false, narrowed := true }
def MemoryPlaysUptoSaid : Prop := memoryPlaysUptoRow.holds Try.pinned (OpenSpec.upto memoryPlaysSpec)

/-- 'rewindlaw29.MemoryNil', WHERE WHAT IT READS IS OF BULK AT MOST 1048576: true; the input reads as it did. -/
def memoryNilUptoRow : OpenClaim := { program := "ytjganbcolaakkaa", sum := "ce93fcd7028ba7678d2eb8c24a2ba00e63e6d23f286c2e79bfd4bc4a6a0e2921", func := "rewind/rewindlaw29.MemoryNil", spec := "memoryNil", apart := false, narrowed := true }
def MemoryNilUptoSaid : Prop := memoryNilUptoRow.holds Try.pinned (OpenSpec.upto memoryNilSpec)

/-- 'rewindlaw17.HeapCopies', WHERE WHAT IT READS IS OF BULK AT MOST 1048576: true; the input reads as it did. -/
def heapCopiesUptoRow : OpenClaim := { program := "ytjganbcolaakkaa", sum := "ce93fcd7028ba7678d2eb8c24a2ba00e63e6d23f286c2e79bfd4bc4a6a0e2921", func := "rewind/rewindlaw17.HeapCopies", spec := "heapCopies", unfollowed := true, recurses := true, apart := false, narrowed := true }
def HeapCopiesUptoSaid : Prop := heapCopiesUptoRow.holds Try.pinned (OpenSpec.upto heapCopiesSpec)

/-- 'rewindlaw17.HeapRefuses', WHERE WHAT IT READS IS OF BULK AT MOST 1048576: true; the input reads as it did. -/
def heapRefusesUptoRow : OpenClaim := { program := "ytjganbcolaakkaa", sum := "ce93fcd7028ba7678d2eb8c24a2ba00e63e6d23f286c2e79bfd4bc4a6a0e2921", func := "rewind/rewindlaw17.HeapRefuses", spec := "heapRefuses", unfollowed := true, recurses := true, apart := false, narrowed := true }
def HeapRefusesUptoSaid : Prop := heapRefusesUptoRow.holds Try.pinned (OpenSpec.upto heapRefusesSpec)

/-- 'rewindlaw17.HeapPlays', WHERE WHAT IT READS IS OF BULK AT MOST 1048576: true; the input reads as it did. -/
def heapPlaysUptoRow : OpenClaim := { program := "ytjganbcolaakkaa", sum := "ce93fcd7028ba7678d2eb8c24a2ba00e63e6d23f286c2e79bfd4bc4a6a0e2921", func := "rewind/rewindlaw17.HeapPlays", spec := "heapPlays", unfollowed := true, recurses := true, apart := false, narrowed := true }
def HeapPlaysUptoSaid : Prop := heapPlaysUptoRow.holds Try.pinned (OpenSpec.upto heapPlaysSpec)

/-- 'rewindlaw17.HeapNil', WHERE WHAT IT READS IS OF BULK AT MOST 1048576: true; the input reads as it did. -/
def heapNilUptoRow : OpenClaim := { program := "ytjganbcolaakkaa", sum := "ce93fcd7028ba7678d2eb8c24a2ba00e63e6d23f286c2e79bfd4bc4a6a0e2921", func := "rewind/rewindlaw17.HeapNil", spec := "heapNil", unfollowed := true, recurses := true, apart := false, narrowed := true }
def HeapNilUptoSaid : Prop := heapNilUptoRow.holds Try.pinned (OpenSpec.upto heapNilSpec)

/-- 'rewindlaw29.MemoryLike', WHERE WHAT IT READS IS OF BULK AT MOST 1048576: true; the input reads as it did. -/
def memoryLikeUptoRow : OpenClaim := { program := "ytjganbcolaakkaa", sum := "ce93fcd7028ba7678d2eb8c24a2ba00e63e6d23f286c2e79bfd4bc4a6a0e2921", func := "rewind/rewindlaw29.MemoryLike", spec := "memoryLike", apart := false, narrowed := true }
def MemoryLikeUptoSaid : Prop := memoryLikeUptoRow.holds Try.pinned (OpenSpec.upto memoryLikeSpec)

end Rows
end Go.Proofs.Ytjganbcolaakkaa
