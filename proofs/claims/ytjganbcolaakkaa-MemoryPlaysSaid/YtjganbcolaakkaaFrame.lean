/-
  The frame of a law: what came in reads behind the call as it read before, whatever its types; the step from a walk to the given statement.
-/
import Derived.Test.YtjganbcolaakkaaBase
import Derived.Test.YtjganbcolaakkaaRows
import Derived.ProofKit
import Derived.ReadAgain
import Derived.OpenShut
namespace Go.Proofs.Ytjganbcolaakkaa
open Go.ChangeShapes Go.WideShapes Go.ChangeAt Go.RowKit

theorem Try.own : ownKnob Try.prog.godebug = none := by kernel_rfl
theorem Try.kids : Kids Try.prog (· < Try.prog.types.size) := kids_rows (by kernel_rfl) (by kernel_rfl)
theorem Try.full : ∀ t e, t < Try.prog.types.size → Try.prog.underlying t = some (.slice e) → 0 < Try.prog.cellsOf e := slices_full_of Try.prog (by kernel_rfl)

theorem trod_moved {H : Type} {enc : TypeId × Value → H} {P : Program} {w w' : World} {base : Nat} {spare : Nat → Bool} {held : Bool} {t : TypeId} {v : Value} {d : DataW H} {ps : List MemPlace}
    (h : DataW.Trod enc P w base spare held t v d ps) (hs : ∀ p ∈ ps, w.sameAt w' p) : DataW.Trod enc P w' base spare held t v d ps := by
  obtain ⟨n, hn⟩ := h
  exact ⟨n, DataW.trod_carry n t _ _ hn hs⟩

theorem trodAll_moved {H : Type} {enc : TypeId × Value → H} {P : Program} {w w' : World} {base : Nat} {spare : Nat → Bool} {held : Bool} : ∀ {ts : List TypeId} {vs : List Value} {ds : List (DataW H)} {ps : List MemPlace},
    DataW.TrodAll enc P w base spare held ts vs ds ps → (∀ p ∈ ps, w.sameAt w' p) → DataW.TrodAll enc P w' base spare held ts vs ds ps
  | [], [], [], _, h, _ => h
  | _ :: _, _ :: _, _ :: _, _, ⟨p, q, h1, h2, e⟩, hs =>
    ⟨p, q, trod_moved h1 (fun x hx => hs x (by rw [e]; exact List.mem_append_left _ hx)), trodAll_moved h2 (fun x hx => hs x (by rw [e]; exact List.mem_append_right _ hx)), e⟩

/-- A law's end: it returned true, and of what was there nothing has turned. -/
theorem law_post {H : Type} {enc : TypeId × Value → H} {f : Func} {s : ChangeSpec} {apart fresh handsOn : Bool} {W W' : World} {args : Array Value} {ds : List (DataW H)} {gs : List (DataW H)} {before : List MemPlace}
    (hW : DataW.Whole enc Try.prog f.params.toList s.vars apart W args.toList ds gs before) (hv : s.vars = []) (hT : ∀ t ∈ f.params.toList, t < Try.prog.types.size) (hr : f.resultTypes = #[4])
    (hs : s.fn H ds = { results := [.lit (.bool true)], args := ds }) (hb : Below W.heap.size W W') :
    s.post enc Try.prog f apart fresh handsOn false W args (.bool true) W' := by
  have hlt := fun p hp => hW.lt (p := p) hp
  obtain ⟨p, q, hA, hV, rfl, hfz, hnd⟩ := id hW
  rw [hv] at hV
  obtain ⟨rfl, rfl⟩ := trodVars_none hV
  simp only [List.append_nil] at hlt hW
  refine ⟨ds, [], p, [], p, [], hW, ?_, ?_, ?_, hb.frame _, fun h => by cases h⟩
  · rw [List.append_nil, hs, hr]
    exact trodAll_mk1 (shut_bool Try.underlying4 _)
  · rw [List.append_nil, hs]
    exact trodAll_moved (DataW.TrodAll.respare Try.kids Try.full hT hA (fun x hx => by simpa using hlt x hx)) (fun x hx => hb.same (hlt x hx))
  · rw [List.append_nil, hs, hv]
    rfl

set_option maxRecDepth 100000 in
/-- A slice of 64-bit numbers that came in. -/
theorem ints_seen {H : Type} {enc : TypeId × Value → H} {W : World} {r : Reach} {b0 : Nat} {v : Value} {d : DataW H} {ps : List MemPlace} (hval : Value.okWide Try.prog W r b0 31 v) (h : DataW.Trod enc Try.prog W 0 (fun _ => true) true 31 v d ps) :
    ∃ xs : List Int, Sees W v xs ∧ ∀ n ∈ xs, (Lit.int .i64 n).wf = true := by
  obtain ⟨a0, len, cap, rfl⟩ := okWide_slice Try.underlying31 hval
  obtain ⟨fuel, hf⟩ := h
  have hc : Try.prog.cellsOf 2 = 1 := by kernel_rfl
  rcases open_ints Try.underlying31 Try.underlying2 hc hf with ⟨hcs, hx⟩ | ⟨a, len', cap', zs, hcs, _, hle, hmax, hall, hx, hcell, hwf⟩
  · simp [Value.cells] at hcs
    obtain ⟨rfl, rfl, rfl⟩ := hcs
    exact ⟨[], Sees.nil W, fun n hn => by cases hn⟩
  · simp [Value.cells] at hcs
    obtain ⟨rfl, rfl, rfl⟩ := hcs
    simp only [if_true] at hall
    refine ⟨zs.take len, ⟨some a, cap, by simp; omega, by simp; omega, hmax, (fun h => by cases h), fun ad e => ?_⟩, fun n hn => hwf n (List.mem_of_mem_take hn)⟩
    obtain rfl := Option.some.inj e
    have hl : (zs.take len).length = len := by simp; omega
    rw [hl]
    by_cases h0 : 0 < len
    · obtain ⟨b, off, rfl, hat⟩ := Go.ints_at hcell (by omega)
      refine ⟨fun _ => ⟨rfl, ?_⟩, fun j hj => ?_⟩
      · have := hat 0 (by omega)
        exact World.block_lt_of_cell? _ _ this
      · rw [hat j (by omega)]
        simp [List.getD, hj]
    · exact ⟨fun h => by omega, fun j hj => by omega⟩

end Go.Proofs.Ytjganbcolaakkaa
