/-
  The document's memories: Same, walked.
-/
import Derived.Test.YtjganbcolaakkaaRMemC
namespace Go.Proofs.Ytjganbcolaakkaa
open Go.RowKit

set_option maxRecDepth 10000 in
set_option maxHeartbeats 1000000 in
theorem SN.same_raw {w0 w : World} {b b' lim : Nat} {ls ls' : List (List Int)} {l : List Thing} [Goods l] (h : St w0 w (RM b lim ls :: RM b' lim ls' :: l)) (hf : ls.length ≤ 1000) : Calls Try.prog 43 #[ptr b, ptr b'] w fun e w' =>
    e = .returned (.bool (decide (ls = ls'))) ∧ Upto (fun _ => False) w w' := by
  obtain ⟨hb, h1⟩ := h.rmOpen
  obtain ⟨hb', h2⟩ := (h1.up [_, _] (A := RM b' lim ls') (l2 := l)).rmOpen
  have c1 := h2.cell [] 0 (ptr hb') rfl
  have c0 := h2.cell [_, _] 0 (ptr hb) rfl
  have b1 := lt_of_block (h2.blk [])
  have b0 := lt_of_block (h2.blk [_, _])
  obtain ⟨_, _, _, t1, t2, _⟩ := (h2.up [_, _, _] (A := RH hb lim ls) (l2 := l)).rOpen
  have HS : Hid (∀ w', Upto (fun _ => False) w w' → Calls Try.prog 54 #[ptr hb, ptr hb'] w' fun e w2 => e = .returned (.bool (decide (ls = ls'))) ∧ Upto (fun _ => False) w' w2) := Lib.hid fun w' hu => by
    have h3 := h2.step hu
    have := rsame_raw (SR.is [_, _, _] h3) (SR.is [_] h3) (by omega) (by omega)
    simpa using this
  have HU0 : Hid (Upto (fun _ => False) w w.drew) := Lib.hid (Upto.refl _ w).drew
  generalize decide (ls = ls') = r at *
  clear h1 h2 h
  go_enter Try.func43, Try.ntmps43
  go_wp2
  go_region_held3 (fun w' => w'.cell? ⟨b, 0, none⟩ = some (ptr hb) ∧ w'.cell? ⟨b', 0, none⟩ = some (ptr hb')) (go_keep) (first
    | (go_at_call 54; refine (HS.out _ HU0.out).mono ?_; rintro e wa ⟨rfl, hu⟩; have HUa := Lib.hid (HU0.out.trans hu); have ha0 := (HUa.out.cell (p := ⟨b, 0, none⟩) b0 id).trans c0; have ha1 := (HUa.out.cell (p := ⟨b', 0, none⟩) b1 id).trans c1; clear hu)
    | (go_at_call 64; refine (nvalid_at _ _ _ (by assumption)).mono ?_; rintro e w' ⟨rfl, rfl⟩))
  go_wp2
  go_ret
  exact ⟨rfl, HUa.out⟩

end Go.Proofs.Ytjganbcolaakkaa
