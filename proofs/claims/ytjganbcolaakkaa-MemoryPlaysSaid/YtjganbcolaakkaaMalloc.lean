/-
  Alloc of a memory, walked.
-/
import Derived.Test.YtjganbcolaakkaaMem
import Derived.Test.YtjganbcolaakkaaZeros
import Derived.Deep.RegionLaw
import Derived.Deep.RegionHeld3
import Derived.Deep.AppendLies
namespace Go.Proofs.Ytjganbcolaakkaa
open Go.RowKit

theorem Try.infoSpan : (Try.prog.info? 91).map (fun i => (i.zero, i.size, i.bytes)) = some (some (.agg #[.int .i64 0, .int .i64 0]), 2, 16) := by kernel_rfl

theorem malloc_nil (n : Int) (w : World) : Calls Try.prog 16 #[.pointer none, .int .i64 n] w fun e w' => e = .returned (.tuple #[.int .i64 0, .int .i64 0, .int .i64 1]) ∧ w = w' := by
  go_enter Try.func16, Try.ntmps16
  go_wp2_with (go_at_call 55; refine (mvalid_nil _).mono ?_; rintro e w' ⟨rfl, rfl⟩)
  go_ret3
  exact ⟨rfl, rfl⟩

set_option maxHeartbeats 400000 in
theorem malloc_neg (b : Nat) (ao : Option Addr) (k c : Nat) (n : Int) (w : World) (h2 : w.cell? ⟨b, 2, none⟩ = some (.slice ao (k + 1) c)) (hn : n < 0) :
    Calls Try.prog 16 #[.pointer (some ⟨b, 0, none⟩), .int .i64 n] w fun e w' => e = .returned (.tuple #[.int .i64 0, .int .i64 5, .int .i64 0]) ∧ Upto (fun _ => False) w w' := by
  go_enter Try.func16, Try.ntmps16
  go_wp2_with (go_at_call 55; refine (mvalid_at b ao k c _ h2).mono ?_; rintro e w' ⟨rfl, rfl⟩)
  go_quiet (fail)
  go_wp2
  go_ret3
  exact ⟨rfl, (Upto.refl _ w).drewN nq⟩
set_option maxHeartbeats 400000 in
theorem malloc_many (b : Nat) (ao vo : Option Addr) (k c vn vc limit : Nat) (n : Int) (w : World) (h0 : w.cell? ⟨b, 0, none⟩ = some (.int .i64 limit)) (h1 : w.cell? ⟨b, 1, none⟩ = some (.slice vo vn vc)) (h2 : w.cell? ⟨b, 2, none⟩ = some (.slice ao (k + 1) c))
    (hl : limit ≤ 10000) (hv : vn ≤ limit) (hn0 : 0 ≤ n) (hn : (limit : Int) - vn < n) :
    Calls Try.prog 16 #[.pointer (some ⟨b, 0, none⟩), .int .i64 n] w fun e w' => e = .returned (.tuple #[.int .i64 0, .int .i64 5, .int .i64 0]) ∧ Upto (fun _ => False) w w' := by
  have hneg : ¬ n < 0 := by omega
  have hw : IntKind.i64.wrap ((limit : Int) - vn) = (limit : Int) - vn := wrap_small _ (by omega) (by omega)
  go_enter Try.func16, Try.ntmps16
  go_wp2_with (go_at_call 55; refine (mvalid_at b ao k c _ h2).mono ?_; rintro e w' ⟨rfl, rfl⟩)
  go_quiet (fail)
  go_wp2
  go_ret3
  exact ⟨rfl, (Upto.refl _ w).drewN nq⟩

/-- So many zeros were added. -/
def Grew (w : World) (b limit : Nat) (v u : Value) (cs : List Int) (ss : List (Nat × Nat)) (n : Nat) (e : Ending) (w' : World) : Prop :=
  e = .returned (.tuple #[.int .i64 ss.length, .int .i64 0, .int .i64 0]) ∧ ∃ v' u', Mem w' b limit v' u' (cs ++ List.replicate n 0) (ss ++ [(cs.length, n)]) ∧ Upto (fun k => k = b ∨ rowOf v k ∨ rowOf u k) w w' ∧
    (∀ k, rowOf v' k → rowOf v k ∨ w.heap.size ≤ k) ∧ ∀ k, rowOf u' k → rowOf u k ∨ w.heap.size ≤ k

set_option maxRecDepth 100000 in
set_option maxHeartbeats 1600000 in
theorem malloc_some (b : Nat) (g uc k vn vc limit : Nat) (vo : Option Addr) (cs : List Int) (ss : List (Nat × Nat)) (n : Nat) (w : World) (h : Mem w b limit (.slice vo vn vc) (.slice (some ⟨g, 0, none⟩) (k + 1) uc) cs ss) (hss : ss.length = k + 1) (hcs : cs.length = vn)
    (hn : vn + n ≤ limit) (hf : k < 1000000) :
    Calls Try.prog 16 #[.pointer (some ⟨b, 0, none⟩), .int .i64 n] w (Grew w b limit (.slice vo vn vc) (.slice (some ⟨g, 0, none⟩) (k + 1) uc) cs ss n) := by
  have h0 := h.c0
  have h1 := h.c1
  have h2 := h.c2
  have f1 := h.f1
  have f2 := h.f2
  have hlt := h.lt
  obtain ⟨i0, hi0, hz0, hz1, hz2⟩ := info_parts Try.infoSpan
  have hlim : limit ≤ 10000 := by obtain ⟨_, _, _, _, _, _, _, _, h, _, _⟩ := h; exact h
  have hneg : ¬ ((n : Int) < 0) := by omega
  have hw : IntKind.i64.wrap ((limit : Int) - vn) = (limit : Int) - vn := wrap_small _ (by omega) (by omega)
  have hmany : ¬ ((limit : Int) - vn < n) := by omega
  have hgb : (Value.slice (some ⟨g, 0, none⟩) (k + 1) uc).ownBlock ≠ some b := by obtain ⟨_, _, _, _, h, _⟩ := h; exact h
  have hS : w.ownsRow 0 TSp 2 (.slice (some ⟨g, 0, none⟩) (k + 1) uc) (k + 1) (spanCells ss) := by obtain ⟨_, _, h, _⟩ := h; unfold SRow at h; rwa [hss] at h
  have HS := Lib.hid hS; clear hS
  have H := Lib.hid h; clear h
  have Hss := Lib.hid hss; clear hss
  have Hcs := Lib.hid hcs; clear hcs
  go_enter Try.func16, Try.ntmps16
  go_wp2_with (go_at_call 55; refine (mvalid_at b _ k uc _ h2).mono ?_; rintro e w' ⟨rfl, rfl⟩)
  go_quiet (fail)
  generalize hW : w.drewN nq = wq
  have hwq : Upto (fun _ => False) w wq := by rw [← hW]; exact (Upto.refl _ w).drewN nq
  have hsz : wq.heap.size = w.heap.size := by rw [← hW]; rfl
  have q0 := (hwq.cell (p := ⟨b, 0, none⟩) hlt id).trans h0
  have q1 := (hwq.cell (p := ⟨b, 1, none⟩) hlt id).trans h1
  have q2 := (hwq.cell (p := ⟨b, 2, none⟩) hlt id).trans h2
  have qf1 := (hwq.frozen (p := ⟨b, 1, none⟩) hlt id).trans f1
  have qf2 := (hwq.frozen (p := ⟨b, 2, none⟩) hlt id).trans f2
  have hltq : b < wq.heap.size := by omega
  have Hq := Lib.hid (H.out.kept hwq id (fun _ _ => id) (fun _ _ => id))
  have HSq : Hid (wq.ownsRow 0 TSp 2 (.slice (some ⟨g, 0, none⟩) (k + 1) uc) (k + 1) (spanCells ss)) := by rw [← hW]; exact Lib.hid HS.out
  have Hwq := Lib.hid hwq; clear hwq
  have Hsz := Lib.hid hsz; clear hsz hW
  clear h0 h1 h2 f1 f2
  have hkeep : Hid (∀ o : Obj, ((wq.alloc o).drew.cell? ⟨b, 1, none⟩ = some (.slice vo vn vc)) ∧ ((wq.alloc o).drew.cell? ⟨b, 2, none⟩ = some (.slice (some ⟨g, 0, none⟩) (k + 1) uc)) ∧ ((wq.alloc o).drew.frozen? ⟨b, 2, none⟩ = false)) := Lib.hid fun o => by
    have hu := ((Upto.refl (fun _ => False) wq).alloc o).drew
    exact ⟨(hu.cell (p := ⟨b, 1, none⟩) hltq id).trans q1, (hu.cell (p := ⟨b, 2, none⟩) hltq id).trans q2, (hu.frozen (p := ⟨b, 2, none⟩) hltq id).trans qf2⟩
  go_wp2
  have hne := World.new_ne wq ⟨b, 1, none⟩ q1
  have hne2 := World.new_ne wq ⟨b, 2, none⟩ q2
  go_region_law (first | ((refine step_append_lies _ (by rfl) _ _ _ (by rfl) 0 TSp i0 _ 2 16 Try.underlying70 hi0 hz0 hz1 hz2 rfl (by omega) (.slice (some ⟨g, 0, none⟩) (k + 1) uc) (k + 1) (spanCells ss) (by rfl) ((HSq.out.alloc _).drew) ⟨wq.heap.size, 0, none⟩ 1 1 [.int .i64 vn, .int .i64 n] (by rfl) (by rfl) (World.news_of_block (cs := #[.int .i64 vn, .int .i64 n]) (t := TSp) (fr := (0, 0)) (heap_alloc_new wq _)) (by simp [Value.oneCell']) (by omega) (by unfold maxLen; omega) (by omega) (Nat.zero_le _) (wq.heap.size + 1) (by simp) ?_; intro gg cap w1 hown1 hgrow hat hlt1; have f2' := (hgrow.frozen_far ⟨b, 2, none⟩ (by simp; omega) (Ne.symm hgb)).trans (hkeep.out _).2.2; have c2' := (hgrow.cell_far ⟨b, 2, none⟩ (by simp; omega) (Ne.symm hgb)).trans (hkeep.out _).2.1; have HO := Lib.hid hown1; have HG := Lib.hid hgrow; clear hown1 hgrow)))
  all_goals
    have U1 : Upto (rowOf (.slice (some ⟨g, 0, none⟩) (k + 1) uc)) wq w1 := (((Upto.refl _ wq).alloc _).drew).grown HG.out (fun j hj => Or.inl hj)
    have blk1 : w1.heap[b]? = some (.cells #[.int .i64 limit, .slice vo vn vc, .slice (some ⟨g, 0, none⟩) (k + 1) uc] TM (0, 0)) := (U1.block b hltq hgb).trans (by obtain ⟨h, _⟩ := Hq.out; exact h)
    have hggb : gg ≠ b := fun e => by
      subst e
      rcases hat with e | e
      · exact hgb e
      · omega
    have blk2 : (w1.setCell ⟨b, 2, none⟩ (.slice (some ⟨gg, 0, none⟩) (k + 1 + 1) cap)).heap[b]? = some (.cells #[.int .i64 limit, .slice vo vn vc, .slice (some ⟨gg, 0, none⟩) (k + 1 + 1) cap] TM (0, 0)) := by
      rw [heap_setCell_same w1 b 2 _ TM _ blk1]
      rfl
    have u2 : Upto (fun j => j = b) w1 (w1.setCell ⟨b, 2, none⟩ (.slice (some ⟨gg, 0, none⟩) (k + 1 + 1) cap)) := (Upto.refl (fun j => j = b) w1).setCell (p := ⟨b, 2, none⟩) (Or.inl rfl) _
    have U2 : Upto (fun j => j = b ∨ rowOf (.slice (some ⟨g, 0, none⟩) (k + 1) uc) j) wq (w1.setCell ⟨b, 2, none⟩ (.slice (some ⟨gg, 0, none⟩) (k + 1 + 1) cap)) := (U1.mono (fun _ _ h => Or.inr h)).trans (u2.mono (fun _ _ h => Or.inl h))
    have rv : Row (w1.setCell ⟨b, 2, none⟩ (.slice (some ⟨gg, 0, none⟩) (k + 1 + 1) cap)) (.slice vo vn vc) cs := by
      obtain ⟨_, hr, _, a1, _, a3, _⟩ := Hq.out
      exact hr.kept U2 (fun j hj e => e.elim (fun e => a1 (e ▸ hj)) (a3 j hj))
    have ru : SRow (w1.setCell ⟨b, 2, none⟩ (.slice (some ⟨gg, 0, none⟩) (k + 1 + 1) cap)) (.slice (some ⟨gg, 0, none⟩) (k + 1 + 1) cap) (ss ++ [(vn, n)]) := by
      have h : SRow w1 (.slice (some ⟨gg, 0, none⟩) (k + 1 + 1) cap) (ss ++ [(vn, n)]) := by
        have := HO.out
        unfold SRow
        rw [List.length_append, Hss.out, spanCells_append]
        exact this
      exact h.kept u2 (fun j hj e => hggb (by cases hj; exact e))
    generalize (w1.setCell ⟨b, 2, none⟩ (.slice (some ⟨gg, 0, none⟩) (k + 1 + 1) cap)) = w2 at *
    have k1 : w2.cell? ⟨b, 1, none⟩ = some (.slice vo vn vc) := by rw [cell_of_row w2 b 1 _ TM (0, 0) blk2]; rfl
    have hlt2 : b < w2.heap.size := lt_of_block blk2
    have RV := Lib.hid rv; clear rv
    have RU := Lib.hid ru; clear ru
    have UU2 := Lib.hid U2; clear U2
    have BLK2 := Lib.hid blk2; clear blk2 blk1 U1 u2
    clear q0 q1 q2 qf1 qf2 f2' c2' hne hne2
    go_wp2_with (at_builtin; refine wpList_append_zeros _ rfl (.tmp 46) (.tmp 47) 31 2 .i64 .i64 rfl Try.underlying31 Try.underlying2 Try.infoInt (.slice vo vn vc) cs n rfl rfl RV.out (by have := Hcs.out; omega) ?_)
    intro v3 w3 r3 u3 k3
    have hvb : ¬ rowOf (.slice vo vn vc) b := by obtain ⟨_, _, _, a1, _⟩ := Hq.out; exact a1
    have blk3 := (u3.block b hlt2 hvb).trans BLK2.out
    have d1 : w3.cell? ⟨b, 1, none⟩ = some (.slice vo vn vc) := by rw [cell_of_row w3 b 1 _ TM (0, 0) blk3]; rfl
    have d2 : w3.cell? ⟨b, 2, none⟩ = some (.slice (some ⟨gg, 0, none⟩) (k + 1 + 1) cap) := by rw [cell_of_row w3 b 2 _ TM (0, 0) blk3]; rfl
    have e1 : w3.frozen? ⟨b, 1, none⟩ = false := frozen_of_row w3 b 1 _ TM blk3
    obtain ⟨bo, m3, c3, rfl⟩ := r3.shape
    have R3 := Lib.hid r3; clear r3
    have U3 := Lib.hid u3; clear u3
    have K3 := Lib.hid k3; clear k3
    have BLK3 := Lib.hid blk3; clear blk3
    go_wp2
    go_ret3
    obtain ⟨_, hvr, hur, a1, a2, a3, _, a5, a6, a7, a8⟩ := Hq.out
    have u4 : Upto (fun j => j = b) w3 (w3.setCell ⟨b, 1, none⟩ (.slice bo m3 c3)) := (Upto.refl (fun j => j = b) w3).setCell (p := ⟨b, 1, none⟩) (Or.inl rfl) _
    have hsq := Hsz.out
    have hq2 := UU2.out.size
    have hgv : ¬ rowOf (.slice vo vn vc) gg := fun e => by
      rcases hat with h | h
      · exact a3 gg e h
      · have := hvr.lt gg e; omega
    have hg2 : gg < w2.heap.size := RU.out.lt gg rfl
    have hv3b : ∀ j, rowOf (.slice bo m3 c3) j → j ≠ b := fun j hj e => by
      subst e
      rcases K3.out _ hj with h | h
      · exact a1 h
      · omega
    have hv3u : ∀ j, rowOf (.slice bo m3 c3) j → ¬ rowOf (.slice (some ⟨gg, 0, none⟩) (k + 1 + 1) cap) j := fun j hj hj' => by
      obtain rfl : gg = j := by cases hj'; rfl
      rcases K3.out _ hj with h | h
      · exact hgv h
      · omega
    refine ⟨by rw [Hss.out]; rfl, .slice bo m3 c3, .slice (some ⟨gg, 0, none⟩) (k + 1 + 1) cap, ⟨?_, R3.out.kept u4 hv3b, ?_, fun e => hv3b b e rfl, fun e => hggb (by cases e; rfl), hv3u, by simp, ?_, a6, ?_, ?_⟩, ?_, fun j hj => ?_, fun j hj => ?_⟩
    · rw [heap_setCell_same w3 b 1 _ TM _ BLK3.out]
      rfl
    · rw [Hcs.out]
      exact (RU.out.kept U3.out (fun j hj hj' => hgv (by cases hj; exact hj'))).kept u4 (fun j hj e => hggb (by cases hj; exact e))
    · rw [List.length_append, List.length_replicate, Hcs.out]; exact hn
    · intro p hp
      rw [List.length_append, List.length_replicate]
      rcases List.mem_append.1 hp with h | h
      · have := a7 p h; omega
      · obtain rfl := List.mem_singleton.1 h
        exact Nat.le_refl _
    · rw [List.length_append, Hss.out]; simp; omega
    · exact (((Hwq.out.mono (fun _ _ h => h.elim)).trans (UU2.out.mono (fun _ _ h => h.imp id Or.inr))).trans (U3.out.mono (fun _ _ h => Or.inr (Or.inl h)))).trans (u4.mono (fun _ _ h => Or.inl h))
    · rcases K3.out j hj with h | h
      · exact Or.inl h
      · right; omega
    · obtain rfl : gg = j := by cases hj; rfl
      rcases hat with h | h
      · exact Or.inl h
      · right; omega

end Go.Proofs.Ytjganbcolaakkaa
