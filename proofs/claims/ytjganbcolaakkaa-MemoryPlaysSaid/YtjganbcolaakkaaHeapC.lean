/-
  Alloc of the heaps, walked.
-/
import Derived.Test.YtjganbcolaakkaaHeapB
import Derived.Test.YtjganbcolaakkaaMalloc
namespace Go.Proofs.Ytjganbcolaakkaa
open Go.RowKit

theorem Try.infoII : (Try.prog.info? 31).map (fun i => (i.zero, i.size, i.bytes)) = some (some (.slice none 0 0), 1, 24) := by kernel_rfl

theorem halloc_nil (n : Int) (w : World) : Calls Try.prog 27 #[.pointer none, .int .i64 n] w fun e w' => e = .returned (.tuple #[.int .i64 0, .int .i64 0, .int .i64 1]) ∧ w = w' := by
  go_enter Try.func27, Try.ntmps27
  go_wp2_with (go_at_call 60; refine (hvalid_nil _).mono ?_; rintro e w' ⟨rfl, rfl⟩)
  go_ret3
  exact ⟨rfl, rfl⟩

theorem halloc_neg (b : Nat) (n : Int) (w : World) (h0 : w.cell? ⟨b, 0, none⟩ = some (.bool true)) (hn : n < 0) :
    Calls Try.prog 27 #[.pointer (some ⟨b, 0, none⟩), .int .i64 n] w fun e w' => e = .returned (.tuple #[.int .i64 0, .int .i64 5, .int .i64 0]) ∧ Upto (fun _ => False) w w' := by
  go_enter Try.func27, Try.ntmps27
  go_wp2_with (go_at_call 60; refine (hvalid_at b true _ h0).mono ?_; rintro e w' ⟨rfl, rfl⟩)
  go_quiet (fail)
  go_wp2
  go_ret3
  exact ⟨rfl, (Upto.refl _ w).drewN nq⟩
theorem halloc_many (b lim used : Nat) (n : Int) (w : World) (h0 : w.cell? ⟨b, 0, none⟩ = some (.bool true)) (h1 : w.cell? ⟨b, 1, none⟩ = some (.int .i64 lim)) (h2 : w.cell? ⟨b, 2, none⟩ = some (.int .i64 used)) (hl : lim ≤ 10000) (hr : used ≤ lim)
    (hn0 : 0 ≤ n) (hn : (lim : Int) - used < n) :
    Calls Try.prog 27 #[.pointer (some ⟨b, 0, none⟩), .int .i64 n] w fun e w' => e = .returned (.tuple #[.int .i64 0, .int .i64 5, .int .i64 0]) ∧ Upto (fun _ => False) w w' := by
  have hneg : ¬ n < 0 := by omega
  have hw : IntKind.i64.wrap ((lim : Int) - used) = (lim : Int) - used := wrap_small _ (by omega) (by omega)
  go_enter Try.func27, Try.ntmps27
  go_wp2_with (go_at_call 60; refine (hvalid_at b true _ h0).mono ?_; rintro e w' ⟨rfl, rfl⟩)
  go_quiet (fail)
  go_wp2
  go_ret3
  exact ⟨rfl, (Upto.refl _ w).drewN nq⟩

/-- The cells that make lays. -/
def zrow (n : Nat) : Array Value := madeCells #[.int .i64 0] n
theorem zrow_eq (n : Nat) : zrow n = (List.replicate n (Value.int .i64 0)).toArray := by
  unfold zrow madeCells
  apply Array.ext
  · simp
  · intro i h1 h2
    simp [Nat.mod_one]
theorem run_make_n {T : TypeId} (n : Nat) (hT : Try.prog.underlying T = some (.slice 2)) (h : n ≤ 10000) (w : World) : Sem.run Try.prog (Instr.makeSlice T (.int .i64 n) (.int .i64 n)) w = .ok (.slice (some ⟨w.heap.size, 0, none⟩) n n) (w.alloc (.cells (zrow n) 2)) := by
  obtain ⟨i0, hi0, hz0, hz1, hz2⟩ := info_parts Try.infoInt
  have := run_make (P := Try.prog) w T 2 i0 _ hT hi0 hz0 .i64 .i64 n n (by omega) (by omega) (by rw [hz2]; omega) (by omega)
  simp only [Int.toNat_natCast, hz1, Nat.mul_one] at this
  exact this
theorem row_zrow (w : World) (n : Nat) (h : n ≤ 10000) : Row (w.alloc (.cells (zrow n) 2)) (.slice (some ⟨w.heap.size, 0, none⟩) n n) (List.replicate n 0) := by
  refine ⟨by simp, .inr ⟨w.heap.size, n, zrow n, by simp, Nat.zero_le _, heap_alloc_new w _, by simp, by unfold maxLen; omega, by rw [zrow_eq]; simp, by rw [zrow_eq]; simp⟩⟩

/-- So many zeros were added to a heap. -/
inductive HGrew (w : World) (b lim used n : Nat) (u : Value) (vs : List Value) (e : Ending) (w' : World) : Prop
  | mk (g : Nat) (u' : Value) (he : e = .returned (.tuple #[.int .i64 ((vs.length : Int) + 1), .int .i64 0, .int .i64 0])) (blk : w'.heap[b]? = some (.cells #[.bool true, .int .i64 lim, .int .i64 ((used : Int) + n), u'] TH (0, 0)))
      (rowu : VRow w' TII u' (vs ++ [.slice (some ⟨g, 0, none⟩) n n])) (row : Row w' (.slice (some ⟨g, 0, none⟩) n n) (List.replicate n 0)) (late : w.heap.size ≤ g) (hgu : ¬ rowOf u' g) (hub : ¬ rowOf u' b) (news : ∀ k, rowOf u' k → rowOf u k ∨ w.heap.size ≤ k)
      (up : Upto (fun j => j = b ∨ rowOf u j) w w')

set_option maxRecDepth 100000 in
set_option maxHeartbeats 1600000 in
theorem halloc_some (b lim used n k : Nat) (uo : Option Addr) (uc : Nat) (vs : List Value) (w : World) (hb : w.heap[b]? = some (.cells #[.bool true, .int .i64 lim, .int .i64 used, .slice uo k uc] TH (0, 0))) (hu : VRow w TII (.slice uo k uc) vs) (hk : vs.length = k) (hub : ¬ rowOf (.slice uo k uc) b)
    (hn : used + n ≤ lim) (hl : lim ≤ 10000) (hf : k ≤ 1000000) :
    Calls Try.prog 27 #[.pointer (some ⟨b, 0, none⟩), .int .i64 n] w (HGrew w b lim used n (.slice uo k uc) vs) := by
  have h0 : w.cell? ⟨b, 0, none⟩ = some (.bool true) := by rw [cell_of_row w b 0 _ TH (0, 0) hb]; rfl
  have h1 : w.cell? ⟨b, 1, none⟩ = some (.int .i64 lim) := by rw [cell_of_row w b 1 _ TH (0, 0) hb]; rfl
  have h2 : w.cell? ⟨b, 2, none⟩ = some (.int .i64 used) := by rw [cell_of_row w b 2 _ TH (0, 0) hb]; rfl
  have h3 : w.cell? ⟨b, 3, none⟩ = some (.slice uo k uc) := by rw [cell_of_row w b 3 _ TH (0, 0) hb]; rfl
  have f2 : w.frozen? ⟨b, 2, none⟩ = false := frozen_of_row w b 2 _ TH hb
  have f3 : w.frozen? ⟨b, 3, none⟩ = false := frozen_of_row w b 3 _ TH hb
  have hlt := lt_of_block hb
  obtain ⟨i0, hi0, hz0, hz1, hz2⟩ := info_parts Try.infoII
  have hneg : ¬ ((n : Int) < 0) := by omega
  have hn0 : (0 : Int) ≤ n := by omega
  have hw : IntKind.i64.wrap ((lim : Int) - used) = (lim : Int) - used := wrap_small _ (by omega) (by omega)
  have hw2 : IntKind.i64.wrap ((used : Int) + n) = (used : Int) + n := wrap_small _ (by omega) (by omega)
  have hmany : ¬ ((lim : Int) - used < n) := by omega
  have HS := Lib.hid hu; clear hu
  have Hk := Lib.hid hk; clear hk
  have HB := Lib.hid hb; clear hb
  go_enter Try.func27, Try.ntmps27
  go_wp2_with (go_at_call 60; refine (hvalid_at b true _ h0).mono ?_; rintro e w' ⟨rfl, rfl⟩)
  go_quiet (fail)
  generalize hW : w.drewN nq = wq
  have hwq : Upto (fun _ => False) w wq := by rw [← hW]; exact (Upto.refl _ w).drewN nq
  have hsz : wq.heap.size = w.heap.size := by rw [← hW]; rfl
  have q2 := (hwq.cell (p := ⟨b, 2, none⟩) hlt id).trans h2
  have q3 := (hwq.cell (p := ⟨b, 3, none⟩) hlt id).trans h3
  have qf2 := (hwq.frozen (p := ⟨b, 2, none⟩) hlt id).trans f2
  have qf3 := (hwq.frozen (p := ⟨b, 3, none⟩) hlt id).trans f3
  have hltq : b < wq.heap.size := by omega
  have Hbq := Lib.hid ((hwq.block b hlt id).trans HB.out)
  have HSq := Lib.hid (HS.out.kept hwq (fun _ _ => id))
  have Hwq := Lib.hid hwq; clear hwq
  have Hsz := Lib.hid hsz; clear hsz hW
  clear h0 h1 h2 h3 f2 f3
  have hmk := run_make_n (T := 31) n Try.underlying31 (by omega)
  have hkeep : Hid (∀ o o' : Obj, (((wq.alloc o).alloc o').drew.cell? ⟨b, 2, none⟩ = some (.int .i64 used)) ∧ (((wq.alloc o).alloc o').drew.cell? ⟨b, 3, none⟩ = some (.slice uo k uc)) ∧ (((wq.alloc o).alloc o').drew.frozen? ⟨b, 3, none⟩ = false)) := Lib.hid fun o o' => by
    have hu := (((Upto.refl (fun _ => False) wq).alloc o).alloc o').drew
    exact ⟨(hu.cell (p := ⟨b, 2, none⟩) hltq id).trans q2, (hu.cell (p := ⟨b, 3, none⟩) hltq id).trans q3, (hu.frozen (p := ⟨b, 3, none⟩) hltq id).trans qf3⟩
  go_wp2
  have hne := World.new_ne wq ⟨b, 3, none⟩ q3
  have hne2 : ¬ (b = wq.heap.size + 1) := by omega
  have hgb : (Value.slice uo k uc).ownBlock ≠ some b := hub
  go_region_law (first | ((refine step_append_lies _ (by rfl) _ _ _ (by rfl) 0 TII i0 _ 1 24 Try.underlying54 hi0 hz0 hz1 hz2 rfl (by omega) (.slice uo k uc) k vs (by rfl) (show World.ownsRow _ 0 TII 1 (.slice uo k uc) k vs from by have h := HSq.out.kept ((((Upto.refl (fun _ => False) wq).alloc (.cells (zrow n) 2)).alloc (.cells #[.slice (some ⟨wq.heap.size, 0, none⟩) n n] 31)).drew) (fun _ _ => id); unfold VRow at h; rw [Hk.out] at h; exact h) ⟨wq.heap.size + 1, 0, none⟩ 1 1 [.slice (some ⟨wq.heap.size, 0, none⟩) n n] (by rfl) (by rfl) (by exact World.news_of_block (cs := #[.slice (some ⟨wq.heap.size, 0, none⟩) n n]) (t := TII) (fr := (0, 0)) (by have h := heap_alloc_new (wq.alloc (.cells (zrow n) 2)) (.cells #[.slice (some ⟨wq.heap.size, 0, none⟩) n n] 31); rw [show (wq.alloc (.cells (zrow n) 2)).heap.size = wq.heap.size + 1 from by simp] at h; exact h)) (by simp [Value.oneCell']) (by omega) (by unfold maxLen; omega) (by omega) (Nat.zero_le _) (wq.heap.size + 2) (by simp) ?_; intro gg cap w1 hown1 hgrow hat hlt1; have f3' := (hgrow.frozen_far ⟨b, 3, none⟩ (by simp; omega) (Ne.symm hgb)).trans (hkeep.out _ _).2.2; have c3' := (hgrow.cell_far ⟨b, 3, none⟩ (by simp; omega) (Ne.symm hgb)).trans (hkeep.out _ _).2.1; have HO := Lib.hid hown1; have HG := Lib.hid hgrow; clear hown1 hgrow)))
  all_goals
    have U1 : Upto (rowOf (.slice uo k uc)) wq w1 := ((((Upto.refl _ wq).alloc _).alloc _).drew).grown HG.out (fun j hj => Or.inl hj)
    have hggb : gg ≠ b := fun e => by
      subst e
      rcases hat with e | e
      · exact hgb e
      · omega
    have blk1 : w1.heap[b]? = some (.cells #[.bool true, .int .i64 lim, .int .i64 used, .slice uo k uc] TH (0, 0)) := (U1.block b hltq hub).trans Hbq.out
    have blk2 : (w1.setCell ⟨b, 3, none⟩ (.slice (some ⟨gg, 0, none⟩) (k + 1) cap)).heap[b]? = some (.cells #[.bool true, .int .i64 lim, .int .i64 used, .slice (some ⟨gg, 0, none⟩) (k + 1) cap] TH (0, 0)) := by
      rw [heap_setCell_same w1 b 3 _ TH _ blk1]
      rfl
    have u2 : Upto (fun j => j = b) w1 (w1.setCell ⟨b, 3, none⟩ (.slice (some ⟨gg, 0, none⟩) (k + 1) cap)) := (Upto.refl (fun j => j = b) w1).setCell (p := ⟨b, 3, none⟩) (Or.inl rfl) _
    have rz : Row w1 (.slice (some ⟨wq.heap.size, 0, none⟩) n n) (List.replicate n 0) := by
      have h := (row_zrow wq n (by omega)).kept ((Upto.refl (fun j => rowOf (.slice uo k uc) j ∧ j < wq.heap.size) (wq.alloc (.cells (zrow n) 2))).alloc (.cells #[.slice (some ⟨wq.heap.size, 0, none⟩) n n] 31)).drew (fun j hj hj' => by cases hj; exact absurd hj'.2 (Nat.lt_irrefl _))
      refine h.kept ((Upto.refl (fun j => rowOf (.slice uo k uc) j ∧ j < wq.heap.size) _).grown HG.out (fun j hj => Or.inl ⟨hj, ?_⟩)) (fun j hj hj' => by cases hj; exact absurd hj'.2 (Nat.lt_irrefl _))
      exact HSq.out.lt j hj
    have ru : VRow w1 TII (.slice (some ⟨gg, 0, none⟩) (k + 1) cap) (vs ++ [.slice (some ⟨wq.heap.size, 0, none⟩) n n]) := by
      have := HO.out
      unfold VRow
      rw [List.length_append, Hk.out]
      exact this
    have rz2 := rz.kept u2 (fun j hj e => by cases hj; have : wq.heap.size = b := e; omega)
    have ru2 := ru.kept u2 (fun j hj e => hggb (by cases hj; exact e))
    have U2 : Upto (fun j => j = b ∨ rowOf (.slice uo k uc) j) wq (w1.setCell ⟨b, 3, none⟩ (.slice (some ⟨gg, 0, none⟩) (k + 1) cap)) := (U1.mono (fun _ _ h => Or.inr h)).trans (u2.mono (fun _ _ h => Or.inl h))
    generalize (w1.setCell ⟨b, 3, none⟩ (.slice (some ⟨gg, 0, none⟩) (k + 1) cap)) = w2 at *
    have k2 : w2.cell? ⟨b, 2, none⟩ = some (.int .i64 used) := by rw [cell_of_row w2 b 2 _ TH (0, 0) blk2]; rfl
    have k3 : w2.cell? ⟨b, 3, none⟩ = some (.slice (some ⟨gg, 0, none⟩) (k + 1) cap) := by rw [cell_of_row w2 b 3 _ TH (0, 0) blk2]; rfl
    have kf : w2.frozen? ⟨b, 2, none⟩ = false := frozen_of_row w2 b 2 _ TH blk2
    have RZ := Lib.hid rz2; clear rz2 rz
    have RU := Lib.hid ru2; clear ru2 ru
    have UU2 := Lib.hid U2; clear U2 U1 u2
    have BLK2 := Lib.hid blk2; clear blk2 blk1
    clear q2 q3 qf2 qf3 f3' c3' hne hne2
    go_wp2
    go_ret3
    have u3 : Upto (fun j => j = b) w2 (w2.setCell ⟨b, 2, none⟩ (.int .i64 ((used : Int) + n))) := (Upto.refl (fun j => j = b) w2).setCell (p := ⟨b, 2, none⟩) (Or.inl rfl) _
    have hs := Hsz.out
    refine ⟨wq.heap.size, .slice (some ⟨gg, 0, none⟩) (k + 1) cap, by rw [Hk.out]; rfl, ?_, RU.out.kept u3 (fun j hj e => hggb (by cases hj; exact e)), RZ.out.kept u3 (fun j hj e => by cases hj; have : wq.heap.size = b := e; omega), Nat.le_of_eq hs.symm, fun h => ?_, fun h => hggb (by cases h; rfl), fun j hj => ?_, ((Hwq.out.mono (fun _ _ h => h.elim)).trans UU2.out).trans (u3.mono (fun _ _ h => Or.inl h))⟩
    · rw [heap_setCell_same w2 b 2 _ TH _ BLK2.out]
      rfl
    · have : gg = wq.heap.size := by cases h; rfl
      subst this
      rcases hat with h | h
      · have := HSq.out.lt _ h; omega
      · omega
    · obtain rfl : gg = j := by cases hj; rfl
      rcases hat with h | h
      · exact Or.inl h
      · right; omega

end Go.Proofs.Ytjganbcolaakkaa
