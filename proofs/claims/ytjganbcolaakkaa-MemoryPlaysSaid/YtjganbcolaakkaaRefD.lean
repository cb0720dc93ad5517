/-
  The document's heaps: Alloc where there is room, walked.
-/
import Derived.Test.YtjganbcolaakkaaRefC
namespace Go.Proofs.Ytjganbcolaakkaa
open Go.RowKit

theorem own_at {w : World} {E : Nat} (h : w.heap[E]? = some (.cells #[] TII (0, 0))) : w.ownsRow 0 TII 1 (.slice (some ⟨E, 0, none⟩) 0 0) 0 [] :=
  ⟨rfl, .inr ⟨E, 0, #[], rfl, Nat.zero_le _, h, Nat.le_refl _, Nat.zero_le _, rfl, rfl⟩⟩
theorem row_at {w : World} {Z n : Nat} (h : w.heap[Z]? = some (.cells (zrow n) 2 (0, 0))) (hn : n ≤ 10000) : Row w (.slice (some ⟨Z, 0, none⟩) n n) (List.replicate n 0) :=
  ⟨by simp, .inr ⟨Z, n, zrow n, by simp, Nat.zero_le _, h, by simp, by unfold maxLen; omega, by rw [zrow_eq]; simp, by rw [zrow_eq]; simp⟩⟩

theorem look_new (w : World) (o : Obj) (s : Nat) (h : w.heap.size = s) : (w.alloc o).heap[s]? = some o := by subst h; exact heap_alloc_new w o
theorem look_old (w : World) (o x : Obj) (s : Nat) (h : w.heap[s]? = some x) : (w.alloc o).heap[s]? = some x := (heap_alloc_old w o (lt_of_block h)).trans h

/-- The first append is done: what lies where. -/
structure Mid (wq w1 : World) (gg k cap : Nat) (vs : List Value) (w' : World) (E : Nat) : Prop where
  row : VRow w1 TII (.slice (some ⟨gg, 0, none⟩) k cap) vs
  at' : gg = E ∨ gg = w'.heap.size
  late : wq.heap.size ≤ E
  up : Upto (fun j => j = E) w' w1
  base : Upto (fun _ => False) wq w'
  elt : E < w'.heap.size
theorem Mid.old {wq w1 : World} {gg k cap : Nat} {vs : List Value} {w' : World} {E : Nat} (h : Mid wq w1 gg k cap vs w' E) (B : Nat) (o : Obj) (hB : w'.heap[B]? = some o) (hne : B ≠ E) : w1.heap[B]? = some o := (h.up.block B (lt_of_block hB) hne).trans hB

theorem Mid.keep {wq w1 : World} {gg k cap : Nat} {vs : List Value} {w' : World} {E : Nat} (h : Mid wq w1 gg k cap vs w' E) : Upto (fun _ => False) wq w1 :=
  ⟨h.up.os.trans h.base.os, h.up.tape.trans h.base.tape, h.up.output.trans h.base.output, Nat.le_trans h.base.size h.up.size, fun i hi _ => by
    have := h.late
    rw [h.up.block i (Nat.lt_of_lt_of_le hi h.base.size) (by omega), h.base.block i hi id]⟩
theorem mid_of {wq w' w1 : World} {E gg k cap : Nat} {vs : List Value} (hk : vs.length = k) (hown : w1.ownsRow 0 TII 1 (.slice (some ⟨gg, 0, none⟩) k cap) k ([] ++ vs)) (hgrow : w'.grownBy w1 (Value.slice (some ⟨E, 0, none⟩) 0 0).ownBlock) (hat : (Value.slice (some ⟨E, 0, none⟩) 0 0).ownBlock = some gg ∨ gg = w'.heap.size)
    (hb : Upto (fun _ => False) wq w') (hE : wq.heap.size ≤ E) (hlt : E < w'.heap.size) : Mid wq w1 gg k cap vs w' E :=
  ⟨by unfold VRow; rw [hk]; exact hown, hat.imp (fun h => (Option.some.inj h).symm) id, hE, (Upto.refl _ w').grown hgrow (fun j hj => Or.inl (by cases hj; rfl)), hb, hlt⟩

theorem vrow_k {w w' : World} {v : Value} {vs : List Value} {k : Nat} (hk : vs.length = k) (h : VRow w TII v vs) (hu : Upto (fun _ => False) w w') : w'.ownsRow 0 TII 1 v k vs := by
  have := h.kept hu (fun _ _ => id)
  unfold VRow at this
  rwa [hk] at this

/-- Both appends are done. -/
structure Fin2 (wq w3 : World) (u : Value) (k n Z : Nat) (vs : List Value) : Prop where
  shape : ∃ g c, u = .slice (some ⟨g, 0, none⟩) (k + 1) c
  row : VRow w3 TII u (vs ++ [.slice (some ⟨Z, 0, none⟩) n n])
  zeros : Row w3 (.slice (some ⟨Z, 0, none⟩) n n) (List.replicate n 0)
  late : wq.heap.size ≤ Z
  new : ∀ j, rowOf u j → wq.heap.size ≤ j
  apart : ¬ rowOf u Z
  up : Upto (fun _ => False) wq w3

theorem fin_of {wq w1 w2 w3 w' : World} {gg k cap E n Z g2 c2 : Nat} {vs : List Value} (m : Mid wq w1 gg k cap vs w' E) (hn : n ≤ 10000) (hk : vs.length = k) (hZ2 : w2.heap[Z]? = some (.cells (zrow n) 2 (0, 0))) (hZ : wq.heap.size ≤ Z) (hZg : Z ≠ gg) (u12 : Upto (fun _ => False) w1 w2)
    (hown : w3.ownsRow 0 TII 1 (.slice (some ⟨g2, 0, none⟩) (k + 1) c2) (k + 1) (vs ++ [.slice (some ⟨Z, 0, none⟩) n n])) (hgrow : w2.grownBy w3 (Value.slice (some ⟨gg, 0, none⟩) k cap).ownBlock) (hat : (Value.slice (some ⟨gg, 0, none⟩) k cap).ownBlock = some g2 ∨ g2 = w2.heap.size) :
    Fin2 wq w3 (.slice (some ⟨g2, 0, none⟩) (k + 1) c2) k n Z vs := by
  have s1 := m.base.size
  have s2 := m.up.size
  have s3 := u12.size
  have hlt2 := lt_of_block hZ2
  have hgs : wq.heap.size ≤ gg := by
    rcases m.at' with h | h
    · have := m.late; omega
    · omega
  have hg2 : g2 = gg ∨ g2 = w2.heap.size := hat.imp (fun h => (Option.some.inj h).symm) id
  have hu : Upto (fun j => j = gg) w2 w3 := (Upto.refl _ w2).grown hgrow (fun j hj => Or.inl (by cases hj; rfl))
  refine ⟨⟨g2, c2, rfl⟩, ?_, row_at ((hu.block Z hlt2 hZg).trans hZ2) hn, hZ, fun j hj => ?_, fun h => ?_, ?_⟩
  · unfold VRow
    rw [List.length_append, hk]
    exact hown
  · have : j = g2 := by cases hj; rfl
    omega
  · have : g2 = Z := by cases h; rfl
    omega
  · refine ⟨hu.os.trans (u12.os.trans (m.up.os.trans m.base.os)), hu.tape.trans (u12.tape.trans (m.up.tape.trans m.base.tape)), hu.output.trans (u12.output.trans (m.up.output.trans m.base.output)), by have := hu.size; omega, fun i hi _ => ?_⟩
    rw [hu.block i (by omega) (by omega), u12.block i (by omega) id, m.up.block i (by omega) (by have := m.late; omega), m.base.block i hi id]

theorem Fin2.since {w wq w3 : World} {u : Value} {k n Z : Nat} {vs : List Value} (h : Fin2 wq w3 u k n Z vs) (hu : Upto (fun _ => False) w wq) (hs : wq.heap.size = w.heap.size) : Fin2 w w3 u k n Z vs := by
  obtain ⟨a, b, c, d, e, f, g⟩ := h
  exact ⟨a, b, c, by omega, fun j hj => by have := e j hj; omega, f, hu.trans g⟩

set_option maxRecDepth 100000 in
set_option maxHeartbeats 1600000 in
theorem ralloc_some (b lim t n k g uc : Nat) (vs : List Value) (w : World) (hp : 0 < k) (hk6 : k ≤ 1000000) (hvl : vs.length = k) (c0 : w.cell? ⟨b, 0, none⟩ = some (.slice (some ⟨g, 0, none⟩) k uc)) (c1 : w.cell? ⟨b, 1, none⟩ = some (.int .i64 lim)) (f0 : w.frozen? ⟨b, 0, none⟩ = false) (hl : lim ≤ 10000) (ht : t + n ≤ lim)
    (hv : ∀ j u, vs[j]? = some u → w.cell? ⟨g, j, none⟩ = some u) (h1 : ∀ u ∈ vs, u.oneCell' = true) (hglt : g < w.heap.size)
    (hU : ∀ m, Calls Try.prog 72 #[ptr b] (w.drewN m) fun e w' => e = .returned (.int .i64 t) ∧ w' = w.drewN m) :
    Calls Try.prog 48 #[ptr b, .int .i64 n] w fun e w' => e = .returned (.tuple #[.int .i64 k, .int .i64 0, .int .i64 0]) ∧ ∃ w3 u Z, Fin2 w w3 u k n Z vs ∧ w' = w3.setCell ⟨b, 0, none⟩ u := by
  have HU := Lib.hid hU; clear hU
  have hneg : ¬ (n : Int) < 0 := by omega
  have hn0 : (0 : Int) ≤ (n : Int) := by omega
  have hw : IntKind.i64.wrap ((lim : Int) - t) = (lim : Int) - t := wrap_small _ (by omega) (by omega)
  have hmany : ¬ ((lim : Int) - t < n) := by omega
  have hn10 : n ≤ 10000 := by omega
  have hmk := run_make_n (T := 31) n Try.underlying31 (by omega)
  obtain ⟨i0, hi0, hz0, hz1, hz2⟩ := info_parts Try.infoII
  have HV := Lib.hid hv; clear hv
  have H1 := Lib.hid h1; clear h1
  have HK := Lib.hid hvl; clear hvl
  have hlt := World.block_lt_of_cell? _ _ c0
  go_enter Try.func48, Try.ntmps48
  go_wp2_with (go_at_call 71; refine (rvalid_at b _ _ _ _ c0 hp).mono ?_; rintro e w' ⟨rfl, rfl⟩)
  go_quiet ((go_at_call 72; exact Calls.quiet_of_same (HU.out _)))
  generalize hW : w.drewN nq = wq
  have hwq : Upto (fun _ => False) w wq := by rw [← hW]; exact (Upto.refl _ w).drewN nq
  have hsz : wq.heap.size = w.heap.size := by rw [← hW]; rfl
  have q0 := (hwq.cell (p := ⟨b, 0, none⟩) hlt id).trans c0
  have qf0 := (hwq.frozen (p := ⟨b, 0, none⟩) hlt id).trans f0
  have hltq : b < wq.heap.size := by omega
  have HN : Hid (∀ w', Upto (fun _ => False) wq w' → ∀ j u, vs[j]? = some u → w'.cell? ((⟨g, 0, none⟩ : Addr).add j) = some u) := Lib.hid fun w' hu j u hj => by
    rw [Addr.add_lit, Nat.zero_add, hu.cell (p := ⟨g, j, none⟩) (by show g < _; omega) id, hwq.cell (p := ⟨g, j, none⟩) hglt id]
    exact HV.out j u hj
  have HQ : Hid (∀ w', Upto (fun _ => False) wq w' → w'.cell? ⟨b, 0, none⟩ = some (.slice (some ⟨g, 0, none⟩) k uc) ∧ w'.frozen? ⟨b, 0, none⟩ = false) := Lib.hid fun w' hu => ⟨(hu.cell (p := ⟨b, 0, none⟩) hltq id).trans q0, (hu.frozen (p := ⟨b, 0, none⟩) hltq id).trans qf0⟩
  have qa := fun o => (HQ.out ((wq.alloc o).drew) ((Upto.refl _ wq).alloc o).drew).1
  have qb := fun o o' => (HQ.out (((wq.alloc o).alloc o').drew) (((Upto.refl _ wq).alloc o).alloc o').drew).1
  have qc := fun o o' o2 => (HQ.out ((((wq.alloc o).alloc o').alloc o2).drew) ((((Upto.refl _ wq).alloc o).alloc o').alloc o2).drew).1
  have Hwq := Lib.hid hwq; clear hwq
  have Hsz := Lib.hid hsz; clear hsz hW HV HU
  clear c0 c1 f0
  go_wp2
  go_region_law (first
    | ((refine step_append_lies _ rfl (.tmp 29) (.tmp 32) 54 rfl 0 TII i0 _ 1 24 Try.underlying54 hi0 hz0 hz1 hz2 rfl (by omega) (.slice (some ⟨gg, 0, none⟩) k cap) k vs (by rfl) (vrow_k HK.out M1.out.row (by first | exact Upto.refl (fun _ => False) w1 | exact (Upto.refl (fun _ => False) w1).alloc _ | exact ((Upto.refl (fun _ => False) w1).alloc _).alloc _)) ⟨_, 0, none⟩ 1 1 [.slice (some ⟨_, 0, none⟩) n n] (by rfl) (by rfl) (World.news_of_block (cs := #[.slice (some ⟨_, 0, none⟩) n n]) (t := TII) (fr := (0, 0)) (by first | exact look_new _ _ _ (by simp) | exact M1.out.old _ _ (by first | exact look_new _ _ _ (by simp) | exact look_old _ _ _ _ (look_new _ _ _ (by simp)) | exact look_old _ _ _ _ (look_old _ _ _ _ (look_new _ _ _ (by simp)))) (by first | omega | (simp; omega) | simp))) (by simp [Value.oneCell']) (by omega) (by unfold maxLen; omega) (by omega) (Nat.zero_le _) _ rfl ?_; intro g2 c2 w3 hown2 hgrow2 hat2 hlt2; have hF := fin_of M1.out hn10 HK.out (by first | exact look_old _ _ _ _ (look_new _ _ _ (by simp)) | exact look_old _ _ _ _ (M1.out.old _ _ (by first | exact look_new _ _ _ (by simp) | exact look_old _ _ _ _ (look_new _ _ _ (by simp)) | exact look_old _ _ _ _ (look_old _ _ _ _ (look_new _ _ _ (by simp)))) (by first | omega | (simp; omega) | simp)) | exact M1.out.old _ _ (by first | exact look_new _ _ _ (by simp) | exact look_old _ _ _ _ (look_new _ _ _ (by simp)) | exact look_old _ _ _ _ (look_old _ _ _ _ (look_new _ _ _ (by simp)))) (by first | omega | (simp; omega) | simp)) (by have s1 := M1.out.keep.size; have a1 := M1.out.at'; have l1 := M1.out.row.lt gg rfl; simp at a1; omega) (by have s1 := M1.out.keep.size; have a1 := M1.out.at'; have l1 := M1.out.row.lt gg rfl; simp at a1; omega) (by first | exact Upto.refl (fun _ => False) w1 | exact (Upto.refl (fun _ => False) w1).alloc _ | exact ((Upto.refl (fun _ => False) w1).alloc _).alloc _) hown2 hgrow2 hat2; have F3 := Lib.hid hF; have q9 := (HQ.out w3 hF.up).1; have qf9 := (HQ.out w3 hF.up).2; clear hown2 hgrow2 hat2 hlt2 hF))
    | ((refine step_append_lies _ rfl (.tmp 24) (.tmp 28) 54 rfl 0 TII i0 _ 1 24 Try.underlying54 hi0 hz0 hz1 hz2 rfl (by omega) _ 0 [] (by rfl) (own_at (by first | exact look_new _ _ _ (by simp) | exact look_old _ _ _ _ (look_new _ _ _ (by simp)) | exact look_old _ _ _ _ (look_old _ _ _ _ (look_new _ _ _ (by simp))))) ⟨g, 0, none⟩ k uc vs (by rfl) (by rw [Nat.mul_one]; exact HK.out) (HN.out _ (by first | exact ((Upto.refl _ wq).alloc _).drew | exact (((Upto.refl _ wq).alloc _).alloc _).drew | exact ((((Upto.refl _ wq).alloc _).alloc _).alloc _).drew)) H1.out hp (by unfold maxLen; omega) (by omega) (Nat.zero_le _) _ rfl ?_; intro gg cap w1 hown1 hgrow1 hat1 hlt1; rw [Nat.zero_add] at hown1 ⊢; have hM := mid_of (k := k) HK.out hown1 hgrow1 hat1 (by first | exact ((Upto.refl _ wq).alloc _).drew | exact (((Upto.refl _ wq).alloc _).alloc _).drew | exact ((((Upto.refl _ wq).alloc _).alloc _).alloc _).drew) (by first | exact Nat.le_refl _ | omega) (by first | (simp; done) | (simp; omega)); have M1 := Lib.hid hM; have q6 := (HQ.out w1 hM.keep).1; have qf6 := (HQ.out w1 hM.keep).2; clear hown1 hgrow1 hat1 hlt1 hM)))
  all_goals
    go_wp2
    go_ret3
    exact ⟨rfl, w3, _, _, F3.out.since Hwq.out Hsz.out, rfl⟩

end Go.Proofs.Ytjganbcolaakkaa
