/-
  The law of the plays, walked.
-/
import Derived.Test.YtcajkgingenegaaGame
import Derived.Test.YtcajkgingenegaaRefuses
import Derived.Deep.RegionHeld3
namespace Go.Proofs.Ytcajkgingenegaa
open Go.RowKit

/-- Steps in memory: two cells each. -/
def StepsAt (w : World) (g o n : Nat) (dos ns : Nat → Int) : Prop := ∀ j, j < n → w.cell? ⟨g, o + j * 2, none⟩ = some (.int .i64 (dos j)) ∧ w.cell? ⟨g, o + j * 2 + 1, none⟩ = some (.int .i64 (ns j))

theorem same_rows {w : World} {v u : Value} {xs : List Int} (hv : Row w v xs) (hu : Row w u xs) : Calls Try.prog 13 #[v, u] w fun e w' => e = .returned (.bool true) ∧ Upto (fun _ => False) w w' := same_own hv.sees hu.sees rfl

set_option maxRecDepth 10000 in
theorem plays_easy (most : Int) (ao : Option Addr) (n c : Nat) (w : World) (h : 100 < n) :
    Calls Try.prog 5 #[.int .i64 most, .slice ao n c] w fun e w' => e = .returned (.bool true) ∧ Below w.heap.size w w' := by
  have h2 : (100 : Int) < n := by omega
  clear h
  go_enter Try.func5, Try.ntmps5
  go_wp2_with (go_at_call 8; refine (works_true _).mono ?_; rintro e w5 ⟨rfl, hb⟩)
  go_ret
  exact ⟨rfl, hb⟩

theorem new_game (n : Int) (w : World) (hn : 0 ≤ n ∧ n ≤ 10000) : Calls Try.prog 9 #[.int .i64 n] w fun e w' =>
    ∃ b, e = .returned (.tuple #[.pointer (some ⟨b, 0, none⟩), .int .i64 0]) ∧ ∃ F, Pile w' TS (.pointer (some ⟨b, 0, none⟩)) n (some []) F ∧ (∀ k, F k → w.heap.size ≤ k) ∧ Below w.heap.size w w' := by
  refine (new_pile n w).mono ?_
  simp only [if_pos hn]
  rintro e w' ⟨p, F, rfl, hp, hF, hb⟩
  obtain ⟨_, _, _, b, v, rfl, _⟩ := id hp
  exact ⟨b, rfl, F, hp, hF, hb⟩
theorem rnew_game {w0 w : World} {p : Value} {F : Nat → Prop} (n : Int) (hn : 0 ≤ n ∧ n ≤ 10000) (h : Pile w TS p n (some []) F ∧ (∀ k, F k → w0.heap.size ≤ k) ∧ Below w0.heap.size w0 w) : Calls Try.prog 15 #[.int .i64 n] w fun e w' =>
    ∃ b, e = .returned (.tuple #[.pointer (some ⟨b, 0, none⟩), .int .i64 0]) ∧ Game w0 w' p (.pointer (some ⟨b, 0, none⟩)) p (.pointer (some ⟨b, 0, none⟩)) n (some []) (some []) (fun _ => False) := by
  obtain ⟨h1, h2, h3⟩ := h
  refine (rnew_pile n w).mono ?_
  simp only [if_pos hn]
  rintro e w' ⟨q, G, rfl, hp, hG, hb⟩
  obtain ⟨_, _, hlt, b, v, rfl, _⟩ := id hp
  have h1' := h1.below hb
  obtain ⟨_, _, hF, _⟩ := id h1
  refine ⟨b, rfl, .same ⟨F, G, h1', hp, fun k hk => ⟨h2 k hk, Nat.lt_of_lt_of_le (hF k hk) hb.size, id⟩, fun k hk => ⟨Nat.le_trans h3.size (hG k hk), hlt k hk, id⟩, fun k hk hg => ?_, fun _ h => h.elim, Upto.below ((Upto.of_below h3 _).trans (Upto.of_below hb _))⟩ rfl rfl⟩
  have := hF k hk; have := hG k hg
  omega
theorem Game.none (w : World) (most : Int) : Game w w (.pointer none) (.pointer none) (.pointer none) (.pointer none) most none none (fun _ => False) :=
  .same ⟨fun _ => False, fun _ => False, rfl, rfl, fun _ h => h.elim, fun _ h => h.elim, fun _ h => h.elim, fun _ h => h.elim, Below.refl _ _⟩ rfl rfl

set_option maxRecDepth 10000 in
set_option maxHeartbeats 4000000 in
theorem plays_ok (most : Int) (g off n c : Nat) (dos ns : Nat → Int) (w : World) (hm : 0 ≤ most ∧ most ≤ 10000) (hn : n ≤ 100) (hg : g < w.heap.size) (hc : StepsAt w g off n dos ns) :
    Calls Try.prog 5 #[.int .i64 most, .slice (some ⟨g, off, none⟩) n c] w fun e w' => e = .returned (.bool true) ∧ Below w.heap.size w w' := by
  have Hc := Lib.hid hc; clear hc
  have hn100 : ¬ (100 : Int) < n := by omega
  go_enter Try.func5, Try.ntmps5
  go_wp2_with (first
    | (go_at_call 15; refine (rnew_game _ hm N0.out).mono ?_; rintro e w2 ⟨q, rfl, hG⟩; have G0 := Lib.hid hG; clear hG)
    | (go_at_call 9; refine (new_game _ _ hm).mono ?_; rintro e w1 ⟨p, rfl, F, hN⟩; have N0 := Lib.hid hN; clear hN))
  go_loopw [11, 5, 7, 9, 10] (fun i p q p2 q2 wr => ∃ j : Nat, j ≤ n ∧ i = .int .i64 j ∧ ∃ o, Hid (Game w wr p q p2 q2 most o o (fun _ => False))) (fun i _ _ _ _ _ => n - (intOf i).toNat)
  case atStart => exact ⟨0, Nat.zero_le _, rfl, _, G0⟩
  case round =>
    obtain ⟨j, hj, rfl, o, hT⟩ := hrel
    by_cases hlt : j < n
    · have hd := (hT.out.base.cell (p := ⟨g, off + j * 2, none⟩) hg).trans (Hc.out j hlt).1
      have hn' := (hT.out.base.cell (p := ⟨g, off + j * 2 + 1, none⟩) hg).trans (Hc.out j hlt).2
      generalize hdd : dos j = d at hd
      have Hdd := Lib.hid hdd; clear hdd
      have HT := Lib.hid (hT.out.step ((Upto.refl _ wr).drew))
      by_cases d0 : d = 0
      · subst d0
        go_wp2
        go_region_held3 (fun w' => w'.cell? ⟨g, off + j * 2 + 1, none⟩ = some (.int .i64 (ns j))) (go_keep) (first
          | (go_at_call 16; refine (Game.rpush _ GA.out).mono ?_; rintro e wb ⟨rfl, hG, _⟩; have GZ := Lib.hid hG; have cn2 := (GZ.out.base.cell (p := ⟨g, off + j * 2 + 1, none⟩) hg).trans (Hc.out j hlt).2; clear hG)
          | (go_at_call 10; refine (Game.push _ HT.out).mono ?_; rintro e wa ⟨rfl, hG, _⟩; have GA := Lib.hid hG; have cn1 := (GA.out.base.cell (p := ⟨g, off + j * 2 + 1, none⟩) hg).trans (Hc.out j hlt).2; clear hG))
        go_wp2_with (first
          | (go_at_call 13; refine (same_rows RZ1.out RZ2.out).mono ?_; rintro e wq3 ⟨rfl, hu⟩; have GW := Lib.hid (GY2.out.step hu); clear hu)
          | (go_at_call 23; refine (Game.rall GY.out).mono ?_; rintro e wq2 ⟨uz2, rfl, hR, hu⟩; have RZ2 := Lib.hid hR; have RZ1 := Lib.hid (RZ0.out.kept hu (fun _ _ => id)); have GY2 := Lib.hid (GY.out.step hu); clear hR hu)
          | (go_at_call 11; refine (Game.all GZ.out).mono ?_; rintro e wq1 ⟨uz1, rfl, hR, hu⟩; have RZ0 := Lib.hid hR; have GY := Lib.hid (GZ.out.step hu); clear hR hu)
          | (go_at_call 22; refine (Game.rlen GZ.out).mono ?_; rintro e wl ⟨rfl, rfl⟩)
          | (go_at_call 14; refine (Game.len GZ.out).mono ?_; rintro e wl ⟨rfl, rfl⟩))
        go_roundw
        case rel => exact ⟨j + 1, by omega, by go_num, _, GW⟩
        case measure => simp [intOf]; omega
      · by_cases d1 : d = 1
        · subst d1
          clear d0
          go_wp2_with (first
            | (go_at_call 18; refine (Game.rpop GA.out).mono ?_; rintro e wb ⟨rfl, hG, _⟩; have GZ := Lib.hid hG; clear hG)
            | (go_at_call 17; refine (Game.pop hT.out).mono ?_; rintro e wa ⟨rfl, hG, _⟩; have GA := Lib.hid hG; clear hG)
            | (go_at_call 13; refine (same_rows RZ1.out RZ2.out).mono ?_; rintro e wq3 ⟨rfl, hu⟩; have GW := Lib.hid (GY2.out.step hu); clear hu)
            | (go_at_call 23; refine (Game.rall GY.out).mono ?_; rintro e wq2 ⟨uz2, rfl, hR, hu⟩; have RZ2 := Lib.hid hR; have RZ1 := Lib.hid (RZ0.out.kept hu (fun _ _ => id)); have GY2 := Lib.hid (GY.out.step hu); clear hR hu)
            | (go_at_call 11; refine (Game.all GZ.out).mono ?_; rintro e wq1 ⟨uz1, rfl, hR, hu⟩; have RZ0 := Lib.hid hR; have GY := Lib.hid (GZ.out.step hu); clear hR hu)
            | (go_at_call 22; refine (Game.rlen GZ.out).mono ?_; rintro e wl ⟨rfl, rfl⟩)
            | (go_at_call 14; refine (Game.len GZ.out).mono ?_; rintro e wl ⟨rfl, rfl⟩))
          go_roundw
          case rel => exact ⟨j + 1, by omega, by go_num, _, GW⟩
          case measure => simp [intOf]; omega
        · by_cases d2 : d = 2
          · subst d2
            clear d0 d1
            go_wp2_with (first
              | (go_at_call 13; have mm := GB; refine (same_rows R1.out R2.out).mono ?_; rintro e wc ⟨rfl, hu⟩; have GZ := Lib.hid ((GB.out.step hu).mono (R' := fun _ => False) (fun _ h => h.elim)); clear hu GB mm)
              | (go_at_call 19; refine (Game.rtake _ GA.out).mono ?_; rintro e wb ⟨u2, rfl, hR, hG, hu⟩; have GB := Lib.hid hG; have R2 := Lib.hid hR; have R1 := Lib.hid (R0.out.kept hu (fun k hk e => e.2 (Or.inr hk))); clear hG hR hu)
              | (go_at_call 12; refine (Game.take _ hT.out).mono ?_; rintro e wa ⟨u1, rfl, hR, hG, _⟩; have GA := Lib.hid hG; have R0 := Lib.hid hR; have cn1 := (GA.out.base.cell (p := ⟨g, off + j * 2 + 1, none⟩) hg).trans (Hc.out j hlt).2; clear hG hR)
              | (go_at_call 13; refine (same_rows RZ1.out RZ2.out).mono ?_; rintro e wq3 ⟨rfl, hu⟩; have GW := Lib.hid (GY2.out.step hu); clear hu)
              | (go_at_call 23; refine (Game.rall GY.out).mono ?_; rintro e wq2 ⟨uz2, rfl, hR, hu⟩; have RZ2 := Lib.hid hR; have RZ1 := Lib.hid (RZ0.out.kept hu (fun _ _ => id)); have GY2 := Lib.hid (GY.out.step hu); clear hR hu)
              | (go_at_call 11; refine (Game.all GZ.out).mono ?_; rintro e wq1 ⟨uz1, rfl, hR, hu⟩; have RZ0 := Lib.hid hR; have GY := Lib.hid (GZ.out.step hu); clear hR hu)
              | (go_at_call 22; refine (Game.rlen GZ.out).mono ?_; rintro e wl ⟨rfl, rfl⟩)
              | (go_at_call 14; refine (Game.len GZ.out).mono ?_; rintro e wl ⟨rfl, rfl⟩))
            go_roundw
            case rel => exact ⟨j + 1, by omega, by go_num, _, GW⟩
            case measure => simp [intOf]; omega
          · by_cases d3 : d = 3
            · subst d3
              clear d0 d1 d2
              go_wp2_with (first
                | (go_at_call 21; refine (Half.copy GA.out).mono ?_; rintro e wb ⟨q', rfl, hG⟩; have GZ := Lib.hid hG; clear hG)
                | (go_at_call 20; refine (Game.copy hT.out).mono ?_; rintro e wa ⟨p', rfl, hG⟩; have GA := Lib.hid hG; clear hG)
                | (go_at_call 13; refine (same_rows RZ1.out RZ2.out).mono ?_; rintro e wq3 ⟨rfl, hu⟩; have GW := Lib.hid (GY2.out.step hu); clear hu)
                | (go_at_call 23; refine (Game.rall GY.out).mono ?_; rintro e wq2 ⟨uz2, rfl, hR, hu⟩; have RZ2 := Lib.hid hR; have RZ1 := Lib.hid (RZ0.out.kept hu (fun _ _ => id)); have GY2 := Lib.hid (GY.out.step hu); clear hR hu)
                | (go_at_call 11; refine (Game.all GZ.out).mono ?_; rintro e wq1 ⟨uz1, rfl, hR, hu⟩; have RZ0 := Lib.hid hR; have GY := Lib.hid (GZ.out.step hu); clear hR hu)
                | (go_at_call 22; refine (Game.rlen GZ.out).mono ?_; rintro e wl ⟨rfl, rfl⟩)
                | (go_at_call 14; refine (Game.len GZ.out).mono ?_; rintro e wl ⟨rfl, rfl⟩))
              go_roundw
              case rel => exact ⟨j + 1, by omega, by go_num, _, GW⟩
              case measure => simp [intOf]; omega
            · have GZ := hT
              go_wp2_with (first
                | (go_at_call 13; refine (same_rows RZ1.out RZ2.out).mono ?_; rintro e wq3 ⟨rfl, hu⟩; have GW := Lib.hid (GY2.out.step hu); clear hu)
                | (go_at_call 23; refine (Game.rall GY.out).mono ?_; rintro e wq2 ⟨uz2, rfl, hR, hu⟩; have RZ2 := Lib.hid hR; have RZ1 := Lib.hid (RZ0.out.kept hu (fun _ _ => id)); have GY2 := Lib.hid (GY.out.step hu); clear hR hu)
                | (go_at_call 11; refine (Game.all GZ.out).mono ?_; rintro e wq1 ⟨uz1, rfl, hR, hu⟩; have RZ0 := Lib.hid hR; have GY := Lib.hid (GZ.out.step hu); clear hR hu)
                | (go_at_call 22; refine (Game.rlen GZ.out).mono ?_; rintro e wl ⟨rfl, rfl⟩)
                | (go_at_call 14; refine (Game.len GZ.out).mono ?_; rintro e wl ⟨rfl, rfl⟩))
              go_roundw
              case rel => exact ⟨j + 1, by omega, by go_num, _, GW⟩
              case measure => simp [intOf]; omega
    · obtain rfl : j = n := by omega
      obtain ⟨o2, F2, G2, hp2, hq2⟩ := hT.out.olds
      have P2 := Lib.hid hp2; clear hp2
      have Q2 := Lib.hid hq2; clear hq2
      go_wp2_with (first
        | (go_at_call 8; refine (works_true _).mono ?_; rintro e wf ⟨rfl, hb⟩; have BF := Lib.hid hb; clear hb)
        | (go_at_call 13; refine (same_rows R1.out R2.out).mono ?_; rintro e we ⟨rfl, hu⟩; have BE := Lib.hid hu; clear hu)
        | (go_at_call 23; refine (rall_pile (Q2.out.below BC.out)).mono ?_; rintro e wd ⟨u2, rfl, hR, _, hb⟩; have R2 := Lib.hid hR; have R1 := Lib.hid (R0.out.kept (Upto.of_below hb (fun _ => False)) (fun _ _ => id)); have BD := Lib.hid hb; clear hR hb)
        | (go_at_call 11; refine (all_pile P2.out).mono ?_; rintro e wc ⟨u1, rfl, hR, _, hb⟩; have R0 := Lib.hid hR; have BC := Lib.hid hb; clear hR hb))
      go_ret
      exact ⟨rfl, Upto.below (((((Upto.of_below hT.out.base _).trans (Upto.of_below BC.out _)).trans (Upto.of_below BD.out _)).trans BE.out).trans (Upto.of_below BF.out _))⟩

set_option maxRecDepth 10000 in
set_option maxHeartbeats 4000000 in
theorem plays_bad (most : Int) (g off n c : Nat) (dos ns : Nat → Int) (w : World) (hm : most < 0 ∨ 10000 < most) (hn : n ≤ 100) (hg : g < w.heap.size) (hc : StepsAt w g off n dos ns) :
    Calls Try.prog 5 #[.int .i64 most, .slice (some ⟨g, off, none⟩) n c] w fun e w' => e = .returned (.bool true) ∧ Below w.heap.size w w' := by
  have Hc := Lib.hid hc; clear hc
  have hn100 : ¬ (100 : Int) < n := by omega
  go_enter Try.func5, Try.ntmps5
  go_wp2_with (first
    | (go_at_call 15; refine (rnew_bad _ _ hm).mono ?_; rintro e w2 ⟨rfl, rfl⟩)
    | (go_at_call 9; refine (new_bad _ _ hm).mono ?_; rintro e w1 ⟨rfl, rfl⟩))
  have G0 := Lib.hid (Game.none w most)
  go_loopw [11, 5, 7, 9, 10] (fun i p q p2 q2 wr => ∃ j : Nat, j ≤ n ∧ i = .int .i64 j ∧ ∃ o, Hid (Game w wr p q p2 q2 most o o (fun _ => False))) (fun i _ _ _ _ _ => n - (intOf i).toNat)
  case atStart => exact ⟨0, Nat.zero_le _, rfl, _, G0⟩
  case round =>
    obtain ⟨j, hj, rfl, o, hT⟩ := hrel
    by_cases hlt : j < n
    · have hd := (hT.out.base.cell (p := ⟨g, off + j * 2, none⟩) hg).trans (Hc.out j hlt).1
      have hn' := (hT.out.base.cell (p := ⟨g, off + j * 2 + 1, none⟩) hg).trans (Hc.out j hlt).2
      generalize hdd : dos j = d at hd
      have Hdd := Lib.hid hdd; clear hdd
      have HT := Lib.hid (hT.out.step ((Upto.refl _ wr).drew))
      by_cases d0 : d = 0
      · subst d0
        go_wp2
        go_region_held3 (fun w' => w'.cell? ⟨g, off + j * 2 + 1, none⟩ = some (.int .i64 (ns j))) (go_keep) (first
          | (go_at_call 16; refine (Game.rpush _ GA.out).mono ?_; rintro e wb ⟨rfl, hG, _⟩; have GZ := Lib.hid hG; have cn2 := (GZ.out.base.cell (p := ⟨g, off + j * 2 + 1, none⟩) hg).trans (Hc.out j hlt).2; clear hG)
          | (go_at_call 10; refine (Game.push _ HT.out).mono ?_; rintro e wa ⟨rfl, hG, _⟩; have GA := Lib.hid hG; have cn1 := (GA.out.base.cell (p := ⟨g, off + j * 2 + 1, none⟩) hg).trans (Hc.out j hlt).2; clear hG))
        go_wp2_with (first
          | (go_at_call 13; refine (same_rows RZ1.out RZ2.out).mono ?_; rintro e wq3 ⟨rfl, hu⟩; have GW := Lib.hid (GY2.out.step hu); clear hu)
          | (go_at_call 23; refine (Game.rall GY.out).mono ?_; rintro e wq2 ⟨uz2, rfl, hR, hu⟩; have RZ2 := Lib.hid hR; have RZ1 := Lib.hid (RZ0.out.kept hu (fun _ _ => id)); have GY2 := Lib.hid (GY.out.step hu); clear hR hu)
          | (go_at_call 11; refine (Game.all GZ.out).mono ?_; rintro e wq1 ⟨uz1, rfl, hR, hu⟩; have RZ0 := Lib.hid hR; have GY := Lib.hid (GZ.out.step hu); clear hR hu)
          | (go_at_call 22; refine (Game.rlen GZ.out).mono ?_; rintro e wl ⟨rfl, rfl⟩)
          | (go_at_call 14; refine (Game.len GZ.out).mono ?_; rintro e wl ⟨rfl, rfl⟩))
        go_roundw
        case rel => exact ⟨j + 1, by omega, by go_num, _, GW⟩
        case measure => simp [intOf]; omega
      · by_cases d1 : d = 1
        · subst d1
          clear d0
          go_wp2_with (first
            | (go_at_call 18; refine (Game.rpop GA.out).mono ?_; rintro e wb ⟨rfl, hG, _⟩; have GZ := Lib.hid hG; clear hG)
            | (go_at_call 17; refine (Game.pop hT.out).mono ?_; rintro e wa ⟨rfl, hG, _⟩; have GA := Lib.hid hG; clear hG)
            | (go_at_call 13; refine (same_rows RZ1.out RZ2.out).mono ?_; rintro e wq3 ⟨rfl, hu⟩; have GW := Lib.hid (GY2.out.step hu); clear hu)
            | (go_at_call 23; refine (Game.rall GY.out).mono ?_; rintro e wq2 ⟨uz2, rfl, hR, hu⟩; have RZ2 := Lib.hid hR; have RZ1 := Lib.hid (RZ0.out.kept hu (fun _ _ => id)); have GY2 := Lib.hid (GY.out.step hu); clear hR hu)
            | (go_at_call 11; refine (Game.all GZ.out).mono ?_; rintro e wq1 ⟨uz1, rfl, hR, hu⟩; have RZ0 := Lib.hid hR; have GY := Lib.hid (GZ.out.step hu); clear hR hu)
            | (go_at_call 22; refine (Game.rlen GZ.out).mono ?_; rintro e wl ⟨rfl, rfl⟩)
            | (go_at_call 14; refine (Game.len GZ.out).mono ?_; rintro e wl ⟨rfl, rfl⟩))
          go_roundw
          case rel => exact ⟨j + 1, by omega, by go_num, _, GW⟩
          case measure => simp [intOf]; omega
        · by_cases d2 : d = 2
          · subst d2
            clear d0 d1
            go_wp2_with (first
              | (go_at_call 13; have mm := GB; refine (same_rows R1.out R2.out).mono ?_; rintro e wc ⟨rfl, hu⟩; have GZ := Lib.hid ((GB.out.step hu).mono (R' := fun _ => False) (fun _ h => h.elim)); clear hu GB mm)
              | (go_at_call 19; refine (Game.rtake _ GA.out).mono ?_; rintro e wb ⟨u2, rfl, hR, hG, hu⟩; have GB := Lib.hid hG; have R2 := Lib.hid hR; have R1 := Lib.hid (R0.out.kept hu (fun k hk e => e.2 (Or.inr hk))); clear hG hR hu)
              | (go_at_call 12; refine (Game.take _ hT.out).mono ?_; rintro e wa ⟨u1, rfl, hR, hG, _⟩; have GA := Lib.hid hG; have R0 := Lib.hid hR; have cn1 := (GA.out.base.cell (p := ⟨g, off + j * 2 + 1, none⟩) hg).trans (Hc.out j hlt).2; clear hG hR)
              | (go_at_call 13; refine (same_rows RZ1.out RZ2.out).mono ?_; rintro e wq3 ⟨rfl, hu⟩; have GW := Lib.hid (GY2.out.step hu); clear hu)
              | (go_at_call 23; refine (Game.rall GY.out).mono ?_; rintro e wq2 ⟨uz2, rfl, hR, hu⟩; have RZ2 := Lib.hid hR; have RZ1 := Lib.hid (RZ0.out.kept hu (fun _ _ => id)); have GY2 := Lib.hid (GY.out.step hu); clear hR hu)
              | (go_at_call 11; refine (Game.all GZ.out).mono ?_; rintro e wq1 ⟨uz1, rfl, hR, hu⟩; have RZ0 := Lib.hid hR; have GY := Lib.hid (GZ.out.step hu); clear hR hu)
              | (go_at_call 22; refine (Game.rlen GZ.out).mono ?_; rintro e wl ⟨rfl, rfl⟩)
              | (go_at_call 14; refine (Game.len GZ.out).mono ?_; rintro e wl ⟨rfl, rfl⟩))
            go_roundw
            case rel => exact ⟨j + 1, by omega, by go_num, _, GW⟩
            case measure => simp [intOf]; omega
          · by_cases d3 : d = 3
            · subst d3
              clear d0 d1 d2
              go_wp2_with (first
                | (go_at_call 21; refine (Half.copy GA.out).mono ?_; rintro e wb ⟨q', rfl, hG⟩; have GZ := Lib.hid hG; clear hG)
                | (go_at_call 20; refine (Game.copy hT.out).mono ?_; rintro e wa ⟨p', rfl, hG⟩; have GA := Lib.hid hG; clear hG)
                | (go_at_call 13; refine (same_rows RZ1.out RZ2.out).mono ?_; rintro e wq3 ⟨rfl, hu⟩; have GW := Lib.hid (GY2.out.step hu); clear hu)
                | (go_at_call 23; refine (Game.rall GY.out).mono ?_; rintro e wq2 ⟨uz2, rfl, hR, hu⟩; have RZ2 := Lib.hid hR; have RZ1 := Lib.hid (RZ0.out.kept hu (fun _ _ => id)); have GY2 := Lib.hid (GY.out.step hu); clear hR hu)
                | (go_at_call 11; refine (Game.all GZ.out).mono ?_; rintro e wq1 ⟨uz1, rfl, hR, hu⟩; have RZ0 := Lib.hid hR; have GY := Lib.hid (GZ.out.step hu); clear hR hu)
                | (go_at_call 22; refine (Game.rlen GZ.out).mono ?_; rintro e wl ⟨rfl, rfl⟩)
                | (go_at_call 14; refine (Game.len GZ.out).mono ?_; rintro e wl ⟨rfl, rfl⟩))
              go_roundw
              case rel => exact ⟨j + 1, by omega, by go_num, _, GW⟩
              case measure => simp [intOf]; omega
            · have GZ := hT
              go_wp2_with (first
                | (go_at_call 13; refine (same_rows RZ1.out RZ2.out).mono ?_; rintro e wq3 ⟨rfl, hu⟩; have GW := Lib.hid (GY2.out.step hu); clear hu)
                | (go_at_call 23; refine (Game.rall GY.out).mono ?_; rintro e wq2 ⟨uz2, rfl, hR, hu⟩; have RZ2 := Lib.hid hR; have RZ1 := Lib.hid (RZ0.out.kept hu (fun _ _ => id)); have GY2 := Lib.hid (GY.out.step hu); clear hR hu)
                | (go_at_call 11; refine (Game.all GZ.out).mono ?_; rintro e wq1 ⟨uz1, rfl, hR, hu⟩; have RZ0 := Lib.hid hR; have GY := Lib.hid (GZ.out.step hu); clear hR hu)
                | (go_at_call 22; refine (Game.rlen GZ.out).mono ?_; rintro e wl ⟨rfl, rfl⟩)
                | (go_at_call 14; refine (Game.len GZ.out).mono ?_; rintro e wl ⟨rfl, rfl⟩))
              go_roundw
              case rel => exact ⟨j + 1, by omega, by go_num, _, GW⟩
              case measure => simp [intOf]; omega
    · obtain rfl : j = n := by omega
      obtain ⟨o2, F2, G2, hp2, hq2⟩ := hT.out.olds
      have P2 := Lib.hid hp2; clear hp2
      have Q2 := Lib.hid hq2; clear hq2
      go_wp2_with (first
        | (go_at_call 8; refine (works_true _).mono ?_; rintro e wf ⟨rfl, hb⟩; have BF := Lib.hid hb; clear hb)
        | (go_at_call 13; refine (same_rows R1.out R2.out).mono ?_; rintro e we ⟨rfl, hu⟩; have BE := Lib.hid hu; clear hu)
        | (go_at_call 23; refine (rall_pile (Q2.out.below BC.out)).mono ?_; rintro e wd ⟨u2, rfl, hR, _, hb⟩; have R2 := Lib.hid hR; have R1 := Lib.hid (R0.out.kept (Upto.of_below hb (fun _ => False)) (fun _ _ => id)); have BD := Lib.hid hb; clear hR hb)
        | (go_at_call 11; refine (all_pile P2.out).mono ?_; rintro e wc ⟨u1, rfl, hR, _, hb⟩; have R0 := Lib.hid hR; have BC := Lib.hid hb; clear hR hb))
      go_ret
      exact ⟨rfl, Upto.below (((((Upto.of_below hT.out.base _).trans (Upto.of_below BC.out _)).trans (Upto.of_below BD.out _)).trans BE.out).trans (Upto.of_below BF.out _))⟩

set_option maxRecDepth 10000 in
set_option maxHeartbeats 4000000 in
theorem plays_ok0 (most : Int) (ao : Option Addr) (c : Nat) (w : World) (hm : 0 ≤ most ∧ most ≤ 10000) :
    Calls Try.prog 5 #[.int .i64 most, .slice ao 0 c] w fun e w' => e = .returned (.bool true) ∧ Below w.heap.size w w' := by
  go_enter Try.func5, Try.ntmps5
  go_wp2_with (first
    | (go_at_call 15; refine (rnew_game _ hm N0.out).mono ?_; rintro e w2 ⟨q, rfl, hG⟩; have G0 := Lib.hid hG; clear hG)
    | (go_at_call 9; refine (new_game _ _ hm).mono ?_; rintro e w1 ⟨p, rfl, F, hN⟩; have N0 := Lib.hid hN; clear hN))
  go_loopw [11, 5, 7, 9, 10] (fun i p q p2 q2 wr => i = .int .i64 0 ∧ ∃ o, Hid (Game w wr p q p2 q2 most o o (fun _ => False))) (fun _ _ _ _ _ _ => 0)
  case atStart => exact ⟨rfl, _, G0⟩
  case round =>
    obtain ⟨rfl, o, hT⟩ := hrel
    obtain ⟨o2, F2, G2, hp2, hq2⟩ := hT.out.olds
    have P2 := Lib.hid hp2; clear hp2
    have Q2 := Lib.hid hq2; clear hq2
    go_wp2_with (first
      | (go_at_call 8; refine (works_true _).mono ?_; rintro e wf ⟨rfl, hb⟩; have BF := Lib.hid hb; clear hb)
      | (go_at_call 13; refine (same_rows R1.out R2.out).mono ?_; rintro e we ⟨rfl, hu⟩; have BE := Lib.hid hu; clear hu)
      | (go_at_call 23; refine (rall_pile (Q2.out.below BC.out)).mono ?_; rintro e wd ⟨u2, rfl, hR, _, hb⟩; have R2 := Lib.hid hR; have R1 := Lib.hid (R0.out.kept (Upto.of_below hb (fun _ => False)) (fun _ _ => id)); have BD := Lib.hid hb; clear hR hb)
      | (go_at_call 11; refine (all_pile P2.out).mono ?_; rintro e wc ⟨u1, rfl, hR, _, hb⟩; have R0 := Lib.hid hR; have BC := Lib.hid hb; clear hR hb))
    go_ret
    exact ⟨rfl, Upto.below (((((Upto.of_below hT.out.base _).trans (Upto.of_below BC.out _)).trans (Upto.of_below BD.out _)).trans BE.out).trans (Upto.of_below BF.out _))⟩

set_option maxRecDepth 10000 in
set_option maxHeartbeats 4000000 in
theorem plays_bad0 (most : Int) (ao : Option Addr) (c : Nat) (w : World) (hm : most < 0 ∨ 10000 < most) :
    Calls Try.prog 5 #[.int .i64 most, .slice ao 0 c] w fun e w' => e = .returned (.bool true) ∧ Below w.heap.size w w' := by
  go_enter Try.func5, Try.ntmps5
  go_wp2_with (first
    | (go_at_call 15; refine (rnew_bad _ _ hm).mono ?_; rintro e w2 ⟨rfl, rfl⟩)
    | (go_at_call 9; refine (new_bad _ _ hm).mono ?_; rintro e w1 ⟨rfl, rfl⟩))
  have G0 := Lib.hid (Game.none w most)
  go_loopw [11, 5, 7, 9, 10] (fun i p q p2 q2 wr => i = .int .i64 0 ∧ ∃ o, Hid (Game w wr p q p2 q2 most o o (fun _ => False))) (fun _ _ _ _ _ _ => 0)
  case atStart => exact ⟨rfl, _, G0⟩
  case round =>
    obtain ⟨rfl, o, hT⟩ := hrel
    obtain ⟨o2, F2, G2, hp2, hq2⟩ := hT.out.olds
    have P2 := Lib.hid hp2; clear hp2
    have Q2 := Lib.hid hq2; clear hq2
    go_wp2_with (first
      | (go_at_call 8; refine (works_true _).mono ?_; rintro e wf ⟨rfl, hb⟩; have BF := Lib.hid hb; clear hb)
      | (go_at_call 13; refine (same_rows R1.out R2.out).mono ?_; rintro e we ⟨rfl, hu⟩; have BE := Lib.hid hu; clear hu)
      | (go_at_call 23; refine (rall_pile (Q2.out.below BC.out)).mono ?_; rintro e wd ⟨u2, rfl, hR, _, hb⟩; have R2 := Lib.hid hR; have R1 := Lib.hid (R0.out.kept (Upto.of_below hb (fun _ => False)) (fun _ _ => id)); have BD := Lib.hid hb; clear hR hb)
      | (go_at_call 11; refine (all_pile P2.out).mono ?_; rintro e wc ⟨u1, rfl, hR, _, hb⟩; have R0 := Lib.hid hR; have BC := Lib.hid hb; clear hR hb))
    go_ret
    exact ⟨rfl, Upto.below (((((Upto.of_below hT.out.base _).trans (Upto.of_below BC.out _)).trans (Upto.of_below BD.out _)).trans BE.out).trans (Upto.of_below BF.out _))⟩

theorem plays_some (most : Int) (g off n c : Nat) (dos ns : Nat → Int) (w : World) (hg : g < w.heap.size) (hc : StepsAt w g off n dos ns) :
    Calls Try.prog 5 #[.int .i64 most, .slice (some ⟨g, off, none⟩) n c] w fun e w' => e = .returned (.bool true) ∧ Below w.heap.size w w' := by
  by_cases hn : 100 < n
  · exact plays_easy most _ n c w hn
  · by_cases hm : 0 ≤ most ∧ most ≤ 10000
    · exact plays_ok most g off n c dos ns w hm (by omega) hg hc
    · exact plays_bad most g off n c dos ns w (by omega) (by omega) hg hc
theorem plays_zero (most : Int) (ao : Option Addr) (c : Nat) (w : World) :
    Calls Try.prog 5 #[.int .i64 most, .slice ao 0 c] w fun e w' => e = .returned (.bool true) ∧ Below w.heap.size w w' := by
  by_cases hm : 0 ≤ most ∧ most ≤ 10000
  · exact plays_ok0 most ao c w hm
  · exact plays_bad0 most ao c w (by omega)

end Go.Proofs.Ytcajkgingenegaa
