/-
  The law of the plays of the memories, walked.
-/
import Derived.Test.YtjganbcolaakkaaMPlaysA
import Derived.Test.YtjganbcolaakkaaMPlaysB
namespace Go.Proofs.Ytjganbcolaakkaa
open Go.RowKit

set_option maxRecDepth 10000 in
theorem mplays_easy (li : Int) (ao : Option Addr) (n c : Nat) (w : World) (h : 60 < n) :
    Calls Try.prog 8 #[.int .i64 li, .slice ao n c] w fun e w' => e = .returned (.bool true) ∧ Below w.heap.size w w' := by
  have h2 : (60 : Int) < n := by omega
  clear h
  by_cases hli : li < 0 ∨ 10000 < li
  · go_enter Try.func8, Try.ntmps8
    go_wp2_with (first
      | (go_at_call 20; refine (works29 _).mono ?_; rintro e w9 ⟨rfl, hb⟩; have BF := Lib.hid hb; clear hb)
      | (go_at_call 37; refine (nnew_bad _ _ hli).mono ?_; rintro e w2 ⟨rfl, rfl⟩)
      | (go_at_call 15; refine (mnew_bad _ _ hli).mono ?_; rintro e w1 ⟨rfl, rfl⟩))
    go_ret
    exact ⟨rfl, BF.out⟩
  · obtain ⟨lim, hlim⟩ : ∃ lim : Nat, li = lim := ⟨li.toNat, by omega⟩
    have hle : lim ≤ 10000 := by omega
    have Hl := Lib.hid hlim; clear hlim hli
    go_enter Try.func8, Try.ntmps8
    go_wp2_with (first
      | (go_at_call 20; refine (works29 _).mono ?_; rintro e w9 ⟨rfl, hb⟩; have BF := Lib.hid hb; clear hb)
      | (go_at_call 37; refine (SN.new lim _ N0.out Hl.out hle).mono ?_; rintro e w2 ⟨q, rfl, hS⟩; have S0 := Lib.hid hS; clear hS)
      | (go_at_call 15; refine (SL.new lim _ (St.nil w) Hl.out hle).mono ?_; rintro e w1 ⟨p, rfl, hS⟩; have N0 := Lib.hid hS; clear hS))
    go_ret
    exact ⟨rfl, Upto.below ((Upto.of_below (St.base S0.out) _).trans (Upto.of_below BF.out _))⟩
theorem mplays_join {v : Value} {W : World} (li : Int) (h : FourSeen W v .i64 .i64 .i64 .i64) : Calls Try.prog 8 #[.int .i64 li, v] W fun e w' => e = .returned (.bool true) ∧ Below W.heap.size W w' := by
  have key : ∀ (ao : Option Addr) (n c : Nat) (z0 z1 z2 z3 : Nat → Int), StepsIn W ao n z0 z1 z2 z3 → Calls Try.prog 8 #[.int .i64 li, .slice ao n c] W fun e w' => e = .returned (.bool true) ∧ Below W.heap.size W w' := fun ao n c z0 z1 z2 z3 hz => by
    by_cases hn : 60 < n
    · exact mplays_easy li ao n c W hn
    · by_cases hl : 0 ≤ li ∧ li ≤ 10000
      · exact mplays_ok li ao n c z0 z1 z2 z3 W (by omega) hz hl
      · exact mplays_bad li ao n c z0 z1 z2 z3 W (by omega) hz (by omega)
  rcases h with rfl | ⟨a, c, rfl⟩ | ⟨g, off, n, c, z0, z1, z2, z3, rfl, hc, hg, hz⟩
  · exact key none 0 0 (fun _ => 0) (fun _ => 0) (fun _ => 0) (fun _ => 0) fun j hj => by omega
  · exact key (some a) 0 c (fun _ => 0) (fun _ => 0) (fun _ => 0) (fun _ => 0) fun j hj => by omega
  · exact key _ n c z0 z1 z2 z3 fun j hj => ⟨g, off, rfl, hg, (hz j hj).1.1, (hz j hj).2.1.1, (hz j hj).2.2.1.1, (hz j hj).2.2.2.1⟩

end Go.Proofs.Ytjganbcolaakkaa
