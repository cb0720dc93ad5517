/-
  The document's heaps: the small functions, walked.
-/
import Derived.Test.YtjganbcolaakkaaRes
namespace Go.Proofs.Ytjganbcolaakkaa
open Go.RowKit

abbrev TRH : TypeId := 112

theorem rvalid_nil (w : World) : Calls Try.prog 71 #[.pointer none] w fun e w' => e = .returned (.bool false) ∧ w = w' := by
  go_enter Try.func71, Try.ntmps71
  go_wp2
  go_ret
  exact ⟨rfl, rfl⟩
theorem rvalid_at (b : Nat) (ao : Option Addr) (n c : Nat) (w : World) (h : w.cell? ⟨b, 0, none⟩ = some (.slice ao n c)) (hn : 0 < n) : Calls Try.prog 71 #[ptr b] w fun e w' => e = .returned (.bool true) ∧ w = w' := by
  have h0 : (0 : Int) < (n : Int) := by omega
  go_enter Try.func71, Try.ntmps71
  go_wp2
  go_ret
  exact ⟨rfl, rfl⟩
theorem rnew_bad (n : Int) (w : World) (h : n < 0 ∨ 10000 < n) : Calls Try.prog 47 #[.int .i64 n] w fun e w' => e = .returned (.tuple #[.pointer none, .int .i64 2]) ∧ w = w' := by
  rcases h with h | h
  · go_enter Try.func47, Try.ntmps47
    go_wp2
    go_ret2
    exact ⟨rfl, rfl⟩
  · have h' : ¬ n < 0 := by omega
    go_enter Try.func47, Try.ntmps47
    go_wp2
    go_ret2
    exact ⟨rfl, rfl⟩
theorem rnew_ok (n : Int) (w : World) (h0 : 0 ≤ n) (h1 : n ≤ 10000) : Calls Try.prog 47 #[.int .i64 n] w fun e w' =>
    e = .returned (.tuple #[.pointer (some ⟨w.heap.size + 1, 0, none⟩), .int .i64 0]) ∧ w' = (w.alloc (.cells #[.slice none 0 0] TII)).alloc (.cells #[.slice (some ⟨w.heap.size, 0, none⟩) 1 1, .int .i64 n] TRH) := by
  go_enter Try.func47, Try.ntmps47
  go_wp2
  go_ret2
  exact ⟨rfl, rfl⟩

/-- A heap of the document. -/
inductive RH (b lim : Nat) (ls : List (List Int)) (w : World) (F : Fp) : Prop
  | mk (u : Value) (hp : 0 < ls.length) (room : tot ls ≤ lim) (hlim : lim ≤ 10000) (h : All [Blk b (.cells #[u, .int .i64 lim] TRH), MatT u ls] w F)
instance (b lim : Nat) (ls : List (List Int)) : Good (RH b lim ls) := ⟨fun h hu hd => by
  obtain ⟨u, h1, h2, h3, h4⟩ := h
  exact ⟨u, h1, h2, h3, All.kept inferInstance h4 hu hd⟩, fun h => by
  obtain ⟨u, h1, h2, h3, h4⟩ := h
  exact All.lt inferInstance h4⟩
section
variable {w0 w w' : World} {b lim : Nat} {ls : List (List Int)} {l : List Thing}
theorem St.rOpen (h : St w0 w (RH b lim ls :: l)) : ∃ u vs, 0 < ls.length ∧ tot ls ≤ lim ∧ lim ≤ 10000 ∧ St w0 w (Blk b (.cells #[u, .int .i64 lim] TRH) :: MatV u vs ls :: l) := by
  have ⟨F, ⟨F1, F2, ⟨u, h1, h2, h3, _⟩, _⟩, _⟩ := h
  obtain ⟨F, ⟨F1, F2, ⟨u, h1, h2, h3, h4⟩, h5⟩, h6⟩ := h
  have h7 : St w0 w (All [Blk b (.cells #[u, .int .i64 lim] TRH), MatT u ls] :: l) := ⟨F, ⟨F1, F2, h4, h5⟩, h6⟩
  obtain ⟨vs, h8⟩ := (h7.split.perm (List.Perm.swap _ _ _)).matOpen
  exact ⟨u, vs, h1, h2, h3, h8.perm (List.Perm.swap _ _ _)⟩
theorem St.rClose {u : Value} {vs : List Value} (h : St w0 w (Blk b (.cells #[u, .int .i64 lim] TRH) :: MatV u vs ls :: l)) (h1 : 0 < ls.length) (h2 : tot ls ≤ lim) (h3 : lim ≤ 10000) : St w0 w (RH b lim ls :: l) :=
  St.conv (((h.perm (List.Perm.swap _ _ _)).vClose.perm (List.Perm.swap _ _ _)).join) fun _ hF => ⟨u, h1, h2, h3, hF⟩
end
theorem SR.new {w0 w : World} {l : List Thing} [Goods l] (n : Nat) (i : Int) (h : St w0 w l) (hi : i = n) (hn : n ≤ 10000) : Calls Try.prog 47 #[.int .i64 i] w fun e w' =>
    ∃ b, e = .returned (.tuple #[ptr b, .int .i64 0]) ∧ St w0 w' (RH b n [[]] :: l) := by
  subst hi
  refine (rnew_ok n w (by omega) (by omega)).mono ?_
  rintro e w' ⟨rfl, rfl⟩
  refine ⟨_, rfl, ?_⟩
  have h1 := (h.alloc (.cells #[.slice none 0 0] TII)).matNil
  obtain ⟨vs, h2⟩ := h1.matOpen
  have h3 := h2.alloc (.cells #[.slice (some ⟨w.heap.size, 0, none⟩) 1 1, .int .i64 n] TRH)
  rw [show (w.alloc (.cells #[.slice none 0 0] TII)).heap.size = w.heap.size + 1 from by simp] at h3
  exact St.rClose h3 (by decide) (Nat.zero_le _) hn

theorem take_tot_succ {ls : List (List Int)} {k : Nat} (hk : k < ls.length) : tot (ls.take (k + 1)) = tot (ls.take k) + (ls.getD k []).length := by
  rw [List.take_add_one, List.getElem?_eq_getElem hk]
  simp only [Option.toList_some, tot_snoc]
  simp [List.getD, hk]

section
variable {w0 w w' : World} {b lim : Nat} {ls : List (List Int)} {l : List Thing}
theorem SR.count (l1 : List Thing) {l2 : List Thing} (n : Int) (h : St w0 w (l1 ++ RH b lim ls :: l2)) (hn : (ls.length : Int) - 1 = n) (hf : ls.length ≤ 1000000) : Calls Try.prog 73 #[ptr b] w fun e w' => e = .returned (.int .i64 n) ∧ w = w' := by
  subst hn
  obtain ⟨u, vs, h1, h2, h3, hS⟩ := (h.up l1).rOpen
  have c0 := hS.cell [] 0 u rfl
  obtain ⟨ao, c, rfl, _⟩ := hS.vLen [_]
  clear hS h
  generalize ls.length = n at *
  have h0 : (0 : Int) < (n : Int) := by omega
  go_enter Try.func73, Try.ntmps73
  go_wp2_with (go_at_call 71; refine (rvalid_at b _ _ _ _ c0 h1).mono ?_; rintro e w' ⟨rfl, rfl⟩)
  go_ret
  exact ⟨rfl, rfl⟩
theorem SR.limit (l1 : List Thing) {l2 : List Thing} (n : Int) (h : St w0 w (l1 ++ RH b lim ls :: l2)) (hn : (lim : Int) = n) : Calls Try.prog 74 #[ptr b] w fun e w' => e = .returned (.int .i64 n) ∧ w = w' := by
  subst hn
  obtain ⟨u, vs, h1, h2, h3, hS⟩ := (h.up l1).rOpen
  have c0 := hS.cell [] 0 u rfl
  have c1 := hS.cell [] 1 (.int .i64 lim) rfl
  obtain ⟨ao, c, rfl, _⟩ := hS.vLen [_]
  clear hS h
  go_enter Try.func74, Try.ntmps74
  go_wp2_with (go_at_call 71; refine (rvalid_at b _ _ _ _ c0 h1).mono ?_; rintro e w' ⟨rfl, rfl⟩)
  go_ret
  exact ⟨rfl, rfl⟩

set_option maxHeartbeats 800000 in
theorem rused_at (b n c g : Nat) (w : World) (ls : List (List Int)) (hn : ls.length = n) (hp : 0 < n) (hf : n ≤ 1000000) (ht : tot ls ≤ 10000) (c0 : w.cell? ⟨b, 0, none⟩ = some (.slice (some ⟨g, 0, none⟩) n c))
    (hr : ∀ j, j < n → ∃ so sc, w.cell? ⟨g, j, none⟩ = some (.slice so (ls.getD j []).length sc)) : Calls Try.prog 72 #[ptr b] w fun e w' => e = .returned (.int .i64 (tot ls : Nat)) ∧ w = w' := by
  have Hr := Lib.hid hr; clear hr
  have Hn := Lib.hid hn; clear hn
  have Ht := Lib.hid ht; clear ht
  have h0 : (0 : Int) < (n : Int) := by omega
  go_enter Try.func72, Try.ntmps72
  go_wp2_with (go_at_call 71; refine (rvalid_at b _ _ _ _ c0 hp).mono ?_; rintro e w' ⟨rfl, rfl⟩)
  go_loop [3, 4] (fun t i => ∃ k s : Nat, k ≤ n ∧ i = .int .i64 k ∧ t = .int .i64 s ∧ Hid (s = tot (ls.take k))) (fun _ i => n - (intOf i).toNat)
  case atStart => exact ⟨0, 0, Nat.zero_le _, rfl, rfl, Lib.hid rfl⟩
  case round =>
    obtain ⟨k, s, hk, rfl, rfl, hs⟩ := hrel
    by_cases hlt : k < n
    · obtain ⟨so, sc, cj⟩ := Hr.out k hlt
      have hkl : k < ls.length := by have := Hn.out; omega
      have hsucc := take_tot_succ hkl
      have hle := take_tot_le ls k hkl
      have hs10 : s + (ls.getD k []).length ≤ 10000 := by have := Ht.out; have := hs.out; omega
      generalize (ls.getD k []).length = q at *
      have Hsucc := Lib.hid hsucc; clear hsucc hle
      have hk0 : (0 : Int) ≤ (k : Int) := by omega
      have hkn : (k : Int) < (n : Int) := by omega
      go_wp2
      go_round
      case rel => exact ⟨k + 1, s + q, by omega, by go_num, by go_num, Lib.hid (by rw [Hsucc.out, hs.out])⟩
      case measure => simp [intOf]; omega
    · obtain rfl : n = k := by omega
      have hall : s = tot ls := by rw [hs.out, List.take_of_length_le (by rw [Hn.out]; exact Nat.le_refl _)]
      have Hall := Lib.hid hall; clear hall
      go_wp2
      go_ret
      exact ⟨by rw [Hall.out]; rfl, rfl⟩
theorem SR.used (l1 : List Thing) {l2 : List Thing} (n : Int) (h : St w0 w (l1 ++ RH b lim ls :: l2)) (hn : (tot ls : Int) = n) (hf : ls.length ≤ 1000000) : Calls Try.prog 72 #[ptr b] w fun e w' => e = .returned (.int .i64 n) ∧ w = w' := by
  subst hn
  obtain ⟨u, vs, h1, h2, h3, hS⟩ := (h.up l1).rOpen
  obtain ⟨g, c, rfl, _⟩ := hS.vShape [_] h1
  exact rused_at b ls.length c g w ls rfl h1 hf (by omega) (hS.cell [] 0 _ rfl) fun j hj => by
    obtain ⟨so, sc, _, h⟩ := hS.vCell [_] j hj
    exact ⟨so, sc, h⟩
end

end Go.Proofs.Ytjganbcolaakkaa
