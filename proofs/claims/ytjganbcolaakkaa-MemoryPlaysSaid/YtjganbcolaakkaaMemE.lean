/-
  The operations of a memory that stands beside other things.
-/
import Derived.Test.YtjganbcolaakkaaSep
import Derived.Test.YtjganbcolaakkaaMCopy
namespace Go.Proofs.Ytjganbcolaakkaa
open Go.RowKit

/-- A memory, as a thing. -/
def MT (b lim : Nat) (cs : List Int) (ss : List (Nat × Nat)) : Thing := fun w F => MPile w b lim cs ss F
instance (b lim : Nat) (cs : List Int) (ss : List (Nat × Nat)) : Good (MT b lim cs ss) := ⟨fun h hu hd => MPile.kept h hu hd, fun h => by obtain ⟨_, _, _, _, _, _, h⟩ := h; exact h⟩
theorem MT.turned {w w' : World} {b lim : Nat} {cs : List Int} {ss : List (Nat × Nat)} {F : Fp} (h : MTurned w b lim cs ss F w') : Turned (MT b lim cs ss) w F w' := by
  obtain ⟨F', h1, h2, h3⟩ := h
  exact ⟨F', h1, h2, h3⟩

section
variable {w0 w : World} {b lim : Nat} {cs : List Int} {ss : List (Nat × Nat)} {l2 : List Thing}
theorem SM.facts (l1 : List Thing) (h : St w0 w (l1 ++ MT b lim cs ss :: l2)) : 0 < ss.length ∧ cs.length ≤ lim ∧ lim ≤ 10000 ∧ (∀ s ∈ ss, s.1 + s.2 ≤ cs.length) ∧ ss.length ≤ 1000000000 := by
  obtain ⟨F, hA, _⟩ := h.get l1
  exact MPile.facts hA
theorem SM.count (l1 : List Thing) (n : Int) (h : St w0 w (l1 ++ MT b lim cs ss :: l2)) (hn : (ss.length : Int) - 1 = n) : Calls Try.prog 19 #[ptr b] w fun e w' => e = .returned (.int .i64 n) ∧ w = w' := by
  subst hn
  obtain ⟨F, hA, _⟩ := h.get l1
  exact MPile.count hA
theorem SM.limit (l1 : List Thing) (n : Int) (h : St w0 w (l1 ++ MT b lim cs ss :: l2)) (hn : (lim : Int) = n) : Calls Try.prog 44 #[ptr b] w fun e w' => e = .returned (.int .i64 n) ∧ w = w' := by
  subst hn
  obtain ⟨F, hA, _⟩ := h.get l1
  exact MPile.limit hA
theorem SM.spanOut (l1 : List Thing) (i : Int) (h : St w0 w (l1 ++ MT b lim cs ss :: l2)) (hi : i < 0 ∨ (ss.length : Int) ≤ i) : Calls Try.prog 17 #[ptr b, .int .i64 i] w fun e w' =>
    e = .returned (.tuple #[.int .i64 0, .int .i64 0, .int .i64 3]) ∧ w = w' := by
  obtain ⟨F, hA, _⟩ := h.get l1
  exact MPile.spanOut i hA hi
end

section
variable {w0 w w' : World} {b lim : Nat} {cs : List Int} {ss : List (Nat × Nat)} {l2 : List Thing} [Goods l2]
theorem SM.span (l1 : List Thing) [Goods l1] (j : Nat) (i f l : Int) (h : St w0 w (l1 ++ MT b lim cs ss :: l2)) (hi : i = j) (hj : j < ss.length) (hf : ((ss.getD j (0, 0)).1 : Int) = f) (hl : ((ss.getD j (0, 0)).2 : Int) = l) : Calls Try.prog 17 #[ptr b, .int .i64 i] w fun e w' =>
    e = .returned (.tuple #[.int .i64 f, .int .i64 l, .int .i64 0]) ∧ St w0 w' (l1 ++ MT b lim cs ss :: l2) := by
  subst hi hf hl
  obtain ⟨F, hA, _⟩ := h.get l1
  exact (MPile.span j hA hj).mono fun _ _ ⟨h1, h2⟩ => ⟨h1, h.step h2⟩
theorem SM.len (l1 : List Thing) [Goods l1] (j : Nat) (i l : Int) (h : St w0 w (l1 ++ MT b lim cs ss :: l2)) (hi : i = j) (hj : j < ss.length) (hl : ((ss.getD j (0, 0)).2 : Int) = l) : Calls Try.prog 24 #[ptr b, .int .i64 i] w fun e w' =>
    e = .returned (.tuple #[.int .i64 l, .int .i64 0]) ∧ St w0 w' (l1 ++ MT b lim cs ss :: l2) := by
  subst hi hl
  obtain ⟨F, hA, _⟩ := h.get l1
  exact (MPile.len j hA hj).mono fun _ _ ⟨h1, h2⟩ => ⟨h1, h.step h2⟩
theorem SM.lenOut (l1 : List Thing) [Goods l1] (i : Int) (h : St w0 w (l1 ++ MT b lim cs ss :: l2)) (hi : i < 0 ∨ (ss.length : Int) ≤ i) : Calls Try.prog 24 #[ptr b, .int .i64 i] w fun e w' =>
    e = .returned (.tuple #[.int .i64 0, .int .i64 3]) ∧ St w0 w' (l1 ++ MT b lim cs ss :: l2) := by
  obtain ⟨F, hA, _⟩ := h.get l1
  exact (MPile.lenOut i hA hi).mono fun _ _ ⟨h1, h2⟩ => ⟨h1, h.step h2⟩
theorem SM.load (l1 : List Thing) [Goods l1] (j k : Nat) (i i' x : Int) (h : St w0 w (l1 ++ MT b lim cs ss :: l2)) (hi : i = j) (hi' : i' = k) (hj : j < ss.length) (hk : k < (ss.getD j (0, 0)).2) (hx : cs.getD ((ss.getD j (0, 0)).1 + k) 0 = x) : Calls Try.prog 22 #[ptr b, .int .i64 i, .int .i64 i'] w fun e w' =>
    e = .returned (.tuple #[.int .i64 x, .int .i64 0, .int .i64 0]) ∧ St w0 w' (l1 ++ MT b lim cs ss :: l2) := by
  subst hi hi' hx
  obtain ⟨F, hA, _⟩ := h.get l1
  exact (MPile.load j k hA hj hk).mono fun _ _ ⟨h1, h2⟩ => ⟨h1, h.step h2⟩
theorem SM.loadTrap (l1 : List Thing) [Goods l1] (j : Nat) (i i' : Int) (h : St w0 w (l1 ++ MT b lim cs ss :: l2)) (hi : i = j) (hj : j < ss.length) (hk : i' < 0 ∨ ((ss.getD j (0, 0)).2 : Int) ≤ i') : Calls Try.prog 22 #[ptr b, .int .i64 i, .int .i64 i'] w fun e w' =>
    e = .returned (.tuple #[.int .i64 0, .int .i64 2, .int .i64 0]) ∧ St w0 w' (l1 ++ MT b lim cs ss :: l2) := by
  subst hi
  obtain ⟨F, hA, _⟩ := h.get l1
  exact (MPile.loadTrap j i' hA hj hk).mono fun _ _ ⟨h1, h2⟩ => ⟨h1, h.step h2⟩
theorem SM.loadOut (l1 : List Thing) [Goods l1] (i i' : Int) (h : St w0 w (l1 ++ MT b lim cs ss :: l2)) (hi : i < 0 ∨ (ss.length : Int) ≤ i) : Calls Try.prog 22 #[ptr b, .int .i64 i, .int .i64 i'] w fun e w' =>
    e = .returned (.tuple #[.int .i64 0, .int .i64 0, .int .i64 3]) ∧ St w0 w' (l1 ++ MT b lim cs ss :: l2) := by
  obtain ⟨F, hA, _⟩ := h.get l1
  exact (MPile.loadOut i i' hA hi).mono fun _ _ ⟨h1, h2⟩ => ⟨h1, h.step h2⟩
theorem SM.store (l1 : List Thing) [Goods l1] (j k : Nat) (i i' z : Int) (cs' : List Int) (h : St w0 w (l1 ++ MT b lim cs ss :: l2)) (hi : i = j) (hi' : i' = k) (hj : j < ss.length) (hk : k < (ss.getD j (0, 0)).2) (hcs : cs.set ((ss.getD j (0, 0)).1 + k) z = cs') : Calls Try.prog 23 #[ptr b, .int .i64 i, .int .i64 i', .int .i64 z] w fun e w' =>
    e = .returned (.tuple #[.int .i64 0, .int .i64 0]) ∧ St w0 w' (l1 ++ MT b lim cs' ss :: l2) := by
  subst hi hi' hcs
  obtain ⟨F, hA, _, close⟩ := h.focus l1
  exact (MPile.store j k z hA hj hk).mono fun _ w' ⟨h1, h2⟩ => ⟨h1, close w' _ (MT.turned h2)⟩
theorem SM.storeTrap (l1 : List Thing) [Goods l1] (j : Nat) (i i' z : Int) (h : St w0 w (l1 ++ MT b lim cs ss :: l2)) (hi : i = j) (hj : j < ss.length) (hk : i' < 0 ∨ ((ss.getD j (0, 0)).2 : Int) ≤ i') : Calls Try.prog 23 #[ptr b, .int .i64 i, .int .i64 i', .int .i64 z] w fun e w' =>
    e = .returned (.tuple #[.int .i64 2, .int .i64 0]) ∧ St w0 w' (l1 ++ MT b lim cs ss :: l2) := by
  subst hi
  obtain ⟨F, hA, _⟩ := h.get l1
  exact (MPile.storeTrap j i' z hA hj hk).mono fun _ _ ⟨h1, h2⟩ => ⟨h1, h.step h2⟩
theorem SM.storeOut (l1 : List Thing) [Goods l1] (i i' z : Int) (h : St w0 w (l1 ++ MT b lim cs ss :: l2)) (hi : i < 0 ∨ (ss.length : Int) ≤ i) : Calls Try.prog 23 #[ptr b, .int .i64 i, .int .i64 i', .int .i64 z] w fun e w' =>
    e = .returned (.tuple #[.int .i64 0, .int .i64 3]) ∧ St w0 w' (l1 ++ MT b lim cs ss :: l2) := by
  obtain ⟨F, hA, _⟩ := h.get l1
  exact (MPile.storeOut i i' z hA hi).mono fun _ _ ⟨h1, h2⟩ => ⟨h1, h.step h2⟩
theorem SM.alloc (l1 : List Thing) [Goods l1] (n : Nat) (i m : Int) (h : St w0 w (l1 ++ MT b lim cs ss :: l2)) (hi : i = n) (hn : cs.length + n ≤ lim) (hf : ss.length ≤ 1000000) (hm : (ss.length : Int) = m) : Calls Try.prog 16 #[ptr b, .int .i64 i] w fun e w' =>
    e = .returned (.tuple #[.int .i64 m, .int .i64 0, .int .i64 0]) ∧ St w0 w' (l1 ++ MT b lim (cs ++ List.replicate n 0) (ss ++ [(cs.length, n)]) :: l2) := by
  subst hi hm
  obtain ⟨F, hA, _, close⟩ := h.focus l1
  exact (MPile.alloc n hA hn hf).mono fun _ w' ⟨h1, h2⟩ => ⟨h1, close w' _ (MT.turned h2)⟩
theorem SM.allocTrap (l1 : List Thing) [Goods l1] (n : Int) (h : St w0 w (l1 ++ MT b lim cs ss :: l2)) (hn : n < 0 ∨ (lim : Int) - cs.length < n) : Calls Try.prog 16 #[ptr b, .int .i64 n] w fun e w' =>
    e = .returned (.tuple #[.int .i64 0, .int .i64 5, .int .i64 0]) ∧ St w0 w' (l1 ++ MT b lim cs ss :: l2) := by
  obtain ⟨F, hA, _⟩ := h.get l1
  exact (MPile.allocTrap n hA hn).mono fun _ _ ⟨h1, h2⟩ => ⟨h1, h.step h2⟩
theorem SM.cells (l1 : List Thing) [Goods l1] (h : St w0 w (l1 ++ MT b lim cs ss :: l2)) : Calls Try.prog 18 #[ptr b] w fun e w' =>
    ∃ u, e = .returned u ∧ St w0 w' (RowT u cs :: (l1 ++ MT b lim cs ss :: l2)) := by
  obtain ⟨F, hA, _⟩ := h.get l1
  exact (MPile.cells hA).mono fun _ _ ⟨u, h1, h2⟩ => ⟨u, h1, h.fresh (RowT.of h2.1) h2.2.1 h2.2.2⟩
theorem SM.copy (l1 : List Thing) [Goods l1] (h : St w0 w (l1 ++ MT b lim cs ss :: l2)) : Calls Try.prog 21 #[ptr b] w fun e w' =>
    ∃ d, e = .returned (ptr d) ∧ St w0 w' (MT d lim cs ss :: (l1 ++ MT b lim cs ss :: l2)) := by
  obtain ⟨F, hA, _⟩ := h.get l1
  exact (MPile.copy hA).mono fun _ _ ⟨d, G, h1, h2, h3, h4⟩ => ⟨d, h1, h.fresh (A := MT d lim cs ss) h2 h3 h4⟩
end
theorem SM.new {w0 w : World} {l : List Thing} [Goods l] (n : Nat) (i : Int) (h : St w0 w l) (hi : i = n) (hn : n ≤ 10000) : Calls Try.prog 15 #[.int .i64 i] w fun e w' =>
    ∃ b, e = .returned (.tuple #[ptr b, .int .i64 0]) ∧ St w0 w' (MT b n [] [(0, 0)] :: l) := by
  subst hi
  exact (mnew_pile n w hn).mono fun _ _ ⟨b, F, h1, h2, h3, h4⟩ => ⟨b, h1, h.fresh (A := MT b n [] [(0, 0)]) h2 h3 h4⟩
/-- Same, over two of the things (they may be one). -/
theorem SM.same {w0 w : World} {b b' lim : Nat} {cs cs' : List Int} {ss ss' : List (Nat × Nat)} {l : List Thing} [Goods l] (r : Bool) (h : St w0 w l) (h1 : ∃ F, MPile w b lim cs ss F) (h2 : ∃ F, MPile w b' lim cs' ss' F) (hr : (decide (cs = cs') && decide (ss = ss')) = r) : Calls Try.prog 25 #[ptr b, ptr b'] w fun e w' =>
    e = .returned (.bool r) ∧ St w0 w' l := by
  subst hr
  obtain ⟨F, h1⟩ := h1
  obtain ⟨G, h2⟩ := h2
  exact (MPile.same h1 h2).mono fun _ _ ⟨h3, h4⟩ => ⟨h3, h.step h4⟩
theorem SM.is {w0 w : World} {b lim : Nat} {cs : List Int} {ss : List (Nat × Nat)} {l2 : List Thing} (l1 : List Thing) (h : St w0 w (l1 ++ MT b lim cs ss :: l2)) : ∃ F, MPile w b lim cs ss F := by
  obtain ⟨F, hA, _⟩ := h.get l1
  exact ⟨F, hA⟩

end Go.Proofs.Ytjganbcolaakkaa
