/-
  Things in memory, each with its blocks, apart from one another; the rule of the frame.
-/
import Derived.Test.YtjganbcolaakkaaBase
namespace Go.Proofs.Ytjganbcolaakkaa
open Go.RowKit

abbrev Fp : Type := Nat → Prop
abbrev Thing : Type := World → Fp → Prop

class Good (A : Thing) : Prop where
  kept : ∀ {w w' : World} {F S : Fp}, A w F → Upto S w w' → (∀ k, F k → ¬ S k) → A w' F
  lt : ∀ {w : World} {F : Fp}, A w F → ∀ k, F k → k < w.heap.size

def All : List Thing → Thing
  | [] => fun _ F => ∀ k, ¬ F k
  | A :: l => fun w F => ∃ F1 F2, A w F1 ∧ All l w F2 ∧ (∀ k, F1 k → ¬ F2 k) ∧ ∀ k, F k ↔ F1 k ∨ F2 k

class Goods (l : List Thing) : Prop where
  all : ∀ A ∈ l, Good A
instance : Goods [] := ⟨fun _ h => by cases h⟩
instance {A : Thing} {l : List Thing} [h : Good A] [k : Goods l] : Goods (A :: l) := ⟨fun B hB => by
  rcases List.mem_cons.1 hB with rfl | hB
  · exact h
  · exact k.all B hB⟩
instance {l l' : List Thing} [h : Goods l] [k : Goods l'] : Goods (l ++ l') := ⟨fun B hB => by
  rcases List.mem_append.1 hB with hB | hB
  · exact h.all B hB
  · exact k.all B hB⟩
instance {l l' : List Thing} [h : Goods l] [k : Goods l'] : Goods (List.append l l') := (inferInstance : Goods (l ++ l'))

theorem All.kept {w w' : World} {S : Fp} : ∀ {l : List Thing} {F : Fp}, Goods l → All l w F → Upto S w w' → (∀ k, F k → ¬ S k) → All l w' F
  | [], F, _, h, _, _ => h
  | A :: l, F, g, ⟨F1, F2, h1, h2, h3, h4⟩, hu, hd =>
    ⟨F1, F2, (g.all A (by simp)).kept h1 hu (fun k hk => hd k ((h4 k).2 (Or.inl hk))), All.kept ⟨fun B hB => g.all B (by simp [hB])⟩ h2 hu (fun k hk => hd k ((h4 k).2 (Or.inr hk))), h3, h4⟩
theorem All.lt {w : World} : ∀ {l : List Thing} {F : Fp}, Goods l → All l w F → ∀ k, F k → k < w.heap.size
  | [], F, _, h, k, hk => (h k hk).elim
  | A :: l, F, g, ⟨F1, F2, h1, h2, _, h4⟩, k, hk => by
    rcases (h4 k).1 hk with hk | hk
    · exact (g.all A (by simp)).lt h1 k hk
    · exact All.lt ⟨fun B hB => g.all B (by simp [hB])⟩ h2 k hk
instance {l : List Thing} [g : Goods l] : Good (All l) := ⟨fun h hu hd => h.kept g hu hd, fun h => h.lt g⟩

theorem All.perm {w : World} {l l' : List Thing} (h : l.Perm l') : ∀ {F : Fp}, All l w F → All l' w F := by
  induction h with
  | nil => exact fun h => h
  | cons A _ ih =>
    rintro F ⟨F1, F2, h1, h2, h3, h4⟩
    exact ⟨F1, F2, h1, ih h2, h3, h4⟩
  | swap A B l =>
    rintro F ⟨F1, F2, h1, ⟨F3, F4, k1, k2, k3, k4⟩, h3, h4⟩
    refine ⟨F3, fun k => F1 k ∨ F4 k, k1, ⟨F1, F4, h1, k2, fun k hk hk' => h3 k hk ((k4 k).2 (Or.inr hk')), fun _ => Iff.rfl⟩, fun k hk hk' => ?_, fun k => ?_⟩
    · rcases hk' with hk' | hk'
      · exact h3 k hk' ((k4 k).2 (Or.inl hk))
      · exact k3 k hk hk'
    · rw [h4, k4]
      constructor
      · rintro (h | h | h)
        · exact Or.inr (Or.inl h)
        · exact Or.inl h
        · exact Or.inr (Or.inr h)
      · rintro (h | h | h)
        · exact Or.inr (Or.inl h)
        · exact Or.inl h
        · exact Or.inr (Or.inr h)
  | trans _ _ h1 h2 => exact fun h => h2 (h1 h)

/-- A step that turns the blocks F of a thing, and makes new ones. -/
def Turned (A : Thing) (w : World) (F : Fp) (w' : World) : Prop := ∃ F', A w' F' ∧ Upto F w w' ∧ ∀ k, F' k → F k ∨ w.heap.size ≤ k

theorem All.open {w : World} {F : Fp} {A : Thing} (l1 : List Thing) {l2 : List Thing} (h : All (l1 ++ A :: l2) w F) : ∃ F1, A w F1 ∧ ∀ k, F1 k → F k := by
  obtain ⟨F1, F2, h1, h2, h3, h4⟩ := All.perm List.perm_middle h
  exact ⟨F1, h1, fun k hk => (h4 k).2 (Or.inl hk)⟩
theorem All.focus {w : World} {F : Fp} {A : Thing} (l1 : List Thing) {l2 : List Thing} [g1 : Goods l1] [g2 : Goods l2] (h : All (l1 ++ A :: l2) w F) :
    ∃ F1, A w F1 ∧ (∀ k, F1 k → F k) ∧ ∀ (w' : World) (A' : Thing), Turned A' w F1 w' → Turned (All (l1 ++ A' :: l2)) w F w' := by
  obtain ⟨F1, F2, h1, h2, h3, h4⟩ := All.perm List.perm_middle h
  have gs : Goods (l1 ++ l2) := inferInstance
  refine ⟨F1, h1, fun k hk => (h4 k).2 (Or.inl hk), fun w' A' ⟨F', t1, t2, t3⟩ => ⟨fun k => F' k ∨ F2 k, All.perm List.perm_middle.symm ⟨F', F2, t1, All.kept gs h2 t2 (fun k hk hk' => h3 k hk' hk), fun k hk hk' => ?_, fun _ => Iff.rfl⟩, t2.mono (fun k _ hk => (h4 k).2 (Or.inl hk)), fun k hk => ?_⟩⟩
  · rcases t3 k hk with hk | hk
    · exact h3 k hk hk'
    · have := All.lt gs h2 k hk'; omega
  · rcases hk with hk | hk
    · exact (t3 k hk).imp (fun h => (h4 k).2 (Or.inl h)) id
    · exact Or.inl ((h4 k).2 (Or.inr hk))
theorem Turned.of_upto {A : Thing} [g : Good A] {w w' : World} {F : Fp} (h : A w F) (hu : Upto (fun _ => False) w w') : Turned A w F w' :=
  ⟨F, g.kept h hu (fun _ _ => id), hu.mono (fun _ _ h => h.elim), fun _ h => Or.inl h⟩

/-- Things made since w0; what was there then is as it was. -/
def St (w0 w : World) (l : List Thing) : Prop := ∃ F, All l w F ∧ (∀ k, F k → w0.heap.size ≤ k) ∧ Below w0.heap.size w0 w

section
variable {w0 w w' : World} {A : Thing} {l l2 : List Thing}
theorem St.base (h : St w0 w l) : Below w0.heap.size w0 w := by obtain ⟨_, _, _, h⟩ := h; exact h
theorem St.nil (w : World) : St w w [] := ⟨fun _ => False, fun _ => id, fun _ h => h.elim, Below.refl _ _⟩
theorem St.nil_of (h : Below w0.heap.size w0 w) : St w0 w [] := ⟨fun _ => False, fun _ => id, fun _ h => h.elim, h⟩
theorem St.perm {l' : List Thing} (h : St w0 w l) (hp : l.Perm l') : St w0 w l' := by
  obtain ⟨F, h1, h2, h3⟩ := h
  exact ⟨F, All.perm hp h1, h2, h3⟩
theorem St.up (l1 : List Thing) (h : St w0 w (l1 ++ A :: l2)) : St w0 w (A :: (l1 ++ l2)) := h.perm List.perm_middle
theorem St.down (l1 : List Thing) (h : St w0 w (A :: (l1 ++ l2))) : St w0 w (l1 ++ A :: l2) := h.perm List.perm_middle.symm
theorem St.tail (h : St w0 w (A :: l)) : St w0 w l := by
  obtain ⟨F, ⟨F1, F2, h1, h2, h3, h4⟩, h5, h6⟩ := h
  exact ⟨F2, h2, fun k hk => h5 k ((h4 k).2 (Or.inr hk)), h6⟩
theorem St.drop (l1 : List Thing) (h : St w0 w (l1 ++ A :: l2)) : St w0 w (l1 ++ l2) := (h.up l1).tail
theorem St.step [g : Goods l] (h : St w0 w l) (hu : Upto (fun _ => False) w w') : St w0 w' l := by
  obtain ⟨F, h1, h2, h3⟩ := h
  exact ⟨F, h1.kept g hu (fun _ _ => id), h2, Upto.below ((Upto.of_below h3 _).trans hu)⟩
theorem St.get (l1 : List Thing) (h : St w0 w (l1 ++ A :: l2)) : ∃ F, A w F ∧ ∀ k, F k → w0.heap.size ≤ k := by
  obtain ⟨F, h1, h2, h3⟩ := h
  obtain ⟨F1, k1, k2⟩ := h1.open l1
  exact ⟨F1, k1, fun k hk => h2 k (k2 k hk)⟩
/-- What a step may turn. -/
theorem St.turned {F : Fp} {l' : List Thing} (h2 : ∀ k, F k → w0.heap.size ≤ k) (h3 : Below w0.heap.size w0 w) (ht : Turned (All l') w F w') : St w0 w' l' := by
  obtain ⟨F', t1, t2, t3⟩ := ht
  refine ⟨F', t1, fun k hk => (t3 k hk).elim (h2 k) (Nat.le_trans h3.size), Upto.below ((Upto.of_below h3 _).step t2 fun i hi hF => ?_)⟩
  have := h2 i hF
  omega
theorem St.focus (l1 : List Thing) [Goods l1] [Goods l2] (h : St w0 w (l1 ++ A :: l2)) : ∃ F, A w F ∧ (∀ k, F k → w0.heap.size ≤ k) ∧ ∀ (w' : World) (A' : Thing), Turned A' w F w' → St w0 w' (l1 ++ A' :: l2) := by
  obtain ⟨F, h1, h2, h3⟩ := h
  obtain ⟨F1, k1, k2, k3⟩ := h1.focus l1
  exact ⟨F1, k1, fun k hk => h2 k (k2 k hk), fun w' A' ht => St.turned h2 h3 (k3 w' A' ht)⟩
theorem St.fresh [g : Goods l] {G : Fp} (h : St w0 w l) (hA : A w' G) (hG : ∀ k, G k → w.heap.size ≤ k) (hb : Below w.heap.size w w') : St w0 w' (A :: l) := by
  have hu := Upto.of_below hb (fun _ => False)
  obtain ⟨F, h1, h2, h3⟩ := h
  refine ⟨fun k => G k ∨ F k, ⟨G, F, hA, h1.kept g hu (fun _ _ => id), fun k hk hk' => ?_, fun _ => Iff.rfl⟩, fun k hk => ?_, Upto.below ((Upto.of_below h3 _).trans hu)⟩
  · have := hG k hk; have := h1.lt g k hk'; omega
  · rcases hk with hk | hk
    · exact Nat.le_trans h3.size (hG k hk)
    · exact h2 k hk
end

/-- A block that is known whole. -/
def Blk (b : Nat) (o : Obj) : Thing := fun w F => w.heap[b]? = some o ∧ ∀ k, F k ↔ k = b
instance (b : Nat) (o : Obj) : Good (Blk b o) := ⟨fun h hu hd => ⟨(hu.block b (lt_of_block h.1) (hd b ((h.2 b).2 rfl))).trans h.1, h.2⟩, fun h k hk => by
  obtain rfl := (h.2 k).1 hk
  exact lt_of_block h.1⟩

section
variable {w0 w w' : World} {l l2 : List Thing}
theorem St.alloc [g : Goods l] (h : St w0 w l) (o : Obj) : St w0 (w.alloc o) (Blk w.heap.size o :: l) :=
  h.fresh (A := Blk w.heap.size o) (G := fun k => k = w.heap.size) ⟨heap_alloc_new w o, fun _ => Iff.rfl⟩ (fun _ hk => Nat.le_of_eq hk.symm) ((Below.refl _ _).alloc (Nat.le_refl _) _)
theorem St.blk (l1 : List Thing) {b : Nat} {o : Obj} (h : St w0 w (l1 ++ Blk b o :: l2)) : w.heap[b]? = some o := by
  obtain ⟨F, h1, _⟩ := h.get l1
  exact h1.1
theorem St.cell (l1 : List Thing) {b : Nat} {cs : Array Value} {e : TypeId} (h : St w0 w (l1 ++ Blk b (.cells cs e) :: l2)) (i : Nat) (v : Value) (hv : cs[i]? = some v) : w.cell? ⟨b, i, none⟩ = some v := by
  rw [cell_of_row w b i _ e (0, 0) (h.blk l1)]; exact hv
end

/-- A row of numbers, with its block. -/
def RowT (v : Value) (xs : List Int) : Thing := fun w F => Row w v xs ∧ ∀ k, F k ↔ rowOf v k
instance (v : Value) (xs : List Int) : Good (RowT v xs) := ⟨fun h hu hd => ⟨h.1.kept hu (fun k hk => hd k ((h.2 k).2 hk)), h.2⟩, fun h k hk => h.1.lt k ((h.2 k).1 hk)⟩
theorem RowT.of {w : World} {v : Value} {xs : List Int} (h : Row w v xs) : RowT v xs w (rowOf v) := ⟨h, fun _ => Iff.rfl⟩
theorem St.row {w0 w : World} {l2 : List Thing} (l1 : List Thing) {v : Value} {xs : List Int} (h : St w0 w (l1 ++ RowT v xs :: l2)) : Row w v xs := by
  obtain ⟨F, h1, _⟩ := h.get l1
  exact h1.1

/-- A row of values of one cell each. -/
def VRow (w : World) (e : TypeId) (v : Value) (vs : List Value) : Prop := w.ownsRow 0 e 1 v vs.length vs
theorem VRow.lt {w : World} {e : TypeId} {v : Value} {xs : List Value} (h : VRow w e v xs) : ∀ k, rowOf v k → k < w.heap.size := fun k hk => (World.ownsRow.lt h k hk).2
theorem VRow.kept {S : Nat → Prop} {w w' : World} {e : TypeId} {v : Value} {xs : List Value} (h : VRow w e v xs) (hu : Upto S w w') (hd : ∀ k, rowOf v k → ¬ S k) : VRow w' e v xs := by
  refine ⟨h.1, ?_⟩
  rcases h.2 with hn | ⟨g, cap, cur, rfl, hb, hgg, rest⟩
  · exact .inl hn
  · exact .inr ⟨g, cap, cur, rfl, hb, (hu.block g (lt_of_block hgg) (hd g rfl)).trans hgg, rest⟩
def VRowT (e : TypeId) (v : Value) (vs : List Value) : Thing := fun w F => VRow w e v vs ∧ ∀ k, F k ↔ rowOf v k
instance (e : TypeId) (v : Value) (xs : List Value) : Good (VRowT e v xs) := ⟨fun h hu hd => ⟨h.1.kept hu (fun k hk => hd k ((h.2 k).2 hk)), h.2⟩, fun h k hk => h.1.lt k ((h.2 k).1 hk)⟩
theorem VRow.slice {w : World} {e : TypeId} {v : Value} {xs : List Value} (h : VRow w e v xs) : ∃ ao c, v = .slice ao xs.length c ∧ xs.length ≤ c ∧ c ≤ maxLen ∧ (ao = none → xs.length = 0) := by
  rcases h.2 with ⟨rfl, hn⟩ | ⟨g, cap, cur, rfl, _, _, hnc, hcm, _⟩
  · exact ⟨none, 0, by rw [hn], by omega, Nat.zero_le _, fun _ => hn⟩
  · exact ⟨_, _, rfl, hnc, hcm, fun h => by cases h⟩
theorem VRow.open {w : World} {e : TypeId} {v : Value} {xs : List Value} (h : VRow w e v xs) (hp : 0 < xs.length) : ∃ g c, v = .slice (some ⟨g, 0, none⟩) xs.length c ∧ xs.length ≤ c ∧ c ≤ maxLen ∧ g < w.heap.size ∧ ∀ j, j < xs.length → w.cell? ⟨g, j, none⟩ = xs[j]? := by
  rcases id h.2 with ⟨rfl, hn⟩ | ⟨g, cap, cur, rfl, _, hg, hnc, hcm, hcs, htake⟩
  · omega
  · refine ⟨g, cap, rfl, hnc, hcm, lt_of_block hg, fun j hj => ?_⟩
    have h1 := World.ownsRow.cellAt h j (by omega)
    rw [h1]

end Go.Proofs.Ytjganbcolaakkaa
