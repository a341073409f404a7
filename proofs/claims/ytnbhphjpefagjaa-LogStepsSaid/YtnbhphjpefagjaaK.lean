/- Plain facts on worlds: what a call keeps (no program in sight). -/
import Derived.WalkKit
import Derived.WalkSpells
import Derived.WalkLawsBesides
import Derived.BigQuiet
import Derived.Deep.QuietTactic
namespace Go.Proofs.Ytnbhphjpefagjaa
open Go.RowKit

theorem hid {p : Prop} (h : p) : Hid p := h

/-- Outside the blocks of S (and new ones) the world w' is as w was. -/
structure Keeps (S : Nat → Prop) (w w' : World) : Prop where
  os : w'.os = w.os
  tape : w'.tape = w.tape
  output : w'.output = w.output
  size : w.heap.size ≤ w'.heap.size
  block : ∀ k, k < w.heap.size → ¬ S k → w'.heap[k]? = w.heap[k]?

/-- No block. -/
def No : Nat → Prop := fun _ => False

theorem Keeps.refl (S : Nat → Prop) (w : World) : Keeps S w w := ⟨rfl, rfl, rfl, Nat.le_refl _, fun _ _ _ => rfl⟩

theorem Keeps.trans' {S S' T : Nat → Prop} {a b c : World} (h : Keeps S a b) (k : Keeps S' b c) (hs : ∀ i, S i → T i) (hs' : ∀ i, i < a.heap.size → S' i → T i) : Keeps T a c :=
  ⟨k.os.trans h.os, k.tape.trans h.tape, k.output.trans h.output, Nat.le_trans h.size k.size,
    fun i hi hn => (k.block i (Nat.lt_of_lt_of_le hi h.size) (fun e => hn (hs' i hi e))).trans (h.block i hi (fun e => hn (hs i e)))⟩

theorem Keeps.trans {S : Nat → Prop} {a b c : World} (h : Keeps S a b) (k : Keeps S b c) : Keeps S a c := h.trans' k (fun _ h => h) (fun _ _ h => h)

theorem Keeps.mono {S T : Nat → Prop} {a b : World} (h : Keeps S a b) (hs : ∀ i, S i → T i) : Keeps T a b :=
  ⟨h.os, h.tape, h.output, h.size, fun i hi hn => h.block i hi (fun e => hn (hs i e))⟩

theorem Keeps.of_no {T : Nat → Prop} {a b : World} (h : Keeps No a b) : Keeps T a b := h.mono (fun _ e => e.elim)

theorem Keeps.drew {S : Nat → Prop} {a w : World} (h : Keeps S a w) : Keeps S a w.drew := ⟨h.os, h.tape, h.output, h.size, h.block⟩
theorem Keeps.drewN {S : Nat → Prop} {a w : World} (h : Keeps S a w) (n : Nat) : Keeps S a (w.drewN n) := ⟨h.os, h.tape, h.output, h.size, h.block⟩

theorem Keeps.alloc {S : Nat → Prop} {a w : World} (h : Keeps S a w) (o : Obj) : Keeps S a (w.alloc o) :=
  ⟨h.os, h.tape, h.output, by have := h.size; simp; omega, fun k hk hn => (Below.heap_alloc _ _ _ (by have := h.size; omega)).trans (h.block k hk hn)⟩

theorem Keeps.setCell {S : Nat → Prop} {a w : World} (h : Keeps S a w) {p : Addr} (hp : S p.block ∨ a.heap.size ≤ p.block) (u : Value) : Keeps S a (w.setCell p u) :=
  ⟨h.os, h.tape, h.output, by have := h.size; simp; omega, fun k hk hn => (Below.heap_setCell _ _ _ _ (by rintro rfl; rcases hp with hp | hp; exact hn hp; omega)).trans (h.block k hk hn)⟩

theorem Keeps.grown {S : Nat → Prop} {a w w' : World} {row : Option Nat} (h : Keeps S a w) (hg : w.grownBy w' row) (hr : ∀ k, row = some k → S k ∨ a.heap.size ≤ k) : Keeps S a w' :=
  ⟨hg.os.trans h.os, hg.tape.trans h.tape, hg.output.trans h.output, Nat.le_trans h.size hg.size,
    fun k hk hn => (hg.block k (Nat.lt_of_lt_of_le hk h.size) (by intro e; rcases hr k e.symm with e | e; exact hn e; omega)).trans (h.block k hk hn)⟩

theorem Keeps.cell {S : Nat → Prop} {w w' : World} (h : Keeps S w w') {p : Addr} (hl : p.block < w.heap.size) (hp : ¬ S p.block) : w'.cell? p = w.cell? p := World.cell?_of_block (w := w) (h.block p.block hl hp)
theorem Keeps.cellS {S : Nat → Prop} {w w' : World} {v : Value} (h : Keeps S w w') {p : Addr} (hc : w.cell? p = some v) (hp : ¬ S p.block) : w'.cell? p = some v := (h.cell (World.block_lt_of_cell? _ _ hc) hp).trans hc
theorem Keeps.frozen {S : Nat → Prop} {w w' : World} (h : Keeps S w w') {p : Addr} (hl : p.block < w.heap.size) (hp : ¬ S p.block) : w'.frozen? p = w.frozen? p := World.frozen?_of_block (w := w) (h.block p.block hl hp)

theorem Keeps.row {S : Nat → Prop} {w w' : World} (h : Keeps S w w') {base : Nat} {e : TypeId} {size : Nat} {v : Value} {n : Nat} {xs : List Value} (hr : w.ownsRow base e size v n xs) (hv : ∀ k, v.ownBlock = some k → ¬ S k) : w'.ownsRow base e size v n xs := by
  refine ⟨hr.1, ?_⟩
  rcases hr.2 with hn | ⟨g, cap, cur, rfl, hb, hgg, rest⟩
  · exact .inl hn
  · exact .inr ⟨g, cap, cur, rfl, hb, (h.block g (Array.getElem?_eq_some_iff.1 hgg).1 (hv g rfl)).trans hgg, rest⟩

theorem Keeps.below {w w' : World} (h : Keeps No w w') : Below w.heap.size w w' := ⟨h.os, h.tape, h.output, h.size, fun k hk => h.block k hk (fun e => e)⟩
theorem Keeps.belowS {S : Nat → Prop} {w w' : World} {B : Nat} (h : Keeps S w w') (hB : B ≤ w.heap.size) (hS : ∀ k, S k → B ≤ k) : Below B w w' := ⟨h.os, h.tape, h.output, h.size, fun k hk => h.block k (by omega) (fun e => by have := hS k e; omega)⟩

/-- The address a of a slice of the numbers l. -/
def NumsAt (k : IntKind) (w : World) (a : Option Addr) (l : List Int) : Prop :=
  l = [] ∨ ∃ g off, a = some ⟨g, off, none⟩ ∧ ∀ j, j < l.length → w.cell? ⟨g, off + j, none⟩ = some (.int k (l[j]?.getD 0))

theorem NumsAt.nil (k : IntKind) (w : World) (a : Option Addr) : NumsAt k w a [] := .inl rfl

theorem NumsAt.keep {k : IntKind} {S : Nat → Prop} {w w' : World} {a : Option Addr} {l : List Int} (h : Keeps S w w') (hi : NumsAt k w a l) (ha : ∀ p, a = some p → ¬ S p.block) : NumsAt k w' a l := by
  rcases hi with rfl | ⟨g, off, rfl, hc⟩
  · exact .inl rfl
  · exact .inr ⟨g, off, rfl, fun j hj => h.cellS (p := ⟨g, off + j, none⟩) (hc j hj) (ha ⟨g, off, none⟩ rfl)⟩

theorem ownsRow_nums {k : IntKind} {w : World} {base : Nat} {e : TypeId} {a : Option Addr} {n cap m : Nat} {l : List Int} (h : w.ownsRow base e 1 (.slice a n cap) m (l.map (Value.int k))) : NumsAt k w a l ∧ l.length = m ∧ n = m := by
  obtain ⟨h1, h2⟩ := h
  have hl : l.length = m := by simpa using h1
  rcases h2 with ⟨hv, hn⟩ | ⟨g, cap', cur, hv, hb, hg, hnc, hcm, hcs, ht⟩
  · subst hn
    cases hv
    exact ⟨.inl (List.eq_nil_of_length_eq_zero hl), hl, rfl⟩
  · cases hv
    refine ⟨.inr ⟨g, 0, rfl, fun j hj => ?_⟩, hl, rfl⟩
    rw [Nat.zero_add, cell_of_row w g j cur e (0, 0) hg]
    have hj2 : (l.map (Value.int k))[j]? = some (.int k (l[j]?.getD 0)) := by simp [hj]
    rw [← ht, List.getElem?_take] at hj2
    split at hj2
    · simpa using hj2
    · cases hj2

theorem heap_setCell_row {w : World} {g i : Nat} {v : Value} {cur : Array Value} {e : TypeId} {f : Nat × Nat} (h : w.heap[g]? = some (.cells cur e f)) : (w.setCell ⟨g, i, none⟩ v).heap[g]? = some (.cells (cur.setIfInBounds i v) e f) := by
  simp only [World.setCell, Array.getElem?_modify, if_true, h, Option.map_some]
  rfl

theorem heap_setCells_row {g : Nat} {e : TypeId} {f : Nat × Nat} (vs : List Value) : ∀ (o : Nat) (w : World) (cur : Array Value), w.heap[g]? = some (.cells cur e f) → ∃ cur', (w.setCells g o vs).heap[g]? = some (.cells cur' e f) ∧ cur'.size = cur.size := by
  induction vs with
  | nil => intro o w cur h; exact ⟨cur, h, rfl⟩
  | cons v vs ih =>
    intro o w cur h
    obtain ⟨c, h1, h2⟩ := ih (o + 1) _ _ (heap_setCell_row (i := o) (v := v) h)
    exact ⟨c, h1, by simpa using h2⟩

theorem Keeps.setCells {S : Nat → Prop} {a : World} {g : Nat} (hg : S g ∨ a.heap.size ≤ g) (vs : List Value) : ∀ (o : Nat) {w : World}, Keeps S a w → Keeps S a (w.setCells g o vs) := by
  induction vs with
  | nil => intro o w h; exact h
  | cons v vs ih => intro o w h; exact ih (o + 1) (h.setCell (p := ⟨g, o, none⟩) hg v)

/-- A block whose first cells read as the numbers l is a row of them. -/
theorem row_of_cells {k : IntKind} {w : World} {B g cap : Nat} {cur : Array Value} {e : TypeId} {l : List Int} (hB : B ≤ g) (h : w.heap[g]? = some (.cells cur e (0, 0))) (hs : cur.size = cap) (hl : l.length ≤ cap) (hm : cap ≤ maxLen)
    (hc : ∀ j, j < l.length → w.cell? ⟨g, j, none⟩ = some (.int k (l[j]?.getD 0))) : w.ownsRow B e 1 (.slice (some ⟨g, 0, none⟩) l.length cap) l.length (l.map (Value.int k)) := by
  refine ⟨by simp, .inr ⟨g, cap, cur, rfl, hB, h, hl, hm, by simp [hs], ?_⟩⟩
  apply List.ext_getElem?
  intro j
  rw [List.getElem?_take]
  split
  · rename_i hj
    rw [Nat.mul_one] at hj
    have := hc j hj
    rw [cell_of_row w g j cur e (0, 0) h] at this
    rw [Array.getElem?_toList, this]
    simp [hj]
  · rename_i hj
    rw [Nat.mul_one] at hj
    have : (l.map (Value.int k))[j]? = none := by simp; omega
    rw [this]

theorem Keeps.set_at (w : World) (b i : Nat) (v : Value) : Keeps (fun k => k = b) w (w.setCell ⟨b, i, none⟩ v) := Keeps.setCell (S := fun k => k = b) (p := ⟨b, i, none⟩) (Keeps.refl _ w) (.inl rfl) v

theorem new_one (W : World) (v : Value) (e : TypeId) : ∀ j u, [v][j]? = some u → (W.alloc (.cells #[v] e)).cell? ((⟨W.heap.size, 0, none⟩ : Addr).add j) = some u := by
  intro j u hu
  match j, hu with
  | 0, hu => simp at hu; subst hu; simp [Addr.add]

theorem cell_alloc_of (W : World) (o : Obj) {a : Addr} {v : Value} (h : W.cell? a = some v) : (W.alloc o).cell? a = some v := by
  rw [World.cell?_alloc_lt _ _ _ (World.block_lt_of_cell? _ _ h)]; exact h

theorem froz {w : World} {b i : Nat} {c : Array Value} {e : TypeId} (h : w.heap[b]? = some (.cells c e (0, 0))) : w.frozen? ⟨b, i, none⟩ = false := by simp [World.frozen?, h]

theorem row_mono {B B' : Nat} {w : World} {e : TypeId} {sz n : Nat} {v : Value} {xs : List Value} (h : w.ownsRow B e sz v n xs) (hB : B' ≤ B) : w.ownsRow B' e sz v n xs := by
  obtain ⟨h1, h2⟩ := h
  refine ⟨h1, ?_⟩
  rcases h2 with h2 | ⟨g, cap, cur, hv, hb, rest⟩
  · exact .inl h2
  · exact .inr ⟨g, cap, cur, hv, Nat.le_trans hB hb, rest⟩

end Go.Proofs.Ytnbhphjpefagjaa
