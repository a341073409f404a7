/- Log: the steps of turns: what the law's boxes tell (no program in sight). -/
import Derived.Test.YtnbhphjpefagjaaZyd
namespace Go.Proofs.Ytnbhphjpefagjaa
open Go.RowKit Go.Shelf

theorem seqK_succ_len (l : List (Int × Int)) (k : Nat) : (seqK l (k + 1)).length = (seqK l k).length + (l[k]?.getD (0, 0)).2.toNat := by
  rw [seqK_succ]
  simp

theorem seqK_len_le (l : List (Int × Int)) (k : Nat) (h : ∀ j, j < k → (l[j]?.getD (0, 0)).2 ≤ 100) : (seqK l k).length ≤ 100 * k := by
  induction k with
  | zero => simp [seqK_zero]
  | succ k ih =>
    rw [seqK_succ_len]
    have := ih (fun j hj => h j (by omega))
    have := h k (by omega)
    omega

/-- The three boxes. -/
def SB (B : Nat) : Nat → Prop := fun k => k = B ∨ k = B + 1 ∨ k = B + 1 + 1

/-- The boxes tell turn, step, and how many pairs have come. -/
structure SAt (l : List (Int × Int)) (w3 : World) (B : Nat) (pre : List (Nat × Int)) (turn step : Nat) (W : World) : Prop where
  c7 : W.heap[B]? = some (.cells #[.int .i64 (turn : Int)] 3 (0, 0))
  c8 : W.heap[B + 1]? = some (.cells #[.int .i64 (step : Int)] 3 (0, 0))
  c9 : W.heap[B + 1 + 1]? = some (.cells #[.int .i64 (pre.length : Int)] 3 (0, 0))
  kept : Keeps (SB B) w3 W
  le : turn ≤ l.length
  st : step = 0 ∨ turn < l.length ∧ (step : Int) ≤ (l[turn]?.getD (0, 0)).2
  eq : pre = seqAt l turn step

theorem SAt.keep {l : List (Int × Int)} {w3 W W' : World} {B : Nat} {pre : List (Nat × Int)} {turn step : Nat} (h : SAt l w3 B pre turn step W) (hk : Keeps No W W') : SAt l w3 B pre turn step W' :=
  ⟨box_in h.c7 hk, box_in h.c8 hk, box_in h.c9 hk, h.kept.trans hk.of_no, h.le, h.st, h.eq⟩

theorem SAt.own {l : List (Int × Int)} {w3 W W' : World} {B : Nat} {pre : List (Nat × Int)} {turn step : Nat} (h : SAt l w3 B pre turn step W) {row : Option Nat} (hg : W.grownBy W' row)
    (hr : ∀ r, row = some r → w3.heap.size ≤ r ∧ ∃ o : Obj, W.heap[r]? = some o ∧ o.isCells = false) : SAt l w3 B pre turn step W' := by
  have h2 : ∀ r, row = some r → ∃ o : Obj, W.heap[r]? = some o ∧ o.isCells = false := fun r e => (hr r e).2
  exact ⟨(grownBy_keeps_cells hg h2 h.c7 rfl).trans h.c7, (grownBy_keeps_cells hg h2 h.c8 rfl).trans h.c8, (grownBy_keeps_cells hg h2 h.c9 rfl).trans h.c9,
    h.kept.grown hg (fun k hk => .inr (hr k hk).1), h.le, h.st, h.eq⟩

theorem SAt.cells {l : List (Int × Int)} {w3 W : World} {B : Nat} {pre : List (Nat × Int)} {turn step : Nat} (h : SAt l w3 B pre turn step W) :
    W.cell? ⟨B, 0, none⟩ = some (.int .i64 (turn : Int)) ∧ W.cell? ⟨B + 1, 0, none⟩ = some (.int .i64 (step : Int)) ∧ W.cell? ⟨B + 1 + 1, 0, none⟩ = some (.int .i64 (pre.length : Int)) := by
  refine ⟨?_, ?_, ?_⟩
  · rw [cell_of_row _ _ _ _ _ _ h.c7]; rfl
  · rw [cell_of_row _ _ _ _ _ _ h.c8]; rfl
  · rw [cell_of_row _ _ _ _ _ _ h.c9]; rfl

theorem heap_set_other {W : World} {b k : Nat} {v : Value} {x : Option Obj} (h : W.heap[k]? = x) (hn : k ≠ b) : (W.setCell ⟨b, 0, none⟩ v).heap[k]? = x :=
  (Below.heap_setCell W ⟨b, 0, none⟩ v k hn).trans h

/-- A turn is over: on to the next one. -/
theorem SAt.over {l : List (Int × Int)} {w3 W : World} {B : Nat} {pre : List (Nat × Int)} {turn step : Nat} (h : SAt l w3 B pre turn step W) (ht : turn < l.length) (hs : (l[turn]?.getD (0, 0)).2 ≤ (step : Int)) :
    SAt l w3 B pre (turn + 1) 0 ((W.setCell ⟨B, 0, none⟩ (.int .i64 ((turn : Int) + 1))).setCell ⟨B + 1, 0, none⟩ (.int .i64 0)) := by
  refine ⟨?_, ?_, ?_, ?_, ht, .inl rfl, ?_⟩
  · rw [heap_set_other (heap_setCell_row h.c7) (by omega)]; rfl
  · rw [heap_setCell_row (heap_set_other h.c8 (by omega))]; rfl
  · exact heap_set_other (heap_set_other h.c9 (by omega)) (by omega)
  · exact (h.kept.setCell (p := ⟨B, 0, none⟩) (.inl (.inl rfl)) _).setCell (p := ⟨B + 1, 0, none⟩) (.inl (.inr (.inl rfl))) _
  · rw [h.eq, seqAt_zero, ← seqAt_full]
    congr 1
    rcases h.st with h0 | ⟨_, h0⟩ <;> omega

/-- One more step. -/
theorem SAt.inc {l : List (Int × Int)} {w3 W : World} {B : Nat} {pre : List (Nat × Int)} {turn step : Nat} (h : SAt l w3 B pre turn step W) (ht : turn < l.length) (hs : (step : Int) < (l[turn]?.getD (0, 0)).2) :
    SAt l w3 B (pre ++ [(turn, (l[turn]?.getD (0, 0)).1)]) turn (step + 1) ((W.setCell ⟨B + 1, 0, none⟩ (.int .i64 ((step : Int) + 1))).setCell ⟨B + 1 + 1, 0, none⟩ (.int .i64 ((pre.length : Int) + 1))) := by
  refine ⟨?_, ?_, ?_, ?_, h.le, .inr ⟨ht, by omega⟩, ?_⟩
  · exact heap_set_other (heap_set_other h.c7 (by omega)) (by omega)
  · rw [heap_set_other (heap_setCell_row h.c8) (by omega)]; rfl
  · rw [heap_setCell_row (heap_set_other h.c9 (by omega))]; simp
  · exact (h.kept.setCell (p := ⟨B + 1, 0, none⟩) (.inl (.inr (.inl rfl))) _).setCell (p := ⟨B + 1 + 1, 0, none⟩) (.inl (.inr (.inr rfl))) _
  · rw [seqAt_succ, h.eq]

/-- Where pairs are left, a turn is left. -/
theorem SAt.more {l : List (Int × Int)} {w3 W : World} {B : Nat} {pre : List (Nat × Int)} {turn step : Nat} (h : SAt l w3 B pre turn step W) (hl : pre.length < (seqV l).length) : turn < l.length := by
  rcases Nat.lt_or_ge turn l.length with ht | ht
  · exact ht
  · have h1 : turn = l.length := Nat.le_antisymm h.le ht
    have h2 : step = 0 := by rcases h.st with h0 | ⟨h0, _⟩ <;> omega
    have := h.eq
    rw [h1, h2, seqAt_zero] at this
    rw [this] at hl
    exact absurd hl (Nat.lt_irrefl _)

/-- The next pair is the turn's, where the pairs come as they should. -/
theorem SAt.next {l : List (Int × Int)} {w3 W : World} {B : Nat} {pre : List (Nat × Int)} {turn step : Nat} (h : SAt l w3 B pre turn step W) (ht : turn < l.length) (hs : (step : Int) < (l[turn]?.getD (0, 0)).2) {x : Nat × Int}
    (hp : pre ++ [x] <+: seqV l) : x = (turn, (l[turn]?.getD (0, 0)).1) := by
  have h1 := seqAt_prefix (l := l) (k := turn) (j := step + 1) ht (by omega)
  rw [seqAt_succ, ← h.eq] at h1
  have h2 := List.prefix_of_prefix_length_le hp h1 (by simp)
  have h3 := h2.eq_of_length (by simp)
  exact List.singleton_inj.1 (List.append_cancel_left h3)

def cellN (W : World) (b : Nat) : Nat := match W.cell? ⟨b, 0, none⟩ with
  | some v => (intOf v).toNat
  | none => 0

theorem cellN_of {W : World} {b z : Nat} (h : W.cell? ⟨b, 0, none⟩ = some (.int .i64 (z : Int))) : cellN W b = z := by
  simp [cellN, h, intOf]

end Go.Proofs.Ytnbhphjpefagjaa
