/- Log: the step of Turns. -/
import Derived.Test.YtnbhphjpefagjaaB
import Derived.Test.YtnbhphjpefagjaaE
namespace Go.Proofs.Ytnbhphjpefagjaa
open Go.RowKit

/-- Turns, as cells. -/
def cells2 (l : List (Int × Int)) : List Value := l.flatMap (fun x => [.int .i64 x.1, .int .i64 x.2])

theorem cells2_len (l : List (Int × Int)) : (cells2 l).length = l.length * 2 := by
  unfold cells2
  induction l with
  | nil => rfl
  | cons x l ih => simp only [List.flatMap_cons, List.length_append, List.length_cons, List.length_nil, ih]; omega

theorem cells2_snoc (l : List (Int × Int)) (x y : Int) : cells2 (l ++ [(x, y)]) = cells2 l ++ [.int .i64 x, .int .i64 y] := by
  simp [cells2]

/-- Turns in a row of their own. -/
abbrev TRow (B : Nat) (w : World) (v : Value) (l : List (Int × Int)) : Prop := w.ownsRow B 57 2 v l.length (cells2 l)

theorem cells2_at : ∀ (l : List (Int × Int)) (j : Nat), j < l.length → (cells2 l)[j * 2]? = some (.int .i64 (l[j]?.getD (0, 0)).1) ∧ (cells2 l)[j * 2 + 1]? = some (.int .i64 (l[j]?.getD (0, 0)).2) := by
  intro l
  induction l with
  | nil => intro j hj; simp at hj
  | cons x l ih =>
    intro j hj
    cases j with
    | zero => simp [cells2]
    | succ j =>
      have := ih j (by simpa using hj)
      rw [show (j + 1) * 2 = j * 2 + 1 + 1 by omega]
      simpa [cells2] using this

theorem TRow.form {B : Nat} {w : World} {v : Value} {l : List (Int × Int)} (h : TRow B w v l) : ∃ a c, v = .slice a l.length c ∧ TurnsAt w a l ∧ (∀ p, a = some p → v.ownBlock = some p.block) := by
  obtain ⟨h1, h2⟩ := h
  rcases h2 with ⟨hv, hn⟩ | ⟨g, cap, cur, hv, hb, hg, hnc, hcm, hcs, ht⟩
  · have : l = [] := List.eq_nil_of_length_eq_zero hn
    subst this
    exact ⟨none, 0, hv, .inl rfl, fun p hp => by cases hp⟩
  · subst hv
    refine ⟨_, cap, rfl, .inr ⟨g, 0, rfl, fun j hj => ?_⟩, fun p hp => by cases hp; rfl⟩
    obtain ⟨c1, c2⟩ := cells2_at l j hj
    rw [← ht, List.getElem?_take] at c1 c2
    rw [if_pos (by omega)] at c1 c2
    rw [Nat.zero_add, cell_of_row w g (j * 2) cur 57 (0, 0) hg, cell_of_row w g (j * 2 + 1) cur 57 (0, 0) hg]
    exact ⟨by simpa using c1, by simpa using c2⟩

end Go.Proofs.Ytnbhphjpefagjaa
