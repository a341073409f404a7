/- Log: the last turn is the last thread's. -/
import Derived.Test.YtnbhphjpefagjaaV
namespace Go.Proofs.Ytnbhphjpefagjaa

theorem stepT_last (out : List (Int × Int)) (t : Int) : ∃ l y, stepT out t = l ++ [(t, y)] := by
  unfold stepT
  split
  · exact ⟨[], 1, rfl⟩
  · split
    · exact ⟨_, _, rfl⟩
    · exact ⟨_, _, rfl⟩

theorem turnsOf_last (zs : List Int) (k : Nat) (hk : k < zs.length) : ∃ l y, turnsOf (zs.take (k + 1)) = l ++ [(zs[k]?.getD 0, y)] := by
  rw [turnsOf_succ zs k hk]
  exact stepT_last _ _

theorem stepT_same (l : List (Int × Int)) (t y : Int) : stepT (l ++ [(t, y)]) t = l ++ [(t, y + 1)] := by
  simp [stepT]

theorem stepT_other (l : List (Int × Int)) (t x y : Int) (h : ¬ x = t) : stepT (l ++ [(x, y)]) t = l ++ [(x, y)] ++ [(t, 1)] := by
  simp [stepT, h]

end Go.Proofs.Ytnbhphjpefagjaa
