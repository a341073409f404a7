/- Log: the threads of turns are the threads (no program in sight). -/
import Derived.Test.YtnbhphjpefagjaaZw
import Derived.Test.YtnbhphjpefagjaaV
namespace Go.Proofs.Ytnbhphjpefagjaa

def flat (l : List (Int × Int)) : List Int := l.flatMap fun x => List.replicate x.2.toNat x.1

theorem seqK_flat (l : List (Int × Int)) (k : Nat) (hk : k ≤ l.length) : (seqK l k).map (·.2) = flat (l.take k) := by
  induction k with
  | zero => rfl
  | succ k ih =>
    rw [seqK_succ, List.map_append, ih (by omega), List.take_succ_eq_append_getElem (by omega)]
    rw [flat, flat, List.flatMap_append, List.getElem?_eq_getElem (show k < l.length by omega)]
    simp

theorem seqV_flat (l : List (Int × Int)) : (seqV l).map (·.2) = flat l := by
  rw [seqV, seqK_flat l _ (Nat.le_refl _), List.take_length]

theorem flat_step {m : Nat} {out : List (Int × Int)} (h : Few m out) (t : Int) : flat (stepT out t) = flat out ++ [t] := by
  obtain ⟨_, h2⟩ := h
  unfold stepT
  rcases List.eq_nil_or_concat out with rfl | ⟨l, ⟨x, y⟩, rfl⟩
  · simp [flat]
  · simp only [List.concat_eq_append, List.getLast?_append, List.getLast?_singleton, Option.some_or]
    have hy := (h2 (x, y) (by simp)).1
    simp only at hy
    split
    · rename_i hx
      subst hx
      rw [List.dropLast_append_of_ne_nil (by simp)]
      simp only [flat, List.flatMap_append, List.dropLast_singleton, List.append_nil, List.flatMap_cons, List.flatMap_nil, List.append_assoc]
      congr 1
      rw [show (y + 1).toNat = y.toNat + 1 by omega, List.replicate_succ']
    · simp [flat]

theorem flat_turns (zs : List Int) : flat (turnsOf zs) = zs := by
  have key : ∀ (zs : List Int) (m : Nat) (out : List (Int × Int)), Few m out → flat (zs.foldl stepT out) = flat out ++ zs := by
    intro zs
    induction zs with
    | nil => intro m out _; simp
    | cons z zs ih =>
      intro m out h
      rw [List.foldl_cons, ih (m + 1) _ (stepT_few h z), flat_step h]
      simp
  have := key zs 0 [] ⟨by simp, by simp⟩
  unfold turnsOf
  simpa [flat] using this

end Go.Proofs.Ytnbhphjpefagjaa
