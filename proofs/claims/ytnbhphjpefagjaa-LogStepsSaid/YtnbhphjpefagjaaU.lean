/- Log: the step of Turns as a function. -/
import Derived.Test.YtnbhphjpefagjaaT
namespace Go.Proofs.Ytnbhphjpefagjaa
open Go.RowKit

/-- A step of thread t behind turns. -/
def stepT (out : List (Int × Int)) (t : Int) : List (Int × Int) :=
  match out.getLast? with
  | none => [(t, 1)]
  | some p => if p.1 = t then out.dropLast ++ [(t, p.2 + 1)] else out ++ [(t, 1)]

/-- Every turn has so many steps at most. -/
def Few (m : Nat) (out : List (Int × Int)) : Prop := out.length ≤ m ∧ ∀ p ∈ out, 1 ≤ p.2 ∧ p.2 ≤ m

theorem stepT_few {m : Nat} {out : List (Int × Int)} (h : Few m out) (t : Int) : Few (m + 1) (stepT out t) := by
  obtain ⟨h1, h2⟩ := h
  unfold stepT
  rcases List.eq_nil_or_concat out with rfl | ⟨l, ⟨x, y⟩, rfl⟩
  · refine ⟨by simp, fun p hp => ?_⟩
    simp at hp
    subst hp
    omega
  · simp only [List.concat_eq_append, List.getLast?_append, List.getLast?_singleton, Option.some_or]
    have hy := h2 (x, y) (by simp)
    split
    · refine ⟨by simp at h1 ⊢; omega, fun p hp => ?_⟩
      simp at hp
      rcases hp with hp | rfl
      · have := h2 p (by simp [hp]); omega
      · simp only at hy ⊢; omega
    · refine ⟨by simp at h1 ⊢; omega, fun p hp => ?_⟩
      simp at hp
      rcases hp with hp | rfl | rfl
      · have := h2 p (by simp [hp]); omega
      · simp only at hy ⊢; omega
      · simp only; omega

theorem tstep_any {B : Nat} (o : Nat) (t : Int) (m : Nat) (hm : m ≤ 100000) (out : List (Int × Int)) (hf : Few m out) (w : World) (hB : B ≤ w.heap.size) (h : TBox B w o out) :
    Calls Try.prog 40 #[.int .i64 t, .pointer (some ⟨o, 0, none⟩)] w fun e w' => e = .returned (.tuple #[]) ∧ TBox B w' o (stepT out t) ∧ Keeps (fun k => k = o ∨ B ≤ k) w w' := by
  obtain ⟨h1, h2⟩ := hf
  unfold stepT
  rcases List.eq_nil_or_concat out with rfl | ⟨l, ⟨x, y⟩, rfl⟩
  · exact tstep_new o t [] (by simp) w hB h (.inl rfl)
  · simp only [List.concat_eq_append, List.getLast?_append, List.getLast?_singleton, Option.some_or] at h h1 h2 ⊢
    have hy := h2 (x, y) (by simp)
    simp only at hy
    split
    · rename_i hx
      obtain rfl : x = t := hx
      have := tstep_inc o x y (by omega) (by omega) l (by simp at h1; omega) w h
      simpa using this
    · rename_i hx
      exact tstep_new o t (l ++ [(x, y)]) (by omega) w hB h (.inr (by simpa using hx))

end Go.Proofs.Ytnbhphjpefagjaa
