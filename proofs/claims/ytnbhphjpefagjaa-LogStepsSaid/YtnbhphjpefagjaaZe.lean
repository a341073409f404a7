/- Log: what is taken of bytes (no program in sight). -/
import Derived.Test.YtnbhphjpefagjaaZ
import Derived.Test.YtnbhphjpefagjaaZd
namespace Go.Proofs.Ytnbhphjpefagjaa

/-- So many turns, behind acc. -/
def turnsGo : Nat → List (Int × Int) → List Int → Option (List (Int × Int) × List Int)
  | 0, acc, r => some (acc, r)
  | _ + 1, _, [] => none
  | m + 1, acc, c :: r => match numM r with
    | none => none
    | some (s, r') => turnsGo m (acc ++ [(c, s)]) r'

/-- What was taken: hash, turns, kind, trap, thread, statement. -/
abbrev Tk := Int × List (Int × Int) × Int × Int × Int × Int
def zeroTk : Tk := (0, [], 0, 0, 0, 0)

def endM (h : Int) (l : List (Int × Int)) : List Int → Option Tk
  | k :: tr :: th :: r => match numM r with
    | some (st, []) => if okB l k tr th st then some (h, l, k, tr, th, st) else none
    | _ => none
  | _ => none

def bodyM (r : List Int) : Option Tk :=
  if r.take 4 = [87, 76, 79, 71] then
    match wordM (r.drop 4) with
    | none => none
    | some (h, r1) => match numM r1 with
      | none => none
      | some (m, r2) => match turnsGo m.toNat [] r2 with
        | none => none
        | some (l, r3) => endM h l r3
  else none

/-- What is taken, and the error. -/
def decM (bs : List Int) : Tk × Int :=
  if bs.length < 12 then (zeroTk, 210)
  else if bs.drop (bs.length - 4) = le4 (sumL (bs.take (bs.length - 4))) then
    match bodyM (bs.take (bs.length - 4)) with
    | none => (zeroTk, 211)
    | some t => (t, 0)
  else (zeroTk, 210)

theorem wordM_four {a b c d : Int} (r : List Int) : wordM (a :: b :: c :: d :: r) = some (a + b * 256 + c * 65536 + d * 16777216, r) := by
  simp [wordM, wordGo]

/-- Four bytes are a number's just if the number is theirs. -/
theorem le4_iff {a b c d n : Int} (ha : 0 ≤ a ∧ a < 256) (hb : 0 ≤ b ∧ b < 256) (hc : 0 ≤ c ∧ c < 256) : a + b * 256 + c * 65536 + d * 16777216 = n ↔ [a, b, c, d] = le4 n := by
  simp only [le4, List.cons.injEq, and_true]
  omega

theorem four {l : List Int} (h : l.length = 4) : ∃ a b c d, l = [a, b, c, d] := by
  match l, h with
  | [a, b, c, d], _ => exact ⟨a, b, c, d, rfl⟩

end Go.Proofs.Ytnbhphjpefagjaa
