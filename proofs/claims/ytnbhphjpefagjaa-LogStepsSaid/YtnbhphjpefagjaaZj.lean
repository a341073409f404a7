/- Log: what is taken, by places (no program in sight). -/
import Derived.Test.YtnbhphjpefagjaaZi
namespace Go.Proofs.Ytnbhphjpefagjaa

theorem numM_drop {lb r : List Int} {k : Nat} {v : Int} (hb : Bytes lb) (h : numM (lb.drop k) = some (v, r)) : r = lb.drop (lb.length - r.length) ∧ k < lb.length - r.length ∧ r.length ≤ lb.length := by
  have hbk : Bytes (lb.drop k) := bytes_iff.2 fun x hx => bytes_iff.1 hb x (List.mem_of_mem_drop hx)
  obtain ⟨_, _, p, hp, hne⟩ := numGo_bd 5 0 0 _ v r hbk (by omega) (by simp) (by omega) h
  have hpl : 0 < p.length := List.length_pos_iff.2 hne
  have hlen : (lb.drop k).length = p.length + r.length := by rw [hp]; simp
  simp only [List.length_drop] at hlen
  refine ⟨?_, by omega, by omega⟩
  have h1 : (lb.drop k).drop p.length = r := by rw [hp]; simp
  rw [List.drop_drop] at h1
  rw [show lb.length - r.length = k + p.length by omega]
  exact h1.symm

/-- A number at a place: none. -/
theorem takeM_no {lb : List Int} {k : Nat} (h : numM (lb.drop k) = none) : takeM lb k = (0, 0) := takeM_none h

/-- A number at a place, and the place behind it. -/
theorem takeM_yes {lb r : List Int} {k : Nat} {v : Int} (h : numM (lb.drop k) = some (v, r)) : takeM lb k = (v, lb.length - r.length) := by
  unfold takeM; rw [h]

theorem drop_cons {lb : List Int} {k : Nat} (h : k < lb.length) : lb.drop k = (lb[k]?.getD 0) :: lb.drop (k + 1) := by
  rw [List.drop_eq_getElem_cons h]
  simp [h]

theorem endM_short {h : Int} {l : List (Int × Int)} {r : List Int} (hr : r.length < 4) : endM h l r = none := by
  match r, hr with
  | [], _ => rfl
  | [_], _ => rfl
  | [_, _], _ => rfl
  | [_, _, _], _ => rfl

theorem endM_at {h : Int} {l : List (Int × Int)} {lb : List Int} {k : Nat} (hk : k + 3 < lb.length) : endM h l (lb.drop k) = match numM (lb.drop (k + 3)) with
    | some (st, []) => if okB l (lb[k]?.getD 0) (lb[k + 1]?.getD 0) (lb[k + 2]?.getD 0) st then some (h, l, (lb[k]?.getD 0), (lb[k + 1]?.getD 0), (lb[k + 2]?.getD 0), st) else none
    | _ => none := by
  rw [drop_cons (by omega), drop_cons (k := k + 1) (by omega), drop_cons (k := k + 1 + 1) (by omega)]
  rfl

theorem take_drop4 {lb : List Int} (h : 8 ≤ lb.length) : lb.drop 4 = (lb[4]?.getD 0) :: (lb[5]?.getD 0) :: (lb[6]?.getD 0) :: (lb[7]?.getD 0) :: lb.drop 8 := by
  rw [drop_cons (by omega), drop_cons (k := 5) (by omega), drop_cons (k := 6) (by omega), drop_cons (k := 7) (by omega)]

theorem bytes_drop {lb : List Int} (h : Bytes lb) (k : Nat) : Bytes (lb.drop k) := bytes_iff.2 fun x hx => bytes_iff.1 h x (List.mem_of_mem_drop hx)

/-- The bytes are those with their sum just if their last four are the sum's. -/
theorem sealed_iff {bs : List Int} {nb : Nat} (hl : bs.length = nb + 4) (hb : Bytes bs) : strOfNums (bs.take nb ++ le4 (sumL (bs.take nb))) = strOfNums bs ↔ bs.drop nb = le4 (sumL (bs.take nb)) := by
  have hbt : Bytes (bs.take nb) := bytes_iff.2 fun x hx => bytes_iff.1 hb x (List.mem_of_mem_take hx)
  have hsm := sumL_bd (bs.take nb)
  constructor
  · intro h
    have := strOf_inj (bytes_append.2 ⟨hbt, bytes_le4 hsm.1 hsm.2⟩) hb h
    have h2 : (bs.take nb ++ le4 (sumL (bs.take nb))).drop nb = bs.drop nb := by rw [this]
    rw [← h2, List.drop_append_of_le_length (by simp; omega), List.drop_of_length_le (by simp; omega), List.nil_append]
  · intro h
    rw [← h, List.take_append_drop]

end Go.Proofs.Ytnbhphjpefagjaa
