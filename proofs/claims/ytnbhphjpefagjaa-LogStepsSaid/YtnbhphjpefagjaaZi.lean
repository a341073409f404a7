/- Log: numbers, turns and the first bytes of what is decoded (no program in sight). -/
import Derived.Test.YtnbhphjpefagjaaZe
import Derived.Laws.BytesArg
namespace Go.Proofs.Ytnbhphjpefagjaa

theorem u8_inj {x y : Int} (hx : 0 ≤ x ∧ x < 256) (hy : 0 ≤ y ∧ y < 256) (h : UInt8.ofNat x.toNat = UInt8.ofNat y.toNat) : x = y := by
  have h2 := congrArg UInt8.toNat h
  simp only [UInt8.toNat_ofNat'] at h2
  omega

theorem map_u8_inj : ∀ {l m : List Int}, Bytes l → Bytes m → (l.map fun n => UInt8.ofNat n.toNat) = (m.map fun n => UInt8.ofNat n.toNat) → l = m
  | [], [], _, _, _ => rfl
  | x :: l, y :: m, hl, hm, h => by
    simp only [List.map_cons, List.cons.injEq] at h
    rw [bytes_cons] at hl hm
    rw [u8_inj hl.1 hm.1 h.1, map_u8_inj hl.2 hm.2 h.2]
  | [], _ :: _, _, _, h => by simp at h
  | _ :: _, [], _, _, h => by simp at h

/-- Strings of bytes are the same just if the bytes are. -/
theorem strOf_inj {l m : List Int} (hl : Bytes l) (hm : Bytes m) (h : strOfNums l = strOfNums m) : l = m := by
  have := congrArg (fun s : ByteArray => s.data.toList) h
  simp only [strOfNums_data] at this
  exact map_u8_inj hl hm this

theorem bytes_wlog : Bytes [87, 76, 79, 71] := by
  simp only [bytes_cons]
  exact ⟨by omega, by omega, by omega, by omega, bytes_iff.2 (by simp)⟩

theorem strOf_wlog {l : List Int} (hb : Bytes l) (h : ¬ l = [87, 76, 79, 71]) : ((strOfNums l).toList == [87, 76, 79, 71]) = false := by
  rw [ByteArray.toList_eq, strOfNums_data]
  cases hc : ((l.map fun n => UInt8.ofNat n.toNat) == [87, 76, 79, 71]) with
  | false => rfl
  | true =>
    rw [beq_iff_eq] at hc
    exact (h (map_u8_inj hb bytes_wlog hc)).elim

theorem strOf_wlog_is : ((strOfNums [87, 76, 79, 71]).toList == [87, 76, 79, 71]) = true := by
  rw [ByteArray.toList_eq, strOfNums_data]
  decide

theorem numGo_bd : ∀ (f j : Nat) (v : Int) (l : List Int) (v' : Int) (r : List Int), Bytes l → 0 ≤ v → v < 128 ^ j → j + f ≤ 5 → numGo f j v l = some (v', r) → 0 ≤ v' ∧ v' < 34359738368 ∧ ∃ p, l = p ++ r ∧ p ≠ []
  | 0, _, _, _, _, _, _, _, _, _, h => by simp [numGo] at h
  | f + 1, j, v, [], _, _, _, _, _, _, h => by simp [numGo] at h
  | f + 1, j, v, c :: l, v', r, hb, h0, h1, hj, h => by
    rw [bytes_cons] at hb
    obtain ⟨p1, p2⟩ := p128 (j := j) (by omega)
    have hps := p128s j
    simp only [numGo] at h
    split at h
    · rename_i hc
      split at h
      · cases h
        have hm := p128m (m := c) (u := 128 ^ j) (by omega) hc (by omega) p2
        refine ⟨by omega, by omega, [c], rfl, by simp⟩
      · cases h
    · rename_i hc
      have hm := p128m (m := c % 128) (u := 128 ^ j) (by omega) (by omega) (by omega) p2
      obtain ⟨a, b, p, hp, _⟩ := numGo_bd f (j + 1) (v + c % 128 * 128 ^ j) l v' r hb.2 (by omega) (by rw [hps]; omega) (by omega) h
      exact ⟨a, b, c :: p, by rw [hp]; rfl, by simp⟩

theorem numM_bd {l r : List Int} {v : Int} (hb : Bytes l) (h : numM l = some (v, r)) : 0 ≤ v ∧ v < 34359738368 ∧ Bytes r ∧ r.length < l.length := by
  obtain ⟨a, b, p, rfl, hp⟩ := numGo_bd 5 0 0 l v r hb (by omega) (by simp) (by omega) h
  have hpl : 0 < p.length := List.length_pos_iff.2 hp
  exact ⟨a, b, (bytes_append.1 hb).2, by simp; omega⟩

theorem turnsGo_nil (m : Nat) (acc : List (Int × Int)) : turnsGo (m + 1) acc [] = none := rfl
theorem turnsGo_none {m : Nat} {acc : List (Int × Int)} {c : Int} {r : List Int} (h : numM r = none) : turnsGo (m + 1) acc (c :: r) = none := by
  simp [turnsGo, h]
theorem turnsGo_some {m : Nat} {acc : List (Int × Int)} {c s : Int} {r r' : List Int} (h : numM r = some (s, r')) : turnsGo (m + 1) acc (c :: r) = turnsGo m (acc ++ [(c, s)]) r' := by
  simp [turnsGo, h]

theorem endM_nil1 {h : Int} {l : List (Int × Int)} : endM h l [] = none := rfl
theorem endM_nil2 {h k : Int} {l : List (Int × Int)} : endM h l [k] = none := rfl
theorem endM_nil3 {h k tr : Int} {l : List (Int × Int)} : endM h l [k, tr] = none := rfl
theorem endM_none {h k tr th : Int} {l : List (Int × Int)} {r : List Int} (hn : numM r = none) : endM h l (k :: tr :: th :: r) = none := by
  simp [endM, hn]
theorem endM_more {h k tr th st x : Int} {l : List (Int × Int)} {r r' : List Int} (hn : numM r = some (st, x :: r')) : endM h l (k :: tr :: th :: r) = none := by
  simp [endM, hn]
theorem endM_some {h k tr th st : Int} {l : List (Int × Int)} {r : List Int} (hn : numM r = some (st, [])) : endM h l (k :: tr :: th :: r) = if okB l k tr th st then some (h, l, k, tr, th, st) else none := by
  simp [endM, hn]

theorem decM_body {bs : List Int} {nb : Nat} (hl : bs.length = nb + 4) (hs : 8 ≤ nb) (h4 : bs.drop nb = le4 (sumL (bs.take nb))) : decM bs = match bodyM (bs.take nb) with
    | none => (zeroTk, 211)
    | some t => (t, 0) := by
  unfold decM
  rw [if_neg (by omega), show bs.length - 4 = nb by omega, if_pos h4]
  rfl

theorem body_not {r : List Int} (h : ¬ r.take 4 = [87, 76, 79, 71]) : bodyM r = none := by
  unfold bodyM
  rw [if_neg h]

theorem body_is {r r1 : List Int} {a b c d : Int} (h : r.take 4 = [87, 76, 79, 71]) (h2 : r.drop 4 = a :: b :: c :: d :: r1) : bodyM r = match numM r1 with
      | none => none
      | some (m, r2) => match turnsGo m.toNat [] r2 with
        | none => none
        | some (l, r3) => endM (a + b * 256 + c * 65536 + d * 16777216) l r3 := by
  unfold bodyM
  rw [if_pos h, h2, wordM_four]
  rfl

end Go.Proofs.Ytnbhphjpefagjaa
