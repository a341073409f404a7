/- Log: there and back (no program in sight). -/
import Derived.Test.YtnbhphjpefagjaaZj
import Derived.Test.YtnbhphjpefagjaaI
namespace Go.Proofs.Ytnbhphjpefagjaa

theorem join128 (v n u : Int) : v + n % 128 * u + n / 128 * (u * 128) = v + n * u := by
  have h : n * u = n % 128 * u + n / 128 * (u * 128) := by
    have hn : n * u = (n % 128 + 128 * (n / 128)) * u := by
      congr 1
      omega
    rw [hn, Int.add_mul, Int.mul_comm 128 (n / 128), Int.mul_assoc, Int.mul_comm 128 u]
  omega

theorem numGo_enc : ∀ (f f' j : Nat) (v n : Int) (r : List Int), f ≤ f' + 1 → 0 < f → 0 ≤ n → n < 128 ^ f → (j = 0 ∨ n ≠ 0) → numGo f j v (encF f' n ++ r) = some (v + n * 128 ^ j, r)
  | 0, _, _, _, _, _, _, h, _, _, _ => by omega
  | f + 1, f', j, v, n, r, hf, _, h0, h1, hj => by
    have lone : n < 128 → numGo (f + 1) j v ([n] ++ r) = some (v + n * 128 ^ j, r) := by
      intro h
      simp only [numGo, List.cons_append, List.nil_append, if_pos h, if_pos hj]
    cases f' with
    | zero =>
      obtain rfl : f = 0 := by omega
      exact lone (by simpa using h1)
    | succ f' =>
      unfold encF
      split
      · exact lone ‹_›
      · rename_i hn
        have hf0 : 0 < f := by
          rcases Nat.eq_zero_or_pos f with rfl | h
          · simp at h1; omega
          · exact h
        rw [Int.pow_succ] at h1
        simp only [List.cons_append, numGo]
        rw [if_neg (by omega), numGo_enc f f' (j + 1) _ (n / 128) r (by omega) hf0 (by omega) (by omega) (.inr (by omega)), Int.pow_succ, Int.add_emod_right, show n % 128 % 128 = n % 128 by omega, join128]

theorem numM_enc {n : Int} {r : List Int} (h0 : 0 ≤ n) (h1 : n < 34359738368) : numM (encN n ++ r) = some (n, r) := by
  unfold numM encN
  rw [numGo_enc 5 9 0 0 n r (by omega) (by omega) h0 (by omega) (.inl rfl)]
  simp

theorem numGo_inv : ∀ (f f' j : Nat) (v v' : Int) (l r : List Int), f ≤ f' + 1 → Bytes l → numGo f j v l = some (v', r) → ∃ n : Int, v' = v + n * 128 ^ j ∧ 0 ≤ n ∧ (j = 0 ∨ n ≠ 0) ∧ l = encF f' n ++ r
  | 0, _, _, _, _, _, _, _, _, h => by simp [numGo] at h
  | f + 1, _, _, _, _, [], _, _, _, h => by simp [numGo] at h
  | f + 1, f', j, v, v', c :: l, r, hf, hb, h => by
    rw [bytes_cons] at hb
    simp only [numGo] at h
    split at h
    · rename_i hc
      split at h
      · rename_i hj
        cases h
        refine ⟨c, rfl, hb.1.1, hj, ?_⟩
        cases f' with
        | zero => rfl
        | succ f' => unfold encF; rw [if_pos hc]; rfl
      · cases h
    · rename_i hc
      cases f' with
      | zero =>
        obtain rfl : f = 0 := by omega
        simp [numGo] at h
      | succ f' =>
        obtain ⟨n, hv, hn0, hn1, hl⟩ := numGo_inv f f' (j + 1) _ v' l r (by omega) hb.2 h
        have hn2 : n ≠ 0 := hn1.resolve_left (by omega)
        have hd : (n * 128 + c % 128) / 128 = n := by omega
        have hm : (n * 128 + c % 128) % 128 = c % 128 := by omega
        refine ⟨n * 128 + c % 128, ?_, by omega, .inr (by omega), ?_⟩
        · rw [hv, Int.pow_succ]
          have := join128 v (n * 128 + c % 128) (128 ^ j)
          rw [hd, hm] at this
          exact this
        · unfold encF
          rw [if_neg (by omega), hd, hm, hl, List.cons_append]
          congr 1
          omega

theorem numM_inv {l r : List Int} {n : Int} (hb : Bytes l) (h : numM l = some (n, r)) : 0 ≤ n ∧ l = encN n ++ r := by
  obtain ⟨m, hv, h0, _, hl⟩ := numGo_inv 5 9 0 0 n l r (by omega) hb h
  simp at hv
  subst hv
  exact ⟨h0, hl⟩

theorem encTurns_cons (x : Int × Int) (l : List (Int × Int)) : encTurns (x :: l) = x.1 :: encN x.2 ++ encTurns l := by
  simp [encTurns]

theorem turnsGo_enc : ∀ (l acc : List (Int × Int)) (r : List Int), (∀ x ∈ l, 0 ≤ x.2 ∧ x.2 < 34359738368) → turnsGo l.length acc (encTurns l ++ r) = some (acc ++ l, r)
  | [], acc, r, _ => by simp [turnsGo, encTurns]
  | x :: l, acc, r, h => by
    obtain ⟨h0, h1⟩ := h x (by simp)
    have := turnsGo_enc l (acc ++ [x]) r (fun y hy => h y (by simp [hy]))
    rw [encTurns_cons, List.cons_append, List.cons_append, List.append_assoc, List.length_cons, turnsGo, numM_enc h0 h1]
    simpa using this

theorem turnsGo_inv : ∀ (m : Nat) (acc l' : List (Int × Int)) (l r : List Int), Bytes l → turnsGo m acc l = some (l', r) → ∃ t, l' = acc ++ t ∧ t.length = m ∧ l = encTurns t ++ r ∧ Bytes r
  | 0, acc, l', l, r, hb, h => by
    simp only [turnsGo] at h
    cases h
    exact ⟨[], by simp, rfl, by simp [encTurns], hb⟩
  | m + 1, _, _, [], _, _, h => by simp [turnsGo] at h
  | m + 1, acc, l', c :: l, r, hb, h => by
    rw [bytes_cons] at hb
    simp only [turnsGo] at h
    split at h
    · cases h
    · rename_i s r' hn
      obtain ⟨h0, hl⟩ := numM_inv hb.2 hn
      have hb' : Bytes r' := by rw [hl] at hb; exact (bytes_append.1 hb.2).2
      obtain ⟨t, h1, h2, h3, h4⟩ := turnsGo_inv m _ l' r' r hb' h
      refine ⟨(c, s) :: t, by simp [h1], by simp [h2], ?_, h4⟩
      rw [encTurns_cons, hl, h3]
      simp

theorem encTurns_len' (l : List (Int × Int)) : l.length ≤ (encTurns l).length := by
  induction l with
  | nil => simp
  | cons x l ih => rw [encTurns_cons]; simp; omega

theorem wordM_enc {h : Int} {r : List Int} : wordM (le4 h ++ r) = some (h, r) := by
  simp only [le4, List.cons_append, List.nil_append, wordM_four]
  congr 2
  omega

theorem wordM_inv {l r : List Int} {h : Int} (hb : Bytes l) (hw : wordM l = some (h, r)) : 0 ≤ h ∧ h < 4294967296 ∧ l = le4 h ++ r ∧ Bytes r := by
  match l, hb, hw with
  | [], _, hw => simp [wordM, wordGo] at hw
  | [_], _, hw => simp [wordM, wordGo] at hw
  | [_, _], _, hw => simp [wordM, wordGo] at hw
  | [_, _, _], _, hw => simp [wordM, wordGo] at hw
  | a :: b :: c :: d :: l, hb, hw =>
    rw [wordM_four] at hw
    simp only [bytes_cons] at hb
    cases hw
    refine ⟨by omega, by omega, ?_, hb.2.2.2.2⟩
    rw [← (le4_iff (d := d) hb.1 hb.2.1 hb.2.2.1).1 rfl]
    rfl

theorem endM_inv {h : Int} {l : List (Int × Int)} {r : List Int} {t : Tk} (hb : Bytes r) (he : endM h l r = some t) : ∃ k tr th st, t = (h, l, k, tr, th, st) ∧ okB l k tr th st = true ∧ r = [k, tr, th] ++ encN st := by
  match r, hb, he with
  | [], _, he => simp [endM] at he
  | [_], _, he => simp [endM] at he
  | [_, _], _, he => simp [endM] at he
  | k :: tr :: th :: r, hb, he =>
    simp only [bytes_cons] at hb
    simp only [endM] at he
    split at he
    · rename_i st hn
      obtain ⟨_, hl⟩ := numM_inv hb.2.2.2 hn
      split at he
      · cases he
        exact ⟨k, tr, th, st, rfl, ‹_›, by rw [hl]; simp⟩
      · cases he
    · cases he

theorem bodyM_inv {r : List Int} {t : Tk} (hb : Bytes r) (he : bodyM r = some t) : ∃ h l k tr th st, t = (h, l, k, tr, th, st) ∧ okB l k tr th st = true ∧ r = encBody h l k tr th st ∧ 0 ≤ h ∧ h < 4294967296 := by
  unfold bodyM at he
  split at he
  · rename_i h4
    have hsp := List.take_append_drop 4 r
    rw [h4] at hsp
    have hb2 := hb
    rw [← hsp, bytes_append] at hb2
    split at he
    · cases he
    · rename_i h r1 hw
      obtain ⟨a1, a2, a3, a4⟩ := wordM_inv hb2.2 hw
      split at he
      · cases he
      · rename_i m r2 hm
        obtain ⟨b1, b2⟩ := numM_inv a4 hm
        rw [b2, bytes_append] at a4
        split at he
        · cases he
        · rename_i l r3 ht
          obtain ⟨t', c1, c2, c3, c4⟩ := turnsGo_inv _ _ _ _ _ a4.2 ht
          obtain ⟨k, tr, th, st, d1, d2, d3⟩ := endM_inv c4 he
          simp only [List.nil_append] at c1
          subst c1
          refine ⟨h, l, k, tr, th, st, d1, d2, ?_, a1, a2⟩
          rw [← hsp, a3, b2, c3, d3]
          unfold encBody
          rw [show ((l.length : Nat) : Int) = m by omega]
          simp only [List.append_assoc, List.cons_append, List.nil_append]
  · cases he

theorem okB_bd {l : List (Int × Int)} {k tr th st : Int} (h : okB l k tr th st = true) : (∀ x ∈ l, 0 ≤ x.1 ∧ x.1 ≤ 7 ∧ 1 ≤ x.2 ∧ x.2 ≤ 2147483647) ∧ (0 ≤ k ∧ k < 256) ∧ (0 ≤ tr ∧ tr < 256) ∧ (0 ≤ th ∧ th < 256) ∧ 0 ≤ st ∧ st < 2147483648 := by
  unfold okB at h
  rw [Bool.and_eq_true] at h
  have := endB_bd h.1
  exact ⟨chk_mem h.2, by omega, by omega, by omega, by omega, by omega⟩

theorem bodyM_enc {h : Int} {l : List (Int × Int)} {k tr th st : Int} (hl : l.length ≤ 100000) (ho : okB l k tr th st = true) : bodyM (encBody h l k tr th st) = some (h, l, k, tr, th, st) := by
  obtain ⟨h1, _, _, _, h5, h6⟩ := okB_bd ho
  unfold bodyM encBody
  simp only [List.append_assoc, List.cons_append, List.nil_append]
  rw [if_pos (by simp), show (87 :: 76 :: 79 :: 71 :: (le4 h ++ (encN (l.length : Nat) ++ (encTurns l ++ k :: tr :: th :: encN st)))).drop 4 = le4 h ++ (encN (l.length : Nat) ++ (encTurns l ++ k :: tr :: th :: encN st)) by simp, wordM_enc]
  dsimp only
  rw [numM_enc (by omega) (by omega)]
  dsimp only
  rw [show ((l.length : Nat) : Int).toNat = l.length by simp, turnsGo_enc l [] _ (fun x hx => by have := h1 x hx; omega)]
  simp only [List.nil_append, endM]
  have := numM_enc (n := st) (r := []) (by omega) (by omega)
  rw [List.append_nil] at this
  rw [this]
  simp [ho]

/-- What is taken of bytes that are some's. -/
theorem decM_inv {bs : List Int} (hb : Bytes bs) (h : (decM bs).2 = 0) : ∃ hh l k tr th st, decM bs = ((hh, l, k, tr, th, st), 0) ∧ okB l k tr th st = true ∧ bs = encM hh l k tr th st ∧ 0 ≤ hh ∧ hh < 4294967296 := by
  unfold decM at h ⊢
  split at h
  · simp at h
  · rename_i h12
    rw [if_neg h12]
    split at h
    · rename_i hs
      rw [if_pos hs]
      split at h
      · simp at h
      · rename_i t ht
        have hbt : Bytes (bs.take (bs.length - 4)) := bytes_iff.2 fun x hx => bytes_iff.1 hb x (List.mem_of_mem_take hx)
        obtain ⟨hh, l, k, tr, th, st, e1, e2, e3, e4, e5⟩ := bodyM_inv hbt ht
        refine ⟨hh, l, k, tr, th, st, by rw [e1], e2, ?_, e4, e5⟩
        have := List.take_append_drop (bs.length - 4) bs
        rw [hs, e3] at this
        exact this.symm
    · simp at h

theorem encN_pos' (n : Int) : 0 < (encN n).length := by
  unfold encN encF
  split <;> simp

theorem le4_len (n : Int) : (le4 n).length = 4 := rfl

theorem decM_enc {h : Int} {l : List (Int × Int)} {k tr th st : Int} (hl : l.length ≤ 100000) (ho : okB l k tr th st = true) : decM (encM h l k tr th st) = ((h, l, k, tr, th, st), 0) := by
  have hL : (encM h l k tr th st).length - 4 = (encBody h l k tr th st).length := by simp [encM, le4_len]
  have h12 : ¬ (encM h l k tr th st).length < 12 := by
    have := encN_pos' (l.length : Nat)
    have := encN_pos' st
    simp [encM, encBody, le4_len]
    omega
  unfold decM
  rw [if_neg h12, hL, show (encM h l k tr th st).drop (encBody h l k tr th st).length = le4 (sumL (encBody h l k tr th st)) by simp [encM], show (encM h l k tr th st).take (encBody h l k tr th st).length = encBody h l k tr th st by simp [encM], if_pos rfl, bodyM_enc hl ho]

/-- So many turns there are at most. -/
theorem decM_short (bs : List Int) (hb : Bytes bs) : (decM bs).1.2.1.length ≤ bs.length := by
  by_cases h : (decM bs).2 = 0
  · obtain ⟨hh, l, k, tr, th, st, e1, e2, e3, e4, e5⟩ := decM_inv hb h
    rw [e1, e3]
    have := encTurns_len' l
    simp [encM, encBody]
    omega
  · unfold decM at h ⊢
    split at h
    · rw [if_pos ‹_›]; simp [zeroTk]
    · rw [if_neg ‹_›]
      split at h
      · rw [if_pos ‹_›]
        split at h
        · simp [*, zeroTk]
        · simp at h
      · rw [if_neg ‹_›]; simp [zeroTk]

theorem times33 {d k : Int} (h : 33 * d = 4294967296 * k) (h0 : -4294967296 < d) (h1 : d < 4294967296) : d = 0 := by
  have h3 : 1041204193 * (33 * d) = 1041204193 * (4294967296 * k) := by rw [h]
  rw [← Int.mul_assoc, ← Int.mul_assoc, show (1041204193 : Int) * 33 = 34359738369 from rfl, Int.mul_comm 1041204193 4294967296, Int.mul_assoc] at h3
  obtain ⟨t, ht⟩ : ∃ t, t = 1041204193 * k - 8 * d := ⟨_, rfl⟩
  have h4 : d = 4294967296 * t := by
    rw [ht, Int.mul_sub, ← h3]
    omega
  clear ht h3 h
  omega

theorem sumStep_inj {a b c : Int} (ha : 0 ≤ a ∧ a < 4294967296) (hb : 0 ≤ b ∧ b < 4294967296) (h : sumStep a c = sumStep b c) : a = b := by
  unfold sumStep at h
  have e1 := Int.emod_add_mul_ediv (a * 33 + c) 4294967296
  have e2 := Int.emod_add_mul_ediv (b * 33 + c) 4294967296
  rw [h] at e1
  generalize (b * 33 + c) % 4294967296 = r at e1 e2
  generalize (a * 33 + c) / 4294967296 = q1 at e1
  generalize (b * 33 + c) / 4294967296 = q2 at e2
  have h1 : 33 * (a - b) = 4294967296 * (q1 - q2) := by
    rw [Int.mul_sub, Int.mul_sub]
    clear ha hb h
    generalize 4294967296 * q1 = x1 at *
    generalize 4294967296 * q2 = x2 at *
    omega
  clear e1 e2 h
  have := times33 h1 (by omega) (by omega)
  clear h1
  omega

theorem sumStep_ne {a c d : Int} (hc : 0 ≤ c ∧ c < 256) (hd : 0 ≤ d ∧ d < 256) (h : sumStep a c = sumStep a d) : c = d := by
  unfold sumStep at h
  generalize a * 33 = z at h
  omega

theorem sumStep_bd (a c : Int) : 0 ≤ sumStep a c ∧ sumStep a c < 4294967296 := by
  unfold sumStep
  omega

theorem foldl_inj : ∀ (l : List Int) (a b : Int), (0 ≤ a ∧ a < 4294967296) → (0 ≤ b ∧ b < 4294967296) → l.foldl sumStep a = l.foldl sumStep b → a = b
  | [], _, _, _, _, h => h
  | c :: l, a, b, ha, hb, h => sumStep_inj ha hb (foldl_inj l _ _ (sumStep_bd a c) (sumStep_bd b c) h)

theorem foldl_set : ∀ (l : List Int) (i : Nat) (c s : Int), Bytes l → i < l.length → (0 ≤ c ∧ c < 256) → (0 ≤ s ∧ s < 4294967296) → (l.set i c).foldl sumStep s = l.foldl sumStep s → l[i]?.getD 0 = c
  | [], _, _, _, _, hi, _, _, _ => by simp at hi
  | x :: l, 0, c, s, hb, _, hc, _, h => by
    rw [bytes_cons] at hb
    have := foldl_inj l _ _ (sumStep_bd s c) (sumStep_bd s x) h
    exact (sumStep_ne hc hb.1 this).symm
  | x :: l, i + 1, c, s, hb, hi, hc, _, h => by
    rw [bytes_cons] at hb
    exact foldl_set l i c _ hb.2 (by simpa using hi) hc (sumStep_bd s x) h

theorem le4_inj {a b : Int} (h : le4 a = le4 b) : a = b := by
  simp only [le4, List.cons.injEq] at h
  omega

/-- Where one byte is another one nothing is taken. -/
theorem decM_rot {bs : List Int} (hb : Bytes bs) (h0 : (decM bs).2 = 0) (i : Nat) (hi : i < bs.length) (c : Int) (hc : 0 ≤ c ∧ c < 256) (hne : bs[i]?.getD 0 ≠ c) : decM (bs.set i c) = (zeroTk, 210) := by
  have h12 : ¬ bs.length < 12 ∧ bs.drop (bs.length - 4) = le4 (sumL (bs.take (bs.length - 4))) := by
    unfold decM at h0
    split at h0
    · simp at h0
    · split at h0
      · exact ⟨‹_›, ‹_›⟩
      · simp at h0
  obtain ⟨h12, hs⟩ := h12
  unfold decM
  rw [List.length_set, if_neg h12, if_neg]
  intro hs2
  by_cases hn : i < bs.length - 4
  · rw [List.drop_set_of_lt hn, hs, List.take_set] at hs2
    have h1 := le4_inj hs2
    refine hne ?_
    have := foldl_set (bs.take (bs.length - 4)) i c 5381 (bytes_iff.2 fun x hx => bytes_iff.1 hb x (List.mem_of_mem_take hx)) (by simp; omega) hc (by omega) h1.symm
    rw [List.getElem?_take, if_pos hn] at this
    exact this
  · rw [List.take_set_of_le (by omega), ← hs] at hs2
    have := congrArg (fun l : List Int => l[i - (bs.length - 4)]?.getD 0) hs2
    simp only [List.getElem?_drop, show bs.length - 4 + (i - (bs.length - 4)) = i by omega] at this
    rw [List.getElem?_set_self hi] at this
    exact hne this.symm

end Go.Proofs.Ytnbhphjpefagjaa
