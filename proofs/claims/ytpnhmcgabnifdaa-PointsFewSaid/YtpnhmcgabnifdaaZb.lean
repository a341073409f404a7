/- Points: the plain law of PointsFew. -/
import Derived.Test.YtpnhmcgabnifdaaZa
namespace Go.Proofs.Ytpnhmcgabnifdaa
open Go.RowKit

/-- What a time that comes leaves: the list, where it is not kept; else its first and its last. -/
theorem come_few {ev mo : Int} {s : St} (h : Good ev mo s) (t : Int) :
    ((comeS ev mo s t).2.1 = false → (comeS ev mo s t).1.l = s.l) ∧
    ((comeS ev mo s t).2.1 = true → 0 ≤ t ∧ 1 ≤ (comeS ev mo s t).1.l.length ∧ (comeS ev mo s t).1.l[(comeS ev mo s t).1.l.length - 1]?.getD 0 = t ∧ (comeS ev mo s t).1.l[0]?.getD 0 = if s.l = [] then t else s.l[0]?.getD 0) := by
  unfold comeS
  split
  · exact ⟨fun _ => rfl, fun e => by simp at e⟩
  · rename_i hn
    have h2 : s.la < t := by omega
    have h0 : 0 ≤ t := by omega
    split
    · exact ⟨fun _ => rfl, fun e => by simp at e⟩
    · have hlen : (s.l ++ [t]).length = s.l.length + 1 := by simp
      have hlast : (s.l ++ [t])[s.l.length]?.getD 0 = t := by rw [getD_snoc _ _ _ (by omega), if_neg (by omega)]
      have hfirst : (s.l ++ [t])[0]?.getD 0 = if s.l = [] then t else s.l[0]?.getD 0 := by
        rw [getD_snoc _ _ _ (by omega)]
        by_cases he : s.l = []
        · simp [he]
        · rw [if_neg he, if_pos (List.length_pos_iff.2 he)]
      split
      · refine ⟨fun e => by simp at e, fun _ => ⟨h0, by show 1 ≤ (s.l ++ [t]).length; omega, ?_, hfirst⟩⟩
        show (s.l ++ [t])[(s.l ++ [t]).length - 1]?.getD 0 = t
        rw [hlen]
        exact hlast
      · rename_i hm
        have hmo := h.mo1
        obtain ⟨b1, b2⟩ := bestIdx_bd (s.l ++ [t]) (by rw [hlen]; omega)
        have hel : ((s.l ++ [t]).eraseIdx (bestIdx (s.l ++ [t]))).length = s.l.length := by rw [List.length_eraseIdx, if_pos (by omega), hlen]; rfl
        refine ⟨fun e => by simp at e, fun _ => ⟨h0, ?_, ?_, ?_⟩⟩
        · show 1 ≤ ((s.l ++ [t]).eraseIdx _).length
          omega
        · show ((s.l ++ [t]).eraseIdx _)[((s.l ++ [t]).eraseIdx _).length - 1]?.getD 0 = t
          rw [hel, getD_erase, if_neg (by omega), show s.l.length - 1 + 1 = s.l.length by omega]
          exact hlast
        · show ((s.l ++ [t]).eraseIdx _)[0]?.getD 0 = _
          rw [getD_erase, if_pos (by omega)]
          exact hfirst

/-- What stands when the times 0 .. k - 1 have come. -/
structure Run (ev : Int) (k : Nat) (s : St) : Prop where
  la : s.la = (k : Int) - 1
  mul : ∀ i, i < s.l.length → ev ∣ s.l[i]?.getD 0
  zero : k = 0 → s.l = [] ∧ s.gn = 0
  some : 1 ≤ k → 1 ≤ s.l.length ∧ s.l[0]?.getD 0 = 0 ∧ s.l[s.l.length - 1]?.getD 0 = ev * ((s.l.length : Int) - 1 + s.gn) ∧ s.l[s.l.length - 1]?.getD 0 ≤ (k : Int) - 1 ∧ (k : Int) - 1 < s.l[s.l.length - 1]?.getD 0 + ev

theorem run_start (ev : Int) : Run ev 0 ⟨[], 0, -1⟩ := ⟨rfl, fun i hi => by simp at hi, fun _ => ⟨rfl, rfl⟩, fun h => by omega⟩

theorem run_step {ev mo : Int} {s : St} {k : Nat} (h : Good ev mo s) (hr : Run ev k s) (hk : k ≤ 400) : Run ev (k + 1) (comeS ev mo s k).1 := by
  have hla := hr.la
  have hev := h.ev1
  unfold comeS
  rw [if_neg (by omega)]
  by_cases hm : ((k : Int) % ev == 0) = false
  · rw [if_pos hm]
    have hm2 : ¬ (k : Int) % ev = 0 := by simpa using hm
    have hk1 : 1 ≤ k := by
      rcases Nat.eq_zero_or_pos k with rfl | h1
      · simp at hm2
      · exact h1
    obtain ⟨h1, h2, h3, h4, h5⟩ := hr.some hk1
    refine ⟨by show (k : Int) = _; omega, hr.mul, fun e => by omega, fun _ => ⟨h1, h2, h3, ?_, ?_⟩⟩
    · show s.l[s.l.length - 1]?.getD 0 ≤ _; omega
    · show _ < s.l[s.l.length - 1]?.getD 0 + ev
      have : ¬ (k : Int) = s.l[s.l.length - 1]?.getD 0 + ev := by
        intro e
        apply hm2
        rw [e]
        exact Int.emod_eq_zero_of_dvd (Int.dvd_add (hr.mul _ (by omega)) (Int.dvd_refl _))
      omega
  · rw [if_neg hm]
    have hm2 : (k : Int) % ev = 0 := by simpa using hm
    have hd : ev ∣ (k : Int) := Int.dvd_of_emod_eq_zero hm2
    have hlen : (s.l ++ [(k : Int)]).length = s.l.length + 1 := by simp
    have hlast : (s.l ++ [(k : Int)])[s.l.length]?.getD 0 = k := by rw [getD_snoc _ _ _ (by omega), if_neg (by omega)]
    have hfirst : (s.l ++ [(k : Int)])[0]?.getD 0 = 0 := by
      rw [getD_snoc _ _ _ (by omega)]
      rcases Nat.eq_zero_or_pos k with rfl | h1
      · rw [(hr.zero rfl).1]; simp
      · obtain ⟨q1, q2, _⟩ := hr.some h1
        rw [if_pos (by omega)]; exact q2
    have hmul : ∀ i, i < (s.l ++ [(k : Int)]).length → ev ∣ (s.l ++ [(k : Int)])[i]?.getD 0 := by
      intro i hi
      rw [getD_snoc _ _ _ hi]
      split
      · exact hr.mul i ‹_›
      · exact hd
    have hkev : (k : Int) = ev * ((s.l.length : Int) + s.gn) := by
      rcases Nat.eq_zero_or_pos k with rfl | h1
      · rw [(hr.zero rfl).1, (hr.zero rfl).2]; simp
      · obtain ⟨q1, q2, q3, q4, q5⟩ := hr.some h1
        obtain ⟨m, hm⟩ := hd
        rw [q3] at q4 q5
        rw [hm] at q4 q5 ⊢
        have e1 : ev * ((s.l.length : Int) - 1 + s.gn) < ev * m := by omega
        have e2 := Int.lt_of_mul_lt_mul_left e1 (by omega)
        have e3 : ev * m ≤ ev * ((s.l.length : Int) + s.gn) := by
          have : ev * ((s.l.length : Int) + s.gn) = ev * ((s.l.length : Int) - 1 + s.gn) + ev := by
            rw [show (s.l.length : Int) + s.gn = ((s.l.length : Int) - 1 + s.gn) + 1 by omega, Int.mul_add, Int.mul_one]
          omega
        have e4 := Int.le_of_mul_le_mul_left e3 (by omega)
        rw [show m = (s.l.length : Int) + s.gn by omega]
    split
    · refine ⟨by show (k : Int) = _; omega, hmul, fun e => by omega, fun _ => ⟨by show 1 ≤ (s.l ++ [(k : Int)]).length; omega, hfirst, ?_, ?_, ?_⟩⟩
      · show (s.l ++ [(k : Int)])[(s.l ++ [(k : Int)]).length - 1]?.getD 0 = ev * (((s.l ++ [(k : Int)]).length : Int) - 1 + s.gn)
        rw [hlen]
        show (s.l ++ [(k : Int)])[s.l.length]?.getD 0 = _
        rw [hlast, hkev]
        congr 1
        omega
      · show (s.l ++ [(k : Int)])[(s.l ++ [(k : Int)]).length - 1]?.getD 0 ≤ _
        rw [hlen]
        show (s.l ++ [(k : Int)])[s.l.length]?.getD 0 ≤ _
        rw [hlast]; omega
      · show _ < (s.l ++ [(k : Int)])[(s.l ++ [(k : Int)]).length - 1]?.getD 0 + ev
        rw [hlen]
        show _ < (s.l ++ [(k : Int)])[s.l.length]?.getD 0 + ev
        rw [hlast]; omega
    · rename_i hm
      have hmo := h.mo1
      obtain ⟨b1, b2⟩ := bestIdx_bd (s.l ++ [(k : Int)]) (by rw [hlen]; omega)
      have hel : ((s.l ++ [(k : Int)]).eraseIdx (bestIdx (s.l ++ [(k : Int)]))).length = s.l.length := by rw [List.length_eraseIdx, if_pos (by omega), hlen]; rfl
      have hl2 : ((s.l ++ [(k : Int)]).eraseIdx (bestIdx (s.l ++ [(k : Int)])))[s.l.length - 1]?.getD 0 = k := by
        rw [getD_erase, if_neg (by omega), show s.l.length - 1 + 1 = s.l.length by omega]
        exact hlast
      refine ⟨by show (k : Int) = _; omega, fun i hi => ?_, fun e => by omega, fun _ => ⟨?_, ?_, ?_, ?_, ?_⟩⟩
      · have hi : i < ((s.l ++ [(k : Int)]).eraseIdx (bestIdx (s.l ++ [(k : Int)]))).length := hi
        show ev ∣ ((s.l ++ [(k : Int)]).eraseIdx _)[i]?.getD 0
        rw [getD_erase]
        split
        · exact hmul i (by omega)
        · exact hmul (i + 1) (by omega)
      · show 1 ≤ ((s.l ++ [(k : Int)]).eraseIdx _).length
        omega
      · show ((s.l ++ [(k : Int)]).eraseIdx _)[0]?.getD 0 = 0
        rw [getD_erase, if_pos (by omega)]
        exact hfirst
      · show ((s.l ++ [(k : Int)]).eraseIdx _)[((s.l ++ [(k : Int)]).eraseIdx _).length - 1]?.getD 0 = ev * ((((s.l ++ [(k : Int)]).eraseIdx _).length : Int) - 1 + (s.gn + 1))
        rw [hel, hl2, hkev]
        congr 1
        omega
      · show ((s.l ++ [(k : Int)]).eraseIdx _)[((s.l ++ [(k : Int)]).eraseIdx _).length - 1]?.getD 0 ≤ _
        rw [hel, hl2]; omega
      · show _ < ((s.l ++ [(k : Int)]).eraseIdx _)[((s.l ++ [(k : Int)]).eraseIdx _).length - 1]?.getD 0 + ev
        rw [hel, hl2]; omega

/-- The last one at or below t, where the first is. -/
theorem best_at (l : List Int) (t : Int) (h1 : l[0]?.getD 0 ≤ t) : ∀ k, 1 ≤ k → k ≤ l.length → ∃ i, i < k ∧ bestOf (l.take k) t = l[i]?.getD 0 ∧ l[i]?.getD 0 ≤ t ∧ (∀ j, i < j → j < k → t < l[j]?.getD 0) := by
  intro k
  induction k with
  | zero => intro h; omega
  | succ k ih =>
    intro _ hk
    rw [bestOf_succ l t k (by omega)]
    by_cases hle : l[k]?.getD 0 ≤ t
    · rw [if_pos hle]
      exact ⟨k, by omega, rfl, hle, fun j _ _ => by omega⟩
    · rw [if_neg hle]
      have h0 : 1 ≤ k := by
        rcases Nat.eq_zero_or_pos k with rfl | h
        · exact (hle h1).elim
        · exact h
      obtain ⟨i, q1, q2, q3, q4⟩ := ih h0 (by omega)
      refine ⟨i, by omega, q2, q3, fun j hj1 hj2 => ?_⟩
      by_cases hj : j = k
      · subst hj; omega
      · exact q4 j hj1 (by omega)

/-- No gap is wider than the step times one and how many were let go. -/
theorem run_gap {ev mo : Int} {s : St} {k : Nat} (h : Good ev mo s) (hr : Run ev k s) (hk : 1 ≤ k) (i : Nat) (hi : i + 1 < s.l.length) : s.l[i + 1]?.getD 0 - s.l[i]?.getD 0 ≤ ev * (1 + s.gn) := by
  have hev := h.ev1
  obtain ⟨h1, h2, h3, _, _⟩ := hr.some hk
  have hM : ∀ j, j < s.l.length → s.l[j]?.getD 0 = ev * (s.l[j]?.getD 0 / ev) := fun j hj => (Int.mul_ediv_cancel' (hr.mul j hj)).symm
  have hup : ∀ d i, i + d < s.l.length → s.l[i]?.getD 0 / ev + d ≤ s.l[i + d]?.getD 0 / ev := by
    intro d
    induction d with
    | zero => intro i hi; simp
    | succ d ih =>
      intro i hi
      have e1 := ih i (by omega)
      have e2 := h.inc (i + d) (i + (d + 1)) (by omega) hi
      rw [hM (i + d) (by omega), hM (i + (d + 1)) hi] at e2
      have e3 := Int.lt_of_mul_lt_mul_left e2 (by omega)
      omega
  have u1 := hup i 0 (by omega)
  have u2 := hup (s.l.length - 1 - (i + 1)) (i + 1) (by omega)
  rw [show i + 1 + (s.l.length - 1 - (i + 1)) = s.l.length - 1 by omega] at u2
  rw [h2] at u1
  rw [h3, Int.mul_ediv_cancel_left _ (by omega)] at u2
  rw [Nat.zero_add] at u1
  simp only [Int.zero_ediv] at u1
  rw [hM (i + 1) hi, hM i (by omega), ← Int.mul_sub]
  exact Int.mul_le_mul_of_nonneg_left (by omega) (by omega)

/-- To come to a time takes less than the step times one and how many were let go. -/
theorem run_far {ev mo : Int} {s : St} {n k : Nat} (h : Good ev mo s) (hr : Run ev n s) (hk : k < n) : 0 ≤ bestOf s.l k ∧ bestOf s.l k ≤ k ∧ (k : Int) - bestOf s.l k < ev * (1 + s.gn) := by
  obtain ⟨h1, h2, h3, h4, h5⟩ := hr.some (by omega)
  obtain ⟨i, q1, q2, q3, q4⟩ := best_at s.l k (by rw [h2]; omega) s.l.length h1 (Nat.le_refl _)
  rw [List.take_length] at q2
  have hlo := h.lo i q1
  have hev := h.ev1
  have hg := h.gn1
  have hm : ev ≤ ev * (1 + s.gn) := by
    have : ev * 1 ≤ ev * (1 + s.gn) := Int.mul_le_mul_of_nonneg_left (by omega) (by omega)
    omega
  rw [q2]
  refine ⟨hlo, q3, ?_⟩
  by_cases hi : i + 1 < s.l.length
  · have := run_gap h hr (by omega) i hi
    have := q4 (i + 1) (by omega) hi
    omega
  · rw [show i = s.l.length - 1 by omega]
    omega

end Go.Proofs.Ytpnhmcgabnifdaa
