/- Log: the document's take. -/
import Derived.Test.YtnbhphjpefagjaaD
namespace Go.Proofs.Ytnbhphjpefagjaa
open Go.RowKit

/-- A number at a place, and the place behind it; 0: none. -/
def takeM (bs : List Int) (k : Nat) : Int × Nat :=
  match numM (bs.drop k) with
  | none => (0, 0)
  | some (v, r) => (v, bs.length - r.length)

theorem takeM_none {bs : List Int} {k : Nat} (h : numM (bs.drop k) = none) : takeM bs k = (0, 0) := by
  unfold takeM; rw [h]
theorem takeM_some {bs : List Int} {k m : Nat} {v : Int} (h : numM (bs.drop k) = some (v, bs.drop m)) (hm : m ≤ bs.length) : takeM bs k = (v, m) := by
  unfold takeM; rw [h]
  simp
  omega

theorem p128 {j : Nat} (hj : j ≤ 4) : (1 : Int) ≤ 128 ^ j ∧ (128 : Int) ^ j ≤ 268435456 := by
  match j, hj with
  | 0, _ => decide
  | 1, _ => decide
  | 2, _ => decide
  | 3, _ => decide
  | 4, _ => decide

theorem p128s (j : Nat) : (128 : Int) ^ (j + 1) = 128 ^ j * 128 := Int.pow_succ ..

theorem p128m {m u : Int} (h0 : 0 ≤ m) (h1 : m < 128) (hu : 0 ≤ u) (hu2 : u ≤ 268435456) : 0 ≤ m * u ∧ m * u + u ≤ u * 128 ∧ m * u ≤ 34359738368 := by
  have h2 : m * u ≤ 127 * u := Int.mul_le_mul_of_nonneg_right (by omega) hu
  have h3 := Int.mul_nonneg h0 hu
  omega

set_option maxHeartbeats 2000000 in
theorem take_any (a : Option Addr) (cap n k : Nat) (bs : List Int) (w : World) (HN : Hid (bs.length = n)) (hn : n ≤ 100000) (hk : k ≤ 100000) (HA : Hid (NumsAt .u8 w a bs)) (HB : Hid (Bytes bs)) :
    Calls Try.prog 39 #[.slice a n cap, .int .i64 k] w fun e w' => e = .returned (.tuple #[.int .i64 (takeM bs k).1, .int .i64 (takeM bs k).2]) ∧ w = w' := by
  go_enter Try.func39, Try.ntmps39
  go_wp2_with fail
  go_loop [6, 7, 8] (fun nv uv i => ∃ (j : Nat) (v : Int), j ≤ 5 ∧ i = .int .i64 (k + j : Nat) ∧ nv = .int .i64 v ∧ uv = .int .i64 (128 ^ j) ∧ 0 ≤ v ∧ v < 128 ^ j ∧ numM (bs.drop k) = numGo (5 - j) j v (bs.drop (k + j))) (fun _ _ i => k + 5 - (intOf i).toNat)
  case atStart => exact ⟨0, 0, by omega, rfl, rfl, by simp, by omega, by simp, by simp [numM]⟩
  case round =>
    obtain ⟨j, v, hj, rfl, rfl, rfl, h0, h1, hm⟩ := hrel
    have HM := hid hm
    clear hm
    have w5 : IntKind.i64.wrap ((k : Int) + 5) = k + 5 := by rw [IntKind.wrap_i64]; omega
    by_cases hin : k + j < n ∧ j < 5
    · obtain ⟨hin, hj5⟩ := hin
      have hlt5 : ((k + j : Nat) : Int) < (k : Int) + 5 := by omega
      obtain ⟨g, off, rfl, hcl⟩ := HA.out.resolve_left (by rintro rfl; have := HN.out; simp at this; omega)
      have x0 := hcl (k + j) (by rw [HN.out]; exact hin)
      have hcr := HB.out (k + j)
      have hdr : bs.drop (k + j) = (bs[k + j]?.getD 0) :: bs.drop (k + j + 1) := by
        have h : k + j < bs.length := by rw [HN.out]; exact hin
        rw [List.drop_eq_getElem_cons h]
        simp [h]
      have HDR := hid hdr
      clear hdr hcl
      generalize bs[k + j]?.getD 0 = c at *
      obtain ⟨p1, p2⟩ := p128 (j := j) (by omega)
      have hps := hid (p128s j)
      have hf5 : Hid (5 - j = (5 - (j + 1)) + 1) := hid (by omega)
      have HU : Hid ((128 : Int) ^ j = (128 : Int) ^ j) := hid rfl
      generalize hu : (128 : Int) ^ j = u at *
      have HU2 := hid hu
      clear hu HU
      have hmu := p128m (m := c % 128) (u := u) (by omega) (by omega) (by omega) p2
      have q1 : IntKind.i64.wrap (c % 128) = c % 128 := by rw [IntKind.wrap_i64]; omega
      have q2 : IntKind.i64.wrap (c % 128 * u) = c % 128 * u := by rw [IntKind.wrap_i64]; omega
      have q3 : IntKind.i64.wrap (v + c % 128 * u) = v + c % 128 * u := by rw [IntKind.wrap_i64]; omega
      have q4 : IntKind.i64.wrap (u * 128) = u * 128 := by rw [IntKind.wrap_i64]; omega
      by_cases hc : c < 128
      · by_cases hz : k < k + j ∧ c = 0
        · obtain ⟨hz1, hz2⟩ := hz
          subst hz2
          go_wp2_with fail
          go_ret2
          rw [takeM_none (by rw [HM.out, hf5.out, HDR.out]; simp [numGo]; omega)]
          exact ⟨rfl, rfl⟩
        · have hz2 : k < k + j → (c == 0) = false := fun h => by have : ¬ c = 0 := fun e => hz ⟨h, e⟩; simpa using this
          have hcc : c % 128 = c := by omega
          rw [hcc] at q1 q2 q3 hmu
          have hres : takeM bs k = (v + c * u, k + j + 1) := by
            refine takeM_some ?_ (by rw [HN.out]; omega)
            rw [HM.out, hf5.out, HDR.out, numGo_done _ _ _ _ _ hc (by by_cases h : j = 0; exact .inl h; exact .inr (fun e => hz ⟨by omega, e⟩))]
            rw [HU2.out]
          have HRES := hid hres
          clear hres
          have q7 : IntKind.i64.wrap (((k + j : Nat) : Int) + 1) = ((k + j + 1 : Nat) : Int) := by rw [IntKind.wrap_i64]; omega
          rcases Nat.eq_zero_or_pos j with hj0 | hj0
          · have q6 : ¬ ((k : Int) < ((k + j : Nat) : Int)) := by omega
            have q8 : decide (k < k + j) = false := by simp; omega
            clear hz hz2 hj0
            go_wp2_with fail
            go_ret2
            rw [HRES.out]
            exact ⟨by simp, rfl⟩
          · have q6 : ((k : Int) < ((k + j : Nat) : Int)) := by omega
            have q8 : decide (k < k + j) = true := by simp; omega
            have q9 := hz2 (by omega)
            clear hz hz2
            go_wp2_with fail
            go_ret2
            rw [HRES.out]
            exact ⟨by simp, rfl⟩
      · have hc2 : 128 ≤ c := by omega
        go_wp2_with fail
        go_round
        case rel => exact ⟨j + 1, v + c % 128 * u, by omega, by go_num, rfl, by rw [hps.out], by omega, by rw [hps.out]; omega, by rw [HM.out, hf5.out, HDR.out, numGo_more _ _ _ _ _ hc2, HU2.out]; rfl⟩
        case measure => simp [intOf]; omega
    · have hnone : numM (bs.drop k) = none := by
        rw [HM.out]
        by_cases hj5 : j = 5
        · subst hj5; rfl
        · rw [List.drop_of_length_le (by rw [HN.out]; omega)]
          cases h5 : 5 - j with
          | zero => rfl
          | succ f => rfl
      by_cases hin2 : k + j < n
      · have hge : ¬ ((k + j : Nat) : Int) < (k : Int) + 5 := by omega
        go_wp2_with fail
        go_ret2
        rw [takeM_none hnone]
        exact ⟨rfl, rfl⟩
      · go_wp2_with fail
        go_ret2
        rw [takeM_none hnone]
        exact ⟨rfl, rfl⟩

end Go.Proofs.Ytnbhphjpefagjaa
