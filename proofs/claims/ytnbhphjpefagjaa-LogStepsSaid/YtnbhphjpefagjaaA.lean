/- Log: within, the sums. -/
import Derived.Test.YtnbhphjpefagjaaK
import Derived.Test.YtnbhphjpefagjaaRows
import Derived.Laws.StructEq
namespace Go.Proofs.Ytnbhphjpefagjaa
open Go.RowKit

def inB (a b c : Int) : Bool := decide (b ≤ a) && decide (a ≤ c)

theorem within_int (a b c : Int) (w : World) :
    Calls Try.prog 41 #[.int .i64 a, .int .i64 b, .int .i64 c] w fun e w' => e = .returned (.bool (inB a b c)) ∧ w = w' := by
  unfold inB
  by_cases h : b ≤ a
  · by_cases h2 : a ≤ c
    · go_enter Try.func41, Try.ntmps41
      go_wp2
      go_ret
      exact ⟨by simp [*] <;> omega, rfl⟩
    · go_enter Try.func41, Try.ntmps41
      go_wp2
      go_ret
      exact ⟨by simp [*] <;> omega, rfl⟩
  · go_enter Try.func41, Try.ntmps41
    go_wp2
    go_ret
    exact ⟨by simp [*] <;> omega, rfl⟩

theorem within_trap (a b c : Int) (w : World) :
    Calls Try.prog 47 #[.int .i64 a, .int .i64 b, .int .i64 c] w fun e w' => e = .returned (.bool (inB a b c)) ∧ w = w' := by
  unfold inB
  by_cases h : b ≤ a
  · by_cases h2 : a ≤ c
    · go_enter Try.func47, Try.ntmps47
      go_wp2
      go_ret
      exact ⟨by simp [*] <;> omega, rfl⟩
    · go_enter Try.func47, Try.ntmps47
      go_wp2
      go_ret
      exact ⟨by simp [*] <;> omega, rfl⟩
  · go_enter Try.func47, Try.ntmps47
    go_wp2
    go_ret
    exact ⟨by simp [*] <;> omega, rfl⟩

theorem within_kind (a b c : Int) (w : World) :
    Calls Try.prog 48 #[.int .i64 a, .int .i64 b, .int .i64 c] w fun e w' => e = .returned (.bool (inB a b c)) ∧ w = w' := by
  unfold inB
  by_cases h : b ≤ a
  · by_cases h2 : a ≤ c
    · go_enter Try.func48, Try.ntmps48
      go_wp2
      go_ret
      exact ⟨by simp [*] <;> omega, rfl⟩
    · go_enter Try.func48, Try.ntmps48
      go_wp2
      go_ret
      exact ⟨by simp [*] <;> omega, rfl⟩
  · go_enter Try.func48, Try.ntmps48
    go_wp2
    go_ret
    exact ⟨by simp [*] <;> omega, rfl⟩

/-- The document's within (int64). -/
theorem within_ref (a b c : Int) (w : World) :
    Calls Try.prog 32 #[.int .i64 a, .int .i64 b, .int .i64 c] w fun e w' => e = .returned (.bool (inB a b c)) ∧ w = w' := by
  unfold inB
  by_cases h : b ≤ a
  · by_cases h2 : a ≤ c
    · go_enter Try.func32, Try.ntmps32
      go_wp2
      go_ret
      exact ⟨by simp [*] <;> omega, rfl⟩
    · go_enter Try.func32, Try.ntmps32
      go_wp2
      go_ret
      exact ⟨by simp [*] <;> omega, rfl⟩
  · go_enter Try.func32, Try.ntmps32
    go_wp2
    go_ret
    exact ⟨by simp [*] <;> omega, rfl⟩

theorem num_any (a : Int) (w : World) :
    Calls Try.prog 15 #[.int .i64 a] w fun e w' => e = .returned (.int .i64 a) ∧ w = w' := by
  go_enter Try.func15, Try.ntmps15
  go_wp2
  go_ret
  exact ⟨rfl, rfl⟩

/-- The sum of bytes. -/
def sumStep (n c : Int) : Int := (n * 33 + c) % 4294967296
def sumL (l : List Int) : Int := l.foldl sumStep 5381
theorem sumL_succ (l : List Int) (k : Nat) (hk : k < l.length) : sumL (l.take (k + 1)) = sumStep (sumL (l.take k)) (l[k]?.getD 0) := by
  unfold sumL
  rw [List.take_succ_eq_append_getElem hk, List.foldl_append]
  simp [hk]
theorem sumL_bd (l : List Int) : 0 ≤ sumL l ∧ sumL l < 4294967296 := by
  unfold sumL
  suffices ∀ n : Int, 0 ≤ n ∧ n < 4294967296 → 0 ≤ l.foldl sumStep n ∧ l.foldl sumStep n < 4294967296 from this 5381 (by omega)
  induction l with
  | nil => intro n h; exact h
  | cons c l ih => intro n h; exact ih _ (by unfold sumStep; omega)

/-- All are bytes. -/
def Bytes (l : List Int) : Prop := ∀ j : Nat, 0 ≤ l[j]?.getD 0 ∧ l[j]?.getD 0 < 256

set_option maxHeartbeats 400000 in
theorem sum_any (a : Option Addr) (cap n : Nat) (l : List Int) (w : World) (HN : Hid (l.length = n)) (hm : n ≤ 100000) (HA : Hid (NumsAt .u8 w a l)) (HB : Hid (Bytes l)) :
    Calls Try.prog 21 #[.slice a n cap] w fun e w' => e = .returned (.int .u32 (sumL l)) ∧ w = w' := by
  go_enter Try.func21, Try.ntmps21
  go_wp2
  go_loop [3, 8] (fun s i => ∃ k : Nat, k ≤ n ∧ i = .int .i64 k ∧ s = .int .u32 (sumL (l.take k))) (fun _ i => n - (intOf i).toNat)
  case atStart => exact ⟨0, Nat.zero_le _, rfl, rfl⟩
  case round =>
    obtain ⟨k, hk, rfl, rfl⟩ := hrel
    by_cases hlt : k < n
    · obtain ⟨g, off, rfl, hc⟩ := HA.out.resolve_left (by rintro rfl; have := HN.out; simp at this; omega)
      have x1 := hc k (by rw [HN.out]; exact hlt)
      have hb := HB.out k
      have hs := sumL_bd (l.take k)
      have HS := hid (sumL_succ l k (by rw [HN.out]; exact hlt))
      clear hc
      generalize l[k]?.getD 0 = c at *
      generalize sumL (l.take k) = s at *
      go_wp2
      go_round
      case rel => exact ⟨k + 1, by omega, by go_num, by rw [HS.out]; congr 1; unfold sumStep; omega⟩
      case measure => simp [intOf]; omega
    · go_wp2
      go_ret
      have := HN.out
      rw [List.take_of_length_le (by omega)]
      exact ⟨rfl, rfl⟩

set_option maxHeartbeats 400000 in
theorem refsum_any (a : Option Addr) (cap n : Nat) (l : List Int) (w : World) (HN : Hid (l.length = n)) (hm : n ≤ 100000) (HA : Hid (NumsAt .u8 w a l)) (HB : Hid (Bytes l)) :
    Calls Try.prog 22 #[.slice a n cap] w fun e w' => e = .returned (.int .u32 (sumL l)) ∧ w = w' := by
  go_enter Try.func22, Try.ntmps22
  go_wp2
  go_loop [3, 4] (fun s i => ∃ k : Nat, k ≤ n ∧ i = .int .i64 k ∧ s = .int .i64 (sumL (l.take k))) (fun _ i => n - (intOf i).toNat)
  case atStart => exact ⟨0, Nat.zero_le _, rfl, rfl⟩
  case round =>
    obtain ⟨k, hk, rfl, rfl⟩ := hrel
    by_cases hlt : k < n
    · obtain ⟨g, off, rfl, hc⟩ := HA.out.resolve_left (by rintro rfl; have := HN.out; simp at this; omega)
      have x1 := hc k (by rw [HN.out]; exact hlt)
      have hb := HB.out k
      have hs := sumL_bd (l.take k)
      have HS := hid (sumL_succ l k (by rw [HN.out]; exact hlt))
      clear hc
      generalize l[k]?.getD 0 = c at *
      generalize sumL (l.take k) = s at *
      go_wp2
      go_round
      case rel => exact ⟨k + 1, by omega, by go_num, by rw [HS.out]; congr 1; unfold sumStep; omega⟩
      case measure => simp [intOf]; omega
    · have hs := sumL_bd (l.take k)
      go_wp2
      go_ret
      have := HN.out
      have e := List.take_of_length_le (i := k) (l := l) (by omega)
      rw [e] at hs ⊢
      exact ⟨rfl, rfl⟩

/-- May an outcome be? -/
def endB (k tr th st : Int) : Bool := if k = 4 then inB tr 1 5 && inB th 0 7 && inB st 0 511 else inB k 1 3 && decide (tr = 0 ∧ th = 0 ∧ st = 0)

set_option maxHeartbeats 1000000 in
theorem ends_any (k tr th st : Int) (w : World) :
    Calls Try.prog 42 #[.agg #[.int .i64 k, .int .i64 tr, .int .i64 th, .int .i64 st]] w fun e w' => e = .returned (.bool (endB k tr th st)) ∧ Keeps No w w' := by
  unfold endB
  by_cases h4 : k = 4
  · subst h4
    rw [if_pos rfl]
    generalize h1 : inB tr 1 5 = b1
    generalize h2 : inB th 0 7 = b2
    generalize h3 : inB st 0 511 = b3
    have hc1 := hid (fun W => within_trap tr 1 5 W)
    have hc2 := hid (fun W => within_int th 0 7 W)
    have hc3 := hid (fun W => within_int st 0 511 W)
    rw [h1] at hc1
    rw [h2] at hc2
    rw [h3] at hc3
    clear h1 h2 h3
    cases b1
    · go_enter Try.func42, Try.ntmps42
      go_wp2_with fail
      refine (hc1.out _).mono ?_
      rintro e w' ⟨rfl, rfl⟩
      go_wp2_with fail
      go_ret
      exact ⟨rfl, (Keeps.refl No _).alloc _⟩
    · cases b2
      · go_enter Try.func42, Try.ntmps42
        go_wp2_with fail
        refine (hc1.out _).mono ?_
        rintro e w' ⟨rfl, rfl⟩
        go_wp2_with fail
        refine (hc2.out _).mono ?_
        rintro e w' ⟨rfl, rfl⟩
        go_wp2_with fail
        go_ret
        exact ⟨rfl, (Keeps.refl No _).alloc _⟩
      · go_enter Try.func42, Try.ntmps42
        go_wp2_with fail
        refine (hc1.out _).mono ?_
        rintro e w' ⟨rfl, rfl⟩
        go_wp2_with fail
        refine (hc2.out _).mono ?_
        rintro e w' ⟨rfl, rfl⟩
        go_wp2_with fail
        refine (hc3.out _).mono ?_
        rintro e w' ⟨rfl, rfl⟩
        go_wp2_with fail
        go_ret
        exact ⟨rfl, (Keeps.refl No _).alloc _⟩
  · rw [if_neg h4]
    have he : (k == 4) = false := by simpa using h4
    generalize h1 : inB k 1 3 = b1
    have hc1 := hid (fun W => within_kind k 1 3 W)
    rw [h1] at hc1
    clear h1 h4
    cases b1
    · go_enter Try.func42, Try.ntmps42
      go_wp2_with fail
      refine (hc1.out _).mono ?_
      rintro e w' ⟨rfl, rfl⟩
      go_wp2_with fail
      go_ret
      exact ⟨rfl, (Keeps.refl No _).alloc _⟩
    · go_enter Try.func42, Try.ntmps42
      go_wp2_with fail
      refine (hc1.out _).mono ?_
      rintro e w' ⟨rfl, rfl⟩
      go_wp2_with fail
      all_goals
        go_ret
        exact ⟨by simp [*], (Keeps.refl No _).alloc _⟩

end Go.Proofs.Ytnbhphjpefagjaa
