/- Points: slices.Equal, slices.Clone, slices.BinarySearch. -/
import Derived.Test.YtpnhmcgabnifdaaB
namespace Go.Proofs.Ytpnhmcgabnifdaa
open Go.RowKit

set_option maxHeartbeats 400000 in
theorem less_any (a b : Int) (w : World) :
    Calls Try.prog 38 #[.int .i64 a, .int .i64 b] w fun e w' => e = .returned (.bool (decide (a < b))) ∧ w = w' := by
  by_cases h : a < b
  · rw [decide_eq_true h]
    go_enter Try.func38, Try.ntmps38
    go_wp2
    go_ret
    exact ⟨rfl, rfl⟩
  · rw [decide_eq_false h]
    go_enter Try.func38, Try.ntmps38
    go_wp2
    go_ret
    exact ⟨rfl, rfl⟩

def Inc (l : List Int) : Prop := ∀ i j, i < j → j < l.length → l[i]?.getD 0 < l[j]?.getD 0

/-- What BinarySearch finds. -/
def Found (l : List Int) (t : Int) (w : World) (e : Ending) (w' : World) : Prop :=
  ∃ i : Nat, i ≤ l.length ∧ (∀ j, j < i → l[j]?.getD 0 < t) ∧ (∀ j, i ≤ j → j < l.length → t ≤ l[j]?.getD 0) ∧
    e = .returned (.tuple #[.int .i64 i, .bool (decide (i < l.length ∧ l[i]?.getD 0 = t))]) ∧ w = w'

theorem inc_lt {l : List Int} {n i j : Nat} (hn : l.length = n) (h : Inc l) (hij : i ≤ j) (hj : j < n) : l[i]?.getD 0 ≤ l[j]?.getD 0 := by
  rcases Nat.lt_or_ge i j with h1 | h1
  · exact Int.le_of_lt (h i j h1 (by omega))
  · obtain rfl : i = j := by omega
    exact Int.le_refl _

theorem u64_in {a : Int} (h : 0 ≤ a) (h2 : a ≤ 9223372036854775807) : IntKind.u64.wrap a = a := by
  simp only [IntKind.wrap]; simp [IntKind.bits, IntKind.signed]; omega

set_option maxHeartbeats 400000 in
theorem search_loop (g off cap n : Nat) (l : List Int) (t : Int) (w : World) (HN : Hid (l.length = n)) (hm : n ≤ 100000) (HI : Hid (Inc l))
    (HA : Hid (∀ j, j < n → w.cell? ⟨g, off + j, none⟩ = some (.int .i64 (l[j]?.getD 0)))) :
    Calls Try.prog 35 #[.slice (some ⟨g, off, none⟩) n cap, .int .i64 t] w (Found l t w) := by
  go_enter Try.func35, Try.ntmps35
  go_wp2
  go_loop [7, 8] (fun i j => ∃ x y : Nat, x ≤ y ∧ y ≤ n ∧ i = .int .i64 x ∧ j = .int .i64 y ∧ (∀ j, j < x → l[j]?.getD 0 < t) ∧ (∀ j, y ≤ j → j < n → t ≤ l[j]?.getD 0)) (fun i j => (intOf j - intOf i).toNat)
  case atStart => exact ⟨0, n, by omega, by omega, rfl, rfl, fun j h => by omega, fun j h h' => by omega⟩
  case round =>
    obtain ⟨x, y, hxy, hyn, rfl, rfl, hlo, hhi⟩ := hrel
    have HLO := hid hlo
    have HHI := hid hhi
    clear hlo hhi
    by_cases hlt : x < y
    · have hmx : x ≤ (x + y) / 2 := by omega
      have hmy : (x + y) / 2 < y := by omega
      have hc := HA.out ((x + y) / 2) (by omega)
      have e1 : IntKind.u64.wrap ((x : Int) + y) = (x : Int) + y := u64_in (by omega) (by omega)
      by_cases hcmp : l[(x + y) / 2]?.getD 0 < t
      · have HC := hid hcmp
        have hd : decide (l[(x + y) / 2]?.getD 0 < t) = true := by simpa using hcmp
        go_wp2_with (go_at_call 38; refine (less_any _ _ _).mono ?_; rintro e w' ⟨rfl, rfl⟩)
        go_round
        case rel => exact ⟨(x + y) / 2 + 1, y, by omega, by omega, by go_num, rfl, fun j hj => Int.lt_of_le_of_lt (inc_lt HN.out HI.out (by omega) (by omega)) HC.out, HHI.out⟩
        case measure => simp [intOf]; omega
      · have HC := hid hcmp
        have hd : decide (l[(x + y) / 2]?.getD 0 < t) = false := by simpa using hcmp
        go_wp2_with (go_at_call 38; refine (less_any _ _ _).mono ?_; rintro e w' ⟨rfl, rfl⟩)
        go_round
        case rel => exact ⟨x, (x + y) / 2, by omega, by omega, rfl, by go_num, HLO.out, fun j hj hj2 => by have := inc_lt HN.out HI.out hj hj2; have := HC.out; omega⟩
        case measure => simp [intOf]; omega
    · obtain rfl : x = y := by omega
      have fin : ∀ b : Bool, b = decide (x < l.length ∧ l[x]?.getD 0 = t) → Found l t w (.returned (.tuple #[.int .i64 x, .bool b])) w := by
        rintro b rfl
        exact ⟨x, by rw [HN.out]; exact hyn, HLO.out, fun j h1 h2 => HHI.out j h1 (by rw [← HN.out]; exact h2), rfl, rfl⟩
      have FIN := hid fin
      clear fin
      by_cases hxn : x < n
      · have hc := HA.out x hxn
        by_cases he : l[x]?.getD 0 = t
        · have F := hid (FIN.out true (by rw [eq_comm, decide_eq_true_iff]; exact ⟨by rw [HN.out]; exact hxn, he⟩))
          clear FIN
          rw [he] at hc
          clear he
          go_wp2_with (first | (go_at_call 39; go_in))
          go_ret2
          exact F.out
        · have F := hid (FIN.out false (by rw [eq_comm, decide_eq_false_iff_not]; exact fun h => he h.2))
          have he2 : (l[x]?.getD 0 == t) = false := by simpa using he
          clear FIN he
          go_wp2_with (first | (go_at_call 39; go_in))
          go_ret2
          exact F.out
      · have F := hid (FIN.out false (by rw [eq_comm, decide_eq_false_iff_not]; exact fun h => hxn (by rw [← HN.out]; exact h.1)))
        clear FIN
        go_wp2_with (first | (go_at_call 39; go_in))
        go_ret2
        exact F.out

end Go.Proofs.Ytpnhmcgabnifdaa
