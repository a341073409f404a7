/- Points: loops that read slices. -/
import Derived.Test.YtpnhmcgabnifdaaA
import Derived.Deep.RegionHeld3

namespace Go.Proofs.Ytpnhmcgabnifdaa
open Go.RowKit

theorem take_ext {la lb : List Int} (h : la.length = lb.length) (k : Nat) (hk : k < la.length) (ht : la.take k = lb.take k) (he : la[k]?.getD 0 = lb[k]?.getD 0) : la.take (k + 1) = lb.take (k + 1) := by
  have h2 : k < lb.length := by omega
  rw [List.take_succ_eq_append_getElem hk, List.take_succ_eq_append_getElem h2, ht]
  simp [hk, h2] at he
  rw [he]

theorem ne_at {la lb : List Int} (k : Nat) (he : ¬ la[k]?.getD 0 = lb[k]?.getD 0) : ¬ la = lb := by
  rintro rfl; exact he rfl

set_option maxHeartbeats 400000 in
theorem ints_ne (aa ab : Option Addr) (ca cb : Nat) (la lb : List Int) (w : World) (h : (la.length : Int) ≠ (lb.length : Int)) :
    Calls Try.prog 28 #[.slice aa la.length ca, .slice ab lb.length cb] w fun e w' => e = .returned (.bool false) ∧ Keeps No w w' := by
  have h1 : ((la.length : Int) == (lb.length : Int)) = false := by simpa using h
  have h2 : ((la.length : Int) != (lb.length : Int)) = true := by simpa using h
  clear h
  generalize la.length = n at *
  generalize lb.length = m at *
  go_enter Try.func28, Try.ntmps28
  go_wp2
  go_ret
  exact ⟨rfl, Keeps.refl _ _⟩

set_option maxHeartbeats 400000 in
theorem ints_nil (aa ab : Option Addr) (ca cb : Nat) (w : World) :
    Calls Try.prog 28 #[.slice aa 0 ca, .slice ab 0 cb] w fun e w' => e = .returned (.bool true) ∧ Keeps No w w' := by
  go_enter Try.func28, Try.ntmps28
  go_wp2
  refine wp_loop_once ?_
  go_wp2
  go_ret
  exact ⟨rfl, Keeps.refl _ _⟩

set_option maxHeartbeats 400000 in
theorem ints_loop (g off g' off' ca cb : Nat) (la lb : List Int) (w : World) (n : Nat) (HN : Hid (la.length = n)) (HL : Hid (lb.length = n)) (hm : n ≤ 9223372036854775807)
    (HA : Hid (∀ j, j < n → w.cell? ⟨g, off + j, none⟩ = some (.int .i64 (la[j]?.getD 0))))
    (HB : Hid (∀ j, j < n → w.cell? ⟨g', off' + j, none⟩ = some (.int .i64 (lb[j]?.getD 0)))) :
    Calls Try.prog 28 #[.slice (some ⟨g, off, none⟩) n ca, .slice (some ⟨g', off', none⟩) n cb] w fun e w' => e = .returned (.bool (decide (la = lb))) ∧ Keeps No w w' := by
  go_enter Try.func28, Try.ntmps28
  go_wp2
  go_loopw [5] (fun i wr => ∃ k : Nat, k ≤ n ∧ i = .int .i64 k ∧ la.take k = lb.take k ∧ Keeps No w wr) (fun i _ => n - (intOf i).toNat)
  case atStart => exact ⟨0, Nat.zero_le _, rfl, rfl, Keeps.refl _ _⟩
  case round =>
    obtain ⟨k, hk, rfl, ht, hkp⟩ := hrel
    have HT := hid ht
    clear ht
    by_cases hlt : k < n
    · have h1 : wr.cell? ⟨g, off + k, none⟩ = some (.int .i64 (la[k]?.getD 0)) := hkp.cellS (p := ⟨g, off + k, none⟩) (HA.out k hlt) (fun h => h)
      have h2 : wr.cell? ⟨g', off' + k, none⟩ = some (.int .i64 (lb[k]?.getD 0)) := hkp.cellS (p := ⟨g', off' + k, none⟩) (HB.out k hlt) (fun h => h)
      by_cases he : la[k]?.getD 0 = lb[k]?.getD 0
      · have HE := hid he
        obtain ⟨x, hx⟩ : ∃ x, x = la[k]?.getD 0 := ⟨_, rfl⟩
        rw [← he, ← hx] at h2
        rw [← hx] at h1
        clear he hx
        go_wp2
        go_quiet (fail)
        go_wp2
        go_roundw
        case rel => exact ⟨k + 1, by omega, by go_num, take_ext (HN.out.trans HL.out.symm) k (by rw [HN.out]; exact hlt) HT.out HE.out, hkp.drewN _⟩
        case measure => simp [intOf]; omega
      · have HE := hid (ne_at k he)
        have he2 : (la[k]?.getD 0 == lb[k]?.getD 0) = false := by simpa using he
        have he3 : (la[k]?.getD 0 != lb[k]?.getD 0) = true := by simpa using he
        clear he
        generalize la[k]?.getD 0 = x at *
        generalize lb[k]?.getD 0 = y at *
        go_wp2
        go_quiet (fail)
        go_wp2
        go_ret
        exact ⟨by rw [decide_eq_false HE.out]; rfl, hkp.drewN _⟩
    · go_wp2
      go_ret
      refine ⟨?_, hkp⟩
      have := HT.out
      rw [List.take_of_length_le (by have := HN.out; omega), List.take_of_length_le (by have := HL.out; omega)] at this
      rw [decide_eq_true this]
      rfl

theorem ints_any (aa ab : Option Addr) (ca cb : Nat) (la lb : List Int) (w : World) (ha : IntsAt w aa la) (hb : IntsAt w ab lb) (hm : la.length ≤ 9223372036854775807) :
    Calls Try.prog 28 #[.slice aa la.length ca, .slice ab lb.length cb] w fun e w' => e = .returned (.bool (decide (la = lb))) ∧ Keeps No w w' := by
  by_cases hl : la.length = lb.length
  · rcases ha with rfl | ⟨g, off, rfl, hca⟩
    · have : lb = [] := List.eq_nil_of_length_eq_zero hl.symm
      subst this
      exact ints_nil _ _ _ _ _
    · rcases hb with rfl | ⟨g', off', rfl, hcb⟩
      · have : la = [] := List.eq_nil_of_length_eq_zero hl
        subst this
        exact ints_nil _ _ _ _ _
      · rw [← hl]
        exact ints_loop g off g' off' ca cb la lb w la.length (hid rfl) (hid hl.symm) hm (hid hca) (hid (by rw [hl]; exact hcb))
  · have hne : ¬ la = lb := fun e => hl (by rw [e])
    rw [decide_eq_false hne]
    exact ints_ne _ _ _ _ _ _ _ (by omega)

end Go.Proofs.Ytpnhmcgabnifdaa
