/- Points: slices.Equal, slices.Clone, All, Best, Far, the document's Best, small. -/
import Derived.Test.YtpnhmcgabnifdaaC
namespace Go.Proofs.Ytpnhmcgabnifdaa
open Go.RowKit

set_option maxHeartbeats 400000 in
theorem equal_ne (aa ab : Option Addr) (ca cb : Nat) (la lb : List Int) (w : World) (h : (la.length : Int) ≠ (lb.length : Int)) :
    Calls Try.prog 36 #[.slice aa la.length ca, .slice ab lb.length cb] w fun e w' => e = .returned (.bool false) ∧ Keeps No w w' := by
  have h1 : ((la.length : Int) == (lb.length : Int)) = false := by simpa using h
  have h2 : ((la.length : Int) != (lb.length : Int)) = true := by simpa using h
  clear h
  generalize la.length = n at *
  generalize lb.length = m at *
  go_enter Try.func36, Try.ntmps36
  go_wp2
  go_ret
  exact ⟨rfl, Keeps.refl _ _⟩

set_option maxHeartbeats 400000 in
theorem equal_nil (aa ab : Option Addr) (ca cb : Nat) (w : World) :
    Calls Try.prog 36 #[.slice aa 0 ca, .slice ab 0 cb] w fun e w' => e = .returned (.bool true) ∧ Keeps No w w' := by
  go_enter Try.func36, Try.ntmps36
  go_wp2
  refine wp_loop_once ?_
  go_wp2
  go_ret
  exact ⟨rfl, Keeps.refl _ _⟩

set_option maxHeartbeats 400000 in
theorem equal_loop (g off g' off' ca cb : Nat) (la lb : List Int) (w : World) (n : Nat) (HN : Hid (la.length = n)) (HL : Hid (lb.length = n)) (hm : n ≤ 9223372036854775807)
    (HA : Hid (∀ j, j < n → w.cell? ⟨g, off + j, none⟩ = some (.int .i64 (la[j]?.getD 0))))
    (HB : Hid (∀ j, j < n → w.cell? ⟨g', off' + j, none⟩ = some (.int .i64 (lb[j]?.getD 0)))) :
    Calls Try.prog 36 #[.slice (some ⟨g, off, none⟩) n ca, .slice (some ⟨g', off', none⟩) n cb] w fun e w' => e = .returned (.bool (decide (la = lb))) ∧ Keeps No w w' := by
  go_enter Try.func36, Try.ntmps36
  go_wp2
  go_loopw [13] (fun i wr => ∃ k : Nat, k ≤ n ∧ i = .int .i64 k ∧ la.take k = lb.take k ∧ Keeps No w wr) (fun i _ => n - (intOf i).toNat)
  case atStart => exact ⟨0, Nat.zero_le _, rfl, rfl, Keeps.refl _ _⟩
  case round =>
    obtain ⟨k, hk, rfl, ht, hkp⟩ := hrel
    have HT := hid ht
    clear ht
    by_cases hlt : k < n
    · have h1 : wr.cell? ⟨g, off + k, none⟩ = some (.int .i64 (la[k]?.getD 0)) := hkp.cellS (p := ⟨g, off + k, none⟩) (HA.out k hlt) (fun h => h)
      have h2 : wr.cell? ⟨g', off' + k, none⟩ = some (.int .i64 (lb[k]?.getD 0)) := hkp.cellS (p := ⟨g', off' + k, none⟩) (HB.out k hlt) (fun h => h)
      by_cases he : la[k]?.getD 0 = lb[k]?.getD 0
      · have HE := hid he
        obtain ⟨x, hx⟩ : ∃ x, x = la[k]?.getD 0 := ⟨_, rfl⟩
        rw [← he, ← hx] at h2
        rw [← hx] at h1
        clear he hx
        go_wp2
        go_quiet (fail)
        go_wp2
        go_roundw
        case rel => exact ⟨k + 1, by omega, by go_num, take_ext (HN.out.trans HL.out.symm) k (by rw [HN.out]; exact hlt) HT.out HE.out, hkp.drewN _⟩
        case measure => simp [intOf]; omega
      · have HE := hid (ne_at k he)
        have he2 : (la[k]?.getD 0 == lb[k]?.getD 0) = false := by simpa using he
        have he3 : (la[k]?.getD 0 != lb[k]?.getD 0) = true := by simpa using he
        clear he
        generalize la[k]?.getD 0 = x at *
        generalize lb[k]?.getD 0 = y at *
        go_wp2
        go_quiet (fail)
        go_wp2
        go_ret
        exact ⟨by rw [decide_eq_false HE.out]; rfl, hkp.drewN _⟩
    · go_wp2
      go_ret
      refine ⟨?_, hkp⟩
      have := HT.out
      rw [List.take_of_length_le (by have := HN.out; omega), List.take_of_length_le (by have := HL.out; omega)] at this
      rw [decide_eq_true this]
      rfl

theorem equal_any (aa ab : Option Addr) (ca cb : Nat) (la lb : List Int) (w : World) (ha : IntsAt w aa la) (hb : IntsAt w ab lb) (hm : la.length ≤ 9223372036854775807) :
    Calls Try.prog 36 #[.slice aa la.length ca, .slice ab lb.length cb] w fun e w' => e = .returned (.bool (decide (la = lb))) ∧ Keeps No w w' := by
  by_cases hl : la.length = lb.length
  · rcases ha with rfl | ⟨g, off, rfl, hca⟩
    · have : lb = [] := List.eq_nil_of_length_eq_zero hl.symm
      subst this
      exact equal_nil _ _ _ _ _
    · rcases hb with rfl | ⟨g', off', rfl, hcb⟩
      · have : la = [] := List.eq_nil_of_length_eq_zero hl
        subst this
        exact equal_nil _ _ _ _ _
      · rw [← hl]
        exact equal_loop g off g' off' ca cb la lb w la.length (hid rfl) (hid hl.symm) hm (hid hca) (hid (by rw [hl]; exact hcb))
  · have hne : ¬ la = lb := fun e => hl (by rw [e])
    rw [decide_eq_false hne]
    exact equal_ne _ _ _ _ _ _ _ (by omega)

/-- The last number at or below t of a list (-1: none). -/
def bestOf (l : List Int) (t : Int) : Int := l.foldl (fun b x => if x ≤ t then x else b) (-1)
theorem bestOf_succ (l : List Int) (t : Int) (k : Nat) (hk : k < l.length) : bestOf (l.take (k + 1)) t = if l[k]?.getD 0 ≤ t then l[k]?.getD 0 else bestOf (l.take k) t := by
  unfold bestOf
  rw [List.take_succ_eq_append_getElem hk, List.foldl_append]
  simp [hk]

set_option maxHeartbeats 400000 in
theorem refbest_loop (ev mo gn la t : Int) (aa : Option Addr) (cap n : Nat) (l : List Int) (w : World) (HN : Hid (l.length = n)) (hm : n ≤ 100000) (HA : Hid (IntsAt w aa l)) :
    Calls Try.prog 23 #[.agg #[.int .i64 ev, .int .i64 mo, .slice aa n cap, .int .i64 gn, .int .i64 la], .int .i64 t] w fun e w' => e = .returned (.int .i64 (bestOf l t)) ∧ Keeps No w w' := by
  go_enter Try.func23, Try.ntmps23
  go_wp2
  go_loop [5, 6] (fun b i => ∃ k : Nat, k ≤ n ∧ i = .int .i64 k ∧ b = .int .i64 (bestOf (l.take k) t)) (fun _ i => n - (intOf i).toNat)
  case atStart => exact ⟨0, Nat.zero_le _, rfl, rfl⟩
  case round =>
    obtain ⟨k, hk, rfl, rfl⟩ := hrel
    by_cases hlt : k < n
    · obtain ⟨g, off, haa, hc'⟩ := HA.out.resolve_left (by rintro rfl; have := HN.out; simp at this; omega)
      subst haa
      have hs := bestOf_succ l t k (by rw [HN.out]; exact hlt)
      have hc : w.cell? ⟨g, off + k, none⟩ = some (.int .i64 (l[k]?.getD 0)) := hc' k (by rw [HN.out]; exact hlt)
      have hb : g < w.heap.size := World.block_lt_of_cell? _ _ hc
      clear hc'
      by_cases hcmp : l[k]?.getD 0 ≤ t
      · rw [if_pos hcmp] at hs
        have HS := hid hs
        clear hs
        go_wp2
        go_round
        case rel => exact ⟨k + 1, by omega, by go_num, by rw [HS.out]⟩
        case measure => simp [intOf]; omega
      · rw [if_neg hcmp] at hs
        have HS := hid hs
        clear hs
        go_wp2
        go_round
        case rel => exact ⟨k + 1, by omega, by go_num, by rw [HS.out]⟩
        case measure => simp [intOf]; omega
    · go_wp2
      go_ret
      refine ⟨?_, (Keeps.refl _ _).alloc _⟩
      rw [List.take_of_length_le (by have := HN.out; omega)]
      rfl

set_option maxHeartbeats 400000 in
theorem small_no (ev mo : Int) (v : Value) (w : World) (h : ¬ okNew ev mo) :
    Calls Try.prog 10 #[.int .i64 ev, .int .i64 mo, v] w fun e w' => e = .returned (.bool false) ∧ Keeps No w w' := by
  go_enter Try.func10, Try.ntmps10
  go_wp2_with (go_at_call 26; refine (refnew_no ev mo _ h).mono ?_; rintro e w' ⟨rfl, hkp⟩)
  go_ret
  exact ⟨rfl, hkp.alloc _⟩

set_option maxHeartbeats 400000 in
theorem small_yes (ev mo : Int) (a : Option Addr) (n c : Nat) (w : World) (h : okNew ev mo) :
    Calls Try.prog 10 #[.int .i64 ev, .int .i64 mo, .slice a n c] w fun e w' => e = .returned (.bool (decide ((n : Int) ≤ 200))) ∧ Keeps No w w' := by
  go_enter Try.func10, Try.ntmps10
  go_wp2_with (go_at_call 26; refine (refnew_ok ev mo _ h).mono ?_; rintro e w' ⟨rfl, hkp⟩)
  go_ret
  exact ⟨rfl, hkp.alloc _⟩

end Go.Proofs.Ytpnhmcgabnifdaa
