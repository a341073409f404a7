/- Log: the same turns? (the document's, and slices.Equal). -/
import Derived.Test.YtnbhphjpefagjaaB
namespace Go.Proofs.Ytnbhphjpefagjaa
open Go.RowKit

theorem take_ext2 {la lb : List (Int × Int)} (h : la.length = lb.length) (k : Nat) (hk : k < la.length) (ht : la.take k = lb.take k) (he : la[k]?.getD (0, 0) = lb[k]?.getD (0, 0)) : la.take (k + 1) = lb.take (k + 1) := by
  have h2 : k < lb.length := by omega
  rw [List.take_succ_eq_append_getElem hk, List.take_succ_eq_append_getElem h2, ht]
  simp only [List.getElem?_eq_getElem hk, List.getElem?_eq_getElem h2, Option.getD_some] at he
  rw [he]

theorem ne_at2 {la lb : List (Int × Int)} (k : Nat) (h : ¬ la[k]?.getD (0, 0) = lb[k]?.getD (0, 0)) : ¬ la = lb := fun e => h (by rw [e])

set_option maxHeartbeats 1000000 in
theorem sameturns_ne (aa ab : Option Addr) (ca cb na nb : Nat) (w : World) (h : (na : Int) ≠ (nb : Int)) :
    Calls Try.prog 25 #[.slice aa na ca, .slice ab nb cb] w fun e w' => e = .returned (.bool false) ∧ ∃ m, w' = w.drewN m := by
  have h2 : ((na : Int) != (nb : Int)) = true := by simpa using h
  have h1 : ((na : Int) == (nb : Int)) = false := by simpa using h
  clear h
  go_enter Try.func25, Try.ntmps25
  go_wp2
  go_ret
  exact ⟨rfl, 0, rfl⟩

set_option maxHeartbeats 1000000 in
theorem sameturns_loop (aa ab : Option Addr) (ca cb : Nat) (la lb : List (Int × Int)) (w : World) (n : Nat) (HN : Hid (la.length = n)) (HL : Hid (lb.length = n)) (hm : n ≤ 100000) (HA : Hid (TurnsAt w aa la)) (HB : Hid (TurnsAt w ab lb)) :
    Calls Try.prog 25 #[.slice aa n ca, .slice ab n cb] w fun e w' => e = .returned (.bool (decide (la = lb))) ∧ ∃ m, w' = w.drewN m := by
  go_enter Try.func25, Try.ntmps25
  go_wp2
  go_loopw [5] (fun i wr => ∃ k : Nat, k ≤ n ∧ i = .int .i64 k ∧ la.take k = lb.take k ∧ ∃ m, wr = w.drewN m) (fun i _ => n - (intOf i).toNat)
  case atStart => exact ⟨0, Nat.zero_le _, rfl, rfl, 0, rfl⟩
  case round =>
    obtain ⟨k, hk, rfl, ht, m0, rfl⟩ := hrel
    have HT := hid ht
    clear ht
    by_cases hlt : k < n
    · obtain ⟨g, off, rfl, hca⟩ := HA.out.resolve_left (by rintro rfl; have := HN.out; simp at this; omega)
      obtain ⟨g', off', rfl, hcb⟩ := HB.out.resolve_left (by rintro rfl; have := HL.out; simp at this; omega)
      have x1 := (hca k (by rw [HN.out]; exact hlt)).1
      have x2 := (hca k (by rw [HN.out]; exact hlt)).2
      have y1 := (hcb k (by rw [HL.out]; exact hlt)).1
      have y2 := (hcb k (by rw [HL.out]; exact hlt)).2
      have HE := hid (take_ext2 (HN.out.trans HL.out.symm) k (by rw [HN.out]; exact hlt) HT.out)
      have HNE := hid (ne_at2 (la := la) (lb := lb) k)
      clear hca hcb
      generalize la[k]?.getD (0, 0) = p at *
      generalize lb[k]?.getD (0, 0) = q at *
      obtain ⟨x, y⟩ := p
      obtain ⟨x', y'⟩ := q
      dsimp only at x1 x2 y1 y2
      have fin : ∀ m1, (x, y) ≠ (x', y') → Ending.returned (.bool false) = .returned (.bool (decide (la = lb))) ∧ ∃ m, (w.drewN m1) = w.drewN m := fun m1 h => ⟨by rw [decide_eq_false (HNE.out h)], _, rfl⟩
      have FIN := hid fin
      clear fin
      by_cases hx : x = x'
      · subst hx
        by_cases hy : y = y'
        · subst hy
          go_wp2
          go_quiet (fail)
          go_wp2
          go_roundw
          case rel => exact ⟨k + 1, by omega, by go_num, by simpa using HE.out, by first | exact ⟨_, rfl⟩ | exact ⟨_, World.drewN_drewN _ _ _⟩⟩
          case measure => simp [intOf]; omega
        · have q1 : (y == y') = false := by simpa using hy
          have HY := hid hy
          clear hy
          go_wp2
          go_quiet (fail)
          go_wp2
          go_ret
          refine ⟨?_, by first | exact ⟨_, rfl⟩ | exact ⟨_, World.drewN_drewN _ _ _⟩⟩
          exact (FIN.out 0 (fun e => HY.out (by cases e; rfl))).1
      · have q1 : (x == x') = false := by simpa using hx
        have HY := hid hx
        clear hx
        go_wp2
        go_quiet (fail)
        go_wp2
        go_ret
        refine ⟨?_, by first | exact ⟨_, rfl⟩ | exact ⟨_, World.drewN_drewN _ _ _⟩⟩
        exact (FIN.out 0 (fun e => HY.out (by cases e; rfl))).1
    · go_wp2
      go_ret
      refine ⟨?_, _, rfl⟩
      have := HT.out
      rw [List.take_of_length_le (by have := HN.out; omega), List.take_of_length_le (by have := HL.out; omega)] at this
      rw [decide_eq_true this]
      rfl

theorem sameturns_any (aa ab : Option Addr) (ca cb na nb : Nat) (la lb : List (Int × Int)) (w : World) (HN : Hid (la.length = na)) (HL : Hid (lb.length = nb)) (hm : na ≤ 100000) (HA : Hid (TurnsAt w aa la)) (HB : Hid (TurnsAt w ab lb)) :
    Calls Try.prog 25 #[.slice aa na ca, .slice ab nb cb] w fun e w' => e = .returned (.bool (decide (la = lb))) ∧ ∃ m, w' = w.drewN m := by
  by_cases h : na = nb
  · subst h
    exact sameturns_loop aa ab ca cb la lb w na HN HL hm HA HB
  · have hne : ¬ la = lb := fun e => h (by rw [← HN.out, ← HL.out, e])
    rw [decide_eq_false hne]
    exact sameturns_ne aa ab ca cb na nb w (by omega)

set_option maxHeartbeats 1000000 in
theorem equal_ne (aa ab : Option Addr) (ca cb na nb : Nat) (w : World) (h : (na : Int) ≠ (nb : Int)) :
    Calls Try.prog 43 #[.slice aa na ca, .slice ab nb cb] w fun e w' => e = .returned (.bool false) ∧ ∃ m, w' = w.drewN m := by
  have h2 : ((na : Int) != (nb : Int)) = true := by simpa using h
  have h1 : ((na : Int) == (nb : Int)) = false := by simpa using h
  clear h
  go_enter Try.func43, Try.ntmps43
  go_wp2
  go_ret
  exact ⟨rfl, 0, rfl⟩

set_option maxHeartbeats 1000000 in
theorem equal_loop (aa ab : Option Addr) (ca cb : Nat) (la lb : List (Int × Int)) (w : World) (n : Nat) (HN : Hid (la.length = n)) (HL : Hid (lb.length = n)) (hm : n ≤ 100000) (HA : Hid (TurnsAt w aa la)) (HB : Hid (TurnsAt w ab lb)) :
    Calls Try.prog 43 #[.slice aa n ca, .slice ab n cb] w fun e w' => e = .returned (.bool (decide (la = lb))) ∧ ∃ m, w' = w.drewN m := by
  go_enter Try.func43, Try.ntmps43
  go_wp2
  go_loopw [13] (fun i wr => ∃ k : Nat, k ≤ n ∧ i = .int .i64 k ∧ la.take k = lb.take k ∧ ∃ m, wr = w.drewN m) (fun i _ => n - (intOf i).toNat)
  case atStart => exact ⟨0, Nat.zero_le _, rfl, rfl, 0, rfl⟩
  case round =>
    obtain ⟨k, hk, rfl, ht, m0, rfl⟩ := hrel
    have HT := hid ht
    clear ht
    by_cases hlt : k < n
    · obtain ⟨g, off, rfl, hca⟩ := HA.out.resolve_left (by rintro rfl; have := HN.out; simp at this; omega)
      obtain ⟨g', off', rfl, hcb⟩ := HB.out.resolve_left (by rintro rfl; have := HL.out; simp at this; omega)
      have x1 := (hca k (by rw [HN.out]; exact hlt)).1
      have x2 := (hca k (by rw [HN.out]; exact hlt)).2
      have y1 := (hcb k (by rw [HL.out]; exact hlt)).1
      have y2 := (hcb k (by rw [HL.out]; exact hlt)).2
      have HE := hid (take_ext2 (HN.out.trans HL.out.symm) k (by rw [HN.out]; exact hlt) HT.out)
      have HNE := hid (ne_at2 (la := la) (lb := lb) k)
      clear hca hcb
      generalize la[k]?.getD (0, 0) = p at *
      generalize lb[k]?.getD (0, 0) = q at *
      obtain ⟨x, y⟩ := p
      obtain ⟨x', y'⟩ := q
      dsimp only at x1 x2 y1 y2
      have fin : ∀ m1, (x, y) ≠ (x', y') → Ending.returned (.bool false) = .returned (.bool (decide (la = lb))) ∧ ∃ m, (w.drewN m1) = w.drewN m := fun m1 h => ⟨by rw [decide_eq_false (HNE.out h)], _, rfl⟩
      have FIN := hid fin
      clear fin
      by_cases hx : x = x'
      · subst hx
        by_cases hy : y = y'
        · subst hy
          go_wp2
          go_quiet (fail)
          go_wp2
          go_roundw
          case rel => exact ⟨k + 1, by omega, by go_num, by simpa using HE.out, by first | exact ⟨_, rfl⟩ | exact ⟨_, World.drewN_drewN _ _ _⟩⟩
          case measure => simp [intOf]; omega
        · have q1 : (y == y') = false := by simpa using hy
          have HY := hid hy
          clear hy
          go_wp2
          go_quiet (fail)
          go_wp2
          go_ret
          refine ⟨?_, by first | exact ⟨_, rfl⟩ | exact ⟨_, World.drewN_drewN _ _ _⟩⟩
          exact (FIN.out 0 (fun e => HY.out (by cases e; rfl))).1
      · have q1 : (x == x') = false := by simpa using hx
        have HY := hid hx
        clear hx
        go_wp2
        go_quiet (fail)
        go_wp2
        go_ret
        refine ⟨?_, by first | exact ⟨_, rfl⟩ | exact ⟨_, World.drewN_drewN _ _ _⟩⟩
        exact (FIN.out 0 (fun e => HY.out (by cases e; rfl))).1
    · go_wp2
      go_ret
      refine ⟨?_, _, rfl⟩
      have := HT.out
      rw [List.take_of_length_le (by have := HN.out; omega), List.take_of_length_le (by have := HL.out; omega)] at this
      rw [decide_eq_true this]
      rfl

theorem equal_any (aa ab : Option Addr) (ca cb na nb : Nat) (la lb : List (Int × Int)) (w : World) (HN : Hid (la.length = na)) (HL : Hid (lb.length = nb)) (hm : na ≤ 100000) (HA : Hid (TurnsAt w aa la)) (HB : Hid (TurnsAt w ab lb)) :
    Calls Try.prog 43 #[.slice aa na ca, .slice ab nb cb] w fun e w' => e = .returned (.bool (decide (la = lb))) ∧ ∃ m, w' = w.drewN m := by
  by_cases h : na = nb
  · subst h
    exact equal_loop aa ab ca cb la lb w na HN HL hm HA HB
  · have hne : ¬ la = lb := fun e => h (by rw [← HN.out, ← HL.out, e])
    rw [decide_eq_false hne]
    exact equal_ne aa ab ca cb na nb w (by omega)

/-- Is what was taken the same? -/
def sameB (h : Int) (l : List (Int × Int)) (k tr th st : Int) (h' : Int) (l' : List (Int × Int)) (k' tr' th' st' : Int) : Bool := decide (h = h') && (decide (l = l') && decide (k = k' ∧ tr = tr' ∧ th = th' ∧ st = st'))

set_option maxHeartbeats 2000000 in
theorem same_any (h k tr th st h' k' tr' th' st' : Int) (a a' : Option Addr) (c c' n n' : Nat) (l l' : List (Int × Int)) (w : World) (HN : Hid (l.length = n)) (HN' : Hid (l'.length = n')) (hm : n ≤ 100000) (HA : Hid (TurnsAt w a l)) (HA' : Hid (TurnsAt w a' l')) :
    Calls Try.prog 19 #[.agg #[.int .u32 h, .slice a n c, .int .i64 k, .int .i64 tr, .int .i64 th, .int .i64 st], .agg #[.int .u32 h', .slice a' n' c', .int .i64 k', .int .i64 tr', .int .i64 th', .int .i64 st']] w fun e w' => e = .returned (.bool (sameB h l k tr th st h' l' k' tr' th' st')) ∧ Keeps No w w' := by
  unfold sameB
  have hk2 : Keeps No w ((w.alloc (.cells #[.int .u32 h, .slice a n c, .int .i64 k, .int .i64 tr, .int .i64 th, .int .i64 st] 29)).alloc (.cells #[.int .u32 h', .slice a' n' c', .int .i64 k', .int .i64 tr', .int .i64 th', .int .i64 st'] 29)) := ((Keeps.refl No w).alloc _).alloc _
  have HC := hid (sameturns_any a a' c c' n n' l l' _ HN HN' hm (hid (HA.out.keep hk2 (fun _ _ e => e))) (hid (HA'.out.keep hk2 (fun _ _ e => e))))
  have HK2 := hid hk2
  clear hk2
  by_cases hh : h = h'
  · subst hh
    rw [decide_eq_true rfl, Bool.true_and]
    cases hl : decide (l = l')
    · rw [hl] at HC
      clear hl
      go_enter Try.func19, Try.ntmps19
      go_wp2_with fail
      refine HC.out.mono ?_
      rintro e w3 ⟨rfl, m, rfl⟩
      go_wp2_with fail
      go_ret
      exact ⟨rfl, HK2.out.drewN m⟩
    · rw [hl] at HC
      clear hl
      go_enter Try.func19, Try.ntmps19
      go_wp2_with fail
      refine HC.out.mono ?_
      rintro e w3 ⟨rfl, m, rfl⟩
      go_wp2_with fail
      all_goals
        go_ret
        exact ⟨by simp [*], (((Keeps.refl No w).alloc _).alloc _).drewN m⟩
  · have q1 : (h == h') = false := by simpa using hh
    rw [decide_eq_false hh, Bool.false_and]
    clear hh
    go_enter Try.func19, Try.ntmps19
    go_wp2_with fail
    go_ret
    exact ⟨rfl, HK2.out⟩

set_option maxHeartbeats 2000000 in
theorem logsame_any (h k tr th st h' k' tr' th' st' : Int) (a a' : Option Addr) (c c' n n' : Nat) (l l' : List (Int × Int)) (w : World) (HN : Hid (l.length = n)) (HN' : Hid (l'.length = n')) (hm : n ≤ 100000) (HA : Hid (TurnsAt w a l)) (HA' : Hid (TurnsAt w a' l')) :
    Calls Try.prog 27 #[.agg #[.int .u32 h, .slice a n c, .int .i64 k, .int .i64 tr, .int .i64 th, .int .i64 st], .agg #[.int .u32 h', .slice a' n' c', .int .i64 k', .int .i64 tr', .int .i64 th', .int .i64 st']] w fun e w' => e = .returned (.bool (sameB h l k tr th st h' l' k' tr' th' st')) ∧ Keeps No w w' := by
  unfold sameB
  have hk2 : Keeps No w ((w.alloc (.cells #[.int .u32 h, .slice a n c, .int .i64 k, .int .i64 tr, .int .i64 th, .int .i64 st] 29)).alloc (.cells #[.int .u32 h', .slice a' n' c', .int .i64 k', .int .i64 tr', .int .i64 th', .int .i64 st'] 29)) := ((Keeps.refl No w).alloc _).alloc _
  have HC := hid (equal_any a a' c c' n n' l l' _ HN HN' hm (hid (HA.out.keep hk2 (fun _ _ e => e))) (hid (HA'.out.keep hk2 (fun _ _ e => e))))
  have HK2 := hid hk2
  clear hk2
  by_cases hh : h = h'
  · subst hh
    rw [decide_eq_true rfl, Bool.true_and]
    cases hl : decide (l = l')
    · rw [hl] at HC
      clear hl
      go_enter Try.func27, Try.ntmps27
      go_wp2_with fail
      refine HC.out.mono ?_
      rintro e w3 ⟨rfl, m, rfl⟩
      go_wp2_with fail
      go_ret
      exact ⟨rfl, HK2.out.drewN m⟩
    · rw [hl] at HC
      clear hl
      go_enter Try.func27, Try.ntmps27
      go_wp2_with fail
      refine HC.out.mono ?_
      rintro e w3 ⟨rfl, m, rfl⟩
      go_wp2_with fail
      all_goals
        go_ret
        exact ⟨by simp [*], (((Keeps.refl No w).alloc _).alloc _).drewN m⟩
  · have q1 : (h == h') = false := by simpa using hh
    rw [decide_eq_false hh, Bool.false_and]
    clear hh
    go_enter Try.func27, Try.ntmps27
    go_wp2_with fail
    go_ret
    exact ⟨rfl, HK2.out⟩

end Go.Proofs.Ytnbhphjpefagjaa
