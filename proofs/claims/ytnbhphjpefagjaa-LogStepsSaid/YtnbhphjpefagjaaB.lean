/- Log: Check. -/
import Derived.Test.YtnbhphjpefagjaaA
namespace Go.Proofs.Ytnbhphjpefagjaa
open Go.RowKit

/-- The address a of a slice of the turns l. -/
def TurnsAt (w : World) (a : Option Addr) (l : List (Int × Int)) : Prop :=
  l = [] ∨ ∃ g off, a = some ⟨g, off, none⟩ ∧ ∀ j, j < l.length → w.cell? ⟨g, off + j * 2, none⟩ = some (.int .i64 (l[j]?.getD (0, 0)).1) ∧ w.cell? ⟨g, off + j * 2 + 1, none⟩ = some (.int .i64 (l[j]?.getD (0, 0)).2)

theorem TurnsAt.keep {S : Nat → Prop} {w w' : World} {a : Option Addr} {l : List (Int × Int)} (h : Keeps S w w') (hi : TurnsAt w a l) (ha : ∀ p, a = some p → ¬ S p.block) : TurnsAt w' a l := by
  rcases hi with rfl | ⟨g, off, rfl, hc⟩
  · exact .inl rfl
  · exact .inr ⟨g, off, rfl, fun j hj => ⟨h.cellS (p := ⟨g, off + j * 2, none⟩) (hc j hj).1 (ha ⟨g, off, none⟩ rfl), h.cellS (p := ⟨g, off + j * 2 + 1, none⟩) (hc j hj).2 (ha ⟨g, off, none⟩ rfl)⟩⟩

/-- May turns be, behind so many steps and a thread? -/
def chk : Int → Int → List (Int × Int) → Bool
  | _, _, [] => true
  | all, last, x :: r => inB x.1 0 7 && (inB x.2 1 (2147483647 - all) && ((x.1 != last) && chk (all + x.2) x.1 r))

theorem chk_drop (all last : Int) (l : List (Int × Int)) (k : Nat) (hk : k < l.length) : chk all last (l.drop k) = (inB (l[k]?.getD (0, 0)).1 0 7 && (inB (l[k]?.getD (0, 0)).2 1 (2147483647 - all) && (((l[k]?.getD (0, 0)).1 != last) && chk (all + (l[k]?.getD (0, 0)).2) (l[k]?.getD (0, 0)).1 (l.drop (k + 1))))) := by
  rw [List.drop_eq_getElem_cons hk]
  simp [chk, hk]

/-- The error's number. -/
def errOf (b : Bool) : Int := if b then 0 else 2

/-- May it be taken? -/
def okB (l : List (Int × Int)) (k tr th st : Int) : Bool := endB k tr th st && chk 0 (-1) l

set_option maxHeartbeats 2000000 in
theorem check_true (h k tr th st : Int) (a : Option Addr) (cap n : Nat) (l : List (Int × Int)) (w : World) (HN : Hid (l.length = n)) (hm : n ≤ 65536) (HA : Hid (TurnsAt w a l)) (he : endB k tr th st = true) :
    Calls Try.prog 26 #[.agg #[.int .u32 h, .slice a n cap, .int .i64 k, .int .i64 tr, .int .i64 th, .int .i64 st]] w fun e w' => e = .returned (.int .i64 (errOf (chk 0 (-1) l))) ∧ Keeps No w w' := by
  have hen := hid (fun W => ends_any k tr th st W)
  rw [he] at hen
  clear he
  go_enter Try.func26, Try.ntmps26
  go_wp2_with fail
  refine (hen.out _).mono ?_
  rintro e w1 ⟨rfl, hk1⟩
  have hn1 := (hk1.block w.heap.size (by simp) (fun e => e)).trans (heap_alloc_new w (.cells #[.int .u32 h, .slice a n cap, .int .i64 k, .int .i64 tr, .int .i64 th, .int .i64 st] 29))
  have c1 : w1.cell? ⟨w.heap.size, 1, none⟩ = some (.slice a n cap) := by rw [cell_of_row w1 _ _ _ _ _ hn1]; rfl
  have HK1 := hid (((Keeps.refl No w).alloc _).trans hk1)
  clear hk1 hn1
  go_wp2_with fail
  clear c1
  go_loopw [3, 4, 5, 20] (fun av fv lv i wr => ∃ (j : Nat) (all last : Int), j ≤ n ∧ i = .int .i64 j ∧ fv = .bool true ∧ av = .int .i64 all ∧ lv = .int .i64 last ∧ 0 ≤ all ∧ all ≤ 2147483647 ∧ chk 0 (-1) l = chk all last (l.drop j) ∧ Keeps No w wr) (fun _ _ _ i _ => n - (intOf i).toNat)
  case atStart => exact ⟨0, 0, -1, Nat.zero_le _, rfl, rfl, rfl, rfl, by omega, by omega, by simp, HK1.out⟩
  case round =>
    obtain ⟨j, all, last, hj, rfl, rfl, rfl, rfl, h0, h1, hc, hkk⟩ := hrel
    by_cases hlt : j < n
    · obtain ⟨g, off, rfl, hcl⟩ := HA.out.resolve_left (by rintro rfl; have := HN.out; simp at this; omega)
      have x1 := hkk.cellS (p := ⟨g, off + j * 2, none⟩) (hcl j (by rw [HN.out]; exact hlt)).1 (fun e => e)
      have x2 := hkk.cellS (p := ⟨g, off + j * 2 + 1, none⟩) (hcl j (by rw [HN.out]; exact hlt)).2 (fun e => e)
      rw [chk_drop _ _ _ _ (by rw [HN.out]; exact hlt)] at hc
      have HC := hid hc
      have HKK := hid hkk
      clear hc hkk hcl
      generalize (l[j]?.getD (0, 0)).1 = x at *
      generalize (l[j]?.getD (0, 0)).2 = y at *
      generalize hb1 : inB x 0 7 = b1 at *
      generalize hb2 : inB y 1 (2147483647 - all) = b2 at *
      generalize hb3 : (x != last) = b3 at *
      have c1 := hid (fun W => within_int x 0 7 W)
      have c2 := hid (fun W => within_int y 1 (2147483647 - all) W)
      rw [hb1] at c1
      rw [hb2] at c2
      have HB2 := hid hb2
      have hne : (x == last) = !b3 := by rw [← hb3]; simp [bne]
      clear hb1 hb2
      cases b1
      · go_wp2_with fail
        refine (c1.out _).mono ?_
        rintro e w' ⟨rfl, rfl⟩
        go_wp2_with fail
        go_ret
        exact ⟨by rw [HC.out]; rfl, HKK.out.alloc _⟩
      cases b2
      · go_wp2_with fail
        refine (c1.out _).mono ?_
        rintro e w' ⟨rfl, rfl⟩
        go_wp2_with fail
        refine (c2.out _).mono ?_
        rintro e w' ⟨rfl, rfl⟩
        go_wp2_with fail
        go_ret
        exact ⟨by rw [HC.out]; rfl, HKK.out.alloc _⟩
      cases b3
      · go_wp2_with fail
        refine (c1.out _).mono ?_
        rintro e w' ⟨rfl, rfl⟩
        go_wp2_with fail
        refine (c2.out _).mono ?_
        rintro e w' ⟨rfl, rfl⟩
        go_wp2_with fail
        go_ret
        exact ⟨by rw [HC.out]; rfl, HKK.out.alloc _⟩
      have hy : 1 ≤ y ∧ y ≤ 2147483647 - all := by have := HB2.out; simpa [inB] using this
      have hw : IntKind.i64.wrap (all + y) = all + y := by rw [IntKind.wrap_i64]; omega
      go_wp2_with fail
      refine (c1.out _).mono ?_
      rintro e w' ⟨rfl, rfl⟩
      go_wp2_with fail
      refine (c2.out _).mono ?_
      rintro e w' ⟨rfl, rfl⟩
      go_wp2_with fail
      go_quiet (fail)
      go_wp2_with fail
      go_roundw
      case rel => exact ⟨j + 1, all + y, x, by omega, by go_num, rfl, rfl, rfl, by omega, by omega, by rw [HC.out]; rfl, (HKK.out.alloc _).drewN _⟩
      case measure => simp [intOf]; omega
    · obtain rfl : j = n := by omega
      have HC := hid hc
      have HKK := hid hkk
      clear hc hkk
      go_wp2_with fail
      go_ret
      refine ⟨?_, HKK.out⟩
      rw [HC.out, List.drop_of_length_le (by rw [HN.out]; exact Nat.le_refl _)]
      rfl

set_option maxHeartbeats 2000000 in
theorem check_false (h k tr th st : Int) (a : Option Addr) (cap n : Nat) (l : List (Int × Int)) (w : World) (HN : Hid (l.length = n)) (hm : n ≤ 65536) (HA : Hid (TurnsAt w a l)) (he : endB k tr th st = false) :
    Calls Try.prog 26 #[.agg #[.int .u32 h, .slice a n cap, .int .i64 k, .int .i64 tr, .int .i64 th, .int .i64 st]] w fun e w' => e = .returned (.int .i64 2) ∧ Keeps No w w' := by
  have hen := hid (fun W => ends_any k tr th st W)
  rw [he] at hen
  clear he
  go_enter Try.func26, Try.ntmps26
  go_wp2_with fail
  refine (hen.out _).mono ?_
  rintro e w1 ⟨rfl, hk1⟩
  have hn1 := (hk1.block w.heap.size (by simp) (fun e => e)).trans (heap_alloc_new w (.cells #[.int .u32 h, .slice a n cap, .int .i64 k, .int .i64 tr, .int .i64 th, .int .i64 st] 29))
  have c1 : w1.cell? ⟨w.heap.size, 1, none⟩ = some (.slice a n cap) := by rw [cell_of_row w1 _ _ _ _ _ hn1]; rfl
  have HK1 := hid (((Keeps.refl No w).alloc _).trans hk1)
  clear hk1 hn1
  go_wp2_with fail
  clear c1
  refine wp_loop_once ?_
  by_cases hlt : 0 < n
  · obtain ⟨g, off, rfl, hcl⟩ := HA.out.resolve_left (by rintro rfl; have := HN.out; simp at this; omega)
    have x1 := HK1.out.cellS (p := ⟨g, off + 0 * 2, none⟩) (hcl 0 (by rw [HN.out]; exact hlt)).1 (fun e => e)
    have x2 := HK1.out.cellS (p := ⟨g, off + 0 * 2 + 1, none⟩) (hcl 0 (by rw [HN.out]; exact hlt)).2 (fun e => e)
    simp only [Nat.zero_mul, Nat.add_zero] at x1 x2
    clear hcl
    go_wp2_with fail
    go_ret
    exact ⟨rfl, HK1.out.alloc _⟩
  · go_wp2_with fail
    go_ret
    exact ⟨rfl, HK1.out⟩

theorem check_any (h k tr th st : Int) (a : Option Addr) (cap n : Nat) (l : List (Int × Int)) (w : World) (HN : Hid (l.length = n)) (hm : n ≤ 65536) (HA : Hid (TurnsAt w a l)) :
    Calls Try.prog 26 #[.agg #[.int .u32 h, .slice a n cap, .int .i64 k, .int .i64 tr, .int .i64 th, .int .i64 st]] w fun e w' => e = .returned (.int .i64 (errOf (okB l k tr th st))) ∧ Keeps No w w' := by
  unfold okB
  cases he : endB k tr th st
  · exact check_false h k tr th st a cap n l w HN hm HA he
  · exact check_true h k tr th st a cap n l w HN hm HA he

end Go.Proofs.Ytnbhphjpefagjaa
