/- Log: the document's Check. -/
import Derived.Test.YtnbhphjpefagjaaB
namespace Go.Proofs.Ytnbhphjpefagjaa
open Go.RowKit

theorem six_cells {w : World} {b : Nat} {a0 a1 a2 a3 a4 a5 : Value} {e : TypeId} {f : Nat × Nat} (h : w.heap[b]? = some (.cells #[a0, a1, a2, a3, a4, a5] e f)) :
    w.cell? ⟨b, 0, none⟩ = some a0 ∧ w.cell? ⟨b, 1, none⟩ = some a1 ∧ w.cell? ⟨b, 2, none⟩ = some a2 ∧ w.cell? ⟨b, 3, none⟩ = some a3 ∧ w.cell? ⟨b, 4, none⟩ = some a4 ∧ w.cell? ⟨b, 5, none⟩ = some a5 := by
  refine ⟨?_, ?_, ?_, ?_, ?_, ?_⟩ <;> (rw [cell_of_row w b _ _ _ _ h]; rfl)

theorem quiet_ret {P : Program} {f : FuncId} {args : Array Value} {w : World} {n : Nat} {v : Value} (h : Calls P f args (w.drewN n) fun e w' => e = .returned v ∧ w.drewN n = w') : Calls P f args (w.drewN n) fun e w'' => e = .returned v ∧ ∃ m, w'' = w.drewN m :=
  h.mono fun _ _ ⟨he, hm⟩ => ⟨he, n, hm.symm⟩

theorem err_chk {l : List (Int × Int)} {k tr th st : Int} (h : chk 0 (-1) l = false) : errOf (okB l k tr th st) = 2 := by
  unfold okB
  rw [h]
  simp [errOf]

theorem err_end {l : List (Int × Int)} {k tr th st : Int} (h : chk 0 (-1) l = true) : errOf (okB l k tr th st) = errOf (endB k tr th st) := by
  unfold okB
  rw [h]
  simp

def lastOf (l : List (Int × Int)) (j : Nat) : Int := if j = 0 then -1 else (l[j - 1]?.getD (0, 0)).1

set_option maxRecDepth 8000 in
set_option maxHeartbeats 4000000 in
theorem refcheck_any (h k tr th st : Int) (a : Option Addr) (cap n : Nat) (l : List (Int × Int)) (w : World) (HN : Hid (l.length = n)) (hm : n ≤ 65536) (HA : Hid (TurnsAt w a l)) :
    Calls Try.prog 14 #[.agg #[.int .u32 h, .slice a n cap, .int .i64 k, .int .i64 tr, .int .i64 th, .int .i64 st]] w fun e w' => e = .returned (.int .i64 (errOf (okB l k tr th st))) ∧ Keeps No w w' := by
  have hb := heap_alloc_new w (.cells #[.int .u32 h, .slice a n cap, .int .i64 k, .int .i64 tr, .int .i64 th, .int .i64 st] 29)
  have hA1 := HA.out.keep ((Keeps.refl No w).alloc (.cells #[.int .u32 h, .slice a n cap, .int .i64 k, .int .i64 tr, .int .i64 th, .int .i64 st] 29)) (fun _ _ e => e)
  have hK1 := (Keeps.refl No w).alloc (.cells #[.int .u32 h, .slice a n cap, .int .i64 k, .int .i64 tr, .int .i64 th, .int .i64 st] 29)
  have hz : w.heap.size < (w.alloc (.cells #[.int .u32 h, .slice a n cap, .int .i64 k, .int .i64 tr, .int .i64 th, .int .i64 st] 29)).heap.size := by simp
  have HB := hid hb
  have HA1 := hid hA1
  have HK1 := hid hK1
  have HZ := hid hz
  have qd : decide (65536 < n) = false := by simp; omega
  clear hb hA1 hK1 hz
  obtain ⟨d0, d1, d2, d3, d4, d5⟩ := six_cells HB.out
  have hq : ∀ (x lo hi : Int) (W : World) (n : Nat), Calls Try.prog 32 #[.int .i64 x, .int .i64 lo, .int .i64 hi] (W.drewN n) fun e w'' => e = .returned (.bool (inB x lo hi)) ∧ ∃ m, w'' = W.drewN m := fun x lo hi W n => quiet_ret (within_ref x lo hi _)
  have HQ := hid hq
  clear hq
  go_enter Try.func14, Try.ntmps14
  go_wp2_with fail
  clear d0 d1 d2 d3 d4 d5
  generalize w.alloc (.cells #[.int .u32 h, .slice a n cap, .int .i64 k, .int .i64 tr, .int .i64 th, .int .i64 st] 29) = w1 at *
  go_loopw [3, 4] (fun av i wr => ∃ (j : Nat) (all : Int), j ≤ n ∧ i = .int .i64 j ∧ av = .int .i64 all ∧ 0 ≤ all ∧ all ≤ 2147483647 ∧ chk 0 (-1) l = chk all (lastOf l j) (l.drop j) ∧ Keeps No w1 wr) (fun _ i _ => n - (intOf i).toNat)
  case atStart => exact ⟨0, 0, Nat.zero_le _, rfl, rfl, by omega, by omega, by simp [lastOf], Keeps.refl No w1⟩
  case round =>
    obtain ⟨j, all, hj, rfl, rfl, h0, h1, hc, hkk⟩ := hrel
    have HKK := hid hkk
    obtain ⟨d0, d1, d2, d3, d4, d5⟩ := six_cells ((hkk.block _ HZ.out (fun e => e)).trans HB.out)
    clear hkk
    by_cases hlt : j < n
    · obtain ⟨g, off, rfl, hcl⟩ := HA1.out.resolve_left (by rintro rfl; have := HN.out; simp at this; omega)
      have x1 := HKK.out.cellS (p := ⟨g, off + j * 2, none⟩) (hcl j (by rw [HN.out]; exact hlt)).1 (fun e => e)
      have x2 := HKK.out.cellS (p := ⟨g, off + j * 2 + 1, none⟩) (hcl j (by rw [HN.out]; exact hlt)).2 (fun e => e)
      have HX0 := hid (fun h0 : 0 < j => HKK.out.cellS (p := ⟨g, off + (j - 1) * 2, none⟩) (hcl (j - 1) (by rw [HN.out]; omega)).1 (fun e => e))
      have hlst : Hid (lastOf l (j + 1) = (l[j]?.getD (0, 0)).1) := hid (by simp [lastOf])
      have hlst0 : Hid (0 < j → lastOf l j = (l[j - 1]?.getD (0, 0)).1) := hid (fun h0 => by simp [lastOf]; omega)
      rw [chk_drop _ _ _ _ (by rw [HN.out]; exact hlt)] at hc
      have HC := hid hc
      clear hc hcl
      generalize (l[j]?.getD (0, 0)).1 = x at *
      generalize (l[j]?.getD (0, 0)).2 = y at *
      cases hb1 : inB x 0 7
      · go_wp2_with fail
        go_quiet ((go_at_call 32; exact HQ.out _ _ _ _ _))
        go_wp2_with fail
        go_ret
        exact ⟨by rw [err_chk (by rw [HC.out, hb1]; rfl)]; rfl, HK1.out.trans ((HKK.out.alloc _).drewN _)⟩
      · have hx07 : 0 ≤ x ∧ x ≤ 7 := by have := hb1; simpa [inB] using this
        cases hb2 : inB y 1 2147483647
        · go_wp2_with fail
          go_quiet ((go_at_call 32; exact HQ.out _ _ _ _ _))
          go_wp2_with fail
          go_ret
          exact ⟨by rw [err_chk (by rw [HC.out, show inB y 1 (2147483647 - all) = false from by have := hb2; simp [inB] at this ⊢; omega]; simp)]; rfl, HK1.out.trans ((HKK.out.alloc _).drewN _)⟩
        · have hy : 1 ≤ y ∧ y ≤ 2147483647 := by have := hb2; simpa [inB] using this
          rcases Nat.eq_zero_or_pos j with hj0 | hj0
          · have q0 : ¬ (0 : Int) < (j : Int) := by omega
            have qj : decide (0 < j) = false := by simp; omega
            have hlne : Hid ((x != lastOf l j) = true) := hid (by subst hj0; simp [lastOf]; omega)
            clear hj0
            go_wp2_with fail
            go_quiet ((go_at_call 32; exact HQ.out _ _ _ _ _))
            by_cases hs : 2147483647 < all + y
            · go_wp2_with fail
              go_ret
              refine ⟨by rw [err_chk (by rw [HC.out, show inB y 1 (2147483647 - all) = false from by simp [inB]; omega]; simp)]; rfl, HK1.out.trans ((HKK.out.alloc _).drewN _)⟩
            · have hs2 : IntKind.i64.wrap (all + y) = all + y := by rw [IntKind.wrap_i64]; omega
              go_wp2_with fail
              go_roundw
              case rel => exact ⟨j + 1, all + y, by omega, by go_num, rfl, by omega, by omega, by rw [HC.out, hb1, hlst.out, show inB y 1 (2147483647 - all) = true from by simp [inB]; omega, hlne.out]; simp, (HKK.out.alloc _).drewN _⟩
              case measure => simp [intOf]; omega
          · have q0 : (0 : Int) < (j : Int) := by omega
            have qj : decide (0 < j) = true := by simp; omega
            have q2 : IntKind.i64.wrap ((j : Int) - 1) = ((j - 1 : Nat) : Int) := by rw [IntKind.wrap_i64]; omega
            have d1a := cell_alloc_of wr (.cells #[.int .i64 x, .int .i64 y] 57) d1
            have x0 := cell_alloc_of wr (.cells #[.int .i64 x, .int .i64 y] 57) (HX0.out hj0)
            have hz := hlst0.out hj0
            generalize (l[j - 1]?.getD (0, 0)).1 = z at *
            by_cases hzx : z = x
            · subst hzx
              have HLZ := hid hz
              clear hz
              go_wp2_with fail
              go_quiet ((go_at_call 32; exact HQ.out _ _ _ _ _))
              go_wp2_with fail
              go_ret
              refine ⟨by rw [err_chk (by rw [HC.out, HLZ.out]; simp)]; rfl, HK1.out.trans ((HKK.out.alloc _).drewN _)⟩
            · have hzb : (z == x) = false := by simpa using hzx
              have hlne : Hid ((x != lastOf l j) = true) := hid (by rw [hz]; simp; exact fun e => hzx e.symm)
              clear hz
              go_wp2_with fail
              go_quiet ((go_at_call 32; exact HQ.out _ _ _ _ _))
              by_cases hs : 2147483647 < all + y
              · go_wp2_with fail
                go_ret
                refine ⟨by rw [err_chk (by rw [HC.out, show inB y 1 (2147483647 - all) = false from by simp [inB]; omega]; simp)]; rfl, HK1.out.trans ((HKK.out.alloc _).drewN _)⟩
              · have hs2 : IntKind.i64.wrap (all + y) = all + y := by rw [IntKind.wrap_i64]; omega
                go_wp2_with fail
                go_roundw
                case rel => exact ⟨j + 1, all + y, by omega, by go_num, rfl, by omega, by omega, by rw [HC.out, hb1, hlst.out, show inB y 1 (2147483647 - all) = true from by simp [inB]; omega, hlne.out]; simp, (HKK.out.alloc _).drewN _⟩
                case measure => simp [intOf]; omega
    · obtain rfl : j = n := by omega
      have hct : chk 0 (-1) l = true := by rw [hc, List.drop_of_length_le (by rw [HN.out]; exact Nat.le_refl _)]; rfl
      have HCT := hid hct
      clear hc hct
      by_cases h4 : k = 4
      · subst h4
        have ht4 : endB 4 tr th st = (inB tr 1 5 && (inB th 0 7 && inB st 0 511)) := by simp [endB, Bool.and_assoc]
        have HT4 := hid ht4
        clear ht4
        have HW := hid within_ref
        cases hb1 : inB tr 1 5 <;> cases hb2 : inB th 0 7 <;> cases hb3 : inB st 0 511
        all_goals
          go_wp2_with (go_at_call 32; refine (HW.out _ _ _ _).mono ?_; rintro e w' ⟨rfl, rfl⟩)
          go_ret
          refine ⟨?_, HK1.out.trans (HKK.out.alloc _)⟩
          rw [err_end HCT.out, HT4.out, hb1, hb2, hb3]
          rfl
      · have ht4 : endB k tr th st = (inB k 1 3 && decide (tr = 0 ∧ th = 0 ∧ st = 0)) := by simp [endB, h4]
        have h4b : (k == 4) = false := by simpa using h4
        have HT4 := hid ht4
        clear ht4
        go_wp2_with fail
        all_goals
          go_ret
          refine ⟨?_, HK1.out.trans (HKK.out.alloc _)⟩
          rw [err_end HCT.out, HT4.out]
          clear HB d0 d1 d2 d3 d4 d5
          congr 2
          simp_all [inB, errOf]
        all_goals (intros; omega)

end Go.Proofs.Ytnbhphjpefagjaa
