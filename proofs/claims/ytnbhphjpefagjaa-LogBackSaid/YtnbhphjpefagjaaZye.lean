/- Log: there and back: the law. -/
import Derived.Test.YtnbhphjpefagjaaZyb
import Derived.Test.YtnbhphjpefagjaaZyc
import Derived.Test.YtnbhphjpefagjaaZyo
namespace Go.Proofs.Ytnbhphjpefagjaa
open Go.RowKit Go.Shelf

set_option maxRecDepth 100000 in
set_option maxHeartbeats 4000000 in
theorem back_in (m : Nat) (hm : 4 ≤ m) (h k tr th st : Int) (h0 : 0 ≤ h) (h1 : h < 4294967296) (a : Option Addr) (cap n : Nat) (l : List (Int × Int)) (ax : Option Addr) (capx nx : Nat) (zs : List Int) (ab : Option Addr) (capb nb : Nat) (bs : List Int) (at_ : Int) (other : Int) (ho : 0 ≤ other ∧ other < 256) (w : World)
    (HN : Hid (l.length = n)) (HA : Hid (TurnsAt w a l)) (HAB : Hid (∀ p, a = some p → p.block < w.heap.size)) (HX : Hid (zs.length = nx)) (HAX : Hid (NumsAt .i64 w ax zs)) (HL : Hid (bs.length = nb)) (HNB : Hid (ab = none → capb = 0)) (HBL : Hid (NumsAt .u8 w ab bs)) (HBY : Hid (Bytes bs)) :
    CallsIn Fence.wide m Try.prog 11 #[.agg #[.int .u32 h, .slice a n cap, .int .i64 k, .int .i64 tr, .int .i64 th, .int .i64 st], .slice ax nx capx, .agg #[.slice ab nb capb, .int .i64 at_, .int .u8 other]] w fun e w' => e = .returned (.bool true) ∧ Keeps No w w' := by
  by_cases hn : n ≤ 500
  · by_cases hx : nx ≤ 1000
    · by_cases hb : nb ≤ 3000
      · by_cases hall : allIn zs
        · exact back_yes m hm h k tr th st h0 h1 a cap n l ax capx nx zs ab capb nb bs at_ other ho w HN HA HAB HX HAX HL HNB HBL HBY hn hx hb hall
        · exact back_no m hm h k tr th st h0 h1 a cap n l ax capx nx zs ab capb nb bs at_ other ho w HN HA HAB HX HAX HL HNB HBL HBY hn hx hb hall
      · have HW := hid (fun W => works_any W)
        have h1m : 1 ≤ m := by omega
        obtain ⟨W0, hW0⟩ : ∃ W0, W0 = (((w.alloc (.cells #[.int .u32 h, .slice a n cap, .int .i64 k, .int .i64 tr, .int .i64 th, .int .i64 st] 29)).alloc (.cells #[.slice ax nx capx] 48)).alloc (.cells #[.slice ab nb capb, .int .i64 at_, .int .u8 other] 63)).alloc (.cells #[.bool false] 4) := ⟨_, rfl⟩
        have HK0 : Hid (Keeps No w W0) := hid (by rw [hW0]; exact ((((Keeps.refl No w).alloc _).alloc _).alloc _).alloc _)
        have HT0 : Hid (W0.heap[w.heap.size]? = some (.cells #[.int .u32 h, .slice a n cap, .int .i64 k, .int .i64 tr, .int .i64 th, .int .i64 st] 29 (0, 0))) := hid (by
          rw [hW0]; exact box_in (heap_alloc_new w _) ((((Keeps.refl No _).alloc _).alloc _).alloc _))
        have HT1 : Hid (W0.heap[w.heap.size + 1]? = some (.cells #[.slice ax nx capx] 48 (0, 0))) := hid (by
          have := box_in (heap_alloc_new (w.alloc (.cells #[.int .u32 h, .slice a n cap, .int .i64 k, .int .i64 tr, .int .i64 th, .int .i64 st] 29)) (.cells #[.slice ax nx capx] 48)) (((Keeps.refl No _).alloc (.cells #[.slice ab nb capb, .int .i64 at_, .int .u8 other] 63)).alloc (.cells #[.bool false] 4))
          rw [World.size_alloc] at this
          rw [hW0]; exact this)
        have HT2 : Hid (W0.heap[w.heap.size + 1 + 1]? = some (.cells #[.slice ab nb capb, .int .i64 at_, .int .u8 other] 63 (0, 0))) := hid (by
          have := box_in (heap_alloc_new ((w.alloc (.cells #[.int .u32 h, .slice a n cap, .int .i64 k, .int .i64 tr, .int .i64 th, .int .i64 st] 29)).alloc (.cells #[.slice ax nx capx] 48)) (.cells #[.slice ab nb capb, .int .i64 at_, .int .u8 other] 63)) ((Keeps.refl No _).alloc (.cells #[.bool false] 4))
          rw [World.size_alloc, World.size_alloc] at this
          rw [hW0]; exact this)
        have HT3 : Hid (W0.heap[w.heap.size + 1 + 1 + 1]? = some (.cells #[.bool false] 4 (0, 0))) := hid (by
          have := heap_alloc_new (((w.alloc (.cells #[.int .u32 h, .slice a n cap, .int .i64 k, .int .i64 tr, .int .i64 th, .int .i64 st] 29)).alloc (.cells #[.slice ax nx capx] 48)).alloc (.cells #[.slice ab nb capb, .int .i64 at_, .int .u8 other] 63)) (.cells #[.bool false] 4)
          rw [World.size_alloc, World.size_alloc, World.size_alloc] at this
          rw [hW0]; exact this)
        have HZ0 : Hid (W0.heap.size = w.heap.size + 1 + 1 + 1 + 1) := hid (by rw [hW0]; simp)
        refine callsIn_of_wp_marks Try.func11 rfl trivial ?_ rfl
        simp only [Try.ntmps11, List.size_toArray, List.length_cons, List.length_nil, Nat.reduceAdd, Nat.reduceSub, Array.replicate_succ, Array.replicate_zero, List.push_toArray, List.append_toArray, List.nil_append, List.cons_append]
        gi_wp2_with fail
        refine ⟨trivial, ?_⟩
        rw [← hW0]
        clear hW0
        have HKL := HK0
        have HTL := HT3
        refine (callsIn_wide.2 (HW.out _)).mono ?_
        rintro e wf ⟨rfl, hkf⟩
        have HKF := hid (HKL.out.trans hkf)
        have hbf := box_in HTL.out hkf
        have ff := froz (i := 0) hbf
        have cf : wf.cell? ⟨w.heap.size + 1 + 1 + 1, 0, none⟩ = some (.bool false) := by rw [cell_of_row _ _ _ _ _ _ hbf]; rfl
        clear hkf hbf
        gi_wp2_with fail
        have e1 := World.cell?_setCell_same wf _ (.bool true) cf
        refine ⟨.bool true, by simp [results, Try.results11, go_sem, e1], rfl, HKF.out.setCell (.inr (by show _ ≤ w.heap.size + 1 + 1 + 1; omega)) _⟩
    · have HW := hid (fun W => works_any W)
      have h1m : 1 ≤ m := by omega
      obtain ⟨W0, hW0⟩ : ∃ W0, W0 = (((w.alloc (.cells #[.int .u32 h, .slice a n cap, .int .i64 k, .int .i64 tr, .int .i64 th, .int .i64 st] 29)).alloc (.cells #[.slice ax nx capx] 48)).alloc (.cells #[.slice ab nb capb, .int .i64 at_, .int .u8 other] 63)).alloc (.cells #[.bool false] 4) := ⟨_, rfl⟩
      have HK0 : Hid (Keeps No w W0) := hid (by rw [hW0]; exact ((((Keeps.refl No w).alloc _).alloc _).alloc _).alloc _)
      have HT0 : Hid (W0.heap[w.heap.size]? = some (.cells #[.int .u32 h, .slice a n cap, .int .i64 k, .int .i64 tr, .int .i64 th, .int .i64 st] 29 (0, 0))) := hid (by
        rw [hW0]; exact box_in (heap_alloc_new w _) ((((Keeps.refl No _).alloc _).alloc _).alloc _))
      have HT1 : Hid (W0.heap[w.heap.size + 1]? = some (.cells #[.slice ax nx capx] 48 (0, 0))) := hid (by
        have := box_in (heap_alloc_new (w.alloc (.cells #[.int .u32 h, .slice a n cap, .int .i64 k, .int .i64 tr, .int .i64 th, .int .i64 st] 29)) (.cells #[.slice ax nx capx] 48)) (((Keeps.refl No _).alloc (.cells #[.slice ab nb capb, .int .i64 at_, .int .u8 other] 63)).alloc (.cells #[.bool false] 4))
        rw [World.size_alloc] at this
        rw [hW0]; exact this)
      have HT2 : Hid (W0.heap[w.heap.size + 1 + 1]? = some (.cells #[.slice ab nb capb, .int .i64 at_, .int .u8 other] 63 (0, 0))) := hid (by
        have := box_in (heap_alloc_new ((w.alloc (.cells #[.int .u32 h, .slice a n cap, .int .i64 k, .int .i64 tr, .int .i64 th, .int .i64 st] 29)).alloc (.cells #[.slice ax nx capx] 48)) (.cells #[.slice ab nb capb, .int .i64 at_, .int .u8 other] 63)) ((Keeps.refl No _).alloc (.cells #[.bool false] 4))
        rw [World.size_alloc, World.size_alloc] at this
        rw [hW0]; exact this)
      have HT3 : Hid (W0.heap[w.heap.size + 1 + 1 + 1]? = some (.cells #[.bool false] 4 (0, 0))) := hid (by
        have := heap_alloc_new (((w.alloc (.cells #[.int .u32 h, .slice a n cap, .int .i64 k, .int .i64 tr, .int .i64 th, .int .i64 st] 29)).alloc (.cells #[.slice ax nx capx] 48)).alloc (.cells #[.slice ab nb capb, .int .i64 at_, .int .u8 other] 63)) (.cells #[.bool false] 4)
        rw [World.size_alloc, World.size_alloc, World.size_alloc] at this
        rw [hW0]; exact this)
      have HZ0 : Hid (W0.heap.size = w.heap.size + 1 + 1 + 1 + 1) := hid (by rw [hW0]; simp)
      refine callsIn_of_wp_marks Try.func11 rfl trivial ?_ rfl
      simp only [Try.ntmps11, List.size_toArray, List.length_cons, List.length_nil, Nat.reduceAdd, Nat.reduceSub, Array.replicate_succ, Array.replicate_zero, List.push_toArray, List.append_toArray, List.nil_append, List.cons_append]
      gi_wp2_with fail
      refine ⟨trivial, ?_⟩
      rw [← hW0]
      clear hW0
      have HKL := HK0
      have HTL := HT3
      refine (callsIn_wide.2 (HW.out _)).mono ?_
      rintro e wf ⟨rfl, hkf⟩
      have HKF := hid (HKL.out.trans hkf)
      have hbf := box_in HTL.out hkf
      have ff := froz (i := 0) hbf
      have cf : wf.cell? ⟨w.heap.size + 1 + 1 + 1, 0, none⟩ = some (.bool false) := by rw [cell_of_row _ _ _ _ _ _ hbf]; rfl
      clear hkf hbf
      gi_wp2_with fail
      have e1 := World.cell?_setCell_same wf _ (.bool true) cf
      refine ⟨.bool true, by simp [results, Try.results11, go_sem, e1], rfl, HKF.out.setCell (.inr (by show _ ≤ w.heap.size + 1 + 1 + 1; omega)) _⟩
  · have HW := hid (fun W => works_any W)
    have h1m : 1 ≤ m := by omega
    obtain ⟨W0, hW0⟩ : ∃ W0, W0 = (((w.alloc (.cells #[.int .u32 h, .slice a n cap, .int .i64 k, .int .i64 tr, .int .i64 th, .int .i64 st] 29)).alloc (.cells #[.slice ax nx capx] 48)).alloc (.cells #[.slice ab nb capb, .int .i64 at_, .int .u8 other] 63)).alloc (.cells #[.bool false] 4) := ⟨_, rfl⟩
    have HK0 : Hid (Keeps No w W0) := hid (by rw [hW0]; exact ((((Keeps.refl No w).alloc _).alloc _).alloc _).alloc _)
    have HT0 : Hid (W0.heap[w.heap.size]? = some (.cells #[.int .u32 h, .slice a n cap, .int .i64 k, .int .i64 tr, .int .i64 th, .int .i64 st] 29 (0, 0))) := hid (by
      rw [hW0]; exact box_in (heap_alloc_new w _) ((((Keeps.refl No _).alloc _).alloc _).alloc _))
    have HT1 : Hid (W0.heap[w.heap.size + 1]? = some (.cells #[.slice ax nx capx] 48 (0, 0))) := hid (by
      have := box_in (heap_alloc_new (w.alloc (.cells #[.int .u32 h, .slice a n cap, .int .i64 k, .int .i64 tr, .int .i64 th, .int .i64 st] 29)) (.cells #[.slice ax nx capx] 48)) (((Keeps.refl No _).alloc (.cells #[.slice ab nb capb, .int .i64 at_, .int .u8 other] 63)).alloc (.cells #[.bool false] 4))
      rw [World.size_alloc] at this
      rw [hW0]; exact this)
    have HT2 : Hid (W0.heap[w.heap.size + 1 + 1]? = some (.cells #[.slice ab nb capb, .int .i64 at_, .int .u8 other] 63 (0, 0))) := hid (by
      have := box_in (heap_alloc_new ((w.alloc (.cells #[.int .u32 h, .slice a n cap, .int .i64 k, .int .i64 tr, .int .i64 th, .int .i64 st] 29)).alloc (.cells #[.slice ax nx capx] 48)) (.cells #[.slice ab nb capb, .int .i64 at_, .int .u8 other] 63)) ((Keeps.refl No _).alloc (.cells #[.bool false] 4))
      rw [World.size_alloc, World.size_alloc] at this
      rw [hW0]; exact this)
    have HT3 : Hid (W0.heap[w.heap.size + 1 + 1 + 1]? = some (.cells #[.bool false] 4 (0, 0))) := hid (by
      have := heap_alloc_new (((w.alloc (.cells #[.int .u32 h, .slice a n cap, .int .i64 k, .int .i64 tr, .int .i64 th, .int .i64 st] 29)).alloc (.cells #[.slice ax nx capx] 48)).alloc (.cells #[.slice ab nb capb, .int .i64 at_, .int .u8 other] 63)) (.cells #[.bool false] 4)
      rw [World.size_alloc, World.size_alloc, World.size_alloc] at this
      rw [hW0]; exact this)
    have HZ0 : Hid (W0.heap.size = w.heap.size + 1 + 1 + 1 + 1) := hid (by rw [hW0]; simp)
    refine callsIn_of_wp_marks Try.func11 rfl trivial ?_ rfl
    simp only [Try.ntmps11, List.size_toArray, List.length_cons, List.length_nil, Nat.reduceAdd, Nat.reduceSub, Array.replicate_succ, Array.replicate_zero, List.push_toArray, List.append_toArray, List.nil_append, List.cons_append]
    gi_wp2_with fail
    refine ⟨trivial, ?_⟩
    rw [← hW0]
    clear hW0
    have HKL := HK0
    have HTL := HT3
    refine (callsIn_wide.2 (HW.out _)).mono ?_
    rintro e wf ⟨rfl, hkf⟩
    have HKF := hid (HKL.out.trans hkf)
    have hbf := box_in HTL.out hkf
    have ff := froz (i := 0) hbf
    have cf : wf.cell? ⟨w.heap.size + 1 + 1 + 1, 0, none⟩ = some (.bool false) := by rw [cell_of_row _ _ _ _ _ _ hbf]; rfl
    clear hkf hbf
    gi_wp2_with fail
    have e1 := World.cell?_setCell_same wf _ (.bool true) cf
    refine ⟨.bool true, by simp [results, Try.results11, go_sem, e1], rfl, HKF.out.setCell (.inr (by show _ ≤ w.heap.size + 1 + 1 + 1; omega)) _⟩

theorem back_law (h k tr th st : Int) (h0 : 0 ≤ h) (h1 : h < 4294967296) (a : Option Addr) (cap n : Nat) (l : List (Int × Int)) (ax : Option Addr) (capx nx : Nat) (zs : List Int) (ab : Option Addr) (capb nb : Nat) (bs : List Int) (at_ : Int) (other : Int) (ho : 0 ≤ other ∧ other < 256) (w : World)
    (HN : Hid (l.length = n)) (HA : Hid (TurnsAt w a l)) (HAB : Hid (∀ p, a = some p → p.block < w.heap.size)) (HX : Hid (zs.length = nx)) (HAX : Hid (NumsAt .i64 w ax zs)) (HL : Hid (bs.length = nb)) (HNB : Hid (ab = none → capb = 0)) (HBL : Hid (NumsAt .u8 w ab bs)) (HBY : Hid (Bytes bs)) :
    Calls Try.prog 11 #[.agg #[.int .u32 h, .slice a n cap, .int .i64 k, .int .i64 tr, .int .i64 th, .int .i64 st], .slice ax nx capx, .agg #[.slice ab nb capb, .int .i64 at_, .int .u8 other]] w fun e w' => e = .returned (.bool true) ∧ Keeps No w w' :=
  callsIn_wide.1 (back_in 4 (by omega) h k tr th st h0 h1 a cap n l ax capx nx zs ab capb nb bs at_ other ho w HN HA HAB HX HAX HL HNB HBL HBY)

end Go.Proofs.Ytnbhphjpefagjaa
