/- Log: the law of checks. -/
import Derived.Test.YtnbhphjpefagjaaZu
namespace Go.Proofs.Ytnbhphjpefagjaa
open Go.RowKit

theorem box_in {w W : World} {b : Nat} {cs : Array Value} {e : TypeId} (h : w.heap[b]? = some (.cells cs e (0, 0))) (hk : Keeps No w W) : W.heap[b]? = some (.cells cs e (0, 0)) :=
  (hk.block b (Array.getElem?_eq_some_iff.1 h).1 (fun e => e)).trans h

set_option maxRecDepth 100000 in
set_option maxHeartbeats 4000000 in
theorem checks_law (h k tr th st h' k' tr' th' st' : Int) (a a' : Option Addr) (cap cap' n n' : Nat) (l l' : List (Int × Int)) (w : World) (HN : Hid (l.length = n)) (HN' : Hid (l'.length = n')) (HA : Hid (TurnsAt w a l)) (HA' : Hid (TurnsAt w a' l')) :
    Calls Try.prog 9 #[.agg #[.int .u32 h, .slice a n cap, .int .i64 k, .int .i64 tr, .int .i64 th, .int .i64 st], .agg #[.int .u32 h', .slice a' n' cap', .int .i64 k', .int .i64 tr', .int .i64 th', .int .i64 st']] w fun e w' => e = .returned (.bool true) ∧ Keeps No w w' := by
  have HW := hid (fun W => works_any W)
  have HK1 := hid (((Keeps.refl No w).alloc (.cells #[.int .u32 h, .slice a n cap, .int .i64 k, .int .i64 tr, .int .i64 th, .int .i64 st] 29)).alloc (.cells #[.int .u32 h', .slice a' n' cap', .int .i64 k', .int .i64 tr', .int .i64 th', .int .i64 st'] 29))
  have HBA := hid (box_in (heap_alloc_new w (.cells #[.int .u32 h, .slice a n cap, .int .i64 k, .int .i64 tr, .int .i64 th, .int .i64 st] 29)) ((Keeps.refl No _).alloc (.cells #[.int .u32 h', .slice a' n' cap', .int .i64 k', .int .i64 tr', .int .i64 th', .int .i64 st'] 29)))
  have HBB := hid (heap_alloc_new (w.alloc (.cells #[.int .u32 h, .slice a n cap, .int .i64 k, .int .i64 tr, .int .i64 th, .int .i64 st] 29)) (.cells #[.int .u32 h', .slice a' n' cap', .int .i64 k', .int .i64 tr', .int .i64 th', .int .i64 st'] 29))
  obtain ⟨z0, z1, z2, z3, z4, z5⟩ := box6 HBA.out
  obtain ⟨y0, y1, y2, y3, y4, y5⟩ := box6 HBB.out
  rw [World.size_alloc] at HBB y0 y1 y2 y3 y4 y5
  by_cases hm : n ≤ 500
  · by_cases hm' : n' ≤ 500
    · go_enter Try.func9, Try.ntmps9
      go_wp2_with fail
      clear z0 z1 z2 z3 z4 z5 y0 y1 y2 y3 y4 y5
      generalize hW1 : (w.alloc (.cells #[.int .u32 h, .slice a n cap, .int .i64 k, .int .i64 tr, .int .i64 th, .int .i64 st] 29)).alloc (.cells #[.int .u32 h', .slice a' n' cap', .int .i64 k', .int .i64 tr', .int .i64 th', .int .i64 st'] 29) = w1 at *
      clear hW1
      have HC := hid (fun W (hk : Keeps No w1 W) => check_any h k tr th st a cap n l W HN (by omega) (hid (HA.out.keep (HK1.out.trans hk) (fun _ _ e => e))))
      have HR := hid (fun W (hk : Keeps No w1 W) => refcheck_any h k tr th st a cap n l W HN (by omega) (hid (HA.out.keep (HK1.out.trans hk) (fun _ _ e => e))))
      have HS := hid (fun W (hk : Keeps No w1 W) => logsame_any h k tr th st h' k' tr' th' st' a a' cap cap' n n' l l' W HN HN' (by omega) (hid (HA.out.keep (HK1.out.trans hk) (fun _ _ e => e))) (hid (HA'.out.keep (HK1.out.trans hk) (fun _ _ e => e))))
      have HT := hid (fun W (hk : Keeps No w1 W) => same_any h k tr th st h' k' tr' th' st' a a' cap cap' n n' l l' W HN HN' (by omega) (hid (HA.out.keep (HK1.out.trans hk) (fun _ _ e => e))) (hid (HA'.out.keep (HK1.out.trans hk) (fun _ _ e => e))))
      have HSS := hid (fun W (hk : Keeps No w1 W) => logsame_any h k tr th st h k tr th st a a cap cap n n l l W HN HN (by omega) (hid (HA.out.keep (HK1.out.trans hk) (fun _ _ e => e))) (hid (HA.out.keep (HK1.out.trans hk) (fun _ _ e => e))))
      simp only [sameB_refl] at HSS
      generalize errOf (okB l k tr th st) = E at *
      generalize sameB h l k tr th st h' l' k' tr' th' st' = s at *
      refine (wpIn_wide (n := 0)).1 ?_
      refine Sched.region (fun _ => trivial) rfl (by kernel_rfl) [] [.agg #[.int .u32 h, .slice a n cap, .int .i64 k, .int .i64 tr, .int .i64 th, .int .i64 st], .int .i64 E, .int .i64 E, .agg #[.int .u32 h, .slice a n cap, .int .i64 k, .int .i64 tr, .int .i64 th, .int .i64 st], .int .i64 E, .bool true, .bool true, .agg #[.int .u32 h, .slice a n cap, .int .i64 k, .int .i64 tr, .int .i64 th, .int .i64 st], .agg #[.int .u32 h', .slice a' n' cap', .int .i64 k', .int .i64 tr', .int .i64 th', .int .i64 st'], .bool s, .agg #[.int .u32 h, .slice a n cap, .int .i64 k, .int .i64 tr, .int .i64 th, .int .i64 st], .agg #[.int .u32 h', .slice a' n' cap', .int .i64 k', .int .i64 tr', .int .i64 th', .int .i64 st'], .bool s, .bool true, .bool true, .bool true, .agg #[.int .u32 h, .slice a n cap, .int .i64 k, .int .i64 tr, .int .i64 th, .int .i64 st], .agg #[.int .u32 h, .slice a n cap, .int .i64 k, .int .i64 tr, .int .i64 th, .int .i64 st], .bool true, .bool true, .bool true, .bool true, .bool true, .bool true] (fun _ W => Keeps No w1 W) (by kernel_rfl) (by kernel_rfl) rfl (Keeps.refl No w1).drew ?_ ?_
      · simp only [List.zip_cons_cons, List.zip_nil_left]
        iterate 24
          refine Sched.Steps.cons ?_ ?_
          rotate_left
        exact Sched.Steps.nil
        all_goals simp only [List.take_succ_cons, List.take_zero, Sched.putL, Act.put, List.setIfInBounds_toArray, List.set_cons_zero, List.set_cons_succ]
        all_goals intro p hp W hw
        rotate_left 1
        · clear hp
          simp [Sched.Ok, Sched.OkE, go_sem]
          refine (callsIn_wide.2 (HC.out W hw)).mono ?_
          rintro e W' ⟨rfl, h2⟩
          exact ⟨_, rfl, by simp, hw.trans h2⟩
        · clear hp
          simp [Sched.Ok, Sched.OkE, go_sem]
          refine (callsIn_wide.2 (num_any E W)).mono ?_
          rintro e W' ⟨rfl, rfl⟩
          exact ⟨_, rfl, rfl, hw⟩
        rotate_left 1
        · clear hp
          simp [Sched.Ok, Sched.OkE, go_sem]
          refine (callsIn_wide.2 (HR.out W hw)).mono ?_
          rintro e W' ⟨rfl, h2⟩
          exact ⟨_, rfl, by simp, hw.trans h2⟩
        rotate_left 4
        · clear hp
          simp [Sched.Ok, Sched.OkE, go_sem]
          refine (callsIn_wide.2 (HS.out W hw)).mono ?_
          rintro e W' ⟨rfl, h2⟩
          exact ⟨_, rfl, by simp, hw.trans h2⟩
        rotate_left 2
        · clear hp
          simp [Sched.Ok, Sched.OkE, go_sem]
          refine (callsIn_wide.2 (HT.out W hw)).mono ?_
          rintro e W' ⟨rfl, h2⟩
          exact ⟨_, rfl, by simp, hw.trans h2⟩
        rotate_left 5
        · clear hp
          simp [Sched.Ok, Sched.OkE, go_sem]
          refine (callsIn_wide.2 (HSS.out W hw)).mono ?_
          rintro e W' ⟨rfl, h2⟩
          exact ⟨_, rfl, by simp, hw.trans h2⟩
        rotate_left 2
        · clear hp
          simp [Sched.Ok, Sched.OkE, go_sem]
          refine (callsIn_wide.2 (HW.out W)).mono ?_
          rintro e W' ⟨rfl, h2⟩
          exact ⟨_, rfl, by simp, hw.trans h2⟩
        all_goals
          clear hp
          obtain ⟨z0, z1, z2, z3, z4, z5⟩ := box6 (box_in HBA.out hw)
          obtain ⟨y0, y1, y2, y3, y4, y5⟩ := box6 (box_in HBB.out hw)
          simp [Sched.Ok, Sched.OkE, go_sem, *]
      rintro W hw
      simp only [List.zip_cons_cons, List.zip_nil_left, Sched.putL, Act.put, List.setIfInBounds_toArray, List.set_cons_zero, List.set_cons_succ]
      have HKF := hid (HK1.out.trans hw)
      clear hw
      go_wp2_with fail
      go_ret
      exact ⟨rfl, HKF.out⟩
    · go_enter Try.func9, Try.ntmps9
      go_wp2_with fail
      refine (HW.out _).mono ?_
      rintro e w2 ⟨rfl, h2⟩
      go_wp2_with fail
      go_ret
      exact ⟨rfl, HK1.out.trans h2⟩
  · go_enter Try.func9, Try.ntmps9
    go_wp2_with fail
    refine (HW.out _).mono ?_
    rintro e w2 ⟨rfl, h2⟩
    go_wp2_with fail
    go_ret
    exact ⟨rfl, HK1.out.trans h2⟩

end Go.Proofs.Ytnbhphjpefagjaa
