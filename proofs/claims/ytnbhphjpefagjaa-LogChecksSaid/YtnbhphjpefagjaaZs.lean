/- Log: the laws of what was taken as bytes. -/
import Derived.Test.YtnbhphjpefagjaaZq
namespace Go.Proofs.Ytnbhphjpefagjaa
open Go.RowKit

set_option maxRecDepth 100000 in
set_option maxHeartbeats 4000000 in
theorem encodes_law (h k tr th st : Int) (h0 : 0 ≤ h) (h1 : h < 4294967296) (a : Option Addr) (cap n : Nat) (l : List (Int × Int)) (w : World) (HN : Hid (l.length = n)) (HA : Hid (TurnsAt w a l)) (HB : Hid (∀ p, a = some p → p.block < w.heap.size)) :
    Calls Try.prog 3 #[.agg #[.int .u32 h, .slice a n cap, .int .i64 k, .int .i64 tr, .int .i64 th, .int .i64 st]] w fun e w' => e = .returned (.bool true) ∧ Keeps No w w' := by
  have HW := hid (fun W => works_any W)
  have HK1 := hid ((Keeps.refl No w).alloc (.cells #[.int .u32 h, .slice a n cap, .int .i64 k, .int .i64 tr, .int .i64 th, .int .i64 st] 29))
  have HBX1 := hid (heap_alloc_new w (.cells #[.int .u32 h, .slice a n cap, .int .i64 k, .int .i64 tr, .int .i64 th, .int .i64 st] 29))
  have HTA1 := hid (HA.out.keep HK1.out (fun _ _ e => e))
  obtain ⟨z0, z1, z2, z3, z4, z5⟩ := box6 HBX1.out
  by_cases hm : n ≤ 500
  · have hen := hid (encode_any h k tr th st h0 h1 a cap n l _ HN (by omega) HTA1 (hid (fun p hp => Nat.lt_of_lt_of_le (HB.out p hp) HK1.out.size)))
    go_enter Try.func3, Try.ntmps3
    go_wp2_with fail
    clear z0 z1 z2 z3 z4 z5
    refine hen.out.mono ?_
    clear hen
    rintro e w2 ⟨hk2, he0, he1⟩
    have HBX2 := hid ((hk2.block w.heap.size (Array.getElem?_eq_some_iff.1 HBX1.out).1 (fun e => e)).trans HBX1.out)
    have HK2 := hid (HK1.out.trans hk2)
    have HTA2 := hid (HTA1.out.keep hk2 (fun _ _ e => e))
    clear hk2
    obtain ⟨x0, x1, x2, x3, x4, x5⟩ := box6 HBX2.out
    have hck := refcheck_any h k tr th st a cap n l w2 HN (by omega) HTA2
    cases hb : okB l k tr th st with
    | false =>
      obtain rfl := he0 hb
      rw [hb] at hck
      have HCK := hid hck
      clear he0 he1 hck hb
      go_wp2_with fail
      refine HCK.out.mono ?_
      rintro e w3 ⟨rfl, hk3⟩
      have HK3 := hid (HK2.out.trans hk3)
      clear hk3 x0 x1 x2 x3 x4 x5
      simp only [errOf]
      go_wp2_with fail
      refine (num_any 2 _).mono ?_
      rintro e w4 ⟨rfl, rfl⟩
      go_wp2_with fail
      refine (HW.out _).mono ?_
      rintro e w4 ⟨rfl, h4⟩
      go_wp2_with fail
      go_ret
      exact ⟨rfl, HK3.out.trans h4⟩
    | true =>
      obtain ⟨g, c, rfl, hgw, hrow⟩ := he1 hb
      rw [hb] at hck
      have HCK := hid hck
      have HOK := hid hb
      have hnb := ownsRow_nums hrow
      clear he0 he1 hck hb hgw hrow
      obtain ⟨E, hE⟩ : ∃ E, E = encM h l k tr th st := ⟨_, rfl⟩
      rw [← hE] at hnb ⊢
      have HE := hid hE
      have HEP : Hid (0 < E.length) := hid (by rw [hE]; simp [encM, le4])
      have HNB0 := hid hnb.1
      clear hE hnb
      go_wp2_with fail
      refine HCK.out.mono ?_
      rintro e w3 ⟨rfl, hk3⟩
      have HNB := hid (HNB0.out.keep hk3 (fun _ _ e => e))
      have HBX := hid ((hk3.block w.heap.size (Array.getElem?_eq_some_iff.1 HBX2.out).1 (fun e => e)).trans HBX2.out)
      have HTA3 := hid (HTA2.out.keep hk3 (fun _ _ e => e))
      have HK3 := hid (HK2.out.trans hk3)
      clear hk3 x0 x1 x2 x3 x4 x5 HBX2 HTA2 HBX1 HTA1 HK1 HK2 HNB0 HCK
      simp only [errOf]
      have HRE := hid (fun W (hk : Keeps No w3 W) => refencode_any h k tr th st h0 h1 a cap n l W HN (by omega) (hid (HTA3.out.keep hk (fun _ _ e => e))) HOK)
      go_wp2_with fail
      refine (wpIn_wide (n := 0)).1 ?_
      refine Sched.region2 (σ := Value) (fun _ => trivial) rfl (by kernel_rfl) [7] (fun s => [.int .i64 0, .int .i64 0, .bool true, .bool true, .slice (some ⟨g, 0, none⟩) E.length c, .string (strOfNums E), .agg #[.int .u32 h, .slice a n cap, .int .i64 k, .int .i64 tr, .int .i64 th, .int .i64 st], s, .string (strOfNums E), .bool true, .bool true, .bool true, .bool true, .bool true, .bool true]) (G1 w3 E) (by kernel_rfl) (by kernel_rfl) (fun _ => rfl) undef ⟨(Keeps.refl No w3).drew, .inl rfl⟩ ?_ ?_
      · iterate 15
          refine Sched.Steps2.cons ?_ ?_
          rotate_left
        exact Sched.Steps2.nil
        all_goals simp only [List.zip_cons_cons, List.zip_nil_left, List.take_succ_cons, List.take_zero, Sched.putL, Act.put, List.setIfInBounds_toArray, List.set_cons_zero, List.set_cons_succ]
        all_goals intro p hp s w' hG
        rotate_left 1
        · clear hp
          simp [Sched.OkE, go_sem]
          refine (callsIn_wide.2 (num_any 0 w')).mono ?_
          rintro e W' ⟨rfl, rfl⟩
          exact ⟨_, rfl, rfl, hG⟩
        rotate_left 5
        · rcases p with _ | _ | p
          · simp [Sched.OkE, go_sem]
            refine (callsIn_wide.2 (HRE.out w' hG.1)).mono ?_
            rintro e w'' ⟨hk, v, rfl, hr⟩
            refine ⟨v, rfl, v, ⟨hG.1.trans hk, .inr (by rw [HE.out]; exact row_mono hr hG.1.size)⟩, rfl, ?_⟩
            repeat refine Sched.Agree.cons (by first | exact .inl rfl | exact .inr (.inl rfl) | exact .inr (.inr (by decide +kernel))) ?_
            exact Sched.Agree.nil
          · exact Sched.not_may hp (by decide +kernel)
          · (exfalso; have hq := Sched.may_le hp; simp only [List.length_cons, List.length_nil] at hq; omega)
        · rcases p with _ | _ | p
          · exact Sched.not_may hp (by decide +kernel)
          · have hrw := hG.2.resolve_left (by omega)
            obtain ⟨g2, cap2, rfl, _, hrd⟩ := hrw.read HEP.out
            have hcv := run_convert_bytes_arg (P := Try.prog) w' 31 5 Try.underlying31 Try.underlying5 g2 0 _ cap2 E rfl (fun i hi => by have := hrd i _ (by rw [List.getElem?_map, List.getElem?_eq_getElem hi]; rfl); rw [Addr.add_lit] at this; rw [this]; simp [List.getD, hi]) 9 Try.underlying9
            simp [Sched.OkE, go_sem, hcv]
            exact hG
          · (exfalso; have hq := Sched.may_le hp; simp only [List.length_cons, List.length_nil] at hq; omega)
        rotate_left 3
        · clear hp
          simp [Sched.OkE, go_sem]
          refine (callsIn_wide.2 (HW.out w')).mono ?_
          rintro e W' ⟨rfl, h2⟩
          exact ⟨_, rfl, rfl, hG.1.trans h2, hG.2.imp (fun h => h) (fun h => h.keep h2)⟩
        all_goals
          have hcv := run_convert_any (P := Try.prog) w' 31 5 Try.underlying31 Try.underlying5 (some ⟨g, 0, none⟩) E.length c E rfl (HNB.out.keep hG.1 (fun _ _ e => e)) 9 Try.underlying9
          obtain ⟨x0, x1, x2, x3, x4, x5⟩ := box6 ((hG.1.block w.heap.size (Array.getElem?_eq_some_iff.1 HBX.out).1 (fun e => e)).trans HBX.out)
          simp [Sched.OkE, go_sem, hcv, x0, x1, x2, x3, x4, x5]
          exact hG
      rintro s W hG
      simp only [List.zip_cons_cons, List.zip_nil_left, Sched.putL, Act.put, List.setIfInBounds_toArray, List.set_cons_zero, List.set_cons_succ]
      have HKF := hid (HK3.out.trans hG.1)
      clear hG
      go_wp2_with fail
      go_ret
      exact ⟨rfl, HKF.out⟩
  · go_enter Try.func3, Try.ntmps3
    go_wp2_with fail
    refine (HW.out _).mono ?_
    rintro e w2 ⟨rfl, h2⟩
    go_wp2_with fail
    go_ret
    exact ⟨rfl, HK1.out.trans h2⟩

end Go.Proofs.Ytnbhphjpefagjaa
