/- Log: the law of turns. -/
import Derived.Test.YtnbhphjpefagjaaZq
import Derived.Test.YtnbhphjpefagjaaZa
namespace Go.Proofs.Ytnbhphjpefagjaa
open Go.RowKit

theorem Try.info3 : (Try.prog.info? 3).map (fun i => (i.zero, i.size, i.bytes)) = some (some (.int .i64 0), 1, 8) := by kernel_rfl

theorem foldl_few : ∀ (zs : List Int) (m : Nat) (out : List (Int × Int)), Few m out → Few (m + zs.length) (zs.foldl stepT out)
  | [], _, _, h => h
  | z :: zs, m, out, h => by
    have := foldl_few zs (m + 1) (stepT out z) (stepT_few h z)
    rw [List.foldl_cons, List.length_cons, show m + (zs.length + 1) = m + 1 + zs.length by omega]
    exact this

theorem turnsOf_len (zs : List Int) : (turnsOf zs).length ≤ zs.length := by
  have := (foldl_few zs 0 [] ⟨by simp, by simp⟩).1
  unfold turnsOf
  omega

/-- Turns, or none: what both of Turns tell. -/
theorem turns_both (zs : List Int) : ∃ (L : List (Int × Int)) (E : Int), L.length ≤ zs.length ∧
    (∀ w e w', TurnsPost zs w e w' → Keeps No w w' ∧ ∃ a c, e = .returned (.tuple #[.slice a L.length c, .int .i64 E]) ∧ TurnsAt w' a L) ∧
    (∀ w e w', RefTurnsPost zs w e w' → Keeps No w w' ∧ ∃ a c, e = .returned (.tuple #[.slice a L.length c, .int .i64 E]) ∧ TurnsAt w' a L) := by
  by_cases h : allIn zs
  · refine ⟨turnsOf zs, 0, turnsOf_len zs, ?_, ?_⟩
    · rintro w e w' ⟨hk, h1, _⟩
      obtain ⟨a, c, he, hr⟩ := h1 h
      obtain ⟨a', c', hv, ht, _⟩ := hr.form
      cases hv
      exact ⟨hk, a, c, he, ht⟩
    · rintro w e w' ⟨hk, h1, _⟩
      obtain ⟨a, c, he, hr⟩ := h1 h
      obtain ⟨a', c', hv, ht, _⟩ := hr.form
      cases hv
      exact ⟨hk, a, c, he, ht⟩
  · refine ⟨[], 2, by simp, ?_, ?_⟩
    · rintro w e w' ⟨hk, _, h1⟩
      exact ⟨hk, none, 0, h1 h, .inl rfl⟩
    · rintro w e w' ⟨hk, _, h1⟩
      exact ⟨hk, none, 0, h1 h, .inl rfl⟩

set_option maxRecDepth 100000 in
set_option maxHeartbeats 4000000 in
theorem turns_law (a : Option Addr) (cap n : Nat) (zs : List Int) (w : World) (HN : Hid (zs.length = n)) (hc : a = none → cap = 0) (hcn : n ≤ cap) (HA : Hid (NumsAt .i64 w a zs)) :
    Calls Try.prog 8 #[.slice a n cap] w fun e w' => e = .returned (.bool true) ∧ Keeps No w w' := by
  have HW := hid (fun W => works_any W)
  by_cases hm : n ≤ 1000
  · obtain ⟨i0, hi, hz0, hz1, hz2⟩ := info_parts Try.info3
    have HI := hid hi
    have HZ0 := hid hz0
    have HZ1 := hid hz1
    have HZ2 := hid hz2
    clear hi hz0 hz1 hz2
    have HNO : Hid (a = none → n = 0 ∧ cap = 0) := hid (fun h => ⟨by have := hc h; omega, hc h⟩)
    clear hc
    have HK0 := hid ((Keeps.refl No w).alloc (.cells #[] 3))
    obtain ⟨L, E, hL, hT1, hT2⟩ := turns_both zs
    have HLL : Hid (L.length ≤ 1000) := hid (by have := HN.out; omega)
    have HT1 := hid hT1
    have HT2 := hid hT2
    clear hL hT1 hT2
    go_enter Try.func8, Try.ntmps8
    go_wp2_with (first
      | (at_builtin; (refine wpList_append_any _ rfl (.tmp 12) (.tmp 13) 48 rfl w.heap.size 3 i0 (.int .i64 0) 1 8 Try.underlying48 HI.out HZ0.out HZ1.out HZ2.out rfl (by decide) _ 0 [] rfl (World.ownsRow_made w #[] 0 (Nat.le_refl _) (by unfold maxLen; omega) rfl) a n cap (zs.map (Value.int .i64)) rfl HNO.out (by simp [HN.out]) (HA.out.keep HK0.out (fun _ _ e => e)).adds (fun u hu => by obtain ⟨x, _, rfl⟩ := List.mem_map.1 hu; rfl) (by unfold maxLen; omega) (by omega) (by simp) ?_); intro v1 w1 hown hg; have HO := hid hown; have HK1 := hid (HK0.out.grown hg (fun k hk => .inr (by cases hk; exact Nat.le_refl _))); clear hown hg)
      | (at_builtin; (refine wpList_append_any _ rfl (.tmp 14) (.tmp 15) 48 rfl w.heap.size 3 i0 (.int .i64 0) 1 8 Try.underlying48 HI.out HZ0.out HZ1.out HZ2.out rfl (by decide) _ (0 + n) _ rfl (World.ownsRow.alloc HO.out _) (some ⟨w1.heap.size, 0, none⟩) 1 1 ([77].map (Value.int .i64)) rfl (fun h => by cases h) rfl (fun p hp => by cases hp; exact new_cells w1 _ _) (fun u hu => by obtain ⟨x, _, rfl⟩ := List.mem_map.1 hu; rfl) (by unfold maxLen; omega) (by omega) (by have := HK1.out.size; simp; omega) ?_); intro v2 w2 hown2 hg2; obtain ⟨g, c, rfl, HN1, H77, h4, hcm2, hgw⟩ := row_last hown2; have HK2 := hid ((HK1.out.alloc _).grown hg2 (fun k hk => .inr ((HO.out.lt k hk).1))); clear hown2 hg2)
      | fail)
    clear HO HK1 HI HZ0 HZ1 HZ2 hgw hcm2
    refine (turns_any (some ⟨g, 0, none⟩) c n zs w2 HN (by omega) HN1).mono ?_
    intro e w3 hp3
    obtain ⟨hk3, a3, c3, rfl, ht3⟩ := HT1.out _ _ _ hp3
    clear hp3
    have HK3 := hid hk3
    have HA3 := hid ht3
    clear hk3 ht3
    go_wp2_with fail
    refine (refturns_any a cap n zs w3 HN (by omega) (hid (HA.out.keep (HK2.out.trans HK3.out) (fun _ _ e => e)))).mono ?_
    intro e w4 hp4
    obtain ⟨hk4, a4, c4, rfl, ht4⟩ := HT2.out _ _ _ hp4
    clear hp4
    have HK4 := hid hk4
    have HA4 := hid ht4
    clear hk4 ht4
    go_wp2_with fail
    by_cases hz : n = 0
    · subst hz
      have HF := hid (fun W (hk : Keeps No w4 W) => (HK3.out.trans (HK4.out.trans hk)).cellS H77.out (fun e => e))
      clear H77 HN1 HT1 HT2 hm hcn
      have q1 : IntKind.i64.wrap 1 = 1 := by rw [IntKind.wrap_i64]; omega
      have q2 : (1 : Int) ≤ (c : Int) := by omega
      refine (wpIn_wide (n := 0)).1 ?_
      refine Sched.region (fun _ => trivial) rfl (by kernel_rfl) [] [.slice a3 L.length c3, .slice a4 L.length c4, .bool true, .bool true, .int .i64 E, .int .i64 E, .int .i64 E, .bool true, .bool true, .bool true, .slice (some ⟨g, 0, none⟩) 0 c, .int .i64 0, .bool true, .bool true, undef, undef, undef, undef, undef, undef, undef, .bool true, .bool true, .bool true, .slice (some ⟨g, 0, none⟩) 0 c, .slice a 0 cap, .int .i64 0, .int .i64 (1), .slice (some ⟨g, 0, none⟩) 1 c, .slice a 0 cap, .int .i64 0, .pointer (some ⟨g, 0, none⟩), .int .i64 77, .bool true, .bool true, .bool true, .bool true, .bool true, .bool true] (fun _ W => Keeps No w4 W) (by kernel_rfl) (by kernel_rfl) rfl (Keeps.refl No w4).drew ?_ ?_
      · simp only [List.zip_cons_cons, List.zip_nil_left]
        iterate 39
          refine Sched.Steps.cons ?_ ?_
          rotate_left
        exact Sched.Steps.nil
        all_goals simp only [List.take_succ_cons, List.take_zero, Sched.putL, Act.put, List.setIfInBounds_toArray, List.set_cons_zero, List.set_cons_succ]
        all_goals intro p hp W hw
        rotate_left 2
        · clear hp
          have hs := sameturns_any a3 a4 c3 c4 L.length L.length L L W (hid rfl) (hid rfl) (by have := HLL.out; omega) (hid (HA3.out.keep (HK4.out.trans hw) (fun _ _ e => e))) (hid (HA4.out.keep hw (fun _ _ e => e)))
          simp [Sched.Ok, Sched.OkE, go_sem]
          refine (callsIn_wide.2 hs).mono ?_
          rintro e W' ⟨rfl, m, rfl⟩
          exact ⟨_, rfl, by simp, hw.drewN m⟩
        rotate_left 2
        · clear hp
          simp [Sched.Ok, Sched.OkE, go_sem]
          refine (callsIn_wide.2 (num_any E W)).mono ?_
          rintro e W' ⟨rfl, rfl⟩
          exact ⟨_, rfl, rfl, hw⟩
        rotate_left 30
        · clear hp
          simp [Sched.Ok, Sched.OkE, go_sem]
          refine (callsIn_wide.2 (HW.out W)).mono ?_
          rintro e W' ⟨rfl, h2⟩
          exact ⟨_, rfl, rfl, hw.trans h2⟩
        all_goals
          have f1 := HF.out W hw
          clear hp
          simp [Sched.Ok, Sched.OkE, go_sem, *]
      rintro W hw
      simp only [List.zip_cons_cons, List.zip_nil_left, Sched.putL, Act.put, List.setIfInBounds_toArray, List.set_cons_zero, List.set_cons_succ]
      have HKF := hid ((HK2.out.trans (HK3.out.trans HK4.out)).trans hw)
      clear hw
      go_wp2_with fail
      go_ret
      exact ⟨rfl, HKF.out⟩
    · obtain ⟨ga, oa, rfl, hca⟩ := HA.out.resolve_left (by rintro rfl; have := HN.out; simp at this; omega)
      obtain ⟨gb, ob, he, hcb⟩ := HN1.out.resolve_left (by rintro rfl; have := HN.out; simp at this; omega)
      cases he
      have HF := hid (fun W (hk : Keeps No w4 W) => (HK3.out.trans (HK4.out.trans hk)).cellS H77.out (fun e => e))
      have y1 := hca 0 (by have := HN.out; omega)
      have y2 := hcb 0 (by have := HN.out; omega)
      rw [Nat.add_zero] at y1 y2
      generalize zs[0]?.getD 0 = z0 at y1 y2
      have HF2 := hid (fun W (hk : Keeps No w4 W) => And.intro ((HK3.out.trans (HK4.out.trans hk)).cellS y2 (fun e => e)) ((HK2.out.trans (HK3.out.trans (HK4.out.trans hk))).cellS y1 (fun e => e)))
      clear y1 y2 hca hcb H77 HN1 HT1 HT2 HN HA
      have q0 : 0 < n := by omega
      have q1 : ¬ ((n : Int) = 0) := by omega
      have q2 : IntKind.i64.wrap ((n : Int) + 1) = (n : Int) + 1 := by rw [IntKind.wrap_i64]; omega
      have q3 : (n : Int) + 1 ≤ (c : Int) := by omega
      have q4 : (0 : Int) ≤ (n : Int) + 1 := by omega
      have q5 : (n : Int) < (n : Int) + 1 := by omega
      refine (wpIn_wide (n := 0)).1 ?_
      refine Sched.region (fun _ => trivial) rfl (by kernel_rfl) [] [.slice a3 L.length c3, .slice a4 L.length c4, .bool true, .bool true, .int .i64 E, .int .i64 E, .int .i64 E, .bool true, .bool true, .bool true, .slice (some ⟨g, 0, none⟩) n c, .int .i64 (n : Int), .bool false, .bool false, .slice (some ⟨g, 0, none⟩) n c, .pointer (some ⟨g, 0, none⟩), .int .i64 z0, .slice (some ⟨ga, oa, none⟩) n cap, .pointer (some ⟨ga, oa, none⟩), .int .i64 z0, .bool true, .bool true, .bool true, .bool true, .slice (some ⟨g, 0, none⟩) n c, .slice (some ⟨ga, oa, none⟩) n cap, .int .i64 (n : Int), .int .i64 ((n : Int) + 1), .slice (some ⟨g, 0, none⟩) (n + 1) c, .slice (some ⟨ga, oa, none⟩) n cap, .int .i64 (n : Int), .pointer (some ⟨g, n, none⟩), .int .i64 77, .bool true, .bool true, .bool true, .bool true, .bool true, .bool true] (fun _ W => Keeps No w4 W) (by kernel_rfl) (by kernel_rfl) rfl (Keeps.refl No w4).drew ?_ ?_
      · simp only [List.zip_cons_cons, List.zip_nil_left]
        iterate 39
          refine Sched.Steps.cons ?_ ?_
          rotate_left
        exact Sched.Steps.nil
        all_goals simp only [List.take_succ_cons, List.take_zero, Sched.putL, Act.put, List.setIfInBounds_toArray, List.set_cons_zero, List.set_cons_succ]
        all_goals intro p hp W hw
        rotate_left 2
        · clear hp
          have hs := sameturns_any a3 a4 c3 c4 L.length L.length L L W (hid rfl) (hid rfl) (by have := HLL.out; omega) (hid (HA3.out.keep (HK4.out.trans hw) (fun _ _ e => e))) (hid (HA4.out.keep hw (fun _ _ e => e)))
          simp [Sched.Ok, Sched.OkE, go_sem]
          refine (callsIn_wide.2 hs).mono ?_
          rintro e W' ⟨rfl, m, rfl⟩
          exact ⟨_, rfl, by simp, hw.drewN m⟩
        rotate_left 2
        · clear hp
          simp [Sched.Ok, Sched.OkE, go_sem]
          refine (callsIn_wide.2 (num_any E W)).mono ?_
          rintro e W' ⟨rfl, rfl⟩
          exact ⟨_, rfl, rfl, hw⟩
        rotate_left 30
        · clear hp
          simp [Sched.Ok, Sched.OkE, go_sem]
          refine (callsIn_wide.2 (HW.out W)).mono ?_
          rintro e W' ⟨rfl, h2⟩
          exact ⟨_, rfl, rfl, hw.trans h2⟩
        all_goals
          have f1 := HF.out W hw
          obtain ⟨f2, f3⟩ := HF2.out W hw
          clear hp
          simp [Sched.Ok, Sched.OkE, go_sem, *]
      rintro W hw
      simp only [List.zip_cons_cons, List.zip_nil_left, Sched.putL, Act.put, List.setIfInBounds_toArray, List.set_cons_zero, List.set_cons_succ]
      have HKF := hid ((HK2.out.trans (HK3.out.trans HK4.out)).trans hw)
      clear hw
      go_wp2_with fail
      go_ret
      exact ⟨rfl, HKF.out⟩
  · go_enter Try.func8, Try.ntmps8
    go_wp2_with fail
    refine (HW.out _).mono ?_
    rintro e w2 ⟨rfl, h2⟩
    go_wp2_with fail
    go_ret
    exact ⟨rfl, h2⟩

end Go.Proofs.Ytnbhphjpefagjaa
