/- Points: the law PointsBests. -/
import Derived.Test.YtpnhmcgabnifdaaS
namespace Go.Proofs.Ytpnhmcgabnifdaa
open Go.RowKit

set_option maxHeartbeats 1000000 in
theorem bests_law (ev mo : Int) (ta : Option Addr) (cap n : Nat) (l : List Int) (hn : Hid (l.length = n)) (t : Int) (ht2 : t ≤ 9223372036854775807) (w : World) (ht : IntsAt w ta l) :
    Calls Try.prog 7 #[.int .i64 ev, .int .i64 mo, .slice ta n cap, .int .i64 t] w fun e w' => e = .returned (.bool true) ∧ Keeps No w w' := by
  have HT := hid ht
  clear ht
  by_cases hok : okNew ev mo
  · have HOK := hid hok
    clear hok
    by_cases hl : (n : Int) ≤ 200
    · have hd : decide ((n : Int) ≤ 200) = true := by simpa using hl
      go_enter Try.func7, Try.ntmps7
      go_wp2_with (go_at_call 10; refine (small_yes ev mo _ _ _ _ HOK.out).mono ?_; rintro e w1 ⟨rfl, hk1⟩; have HK1 := hid hk1; clear hk1)
      refine (played_any ev mo ta cap n l hn w1 HOK.out (HT.out.keep HK1.out (fun _ _ e => e)) (by omega)).mono ?_
      rintro e w2 ⟨b, kv, wk, s, rfl, hb, _, _, _, hk2⟩
      obtain ⟨a', c', hw, hin, _⟩ := row_form hb.ref
      obtain rfl := hw
      have hne := hb.pts.few
      have hm2 := hb.pts.good.mo2
      have HK2 := hid (HK1.out.trans hk2)
      have HB := hid hb
      have HP := hid (fun W (hk : Keeps No w2 W) => hb.pts.keepNo hk)
      have HI := hid hin
      have hbd := best_bd s.l t hb.pts.lo
      clear hb hk2 HK1 hin
      have hBB := hid (fun W (hk : Keeps No w2 W) => best_any t (HP.out W hk))
      have hFF := hid (fun W (hk : Keeps No w2 W) => far_any t ht2 (HP.out W hk))
      have hRR := hid (fun W (hk : Keeps No w2 W) => refbest_loop ev mo s.gn s.la t a' c' s.l.length s.l W (hid rfl) (by omega) (hid (HI.out.keep hk (fun _ _ e => e))))
      generalize bestOf s.l t = B at *
      obtain ⟨h1, h2⟩ := hbd
      have HA := hid ((Keeps.refl No w2).alloc (.cells #[.int .i64 ev, .int .i64 mo, .slice a' s.l.length c', .int .i64 s.gn, .int .i64 s.la] 27))
      by_cases hB : 0 ≤ B
      · have q1 : bestRes B = .tuple #[.int .i64 B, .bool true] := by simp [bestRes, hB]; omega
        have q2 : (if 0 ≤ B then Value.tuple #[.int .i64 (t - B), .int .i64 0] else .tuple #[.int .i64 0, .int .i64 5]) = Value.tuple #[.int .i64 (t - B), .int .i64 0] := if_pos hB
        have hw : wrap64 (t - B) = t - B := IntWalk.wrap64_in _ (by have := h2 hB; omega)
        rw [q1] at hBB
        rw [q2] at hFF
        have hz : decide (B < 0) = false := by simp; omega
        go_wp2_with (first | (go_at_call 22; refine (hBB.out _ HA.out).mono ?_; rintro e w' ⟨rfl, rfl⟩) | (go_at_call 19; refine (hFF.out _ HA.out).mono ?_; rintro e w' ⟨rfl, rfl⟩) | (go_at_call 23; refine (hRR.out _ HA.out).mono ?_; rintro e w3 ⟨rfl, hk3⟩; have HK3 := hid (HA.out.trans hk3); clear hk3) | (go_at_call 20; refine (num_any _ _).mono ?_; rintro e w' ⟨rfl, rfl⟩) | (go_at_call 11; refine (works_any _).mono ?_; rintro e w4 ⟨rfl, hk4⟩; have HK4 := hid hk4; clear hk4))
        go_ret
        exact ⟨rfl, (HK2.out.trans HK3.out).trans HK4.out⟩
      · obtain rfl : B = -1 := by omega
        have q1 : bestRes (-1) = .tuple #[.int .i64 0, .bool false] := rfl
        have q2 : (if (0 : Int) ≤ -1 then Value.tuple #[.int .i64 (t - -1), .int .i64 0] else .tuple #[.int .i64 0, .int .i64 5]) = Value.tuple #[.int .i64 0, .int .i64 5] := if_neg hB
        rw [q1] at hBB
        rw [q2] at hFF
        go_wp2_with (first | (go_at_call 22; refine (hBB.out _ HA.out).mono ?_; rintro e w' ⟨rfl, rfl⟩) | (go_at_call 19; refine (hFF.out _ HA.out).mono ?_; rintro e w' ⟨rfl, rfl⟩) | (go_at_call 23; refine (hRR.out _ HA.out).mono ?_; rintro e w3 ⟨rfl, hk3⟩; have HK3 := hid (HA.out.trans hk3); clear hk3) | (go_at_call 20; refine (num_any _ _).mono ?_; rintro e w' ⟨rfl, rfl⟩) | (go_at_call 11; refine (works_any _).mono ?_; rintro e w4 ⟨rfl, hk4⟩; have HK4 := hid hk4; clear hk4))
        go_ret
        exact ⟨rfl, (HK2.out.trans HK3.out).trans HK4.out⟩
    · have hd : decide ((n : Int) ≤ 200) = false := by simpa using hl
      go_enter Try.func7, Try.ntmps7
      go_wp2_with (first | (go_at_call 10; refine (small_yes ev mo _ _ _ _ HOK.out).mono ?_; rintro e w1 ⟨rfl, hk1⟩; have HK1 := hid hk1; clear hk1) | (go_at_call 11; refine (works_any _).mono ?_; rintro e w3 ⟨rfl, hk3⟩; have HK3 := hid hk3; clear hk3))
      go_ret
      exact ⟨rfl, HK1.out.trans HK3.out⟩
  · have HOK := hid hok
    clear hok
    go_enter Try.func7, Try.ntmps7
    go_wp2_with (first | (go_at_call 10; refine (small_no ev mo _ _ HOK.out).mono ?_; rintro e w1 ⟨rfl, hk1⟩; have HK1 := hid hk1; clear hk1) | (go_at_call 11; refine (works_any _).mono ?_; rintro e w3 ⟨rfl, hk3⟩; have HK3 := hid hk3; clear hk3))
    go_ret
    exact ⟨rfl, HK1.out.trans HK3.out⟩

end Go.Proofs.Ytpnhmcgabnifdaa
