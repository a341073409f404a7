/- Points: the law PointsGoes. -/
import Derived.Test.YtpnhmcgabnifdaaT
namespace Go.Proofs.Ytpnhmcgabnifdaa
open Go.RowKit

theorem gap_next (t ev gap : Int) (k : Nat) (h1 : 1 ≤ ev) (h2 : ev ≤ 1000) (h3 : 0 ≤ t) (h4 : t ≤ 1000000 * k) (hk : k ≤ 60) :
    ∃ t', wrap64 (t + wrap64 (ev * if 1 < (if gap < 1000 then gap else 1000) then (if gap < 1000 then gap else 1000) else 1)) = t' ∧ 0 ≤ t' ∧ t' ≤ 1000000 * ((k + 1 : Nat) : Int) := by
  have hf : ∃ f : Int, (if 1 < (if gap < 1000 then gap else 1000) then (if gap < 1000 then gap else 1000) else 1) = f ∧ 1 ≤ f ∧ f ≤ 1000 := by
    refine ⟨_, rfl, ?_, ?_⟩ <;> (repeat' split) <;> omega
  obtain ⟨f, hf, hf1, hf2⟩ := hf
  rw [hf]
  have hm1 : 0 ≤ ev * f := Int.mul_nonneg (by omega) (by omega)
  have hm2 : ev * f ≤ 1000 * 1000 := Int.mul_le_mul (by omega) hf2 (by omega) (by omega)
  generalize ev * f = p at *
  rw [IntWalk.wrap64_in p (by omega), IntWalk.wrap64_in _ (by omega)]
  exact ⟨_, rfl, by omega, by omega⟩

set_option maxHeartbeats 1000000 in
theorem goes_law (ev mo : Int) (ta : Option Addr) (cap n : Nat) (l : List Int) (hn : Hid (l.length = n)) (w : World) (ht : IntsAt w ta l) :
    Calls Try.prog 5 #[.int .i64 ev, .int .i64 mo, .slice ta n cap] w fun e w' => e = .returned (.bool true) ∧ Keeps No w w' := by
  have HT := hid ht
  clear ht
  by_cases hok : okNew ev mo
  · have HOK := hid hok
    have hev1 := hok.1
    clear hok
    by_cases hn0 : 1000 < ev
    · go_enter Try.func5, Try.ntmps5
      go_wp2_with (first | (go_at_call 10; refine (small_yes ev mo _ _ _ _ HOK.out).mono ?_; rintro e w1 ⟨rfl, hk1⟩; have HK1 := hid hk1; clear hk1) | (go_at_call 11; refine (works_any _).mono ?_; rintro e w3 ⟨rfl, hk3⟩; have HK3 := hid hk3; clear hk3))
      go_ret
      exact ⟨rfl, HK1.out.trans HK3.out⟩
    · by_cases hn1 : 60 < n
      · go_enter Try.func5, Try.ntmps5
        go_wp2_with (first | (go_at_call 10; refine (small_yes ev mo _ _ _ _ HOK.out).mono ?_; rintro e w1 ⟨rfl, hk1⟩; have HK1 := hid hk1; clear hk1) | (go_at_call 11; refine (works_any _).mono ?_; rintro e w3 ⟨rfl, hk3⟩; have HK3 := hid hk3; clear hk3))
        go_ret
        exact ⟨rfl, HK1.out.trans HK3.out⟩
      · go_enter Try.func5, Try.ntmps5
        go_wp2_with (go_at_call 10; refine (small_yes ev mo _ _ _ _ HOK.out).mono ?_; rintro e w1 ⟨rfl, hk1⟩; have HK1 := hid hk1; clear hk1)
        refine (played_any ev mo none 0 0 [] (hid rfl) w1 HOK.out (.inl rfl) (by omega)).mono ?_
        rintro e w2 ⟨b, kv, wk, s, rfl, hb, h1, h2, h3, hk2⟩
        obtain ⟨a', n', c', rfl⟩ := slice_form hb.ref
        have HI := hid (law_start HK1.out hb h1 h2 h3 hk2)
        clear hb hk2 HK1 h1 h2 h3
        go_wp2_with fail
        generalize w2.heap.size = bw at *
        generalize w2.alloc (.cells #[.int .i64 ev, .int .i64 mo, .slice a' n' c', .int .i64 s.gn, .int .i64 s.la] 27) = W1 at *
        go_loopw [9, 10, 11] (fun f tv i wr => ∃ (k : Nat) (t : Int), k ≤ n ∧ f = .bool true ∧ i = .int .i64 k ∧ tv = .int .i64 t ∧ 0 ≤ t ∧ t ≤ 1000000 * k ∧ LawI w b bw ev mo wr) (fun _ _ i _ => n - (intOf i).toNat)
        case atStart => exact ⟨0, 0, by omega, rfl, rfl, rfl, by omega, by omega, HI.out⟩
        case round =>
          obtain ⟨k, t, hk, rfl, rfl, rfl, ht0, ht1, hI⟩ := hrel
          by_cases hlt2 : k < n
          · obtain ⟨kv, wk, s, hb, hh, hlt, h1, h2, hkk⟩ := hI
            obtain ⟨a1, n1, c1, rfl⟩ := slice_form hb.ref
            obtain ⟨d0, d1, d2, d3, d4⟩ := five_cells hh
            have HC := hid (law_come t hb hh hlt h1 h2 hkk)
            obtain ⟨g, off, rfl, hc⟩ := HT.out.resolve_left (by rintro rfl; have := hn.out; simp at this; omega)
            have HX : Hid (∀ w' : World, Keeps No w w' → w'.cell? ⟨g, off + k, none⟩ = some (.int .i64 (l[k]?.getD 0))) := hid (fun w' hk' => hk'.cellS (p := ⟨g, off + k, none⟩) (hc k (by rw [hn.out]; exact hlt2)) (fun e => e))
            generalize l[k]?.getD 0 = gap at *
            clear hb hh hlt h1 h2 hkk hc
            go_wp2_with fail
            refine HC.out.mono ?_
            rintro e w2 ⟨a2, n2, c2, gn2, la2, rfl, h9, hI2⟩
            obtain ⟨p0, p1, p2, p3, p4⟩ := five_cells h9
            have f0 := froz (i := 0) h9
            have f1 := froz (i := 1) h9
            have f2 := froz (i := 2) h9
            have f3 := froz (i := 3) h9
            have f4 := froz (i := 4) h9
            have HI2 := hid hI2
            have hKL : Keeps No w _ := hI2.choose_spec.choose_spec.choose_spec.2.2.2.2.2
            have x1 := HX.out _ hKL
            clear hI2 h9 d0 d1 d2 d3 d4 hKL
            go_wp2_with fail
            go_roundw
            case rel =>
              obtain ⟨t', q1, q2, q3⟩ := gap_next t ev gap k hev1 hn0 ht0 ht1 (by omega)
              exact ⟨k + 1, t', by omega, rfl, by go_num, by rw [q1], q2, q3, HI2.out⟩
            case measure => simp [intOf]; omega
          · obtain ⟨kv, wk, s, hb, hh, _, _, _, hkk⟩ := hI
            obtain ⟨a1, n1, c1, rfl⟩ := slice_form hb.ref
            obtain ⟨d0, d1, d2, d3, d4⟩ := five_cells hh
            have hc := refcome_any (w := wr) (-1) hb.pts.good hb.ref
            rw [show comeS ev mo s (-1) = (s, false, 0, 2) from if_pos (by omega)] at hc
            have HC := hid hc
            have HB := hid hb
            have HH := hid hh
            have HKK := hid hkk
            clear hb hh hkk hc
            go_wp2_with fail
            refine HC.out.mono ?_
            rintro e w3 ⟨wk', rfl, hr3, hk3, _⟩
            obtain ⟨a2, n2, c2, rfl⟩ := slice_form hr3
            dsimp only
            have K4 := hk3.alloc (.cells #[.int .i64 ev, .int .i64 mo, .slice a2 n2 c2, .int .i64 s.gn, .int .i64 s.la] 27)
            have his := is_any (HB.out.keepNo K4)
            have h5 := heap_alloc_new w3 (.cells #[.int .i64 ev, .int .i64 mo, .slice a2 n2 c2, .int .i64 s.gn, .int .i64 s.la] 27)
            have h6 := (K4.block bw (Array.getElem?_eq_some_iff.1 HH.out).1 (fun e => e)).trans HH.out
            have hl5 := (Array.getElem?_eq_some_iff.1 h5).1
            have hl6 := (Array.getElem?_eq_some_iff.1 h6).1
            obtain ⟨p0, p1, p2, p3, p4⟩ := five_cells h6
            have HIS := hid his
            have H5 := hid h5
            have H6 := hid h6
            have HL5 := hid hl5
            have HL6 := hid hl6
            have HK4 := hid K4
            clear his h5 h6 hl5 hl6 hr3 hk3 K4 d0 d1 d2 d3 d4
            go_wp2_with (first | (go_at_call 14; refine HIS.out.mono ?_; rintro e w4 ⟨rfl, hk4⟩; have y5 := (five_cells ((hk4.block _ HL5.out (fun e => e)).trans H5.out)).2.2.2.2; have y6 := (five_cells ((hk4.block _ HL6.out (fun e => e)).trans H6.out)).2.2.2.2; have HK5 := hid (HK4.out.trans hk4); clear hk4) | (go_at_call 11; refine (works_any _).mono ?_; rintro e w5 ⟨rfl, hk5⟩; have HK6 := hid hk5; clear hk5))
            go_ret
            exact ⟨rfl, (HKK.out.trans HK5.out).trans HK6.out⟩
  · have HOK := hid hok
    clear hok
    go_enter Try.func5, Try.ntmps5
    go_wp2_with (first | (go_at_call 10; refine (small_no ev mo _ _ HOK.out).mono ?_; rintro e w1 ⟨rfl, hk1⟩; have HK1 := hid hk1; clear hk1) | (go_at_call 11; refine (works_any _).mono ?_; rintro e w3 ⟨rfl, hk3⟩; have HK3 := hid hk3; clear hk3))
    go_ret
    exact ⟨rfl, HK1.out.trans HK3.out⟩

end Go.Proofs.Ytpnhmcgabnifdaa
