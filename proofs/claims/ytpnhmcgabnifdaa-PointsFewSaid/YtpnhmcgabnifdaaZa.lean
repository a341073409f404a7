/- Points: the law PointsCopies. -/
import Derived.Test.YtpnhmcgabnifdaaZ
namespace Go.Proofs.Ytpnhmcgabnifdaa
open Go.RowKit

theorem new_pts {w w2 : World} {ev mo : Int} {k : Nat} (e : w.heap.size = k) (h : okNew ev mo) (hk : Keeps No (w.alloc (.cells #[.int .i64 ev, .int .i64 mo, .slice none 0 0, .int .i64 0, .int .i64 (-1)] 60)) w2) : Pts w2 k ev mo (.slice none 0 0) [] 0 (-1) := by
  subst e
  exact ((good0 ev mo h).pts (heap_alloc_new w _) (World.ownsRow_nil _ _ _ _) (by simp [Value.ownBlock])).keepNo hk

set_option maxHeartbeats 2000000 in
theorem copies_law (ev mo : Int) (ta : Option Addr) (cap n : Nat) (l : List Int) (hn : Hid (l.length = n)) (t : Int) (w : World) (ht : IntsAt w ta l) :
    Calls Try.prog 8 #[.int .i64 ev, .int .i64 mo, .slice ta n cap, .int .i64 t] w fun e w' => e = .returned (.bool true) ∧ Keeps No w w' := by
  have HT := hid ht
  clear ht
  by_cases hok : okNew ev mo
  · have HOK := hid hok
    clear hok
    by_cases hl : (n : Int) ≤ 200
    · have hd : decide ((n : Int) ≤ 200) = true := by simpa using hl
      go_enter Try.func8, Try.ntmps8
      go_wp2_with (go_at_call 10; refine (small_yes ev mo _ _ _ _ HOK.out).mono ?_; rintro e w1 ⟨rfl, hk1⟩; have HK1 := hid hk1; clear hk1)
      refine (played_any ev mo ta cap n l hn w1 HOK.out (HT.out.keep HK1.out (fun _ _ e => e)) (by omega)).mono ?_
      rintro e w2 ⟨b, kv, wk, s, rfl, hb, hb0, hkvw, _, hk2⟩
      obtain ⟨a', n', c', hw⟩ := slice_form hb.ref
      obtain rfl := hw
      have HK2 := hid (HK1.out.trans hk2)
      have hs12 := hk2.size
      have hs01 := HK1.out.size
      have HB := hid hb
      have HKV := hid hkvw
      have HCA := hid (come_apart hb.pts.good t)
      have HCOME := hid (fun W (h : Both W b ev mo kv (.slice a' n' c') s) => comes_any t h)
      have hfew : s.l.length ≤ 4096 := by have := hb.pts.few; have := hb.pts.mo2; omega
      have hblt := hb.pts.lt
      generalize (comeS ev mo s t).1 = s' at *
      clear hb hk2 HK1 hkvw
      go_wp2_with fail
      have ha2 := (Keeps.refl No w2).alloc (.cells #[.int .i64 ev, .int .i64 mo, .slice a' n' c', .int .i64 s.gn, .int .i64 s.la] 27)
      have hn2 := heap_alloc_new w2 (.cells #[.int .i64 ev, .int .i64 mo, .slice a' n' c', .int .i64 s.gn, .int .i64 s.la] 27)
      refine (copy_any (HB.out.keepNo ha2).pts).mono ?_
      rintro e w3 ⟨c, kv3, rfl, hp3, hc1, hc2, hk3⟩
      have HP3 := hid hp3
      have HN3 := hid ((hk3.block _ (by simp) (fun e => e)).trans hn2)
      have HK3 := hid hk3
      have HC := hid (And.intro hc1 hc2)
      clear hp3 hk3 hc1 hc2 ha2 hn2
      go_wp2_with fail
      refine (same_st ((HB.out.keepNo (((Keeps.refl No w2).alloc _).trans HK3.out)).pts) HP3.out (fun _ => ⟨rfl, rfl⟩) (fun _ => rfl) (beq_self_eq_true _)).mono ?_
      rintro e w4 ⟨rfl, hk4⟩
      have HK4 := hid (HK3.out.trans hk4)
      have hn4 := (hk4.block _ (Array.getElem?_eq_some_iff.1 HN3.out).1 (fun e => e)).trans HN3.out
      obtain ⟨d0, d1, d2, d3, d4⟩ := five_cells hn4
      have HP4 := hid (HP3.out.keepNo hk4)
      have HN4 := hid hn4
      clear hk4 HP3 HN3 HK3 hn4
      go_wp2_with fail
      refine (HCOME.out _ (HB.out.keepNo (((Keeps.refl No w2).alloc _).trans HK4.out))).mono ?_
      rintro e w5 ⟨kv', wk', rfl, hb5, hk5, _, _⟩
      obtain ⟨a5, n5, c5, hw⟩ := slice_form hb5.ref
      obtain rfl := hw
      have HCOP := hid (cop_make HB.out HK4.out HP4.out HC.out.1 HC.out.2 hb5 hk5)
      have HK5 := hid (((HK2.out.alloc _).trans HK4.out).trans' (T := No) hk5 (fun _ h => h) (fun i hi h => by
        rcases h with h | h
        · omega
        · have := HKV.out i h; omega))
      clear hb5 hk5 d0 d1 d2 d3 d4
      go_wp2_with fail
      have HK5a := hid (HK5.out.alloc (.cells #[.int .i64 ev, .int .i64 mo, .slice a5 n5 c5, .int .i64 s'.gn, .int .i64 s'.la] 27))
      generalize w5.heap.size = bx at *
      generalize w5.alloc (.cells #[.int .i64 ev, .int .i64 mo, .slice a5 n5 c5, .int .i64 s'.gn, .int .i64 s'.la] 27) = W5 at *
      clear HCOME HKV HB HN4 HP4 HC HK4 HK5
      generalize w2.heap.size = bw at *
      refine (all_form HCOP.out.q.pts).mono ?_
      rintro e w6 ⟨a6, c6, rfl, _, hk6, hr6⟩
      have HF := hid hr6.free
      have HK6 := hid (hk6.mono (T := fun j => W5.heap.size ≤ j) (fun _ h => h.elim))
      clear hk6 hr6
      go_wp2_with fail
      go_loopw [16] (fun i wr => ∃ k : Nat, k ≤ s.l.length ∧ i = .int .i64 k ∧ Free W5.heap.size s.l.length wr a6 ∧ Keeps (fun j => W5.heap.size ≤ j) W5 wr) (fun i _ => s.l.length - (intOf i).toNat)
      case atStart => exact ⟨0, Nat.zero_le _, rfl, HF.out, HK6.out⟩
      case round =>
        obtain ⟨k, hk, rfl, hfr, hkk⟩ := hrel
        by_cases hlt : k < s.l.length
        · obtain ⟨g, cur, rfl, hB, hg, hsz⟩ := hfr.resolve_left (by omega)
          have x1 : wr.cell? ⟨g, k, none⟩ = some cur[k] := by rw [cell_of_row wr g k _ _ _ hg]; simp
          have f1 := froz (i := k) hg
          have HG := hid hg
          have HKK := hid hkk
          clear hg hkk
          generalize cur[k] = v0 at *
          go_wp2_with fail
          go_roundw
          case rel => exact ⟨k + 1, by omega, by go_num, .inr ⟨g, _, rfl, hB, heap_setCell_row HG.out, by simp; omega⟩, HKK.out.trans (Keeps.setCell (p := ⟨g, k, none⟩) (Keeps.refl _ wr) (.inl hB) _)⟩
          case measure => simp [intOf]; omega
        · have HC7 := hid (HCOP.out.keepS hkk (fun j hj h => by omega))
          have HKW := hid (HK5a.out.trans' (T := No) hkk (fun _ h => h) (fun i hi h => by have := HK5a.out.size; omega))
          clear hfr hkk HF HK6 HCOP HK5a
          obtain ⟨e0, e1, e2, e3, e4⟩ := five_cells HC7.out.hw
          obtain ⟨g0, g1, g2, g3, g4⟩ := five_cells HC7.out.hx
          obtain ⟨z, hz⟩ : ∃ z, (s'.la == s.la) = z := ⟨_, rfl⟩
          have hz2 : (s.la == s'.la) = z := BEq.comm.trans hz
          have H1 := hid (show s'.la = s.la → s'.l = s.l ∧ s'.gn = s.gn from fun e => by rw [HCA.out.1 e]; exact ⟨rfl, rfl⟩)
          have H2 := hid (HCA.out.2)
          have HZ2 := hid hz2
          have HZ := hid hz
          clear hz2
          have N12 := hid (show okNew 1 2 by unfold okNew; omega)
          have N22 := hid (show okNew 2 2 by unfold okNew; omega)
          have N13 := hid (show okNew 1 3 by unfold okNew; omega)
          cases z
          all_goals
            go_wp2_with fail
            refine (new_ok 1 2 _ N12.out).mono ?_
            rintro e w' ⟨rfl, rfl⟩
            go_wp2_with fail
            refine (new_ok 2 2 _ N22.out).mono ?_
            rintro e w' ⟨rfl, rfl⟩
            go_wp2_with fail
            refine (new_ok 1 3 _ N13.out).mono ?_
            rintro e w' ⟨rfl, rfl⟩
            clear e0 e1 e2 e3 e4 g0 g1 g2 g3 g4
            have HA1 := hid (new_pts (k := wr.heap.size) rfl N12.out (((Keeps.refl No (wr.alloc (.cells #[.int .i64 1, .int .i64 2, .slice none 0 0, .int .i64 0, .int .i64 (-1)] 60))).alloc (.cells #[.int .i64 2, .int .i64 2, .slice none 0 0, .int .i64 0, .int .i64 (-1)] 60)).alloc (.cells #[.int .i64 1, .int .i64 3, .slice none 0 0, .int .i64 0, .int .i64 (-1)] 60)))
            have HA2 := hid (new_pts (k := wr.heap.size + 1) (by simp) N22.out ((Keeps.refl No ((wr.alloc (.cells #[.int .i64 1, .int .i64 2, .slice none 0 0, .int .i64 0, .int .i64 (-1)] 60)).alloc (.cells #[.int .i64 2, .int .i64 2, .slice none 0 0, .int .i64 0, .int .i64 (-1)] 60))).alloc (.cells #[.int .i64 1, .int .i64 3, .slice none 0 0, .int .i64 0, .int .i64 (-1)] 60)))
            have HA3 := hid (new_pts (k := wr.heap.size + 2) (by simp) N13.out (Keeps.refl No (((wr.alloc (.cells #[.int .i64 1, .int .i64 2, .slice none 0 0, .int .i64 0, .int .i64 (-1)] 60)).alloc (.cells #[.int .i64 2, .int .i64 2, .slice none 0 0, .int .i64 0, .int .i64 (-1)] 60)).alloc (.cells #[.int .i64 1, .int .i64 3, .slice none 0 0, .int .i64 0, .int .i64 (-1)] 60))))
            have HK8 := hid ((((Keeps.refl No wr).alloc (.cells #[.int .i64 1, .int .i64 2, .slice none 0 0, .int .i64 0, .int .i64 (-1)] 60)).alloc (.cells #[.int .i64 2, .int .i64 2, .slice none 0 0, .int .i64 0, .int .i64 (-1)] 60)).alloc (.cells #[.int .i64 1, .int .i64 3, .slice none 0 0, .int .i64 0, .int .i64 (-1)] 60))
            generalize ((wr.alloc (.cells #[.int .i64 1, .int .i64 2, .slice none 0 0, .int .i64 0, .int .i64 (-1)] 60)).alloc (.cells #[.int .i64 2, .int .i64 2, .slice none 0 0, .int .i64 0, .int .i64 (-1)] 60)).alloc (.cells #[.int .i64 1, .int .i64 3, .slice none 0 0, .int .i64 0, .int .i64 (-1)] 60) = W8 at *
            have HC8 := hid (HC7.out.keepS HK8.out (fun _ _ h => h))
            obtain ⟨e0, e1, e2, e3, e4⟩ := five_cells HC8.out.hw
            go_wp2_with fail
            refine (is_any HC8.out.q).mono ?_
            rintro e w9 ⟨rfl, hk9⟩
            have HC9 := hid (HC8.out.keepS hk9 (fun _ _ h => h))
            have HK9 := hid hk9
            clear hk9 e0 e1 e2 e3 e4
            obtain ⟨g0, g1, g2, g3, g4⟩ := five_cells HC9.out.hx
            go_wp2_with fail
            refine (is_any HC9.out.p).mono ?_
            rintro e w10 ⟨rfl, hk10⟩
            have HC10 := hid (HC9.out.keepS hk10 (fun _ _ h => h))
            have HK10 := hid (HK9.out.trans hk10)
            clear hk10 g0 g1 g2 g3 g4
            go_wp2_with fail
            refine (same_st HC10.out.p.pts HC10.out.q.pts H1.out H2.out HZ.out).mono ?_
            rintro e w11 ⟨rfl, hk11⟩
            have HC11 := hid (HC10.out.keepS hk11 (fun _ _ h => h))
            have HK11 := hid (HK10.out.trans hk11)
            clear hk11
            go_wp2_with fail
            refine (same_st HC11.out.q.pts HC11.out.p.pts (fun e => ⟨(H1.out e.symm).1.symm, (H1.out e.symm).2.symm⟩) (fun e => (H2.out e.symm).symm) HZ2.out).mono ?_
            rintro e w12 ⟨rfl, hk12⟩
            have HK12 := hid (HK11.out.trans hk12)
            clear hk12
            go_wp2_with fail
            refine (same_ev (HA1.out.keepNo HK12.out) (HA2.out.keepNo HK12.out) (by decide)).mono ?_
            rintro e w13 ⟨rfl, hk13⟩
            have HK13 := hid (HK12.out.trans hk13)
            clear hk13
            go_wp2_with fail
            refine (same_mo (HA1.out.keepNo HK13.out) (HA3.out.keepNo HK13.out) (by decide) (by decide)).mono ?_
            rintro e w14 ⟨rfl, hk14⟩
            have HK14 := hid (HK13.out.trans hk14)
            clear hk14
            go_wp2_with (go_at_call 11; refine (works_any _).mono ?_; rintro e w3 ⟨rfl, hk3⟩; have HK3 := hid hk3; clear hk3)
            go_ret
            exact ⟨rfl, ((HKW.out.trans HK8.out).trans HK14.out).trans HK3.out⟩
    · have hd : decide ((n : Int) ≤ 200) = false := by simpa using hl
      go_enter Try.func8, Try.ntmps8
      go_wp2_with (first | (go_at_call 10; refine (small_yes ev mo _ _ _ _ HOK.out).mono ?_; rintro e w1 ⟨rfl, hk1⟩; have HK1 := hid hk1; clear hk1) | (go_at_call 11; refine (works_any _).mono ?_; rintro e w3 ⟨rfl, hk3⟩; have HK3 := hid hk3; clear hk3))
      go_ret
      exact ⟨rfl, HK1.out.trans HK3.out⟩
  · have HOK := hid hok
    clear hok
    go_enter Try.func8, Try.ntmps8
    go_wp2_with (first | (go_at_call 10; refine (small_no ev mo _ _ HOK.out).mono ?_; rintro e w1 ⟨rfl, hk1⟩; have HK1 := hid hk1; clear hk1) | (go_at_call 11; refine (works_any _).mono ?_; rintro e w3 ⟨rfl, hk3⟩; have HK3 := hid hk3; clear hk3))
    go_ret
    exact ⟨rfl, HK1.out.trans HK3.out⟩

end Go.Proofs.Ytpnhmcgabnifdaa
