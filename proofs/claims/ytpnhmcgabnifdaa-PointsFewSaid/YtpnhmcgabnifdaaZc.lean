/- Points: the law PointsFew. -/
import Derived.Test.YtpnhmcgabnifdaaZb
namespace Go.Proofs.Ytpnhmcgabnifdaa
open Go.RowKit

/-- The first loop: points at b, and the first time that was kept. -/
def FewI (w : World) (b : Nat) (ev mo : Int) (f : Int) (wr : World) : Prop :=
  ∃ (kv : Value) (s : St), Pts wr b ev mo kv s.l s.gn s.la ∧ w.heap.size ≤ b ∧ (∀ j, kv.ownBlock = some j → w.heap.size ≤ j) ∧ Keeps No w wr ∧ ((f < 0 ∧ s.l = []) ∨ (0 ≤ f ∧ 1 ≤ s.l.length ∧ s.l[0]?.getD 0 = f))

theorem few_step {w : World} {b : Nat} {ev mo f : Int} {wr w2 w3 : World} {kv kv' : Value} {s' : St} (hb : w.heap.size ≤ b) (hv : ∀ j, kv.ownBlock = some j → w.heap.size ≤ j) (hk : Keeps No w wr)
    (hp2 : Pts w2 b ev mo kv' s'.l s'.gn s'.la) (hk2 : Keeps (Mine b kv) wr w2) (hf2 : ∀ k, kv'.ownBlock = some k → kv.ownBlock = some k ∨ wr.heap.size ≤ k) (hk3 : Keeps No w2 w3) (h : (f < 0 ∧ s'.l = []) ∨ (0 ≤ f ∧ 1 ≤ s'.l.length ∧ s'.l[0]?.getD 0 = f)) : FewI w b ev mo f w3 := by
  have hs := hk.size
  refine ⟨kv', s', hp2.keepNo hk3, hb, fun j hj => ?_, (hk.trans' (T := No) hk2 (fun _ h => h) (fun i hi h => ?_)).trans hk3, h⟩
  · rcases hf2 j hj with h | h
    · exact hv j h
    · omega
  · rcases h with h | h
    · omega
    · have := hv i h; omega

theorem few_draw {w : World} {b : Nat} {ev mo f : Int} {wr : World} (h : FewI w b ev mo f wr) (m : Nat) : FewI w b ev mo f (wr.drewN m) := by
  obtain ⟨kv, s, h1, h2, h3, h4, h5⟩ := h
  exact ⟨kv, s, h1.keepNo ((Keeps.refl No wr).drewN m), h2, h3, h4.drewN m, h5⟩

/-- The second loop: points at c, behind the times 0 .. k - 1. -/
def FarI (w : World) (c : Nat) (ev mo : Int) (k : Nat) (wr : World) : Prop :=
  ∃ (kv : Value) (s : St), Pts wr c ev mo kv s.l s.gn s.la ∧ w.heap.size ≤ c ∧ (∀ j, kv.ownBlock = some j → w.heap.size ≤ j) ∧ Keeps No w wr ∧ Run ev k s

theorem far_step {w : World} {b : Nat} {ev mo : Int} {wr w2 w3 : World} {kv kv' : Value} {s' : St} {k : Nat} (hb : w.heap.size ≤ b) (hv : ∀ j, kv.ownBlock = some j → w.heap.size ≤ j) (hk : Keeps No w wr)
    (hp2 : Pts w2 b ev mo kv' s'.l s'.gn s'.la) (hk2 : Keeps (Mine b kv) wr w2) (hf2 : ∀ k, kv'.ownBlock = some k → kv.ownBlock = some k ∨ wr.heap.size ≤ k) (hk3 : Keeps No w2 w3) (h : Run ev k s') : FarI w b ev mo k w3 := by
  have hs := hk.size
  refine ⟨kv', s', hp2.keepNo hk3, hb, fun j hj => ?_, (hk.trans' (T := No) hk2 (fun _ h => h) (fun i hi h => ?_)).trans hk3, h⟩
  · rcases hf2 j hj with h | h
    · exact hv j h
    · omega
  · rcases h with h | h
    · omega
    · have := hv i h; omega

theorem far_keep {w : World} {b : Nat} {ev mo : Int} {k : Nat} {wr w' : World} (h : FarI w b ev mo k wr) (hk : Keeps No wr w') : FarI w b ev mo k w' := by
  obtain ⟨kv, s, h1, h2, h3, h4, h5⟩ := h
  exact ⟨kv, s, h1.keepNo hk, h2, h3, h4.trans hk, h5⟩

theorem quo_few (ev gn B : Int) (k : Nat) (h0 : 1 ≤ ev) (h2 : B ≤ k) (h3 : (k : Int) - B < ev * (1 + gn)) : 0 ≤ ((k : Int) - B).tdiv ev ∧ ((k : Int) - B).tdiv ev < 1 + gn ∧ ((k : Int) - B).tdiv ev ≤ (k : Int) - B := by
  rw [Int.tdiv_eq_ediv_of_nonneg (by omega)]
  refine ⟨Int.ediv_nonneg (by omega) (by omega), ?_, Int.ediv_le_self _ (by omega)⟩
  exact Int.ediv_lt_of_lt_mul (by omega) (by rw [Int.mul_comm]; exact h3)

set_option maxRecDepth 8000 in
set_option maxHeartbeats 2000000 in
theorem few_law (ev mo : Int) (ta : Option Addr) (cap n : Nat) (l : List Int) (hn : Hid (l.length = n)) (m : Int) (w : World) (ht : IntsAt w ta l) :
    Calls Try.prog 6 #[.int .i64 ev, .int .i64 mo, .slice ta n cap, .int .i64 m] w fun e w' => e = .returned (.bool true) ∧ Keeps No w w' := by
  have HT := hid ht
  clear ht
  by_cases hok : okNew ev mo
  · have HOK := hid hok
    have hev1 := hok.1
    clear hok
    by_cases hl : (n : Int) ≤ 200
    · have hd : decide ((n : Int) ≤ 200) = true := by simpa using hl
      by_cases hm0 : m < 0
      · go_enter Try.func6, Try.ntmps6
        go_wp2_with (first | (go_at_call 10; refine (small_yes ev mo _ _ _ _ HOK.out).mono ?_; rintro e w1 ⟨rfl, hk1⟩; have HK1 := hid hk1; clear hk1) | (go_at_call 11; refine (works_any _).mono ?_; rintro e w3 ⟨rfl, hk3⟩; have HK3 := hid hk3; clear hk3))
        go_ret
        exact ⟨rfl, HK1.out.trans HK3.out⟩
      · by_cases hm1 : 400 < m
        · go_enter Try.func6, Try.ntmps6
          go_wp2_with (first | (go_at_call 10; refine (small_yes ev mo _ _ _ _ HOK.out).mono ?_; rintro e w1 ⟨rfl, hk1⟩; have HK1 := hid hk1; clear hk1) | (go_at_call 11; refine (works_any _).mono ?_; rintro e w3 ⟨rfl, hk3⟩; have HK3 := hid hk3; clear hk3))
          go_ret
          exact ⟨rfl, HK1.out.trans HK3.out⟩
        · go_enter Try.func6, Try.ntmps6
          go_wp2_with (first | (go_at_call 10; refine (small_yes ev mo _ _ _ _ HOK.out).mono ?_; rintro e w1 ⟨rfl, hk1⟩; have HK1 := hid hk1; clear hk1) | (go_at_call 16; refine (new_ok ev mo _ HOK.out).mono ?_; rintro e w' ⟨rfl, rfl⟩))
          have HI := hid (show FewI w w1.heap.size ev mo (-1) (w1.alloc (.cells #[.int .i64 ev, .int .i64 mo, .slice none 0 0, .int .i64 0, .int .i64 (-1)] 60)) from
            ⟨.slice none 0 0, ⟨[], 0, -1⟩, new_pts rfl HOK.out (Keeps.refl _ _), HK1.out.size, (fun j hj => by cases hj), HK1.out.alloc _, Or.inl ⟨by omega, rfl⟩⟩)
          generalize w1.heap.size = b at *
          generalize w1.alloc (.cells #[.int .i64 ev, .int .i64 mo, .slice none 0 0, .int .i64 0, .int .i64 (-1)] 60) = W1 at *
          clear HK1
          go_loopw [11, 12] (fun fv i wr => ∃ (k : Nat) (f : Int), k ≤ n ∧ i = .int .i64 k ∧ fv = .int .i64 f ∧ FewI w b ev mo f wr) (fun _ i _ => n - (intOf i).toNat)
          case atStart => exact ⟨0, -1, Nat.zero_le _, rfl, rfl, HI.out⟩
          case round =>
            obtain ⟨k, f, hk, rfl, rfl, kv, s, hp, hbw, hv, hkk, hf⟩ := hrel
            by_cases hlt : k < n
            · obtain ⟨g, off, rfl, hc⟩ := HT.out.resolve_left (by rintro rfl; have := hn.out; simp at this; omega)
              have HX := hid (fun (w' : World) (hk' : Keeps No w w') => hk'.cellS (p := ⟨g, off + k, none⟩) (hc k (by rw [hn.out]; exact hlt)) (fun e => e))
              have x1 := HX.out _ hkk
              generalize l[k]?.getD 0 = t at *
              have hcm := hid (fun W (hp : Pts W b ev mo kv s.l s.gn s.la) => come_any t hp)
              obtain ⟨hc1, hc2⟩ := come_few (s := s) hp.good t
              have HP := hid hp
              have HV := hid hv
              have HKK := hid hkk
              have HF := hid hf
              clear hc hp hv hkk hf
              generalize comeS ev mo s t = r at *
              obtain ⟨s', keep, gone, er⟩ := r
              dsimp only at hc1 hc2
              have HC1 := hid hc1
              have HC2 := hid hc2
              clear hc1 hc2
              go_wp2_with fail
              refine (hcm.out _ HP.out).mono ?_
              rintro e w2 ⟨rfl, kv', hp2, hk2, hf2⟩
              dsimp only at hp2 hk2 hf2 ⊢
              have hsz := HKK.out.size
              have x2 := HX.out _ (HKK.out.trans' (T := No) hk2 (fun _ h => h) (fun i hi h => by rcases h with h | h; omega; have := HV.out i h; omega))
              have HP2 := hid hp2
              have HK2 := hid hk2
              have HF2 := hid hf2
              have hfew := hp2.few
              clear hp2 hk2 hf2 x1
              cases keep with
              | true =>
                obtain ⟨u1, u2, u3, u4⟩ := HC2.out rfl
                have HU := hid (show ∃ f', (if f < 0 then t else f) = f' ∧ 0 ≤ f' ∧ s'.l[0]?.getD 0 = f' from by
                  rcases HF.out with ⟨q1, q2⟩ | ⟨q1, q2, q3⟩
                  · rw [if_pos q1]; exact ⟨_, rfl, u1, by rw [u4, if_pos q2]⟩
                  · rw [if_neg (by omega)]; exact ⟨_, rfl, q1, by rw [u4, if_neg (by intro e; rw [e] at q2; simp at q2), q3]⟩)
                by_cases hf0 : f < 0
                · have HU2 := hid (show 0 ≤ t ∧ s'.l[0]?.getD 0 = t from ⟨u1, by obtain ⟨f', h1, _, h3⟩ := HU.out; rw [if_pos hf0] at h1; rw [h3, h1]⟩)
                  go_wp2_with fail
                  refine (all_form HP2.out).mono ?_
                  rintro e w3 ⟨a3, c3, rfl, _, hk3, hr3⟩
                  obtain ⟨g3, cap3, he, _, _, hc3⟩ := hr3.shape.resolve_left (by rintro ⟨_, h0⟩; rw [h0] at u2; simp at u2)
                  cases he
                  have y0 := hc3 0 (by omega)
                  have y1 := hc3 (s'.l.length - 1) (by omega)
                  have x3 := hk3.cellS x2 (fun e => e)
                  have HI2 := hid (few_step (f := t) hbw HV.out HKK.out HP2.out HK2.out HF2.out hk3 (Or.inr ⟨HU2.out.1, u2, HU2.out.2⟩))
                  rw [u3] at y1
                  rw [HU2.out.2] at y0
                  clear hc3 hr3 hk3 x2 HC2 HC1 HF
                  generalize s'.l.length = L at *
                  have q1 : decide (mo < (L : Int)) = false := by simp; omega
                  have q2 : decide (0 ≤ t) = true := by have := HU2.out.1; simpa using this
                  have q3 : ((L : Int) == 0) = false := by simp; omega
                  have q4 : (0 : Int) < (L : Int) := by omega
                  have q5 : (L : Int) - 1 < (L : Int) := by omega
                  have q6 : (0 : Int) ≤ (L : Int) - 1 := by omega
                  have q7 : IntKind.i64.wrap ((L : Int) - 1) = (L : Int) - 1 := by have := HOK.out.2.2.2; rw [IntKind.wrap_i64]; omega
                  go_wp2_with fail
                  go_quiet (fail)
                  go_wp2_with fail
                  go_roundw
                  case rel => exact ⟨k + 1, t, by omega, by go_num, rfl, few_draw HI2.out _⟩
                  case measure => simp [intOf]; omega
                · have HU2 := hid (show 0 ≤ f ∧ s'.l[0]?.getD 0 = f from ⟨by omega, by obtain ⟨f', h1, _, h3⟩ := HU.out; rw [if_neg hf0] at h1; rw [h3, h1]⟩)
                  go_wp2_with fail
                  refine (all_form HP2.out).mono ?_
                  rintro e w3 ⟨a3, c3, rfl, _, hk3, hr3⟩
                  obtain ⟨g3, cap3, he, _, _, hc3⟩ := hr3.shape.resolve_left (by rintro ⟨_, h0⟩; rw [h0] at u2; simp at u2)
                  cases he
                  have y0 := hc3 0 (by omega)
                  have y1 := hc3 (s'.l.length - 1) (by omega)
                  have x3 := hk3.cellS x2 (fun e => e)
                  have HI2 := hid (few_step (f := f) hbw HV.out HKK.out HP2.out HK2.out HF2.out hk3 (Or.inr ⟨HU2.out.1, u2, HU2.out.2⟩))
                  rw [u3] at y1
                  rw [HU2.out.2] at y0
                  clear hc3 hr3 hk3 x2 HC2 HC1 HF
                  generalize s'.l.length = L at *
                  have q1 : decide (mo < (L : Int)) = false := by simp; omega
                  have q2 : decide (0 ≤ f) = true := by have := HU2.out.1; simpa using this
                  have q3 : ((L : Int) == 0) = false := by simp; omega
                  have q4 : (0 : Int) < (L : Int) := by omega
                  have q5 : (L : Int) - 1 < (L : Int) := by omega
                  have q6 : (0 : Int) ≤ (L : Int) - 1 := by omega
                  have q7 : IntKind.i64.wrap ((L : Int) - 1) = (L : Int) - 1 := by have := HOK.out.2.2.2; rw [IntKind.wrap_i64]; omega
                  go_wp2_with fail
                  go_quiet (fail)
                  go_wp2_with fail
                  go_roundw
                  case rel => exact ⟨k + 1, f, by omega, by go_num, rfl, few_draw HI2.out _⟩
                  case measure => simp [intOf]; omega
              | false =>
                go_wp2_with fail
                refine (all_form HP2.out).mono ?_
                rintro e w3 ⟨a3, c3, rfl, _, hk3, hr3⟩
                have x3 := hk3.cellS x2 (fun e => e)
                have HL : Hid (s'.l = s.l) := hid (by simpa using HC1.out)
                have HI2 := hid (few_step (f := f) hbw HV.out HKK.out HP2.out HK2.out HF2.out hk3 (by rw [HL.out]; exact HF.out))
                by_cases hf0 : f < 0
                · have q1 : decide (mo < (s'.l.length : Int)) = false := by simp; omega
                  have q2 : decide (0 ≤ f) = false := by simp; omega
                  clear hr3 hk3 x2 HC2 HC1 HF HL
                  generalize s'.l.length = L at *
                  go_wp2_with fail
                  go_quiet (fail)
                  go_wp2_with fail
                  go_roundw
                  case rel => exact ⟨k + 1, f, by omega, by go_num, rfl, few_draw HI2.out _⟩
                  case measure => simp [intOf]; omega
                · obtain ⟨u0, u2, u3⟩ := HF.out.resolve_left (by rintro ⟨h1, _⟩; omega)
                  rw [← HL.out] at u2 u3
                  obtain ⟨g3, cap3, he, _, _, hc3⟩ := hr3.shape.resolve_left (by rintro ⟨_, h0⟩; rw [h0] at u2; simp at u2)
                  cases he
                  have y0 := hc3 0 (by omega)
                  rw [u3] at y0
                  clear hc3 hr3 hk3 x2 HC2 HC1 HF HL u3
                  generalize s'.l.length = L at *
                  have q1 : decide (mo < (L : Int)) = false := by simp; omega
                  have q2 : decide (0 ≤ f) = true := by simp; omega
                  have q3 : ((L : Int) == 0) = false := by simp; omega
                  have q4 : (0 : Int) < (L : Int) := by omega
                  go_wp2_with fail
                  go_quiet (fail)
                  go_wp2_with fail
                  go_roundw
                  case rel => exact ⟨k + 1, f, by omega, by go_num, rfl, few_draw HI2.out _⟩
                  case measure => simp [intOf]; omega
            · go_wp2_with fail
              refine (new_ok ev mo _ HOK.out).mono ?_
              rintro e w' ⟨rfl, rfl⟩
              obtain ⟨M, rfl⟩ : ∃ M : Nat, m = M := ⟨m.toNat, by omega⟩
              have hsw := hkk.size
              have HI2 := hid (show FarI w wr.heap.size ev mo 0 (wr.alloc (.cells #[.int .i64 ev, .int .i64 mo, .slice none 0 0, .int .i64 0, .int .i64 (-1)] 60)) from
                ⟨.slice none 0 0, ⟨[], 0, -1⟩, new_pts rfl HOK.out (Keeps.refl _ _), hsw, (fun j hj => by cases hj), hkk.alloc _, run_start ev⟩)
              clear hp hbw hv hkk hf hsw
              generalize wr.heap.size = c at *
              generalize wr.alloc (.cells #[.int .i64 ev, .int .i64 mo, .slice none 0 0, .int .i64 0, .int .i64 (-1)] 60) = W2 at *
              go_wp2_with fail
              go_loopw [19] (fun i wr => ∃ k : Nat, k ≤ M ∧ i = .int .i64 k ∧ FarI w c ev mo k wr) (fun i _ => M - (intOf i).toNat)
              case atStart => exact ⟨0, Nat.zero_le _, rfl, HI2.out⟩
              case round =>
                obtain ⟨k2, hk2, rfl, hfar⟩ := hrel
                by_cases hlt2 : k2 < M
                · obtain ⟨kv, s, hp, hcw, hv, hkk, hrun⟩ := hfar
                  have hcm := hid (come_any (s := s) k2 hp)
                  have HR := hid (run_step (s := s) hp.good hrun (by omega))
                  have HV := hid hv
                  have HKK := hid hkk
                  clear hp hv hkk hrun
                  generalize comeS ev mo s k2 = r at *
                  obtain ⟨s', keep, gone, er⟩ := r
                  dsimp only at HR
                  go_wp2_with fail
                  refine hcm.out.mono ?_
                  rintro e w2 ⟨rfl, kv', hp2, hk2', hf2⟩
                  dsimp only at hp2 hk2' hf2 ⊢
                  have hfew := hp2.few
                  have HP2 := hid hp2
                  have HK2 := hid hk2'
                  have HF2 := hid hf2
                  clear hp2 hk2' hf2
                  go_wp2_with fail
                  refine (all_form HP2.out).mono ?_
                  rintro e w3 ⟨a3, c3, rfl, _, hk3, _⟩
                  have HI3 := hid (far_step hcw HV.out HKK.out HP2.out HK2.out HF2.out hk3 HR.out)
                  clear hk3
                  generalize s'.l.length = L at *
                  go_wp2_with fail
                  go_roundw
                  case rel => exact ⟨k2 + 1, by omega, by go_num, HI3.out⟩
                  case measure => simp [intOf]; omega
                · obtain rfl : k2 = M := by omega
                  have HFAR := hid hfar
                  clear hfar
                  go_wp2_with fail
                  go_loopw [20] (fun i wr2 => ∃ k : Nat, k ≤ k2 ∧ i = .int .i64 k ∧ FarI w c ev mo k2 wr2) (fun i _ => k2 - (intOf i).toNat)
                  case atStart => exact ⟨0, Nat.zero_le _, rfl, HFAR.out⟩
                  case round =>
                    obtain ⟨k, hk, rfl, hI⟩ := hrel
                    have HI4 := hid hI
                    obtain ⟨kv, s, hp, hcw, hv, hkk, hrun⟩ := hI
                    by_cases hlt3 : k < k2
                    · obtain ⟨f1, f2, f3⟩ := run_far (s := s) hp.good hrun hlt3
                      have hz : (ev == 0) = false := by simp; omega
                      have hfar := far_any (k : Int) (by omega) hp
                      rw [if_pos f1] at hfar
                      obtain ⟨g1, g2, g3⟩ := quo_few ev s.gn (bestOf s.l k) k hev1 f2 f3
                      have HG := hid (fun m => gone_some c ev s.gn (wr.drewN m) (hp.keepNo ((Keeps.refl No wr).drewN m)).c0 hz (hp.keepNo ((Keeps.refl No wr).drewN m)).c3)
                      have u1 := hp.gn1
                      have u2 := hp.gn2
                      have u3 := hp.la2
                      have HFAR2 := hid hfar
                      clear hfar hp hv hkk hrun f3
                      generalize bestOf s.l k = B at *
                      generalize hD : (k : Int) - B = D at *
                      have hD0 : 0 ≤ D := by omega
                      have HD := hid hD
                      clear hD
                      have hw1 : IntKind.i64.wrap (1 + s.gn) = 1 + s.gn := by rw [IntKind.wrap_i64]; omega
                      have hw2 : IntKind.i64.wrap (D.tdiv ev) = D.tdiv ev := by rw [IntKind.wrap_i64]; omega
                      have hd1 : decide (D < 0) = false := by simp; omega
                      have hd2 : decide (1 + s.gn ≤ D.tdiv ev) = false := by simp; omega
                      generalize s.gn = gn at *
                      go_wp2_with fail
                      refine HFAR2.out.mono ?_
                      rintro e w' ⟨rfl, rfl⟩
                      go_wp2_with fail
                      go_quiet ((first | (go_at_call 20; refine Calls.quiet_of_same ((num_any _ _).mono fun _ _ ⟨h1, h2⟩ => ⟨h1, h2.symm⟩)) | (go_at_call 21; refine Calls.quiet_of_same ((HG.out _).mono fun _ _ ⟨h1, h2⟩ => ⟨h1, h2.symm⟩))))
                      go_wp2_with fail
                      go_roundw
                      case rel => exact ⟨k + 1, by omega, by go_num, far_keep HI4.out ((Keeps.refl No _).drewN _)⟩
                      case measure => simp [intOf]; omega
                    · have HKK := hid hkk
                      clear hp hv hkk hrun
                      go_wp2_with (first | (go_at_call 20; refine (num_any _ _).mono ?_; rintro e w' ⟨rfl, rfl⟩) | (go_at_call 11; refine (works_any _).mono ?_; rintro e w3 ⟨rfl, hk3⟩; have HK3 := hid hk3; clear hk3))
                      go_ret
                      exact ⟨rfl, HKK.out.trans HK3.out⟩
    · have hd : decide ((n : Int) ≤ 200) = false := by simpa using hl
      go_enter Try.func6, Try.ntmps6
      go_wp2_with (first | (go_at_call 10; refine (small_yes ev mo _ _ _ _ HOK.out).mono ?_; rintro e w1 ⟨rfl, hk1⟩; have HK1 := hid hk1; clear hk1) | (go_at_call 11; refine (works_any _).mono ?_; rintro e w3 ⟨rfl, hk3⟩; have HK3 := hid hk3; clear hk3))
      go_ret
      exact ⟨rfl, HK1.out.trans HK3.out⟩
  · have HOK := hid hok
    clear hok
    go_enter Try.func6, Try.ntmps6
    go_wp2_with (first | (go_at_call 10; refine (small_no ev mo _ _ HOK.out).mono ?_; rintro e w1 ⟨rfl, hk1⟩; have HK1 := hid hk1; clear hk1) | (go_at_call 11; refine (works_any _).mono ?_; rintro e w3 ⟨rfl, hk3⟩; have HK3 := hid hk3; clear hk3))
    go_ret
    exact ⟨rfl, HK1.out.trans HK3.out⟩

end Go.Proofs.Ytpnhmcgabnifdaa
