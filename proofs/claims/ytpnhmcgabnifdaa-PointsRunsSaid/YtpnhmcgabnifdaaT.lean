/- Points: the laws PointsRuns, PointsGoes. -/
import Derived.Test.YtpnhmcgabnifdaaS
namespace Go.Proofs.Ytpnhmcgabnifdaa
open Go.RowKit

/-- Points at b, the document's in the box bw, made since the call began. -/
def LawI (w : World) (b bw : Nat) (ev mo : Int) (wr : World) : Prop :=
  ∃ kv wk s, Both wr b ev mo kv wk s ∧ wr.heap[bw]? = some (.cells #[.int .i64 ev, .int .i64 mo, wk, .int .i64 s.gn, .int .i64 s.la] 27 (0, 0)) ∧
    (w.heap.size ≤ b ∧ w.heap.size ≤ bw ∧ b ≠ bw) ∧ (∀ j, kv.ownBlock = some j → w.heap.size ≤ j ∧ j ≠ bw) ∧ (∀ j, wk.ownBlock = some j → w.heap.size ≤ j ∧ j ≠ bw) ∧ Keeps No w wr

theorem law_start {w W W2 : World} {b : Nat} {ev mo : Int} {kv wk : Value} {s : St} (hK : Keeps No w W) (hb : Both W2 b ev mo kv wk s) (h1 : W.heap.size ≤ b) (h2 : ∀ j, kv.ownBlock = some j → W.heap.size ≤ j) (h3 : ∀ j, wk.ownBlock = some j → W.heap.size ≤ j) (hK2 : Keeps No W W2) :
    LawI w b W2.heap.size ev mo (W2.alloc (.cells #[.int .i64 ev, .int .i64 mo, wk, .int .i64 s.gn, .int .i64 s.la] 27)) := by
  have ha := (Keeps.refl No W2).alloc (.cells #[.int .i64 ev, .int .i64 mo, wk, .int .i64 s.gn, .int .i64 s.la] 27)
  have hs := hK.size
  have hs2 := hK2.size
  refine ⟨kv, wk, s, hb.keepNo ha, heap_alloc_new W2 _, ⟨by omega, by omega, ?_⟩, fun j hj => ⟨by have := h2 j hj; omega, ?_⟩, fun j hj => ⟨by have := h3 j hj; omega, ?_⟩, (hK.trans hK2).trans ha⟩
  · have := hb.pts.lt; omega
  · have := (hb.pts.row.lt j hj).2; omega
  · have := (hb.ref.lt j hj).2; omega

theorem law_step {w : World} {b bw : Nat} {ev mo : Int} {kv wk : Value} {s s' : St} {wr w2 : World} {kv' wk' : Value} (hh : wr.heap[bw]? = some (.cells #[.int .i64 ev, .int .i64 mo, wk, .int .i64 s.gn, .int .i64 s.la] 27 (0, 0)))
    (hlt : w.heap.size ≤ b ∧ w.heap.size ≤ bw ∧ b ≠ bw) (h1 : ∀ j, kv.ownBlock = some j → w.heap.size ≤ j ∧ j ≠ bw) (h2 : ∀ j, wk.ownBlock = some j → w.heap.size ≤ j ∧ j ≠ bw) (hk : Keeps No w wr)
    (hb2 : Both w2 b ev mo kv' wk' s') (hk2 : Keeps (Mine b kv) wr w2) (h3 : ∀ k, kv'.ownBlock = some k → kv.ownBlock = some k ∨ wr.heap.size ≤ k) (h4 : ∀ k, wk'.ownBlock = some k → wk.ownBlock = some k ∨ wr.heap.size ≤ k) :
    w2.heap[bw]? = some (.cells #[.int .i64 ev, .int .i64 mo, wk, .int .i64 s.gn, .int .i64 s.la] 27 (0, 0)) ∧
    LawI w b bw ev mo (((((w2.setCell ⟨bw, 0, none⟩ (.int .i64 ev)).setCell ⟨bw, 1, none⟩ (.int .i64 mo)).setCell ⟨bw, 2, none⟩ wk').setCell ⟨bw, 3, none⟩ (.int .i64 s'.gn)).setCell ⟨bw, 4, none⟩ (.int .i64 s'.la)) := by
  have hbl := (Array.getElem?_eq_some_iff.1 hh).1
  have hwr := hk.size
  have K5 : Keeps (fun k => k = bw) w2 (((((w2.setCell ⟨bw, 0, none⟩ (.int .i64 ev)).setCell ⟨bw, 1, none⟩ (.int .i64 mo)).setCell ⟨bw, 2, none⟩ wk').setCell ⟨bw, 3, none⟩ (.int .i64 s'.gn)).setCell ⟨bw, 4, none⟩ (.int .i64 s'.la)) :=
    ((((Keeps.set_at w2 _ 0 _).trans (Keeps.set_at _ _ 1 _)).trans (Keeps.set_at _ _ 2 _)).trans (Keeps.set_at _ _ 3 _)).trans (Keeps.set_at _ _ 4 _)
  have hm : ¬ Mine b kv bw := by
    rintro (h | h)
    · omega
    · have := h1 _ h; omega
  have hkv : ∀ j, kv'.ownBlock = some j → w.heap.size ≤ j ∧ j ≠ bw := by
    intro j hj
    rcases h3 j hj with h | h
    · exact h1 j h
    · omega
  have hwk : ∀ j, wk'.ownBlock = some j → w.heap.size ≤ j ∧ j ≠ bw := by
    intro j hj
    rcases h4 j hj with h | h
    · exact h2 j h
    · omega
  have hh2 := (hk2.block _ hbl hm).trans hh
  refine ⟨hh2, kv', wk', s', ⟨hb2.pts.keep K5 (by omega) (fun k hk => (hkv k hk).2), K5.row hb2.ref (fun k hk => (hwk k hk).2), hb2.sep⟩, heap_set5 hh2 _ _ _ _ _, hlt, hkv, hwk, ?_⟩
  refine (hk.trans' (T := No) hk2 (fun _ h => h) ?_).trans' (T := No) K5 (fun _ h => h) (fun i hi h => by omega)
  rintro i hi (h | h)
  · omega
  · have := h1 i h; omega

/-- The law's come at one time, as the laws call it. -/
theorem law_come {w : World} {b bw : Nat} {ev mo : Int} {kv wk : Value} {s : St} {wr : World} (t : Int) (hb : Both wr b ev mo kv wk s) (hh : wr.heap[bw]? = some (.cells #[.int .i64 ev, .int .i64 mo, wk, .int .i64 s.gn, .int .i64 s.la] 27 (0, 0)))
    (hlt : w.heap.size ≤ b ∧ w.heap.size ≤ bw ∧ b ≠ bw) (h1 : ∀ j, kv.ownBlock = some j → w.heap.size ≤ j ∧ j ≠ bw) (h2 : ∀ j, wk.ownBlock = some j → w.heap.size ≤ j ∧ j ≠ bw) (hk : Keeps No w wr) :
    Calls Try.prog 13 #[.pointer (some ⟨b, 0, none⟩), RefV ev mo wk s.gn s.la, .int .i64 t] wr fun e w2 => ∃ a n c gn la, e = .returned (.tuple #[RefV ev mo (.slice a n c) gn la, .bool true]) ∧
      w2.heap[bw]? = some (.cells #[.int .i64 ev, .int .i64 mo, wk, .int .i64 s.gn, .int .i64 s.la] 27 (0, 0)) ∧
      LawI w b bw ev mo (((((w2.setCell ⟨bw, 0, none⟩ (.int .i64 ev)).setCell ⟨bw, 1, none⟩ (.int .i64 mo)).setCell ⟨bw, 2, none⟩ (.slice a n c)).setCell ⟨bw, 3, none⟩ (.int .i64 gn)).setCell ⟨bw, 4, none⟩ (.int .i64 la)) := by
  refine (comes_any t hb).mono ?_
  rintro e w2 ⟨kv', wk', he, hb2, hk2, h3, h4⟩
  obtain ⟨a, n, c, rfl⟩ := slice_form hb2.ref
  obtain ⟨q1, q2⟩ := law_step hh hlt h1 h2 hk hb2 hk2 h3 h4
  exact ⟨a, n, c, _, _, he, q1, q2⟩

/-- 'fine and is and works', at a law's end. -/
theorem law_is {w : World} {b bw : Nat} {ev mo : Int} {wr : World} (h : LawI w b bw ev mo wr) :
    ∃ a n c gn la, wr.heap[bw]? = some (.cells #[.int .i64 ev, .int .i64 mo, .slice a n c, .int .i64 gn, .int .i64 la] 27 (0, 0)) ∧ Keeps No w wr ∧ (Good ev mo ⟨[], 0, -1⟩ → True) ∧
      ∀ W, Keeps No wr W → Calls Try.prog 14 #[.pointer (some ⟨b, 0, none⟩), RefV ev mo (.slice a n c) gn la] W fun e w' => e = .returned (.bool true) ∧ Keeps No w w' := by
  obtain ⟨kv, wk, s, hb, hh, _, _, _, hk⟩ := h
  obtain ⟨a, n, c, rfl⟩ := slice_form hb.ref
  exact ⟨a, n, c, s.gn, s.la, hh, hk, fun _ => trivial, fun W hW => (is_any (hb.keepNo hW)).mono fun e w' ⟨h1, h2⟩ => ⟨h1, (hk.trans hW).trans h2⟩⟩

set_option maxHeartbeats 1000000 in
theorem runs_law (ev mo n : Int) (w : World) :
    Calls Try.prog 4 #[.int .i64 ev, .int .i64 mo, .int .i64 n] w fun e w' => e = .returned (.bool true) ∧ Keeps No w w' := by
  by_cases hok : okNew ev mo
  · have HOK := hid hok
    clear hok
    by_cases hn0 : n < 0
    · go_enter Try.func4, Try.ntmps4
      go_wp2_with (first | (go_at_call 10; refine (small_yes ev mo _ _ _ _ HOK.out).mono ?_; rintro e w1 ⟨rfl, hk1⟩; have HK1 := hid hk1; clear hk1) | (go_at_call 11; refine (works_any _).mono ?_; rintro e w3 ⟨rfl, hk3⟩; have HK3 := hid hk3; clear hk3))
      go_ret
      exact ⟨rfl, HK1.out.trans HK3.out⟩
    · by_cases hn1 : 400 < n
      · go_enter Try.func4, Try.ntmps4
        go_wp2_with (first | (go_at_call 10; refine (small_yes ev mo _ _ _ _ HOK.out).mono ?_; rintro e w1 ⟨rfl, hk1⟩; have HK1 := hid hk1; clear hk1) | (go_at_call 11; refine (works_any _).mono ?_; rintro e w3 ⟨rfl, hk3⟩; have HK3 := hid hk3; clear hk3))
        go_ret
        exact ⟨rfl, HK1.out.trans HK3.out⟩
      · go_enter Try.func4, Try.ntmps4
        go_wp2_with (go_at_call 10; refine (small_yes ev mo _ _ _ _ HOK.out).mono ?_; rintro e w1 ⟨rfl, hk1⟩; have HK1 := hid hk1; clear hk1)
        refine (played_any ev mo none 0 0 [] (hid rfl) w1 HOK.out (.inl rfl) (by omega)).mono ?_
        rintro e w2 ⟨b, kv, wk, s, rfl, hb, h1, h2, h3, hk2⟩
        obtain ⟨a', n', c', rfl⟩ := slice_form hb.ref
        have HI := hid (law_start HK1.out hb h1 h2 h3 hk2)
        clear hb hk2 HK1 h1 h2 h3
        go_wp2_with fail
        generalize w2.heap.size = bw at *
        generalize w2.alloc (.cells #[.int .i64 ev, .int .i64 mo, .slice a' n' c', .int .i64 s.gn, .int .i64 s.la] 27) = W1 at *
        go_loopw [9, 10] (fun f i wr => ∃ k : Nat, (k : Int) ≤ n ∧ f = .bool true ∧ i = .int .i64 k ∧ LawI w b bw ev mo wr) (fun _ i _ => (n - intOf i).toNat)
        case atStart => exact ⟨0, by omega, rfl, rfl, HI.out⟩
        case round =>
          obtain ⟨k, hk, rfl, rfl, hI⟩ := hrel
          by_cases hlt2 : (k : Int) < n
          · obtain ⟨kv, wk, s, hb, hh, hlt, h1, h2, hkk⟩ := hI
            obtain ⟨a1, n1, c1, rfl⟩ := slice_form hb.ref
            obtain ⟨d0, d1, d2, d3, d4⟩ := five_cells hh
            have HC := hid (law_come (k : Int) hb hh hlt h1 h2 hkk)
            clear hb hh hlt h1 h2 hkk
            go_wp2_with fail
            refine HC.out.mono ?_
            rintro e w2 ⟨a2, n2, c2, gn2, la2, rfl, h9, hI2⟩
            obtain ⟨p0, p1, p2, p3, p4⟩ := five_cells h9
            have f0 := froz (i := 0) h9
            have f1 := froz (i := 1) h9
            have f2 := froz (i := 2) h9
            have f3 := froz (i := 3) h9
            have f4 := froz (i := 4) h9
            have HI2 := hid hI2
            clear hI2 h9 d0 d1 d2 d3 d4
            go_wp2_with fail
            go_roundw
            case rel => exact ⟨k + 1, by omega, rfl, by go_num, HI2.out⟩
            case measure => simp [intOf]; omega
          · obtain ⟨a1, n1, c1, gn1, la1, hh, hkk, _, his⟩ := law_is hI
            obtain ⟨d0, d1, d2, d3, d4⟩ := five_cells hh
            have HIS := hid (his _ (Keeps.refl _ _))
            have HKK := hid hkk
            clear hI hh hkk his
            go_wp2_with (first | (go_at_call 14; refine HIS.out.mono ?_; rintro e w4 ⟨rfl, hk4⟩; have HK4 := hid hk4; clear hk4) | (go_at_call 11; refine (works_any _).mono ?_; rintro e w3 ⟨rfl, hk3⟩; have HK3 := hid hk3; clear hk3))
            go_ret
            exact ⟨rfl, HK4.out.trans HK3.out⟩
  · have HOK := hid hok
    clear hok
    go_enter Try.func4, Try.ntmps4
    go_wp2_with (first | (go_at_call 10; refine (small_no ev mo _ _ HOK.out).mono ?_; rintro e w1 ⟨rfl, hk1⟩; have HK1 := hid hk1; clear hk1) | (go_at_call 11; refine (works_any _).mono ?_; rintro e w3 ⟨rfl, hk3⟩; have HK3 := hid hk3; clear hk3))
    go_ret
    exact ⟨rfl, HK1.out.trans HK3.out⟩

end Go.Proofs.Ytpnhmcgabnifdaa
