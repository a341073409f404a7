/- Points: the law PointsMakes. -/
import Derived.Test.YtpnhmcgabnifdaaW
namespace Go.Proofs.Ytpnhmcgabnifdaa
open Go.RowKit

theorem same_nn (w : World) :
    Calls Try.prog 25 #[.pointer none, .pointer none] w fun e w' => e = .returned (.bool true) ∧ w = w' := by
  go_enter Try.func25, Try.ntmps25
  go_wp2_with (go_at_call 29; refine (none_nil _).mono ?_; rintro e w' ⟨rfl, rfl⟩)
  go_ret
  exact ⟨rfl, rfl⟩

theorem same_ns (b : Nat) (ev : Int) (w : World) (h0 : w.cell? ⟨b, 0, none⟩ = some (.int .i64 ev)) (h1 : (ev == 0) = false) :
    Calls Try.prog 25 #[.pointer none, .pointer (some ⟨b, 0, none⟩)] w fun e w' => e = .returned (.bool false) ∧ w = w' := by
  go_enter Try.func25, Try.ntmps25
  go_wp2_with fail
  refine (none_nil _).mono ?_
  rintro e w' ⟨rfl, rfl⟩
  go_wp2_with fail
  refine (none_nil _).mono ?_
  rintro e w' ⟨rfl, rfl⟩
  go_wp2_with fail
  refine (none_some b ev _ h0 h1).mono ?_
  rintro e w' ⟨rfl, rfl⟩
  go_wp2_with fail
  go_ret
  exact ⟨rfl, rfl⟩

theorem same_sn (b : Nat) (ev : Int) (w : World) (h0 : w.cell? ⟨b, 0, none⟩ = some (.int .i64 ev)) (h1 : (ev == 0) = false) :
    Calls Try.prog 25 #[.pointer (some ⟨b, 0, none⟩), .pointer none] w fun e w' => e = .returned (.bool false) ∧ w = w' := by
  go_enter Try.func25, Try.ntmps25
  go_wp2_with fail
  refine (none_some b ev _ h0 h1).mono ?_
  rintro e w' ⟨rfl, rfl⟩
  go_wp2_with fail
  refine (none_nil _).mono ?_
  rintro e w' ⟨rfl, rfl⟩
  go_wp2_with fail
  refine (none_some b ev _ h0 h1).mono ?_
  rintro e w' ⟨rfl, rfl⟩
  go_wp2_with fail
  go_ret
  exact ⟨rfl, rfl⟩

theorem makes_both {w w1 w2 : World} {ev mo : Int} (hok : okNew ev mo) (HK1 : Keeps No (w.alloc (.cells #[.int .i64 ev, .int .i64 mo, .slice none 0 0, .int .i64 0, .int .i64 (-1)] 60)) w1)
    (hk2 : Keeps No (w1.alloc (.cells #[.int .i64 ev, .int .i64 mo, .slice none 0 0, .int .i64 0, .int .i64 (-1)] 27)) w2) :
    Both w2 w.heap.size ev mo (.slice none 0 0) (.slice none 0 0) ⟨[], 0, -1⟩ ∧ w2.heap[w1.heap.size]? = some (.cells #[.int .i64 ev, .int .i64 mo, .slice none 0 0, .int .i64 0, .int .i64 (-1)] 27 (0, 0)) ∧ Keeps No w w2 := by
  have hp0 := heap_alloc_new w (.cells #[.int .i64 ev, .int .i64 mo, .slice none 0 0, .int .i64 0, .int .i64 (-1)] 60)
  have hK := (HK1.alloc (.cells #[.int .i64 ev, .int .i64 mo, .slice none 0 0, .int .i64 0, .int .i64 (-1)] 27)).trans hk2
  refine ⟨⟨((good0 ev mo hok).pts hp0 (World.ownsRow_nil _ _ _ _) (by simp [Value.ownBlock])).keepNo hK, World.ownsRow_nil _ _ _ _, fun k hk => by cases hk⟩, (hk2.block _ (by simp) (fun e => e)).trans (heap_alloc_new w1 _), ((Keeps.refl No w).alloc _).trans hK⟩

set_option maxHeartbeats 1000000 in
theorem makes_law (ev mo : Int) (w : World) :
    Calls Try.prog 9 #[.int .i64 ev, .int .i64 mo] w fun e w' => e = .returned (.bool true) ∧ Keeps No w w' := by
  by_cases hok : okNew ev mo
  · have HOK := hid hok
    have hz : (ev == 0) = false := by have := hok.1; simp; omega
    clear hok
    go_enter Try.func9, Try.ntmps9
    go_wp2_with (first | (go_at_call 16; refine (new_ok ev mo _ HOK.out).mono ?_; rintro e w' ⟨rfl, rfl⟩) | (go_at_call 26; refine (refnew_ok ev mo _ HOK.out).mono ?_; rintro e w1 ⟨rfl, hk1⟩; have HK1 := hid hk1; clear hk1) | (go_at_call 17; refine (come_nil _ _).mono ?_; rintro e w2 ⟨rfl, hk2⟩; have hb := makes_both HOK.out HK1.out hk2; obtain ⟨hb, h9, hk9⟩ := hb; have HB := hid hb; have HK9 := hid hk9; have h8 := hb.pts.c0; obtain ⟨p0, p1, p2, p3, p4⟩ := five_cells h9; clear hb hk9 h9 hk2) | (go_at_call 19; refine (far_nil _ _).mono ?_; rintro e w' ⟨rfl, rfl⟩) | (go_at_call 22; refine (best_nil _ _).mono ?_; rintro e w' ⟨rfl, rfl⟩) | (go_at_call 27; refine (last_nil _).mono ?_; rintro e w' ⟨rfl, rfl⟩) | (go_at_call 20; refine (num_any _ _).mono ?_; rintro e w' ⟨rfl, rfl⟩) | (go_at_call 18; refine (all_nil _).mono ?_; rintro e w' ⟨rfl, rfl⟩) | (go_at_call 21; refine (gone_nil _).mono ?_; rintro e w' ⟨rfl, rfl⟩) | (go_at_call 24; refine (copy_nil _).mono ?_; rintro e w' ⟨rfl, rfl⟩))
    refine (same_nn _).mono ?_
    rintro e w' ⟨rfl, rfl⟩
    go_wp2_with (first | (go_at_call 20; refine (num_any _ _).mono ?_; rintro e w' ⟨rfl, rfl⟩) | (go_at_call 14; refine (is_any HB.out).mono ?_; rintro e w5 ⟨rfl, hk5⟩; have h7 := hk5.cellS h8 (fun e => e); have HK5 := hid (HK9.out.trans hk5); clear hk5))
    refine (same_sn _ ev _ h7 hz).mono ?_
    rintro e w' ⟨rfl, rfl⟩
    go_wp2_with fail
    refine (same_ns _ ev _ h7 hz).mono ?_
    rintro e w' ⟨rfl, rfl⟩
    go_wp2_with (go_at_call 11; refine (works_any _).mono ?_; rintro e w3 ⟨rfl, hk3⟩; have HK3 := hid hk3; clear hk3)
    go_ret
    exact ⟨rfl, HK5.out.trans HK3.out⟩
  · have HOK := hid hok
    clear hok
    go_enter Try.func9, Try.ntmps9
    go_wp2_with (first | (go_at_call 16; refine (new_no ev mo _ HOK.out).mono ?_; rintro e w' ⟨rfl, rfl⟩) | (go_at_call 26; refine (refnew_no ev mo _ HOK.out).mono ?_; rintro e w1 ⟨rfl, hk1⟩; have HK1 := hid hk1; clear hk1) | (go_at_call 17; refine (come_nil _ _).mono ?_; rintro e w2 ⟨rfl, hk2⟩; have HK2 := hid hk2; clear hk2) | (go_at_call 19; refine (far_nil _ _).mono ?_; rintro e w' ⟨rfl, rfl⟩) | (go_at_call 22; refine (best_nil _ _).mono ?_; rintro e w' ⟨rfl, rfl⟩) | (go_at_call 27; refine (last_nil _).mono ?_; rintro e w' ⟨rfl, rfl⟩) | (go_at_call 20; refine (num_any _ _).mono ?_; rintro e w' ⟨rfl, rfl⟩) | (go_at_call 18; refine (all_nil _).mono ?_; rintro e w' ⟨rfl, rfl⟩) | (go_at_call 21; refine (gone_nil _).mono ?_; rintro e w' ⟨rfl, rfl⟩) | (go_at_call 24; refine (copy_nil _).mono ?_; rintro e w' ⟨rfl, rfl⟩) | (go_at_call 25; refine (same_nn _).mono ?_; rintro e w' ⟨rfl, rfl⟩) | (go_at_call 11; refine (works_any _).mono ?_; rintro e w3 ⟨rfl, hk3⟩; have HK3 := hid hk3; clear hk3))
    go_ret
    exact ⟨rfl, ((HK1.out.alloc _).trans HK2.out).trans HK3.out⟩

end Go.Proofs.Ytpnhmcgabnifdaa
