/- Points: Copy, Same. -/
import Derived.Test.YtpnhmcgabnifdaaS
import Derived.Laws.StructEq
import Derived.Test.YtpnhmcgabnifdaaX
import Derived.Deep.QuietTactic
import Derived.BigQuiet
namespace Go.Proofs.Ytpnhmcgabnifdaa
open Go.RowKit

theorem copy_nil (w : World) :
    Calls Try.prog 24 #[.pointer none] w fun e w' => e = .returned (.pointer none) ∧ w = w' := by
  go_enter Try.func24, Try.ntmps24
  go_wp2_with (go_at_call 29; refine (none_nil _).mono ?_; rintro e w' ⟨rfl, rfl⟩)
  go_ret
  exact ⟨rfl, rfl⟩

set_option maxHeartbeats 1000000 in
theorem copy_any {w : World} {b : Nat} {ev mo gn la : Int} {kv : Value} {l : List Int} (h : Pts w b ev mo kv l gn la) :
    Calls Try.prog 24 #[.pointer (some ⟨b, 0, none⟩)] w fun e w' => ∃ b' kv', e = .returned (.pointer (some ⟨b', 0, none⟩)) ∧ Pts w' b' ev mo kv' l gn la ∧ w.heap.size ≤ b' ∧ (∀ j, kv'.ownBlock = some j → w.heap.size ≤ j) ∧ Keeps No w w' := by
  obtain ⟨h0, h1, h2, h3, h4⟩ := five_cells h.heap
  have hz := h.nz
  have H := hid h
  have hlt := h.lt
  clear h
  obtain ⟨a, n, c, rfl⟩ := slice_form H.out.row
  go_enter Try.func24, Try.ntmps24
  go_wp2_with (go_at_call 29; refine (none_some b ev _ h0 hz).mono ?_; rintro e w' ⟨rfl, rfl⟩)
  have HK := hid ((Keeps.refl No w).alloc (.cells #[.int .i64 ev, .int .i64 mo, .slice a n c, .int .i64 gn, .int .i64 la] 60))
  have hn := heap_alloc_new w (.cells #[.int .i64 ev, .int .i64 mo, .slice a n c, .int .i64 gn, .int .i64 la] 60)
  refine (clone_any _ l _ (HK.out.row H.out.row (fun _ _ e => e)) (by have := H.out.few; have := H.out.mo2; omega)).mono ?_
  rintro e w2 ⟨v, rfl, hr, hk⟩
  have hn2 := (hk.block w.heap.size (by simp) (fun e => e)).trans hn
  obtain ⟨a2, n2, c2, rfl⟩ := slice_form hr
  obtain ⟨p0, p1, p2, p3, p4⟩ := five_cells hn2
  have f2 := froz (i := 2) hn2
  have HR := hid hr
  have HK2 := hid (HK.out.trans hk)
  have HN := hid hn2
  clear hr hk hn hn2 h0 h1 h2 h3 h4
  go_wp2_with fail
  go_ret
  have K5 := Keeps.set_at w2 w.heap.size 2 (.slice a2 n2 c2)
  have hv : ∀ j, (Value.slice a2 n2 c2).ownBlock = some j → w.heap.size + 1 ≤ j := by
    intro j hj
    have := (HR.out.lt j hj).1
    simpa using this
  refine ⟨w.heap.size, .slice a2 n2 c2, rfl, ⟨?_, ?_, ?_, H.out.ev1, H.out.ev2, H.out.mo1, H.out.mo2, H.out.few, H.out.inc, H.out.lo, H.out.hi, H.out.la1, H.out.la2, H.out.gn1, H.out.gn2⟩, Nat.le_refl _, fun j hj => by have := hv j hj; omega, HK2.out.trans' K5 (fun _ h => h) (fun i hi h => by omega)⟩
  · exact heap_setCell_row HN.out
  · exact row_mono (K5.row HR.out (fun k hk => by have := hv k hk; omega)) (Nat.zero_le _)
  · intro e; have := hv _ e; omega

/-- What Same is told of: both stand. -/
abbrev Ten (b c : Nat) (ev mo gn la ev2 mo2 gn2 la2 : Int) (v v2 : Value) (w' : World) : Prop :=
  w'.cell? ⟨b, 0, none⟩ = some (.int .i64 ev) ∧ w'.cell? ⟨b, 1, none⟩ = some (.int .i64 mo) ∧ w'.cell? ⟨b, 2, none⟩ = some v ∧ w'.cell? ⟨b, 3, none⟩ = some (.int .i64 gn) ∧ w'.cell? ⟨b, 4, none⟩ = some (.int .i64 la) ∧
  w'.cell? ⟨c, 0, none⟩ = some (.int .i64 ev2) ∧ w'.cell? ⟨c, 1, none⟩ = some (.int .i64 mo2) ∧ w'.cell? ⟨c, 2, none⟩ = some v2 ∧ w'.cell? ⟨c, 3, none⟩ = some (.int .i64 gn2) ∧ w'.cell? ⟨c, 4, none⟩ = some (.int .i64 la2)

theorem ten_of {W : World} {b c : Nat} {ev mo gn la ev2 mo2 gn2 la2 : Int} {v v2 : Value} (h1 : W.heap[b]? = some (.cells #[.int .i64 ev, .int .i64 mo, v, .int .i64 gn, .int .i64 la] 60 (0, 0))) (h2 : W.heap[c]? = some (.cells #[.int .i64 ev2, .int .i64 mo2, v2, .int .i64 gn2, .int .i64 la2] 60 (0, 0))) : Ten b c ev mo gn la ev2 mo2 gn2 la2 v v2 W := by
  obtain ⟨a0, a1, a2, a3, a4⟩ := five_cells h1
  obtain ⟨b0, b1, b2, b3, b4⟩ := five_cells h2
  exact ⟨a0, a1, a2, a3, a4, b0, b1, b2, b3, b4⟩

set_option maxHeartbeats 2000000 in
theorem same_ev {w : World} {b c : Nat} {ev mo gn la ev2 mo2 gn2 la2 : Int} {kv kv2 : Value} {l l2 : List Int} (h : Pts w b ev mo kv l gn la) (hc : Pts w c ev2 mo2 kv2 l2 gn2 la2)
    (d0 : (ev == ev2) = false) :
    Calls Try.prog 25 #[.pointer (some ⟨b, 0, none⟩), .pointer (some ⟨c, 0, none⟩)] w fun e w' => e = .returned (.bool false) ∧ Keeps No w w' := by
  have hz := h.nz
  have hz2 := hc.nz
  obtain ⟨a1, c1, rfl, hi1, _⟩ := row_form h.row
  obtain ⟨a2, c2, rfl, hi2, _⟩ := row_form hc.row
  obtain ⟨h0, h1, h2, h3, h4⟩ := five_cells h.heap
  obtain ⟨k0, k1, k2, k3, k4⟩ := five_cells hc.heap
  have HE := hid (fun W (hk : Keeps No w W) => equal_any a1 a2 c1 c2 l l2 W (hi1.keep hk (fun _ _ e => e)) (hi2.keep hk (fun _ _ e => e)) (by have := h.few; have := h.mo2; omega))
  have HT := hid (fun W (hk : Keeps No w W) => ten_of (h.keepNo hk).heap (hc.keepNo hk).heap)
  clear h hc hi1 hi2
  go_enter Try.func25, Try.ntmps25
  go_wp2_with fail
  refine (none_some b ev _ h0 hz).mono ?_
  rintro e w' ⟨rfl, rfl⟩
  go_wp2_with fail
  refine (none_some c ev2 _ k0 hz2).mono ?_
  rintro e w' ⟨rfl, rfl⟩
  go_wp2_with fail
  go_quiet (fail)
  go_wp2_with fail
  go_ret
  exact ⟨rfl, Keeps.drewN (Keeps.refl No _) _⟩

set_option maxHeartbeats 2000000 in
theorem same_mo {w : World} {b c : Nat} {ev mo gn la ev2 mo2 gn2 la2 : Int} {kv kv2 : Value} {l l2 : List Int} (h : Pts w b ev mo kv l gn la) (hc : Pts w c ev2 mo2 kv2 l2 gn2 la2)
    (d0 : (ev == ev2) = true) (d1 : (mo == mo2) = false) :
    Calls Try.prog 25 #[.pointer (some ⟨b, 0, none⟩), .pointer (some ⟨c, 0, none⟩)] w fun e w' => e = .returned (.bool false) ∧ Keeps No w w' := by
  have hz := h.nz
  have hz2 := hc.nz
  obtain ⟨a1, c1, rfl, hi1, _⟩ := row_form h.row
  obtain ⟨a2, c2, rfl, hi2, _⟩ := row_form hc.row
  obtain ⟨h0, h1, h2, h3, h4⟩ := five_cells h.heap
  obtain ⟨k0, k1, k2, k3, k4⟩ := five_cells hc.heap
  have HE := hid (fun W (hk : Keeps No w W) => equal_any a1 a2 c1 c2 l l2 W (hi1.keep hk (fun _ _ e => e)) (hi2.keep hk (fun _ _ e => e)) (by have := h.few; have := h.mo2; omega))
  have HT := hid (fun W (hk : Keeps No w W) => ten_of (h.keepNo hk).heap (hc.keepNo hk).heap)
  clear h hc hi1 hi2
  go_enter Try.func25, Try.ntmps25
  go_wp2_with fail
  refine (none_some b ev _ h0 hz).mono ?_
  rintro e w' ⟨rfl, rfl⟩
  go_wp2_with fail
  refine (none_some c ev2 _ k0 hz2).mono ?_
  rintro e w' ⟨rfl, rfl⟩
  go_wp2_with fail
  go_quiet (fail)
  go_wp2_with fail
  go_ret
  exact ⟨rfl, Keeps.drewN (Keeps.refl No _) _⟩

set_option maxHeartbeats 2000000 in
theorem same_l {w : World} {b c : Nat} {ev mo gn la ev2 mo2 gn2 la2 : Int} {kv kv2 : Value} {l l2 : List Int} (h : Pts w b ev mo kv l gn la) (hc : Pts w c ev2 mo2 kv2 l2 gn2 la2)
    (d0 : (ev == ev2) = true) (d1 : (mo == mo2) = true) (d2 : decide (l = l2) = false) :
    Calls Try.prog 25 #[.pointer (some ⟨b, 0, none⟩), .pointer (some ⟨c, 0, none⟩)] w fun e w' => e = .returned (.bool false) ∧ Keeps No w w' := by
  have hz := h.nz
  have hz2 := hc.nz
  obtain ⟨a1, c1, rfl, hi1, _⟩ := row_form h.row
  obtain ⟨a2, c2, rfl, hi2, _⟩ := row_form hc.row
  obtain ⟨h0, h1, h2, h3, h4⟩ := five_cells h.heap
  obtain ⟨k0, k1, k2, k3, k4⟩ := five_cells hc.heap
  have HE := hid (fun m => qequal_any a1 a2 c1 c2 l l2 (w.drewN m) (hi1.keep ((Keeps.refl No w).drewN m) (fun _ _ e => e)) (hi2.keep ((Keeps.refl No w).drewN m) (fun _ _ e => e)) (by have := h.few; have := h.mo2; omega))
  have HT := hid (fun W (hk : Keeps No w W) => ten_of (h.keepNo hk).heap (hc.keepNo hk).heap)
  clear h hc hi1 hi2
  rw [d2] at HE
  clear d2
  go_enter Try.func25, Try.ntmps25
  go_wp2_with fail
  refine (none_some b ev _ h0 hz).mono ?_
  rintro e w' ⟨rfl, rfl⟩
  go_wp2_with fail
  refine (none_some c ev2 _ k0 hz2).mono ?_
  rintro e w' ⟨rfl, rfl⟩
  go_wp2_with fail
  go_quiet ((go_at_call 36; refine Calls.quiet_of (HE.out _)))
  go_wp2_with fail
  go_ret
  exact ⟨rfl, Keeps.drewN (Keeps.refl No _) _⟩

set_option maxHeartbeats 2000000 in
theorem same_all {w : World} {b c : Nat} {ev mo gn la ev2 mo2 gn2 la2 : Int} {kv kv2 : Value} {l l2 : List Int} (h : Pts w b ev mo kv l gn la) (hc : Pts w c ev2 mo2 kv2 l2 gn2 la2)
    (d0 : (ev == ev2) = true) (d1 : (mo == mo2) = true) (d2 : decide (l = l2) = true) (d3 : (gn == gn2) = true) (d4 : (la == la2) = true) :
    Calls Try.prog 25 #[.pointer (some ⟨b, 0, none⟩), .pointer (some ⟨c, 0, none⟩)] w fun e w' => e = .returned (.bool true) ∧ Keeps No w w' := by
  have hz := h.nz
  have hz2 := hc.nz
  obtain ⟨a1, c1, rfl, hi1, _⟩ := row_form h.row
  obtain ⟨a2, c2, rfl, hi2, _⟩ := row_form hc.row
  obtain ⟨h0, h1, h2, h3, h4⟩ := five_cells h.heap
  obtain ⟨k0, k1, k2, k3, k4⟩ := five_cells hc.heap
  have HE := hid (fun m => qequal_any a1 a2 c1 c2 l l2 (w.drewN m) (hi1.keep ((Keeps.refl No w).drewN m) (fun _ _ e => e)) (hi2.keep ((Keeps.refl No w).drewN m) (fun _ _ e => e)) (by have := h.few; have := h.mo2; omega))
  have HT := hid (fun W (hk : Keeps No w W) => ten_of (h.keepNo hk).heap (hc.keepNo hk).heap)
  clear h hc hi1 hi2
  rw [d2] at HE
  clear d2
  go_enter Try.func25, Try.ntmps25
  go_wp2_with fail
  refine (none_some b ev _ h0 hz).mono ?_
  rintro e w' ⟨rfl, rfl⟩
  go_wp2_with fail
  refine (none_some c ev2 _ k0 hz2).mono ?_
  rintro e w' ⟨rfl, rfl⟩
  go_wp2_with fail
  go_quiet ((go_at_call 36; refine Calls.quiet_of (HE.out _)))
  go_wp2_with fail
  go_ret
  exact ⟨rfl, Keeps.drewN (Keeps.refl No _) _⟩

set_option maxHeartbeats 2000000 in
theorem same_la {w : World} {b c : Nat} {ev mo gn la ev2 mo2 gn2 la2 : Int} {kv kv2 : Value} {l l2 : List Int} (h : Pts w b ev mo kv l gn la) (hc : Pts w c ev2 mo2 kv2 l2 gn2 la2)
    (d0 : (ev == ev2) = true) (d1 : (mo == mo2) = true) (d2 : decide (l = l2) = true) (d3 : (gn == gn2) = true) (d4 : (la == la2) = false) :
    Calls Try.prog 25 #[.pointer (some ⟨b, 0, none⟩), .pointer (some ⟨c, 0, none⟩)] w fun e w' => e = .returned (.bool false) ∧ Keeps No w w' := by
  have hz := h.nz
  have hz2 := hc.nz
  obtain ⟨a1, c1, rfl, hi1, _⟩ := row_form h.row
  obtain ⟨a2, c2, rfl, hi2, _⟩ := row_form hc.row
  obtain ⟨h0, h1, h2, h3, h4⟩ := five_cells h.heap
  obtain ⟨k0, k1, k2, k3, k4⟩ := five_cells hc.heap
  have HE := hid (fun m => qequal_any a1 a2 c1 c2 l l2 (w.drewN m) (hi1.keep ((Keeps.refl No w).drewN m) (fun _ _ e => e)) (hi2.keep ((Keeps.refl No w).drewN m) (fun _ _ e => e)) (by have := h.few; have := h.mo2; omega))
  have HT := hid (fun W (hk : Keeps No w W) => ten_of (h.keepNo hk).heap (hc.keepNo hk).heap)
  clear h hc hi1 hi2
  rw [d2] at HE
  clear d2
  go_enter Try.func25, Try.ntmps25
  go_wp2_with fail
  refine (none_some b ev _ h0 hz).mono ?_
  rintro e w' ⟨rfl, rfl⟩
  go_wp2_with fail
  refine (none_some c ev2 _ k0 hz2).mono ?_
  rintro e w' ⟨rfl, rfl⟩
  go_wp2_with fail
  go_quiet ((go_at_call 36; refine Calls.quiet_of (HE.out _)))
  go_wp2_with fail
  go_ret
  exact ⟨rfl, Keeps.drewN (Keeps.refl No _) _⟩

end Go.Proofs.Ytpnhmcgabnifdaa
