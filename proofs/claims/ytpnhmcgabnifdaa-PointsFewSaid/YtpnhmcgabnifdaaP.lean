/- Points: the law's is. -/
import Derived.Test.YtpnhmcgabnifdaaO
namespace Go.Proofs.Ytpnhmcgabnifdaa
open Go.RowKit

theorem all_form {w : World} {b : Nat} {ev mo gn la : Int} {kv : Value} {l : List Int} (h : Pts w b ev mo kv l gn la) :
    Calls Try.prog 18 #[.pointer (some ⟨b, 0, none⟩)] w fun e w' => ∃ a c, e = .returned (.slice a l.length c) ∧ IntsAt w' a l ∧ Keeps No w w' ∧ Row w.heap.size w' (.slice a l.length c) l := by
  refine (all_any h).mono ?_
  rintro e w' ⟨v, he, hr, hk⟩
  obtain ⟨a, c, rfl, hi, _⟩ := row_form hr
  exact ⟨a, c, he, hi, hk, hr⟩

theorem ints_same (aa ab : Option Addr) (ca cb : Nat) (l : List Int) (n : Nat) (hn : l.length = n) (w : World) (ha : IntsAt w aa l) (hb : IntsAt w ab l) (hm : l.length ≤ 4096) :
    Calls Try.prog 28 #[.slice aa n ca, .slice ab n cb] w fun e w' => e = .returned (.bool true) ∧ Keeps No w w' := by
  subst hn
  have := ints_any aa ab ca cb l l w ha hb (by omega)
  rwa [decide_eq_true rfl] at this

set_option maxHeartbeats 1000000 in
theorem is_any {w : World} {b : Nat} {ev mo : Int} {kv wk : Value} {s : St} (h : Both w b ev mo kv wk s) :
    Calls Try.prog 14 #[.pointer (some ⟨b, 0, none⟩), RefV ev mo wk s.gn s.la] w fun e w' => e = .returned (.bool true) ∧ Keeps No w w' := by
  obtain ⟨a, c, rfl, hiw, _⟩ := row_form h.ref
  have K1 := (Keeps.refl No w).alloc (.cells #[.int .i64 ev, .int .i64 mo, .slice a s.l.length c, .int .i64 s.gn, .int .i64 s.la] 27)
  have hp1 := h.pts.keepNo K1
  have hi1 := hiw.keep K1 (fun _ _ e => e)
  have hh := heap_alloc_new w (.cells #[.int .i64 ev, .int .i64 mo, .slice a s.l.length c, .int .i64 s.gn, .int .i64 s.la] 27)
  obtain ⟨d0, d1, d2, d3, d4⟩ := five_cells hh
  have hfew : s.l.length ≤ 4096 := by have := h.pts.few; have := h.pts.mo2; omega
  obtain ⟨l, gn, la⟩ := s
  dsimp only at *
  have q0 := hp1.c0
  have q3 := hp1.c3
  have q4 := hp1.c4
  have hz := hp1.nz
  have HP1 := hid hp1
  have HI1 := hid hi1
  have HFEW := hid hfew
  have HK1 := hid K1
  have Hw := hid h.pts.lt
  have LAST := hid (fun W (h0 : W.cell? ⟨b, 0, none⟩ = some (.int .i64 ev)) h4 => last_some b ev la W h0 hz h4)
  clear h hiw hp1 hi1 hh hfew K1
  go_enter Try.func14, Try.ntmps14
  go_wp2_with (go_at_call 27; go_must (refine (LAST.out _ q0 q4).mono ?_); rintro e w' ⟨rfl, rfl⟩)
  go_region_held3 (fun w' => w'.cell? ⟨w.heap.size, 2, none⟩ = some (.slice a l.length c) ∧ w'.cell? ⟨w.heap.size, 3, none⟩ = some (.int .i64 gn) ∧ w'.cell? ⟨w.heap.size, 4, none⟩ = some (.int .i64 la)) (go_keep)
    (first
      | (go_at_call 18; go_must (refine (all_form (ev := ev) (mo := mo) (gn := gn) (la := la) (kv := kv) (l := l) (HP1.out.keepNo (by exact ⟨rfl, rfl, rfl, Nat.le_refl _, fun _ _ _ => rfl⟩))).mono ?_); rintro e w3 ⟨a3, c3, rfl, hi3, hk3, _⟩; have s2 := hk3.cellS (p := ⟨w.heap.size, 2, none⟩) (by exact d2) (fun e => e); have s3 := hk3.cellS (p := ⟨w.heap.size, 3, none⟩) (by exact d3) (fun e => e); have s4 := hk3.cellS (p := ⟨w.heap.size, 4, none⟩) (by exact d4) (fun e => e); have HI3 := hid hi3; have HK3 := hid hk3; clear hi3 hk3)
      | (go_at_call 28; refine (ints_same a3 a c3 c l l.length rfl _ HI3.out (HI1.out.keep HK3.out (fun _ _ e => e)) HFEW.out).mono ?_; rintro e w4 ⟨rfl, hk4⟩; have t2 := hk4.cellS (p := ⟨w.heap.size, 2, none⟩) s2 (fun e => e); have t3 := hk4.cellS (p := ⟨w.heap.size, 3, none⟩) s3 (fun e => e); have t4 := hk4.cellS (p := ⟨w.heap.size, 4, none⟩) s4 (fun e => e); have HK4 := hid (HK3.out.trans hk4); have HP4 := hid ((HP1.out.keepNo ((Keeps.refl No _).drew)).keepNo HK4.out); clear hk4)
      | (go_at_call 21; refine (gone_some b ev gn _ HP4.out.c0 hz HP4.out.c3).mono ?_; rintro e w' ⟨rfl, rfl⟩))
  go_wp2_with fail
  all_goals
    go_ret
    refine ⟨?_, ((Keeps.refl No w).alloc _).drew.trans HK4.out⟩
    first
      | (show Ending.returned (.bool (max 0 la == la)) = _; rw [show (max 0 la == la) = true from by rw [beq_iff_eq]; omega])
      | (show Ending.returned (.bool (max 0 la == 0)) = _; rw [show (max 0 la == 0) = true from by rw [beq_iff_eq]; omega])

end Go.Proofs.Ytpnhmcgabnifdaa
