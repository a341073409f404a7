/- Log: the step of Turns, one more step of the last turn. -/
import Derived.Test.YtnbhphjpefagjaaS
namespace Go.Proofs.Ytnbhphjpefagjaa
open Go.RowKit

/-- A cell of a row is stored: the row of the turned list. -/
theorem row_set {B : Nat} {w : World} {g cap n : Nat} {e : TypeId} {xs : List Value} (h : w.ownsRow B e 2 (.slice (some ⟨g, 0, none⟩) n cap) n xs) (i : Nat) (v : Value) :
    (w.setCell ⟨g, i, none⟩ v).ownsRow B e 2 (.slice (some ⟨g, 0, none⟩) n cap) n (xs.set i v) := by
  obtain ⟨h1, h2⟩ := h
  refine ⟨by simpa using h1, ?_⟩
  rcases h2 with ⟨hv, _⟩ | ⟨g2, cap2, cur, hv, hb, hg, hnc, hcm, hcs, ht⟩
  · cases hv
  · cases hv
    refine .inr ⟨g, cap, cur.setIfInBounds i v, rfl, hb, heap_setCell_row hg, hnc, hcm, by simpa using hcs, ?_⟩
    rw [Array.toList_setIfInBounds, List.take_set, ht]

theorem cells2_inc (l : List (Int × Int)) (t y y' : Int) : (cells2 (l ++ [(t, y)])).set (l.length * 2 + 1) (.int .i64 y') = cells2 (l ++ [(t, y')]) := by
  rw [cells2_snoc, cells2_snoc, List.set_append_right _ _ (by rw [cells2_len]; omega), cells2_len, show l.length * 2 + 1 - l.length * 2 = 1 by omega]
  rfl

set_option maxHeartbeats 2000000 in
theorem tstep_inc {B : Nat} (o : Nat) (t y : Int) (hy0 : 0 ≤ y) (hy1 : y ≤ 4294967296) (l : List (Int × Int)) (hl : l.length ≤ 100000) (w : World) (h : TBox B w o (l ++ [(t, y)])) :
    Calls Try.prog 40 #[.int .i64 t, .pointer (some ⟨o, 0, none⟩)] w fun e w' => e = .returned (.tuple #[]) ∧ TBox B w' o (l ++ [(t, y + 1)]) ∧ Keeps (fun k => k = o ∨ B ≤ k) w w' := by
  obtain ⟨a, c, hh, hr, ha⟩ := h
  have hlen : (l ++ [(t, y)]).length = l.length + 1 := by simp
  have hlen2 : (l ++ [(t, y + 1)]).length = l.length + 1 := by simp
  rw [hlen] at hh hr
  unfold TRow at hr
  rw [hlen] at hr
  have h0 : w.cell? ⟨o, 0, none⟩ = some (.slice a (l.length + 1) c) := by rw [cell_of_row w _ _ _ _ _ hh]; rfl
  rcases hr.2 with ⟨hv, hn⟩ | ⟨g, cap, cur, hv, hb, hg, hnc, hcm, hcs, ht⟩
  · omega
  · cases hv
    obtain ⟨c1, c2⟩ := cells2_at (l ++ [(t, y)]) l.length (by omega)
    rw [← ht, List.getElem?_take, if_pos (by omega)] at c1 c2
    have x0 : w.cell? ⟨g, (l.length + 1 - 1) * 2, none⟩ = some (.int .i64 t) := by rw [cell_of_row w _ _ _ _ _ hg]; simpa using c1
    have x1 : w.cell? ⟨g, (l.length + 1 - 1) * 2 + 1, none⟩ = some (.int .i64 y) := by rw [cell_of_row w _ _ _ _ _ hg]; simpa using c2
    have f1 := froz (i := (l.length + 1 - 1) * 2 + 1) hg
    have HH := hid hh
    have HR := hid hr
    have HAO := hid (ha _ rfl)
    clear hh hr ha hg hcs ht c1 c2 hlen
    generalize hN : l.length + 1 = n at *
    have q0 : (0 : Int) < (n : Int) := by omega
    have q1 : (1 : Int) ≤ (n : Int) := by omega
    have qd : decide (0 < n) = true := by simp; omega
    have q2 : IntKind.i64.wrap ((n : Int) - 1) = (n : Int) - 1 := by rw [IntKind.wrap_i64]; omega
    go_enter Try.func40, Try.ntmps40
    go_wp2_with fail
    refine bodyPost_ret (results_none rfl _ _ _) rfl ?_
    subst hN
    have hK := Keeps.set_at w g (l.length * 2 + 1) (.int .i64 (y + 1))
    refine ⟨rfl, ⟨some ⟨g, 0, none⟩, c, ?_, ?_, fun p hp => by cases hp; exact HAO.out⟩, hK.mono (fun i hi => .inr (by subst hi; exact hb))⟩
    · rw [hlen2]
      exact (hK.block o (Array.getElem?_eq_some_iff.1 HH.out).1 (fun e => HAO.out e.symm)).trans HH.out
    · unfold TRow
      rw [hlen2, ← cells2_inc l t y (y + 1)]
      exact row_set HR.out _ _

end Go.Proofs.Ytnbhphjpefagjaa
