/- Log: the step of Turns, walked. -/
import Derived.Test.YtnbhphjpefagjaaR
namespace Go.Proofs.Ytnbhphjpefagjaa
open Go.RowKit

/-- The box o of a slice of turns in a row of its own (blocks from B on). -/
def TBox (B : Nat) (w : World) (o : Nat) (l : List (Int × Int)) : Prop :=
  ∃ a c, w.heap[o]? = some (.cells #[.slice a l.length c] 23 (0, 0)) ∧ TRow B w (.slice a l.length c) l ∧ (∀ p, a = some p → p.block ≠ o)

theorem tbox_appended {B : Nat} {w w1 : World} {o : Nat} {a : Option Addr} {c : Nat} {t : Int} {l : List (Int × Int)} {cs : Array Value} (hh : w.heap[o]? = some (.cells #[.slice a l.length c] 23 (0, 0))) (hr : TRow B w (.slice a l.length c) l) (ha : ∀ p, a = some p → p.block ≠ o)
    (g' cap' : Nat) (hown : w1.ownsRow B 57 2 (.slice (some ⟨g', 0, none⟩) (l.length + 1) cap') (l.length + 1) (cells2 l ++ [.int .i64 t, .int .i64 1])) (hgrow : (w.alloc (.cells cs 57)).grownBy w1 (Value.slice a l.length c).ownBlock) (hat : (Value.slice a l.length c).ownBlock = some g' ∨ g' = w.heap.size + 1) :
    TBox B (w1.setCell ⟨o, 0, none⟩ (.slice (some ⟨g', 0, none⟩) (l.length + 1) cap')) o (l ++ [(t, 1)]) ∧ Keeps (fun k => k = o ∨ B ≤ k) w (w1.setCell ⟨o, 0, none⟩ (.slice (some ⟨g', 0, none⟩) (l.length + 1) cap')) := by
  have hlt := (Array.getElem?_eq_some_iff.1 hh).1
  have hno : ¬ (Value.slice a l.length c).ownBlock = some o := by
    intro e
    cases a with
    | none => cases e
    | some p => cases e; exact ha p rfl rfl
  have hgo : g' ≠ o := by
    rintro rfl
    rcases hat with h | h
    · exact hno h
    · omega
  have hb : w1.heap[o]? = some (.cells #[.slice a l.length c] 23 (0, 0)) := (hgrow.block o (by simp; omega) (fun e => hno e.symm)).trans ((Below.heap_alloc w _ o hlt).trans hh)
  have hll : (l ++ [(t, (1 : Int))]).length = l.length + 1 := by simp
  refine ⟨⟨some ⟨g', 0, none⟩, cap', ?_, ?_, fun p hp => by cases hp; exact hgo⟩, ?_⟩
  · rw [hll]; exact heap_setCell_row hb
  · unfold TRow
    rw [hll, cells2_snoc]
    exact (Keeps.set_at w1 o 0 _).row hown (fun k hk => by cases hk; exact hgo)
  · refine Keeps.setCell (S := fun k => k = o ∨ B ≤ k) (p := ⟨o, 0, none⟩) (Keeps.grown ((Keeps.refl _ w).alloc _) hgrow (fun k hk => .inl (.inr (hr.lt k hk).1))) (.inl (.inl rfl)) _

set_option maxHeartbeats 2000000 in
theorem tstep_new {B : Nat} (o : Nat) (t : Int) (l : List (Int × Int)) (hl : l.length ≤ 100000) (w : World) (hB : B ≤ w.heap.size) (h : TBox B w o l) (hne : l.length = 0 ∨ ((l[l.length - 1]?.getD (0, 0)).1 == t) = false) :
    Calls Try.prog 40 #[.int .i64 t, .pointer (some ⟨o, 0, none⟩)] w fun e w' => e = .returned (.tuple #[]) ∧ TBox B w' o (l ++ [(t, 1)]) ∧ Keeps (fun k => k = o ∨ B ≤ k) w w' := by
  obtain ⟨i0, hi, hz0, hz1, hz2⟩ := info_parts Try.info57
  have HI := hid hi
  have HZ0 := hid hz0
  have HZ1 := hid hz1
  have HZ2 := hid hz2
  clear hi hz0 hz1 hz2
  obtain ⟨a, c, hh, hr, ha⟩ := h
  have h0 : w.cell? ⟨o, 0, none⟩ = some (.slice a l.length c) := by rw [cell_of_row w _ _ _ _ _ hh]; rfl
  have f0 := froz (i := 0) hh
  have hlt := (Array.getElem?_eq_some_iff.1 hh).1
  obtain ⟨a2, c2, he, hta, _⟩ := hr.form
  cases he
  have HH := hid hh
  have HR := hid hr
  have HAO := hid ha
  clear hh hr ha
  have HOW : Hid (¬ (Value.slice a l.length c).ownBlock = some o) := hid (by
    intro e
    cases a with
    | none => cases e
    | some p => cases e; exact HAO.out p rfl rfl)
  rcases Nat.eq_zero_or_pos l.length with hn | hn
  · go_enter Try.func40, Try.ntmps40
    have h00 := h0
    rw [hn] at h0
    go_wp2_with (at_builtin; go_must (refine wpList_append_lies _ rfl (.tmp 27) (.tmp 30) 23 rfl B 57 i0 (.agg #[.int .i64 0, .int .i64 0]) 2 16 Try.underlying23 HI.out HZ0.out HZ1.out HZ2.out rfl (by decide) (.slice a l.length c) l.length (cells2 l) (by rw [hn]; rfl) (World.ownsRow.alloc HR.out _) ⟨w.heap.size, 0, none⟩ 1 1 [.int .i64 t, .int .i64 1] rfl rfl (new_cells w #[.int .i64 t, .int .i64 1] 57) (by simp [Value.oneCell']) (by omega) (by unfold maxLen; omega) (by omega) (by simp; omega) (w.heap.size + 1) (by simp) ?_); intro g' cap' w1 hown hgrow hat hgl; have HT := hid (tbox_appended HH.out HR.out HAO.out g' cap' hown hgrow hat); have hb1 := (hgrow.block o (by simp; omega) (by intro e; exact HOW.out e.symm)).trans ((Below.heap_alloc w _ o hlt).trans HH.out); have hc1 : w1.cell? ⟨o, 0, none⟩ = some (.slice a l.length c) := (by rw [cell_of_row w1 _ _ _ _ _ hb1]; rfl); have hf1 := froz (i := 0) hb1; clear hown hgrow hat hb1)
    rw [hn] at HT hc1
    go_end0
    exact ⟨rfl, HT.out⟩
  · have hne2 := hne.resolve_left (by omega)
    obtain ⟨g, off, rfl, hcl⟩ := hta.resolve_left (by rintro rfl; simp at hn)
    have x0 := (hcl (l.length - 1) (by omega)).1
    clear hcl hta hne
    generalize (l[l.length - 1]?.getD (0, 0)).1 = x at *
    have q0 : (0 : Int) < (l.length : Int) := by omega
    have q1 : (1 : Int) ≤ (l.length : Int) := by omega
    have qd : decide (0 < l.length) = true := by simpa using hn
    have q2 : IntKind.i64.wrap ((l.length : Int) - 1) = (l.length : Int) - 1 := by rw [IntKind.wrap_i64]; omega
    go_enter Try.func40, Try.ntmps40
    go_wp2_with (at_builtin; go_must (refine wpList_append_lies _ rfl (.tmp 27) (.tmp 30) 23 rfl B 57 i0 (.agg #[.int .i64 0, .int .i64 0]) 2 16 Try.underlying23 HI.out HZ0.out HZ1.out HZ2.out rfl (by decide) (.slice (some ⟨g, off, none⟩) l.length c) l.length (cells2 l) rfl (World.ownsRow.alloc HR.out _) ⟨w.heap.size, 0, none⟩ 1 1 [.int .i64 t, .int .i64 1] rfl rfl (new_cells w #[.int .i64 t, .int .i64 1] 57) (by simp [Value.oneCell']) (by omega) (by unfold maxLen; omega) (by omega) (by simp; omega) (w.heap.size + 1) (by simp) ?_); intro g' cap' w1 hown hgrow hat hgl; have HT := hid (tbox_appended HH.out HR.out HAO.out g' cap' hown hgrow hat); have hb1 := (hgrow.block o (by simp; omega) (by intro e; exact HOW.out e.symm)).trans ((Below.heap_alloc w _ o hlt).trans HH.out); have hc1 : w1.cell? ⟨o, 0, none⟩ = some (.slice (some ⟨g, off, none⟩) l.length c) := (by rw [cell_of_row w1 _ _ _ _ _ hb1]; rfl); have hf1 := froz (i := 0) hb1; clear hown hgrow hat hb1)
    go_end0
    exact ⟨rfl, HT.out⟩

end Go.Proofs.Ytnbhphjpefagjaa
