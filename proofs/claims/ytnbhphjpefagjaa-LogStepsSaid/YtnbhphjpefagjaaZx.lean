/- Log: Clone and Threads. -/
import Derived.Test.YtnbhphjpefagjaaZw
import Derived.Test.YtnbhphjpefagjaaZq
import Derived.Lib.BufferMore
namespace Go.Proofs.Ytnbhphjpefagjaa
open Go.RowKit

theorem TurnsAt.adds {w : World} {a : Option Addr} {l : List (Int × Int)} (h : TurnsAt w a l) : ∀ p, a = some p → ∀ j u, (cells2 l)[j]? = some u → w.cell? (p.add j) = some u := by
  intro p hp j u hu
  rcases h with rfl | ⟨g, off, rfl, hc⟩
  · simp [cells2] at hu
  · cases hp
    have hj : j < l.length * 2 := by have := (List.getElem?_eq_some_iff.1 hu).1; rwa [cells2_len] at this
    obtain ⟨c1, c2⟩ := cells2_at l (j / 2) (by omega)
    obtain ⟨d1, d2⟩ := hc (j / 2) (by omega)
    rw [Addr.add_lit]
    rcases Nat.mod_two_eq_zero_or_one j with h | h
    · rw [show j / 2 * 2 = j by omega] at c1 d1
      rw [d1, ← c1, hu]
    · rw [show j / 2 * 2 + 1 = j by omega] at c2
      rw [show off + j / 2 * 2 + 1 = off + j by omega] at d2
      rw [d2, ← c2, hu]

theorem clone_any (a : Option Addr) (cap n : Nat) (l : List (Int × Int)) (w : World) (HN : Hid (l.length = n)) (hn : n ≤ 100000) (hc : a = none → n = 0 ∧ cap = 0) (HA : Hid (TurnsAt w a l)) :
    Calls Try.prog 44 #[.slice a n cap] w fun e w' => Keeps No w w' ∧ ∃ a' c', e = .returned (.slice a' n c') ∧ TurnsAt w' a' l ∧ ∀ p, a' = some p → w.heap.size ≤ p.block := by
  cases a with
  | none =>
    obtain ⟨rfl, rfl⟩ := hc rfl
    go_enter Try.func44, Try.ntmps44
    have he := fun W : World => Lib.run_eql_slice_nil_nil (P := Try.prog) W 0 0 Try.underlying23
    go_wp2
    go_ret
    exact ⟨Keeps.refl No _, none, ⟨0, rfl⟩, HA.out, fun p hp => by cases hp⟩
  | some x =>
    obtain ⟨i0, hi, hz0, hz1, hz2⟩ := info_parts Try.info57
    have HI := hid hi
    have HZ0 := hid hz0
    have HZ1 := hid hz1
    have HZ2 := hid hz2
    clear hi hz0 hz1 hz2 hc
    have HK0 := hid ((Keeps.refl No w).alloc (.cells #[] 57))
    have he := fun W : World => Lib.run_eql_slice_some_nil (P := Try.prog) W x n cap Try.underlying23
    go_enter Try.func44, Try.ntmps44
    go_wp2_with (first
      | (at_builtin; (refine wpList_append_any _ rfl (.tmp 5) (.tmp 6) 23 rfl w.heap.size 57 i0 (.agg #[.int .i64 0, .int .i64 0]) 2 16 Try.underlying23 HI.out HZ0.out HZ1.out HZ2.out rfl (by decide) _ 0 [] rfl (World.ownsRow_made w #[] 0 (Nat.le_refl _) (by unfold maxLen; omega) rfl) (some x) n cap (cells2 l) rfl (fun h => by cases h) (by rw [cells2_len, HN.out]) (HA.out.keep HK0.out (fun _ _ e => e)).adds (fun u hu => by obtain ⟨x, _, hx⟩ := List.mem_flatMap.1 hu; simp at hx; rcases hx with rfl | rfl <;> rfl) (by unfold maxLen; omega) (by omega) (by simp) ?_); intro v1 w1 hown hg; have HO := hid hown; have HK1 := hid (HK0.out.grown hg (fun k hk => .inr (by cases hk; exact Nat.le_refl _))); clear hown hg)
      | fail)
    go_ret
    have hrow : TRow w.heap.size w1 v1 l := by
      have := HO.out
      rw [List.nil_append, Nat.zero_add, ← HN.out] at this
      exact this
    obtain ⟨a', c', rfl, h1, h2⟩ := hrow.form
    refine ⟨HK1.out, a', c', by rw [HN.out]; rfl, h1, fun p hp => (hrow.lt p.block (h2 p hp)).1⟩

theorem threads_any (a : Option Addr) (cap n : Nat) (l : List (Int × Int)) (w : World) (HN : Hid (l.length = n)) (hn : n ≤ 100000) (hc : a = none → n = 0 ∧ cap = 0) (HA : Hid (TurnsAt w a l)) :
    Calls Try.prog 28 #[.slice a n cap] w fun e w' => Keeps No w w' ∧ ∃ Bn a' c', e = .returned (.func (.func 45) #[] #[.pointer (some ⟨Bn, 0, none⟩)]) ∧ w.heap.size ≤ Bn ∧ Bn < w'.heap.size ∧ w'.cell? ⟨Bn, 0, none⟩ = some (.slice a' n c') ∧ TurnsAt w' a' l ∧ ∀ p, a' = some p → w.heap.size ≤ p.block := by
  have HK1 := hid ((Keeps.refl No w).alloc (.cells #[.slice a n cap] 23))
  have HC := hid (clone_any a cap n l _ HN hn hc (hid (HA.out.keep HK1.out (fun _ _ e => e))))
  have hb := heap_alloc_new w (.cells #[.slice a n cap] 23)
  have HB := hid hb
  clear hc hb
  have hmf : ∀ (fn : Fn) (first cap : Array Value) (w : World), (Instr.makeFunc fn first cap).run Try.prog w = .ok (.func fn first cap) w := fun _ _ _ _ => rfl
  go_enter Try.func28, Try.ntmps28
  go_wp2_with fail
  refine HC.out.mono ?_
  rintro e w2 ⟨hk2, a', c', rfl, ht, hp⟩
  have HK2 := hid (HK1.out.trans hk2)
  have hbx := (hk2.block w.heap.size (by simp) (fun e => e)).trans HB.out
  have HBX := hid hbx
  have f0 := froz (i := 0) hbx
  have x0 : w2.cell? ⟨w.heap.size, 0, none⟩ = some (.slice a n cap) := by rw [cell_of_row _ _ _ _ _ _ hbx]; rfl
  have HT := hid ht
  have HP := hid hp
  clear hbx hk2 ht hp
  go_wp2_with fail
  go_ret
  have hlt := (Array.getElem?_eq_some_iff.1 HBX.out).1
  have hsz : (w.alloc (.cells #[.slice a n cap] 23)).heap.size = w.heap.size + 1 := by simp
  refine ⟨HK2.out.setCell (.inr (Nat.le_refl _)) _, w.heap.size, a', c', rfl, Nat.le_refl _, by rw [World.size_setCell]; exact hlt, World.cell?_setCell_same _ _ _ x0, HT.out.keep (Keeps.set_at w2 w.heap.size 0 _) (fun p hp e => by have := HP.out p hp; rw [hsz] at this; omega), fun p hp => by have := HP.out p hp; rw [hsz] at this; omega⟩

end Go.Proofs.Ytnbhphjpefagjaa
