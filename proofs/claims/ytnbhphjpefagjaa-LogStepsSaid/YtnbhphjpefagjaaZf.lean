/- Log: what Decode defers. -/
import Derived.Test.YtnbhphjpefagjaaZb
import Derived.Recover
import Derived.Defers
namespace Go.Proofs.Ytnbhphjpefagjaa
open Go.RowKit

theorem heap_set6 {w : World} {b : Nat} {a0 a1 a2 a3 a4 a5 : Value} {e : TypeId} {f : Nat × Nat} (h : w.heap[b]? = some (.cells #[a0, a1, a2, a3, a4, a5] e f)) (v0 v1 v2 v3 v4 v5 : Value) :
    ((((((w.setCell ⟨b, 0, none⟩ v0).setCell ⟨b, 1, none⟩ v1).setCell ⟨b, 2, none⟩ v2).setCell ⟨b, 3, none⟩ v3).setCell ⟨b, 4, none⟩ v4).setCell ⟨b, 5, none⟩ v5).heap[b]? = some (.cells #[v0, v1, v2, v3, v4, v5] e f) :=
  heap_setCell_row (heap_setCell_row (heap_setCell_row (heap_setCell_row (heap_setCell_row (heap_setCell_row h)))))

theorem keeps_set6 (w : World) (b : Nat) (v0 v1 v2 v3 v4 v5 : Value) :
    Keeps (fun k => k = b) w ((((((w.setCell ⟨b, 0, none⟩ v0).setCell ⟨b, 1, none⟩ v1).setCell ⟨b, 2, none⟩ v2).setCell ⟨b, 3, none⟩ v3).setCell ⟨b, 4, none⟩ v4).setCell ⟨b, 5, none⟩ v5) :=
  (((((Keeps.set_at w b 0 v0).trans (Keeps.set_at _ b 1 v1)).trans (Keeps.set_at _ b 2 v2)).trans (Keeps.set_at _ b 3 v3)).trans (Keeps.set_at _ b 4 v4)).trans (Keeps.set_at _ b 5 v5)

theorem assert_fail (W : World) : (Instr.typeAssert (.iface 81 (.agg #[])) 20 81 true).run Try.prog W = .ok (.tuple #[.agg #[], .bool true]) W := by kernel_rfl

set_option maxHeartbeats 1000000 in
theorem catch_log (bt be : Nat) (a0 a1 a2 a3 a4 a5 x : Value) (w : World) (ht : w.heap[bt]? = some (.cells #[a0, a1, a2, a3, a4, a5] 29 (0, 0))) (he : w.heap[be]? = some (.cells #[x] 32 (0, 0))) (hne : bt ≠ be) :
    CallsD Try.prog 35 #[.pointer (some ⟨bt, 0, none⟩), .pointer (some ⟨be, 0, none⟩)] (.panicking [{ v := .iface 81 (.agg #[]), recovered := false }]) w fun e u' w' =>
      e = .returned (.tuple #[]) ∧ u' = .panicking [{ v := .iface 81 (.agg #[]), recovered := true }] ∧ Keeps (fun k => k = bt ∨ k = be) w w' ∧
        w'.heap[bt]? = some (.cells #[.int .u32 0, .slice none 0 0, .int .i64 0, .int .i64 0, .int .i64 0, .int .i64 0] 29 (0, 0)) ∧ w'.heap[be]? = some (.cells #[.int .i64 211] 32 (0, 0)) := by
  refine callsD_of_wpS Try.func35 rfl fun c₀ cs hu => ?_
  apply wpS_seq
  apply wpS_region
  simp [wpOpsS, go_sem, recoverD, hu, Try.ntmps35, Exit.thenS]
  refine wpS_of_wp ?_
  simp only [Array.replicate_succ, Array.replicate_zero, List.push_toArray, List.append_toArray, List.nil_append, List.cons_append, List.setIfInBounds_toArray, List.set_cons_zero, List.set_cons_succ]
  have hta := assert_fail
  have hlt := (Array.getElem?_eq_some_iff.1 ht).1
  have hle := (Array.getElem?_eq_some_iff.1 he).1
  have HT0 := hid ht
  have HE0 := hid he
  obtain ⟨d0, d1, d2, d3, d4, d5⟩ := six_cells ht
  have e0 : w.cell? ⟨be, 0, none⟩ = some x := by rw [cell_of_row _ _ _ _ _ _ he]; rfl
  have f0 := froz (i := 0) ht
  have f1 := froz (i := 1) ht
  have f2 := froz (i := 2) ht
  have f3 := froz (i := 3) ht
  have f4 := froz (i := 4) ht
  have f5 := froz (i := 5) ht
  have fe := froz (i := 0) he
  have hne2 : be ≠ bt := fun e => hne e.symm
  clear ht he
  go_wp2
  have h6 := heap_set6 HT0.out (.int .u32 0) (.slice none 0 0) (.int .i64 0) (.int .i64 0) (.int .i64 0) (.int .i64 0)
  have k6 := keeps_set6 w bt (.int .u32 0) (.slice none 0 0) (.int .i64 0) (.int .i64 0) (.int .i64 0) (.int .i64 0)
  generalize (((((w.setCell ⟨bt, 0, none⟩ (.int .u32 0)).setCell ⟨bt, 1, none⟩ (.slice none 0 0)).setCell ⟨bt, 2, none⟩ (.int .i64 0)).setCell ⟨bt, 3, none⟩ (.int .i64 0)).setCell ⟨bt, 4, none⟩ (.int .i64 0)).setCell ⟨bt, 5, none⟩ (.int .i64 0) = w6 at *
  have he6 : w6.heap[be]? = some (.cells #[x] 32 (0, 0)) := (k6.block be hle hne2).trans HE0.out
  refine ⟨rfl, _, rfl, .tuple #[], by simp [results, Try.results35, go_sem], rfl, rfl, ?_, ?_, ?_⟩
  · exact ((k6.mono (fun _ h => .inl h)).setCell (S := fun k => k = bt ∨ k = be) (p := ⟨be, 0, none⟩) (.inl (.inr rfl)) _).alloc _
  · refine (Below.heap_alloc _ _ _ (by have := k6.size; simp; omega)).trans ?_
    exact (Below.heap_setCell _ _ _ _ hne).trans h6
  · refine (Below.heap_alloc _ _ _ (by have := k6.size; simp; omega)).trans ?_
    exact heap_setCell_row he6

set_option maxHeartbeats 1000000 in
theorem catch_idle (bt be : Nat) (w : World) :
    CallsD Try.prog 35 #[.pointer (some ⟨bt, 0, none⟩), .pointer (some ⟨be, 0, none⟩)] .returning w fun e u' w' => e = .returned (.tuple #[]) ∧ u' = .returning ∧ w' = w := by
  refine callsD_of_wpS Try.func35 rfl fun c₀ cs hu => ?_
  apply wpS_seq
  apply wpS_region
  simp [wpOpsS, go_sem, recoverD, hu, Try.ntmps35, Exit.thenS]
  refine wpS_of_wp ?_
  simp only [Array.replicate_succ, Array.replicate_zero, List.push_toArray, List.append_toArray, List.nil_append, List.cons_append, List.setIfInBounds_toArray, List.set_cons_zero, List.set_cons_succ]
  go_wp2
  refine ⟨rfl, .returning, by cases c₀; simp_all, .tuple #[], by simp [results, Try.results35, go_sem], rfl, rfl, rfl⟩

end Go.Proofs.Ytnbhphjpefagjaa
