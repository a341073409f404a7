/- Points: the chapter's rows (works). -/
import Derived.Test.YtpnhmcgabnifdaaP
import Derived.KernelRfl
namespace Go.Proofs.Ytpnhmcgabnifdaa
open Go.RowKit

/-- What stands behind the first k of the times 0, 1, 2, 4, 6. -/
def SS : Nat → St
  | 0 => ⟨[], 0, -1⟩
  | 1 => ⟨[0], 0, 0⟩
  | 2 => ⟨[0], 0, 1⟩
  | 3 => ⟨[0, 2], 0, 2⟩
  | 4 => ⟨[0, 2, 4], 0, 4⟩
  | _ => ⟨[0, 4, 6], 1, 6⟩

theorem ss0 : comeS 2 3 (SS 0) 0 = (SS 1, true, -1, 0) := by kernel_rfl
theorem ss1 : comeS 2 3 (SS 1) 1 = (SS 2, false, -1, 0) := by kernel_rfl
theorem ss2 : comeS 2 3 (SS 2) 2 = (SS 3, true, -1, 0) := by kernel_rfl
theorem ss3 : comeS 2 3 (SS 3) 4 = (SS 4, true, -1, 0) := by kernel_rfl
theorem ss4 : comeS 2 3 (SS 4) 6 = (SS 5, true, 2, 0) := by kernel_rfl

/-- Behind k of the times: the points at b, the list of the times at the next block. -/
def WorksI (w : World) (k : Nat) (wr : World) : Prop :=
  ∃ kv, Pts wr w.heap.size 2 3 kv (SS k).l (SS k).gn (SS k).la ∧ wr.heap[w.heap.size + 1]? = some (.cells #[.int .i64 0, .int .i64 1, .int .i64 2, .int .i64 4, .int .i64 6] 3 (0, 0)) ∧
    (∀ j, kv.ownBlock = some j → w.heap.size + 2 ≤ j) ∧ Keeps No w wr

theorem good0 (ev mo : Int) (h : okNew ev mo) : Good ev mo ⟨[], 0, -1⟩ :=
  ⟨h.1, h.2.1, h.2.2.1, h.2.2.2, by show ((0 : Nat) : Int) ≤ mo; have := h.2.2.1; omega, fun i j _ hj => by simp at hj, fun j hj => by simp at hj, fun j hj => by simp at hj, by show (-1 : Int) ≤ -1; omega, by show (-1 : Int) ≤ _; omega, by show (0 : Int) ≤ 0; omega, by show (0 : Int) ≤ -1 + 1; omega⟩

theorem works_step {w : World} {k : Nat} {wr : World} (h : WorksI w k wr) (t : Int) (keep : Bool) (gone : Int) (hs : comeS 2 3 (SS k) t = (SS (k + 1), keep, gone, 0)) :
    Calls Try.prog 17 #[.pointer (some ⟨w.heap.size, 0, none⟩), .int .i64 t] wr fun e w' => e = .returned (.tuple #[.bool keep, .int .i64 gone, .int .i64 0]) ∧ WorksI w (k + 1) w' := by
  obtain ⟨kv, hp, hl, hf, hk⟩ := h
  refine (come_any t hp).mono ?_
  rw [hs]
  rintro e w' ⟨he, kv', hp', hk', hf'⟩
  have hlt := (Array.getElem?_eq_some_iff.1 hl).1
  refine ⟨he, kv', hp', ?_, fun j hj => ?_, ?_⟩
  · refine (hk'.block _ hlt ?_).trans hl
    rintro (h | h)
    · omega
    · have := hf _ h; omega
  · rcases hf' j hj with h | h
    · exact hf j h
    · omega
  · refine hk.trans' hk' (fun _ h => h) ?_
    rintro i hi (h | h)
    · omega
    · have := hf _ h; omega

theorem all_three {w : World} {b : Nat} {kv : Value} (h : Pts w b 2 3 kv [0, 4, 6] 1 6) :
    Calls Try.prog 18 #[.pointer (some ⟨b, 0, none⟩)] w fun e w' => ∃ a c, e = .returned (.slice a 3 c) ∧ IntsAt w' a [0, 4, 6] ∧ Keeps No w w' := by
  refine (all_form h).mono ?_
  rintro e w' ⟨a, c, he, hi, hk, _⟩
  exact ⟨a, c, he, hi, hk⟩

theorem three_at (w : World) : IntsAt (w.alloc (.cells #[.int .i64 0, .int .i64 4, .int .i64 6] 3)) (some ⟨w.heap.size, 0, none⟩) [0, 4, 6] := by
  refine .inr ⟨_, 0, rfl, fun j hj => ?_⟩
  rw [Nat.zero_add, World.cell?_alloc_new]
  match j, hj with
  | 0, _ => rfl
  | 1, _ => rfl
  | 2, _ => rfl

set_option maxHeartbeats 1000000 in
theorem works_any (w : World) : Calls Try.prog 11 #[] w fun e w' => e = .returned (.bool true) ∧ Keeps No w w' := by
  go_enter Try.func11, Try.ntmps11
  go_wp2_with (go_at_call 16; refine (new_ok 2 3 _ (by unfold okNew; omega)).mono ?_; rintro e w' ⟨rfl, rfl⟩)
  go_loopw [3, 17] (fun n i wr => ∃ k : Nat, k ≤ 5 ∧ n = .int .i64 k ∧ i = .int .i64 k ∧ WorksI w k wr) (fun _ i _ => 5 - (intOf i).toNat)
  case atStart =>
    refine ⟨0, by omega, rfl, rfl, .slice none 0 0, ?_, ?_, (fun j hj => by cases hj), ?_⟩
    · exact ((good0 2 3 (by unfold okNew; omega)).pts (heap_alloc_new w _) (World.ownsRow_nil _ _ _ _) (by simp [Value.ownBlock])).keepNo ((Keeps.refl No _).alloc _)
    · have := heap_alloc_new (w.alloc (.cells #[.int .i64 2, .int .i64 3, .slice none 0 0, .int .i64 0, .int .i64 (-1)] 60)) (.cells #[.int .i64 0, .int .i64 1, .int .i64 2, .int .i64 4, .int .i64 6] 3)
      rwa [World.size_alloc] at this
    · exact ((Keeps.refl No w).alloc _).alloc _
  case round =>
    obtain ⟨k, hk, rfl, rfl, hI⟩ := hrel
    obtain ⟨m0, m1, m2, m3, m4⟩ := five_cells hI.choose_spec.2.1
    have HI := hid hI
    clear hI
    have hcase : k = 0 ∨ k = 1 ∨ k = 2 ∨ k = 3 ∨ k = 4 ∨ k = 5 := by omega
    rcases hcase with rfl | rfl | rfl | rfl | rfl | rfl
    · have HC := hid (works_step HI.out 0 _ _ ss0)
      clear m1 m2 m3 m4
      go_wp2_with (first | (go_at_call 17; refine HC.out.mono ?_; rintro e w' ⟨rfl, hw⟩; have HW := hid hw; clear hw) | (go_at_call 20; refine (num_any _ _).mono ?_; rintro e w' ⟨rfl, rfl⟩))
      go_roundw
      case rel => exact ⟨1, by omega, by go_num, by go_num, HW.out⟩
      case measure => simp [intOf]
    · have HC := hid (works_step HI.out 1 _ _ ss1)
      clear m0 m2 m3 m4
      go_wp2_with (first | (go_at_call 17; refine HC.out.mono ?_; rintro e w' ⟨rfl, hw⟩; have HW := hid hw; clear hw) | (go_at_call 20; refine (num_any _ _).mono ?_; rintro e w' ⟨rfl, rfl⟩))
      go_roundw
      case rel => exact ⟨2, by omega, by go_num, by go_num, HW.out⟩
      case measure => simp [intOf]
    · have HC := hid (works_step HI.out 2 _ _ ss2)
      clear m0 m1 m3 m4
      go_wp2_with (first | (go_at_call 17; refine HC.out.mono ?_; rintro e w' ⟨rfl, hw⟩; have HW := hid hw; clear hw) | (go_at_call 20; refine (num_any _ _).mono ?_; rintro e w' ⟨rfl, rfl⟩))
      go_roundw
      case rel => exact ⟨3, by omega, by go_num, by go_num, HW.out⟩
      case measure => simp [intOf]
    · have HC := hid (works_step HI.out 4 _ _ ss3)
      clear m0 m1 m2 m4
      go_wp2_with (first | (go_at_call 17; refine HC.out.mono ?_; rintro e w' ⟨rfl, hw⟩; have HW := hid hw; clear hw) | (go_at_call 20; refine (num_any _ _).mono ?_; rintro e w' ⟨rfl, rfl⟩))
      go_roundw
      case rel => exact ⟨4, by omega, by go_num, by go_num, HW.out⟩
      case measure => simp [intOf]
    · have HC := hid (works_step HI.out 6 _ _ ss4)
      clear m0 m1 m2 m3
      go_wp2_with (first | (go_at_call 17; refine HC.out.mono ?_; rintro e w' ⟨rfl, hw⟩; have HW := hid hw; clear hw) | (go_at_call 20; refine (num_any _ _).mono ?_; rintro e w' ⟨rfl, rfl⟩))
      go_roundw
      case rel => exact ⟨5, by omega, by go_num, by go_num, HW.out⟩
      case measure => simp [intOf]
    · clear m0 m1 m2 m3 m4
      obtain ⟨kv, hp0, _, _, hk⟩ := HI.out
      have hp : Pts wr w.heap.size 2 3 kv [0, 4, 6] 1 6 := hp0
      have HK := hid hk
      have hb5 : bestRes (bestOf [0, 4, 6] 5) = .tuple #[.int .i64 4, .bool true] := by kernel_rfl
      have HB := hid (best_any 5 hp)
      rw [hb5] at HB
      have HA := hid (all_three hp)
      have HP := hid hp
      clear hp hp0 hk HI hb5
      go_wp2_with (first | (go_at_call 22; refine HB.out.mono ?_; rintro e w' ⟨rfl, rfl⟩) | (go_at_call 20; refine (num_any _ _).mono ?_; rintro e w' ⟨rfl, rfl⟩) | (go_at_call 18; refine HA.out.mono ?_; rintro e w3 ⟨a3, c3, rfl, hi3, hk3⟩; have HI3 := hid hi3; have HK3 := hid hk3; clear hi3 hk3))
      refine (ints_same a3 _ c3 _ [0, 4, 6] 3 rfl _ (HI3.out.keep ((Keeps.refl No w3).alloc _) (fun _ _ e => e)) (three_at w3) (by decide)).mono ?_
      rintro e w4 ⟨rfl, hk4⟩
      have HK4 := hid (((HK3.out.alloc _).trans hk4))
      have HP4 := hid (HP.out.keepNo HK4.out)
      clear hk4
      go_wp2_with (go_at_call 21; refine (gone_some w.heap.size 2 1 _ HP4.out.c0 rfl HP4.out.c3).mono ?_; rintro e w' ⟨rfl, rfl⟩)
      go_ret
      exact ⟨rfl, HK.out.trans HK4.out⟩

end Go.Proofs.Ytpnhmcgabnifdaa
