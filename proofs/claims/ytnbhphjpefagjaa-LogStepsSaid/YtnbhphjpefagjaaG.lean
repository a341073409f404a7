/- Log: slices.All over turns. -/
import Derived.RangeFuncNested
import Derived.RangeFuncBound
import Derived.RangeFuncCalls
import Derived.RangeFuncLeaves
import Derived.Shelf.Abstract
import Derived.Shelf.RegionOpen
import Derived.WalkKit
import Derived.OwnWalkIn
import Derived.TacticsInMore
import Derived.LoopNIn
import Derived.LoopIn
import Derived.Test.YtnbhphjpefagjaaF
namespace Go.Proofs.Ytnbhphjpefagjaa
open Go.RowKit Go.Shelf
attribute [local go_sem] Oper.semAt_some

abbrev Ix (n : Nat) := { x : Nat // x < n }

/-- What a round of the law's loop keeps: the blocks below B, and Bn. -/
abbrev Kp (B Bn : Nat) (W W' : World) : Prop := Keeps (fun k => ¬ (k < B ∨ k = Bn)) W W'

set_option maxRecDepth 100000 in
set_option maxHeartbeats 1000000 in
theorem all_stops (m : Nat) (hm : 1 ≤ m) (B Bn : Nat) (ko : Option Addr) (n cap : Nat) (l : List (Int × Int)) (w : World) (hBn : Bn < w.heap.size) (hB : B ≤ w.heap.size) (hn : n ≤ 100000) (HN : Hid (l.length = n))
    (h1 : w.cell? ⟨Bn, 0, none⟩ = some (.slice ko n cap)) (h2 : Hid (TurnsAt w ko l)) (h3 : Hid (0 < n → ∀ p, ko = some p → p.block < B)) :
    SeqStopsK Fence.wide m Try.prog 46 #[.pointer (some ⟨Bn, 0, none⟩)] (fun x : Ix n => #[.int .i64 x.1, .agg #[.int .i64 (l[x.1]?.getD (0, 0)).1, .int .i64 (l[x.1]?.getD (0, 0)).2]]) (Kp B Bn) (fun xs => xs.map (·.1) = List.range n) (fun _ => True) n w := fun lp J Jx W hW hJ hJx hY h0 => by
  have H1 := (hW.cell (p := ⟨Bn, 0, none⟩) hBn).trans h1
  clear h1
  refine callsIn_of_wp Try.func46 rfl trivial ?_ rfl
  simp only [Try.ntmps46, List.size_toArray, List.length_cons, List.length_nil, Nat.reduceAdd, Nat.reduceSub, Array.replicate_succ, Array.replicate_zero, List.push_toArray, List.append_toArray, List.nil_append, List.cons_append]
  gi_wp2
  have HW := hid hW
  clear H1
  gi_loopw [7] (fun p wr => ∃ (k : Nat) (pre : List (Ix n)), p = .int .i64 k ∧ k ≤ n ∧ pre.map (·.1) = List.range k ∧ J pre wr ∧ Kp B Bn W wr)
    (fun p _ => n - (intOf p).toNat)
  case atStart => exact ⟨0, [], rfl, by omega, rfl, h0, Keeps.refl _ _⟩
  case round =>
    obtain ⟨k, pre, rfl, hk, hpre, hJs, hkw⟩ := hrel
    have hlen : pre.length = k := by have := congrArg List.length hpre; simpa using this
    have HL := hid hlen
    have HP := hid hpre
    have HKW := hid hkw
    clear hlen hpre hkw
    by_cases hlt : k < n
    · obtain ⟨g, off, rfl, hcl⟩ := h2.out.resolve_left (by rintro rfl; have := HN.out; simp at this; omega)
      have hgn : g < B := h3.out (by omega) _ rfl
      have x1 := HKW.out.cellS (p := ⟨g, off + k * 2, none⟩) ((HW.out.cell (p := ⟨g, off + k * 2, none⟩) (by show g < _; omega)).trans (hcl k (by rw [HN.out]; exact hlt)).1) (fun e => e (.inl hgn))
      have x2 := HKW.out.cellS (p := ⟨g, off + k * 2 + 1, none⟩) ((HW.out.cell (p := ⟨g, off + k * 2 + 1, none⟩) (by show g < _; omega)).trans (hcl k (by rw [HN.out]; exact hlt)).2) (fun e => e (.inl hgn))
      obtain ⟨fn, tmps, assign, body, hy, hR⟩ := hY pre ⟨k, hlt⟩ (wr.alloc (.cells #[.int .i64 (l[k]?.getD (0, 0)).1, .int .i64 (l[k]?.getD (0, 0)).2] 57)) (hJ pre _ _ none hJs (World.grownBy_alloc _ _ none) (fun r e => by cases e)) (by rw [HL.out]; exact hlt)
      dsimp only at hy
      have hR := hid hR
      clear hcl hY
      generalize (l[k]?.getD (0, 0)).1 = x at *
      generalize (l[k]?.getD (0, 0)).2 = y at *
      gi_wp2
      refine hR.out.mono ?_
      rintro e W3 (⟨rfl, hJ3, hk3⟩ | ⟨rfl, hJx3⟩)
      · have HK3 := hid ((HKW.out.alloc _).trans hk3)
        clear hk3 hR
        gi_wp2
        go_roundw
        case rel => exact ⟨k + 1, pre ++ [⟨k, hlt⟩], by go_num, by omega, by rw [List.map_append, HP.out, List.range_succ]; rfl, hJ3, HK3.out⟩
        case measure => simp [intOf]; omega
      · clear hR
        gi_wp2
        refine bodyPost_ret (results_none rfl _ _ _) rfl ?_
        exact ⟨⟨_, rfl⟩, .inr ⟨pre ++ [⟨k, hlt⟩], trivial, hJx3⟩⟩
    · gi_wp2
      go_end0
      refine ⟨⟨_, rfl⟩, .inl ⟨pre, ?_, hJs⟩⟩
      rw [HP.out, show k = n by omega]

end Go.Proofs.Ytnbhphjpefagjaa
