/- Points: the iterator of the places that may be let go, and least. -/
import Derived.RangeFuncNested
import Derived.RangeFuncBound
import Derived.RangeFuncCalls
import Derived.RangeFuncLeaves
import Derived.Shelf.Abstract
import Derived.Shelf.RegionOpen
import Derived.WalkKit
import Derived.OwnWalkIn
import Derived.TacticsInMore
import Derived.LoopNIn
import Derived.LoopIn
import Derived.Test.YtpnhmcgabnifdaaF
namespace Go.Proofs.Ytpnhmcgabnifdaa
open Go.RowKit Go.Shelf
attribute [local go_sem] Oper.semAt_some

abbrev Mid (n : Nat) := { x : Nat // 1 ≤ x ∧ x + 1 < n }

set_option maxRecDepth 100000 in
set_option maxHeartbeats 1000000 in
theorem inner_stops (m : Nat) (hm : 1 ≤ m) (Bn n₀ b : Nat) (ko : Option Addr) (n cap : Nat) (w : World) (hBn : Bn < n₀) (hb : b < n₀) (hn0 : n₀ ≤ w.heap.size) (hn : n ≤ 100000)
    (h1 : w.cell? ⟨Bn, 0, none⟩ = some (.pointer (some ⟨b, 0, none⟩))) (h2 : w.cell? ⟨b, 2, none⟩ = some (.slice ko n cap)) :
    SeqStopsK Fence.wide m Try.prog 37 #[.pointer (some ⟨Bn, 0, none⟩)] (fun x : Mid n => #[.int .i64 x.1]) (Below n₀) (fun xs => xs.map (·.1) = List.range' 1 (n - 2)) (fun _ => True) n w := fun l J Jx W hW hJ hJx hY h0 => by
  have H1 := hid ((hW.cell (p := ⟨Bn, 0, none⟩) (by show Bn < _; omega)).trans h1)
  have H2 := hid ((hW.cell (p := ⟨b, 2, none⟩) (by show b < _; omega)).trans h2)
  clear h1 h2
  refine callsIn_of_wp Try.func37 rfl trivial ?_ rfl
  simp only [Try.ntmps37, List.size_toArray, List.length_cons, List.length_nil, Nat.reduceAdd, Nat.reduceSub, Array.replicate_succ, Array.replicate_zero, List.push_toArray, List.append_toArray, List.nil_append, List.cons_append]
  gi_wp2
  gi_loopw [3] (fun p wr => ∃ (k : Nat) (pre : List (Mid n)), p = .int .i64 k ∧ 1 ≤ k ∧ (k = 1 ∨ k + 1 ≤ n) ∧ pre.map (·.1) = List.range' 1 (k - 1) ∧ J pre wr ∧ wr.cell? ⟨Bn, 0, none⟩ = some (.pointer (some ⟨b, 0, none⟩)) ∧ wr.cell? ⟨b, 2, none⟩ = some (.slice ko n cap))
    (fun p _ => n - (intOf p).toNat)
  case atStart => exact ⟨1, [], rfl, by omega, by omega, rfl, h0, H1.out, H2.out⟩
  case round =>
    obtain ⟨k, pre, rfl, hk1, hk2, hpre, hJs, c1, c2⟩ := hrel
    have hlen : pre.length = k - 1 := by have := congrArg List.length hpre; simpa using this
    have HL := hid hlen
    have HP := hid hpre
    clear hlen hpre
    by_cases hlt : k + 1 < n
    · obtain ⟨fn, tmps, assign, body, hy, hR⟩ := hY pre ⟨k, hk1, hlt⟩ wr hJs (by rw [HL.out]; omega)
      dsimp only at hy
      gi_wp2
      refine hR.mono ?_
      rintro e W3 (⟨rfl, hJ3, hk3⟩ | ⟨rfl, hJx3⟩)
      · have c1' : W3.cell? ⟨Bn, 0, none⟩ = some (.pointer (some ⟨b, 0, none⟩)) := (hk3.cell (p := ⟨Bn, 0, none⟩) hBn).trans c1
        have c2' : W3.cell? ⟨b, 2, none⟩ = some (.slice ko n cap) := (hk3.cell (p := ⟨b, 2, none⟩) hb).trans c2
        clear hk3
        gi_wp2
        go_roundw
        case rel => exact ⟨k + 1, pre ++ [⟨k, hk1, hlt⟩], by go_num, by omega, by omega, by rw [List.map_append, HP.out]; obtain ⟨k', rfl⟩ : ∃ k', k = k' + 1 := ⟨k - 1, by omega⟩; simp [List.range'_1_concat, Nat.add_comm], hJ3, c1', c2'⟩
        case measure => simp [intOf]; omega
      · gi_wp2
        refine bodyPost_ret (results_none rfl _ _ _) rfl ?_
        exact ⟨⟨_, rfl⟩, .inr ⟨pre ++ [⟨k, hk1, hlt⟩], trivial, hJx3⟩⟩
    · gi_wp2
      go_end0
      refine ⟨⟨_, rfl⟩, .inl ⟨pre, ?_, hJs⟩⟩
      have := HP.out
      rw [this]
      congr 1
      omega

end Go.Proofs.Ytpnhmcgabnifdaa
