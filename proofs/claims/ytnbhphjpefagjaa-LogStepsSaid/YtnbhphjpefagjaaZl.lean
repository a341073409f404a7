/- Log: the contracts as they are used. -/
import Derived.Test.YtnbhphjpefagjaaZh
import Derived.Test.YtnbhphjpefagjaaZk
namespace Go.Proofs.Ytnbhphjpefagjaa
open Go.RowKit

theorem decode_any (a : Option Addr) (cap n : Nat) (bs : List Int) (w : World) (HN : Hid (bs.length = n)) (hn : n ≤ 50000) (hc : n ≤ cap) (hcm : cap ≤ 9223372036854775807) (HA : Hid (NumsAt .u8 w a bs)) (HB : Hid (Bytes bs)) :
    Calls Try.prog 17 #[.slice a n cap] w (DecPost bs w) := by
  by_cases hs : n < 12
  · exact decode_short a cap n bs w HN hs
  · obtain ⟨nb, rfl⟩ : ∃ nb, n = nb + 4 := ⟨n - 4, by omega⟩
    obtain ⟨g, off, rfl, hcl⟩ := HA.out.resolve_left (by rintro rfl; have := HN.out; simp at this)
    exact decode_long g off cap nb bs w HN (by omega) (by omega) hc hcm (hid hcl) HB

theorem refdecode_any (a : Option Addr) (cap n : Nat) (bs : List Int) (w : World) (HN : Hid (bs.length = n)) (hn : n ≤ 50000) (hc : n ≤ cap) (HA : Hid (NumsAt .u8 w a bs)) (HB : Hid (Bytes bs)) :
    Calls Try.prog 18 #[.slice a n cap] w (DecPost bs w) := by
  by_cases hs : n < 12
  · exact refdecode_short a cap n bs w HN hs
  · obtain ⟨nb, rfl⟩ : ∃ nb, n = nb + 4 := ⟨n - 4, by omega⟩
    obtain ⟨g, off, rfl, hcl⟩ := HA.out.resolve_left (by rintro rfl; have := HN.out; simp at this)
    exact refdecode_long g off cap nb bs w HN (by omega) (by omega) hc (hid hcl) HB

theorem encode_any0 (h k tr th st : Int) (h0 : 0 ≤ h) (h1 : h < 4294967296) (a : Option Addr) (cap n : Nat) (l : List (Int × Int)) (w : World) (HN : Hid (l.length = n)) (hn : n ≤ 3000) (HA : Hid (TurnsAt w a l)) (HB : Hid (0 < n → ∀ p, a = some p → p.block < w.heap.size)) :
    Calls Try.prog 13 #[.agg #[.int .u32 h, .slice a n cap, .int .i64 k, .int .i64 tr, .int .i64 th, .int .i64 st]] w (EncPost h k tr th st l w) :=
  callsIn_wide.1 (encode_in 4 (by omega) h k tr th st h0 h1 a cap n l w HN hn HA HB)

theorem encode_any (h k tr th st : Int) (h0 : 0 ≤ h) (h1 : h < 4294967296) (a : Option Addr) (cap n : Nat) (l : List (Int × Int)) (w : World) (HN : Hid (l.length = n)) (hn : n ≤ 3000) (HA : Hid (TurnsAt w a l)) (HB : Hid (∀ p, a = some p → p.block < w.heap.size)) :
    Calls Try.prog 13 #[.agg #[.int .u32 h, .slice a n cap, .int .i64 k, .int .i64 tr, .int .i64 th, .int .i64 st]] w (EncPost h k tr th st l w) :=
  encode_any0 h k tr th st h0 h1 a cap n l w HN hn HA (hid (fun _ => HB.out))

def wTurns : List (Int × Int) := [(0, 2), (1, 1), (0, 1)]
def wBytes : List Int := encM 258 wTurns 2 0 0 0

theorem w_turns : turnsOf [0, 0, 1, 0] = wTurns := by decide +kernel
theorem w_ok : okB wTurns 2 0 0 0 = true := by decide +kernel
theorem w_len : wBytes.length = 23 := by decide +kernel
theorem w_take : wBytes.take 19 = [87, 76, 79, 71, 2, 1, 0, 0, 3, 0, 2, 1, 1, 0, 1, 2, 0, 0, 0] := by decide +kernel
theorem w_dec : decM wBytes = ((258, wTurns, 2, 0, 0, 0), 0) := by decide +kernel
theorem w_rot : decM (wBytes.set 9 1) = (zeroTk, 210) := by decide +kernel
theorem w_at9 : wBytes[9]?.getD 0 = 0 := by decide +kernel

end Go.Proofs.Ytnbhphjpefagjaa
