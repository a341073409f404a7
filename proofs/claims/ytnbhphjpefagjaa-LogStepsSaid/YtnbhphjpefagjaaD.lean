/- Log: the reader's word. -/
import Derived.Test.YtnbhphjpefagjaaC
namespace Go.Proofs.Ytnbhphjpefagjaa
open Go.RowKit

def wordGo : Nat → Nat → Int → List Int → Option (Int × List Int)
  | 0, _, v, l => some (v, l)
  | _ + 1, _, _, [] => none
  | f + 1, j, v, c :: r => wordGo f (j + 1) (v + c * 256 ^ j) r
def wordM (l : List Int) : Option (Int × List Int) := wordGo 4 0 0 l

def WordPost (B : Nat) (b : Nat) (w : World) (r : Option (Int × List Int)) (e : Ending) (w' : World) : Prop :=
  (match r with
    | some (v, l) => e = .returned (.int .u32 v) ∧ Rd B w' b l
    | none => e = .panicked gaveUp) ∧ Keeps (fun k => k = b) w w'

theorem u32_small (n : Int) (h : 0 ≤ n) (h2 : n < 2 ^ 32) : IntKind.u32.wrap n = n := by
  rw [IntKind.wrap_u32]; omega

theorem orjoin32 (i : Nat) (hi : i = 0 ∨ i = 8 ∨ i = 16 ∨ i = 24) (v m : Int) (h0 : 0 ≤ v) (h1 : v < 2 ^ i) (h2 : 0 ≤ m) (h3 : m < 256) : bits BinOp.or .u32 v (m * 2 ^ i) = v + m * 2 ^ i := by
  have hc : bits BinOp.or .u32 v (m * 2 ^ i) = bits BinOp.or .u32 (m * 2 ^ i) v := by simp only [bits, BitVec.or_comm]
  have hp : (0 : Int) < 2 ^ i := Int.pow_pos (by omega)
  have hp2 : (2 : Int) ^ i ≤ 2 ^ 24 := by rcases hi with rfl | rfl | rfl | rfl <;> decide
  have hp3 : m * 2 ^ i ≤ 255 * 2 ^ 24 := Int.mul_le_mul (by omega) hp2 (by omega) (by omega)
  rw [hc, bits_join .u32 32 (by decide) u32_small i _ _ (Int.mul_nonneg h2 (by omega)) (Int.mul_emod_left _ _) (by omega) h0 h1 (by omega)]
  omega

set_option maxHeartbeats 1000000 in
theorem word_any {B : Nat} (b : Nat) (l : List Int) (w : World) (h : Rd B w b l) :
    Calls Try.prog 34 #[.pointer (some ⟨b, 0, none⟩)] w (WordPost B b w (wordM l)) := by
  have H := hid h
  clear h
  go_enter Try.func34, Try.ntmps34
  go_wp2_with fail
  go_loopw [3, 5] (fun nv i wr => ∃ (j : Nat) (v : Int) (r : List Int), j ≤ 4 ∧ i = .int .i64 j ∧ nv = .int .u32 v ∧ 0 ≤ v ∧ v < 256 ^ j ∧ Rd B wr b r ∧ wordM l = wordGo (4 - j) j v r ∧ Keeps (fun k => k = b) w wr) (fun _ i _ => 4 - (intOf i).toNat)
  case atStart => exact ⟨0, 0, l, by omega, rfl, rfl, by omega, by omega, H.out, rfl, Keeps.refl _ _⟩
  case round =>
    obtain ⟨j, v, r, hj, rfl, rfl, h0, h1, hr, hm, hk⟩ := hrel
    have HR := hid hr
    have HM := hid hm
    have HK := hid hk
    clear hr hm hk
    by_cases hlt : j < 4
    · cases r with
      | nil =>
        go_wp2_with fail
        refine (byte_nil b _ HR.out).mono ?_
        rintro e w' ⟨rfl, rfl⟩
        refine ⟨rfl, ?_, HK.out⟩
        rw [HM.out, show 4 - j = (3 - j) + 1 by omega]
        rfl
      | cons c r =>
        have hc : 0 ≤ c ∧ c < 256 := by
          obtain ⟨_, _, _, _, _, _, _, hby⟩ := HR.out
          have := hby 0
          simpa using this
        have hjs : j = 0 ∨ j = 1 ∨ j = 2 ∨ j = 3 := by omega
        rcases hjs with rfl | rfl | rfl | rfl
        · have hor : bits BinOp.or .u32 v (c) = v + c := by have := orjoin32 0 (by omega) v c h0 (by omega) hc.1 hc.2; simpa using this
          go_wp2_with fail
          refine (byte_cons b c r _ HR.out).mono ?_
          rintro e w2 ⟨rfl, hr2, hk2⟩
          have HR2 := hid hr2
          have HK2 := hid (HK.out.trans hk2)
          clear hr2 hk2
          go_wp2_with fail
          go_roundw
          case rel => exact ⟨1, v + c, r, by omega, rfl, rfl, by omega, by omega, HR2.out, HM.out.trans (by simp [wordGo]), HK2.out⟩
          case measure => simp [intOf]
        · have hor : bits BinOp.or .u32 v (c * 256) = v + c * 256 := by have := orjoin32 8 (by omega) v c h0 (by omega) hc.1 hc.2; simpa using this
          go_wp2_with fail
          refine (byte_cons b c r _ HR.out).mono ?_
          rintro e w2 ⟨rfl, hr2, hk2⟩
          have HR2 := hid hr2
          have HK2 := hid (HK.out.trans hk2)
          clear hr2 hk2
          go_wp2_with fail
          go_roundw
          case rel => exact ⟨2, v + c * 256, r, by omega, rfl, rfl, by omega, by omega, HR2.out, HM.out.trans (by simp [wordGo]), HK2.out⟩
          case measure => simp [intOf]
        · have hor : bits BinOp.or .u32 v (c * 65536) = v + c * 65536 := by have := orjoin32 16 (by omega) v c h0 (by omega) hc.1 hc.2; simpa using this
          go_wp2_with fail
          refine (byte_cons b c r _ HR.out).mono ?_
          rintro e w2 ⟨rfl, hr2, hk2⟩
          have HR2 := hid hr2
          have HK2 := hid (HK.out.trans hk2)
          clear hr2 hk2
          go_wp2_with fail
          go_roundw
          case rel => exact ⟨3, v + c * 65536, r, by omega, rfl, rfl, by omega, by omega, HR2.out, HM.out.trans (by simp [wordGo]), HK2.out⟩
          case measure => simp [intOf]
        · have hor : bits BinOp.or .u32 v (c * 16777216) = v + c * 16777216 := by have := orjoin32 24 (by omega) v c h0 (by omega) hc.1 hc.2; simpa using this
          go_wp2_with fail
          refine (byte_cons b c r _ HR.out).mono ?_
          rintro e w2 ⟨rfl, hr2, hk2⟩
          have HR2 := hid hr2
          have HK2 := hid (HK.out.trans hk2)
          clear hr2 hk2
          go_wp2_with fail
          go_roundw
          case rel => exact ⟨4, v + c * 16777216, r, by omega, rfl, rfl, by omega, by omega, HR2.out, HM.out.trans (by simp [wordGo]), HK2.out⟩
          case measure => simp [intOf]
    · obtain rfl : j = 4 := by omega
      go_wp2_with fail
      go_ret
      refine ⟨?_, HK.out⟩
      rw [HM.out]
      exact ⟨rfl, HR.out⟩

end Go.Proofs.Ytnbhphjpefagjaa
