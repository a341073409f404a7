/- Log: the reader. -/
import Derived.Test.YtnbhphjpefagjaaB
import Derived.Laws.BitsLemmas
namespace Go.Proofs.Ytnbhphjpefagjaa
open Go.RowKit

/-- What is given up with. -/
def gaveUp : List PanicEntry := [{ v := .iface 81 (.agg #[]), recovered := false }]

theorem must_true (w : World) :
    Calls Try.prog 36 #[.bool true] w fun e w' => e = .returned (.tuple #[]) ∧ w = w' := by
  go_enter Try.func36, Try.ntmps36
  go_wp2
  go_end0
  exact ⟨rfl, rfl⟩

theorem must_false (w : World) :
    Calls Try.prog 36 #[.bool false] w fun e w' => e = .panicked gaveUp ∧ w = w' := by
  go_enter Try.func36, Try.ntmps36
  go_wp2
  exact ⟨rfl, rfl, rfl⟩

/-- A reader at b before the bytes l, which lie in a block below B. -/
def Rd (B : Nat) (w : World) (b : Nat) (l : List Int) : Prop :=
  ∃ a c, w.heap[b]? = some (.cells #[.slice a l.length c] 78 (0, 0)) ∧ l.length ≤ c ∧ c ≤ 9223372036854775807 ∧ NumsAt .u8 w a l ∧ (∀ p, a = some p → p.block < B ∧ B ≤ b) ∧ Bytes l

theorem byte_nil {B : Nat} (b : Nat) (w : World) (h : Rd B w b []) :
    Calls Try.prog 38 #[.pointer (some ⟨b, 0, none⟩)] w fun e w' => e = .panicked gaveUp ∧ w = w' := by
  obtain ⟨a, c, hh, _, _, _, _, _⟩ := h
  have h0 : w.cell? ⟨b, 0, none⟩ = some (.slice a 0 c) := by rw [cell_of_row w _ _ _ _ _ hh]; rfl
  clear hh
  go_enter Try.func38, Try.ntmps38
  go_wp2_with fail
  refine (must_false _).mono ?_
  rintro e w' ⟨rfl, rfl⟩
  exact ⟨rfl, rfl, rfl⟩

theorem rd_step {B : Nat} {w : World} {b : Nat} {x : Int} {l : List Int} {v : Value} {a' : Option Addr} {c' : Nat} {g off : Nat} (hh : w.heap[b]? = some (.cells #[v] 78 (0, 0))) (hc : l.length ≤ c') (hm : c' ≤ 9223372036854775807) (hb : ∀ p, some (⟨g, off, none⟩ : Addr) = some p → p.block < B ∧ B ≤ b)
    (hby : Bytes (x :: l)) (ha : a' = some ⟨g, off + 1, none⟩ ∨ (l = [] ∧ a' = some ⟨g, off, none⟩)) (hcl : ∀ (j : Nat), j < (x :: l).length → w.cell? ⟨g, off + j, none⟩ = some (.int .u8 ((x :: l)[j]?.getD 0))) : Rd B (w.setCell ⟨b, 0, none⟩ (.slice a' l.length c')) b l ∧ Keeps (fun k => k = b) w (w.setCell ⟨b, 0, none⟩ (.slice a' l.length c')) := by
  have hk := Keeps.set_at w b 0 (.slice a' l.length c')
  have hgb0 := hb _ rfl
  have hgb : ¬ g = b := by have h1 := hgb0.1; have h2 := hgb0.2; simp only at h1; omega
  refine ⟨⟨a', c', heap_setCell_row hh, hc, hm, ?_, ?_, fun j => ?_⟩, hk⟩
  · rcases ha with rfl | ⟨rfl, _⟩
    · refine .inr ⟨g, off + 1, rfl, fun j hj => hk.cellS (p := ⟨g, off + 1 + j, none⟩) ?_ hgb⟩
      have := hcl (j + 1) (by simpa using hj)
      rw [show off + 1 + j = off + (j + 1) by omega, this]
      simp
    · exact .inl rfl
  · rintro p hp
    rcases ha with rfl | ⟨_, rfl⟩ <;> (cases hp; exact hgb0)
  · have := hby (j + 1)
    simpa using this

theorem byte_cons {B : Nat} (b : Nat) (x : Int) (l : List Int) (w : World) (h : Rd B w b (x :: l)) :
    Calls Try.prog 38 #[.pointer (some ⟨b, 0, none⟩)] w fun e w' => e = .returned (.int .i64 x) ∧ Rd B w' b l ∧ Keeps (fun k => k = b) w w' := by
  obtain ⟨a, c, hh, hc, hm, hn, hb, hby⟩ := h
  have h0 : w.cell? ⟨b, 0, none⟩ = some (.slice a (x :: l).length c) := by rw [cell_of_row w _ _ _ _ _ hh]; rfl
  have f0 := froz (i := 0) hh
  obtain ⟨g, off, rfl, hcl⟩ := hn.resolve_left (by simp)
  have x0 : w.cell? ⟨g, off, none⟩ = some (.int .u8 x) := hcl 0 (by simp)
  have hx := hby 0
  simp only [List.getElem?_cons_zero, Option.getD_some] at hx
  have HH := hid hh
  have HCL := hid hcl
  have HB := hid hb
  have HBY := hid hby
  simp only [List.length_cons] at h0 hc
  have q0 : (0 : Int) < ((l.length + 1 : Nat) : Int) := by omega
  have q1 : (1 : Int) ≤ ((l.length + 1 : Nat) : Int) := by omega
  have q2 : ((l.length + 1 : Nat) : Int) ≤ (c : Int) := by omega
  clear hh hcl hb hby
  have qd : decide (0 < l.length + 1) = true := by simp
  generalize hL : l.length + 1 = n at *
  go_enter Try.func38, Try.ntmps38
  go_wp2_with fail
  refine (must_true _).mono ?_
  rintro e w' ⟨rfl, rfl⟩
  go_wp2_with fail
  all_goals
    subst hL
    go_ret
    refine ⟨rfl, ?_⟩
    simp only [Nat.add_sub_cancel]
  · exact rd_step HH.out (by omega) (by omega) HB.out HBY.out (.inr ⟨List.eq_nil_of_length_eq_zero (by omega), rfl⟩) HCL.out
  · exact rd_step HH.out (by omega) (by omega) HB.out HBY.out (.inl rfl) HCL.out

/-- A number of the bytes l, behind j of its bytes that made v. -/
def numGo : Nat → Nat → Int → List Int → Option (Int × List Int)
  | 0, _, _, _ => none
  | _ + 1, _, _, [] => none
  | f + 1, j, v, c :: r => if c < 128 then (if j = 0 ∨ c ≠ 0 then some (v + c * 128 ^ j, r) else none) else numGo f (j + 1) (v + (c % 128) * 128 ^ j) r
def numM (l : List Int) : Option (Int × List Int) := numGo 5 0 0 l

theorem i64_small (n : Int) (h : 0 ≤ n) (h2 : n < 2 ^ 63) : IntKind.i64.wrap n = n := by
  rw [IntKind.wrap_i64]; omega

theorem and127 (c : Int) (h0 : 0 ≤ c) (h1 : c < 256) : bits BinOp.and .i64 c 127 = c % 128 :=
  bits_mask .i64 63 (by decide) i64_small 7 (by decide) c h0 (by omega)

theorem orjoin (i : Nat) (hi : i = 0 ∨ i = 7 ∨ i = 14 ∨ i = 21 ∨ i = 28) (v m : Int) (h0 : 0 ≤ v) (h1 : v < 2 ^ i) (h2 : 0 ≤ m) (h3 : m < 128) : bits BinOp.or .i64 v (m * 2 ^ i) = v + m * 2 ^ i := by
  have hc : bits BinOp.or .i64 v (m * 2 ^ i) = bits BinOp.or .i64 (m * 2 ^ i) v := by simp only [bits, BitVec.or_comm]
  have hp : (0 : Int) < 2 ^ i := Int.pow_pos (by omega)
  have hp2 : (2 : Int) ^ i ≤ 2 ^ 28 := by rcases hi with rfl | rfl | rfl | rfl | rfl <;> decide
  have hp3 : m * 2 ^ i ≤ 127 * 2 ^ 28 := Int.mul_le_mul (by omega) hp2 (by omega) (by omega)
  rw [hc, bits_join .i64 63 (by decide) i64_small i _ _ (Int.mul_nonneg h2 (by omega)) (Int.mul_emod_left _ _) (by omega) h0 h1 (by omega)]
  omega

theorem numGo_done (f j : Nat) (v c : Int) (r : List Int) (h : c < 128) (h2 : j = 0 ∨ c ≠ 0) : numGo (f + 1) j v (c :: r) = some (v + c * 128 ^ j, r) := by
  simp only [numGo, if_pos h, if_pos h2]
theorem numGo_more (f j : Nat) (v c : Int) (r : List Int) (h : 128 ≤ c) : numGo (f + 1) j v (c :: r) = numGo f (j + 1) (v + (c % 128) * 128 ^ j) r := by
  simp only [numGo, if_neg (Int.not_lt.2 h)]

def NumPost (B : Nat) (b : Nat) (w : World) (r : Option (Int × List Int)) (e : Ending) (w' : World) : Prop :=
  (match r with
    | some (v, l) => e = .returned (.int .i64 v) ∧ Rd B w' b l
    | none => e = .panicked gaveUp) ∧ Keeps (fun k => k = b) w w'

theorem numPost_some {B : Nat} {b : Nat} {w w' : World} {o : Option (Int × List Int)} {v v2 : Int} {r : List Int} {e : Ending} (h : o = some (v, r)) (he : e = .returned (.int .i64 v2)) (hv : v2 = v) (hr : Rd B w' b r) (hk : Keeps (fun k => k = b) w w') : NumPost B b w o e w' := by
  subst h; subst hv; exact ⟨⟨he, hr⟩, hk⟩

set_option maxHeartbeats 1000000 in
theorem number_any {B : Nat} (b : Nat) (l : List Int) (w : World) (h : Rd B w b l) :
    Calls Try.prog 37 #[.pointer (some ⟨b, 0, none⟩)] w (NumPost B b w (numM l)) := by
  have H := hid h
  clear h
  go_enter Try.func37, Try.ntmps37
  go_wp2_with fail
  go_loopw [3, 6] (fun nv i wr => ∃ (j : Nat) (v : Int) (r : List Int), j ≤ 5 ∧ i = .int .i64 j ∧ nv = .int .i64 v ∧ 0 ≤ v ∧ v < 128 ^ j ∧ Rd B wr b r ∧ numM l = numGo (5 - j) j v r ∧ Keeps (fun k => k = b) w wr) (fun _ i _ => 5 - (intOf i).toNat)
  case atStart => exact ⟨0, 0, l, by omega, rfl, rfl, by omega, by omega, H.out, rfl, Keeps.refl _ _⟩
  case round =>
    obtain ⟨j, v, r, hj, rfl, rfl, h0, h1, hr, hm, hk⟩ := hrel
    have HR := hid hr
    have HM := hid hm
    have HK := hid hk
    clear hr hm hk
    by_cases hlt : j < 5
    · cases r with
      | nil =>
        go_wp2_with fail
        refine (byte_nil b _ HR.out).mono ?_
        rintro e w' ⟨rfl, rfl⟩
        refine ⟨rfl, ?_, HK.out⟩
        rw [HM.out, show 5 - j = (4 - j) + 1 by omega]
        rfl
      | cons c r =>
        have hc : 0 ≤ c ∧ c < 256 := by
          obtain ⟨_, _, _, _, _, _, _, hby⟩ := HR.out
          have := hby 0
          simpa using this
        have ha := and127 c hc.1 hc.2
        have hcm : 0 ≤ c % 128 ∧ c % 128 < 128 := by omega
        have hjs : j = 0 ∨ j = 1 ∨ j = 2 ∨ j = 3 ∨ j = 4 := by omega
        rcases hjs with rfl | rfl | rfl | rfl | rfl
        · have hor : bits BinOp.or .i64 v (c % 128) = v + c % 128 := by have := orjoin 0 (by omega) v (c % 128) h0 (by omega) hcm.1 hcm.2; simpa using this
          by_cases hc1 : c < 128
          · go_wp2_with fail
            refine (byte_cons b c r _ HR.out).mono ?_
            rintro e w2 ⟨rfl, hr2, hk2⟩
            have HR2 := hid hr2
            have HK2 := hid (HK.out.trans hk2)
            clear hr2 hk2
            go_wp2_with fail
            refine (must_true _).mono ?_
            rintro e w' ⟨rfl, rfl⟩
            go_wp2_with fail
            go_ret
            exact numPost_some (HM.out.trans (numGo_done 4 0 v c r hc1 (.inl rfl))) (v2 := v + c % 128) rfl (by omega) HR2.out HK2.out
          · go_wp2_with fail
            refine (byte_cons b c r _ HR.out).mono ?_
            rintro e w2 ⟨rfl, hr2, hk2⟩
            have HR2 := hid hr2
            have HK2 := hid (HK.out.trans hk2)
            clear hr2 hk2
            go_wp2_with fail
            go_roundw
            case rel => exact ⟨1, v + c % 128, r, by omega, rfl, rfl, by omega, by omega, HR2.out, HM.out.trans ((numGo_more 4 0 v c r hc1).trans (by simp)), HK2.out⟩
            case measure => simp [intOf]
        · have hor : bits BinOp.or .i64 v (c % 128 * 128) = v + c % 128 * 128 := by have := orjoin 7 (by omega) v (c % 128) h0 (by omega) hcm.1 hcm.2; simpa using this
          by_cases hc1 : c < 128
          · by_cases hz : c = 0
            · subst hz
              go_wp2_with fail
              refine (byte_cons b 0 r _ HR.out).mono ?_
              rintro e w2 ⟨rfl, hr2, hk2⟩
              have HR2 := hid hr2
              have HK2 := hid (HK.out.trans hk2)
              clear hr2 hk2
              go_wp2_with fail
              refine (must_false _).mono ?_
              rintro e w' ⟨rfl, rfl⟩
              refine ⟨rfl, ?_, HK2.out⟩
              rw [HM.out]
              rfl
            · have hz2 : (c != 0) = true := by simpa using hz
              go_wp2_with fail
              refine (byte_cons b c r _ HR.out).mono ?_
              rintro e w2 ⟨rfl, hr2, hk2⟩
              have HR2 := hid hr2
              have HK2 := hid (HK.out.trans hk2)
              clear hr2 hk2
              go_wp2_with fail
              refine (must_true _).mono ?_
              rintro e w' ⟨rfl, rfl⟩
              go_wp2_with fail
              go_ret
              exact numPost_some (HM.out.trans (numGo_done 3 1 v c r hc1 (.inr hz))) (v2 := v + c % 128 * 128) rfl (by omega) HR2.out HK2.out
          · go_wp2_with fail
            refine (byte_cons b c r _ HR.out).mono ?_
            rintro e w2 ⟨rfl, hr2, hk2⟩
            have HR2 := hid hr2
            have HK2 := hid (HK.out.trans hk2)
            clear hr2 hk2
            go_wp2_with fail
            go_roundw
            case rel => exact ⟨2, v + c % 128 * 128, r, by omega, rfl, rfl, by omega, by omega, HR2.out, HM.out.trans ((numGo_more 3 1 v c r hc1).trans (by simp)), HK2.out⟩
            case measure => simp [intOf]
        · have hor : bits BinOp.or .i64 v (c % 128 * 16384) = v + c % 128 * 16384 := by have := orjoin 14 (by omega) v (c % 128) h0 (by omega) hcm.1 hcm.2; simpa using this
          by_cases hc1 : c < 128
          · by_cases hz : c = 0
            · subst hz
              go_wp2_with fail
              refine (byte_cons b 0 r _ HR.out).mono ?_
              rintro e w2 ⟨rfl, hr2, hk2⟩
              have HR2 := hid hr2
              have HK2 := hid (HK.out.trans hk2)
              clear hr2 hk2
              go_wp2_with fail
              refine (must_false _).mono ?_
              rintro e w' ⟨rfl, rfl⟩
              refine ⟨rfl, ?_, HK2.out⟩
              rw [HM.out]
              rfl
            · have hz2 : (c != 0) = true := by simpa using hz
              go_wp2_with fail
              refine (byte_cons b c r _ HR.out).mono ?_
              rintro e w2 ⟨rfl, hr2, hk2⟩
              have HR2 := hid hr2
              have HK2 := hid (HK.out.trans hk2)
              clear hr2 hk2
              go_wp2_with fail
              refine (must_true _).mono ?_
              rintro e w' ⟨rfl, rfl⟩
              go_wp2_with fail
              go_ret
              exact numPost_some (HM.out.trans (numGo_done 2 2 v c r hc1 (.inr hz))) (v2 := v + c % 128 * 16384) rfl (by omega) HR2.out HK2.out
          · go_wp2_with fail
            refine (byte_cons b c r _ HR.out).mono ?_
            rintro e w2 ⟨rfl, hr2, hk2⟩
            have HR2 := hid hr2
            have HK2 := hid (HK.out.trans hk2)
            clear hr2 hk2
            go_wp2_with fail
            go_roundw
            case rel => exact ⟨3, v + c % 128 * 16384, r, by omega, rfl, rfl, by omega, by omega, HR2.out, HM.out.trans ((numGo_more 2 2 v c r hc1).trans (by simp)), HK2.out⟩
            case measure => simp [intOf]
        · have hor : bits BinOp.or .i64 v (c % 128 * 2097152) = v + c % 128 * 2097152 := by have := orjoin 21 (by omega) v (c % 128) h0 (by omega) hcm.1 hcm.2; simpa using this
          by_cases hc1 : c < 128
          · by_cases hz : c = 0
            · subst hz
              go_wp2_with fail
              refine (byte_cons b 0 r _ HR.out).mono ?_
              rintro e w2 ⟨rfl, hr2, hk2⟩
              have HR2 := hid hr2
              have HK2 := hid (HK.out.trans hk2)
              clear hr2 hk2
              go_wp2_with fail
              refine (must_false _).mono ?_
              rintro e w' ⟨rfl, rfl⟩
              refine ⟨rfl, ?_, HK2.out⟩
              rw [HM.out]
              rfl
            · have hz2 : (c != 0) = true := by simpa using hz
              go_wp2_with fail
              refine (byte_cons b c r _ HR.out).mono ?_
              rintro e w2 ⟨rfl, hr2, hk2⟩
              have HR2 := hid hr2
              have HK2 := hid (HK.out.trans hk2)
              clear hr2 hk2
              go_wp2_with fail
              refine (must_true _).mono ?_
              rintro e w' ⟨rfl, rfl⟩
              go_wp2_with fail
              go_ret
              exact numPost_some (HM.out.trans (numGo_done 1 3 v c r hc1 (.inr hz))) (v2 := v + c % 128 * 2097152) rfl (by omega) HR2.out HK2.out
          · go_wp2_with fail
            refine (byte_cons b c r _ HR.out).mono ?_
            rintro e w2 ⟨rfl, hr2, hk2⟩
            have HR2 := hid hr2
            have HK2 := hid (HK.out.trans hk2)
            clear hr2 hk2
            go_wp2_with fail
            go_roundw
            case rel => exact ⟨4, v + c % 128 * 2097152, r, by omega, rfl, rfl, by omega, by omega, HR2.out, HM.out.trans ((numGo_more 1 3 v c r hc1).trans (by simp)), HK2.out⟩
            case measure => simp [intOf]
        · have hor : bits BinOp.or .i64 v (c % 128 * 268435456) = v + c % 128 * 268435456 := by have := orjoin 28 (by omega) v (c % 128) h0 (by omega) hcm.1 hcm.2; simpa using this
          by_cases hc1 : c < 128
          · by_cases hz : c = 0
            · subst hz
              go_wp2_with fail
              refine (byte_cons b 0 r _ HR.out).mono ?_
              rintro e w2 ⟨rfl, hr2, hk2⟩
              have HR2 := hid hr2
              have HK2 := hid (HK.out.trans hk2)
              clear hr2 hk2
              go_wp2_with fail
              refine (must_false _).mono ?_
              rintro e w' ⟨rfl, rfl⟩
              refine ⟨rfl, ?_, HK2.out⟩
              rw [HM.out]
              rfl
            · have hz2 : (c != 0) = true := by simpa using hz
              go_wp2_with fail
              refine (byte_cons b c r _ HR.out).mono ?_
              rintro e w2 ⟨rfl, hr2, hk2⟩
              have HR2 := hid hr2
              have HK2 := hid (HK.out.trans hk2)
              clear hr2 hk2
              go_wp2_with fail
              refine (must_true _).mono ?_
              rintro e w' ⟨rfl, rfl⟩
              go_wp2_with fail
              go_ret
              exact numPost_some (HM.out.trans (numGo_done 0 4 v c r hc1 (.inr hz))) (v2 := v + c % 128 * 268435456) rfl (by omega) HR2.out HK2.out
          · go_wp2_with fail
            refine (byte_cons b c r _ HR.out).mono ?_
            rintro e w2 ⟨rfl, hr2, hk2⟩
            have HR2 := hid hr2
            have HK2 := hid (HK.out.trans hk2)
            clear hr2 hk2
            go_wp2_with fail
            go_roundw
            case rel => exact ⟨5, v + c % 128 * 268435456, r, by omega, rfl, rfl, by omega, by omega, HR2.out, HM.out.trans ((numGo_more 0 4 v c r hc1).trans (by simp)), HK2.out⟩
            case measure => simp [intOf]
    · obtain rfl : j = 5 := by omega
      go_wp2_with fail
      refine ⟨rfl, ?_, HK.out⟩
      rw [HM.out]
      rfl

end Go.Proofs.Ytnbhphjpefagjaa
