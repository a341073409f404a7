/- Log: the writer's number. -/
import Derived.Test.YtnbhphjpefagjaaE
import Derived.Laws.BitsAllLaws
namespace Go.Proofs.Ytnbhphjpefagjaa
open Go.RowKit

def encF : Nat → Int → List Int
  | 0, n => [n]
  | f + 1, n => if n < 128 then [n] else (n % 128 + 128) :: encF f (n / 128)
def encN (n : Int) : List Int := encF 9 n

set_option maxRecDepth 10000 in
theorem or128_nat : ∀ x : Fin 256, (x.val ||| 128 : Nat) = x.val % 128 + 128 := by decide

theorem or128 (n : Int) : bits BinOp.or .u8 (n % 256) 128 = n % 128 + 128 := by
  rw [u8_or _ _ (by omega) (by omega) (by omega) (by omega)]
  have := or128_nat ⟨(n % 256).toNat, by omega⟩
  simp only at this
  show (((n % 256).toNat ||| 128 : Nat) : Int) = _
  rw [this]
  omega

theorem encF_len : ∀ (f : Nat) (n : Int), (encF f n).length ≤ f + 1 := by
  intro f
  induction f with
  | zero => intro n; simp [encF]
  | succ f ih =>
    intro n
    unfold encF
    split
    · simp
    · have := ih (n / 128); simp; omega

set_option maxHeartbeats 1000000 in
theorem wnumber_any {F : Nat → Prop} (b : Nat) (n : Int) (hn0 : 0 ≤ n) (hn1 : n ≤ 9223372036854775807) (l : List Int) (hl : l.length ≤ 100000) (w : World) (h : Wr F w b l) :
    Calls Try.prog 30 #[.pointer (some ⟨b, 0, none⟩), .int .i64 n] w fun e w' => e = .returned (.tuple #[]) ∧ Wr F w' b (l ++ encN n) ∧ Keeps (fun k => ¬ F k) w w' := by
  obtain ⟨i0, hi, hz0, hz1, hz2⟩ := info_parts Try.info5
  have HI := hid hi
  have HZ0 := hid hz0
  have HZ1 := hid hz1
  have HZ2 := hid hz2
  have H := hid h
  clear hi hz0 hz1 hz2 h
  go_enter Try.func30, Try.ntmps30
  go_wp2_with fail
  go_loopw [1] (fun nv wr => ∃ (j : Nat) (v : Int) (bs : List Int), j ≤ 9 ∧ nv = .int .i64 v ∧ 0 ≤ v ∧ v ≤ 9223372036854775807 ∧ v < 128 ^ (9 - j) ∧ bs.length ≤ j ∧ encN n = bs ++ encF (9 - j) v ∧ Wr F wr b (l ++ bs) ∧ Keeps (fun k => ¬ F k) w wr) (fun nv _ => (intOf nv).toNat)
  case atStart => exact ⟨0, n, [], by omega, rfl, hn0, hn1, by omega, by simp, rfl, by simpa using H.out, Keeps.refl _ _⟩
  case round =>
    obtain ⟨j, v, bs, hj, rfl, h0, hvm, h1, hbs, he, hw, hk⟩ := hrel
    have hlen : (l ++ bs).length ≤ 100100 := by simp; omega
    obtain ⟨g, cap, g1, g2, g3, g4, g5, g6⟩ := hw
    have hc : wr.cell? ⟨b, 0, none⟩ = some (.slice (some ⟨g, 0, none⟩) (l ++ bs).length cap) := by rw [cell_of_row wr _ _ _ _ _ g1]; rfl
    have hf := froz (i := 0) g1
    have H1 := hid g1
    have H2 := hid g2
    have H6 := hid g6
    have HE := hid he
    have HK := hid hk
    clear g1 g2 g6 he hk H
    generalize hls : l ++ bs = ls at *
    have HLS := hid hls
    clear hls
    by_cases hlt : v < 128
    · have APP := hid (fun w1 => wr_appended (w1 := w1) (news := [v]) ((Keeps.refl No wr).alloc (.cells #[.int .u8 v] 5)) H1.out g3 g4 g5 H6.out)
      go_wp2_with (at_builtin; go_must (refine wpList_append_lies _ rfl (.tmp 27) (.tmp 30) 31 rfl 0 5 i0 (.int .u8 0) 1 1 Try.underlying31 HI.out HZ0.out HZ1.out HZ2.out rfl (by decide) (.slice (some ⟨g, 0, none⟩) ls.length cap) ls.length (ls.map (Value.int .u8)) rfl (World.ownsRow.alloc H2.out _) ⟨wr.heap.size, 0, none⟩ 1 1 ([v].map (Value.int .u8)) rfl rfl (new_cells wr _ _) (bytes_oneCell _) (by omega) (by unfold maxLen; omega) (by omega) (Nat.zero_le _) (wr.heap.size + 1) (by simp) ?_); intro g' cap' w1 hown hgrow hat hgl; have HA := hid (APP.out w1 g' cap' hown hgrow (by rw [World.size_alloc]; exact hat)); have hb1 := (hgrow.block b (by have := (Array.getElem?_eq_some_iff.1 H1.out).1; simp; omega) (by intro e; cases e; exact g3 rfl)).trans ((Below.heap_alloc wr _ b (Array.getElem?_eq_some_iff.1 H1.out).1).trans H1.out); have hc1 : w1.cell? ⟨b, 0, none⟩ = some (.slice (some ⟨g, 0, none⟩) ls.length cap) := (by rw [cell_of_row w1 _ _ _ _ _ hb1]; rfl); have hf1 := froz (i := 0) hb1; clear hown hgrow hat hb1)
      go_end0
      refine ⟨rfl, ?_, HK.out.trans HA.out.2⟩
      have e1 : encF (9 - j) v = [v] := by
        cases 9 - j with
        | zero => rfl
        | succ f => simp only [encF, if_pos hlt]
      rw [HE.out, e1, ← List.append_assoc, HLS.out]
      exact HA.out.1
    · obtain ⟨f, hf9⟩ : ∃ f, 9 - j = f + 1 := by
        cases h9 : 9 - j with
        | zero => rw [h9] at h1; simp at h1; omega
        | succ f => exact ⟨f, rfl⟩
      have hor := or128 v
      have hp : v < 128 ^ f * 128 := by rw [hf9, Int.pow_succ] at h1; exact h1
      have hq : v / 128 < 128 ^ f := Int.ediv_lt_of_lt_mul (by omega) hp
      have APP := hid (fun w1 => wr_appended (w1 := w1) (news := [v % 128 + 128]) ((Keeps.refl No wr).alloc (.cells #[.int .u8 (v % 128 + 128)] 5)) H1.out g3 g4 g5 H6.out)
      have H1' := hid h1
      have HQ := hid hq
      have HP := hid hf9
      clear h1 hq hp hf9
      go_wp2_with (at_builtin; go_must (refine wpList_append_lies _ rfl (.tmp 13) (.tmp 17) 31 rfl 0 5 i0 (.int .u8 0) 1 1 Try.underlying31 HI.out HZ0.out HZ1.out HZ2.out rfl (by decide) (.slice (some ⟨g, 0, none⟩) ls.length cap) ls.length (ls.map (Value.int .u8)) rfl (World.ownsRow.alloc H2.out _) ⟨wr.heap.size, 0, none⟩ 1 1 ([v % 128 + 128].map (Value.int .u8)) rfl rfl (new_cells wr _ _) (bytes_oneCell _) (by omega) (by unfold maxLen; omega) (by omega) (Nat.zero_le _) (wr.heap.size + 1) (by simp) ?_); intro g' cap' w1 hown hgrow hat hgl; have HA := hid (APP.out w1 g' cap' hown hgrow (by rw [World.size_alloc]; exact hat)); have hb1 := (hgrow.block b (by have := (Array.getElem?_eq_some_iff.1 H1.out).1; simp; omega) (by intro e; cases e; exact g3 rfl)).trans ((Below.heap_alloc wr _ b (Array.getElem?_eq_some_iff.1 H1.out).1).trans H1.out); have hc1 : w1.cell? ⟨b, 0, none⟩ = some (.slice (some ⟨g, 0, none⟩) ls.length cap) := (by rw [cell_of_row w1 _ _ _ _ _ hb1]; rfl); have hf1 := froz (i := 0) hb1; clear hown hgrow hat hb1)
      go_roundw
      case rel =>
        refine ⟨j + 1, v / 128, bs ++ [v % 128 + 128], by have := HP.out; omega, by go_num, by omega, by omega, by rw [show 9 - (j + 1) = f by have := HP.out; omega]; exact HQ.out, by simp; omega, ?_, ?_, HK.out.trans HA.out.2⟩
        · rw [HE.out, HP.out, show 9 - (j + 1) = f by have := HP.out; omega]
          simp only [encF, if_neg hlt, List.append_assoc, List.singleton_append]
        · rw [← List.append_assoc, HLS.out]
          exact HA.out.1
      case measure => simp [intOf]; omega

end Go.Proofs.Ytnbhphjpefagjaa
