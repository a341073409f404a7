/- Log: the document's number as bytes. -/
import Derived.Test.YtnbhphjpefagjaaO
namespace Go.Proofs.Ytnbhphjpefagjaa
open Go.RowKit

set_option maxHeartbeats 2000000 in
theorem refnumber_any (n : Int) (hn0 : 0 ≤ n) (hn1 : n ≤ 9223372036854775807) (w : World) :
    Calls Try.prog 33 #[.int .i64 n] w fun e w' => ∃ v, e = .returned v ∧ w'.ownsRow w.heap.size 5 1 v (encN n).length ((encN n).map (Value.int .u8)) ∧ Keeps No w w' := by
  obtain ⟨i0, hi, hz0, hz1, hz2⟩ := info_parts Try.info5
  have HI := hid hi
  have HZ0 := hid hz0
  have HZ1 := hid hz1
  have HZ2 := hid hz2
  clear hi hz0 hz1 hz2
  go_enter Try.func33, Try.ntmps33
  go_wp2_with fail
  go_loopw [0, 3] (fun nv xv wr => ∃ (j : Nat) (v : Int) (bs : List Int), j ≤ 9 ∧ nv = .int .i64 v ∧ 0 ≤ v ∧ v ≤ 9223372036854775807 ∧ v < 128 ^ (9 - j) ∧ bs.length ≤ j ∧ encN n = bs ++ encF (9 - j) v ∧ wr.ownsRow w.heap.size 5 1 xv bs.length (bs.map (Value.int .u8)) ∧ Keeps No w wr) (fun nv _ _ => (intOf nv).toNat)
  case atStart => exact ⟨0, n, [], by omega, rfl, hn0, hn1, by omega, by simp, rfl, World.ownsRow_nil _ _ _ _, Keeps.refl _ _⟩
  case round =>
    obtain ⟨j, v, bs, hj, rfl, h0, hvm, h1, hbs, he, hw, hk⟩ := hrel
    have HOW := hid hw
    have HE := hid he
    have HK := hid hk
    clear hw he hk
    by_cases hlt : v < 128
    · go_wp2_with (at_builtin; go_must (refine wpList_append_own _ rfl (.tmp 15) (.tmp 18) 31 rfl w.heap.size 5 i0 (.int .u8 0) 1 1 Try.underlying31 HI.out HZ0.out HZ1.out HZ2.out rfl (by decide) _ bs.length _ rfl (World.ownsRow.alloc HOW.out _) ⟨wr.heap.size, 0, none⟩ 1 1 ([v].map (Value.int .u8)) rfl rfl (new_cells wr _ _) (bytes_oneCell _) (by unfold maxLen; omega) (by omega) (by have := HK.out.size; simp; omega) ?_); intro v2 w2 hown2 hg2 _; have HO2 := hid hown2; have HK2 := hid ((HK.out.alloc _).grown hg2 (fun k hk => .inr ((HOW.out.lt k hk).1))); clear hown2 hg2)
      go_ret
      have e1 : encF (9 - j) v = [v] := by
        cases 9 - j with
        | zero => rfl
        | succ f => simp only [encF, if_pos hlt]
      refine ⟨_, rfl, ?_, HK2.out⟩
      rw [HE.out, e1, List.length_append, List.map_append]
      exact HO2.out
    · obtain ⟨f, hf9⟩ : ∃ f, 9 - j = f + 1 := by
        cases h9 : 9 - j with
        | zero => rw [h9] at h1; simp at h1; omega
        | succ f => exact ⟨f, rfl⟩
      have hp : v < 128 ^ f * 128 := by rw [hf9, Int.pow_succ] at h1; exact h1
      have hq : v / 128 < 128 ^ f := Int.ediv_lt_of_lt_mul (by omega) hp
      have H1' := hid h1
      have HQ := hid hq
      have HP := hid hf9
      clear h1 hq hp hf9
      go_wp2_with (at_builtin; go_must (refine wpList_append_own _ rfl (.tmp 6) (.tmp 11) 31 rfl w.heap.size 5 i0 (.int .u8 0) 1 1 Try.underlying31 HI.out HZ0.out HZ1.out HZ2.out rfl (by decide) _ bs.length _ rfl (World.ownsRow.alloc HOW.out _) ⟨wr.heap.size, 0, none⟩ 1 1 ([v % 128 + 128].map (Value.int .u8)) rfl rfl (new_cells wr _ _) (bytes_oneCell _) (by unfold maxLen; omega) (by omega) (by have := HK.out.size; simp; omega) ?_); intro v2 w2 hown2 hg2 _; have HO2 := hid hown2; have HK2 := hid ((HK.out.alloc _).grown hg2 (fun k hk => .inr ((HOW.out.lt k hk).1))); clear hown2 hg2)
      go_roundw
      case rel =>
        refine ⟨j + 1, v / 128, bs ++ [v % 128 + 128], by have := HP.out; omega, by go_num, by omega, by omega, by rw [show 9 - (j + 1) = f by have := HP.out; omega]; exact HQ.out, by simp; omega, ?_, ?_, HK2.out⟩
        · rw [HE.out, HP.out, show 9 - (j + 1) = f by have := HP.out; omega]
          simp only [encF, if_neg hlt, List.append_assoc, List.singleton_append]
        · rw [List.length_append, List.map_append]
          exact HO2.out
      case measure => simp [intOf]; omega

end Go.Proofs.Ytnbhphjpefagjaa
