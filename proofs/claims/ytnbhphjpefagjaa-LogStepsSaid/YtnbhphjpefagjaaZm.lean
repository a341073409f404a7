/- Log: the chapter's rows. -/
import Derived.Test.YtnbhphjpefagjaaZl
import Derived.Test.YtnbhphjpefagjaaP
namespace Go.Proofs.Ytnbhphjpefagjaa
open Go.RowKit

theorem w_set : Bytes (wBytes.set 9 1) := bytes_iff.2 (by
  have : ∀ x ∈ wBytes.set 9 1, 0 ≤ x ∧ x < 256 := by decide +kernel
  exact this)
theorem w_bytes : Bytes wBytes := bytes_iff.2 (by
  have : ∀ x ∈ wBytes, 0 ≤ x ∧ x < 256 := by decide +kernel
  exact this)
theorem w_head : (strOfNums (wBytes.take 19)).toList = [87, 76, 79, 71, 2, 1, 0, 0, 3, 0, 2, 1, 1, 0, 1, 2, 0, 0, 0] := by
  rw [w_take, ByteArray.toList_eq, strOfNums_data]
  decide
theorem w_same : sameB 258 wTurns 2 0 0 0 258 wTurns 2 0 0 0 = true := by decide +kernel

theorem set_nums {w : World} {g : Nat} {l : List Int} (h : NumsAt .u8 w (some ⟨g, 0, none⟩) l) (hl : 0 < l.length) (i : Nat) (hi : i < l.length) (v : Int) : NumsAt .u8 (w.setCell ⟨g, i, none⟩ (.int .u8 v)) (some ⟨g, 0, none⟩) (l.set i v) := by
  obtain ⟨g', off, he, hc⟩ := h.resolve_left (by rintro rfl; simp at hl)
  cases he
  refine .inr ⟨g, 0, rfl, fun j hj => ?_⟩
  simp only [List.length_set] at hj
  by_cases hji : j = i
  · subst hji
    have := hc j hi
    rw [Nat.zero_add] at this ⊢
    rw [World.cell?_setCell_same _ _ _ this]
    simp [hi]
  · have := hc j hj
    rw [Nat.zero_add] at this ⊢
    rw [World.cell?_setCell_other _ _ _ _ (by intro e; cases e; exact hji rfl), this]
    simp [Ne.symm hji]

set_option maxRecDepth 100000 in
set_option maxHeartbeats 4000000 in
theorem works_any (w : World) : Calls Try.prog 12 #[] w fun e w' => e = .returned (.bool true) ∧ Keeps No w w' := by
  have ht := hid (turns_any (some ⟨w.heap.size, 0, none⟩) 4 4 [0, 0, 1, 0] (w.alloc (.cells #[.int .i64 0, .int .i64 0, .int .i64 1, .int .i64 0] 3)) (hid rfl) (by omega) (hid (.inr ⟨w.heap.size, 0, rfl, fun j hj => by
    have := heap_alloc_new w (.cells #[.int .i64 0, .int .i64 0, .int .i64 1, .int .i64 0] 3)
    rw [Nat.zero_add, cell_of_row _ _ j _ _ _ this]
    match j, hj with
    | 0, _ => rfl
    | 1, _ => rfl
    | 2, _ => rfl
    | 3, _ => rfl⟩)))
  go_enter Try.func12, Try.ntmps12
  go_wp2_with fail
  refine ht.out.mono ?_
  rintro e w1 ⟨hk1, h1, _⟩
  obtain ⟨a, c, rfl, hrow⟩ := h1 (by intro z hz; simp at hz; omega)
  rw [w_turns] at hrow ⊢
  have HK1 := hid (((Keeps.refl No w).alloc (.cells #[.int .i64 0, .int .i64 0, .int .i64 1, .int .i64 0] 3)).trans hk1)
  have HROW := hid hrow
  clear hk1 h1 hrow ht
  have HTA : Hid (TurnsAt w1 a wTurns ∧ ∀ p, a = some p → p.block < w1.heap.size) := hid (by
    obtain ⟨a', c', he, h1, h2⟩ := HROW.out.form
    cases he
    exact ⟨h1, fun p hp => (HROW.out.lt p.block (h2 p hp)).2⟩)
  go_wp2_with fail
  refine (encode_any 258 2 0 0 0 (by omega) (by omega) a c 3 wTurns _ (hid rfl) (by omega) (hid (HTA.out.1.keep ((Keeps.refl No w1).alloc _) (fun _ _ e => e))) (hid (fun p hp => by rw [World.size_alloc]; have := HTA.out.2 p hp; omega))).mono ?_
  have hbx := heap_alloc_new w1 (.cells #[.int .u32 258, .slice a wTurns.length c, .int .i64 2, .int .i64 0, .int .i64 0, .int .i64 0] 29)
  rintro e w2 ⟨hk2, -, h2⟩
  have HBX := hid ((hk2.block w1.heap.size (by simp) (fun e => e)).trans hbx)
  have HTA2 := hid (HTA.out.1.keep (((Keeps.refl No w1).alloc (.cells #[.int .u32 258, .slice a wTurns.length c, .int .i64 2, .int .i64 0, .int .i64 0, .int .i64 0] 29)).trans hk2) (fun _ _ e => e))
  clear hbx
  obtain ⟨g, cap, rfl, hg, hrow2⟩ := h2 w_ok
  have HK2 := hid (HK1.out.trans (((Keeps.refl No w1).alloc _).trans hk2))
  have hl : (encM 258 wTurns 2 0 0 0).length = 23 := w_len
  rw [hl] at hrow2 ⊢
  obtain ⟨HN23, hcc, hcm, cur, hcell⟩ : Hid (NumsAt .u8 w2 (some ⟨g, 0, none⟩) wBytes) ∧ 23 ≤ cap ∧ cap ≤ 9223372036854775807 ∧ ∃ cur : Array Value, w2.heap[g]? = some (.cells cur 5 (0, 0)) := by
    refine ⟨hid (ownsRow_nums hrow2).1, ?_⟩
    obtain ⟨-, h⟩ := hrow2
    rcases h with h | ⟨g', cap', cur, hv, -, hb, h1, h2, -⟩
    · cases h.1
    · cases hv
      exact ⟨h1, h2, cur, hb⟩
  have HCELL := hid hcell
  have HHG := hid hg
  clear hrow2 hcell hg hk2 h2
  have HD1 := hid (fun W (hk : Keeps No w2 W) => decode_any (some ⟨g, 0, none⟩) cap 23 wBytes W (hid rfl) (by omega) hcc hcm (hid (HN23.out.keep hk (fun _ _ e => e))) (hid w_bytes))
  go_wp2_with fail
  refine (HD1.out _ (Keeps.refl No _)).mono ?_
  clear HD1
  rintro e w3 ⟨hk3, a3, c3, rfl, ht3, hb3⟩
  rw [w_dec] at ht3 ⊢
  dsimp only at ht3 ⊢
  have HK3 := hid hk3
  have HT3 := hid ht3
  have HB3 := hid hb3
  clear hk3 ht3 hb3
  have HK4 := hid ((Keeps.refl No w3).alloc (.cells #[.int .u32 258, .slice a3 wTurns.length c3, .int .i64 2, .int .i64 0, .int .i64 0, .int .i64 0] 29))
  have hcv := run_convert_bytes_arg (P := Try.prog) (w3.alloc (.cells #[.int .u32 258, .slice a3 wTurns.length c3, .int .i64 2, .int .i64 0, .int .i64 0, .int .i64 0] 29)) 31 5 Try.underlying31 Try.underlying5 g 0 19 cap (wBytes.take 19) (by decide +kernel)
    (nums_of (fun j hj => by
      obtain ⟨g', off', he, hc⟩ := ((HN23.out.keep (HK3.out.trans HK4.out) (fun _ _ e => e))).resolve_left (by intro e; have := w_len; rw [e] at this; simp at this)
      cases he
      exact hc j hj) 19 (by decide +kernel)) 9 Try.underlying9
  obtain ⟨a0, a1, a2, a3', a4, a5⟩ := box6 (((HK3.out.trans HK4.out).block w1.heap.size (Array.getElem?_eq_some_iff.1 HBX.out).1 (fun e => e)).trans HBX.out)
  obtain ⟨b0, b1, b2, b3, b4, b5⟩ := box6 (heap_alloc_new w3 (.cells #[.int .u32 258, .slice a3 wTurns.length c3, .int .i64 2, .int .i64 0, .int .i64 0, .int .i64 0] 29))
  go_wp2_with fail
  refine (num_any 0 _).mono ?_
  rintro e w' ⟨rfl, rfl⟩
  go_wp2_with fail
  refine (num_any 0 _).mono ?_
  rintro e w' ⟨rfl, rfl⟩
  go_wp2_with fail
  refine (num_any 0 _).mono ?_
  rintro e w' ⟨rfl, rfl⟩
  have hst := w_head
  have HT5 := hid (HTA2.out.keep (HK3.out.trans HK4.out) (fun _ _ e => e))
  have HT6 := hid (HT3.out.keep HK4.out (fun _ _ e => e))
  go_wp2_with fail
  refine (same_any 258 2 0 0 0 258 2 0 0 0 a a3 c c3 3 3 wTurns wTurns _ (hid rfl) (hid rfl) (by omega) HT5 HT6).mono ?_
  rintro e w5 ⟨rfl, hk5⟩
  rw [w_same]
  clear hst hcv a0 a1 a2 a3' a4 a5 b0 b1 b2 b3 b4 b5 HT5 HT6
  have HK5 := hid (HK3.out.trans (HK4.out.trans hk5))
  clear hk5
  have hc9 : w5.cell? ⟨g, 9, none⟩ = some (.int .u8 0) := by
    obtain ⟨g', off', he, hc⟩ := ((HN23.out.keep HK5.out (fun _ _ e => e))).resolve_left (by intro e; have := w_len; rw [e] at this; simp at this)
    cases he
    have := hc 9 (by rw [w_len]; omega)
    rw [w_at9, Nat.zero_add] at this
    exact this
  have hfz : w5.frozen? ⟨g, 9, none⟩ = false := froz ((HK5.out.block g (Array.getElem?_eq_some_iff.1 HCELL.out).1 (fun e => e)).trans HCELL.out)
  go_wp2_with fail
  have HA9 := hid (set_nums (HN23.out.keep HK5.out (fun _ _ e => e)) (by rw [w_len]; omega) 9 (by rw [w_len]; omega) 1)
  have HK9 : Hid (Keeps No w (w5.setCell ⟨g, 9, none⟩ (.int .u8 1))) := hid ((HK2.out.trans HK5.out).setCell (.inr (by
    have := HHG.out
    have h1 := HK1.out.size
    rw [World.size_alloc] at this
    show _ ≤ g
    omega)) _)
  clear hc9 hfz
  refine (decode_any (some ⟨g, 0, none⟩) cap 23 (wBytes.set 9 1) _ (hid rfl) (by omega) hcc hcm HA9 (hid w_set)).mono ?_
  rintro e w6 ⟨hk6, a6, c6, rfl, ht6, hb6⟩
  rw [w_rot]
  have HK6 := hid (HK9.out.trans hk6)
  clear hk6 ht6 hb6
  dsimp only [zeroTk]
  go_wp2_with fail
  refine (num_any 210 _).mono ?_
  rintro e w' ⟨rfl, rfl⟩
  go_wp2_with fail
  go_ret
  exact ⟨rfl, HK6.out.alloc _⟩

end Go.Proofs.Ytnbhphjpefagjaa
