/- Log: the document's Sealed: bytes and their sum behind them. -/
import Derived.Test.YtnbhphjpefagjaaF
import Derived.Laws.AppendOwnNone
namespace Go.Proofs.Ytnbhphjpefagjaa
open Go.RowKit

theorem empty_row (W : World) : (W.alloc (.cells #[] 5)).ownsRow W.heap.size 5 1 (.slice (some ⟨W.heap.size, 0, none⟩) 0 0) 0 [] :=
  World.ownsRow_made W #[] 0 (Nat.le_refl _) (by unfold maxLen; omega) rfl

/-- What is left of a sum behind j of its bytes. -/
def Left (s : Int) (j : Nat) (q : Int) : Prop := (j = 0 ∧ q = s) ∨ (j = 1 ∧ q = s / 256) ∨ (j = 2 ∧ q = s / 65536) ∨ (j = 3 ∧ q = s / 16777216) ∨ (j = 4 ∧ q = s / 4294967296)

theorem left_step {s q : Int} {j : Nat} (h : Left s j q) (h0 : 0 ≤ s) (h1 : s < 4294967296) (hj : j < 4) : Left s (j + 1) (q / 256) ∧ (le4 s).take (j + 1) = (le4 s).take j ++ [q % 256] := by
  rcases h with ⟨rfl, rfl⟩ | ⟨rfl, rfl⟩ | ⟨rfl, rfl⟩ | ⟨rfl, rfl⟩ | ⟨rfl, rfl⟩
  · exact ⟨.inr (.inl ⟨rfl, rfl⟩), by simp [le4]⟩
  · exact ⟨.inr (.inr (.inl ⟨rfl, by omega⟩)), by simp [le4]⟩
  · exact ⟨.inr (.inr (.inr (.inl ⟨rfl, by omega⟩))), by simp [le4]⟩
  · exact ⟨.inr (.inr (.inr (.inr ⟨rfl, by omega⟩))), by simp [le4]; omega⟩
  · omega

set_option maxHeartbeats 2000000 in
theorem sealed_some (g off cap n : Nat) (l : List Int) (w : World) (HN : Hid (l.length = n)) (hm : n ≤ 50000) (HA : Hid (∀ j, j < n → w.cell? ⟨g, off + j, none⟩ = some (.int .u8 (l[j]?.getD 0)))) (HB : Hid (Bytes l)) :
    Calls Try.prog 20 #[.slice (some ⟨g, off, none⟩) n cap] w fun e w' => ∃ v, e = .returned v ∧ w'.ownsRow w.heap.size 5 1 v (n + 4) ((l ++ le4 (sumL l)).map (Value.int .u8)) ∧ Keeps No w w' := by
  obtain ⟨i0, hi, hz0, hz1, hz2⟩ := info_parts Try.info5
  have HI := hid hi
  have HZ0 := hid hz0
  have HZ1 := hid hz1
  have HZ2 := hid hz2
  clear hi hz0 hz1 hz2
  have hs := hid (refsum_any (some ⟨g, off, none⟩) cap n l w HN (by omega) (hid (.inr ⟨g, off, rfl, fun j hj => HA.out j (by rw [← HN.out]; exact hj)⟩)) HB)
  have hbd := sumL_bd l
  generalize sumL l = s at *
  have C2 : Hid (∀ j u, (l.map (Value.int .u8))[j]? = some u → (w.alloc (.cells #[] 5)).cell? ((⟨g, off, none⟩ : Addr).add j) = some u) := hid (by
    intro j u hu
    have hj : j < l.length := by have := (List.getElem?_eq_some_iff.1 hu).1; simpa using this
    rw [Addr.add_lit]
    refine cell_alloc_of w _ ?_
    rw [HA.out j (by rw [← HN.out]; exact hj)]
    simp [hj] at hu ⊢
    exact hu)
  go_enter Try.func20, Try.ntmps20
  go_wp2_with (first | (go_at_call 22; refine hs.out.mono ?_; rintro e w' ⟨rfl, rfl⟩) | (at_builtin; go_must (refine wpList_append_own _ rfl (.tmp 8) (.tmp 9) 31 rfl w.heap.size 5 i0 (.int .u8 0) 1 1 Try.underlying31 HI.out HZ0.out HZ1.out HZ2.out rfl (by decide) _ 0 [] rfl (empty_row w) ⟨g, off, none⟩ n cap (l.map (Value.int .u8)) rfl (by simp [HN.out]) C2.out (fun u hu => by obtain ⟨x, _, rfl⟩ := List.mem_map.1 hu; rfl) (by unfold maxLen; omega) (by omega) (by simp) ?_); intro v1 w1 hown hg _; have HO := hid hown; have HK1 := hid (((Keeps.refl No w).alloc (.cells #[] 5)).grown hg (fun k hk => .inr (by cases hk; exact Nat.le_refl _))); clear hown hg))
  go_loopw [3, 4, 5] (fun sv xv i wr => ∃ (j : Nat) (q : Int), j ≤ 4 ∧ i = .int .i64 j ∧ sv = .int .u32 q ∧ 0 ≤ q ∧ q < 4294967296 ∧ Left s j q ∧ wr.ownsRow w.heap.size 5 1 xv (n + j) ((l ++ (le4 s).take j).map (Value.int .u8)) ∧ Keeps No w wr) (fun _ _ i _ => 4 - (intOf i).toNat)
  case atStart => exact ⟨0, s, by omega, rfl, rfl, hbd.1, hbd.2, .inl ⟨rfl, rfl⟩, by simpa using HO.out, HK1.out⟩
  case round =>
    obtain ⟨j, q, hj, rfl, rfl, hq0, hq1, hq, hown, hkk⟩ := hrel
    have HOW := hid hown
    have HKK := hid hkk
    have HQ := hid hq
    clear hown hkk hq
    by_cases hlt : j < 4
    · go_wp2_with (at_builtin; go_must (refine wpList_append_own _ rfl (.tmp 15) (.tmp 19) 31 rfl w.heap.size 5 i0 (.int .u8 0) 1 1 Try.underlying31 HI.out HZ0.out HZ1.out HZ2.out rfl (by decide) _ (n + j) _ rfl (World.ownsRow.alloc HOW.out _) ⟨wr.heap.size, 0, none⟩ 1 1 ([q % 256].map (Value.int .u8)) rfl rfl (new_cells wr _ _) (bytes_oneCell _) (by unfold maxLen; omega) (by omega) (by have := HKK.out.size; simp; omega) ?_); intro v2 w2 hown2 hg2 _; have HO2 := hid hown2; have HK2 := hid ((HKK.out.alloc _).grown hg2 (fun k hk => .inr ((HOW.out.lt k hk).1))); clear hown2 hg2)
      go_roundw
      case rel =>
        obtain ⟨r1, r2⟩ := left_step HQ.out hbd.1 hbd.2 hlt
        refine ⟨j + 1, q / 256, by omega, by go_num, rfl, by omega, by omega, r1, ?_, HK2.out⟩
        have := HO2.out
        rw [r2, ← List.append_assoc, List.map_append]
        exact this
      case measure => simp [intOf]; omega
    · obtain rfl : j = 4 := by omega
      go_wp2_with fail
      go_ret
      exact ⟨_, rfl, by simpa [le4] using HOW.out, HKK.out⟩

set_option maxHeartbeats 2000000 in
theorem sealed_none (w : World) :
    Calls Try.prog 20 #[.slice none 0 0] w fun e w' => ∃ v, e = .returned v ∧ w'.ownsRow w.heap.size 5 1 v 4 ((le4 (sumL [])).map (Value.int .u8)) ∧ Keeps No w w' := by
  obtain ⟨i0, hi, hz0, hz1, hz2⟩ := info_parts Try.info5
  have HI := hid hi
  have HZ0 := hid hz0
  have HZ1 := hid hz1
  have HZ2 := hid hz2
  clear hi hz0 hz1 hz2
  have hs := hid (refsum_any none 0 0 [] w (hid rfl) (by omega) (hid (.inl rfl)) (hid (fun j => by simp)))
  have hbd := sumL_bd []
  generalize sumL [] = s at *
  go_enter Try.func20, Try.ntmps20
  go_wp2_with (first | (go_at_call 22; refine hs.out.mono ?_; rintro e w' ⟨rfl, rfl⟩) | (at_builtin; go_must (refine wpList_append_own_none rfl (.tmp 8) (.tmp 9) 31 rfl w.heap.size 5 i0 1 Try.underlying31 HI.out (.slice (some ⟨w.heap.size, 0, none⟩) 0 0) 0 [] rfl (empty_row w) rfl ?_)))
  have HO := hid (empty_row w)
  have HK1 := hid ((Keeps.refl No w).alloc (.cells #[] 5))
  go_loopw [3, 4, 5] (fun sv xv i wr => ∃ (j : Nat) (q : Int), j ≤ 4 ∧ i = .int .i64 j ∧ sv = .int .u32 q ∧ 0 ≤ q ∧ q < 4294967296 ∧ Left s j q ∧ wr.ownsRow w.heap.size 5 1 xv j (((le4 s).take j).map (Value.int .u8)) ∧ Keeps No w wr) (fun _ _ i _ => 4 - (intOf i).toNat)
  case atStart => exact ⟨0, s, by omega, rfl, rfl, hbd.1, hbd.2, .inl ⟨rfl, rfl⟩, by simpa using HO.out, HK1.out⟩
  case round =>
    obtain ⟨j, q, hj, rfl, rfl, hq0, hq1, hq, hown, hkk⟩ := hrel
    have HOW := hid hown
    have HKK := hid hkk
    have HQ := hid hq
    clear hown hkk hq
    by_cases hlt : j < 4
    · go_wp2_with (at_builtin; go_must (refine wpList_append_own _ rfl (.tmp 15) (.tmp 19) 31 rfl w.heap.size 5 i0 (.int .u8 0) 1 1 Try.underlying31 HI.out HZ0.out HZ1.out HZ2.out rfl (by decide) _ j _ rfl (World.ownsRow.alloc HOW.out _) ⟨wr.heap.size, 0, none⟩ 1 1 ([q % 256].map (Value.int .u8)) rfl rfl (new_cells wr _ _) (bytes_oneCell _) (by unfold maxLen; omega) (by omega) (by have := HKK.out.size; simp; omega) ?_); intro v2 w2 hown2 hg2 _; have HO2 := hid hown2; have HK2 := hid ((HKK.out.alloc _).grown hg2 (fun k hk => .inr ((HOW.out.lt k hk).1))); clear hown2 hg2)
      go_roundw
      case rel =>
        obtain ⟨r1, r2⟩ := left_step HQ.out hbd.1 hbd.2 hlt
        refine ⟨j + 1, q / 256, by omega, by go_num, rfl, by omega, by omega, r1, ?_, HK2.out⟩
        have := HO2.out
        rw [r2, List.map_append]
        exact this
      case measure => simp [intOf]; omega
    · obtain rfl : j = 4 := by omega
      go_wp2_with fail
      go_ret
      exact ⟨_, rfl, by simpa [le4] using HOW.out, HKK.out⟩

end Go.Proofs.Ytnbhphjpefagjaa
