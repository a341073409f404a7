/- Log: Sealed of any bytes; the law of sealed bytes. -/
import Derived.Test.YtnbhphjpefagjaaZn
import Derived.Test.YtnbhphjpefagjaaZp
namespace Go.Proofs.Ytnbhphjpefagjaa
open Go.RowKit

set_option maxHeartbeats 2000000 in
theorem sealed_empty (x : Addr) (cap : Nat) (w : World) :
    Calls Try.prog 20 #[.slice (some x) 0 cap] w fun e w' => ∃ v, e = .returned v ∧ w'.ownsRow w.heap.size 5 1 v 4 ((le4 (sumL [])).map (Value.int .u8)) ∧ Keeps No w w' := by
  obtain ⟨i0, hi, hz0, hz1, hz2⟩ := info_parts Try.info5
  have HI := hid hi
  have HZ0 := hid hz0
  have HZ1 := hid hz1
  have HZ2 := hid hz2
  clear hi hz0 hz1 hz2
  have hs := hid (refsum_any (some x) cap 0 [] w (hid rfl) (by omega) (hid (.inl rfl)) (hid (fun j => by simp)))
  have hbd := sumL_bd []
  generalize sumL [] = s at *
  go_enter Try.func20, Try.ntmps20
  go_wp2_with (first | (go_at_call 22; refine hs.out.mono ?_; rintro e w' ⟨rfl, rfl⟩) | (at_builtin; go_must (refine wpList_append_own _ rfl (.tmp 8) (.tmp 9) 31 rfl w.heap.size 5 i0 (.int .u8 0) 1 1 Try.underlying31 HI.out HZ0.out HZ1.out HZ2.out rfl (by decide) _ 0 [] rfl (empty_row w) x 0 cap [] rfl rfl (fun j u hu => by simp at hu) (fun u hu => by cases hu) (by unfold maxLen; omega) (by omega) (by simp) ?_); intro v1 w1 hown hg _; have HO := hid hown; have HK1 := hid (((Keeps.refl No w).alloc (.cells #[] 5)).grown hg (fun k hk => .inr (by cases hk; exact Nat.le_refl _))); clear hown hg))
  go_loopw [3, 4, 5] (fun sv xv i wr => ∃ (j : Nat) (q : Int), j ≤ 4 ∧ i = .int .i64 j ∧ sv = .int .u32 q ∧ 0 ≤ q ∧ q < 4294967296 ∧ Left s j q ∧ wr.ownsRow w.heap.size 5 1 xv j (((le4 s).take j).map (Value.int .u8)) ∧ Keeps No w wr) (fun _ _ i _ => 4 - (intOf i).toNat)
  case atStart => exact ⟨0, s, by omega, rfl, rfl, hbd.1, hbd.2, .inl ⟨rfl, rfl⟩, by simpa using HO.out, HK1.out⟩
  case round =>
    obtain ⟨j, q, hj, rfl, rfl, hq0, hq1, hq, hown, hkk⟩ := hrel
    have HOW := hid hown
    have HKK := hid hkk
    have HQ := hid hq
    clear hown hkk hq
    by_cases hlt : j < 4
    · go_wp2_with (at_builtin; go_must (refine wpList_append_own _ rfl (.tmp 15) (.tmp 19) 31 rfl w.heap.size 5 i0 (.int .u8 0) 1 1 Try.underlying31 HI.out HZ0.out HZ1.out HZ2.out rfl (by decide) _ j _ rfl (World.ownsRow.alloc HOW.out _) ⟨wr.heap.size, 0, none⟩ 1 1 ([q % 256].map (Value.int .u8)) rfl rfl (new_cells wr _ _) (bytes_oneCell _) (by unfold maxLen; omega) (by omega) (by have := HKK.out.size; simp; omega) ?_); intro v2 w2 hown2 hg2 _; have HO2 := hid hown2; have HK2 := hid ((HKK.out.alloc _).grown hg2 (fun k hk => .inr ((HOW.out.lt k hk).1))); clear hown2 hg2)
      go_roundw
      case rel =>
        obtain ⟨r1, r2⟩ := left_step HQ.out hbd.1 hbd.2 hlt
        refine ⟨j + 1, q / 256, by omega, by go_num, rfl, by omega, by omega, r1, ?_, HK2.out⟩
        have := HO2.out
        rw [r2, List.map_append]
        exact this
      case measure => simp [intOf]; omega
    · obtain rfl : j = 4 := by omega
      go_wp2_with fail
      go_ret
      exact ⟨_, rfl, by simpa [le4] using HOW.out, HKK.out⟩

theorem sealed_any (a : Option Addr) (cap n : Nat) (l : List Int) (w : World) (HN : Hid (l.length = n)) (hm : n ≤ 50000) (hc : a = none → cap = 0) (HA : Hid (NumsAt .u8 w a l)) (HB : Hid (Bytes l)) :
    Calls Try.prog 20 #[.slice a n cap] w fun e w' => ∃ v, e = .returned v ∧ w'.ownsRow w.heap.size 5 1 v (n + 4) ((l ++ le4 (sumL l)).map (Value.int .u8)) ∧ Keeps No w w' := by
  rcases HA.out with rfl | ⟨g, off, rfl, h⟩
  · have := HN.out
    subst this
    cases a with
    | none => rw [hc rfl]; exact sealed_none w
    | some x => exact sealed_empty x cap w
  · exact sealed_some g off cap n l w HN hm (hid (by rw [← HN.out]; exact h)) HB

theorem sameB_refl (h : Int) (l : List (Int × Int)) (k tr th st : Int) : sameB h l k tr th st h l k tr th st = true := by simp [sameB]
theorem sumL_bytes {l : List Int} (h : Bytes l) : Bytes (l ++ le4 (sumL l)) := bytes_append.2 ⟨h, bytes_le4 (sumL_bd l).1 (sumL_bd l).2⟩

set_option maxRecDepth 100000 in
set_option maxHeartbeats 4000000 in
theorem sealed_law (a : Option Addr) (cap n : Nat) (bs : List Int) (w : World) (HN : Hid (bs.length = n)) (hc : a = none → cap = 0) (HA : Hid (NumsAt .u8 w a bs)) (HB : Hid (Bytes bs)) :
    Calls Try.prog 6 #[.slice a n cap] w fun e w' => e = .returned (.bool true) ∧ Keeps No w w' := by
  have HW := hid (fun W => works_any W)
  by_cases hm : n ≤ 3000
  · have HS := hid (sealed_any a cap n bs w HN (by omega) hc HA HB)
    go_enter Try.func6, Try.ntmps6
    go_wp2_with fail
    refine HS.out.mono ?_
    rintro e w1 ⟨v, rfl, hrow, hk1⟩
    obtain ⟨g, c, rfl, HN1, h4, hcm⟩ : ∃ g c, v = .slice (some ⟨g, 0, none⟩) (n + 4) c ∧ Hid (NumsAt .u8 w1 (some ⟨g, 0, none⟩) (bs ++ le4 (sumL bs))) ∧ n + 4 ≤ c ∧ c ≤ 9223372036854775807 := by
      have h := hrow.2
      rcases h with h | ⟨g', cap', cur, hv, -, hb, h1, h2, -⟩
      · exact absurd h.2 (by omega)
      · subst hv
        exact ⟨g', cap', rfl, hid (ownsRow_nums hrow).1, h1, h2⟩
    have HL : Hid ((bs ++ le4 (sumL bs)).length = n + 4) := hid (by simp [le4, HN.out])
    have HBB := hid (sumL_bytes HB.out)
    have HK1 := hid hk1
    clear hrow hk1 HS
    generalize bs ++ le4 (sumL bs) = x at *
    have hds : (decM x).1.2.1.length ≤ 100000 := by
      have := decM_short x HBB.out
      have := HL.out
      omega
    have hd := decode_any (some ⟨g, 0, none⟩) c (n + 4) x w1 HL (by omega) h4 hcm HN1 HBB
    have HR := hid (fun W (hk : Keeps No w1 W) => refdecode_any (some ⟨g, 0, none⟩) c (n + 4) x W HL (by omega) h4 (hid (HN1.out.keep hk (fun _ _ e => e))) HBB)
    unfold DecPost at hd HR
    generalize decM x = y at *
    obtain ⟨⟨hh, l, k, tr, th, st⟩, no⟩ := y
    dsimp only at hds hd HR
    have HD := hid hd
    clear hd
    go_wp2_with fail
    refine HD.out.mono ?_
    rintro e w3 ⟨hk3, a3, c3, rfl, ht3, hb3⟩
    have HK3 := hid hk3
    have HT3 := hid ht3
    clear hk3 ht3 hb3
    go_wp2_with fail
    refine (HR.out _ (HK3.out.alloc _)).mono ?_
    rintro e w4 ⟨hk4, a4, c4, rfl, ht4, hb4⟩
    have hbx := (hk4.block w3.heap.size (by simp) (fun e => e)).trans (heap_alloc_new w3 (.cells #[.int .u32 hh, .slice a3 l.length c3, .int .i64 k, .int .i64 tr, .int .i64 th, .int .i64 st] 29))
    have HK4 := hid hk4
    have HT4 := hid ht4
    clear hk4 ht4 hb4
    have HK5 := hid ((Keeps.refl No w4).alloc (.cells #[.int .u32 hh, .slice a4 l.length c4, .int .i64 k, .int .i64 tr, .int .i64 th, .int .i64 st] 29))
    obtain ⟨x0, x1, x2, x3, x4, x5⟩ := box6 ((HK5.out.block w3.heap.size (Array.getElem?_eq_some_iff.1 hbx).1 (fun e => e)).trans hbx)
    obtain ⟨b0, b1, b2, b3, b4, b5⟩ := box6 (heap_alloc_new w4 (.cells #[.int .u32 hh, .slice a4 l.length c4, .int .i64 k, .int .i64 tr, .int .i64 th, .int .i64 st] 29))
    clear hbx
    have HT5 := hid (HT3.out.keep (((Keeps.refl No w3).alloc (.cells #[.int .u32 hh, .slice a3 l.length c3, .int .i64 k, .int .i64 tr, .int .i64 th, .int .i64 st] 29)).trans (HK4.out.trans HK5.out)) (fun _ _ e => e))
    have HT6 := hid (HT4.out.keep HK5.out (fun _ _ e => e))
    go_wp2_with fail
    refine (same_any hh k tr th st hh k tr th st a3 a4 c3 c4 l.length l.length l l _ (hid rfl) (hid rfl) hds HT5 HT6).mono ?_
    rintro e w5 ⟨rfl, hk5⟩
    rw [sameB_refl]
    clear x0 x1 x2 x3 x4 x5 b0 b1 b2 b3 b4 b5 HT5 HT6
    have HKF := hid (HK1.out.trans ((HK3.out.alloc _).trans (HK4.out.trans (HK5.out.trans hk5))))
    clear hk5
    go_wp2_with fail
    refine (num_any no _).mono ?_
    rintro e w6 ⟨rfl, rfl⟩
    go_wp2_with fail
    refine (HW.out _).mono ?_
    rintro e w7 ⟨rfl, h7⟩
    go_wp2_with fail
    go_ret
    exact ⟨rfl, HKF.out.trans h7⟩
  · go_enter Try.func6, Try.ntmps6
    go_wp2_with fail
    refine (HW.out _).mono ?_
    rintro e w2 ⟨rfl, h2⟩
    go_wp2_with fail
    go_ret
    exact ⟨rfl, h2⟩

end Go.Proofs.Ytnbhphjpefagjaa
