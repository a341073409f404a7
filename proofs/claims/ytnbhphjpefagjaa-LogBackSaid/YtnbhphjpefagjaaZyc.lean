/- Log: there and back: the law's walk, where the threads are all in bounds. -/
import Derived.Test.YtnbhphjpefagjaaZyd
namespace Go.Proofs.Ytnbhphjpefagjaa
open Go.RowKit Go.Shelf
attribute [local go_sem] Oper.semAt_some

set_option maxRecDepth 100000 in
set_option maxHeartbeats 4000000 in
theorem back_yes (m : Nat) (hm : 4 ≤ m) (h k tr th st : Int) (h0 : 0 ≤ h) (h1 : h < 4294967296) (a : Option Addr) (cap n : Nat) (l : List (Int × Int)) (ax : Option Addr) (capx nx : Nat) (zs : List Int) (ab : Option Addr) (capb nb : Nat) (bs : List Int) (at_ : Int) (other : Int) (ho : 0 ≤ other ∧ other < 256) (w : World)
    (HN : Hid (l.length = n)) (HA : Hid (TurnsAt w a l)) (HAB : Hid (∀ p, a = some p → p.block < w.heap.size)) (HX : Hid (zs.length = nx)) (HAX : Hid (NumsAt .i64 w ax zs)) (HL : Hid (bs.length = nb)) (HNB : Hid (ab = none → capb = 0)) (HBL : Hid (NumsAt .u8 w ab bs)) (HBY : Hid (Bytes bs)) (hn : n ≤ 500) (hx : nx ≤ 1000) (hb : nb ≤ 3000) (hall : allIn zs) :
    CallsIn Fence.wide m Try.prog 11 #[.agg #[.int .u32 h, .slice a n cap, .int .i64 k, .int .i64 tr, .int .i64 th, .int .i64 st], .slice ax nx capx, .agg #[.slice ab nb capb, .int .i64 at_, .int .u8 other]] w fun e w' => e = .returned (.bool true) ∧ Keeps No w w' := by
  have HW := hid (fun W => works_any W)
  have h1m : 1 ≤ m := by omega
  obtain ⟨W0, hW0⟩ : ∃ W0, W0 = (((w.alloc (.cells #[.int .u32 h, .slice a n cap, .int .i64 k, .int .i64 tr, .int .i64 th, .int .i64 st] 29)).alloc (.cells #[.slice ax nx capx] 48)).alloc (.cells #[.slice ab nb capb, .int .i64 at_, .int .u8 other] 63)).alloc (.cells #[.bool false] 4) := ⟨_, rfl⟩
  have HK0 : Hid (Keeps No w W0) := hid (by rw [hW0]; exact ((((Keeps.refl No w).alloc _).alloc _).alloc _).alloc _)
  have HT0 : Hid (W0.heap[w.heap.size]? = some (.cells #[.int .u32 h, .slice a n cap, .int .i64 k, .int .i64 tr, .int .i64 th, .int .i64 st] 29 (0, 0))) := hid (by
    rw [hW0]; exact box_in (heap_alloc_new w _) ((((Keeps.refl No _).alloc _).alloc _).alloc _))
  have HT1 : Hid (W0.heap[w.heap.size + 1]? = some (.cells #[.slice ax nx capx] 48 (0, 0))) := hid (by
    have := box_in (heap_alloc_new (w.alloc (.cells #[.int .u32 h, .slice a n cap, .int .i64 k, .int .i64 tr, .int .i64 th, .int .i64 st] 29)) (.cells #[.slice ax nx capx] 48)) (((Keeps.refl No _).alloc (.cells #[.slice ab nb capb, .int .i64 at_, .int .u8 other] 63)).alloc (.cells #[.bool false] 4))
    rw [World.size_alloc] at this
    rw [hW0]; exact this)
  have HT2 : Hid (W0.heap[w.heap.size + 1 + 1]? = some (.cells #[.slice ab nb capb, .int .i64 at_, .int .u8 other] 63 (0, 0))) := hid (by
    have := box_in (heap_alloc_new ((w.alloc (.cells #[.int .u32 h, .slice a n cap, .int .i64 k, .int .i64 tr, .int .i64 th, .int .i64 st] 29)).alloc (.cells #[.slice ax nx capx] 48)) (.cells #[.slice ab nb capb, .int .i64 at_, .int .u8 other] 63)) ((Keeps.refl No _).alloc (.cells #[.bool false] 4))
    rw [World.size_alloc, World.size_alloc] at this
    rw [hW0]; exact this)
  have HT3 : Hid (W0.heap[w.heap.size + 1 + 1 + 1]? = some (.cells #[.bool false] 4 (0, 0))) := hid (by
    have := heap_alloc_new (((w.alloc (.cells #[.int .u32 h, .slice a n cap, .int .i64 k, .int .i64 tr, .int .i64 th, .int .i64 st] 29)).alloc (.cells #[.slice ax nx capx] 48)).alloc (.cells #[.slice ab nb capb, .int .i64 at_, .int .u8 other] 63)) (.cells #[.bool false] 4)
    rw [World.size_alloc, World.size_alloc, World.size_alloc] at this
    rw [hW0]; exact this)
  have HZ0 : Hid (W0.heap.size = w.heap.size + 1 + 1 + 1 + 1) := hid (by rw [hW0]; simp)
  refine callsIn_of_wp_marks Try.func11 rfl trivial ?_ rfl
  simp only [Try.ntmps11, List.size_toArray, List.length_cons, List.length_nil, Nat.reduceAdd, Nat.reduceSub, Array.replicate_succ, Array.replicate_zero, List.push_toArray, List.append_toArray, List.nil_append, List.cons_append]
  gi_wp2_with fail
  refine ⟨trivial, ?_⟩
  rw [← hW0]
  clear hW0
  refine (callsIn_wide.2 (turns_any ax capx nx zs W0 HX (by omega) (hid (HAX.out.keep HK0.out (fun _ _ e => e))))).mono ?_
  rintro e w1 ⟨hk1, hp1, -⟩
  obtain ⟨a1, c1, rfl, hrow⟩ := hp1 hall
  have HFL := hid (flat_turns zs)
  have hLL := turnsOf_few zs
  generalize turnsOf zs = L at *
  have HTA1 : Hid (TurnsAt w1 a1 L ∧ (a1 = none → L.length = 0 ∧ c1 = 0)) := hid (by
    obtain ⟨a', c', he, h1, _⟩ := hrow.form
    cases he
    refine ⟨h1, fun e => ?_⟩
    subst e
    rcases hrow.2 with ⟨hv, hz⟩ | ⟨g, cap', cur, hv, _⟩
    · injection hv with _ q2 q3; exact ⟨q2, q3⟩
    · cases hv)
  have HLL : Hid (L.length ≤ 1000) := hid (by have := HX.out; have := hLL.1; omega)
  have HST : Hid (∀ x ∈ L, x.2 ≤ 4294967296) := hid (fun x hx' => by have := HX.out; have := (hLL.2 x hx').2; omega)
  have HSL := hid (flat_len HFL.out)
  have HK1 := hid (HK0.out.trans hk1)
  have HB0 := hid (box_in HT0.out hk1)
  have HB1 := hid (box_in HT1.out hk1)
  have HB2 := hid (box_in HT2.out hk1)
  have HB3 := hid (box_in HT3.out hk1)
  have HZ1 : Hid (w.heap.size + 1 + 1 + 1 + 1 ≤ w1.heap.size) := hid (by have := hk1.size; rw [HZ0.out] at this; exact this)
  clear hp1 hrow hk1 hLL hall
  gi_wp2_with fail
  refine ⟨trivial, ?_⟩
  refine (callsIn_wide.2 (num_any 0 _)).mono ?_
  rintro e w' ⟨rfl, rfl⟩
  gi_wp2_with fail
  refine ⟨trivial, ?_⟩
  have hth := threads_any a1 c1 L.length L (w1.alloc (.cells #[.int .i64 0] 3)) (hid rfl) (by have := HLL.out; omega) HTA1.out.2 (hid (HTA1.out.1.keep ((Keeps.refl No w1).alloc _) (fun _ _ e => e)))
  refine (callsIn_wide.2 hth).mono ?_
  rintro e w2 ⟨hk2, Bn, a2, c2, rfl, -⟩
  have HK2 := hid (((Keeps.refl No w1).alloc (.cells #[.int .i64 0] 3)).trans hk2)
  have HB9 := hid (box_in (heap_alloc_new w1 (.cells #[.int .i64 0] 3)) hk2)
  have hnn := func_not_nil
  clear hk2 hth
  gi_wp2_with fail
  clear hnn
  refine ⟨trivial, ?_⟩
  have hth := threads_any a1 c1 L.length L w2 (hid rfl) (by have := HLL.out; omega) HTA1.out.2 (hid (HTA1.out.1.keep HK2.out (fun _ _ e => e)))
  refine (callsIn_wide.2 hth).mono ?_
  rintro e w3 ⟨hk3, B3, a3, c3, rfl, hb3, hl3, hc3, ht3, hp3⟩
  have HB93 := hid (box_in HB9.out hk3)
  have HK3 := hid (HK2.out.trans hk3)
  have hz9 : w1.heap.size < w2.heap.size := (Array.getElem?_eq_some_iff.1 HB9.out).1
  have hs23 := hk3.size
  have hm1 : 1 ≤ m - 1 := by omega
  have HP3 : Hid (∀ p, a3 = some p → p.block ≠ w1.heap.size) := hid (fun p hp e => by have := hp3 p hp; omega)
  have HT3' := hid ht3
  clear hk3 hth HB9 ht3 hp3
  gi_wp2_with fail
  refine wpIn_rangeFunc_ownH (w0 := w3) rfl h1m (gf := 45) (lb := #[.pointer (some ⟨B3, 0, none⟩)]) rfl trivial (enters_of Try.func45 (by kernel_rfl) rfl)
    (threads_stops (m - 1) hm1 (fun k => k = w1.heap.size) B3 a3 L.length c3 L w3 hl3 (by rintro k rfl; omega) (by have := HLL.out; omega) (hid rfl) HST hc3 HT3' HP3)
    (fun h k => h.trans k) (fun W j o o' hj ho hc _ => KpC.put W j o o' ho hc) (Below.refl _ _) (fun _ => rfl)
    (fun pre W => W.heap[w1.heap.size]? = some (.cells #[.int .i64 (pre.length : Int)] 3 (0, 0)) ∧ Keeps (fun k => k = w1.heap.size) w3 W)
    (fun _ pre _ => ¬ (pre <+: seqV L))
    (fun s W W' row hs hg hr => ⟨(hg.block _ (Array.getElem?_eq_some_iff.1 hs.1).1 (fun e => by have := (hr _ e.symm).1; omega)).trans hs.1, hs.2.grown hg (fun k hk => .inr (hr k hk).1)⟩)
    (fun _ _ _ _ _ hs _ _ => hs)
    ⟨HB93.out, Keeps.refl _ _⟩
    (fun x a' _ => a' = { tmps := #[Value.agg #[Value.int IntKind.u32 h, Value.slice a n cap, Value.int IntKind.i64 k, Value.int IntKind.i64 tr, Value.int IntKind.i64 th, Value.int IntKind.i64 st], Value.slice ax nx capx, Value.agg #[Value.slice ab nb capb, Value.int IntKind.i64 at_, Value.int IntKind.u8 other], Value.pointer (some { block := w.heap.size, off := 0 }), Value.pointer (some { block := w.heap.size + 1, off := 0 }), Value.pointer (some { block := w.heap.size + 1 + 1, off := 0 }), Value.pointer (some { block := w.heap.size + 1 + 1 + 1, off := 0 }), Value.slice a1 L.length c1, Value.int IntKind.i64 0, Value.pointer (some { block := w1.heap.size, off := 0 }), undef, Value.int .i64 x.2, undef, undef, undef, undef, undef, undef, undef, undef, undef, undef, undef, Value.pointer (some { block := w.heap.size, off := 1 }), Value.slice a n cap, Value.int IntKind.i64 (n : Int), Value.bool (decide (500 < (n : Int))), Value.bool (decide (500 < (n : Int))), Value.slice ax nx capx, Value.int IntKind.i64 (nx : Int), Value.bool (decide (1000 < (nx : Int))), Value.bool (decide (500 < (n : Int)) || decide (1000 < (nx : Int))), Value.bool (decide (500 < (n : Int)) || decide (1000 < (nx : Int))), Value.pointer (some { block := w.heap.size + 1 + 1, off := 0 }), Value.slice ab nb capb, Value.int IntKind.i64 (nb : Int), Value.bool (decide (3000 < (nb : Int))), Value.bool (decide (500 < (n : Int)) || decide (1000 < (nx : Int)) || decide (3000 < (nb : Int))), undef, Value.tuple #[Value.slice a1 L.length c1, Value.int IntKind.i64 0], Value.slice ax nx capx, Value.tuple #[Value.slice a1 L.length c1, Value.int IntKind.i64 0], Value.slice a1 L.length c1, Value.int IntKind.i64 0, Value.int IntKind.i64 0, Value.int IntKind.i64 0, Value.bool true, Value.slice a1 L.length c1, Value.func (Fn.func 45) #[] #[Value.pointer (some { block := Bn, off := 0 })], Value.bool false, Value.slice a1 L.length c1, Value.func (Fn.func 45) #[] #[Value.pointer (some { block := B3, off := 0 })], Value.int .i64 (x.1 : Int), Value.int .i64 x.2, undef, undef, undef, undef, undef, undef, undef, undef, undef, undef, undef, undef, undef, undef, undef, undef, undef, undef, undef, undef, undef, undef, undef, undef, undef, undef, undef, undef, undef, undef, undef, undef, undef, undef, undef, undef, undef, undef, undef, undef, undef, undef, undef, undef, undef, undef, undef, undef, undef, undef, undef, undef, undef, undef, undef, undef, undef, undef, undef, undef, undef, undef, undef, undef, undef, undef, undef, undef, undef, undef, undef, undef, undef, undef, undef, undef, undef, undef, undef, undef, undef, undef, undef, undef, undef, undef, undef, undef, undef, undef, undef, undef, undef, undef, undef, undef, undef, undef, undef, undef, undef, undef, undef, undef, undef, undef, undef, undef, undef, undef], defers := [] })
    (fun x a' s W W' row h _ _ => h)
    ?assign ?body ?done ?stop
  case assign =>
    intro lp pre x W K hI hK
    have HK := hid hK
    clear hK
    gi_wp2
    exact HK.out _ _ (KeepsFrom.refl _ _) (KpC.refl _ _) hI rfl
  case body =>
    rintro lp pre x a' W hlp ⟨r, hr⟩ ⟨hc, hkw⟩ rfl hpl
    rw [HSL.out] at hpl
    have hpx := HX.out
    have HHW := hid hkw
    have b1 := (hkw.block _ (by have := (Array.getElem?_eq_some_iff.1 HB1.out).1; have := HK3.out.size; omega) (by have := HZ1.out; omega)).trans (box_in HB1.out HK3.out)
    have b3 := (hkw.block _ (by have := (Array.getElem?_eq_some_iff.1 HB3.out).1; have := HK3.out.size; omega) (by have := HZ1.out; omega)).trans (box_in HB3.out HK3.out)
    have q1 : W.cell? ⟨w.heap.size + 1, 0, none⟩ = some (.slice ax nx capx) := by rw [cell_of_row _ _ _ _ _ _ b1]; rfl
    have q3 : W.cell? ⟨w.heap.size + 1 + 1 + 1, 0, none⟩ = some (.bool false) := by rw [cell_of_row _ _ _ _ _ _ b3]; rfl
    have q9 : W.cell? ⟨w1.heap.size, 0, none⟩ = some (.int .i64 (pre.length : Int)) := by rw [cell_of_row _ _ _ _ _ _ hc]; rfl
    have f3 := froz (i := 0) b3
    have f9 := froz (i := 0) hc
    obtain ⟨ga, oa, rfl, hca⟩ := HAX.out.resolve_left (by rintro rfl; simp at hpl)
    have y1 := hca pre.length hpl
    have y2 := hkw.cellS (HK3.out.cellS (HK1.out.cellS y1 (fun e => e)) (fun e => e)) (by have h1 : ga < w.heap.size := World.block_lt_of_cell? _ _ y1; have h2 := HK1.out.size; show ¬ ga = w1.heap.size; omega)
    have HFA := hid (fun hp => flat_at HFL.out (pre := pre) (x := x) hp)
    obtain ⟨z, hz⟩ : ∃ z, z = zs[pre.length]?.getD 0 := ⟨_, rfl⟩
    rw [← hz] at y2 HFA
    obtain ⟨i, t⟩ := x
    obtain ⟨pl, hpl2⟩ : ∃ pl, pl = pre.length := ⟨_, rfl⟩
    have HPL := hid hpl2
    have HHC := hid hc
    rw [← hpl2] at hpl q9 y2
    have hpn : ¬ (nx : Int) ≤ (pl : Int) := by omega
    have hpn2 : (pl : Int) < (nx : Int) := by omega
    clear y1 hca hz b1 b3 hkw hc hpl2
    dsimp only
    by_cases hzt : z = t
    · subst hzt
      gi_wp2
      refine ⟨(KeepsOthers.setCell W _ _).from _, KpC.of_keeps (Keeps.set_at W _ 0 _), ?_, HHW.out.setCell (.inl rfl) _⟩
      rw [heap_setCell_row HHC.out]
      simp [HPL.out]
    · have HZT := hid hzt
      have hzt2 : (z == t) = false := by simpa using hzt
      gi_wp2
      exact ⟨(KeepsOthers.setCell W _ _).from _, fun hp => absurd (HFA.out hp) HZT.out⟩
  case done =>
    rintro D ys W hD rfl ⟨hc, hkw⟩ hdf
    have HDW : Hid (w.heap.size ≤ D) := hid (by have := HZ1.out; omega)
    have HD := hid hdf
    have hlt (j : Nat) (hj : j < w.heap.size + 1 + 1 + 1 + 1) : ¬ j = w1.heap.size := by have := HZ1.out; omega
    have hkb : ∀ {j : Nat} {o : Obj}, w1.heap[j]? = some o → j < w.heap.size + 1 + 1 + 1 + 1 → W.heap[j]? = some o := fun h hj => (hkw.block _ (by have := (Array.getElem?_eq_some_iff.1 h).1; have := HK3.out.size; omega) (hlt _ hj)).trans ((HK3.out.block _ (Array.getElem?_eq_some_iff.1 h).1 (fun e => e)).trans h)
    have HBS : Hid (BSt w #[.int .u32 h, .slice a n cap, .int .i64 k, .int .i64 tr, .int .i64 th, .int .i64 st] #[.slice ab nb capb, .int .i64 at_, .int .u8 other] W) := hid ⟨(HK1.out.trans HK3.out).trans' hkw (fun _ h => h) (fun i hi e => by have := HZ1.out; omega), hkb HB0.out (by omega), hkb HB2.out (by omega), hkb HB3.out (by omega)⟩
    have b1 := hkb HB1.out (by omega)
    have q1 : W.cell? ⟨w.heap.size + 1, 0, none⟩ = some (.slice ax nx capx) := by rw [cell_of_row _ _ _ _ _ _ b1]; rfl
    have q9 : W.cell? ⟨w1.heap.size, 0, none⟩ = some (.int .i64 (nx : Int)) := by rw [cell_of_row _ _ _ _ _ _ hc, HSL.out, HX.out]; rfl
    have BS := HBS
    clear hc hkw hdf hkb b1 hlt
    obtain ⟨Wt, hWt⟩ : ∃ Wt, Wt = W := ⟨_, rfl⟩
    subst hWt
    have bt := BS.out
    have r0 : Wt.cell? ⟨w.heap.size + 1 + 1, 0, none⟩ = some (.slice ab nb capb) := by rw [cell_of_row _ _ _ _ _ _ bt.2.2.1]; rfl
    clear bt
    gi_wp2_with fail
    refine ⟨trivial, ?_⟩
    refine (callsIn_wide.2 (sealed_any ab capb nb bs Wt HL (by omega) HNB.out (hid (HBL.out.keep BS.out.1 (fun _ _ e => e))) HBY)).mono ?_
    rintro e w5 ⟨v, rfl, hrow, hk5⟩
    obtain ⟨g, c, rfl, HN1, h4, hcm⟩ : ∃ g c, v = .slice (some ⟨g, 0, none⟩) (nb + 4) c ∧ Hid (NumsAt .u8 w5 (some ⟨g, 0, none⟩) (bs ++ le4 (sumL bs))) ∧ nb + 4 ≤ c ∧ c ≤ 9223372036854775807 := by
      have hq := hrow.2
      rcases hq with hq | ⟨g', cap', cur, hv, -, hb, h1, h2, -⟩
      · exact absurd hq.2 (by omega)
      · subst hv
        exact ⟨g', cap', rfl, hid (ownsRow_nums hrow).1, h1, h2⟩
    have HLX : Hid ((bs ++ le4 (sumL bs)).length = nb + 4) := hid (by simp [le4, HL.out])
    have HBB := hid (sumL_bytes HBY.out)
    have HK5 := hid hk5
    clear hrow hk5 r0
    generalize bs ++ le4 (sumL bs) = x at *
    gi_wp2_with fail
    refine ⟨trivial, ?_⟩
    refine (callsIn_wide.2 (decode_any (some ⟨g, 0, none⟩) c (nb + 4) x w5 HLX (by omega) h4 hcm HN1 HBB)).mono ?_
    rintro e w6 ⟨hk6, a6, c6, rfl, ht6, hb6⟩
    have HSH := hid (decM_short x HBB.out)
    have HK6 := hid hk6
    have HT6 := hid ht6
    clear hk6 ht6 hb6
    by_cases hno : (decM x).2 = 0
    · obtain ⟨hh, l6, k6, tr6, th6, st6, e1, e2, e3, e4, e5⟩ := decM_inv HBB.out hno
      rw [e1] at HT6 HSH ⊢
      dsimp only at HT6 HSH ⊢
      have HE3 := hid e3
      have HE2 := hid e2
      have HL6 : Hid (l6.length ≤ 3000) := hid (by
        have q1 := encTurns_len2 l6
        have q2 := HLX.out
        rw [e3] at q2
        simp [encM, encBody] at q2
        omega)
      clear hno e1 e2 e3 HSH
      have hbx := heap_alloc_new w6 (.cells #[.int .u32 hh, .slice a6 l6.length c6, .int .i64 k6, .int .i64 tr6, .int .i64 th6, .int .i64 st6] 29)
      obtain ⟨x0, x1, x2, x3, x4, x5⟩ := box6 hbx
      clear hbx
      gi_wp2_with fail
      refine ⟨trivial, ?_⟩
      refine (callsIn_wide.2 (num_any 0 _)).mono ?_
      rintro e w' ⟨rfl, rfl⟩
      gi_wp2_with fail
      refine ⟨trivial, ?_⟩
      refine (callsIn_wide.2 (encode_any0 hh k6 tr6 th6 st6 e4 e5 a6 c6 l6.length l6 _ (hid rfl) HL6.out (hid (HT6.out.keep ((Keeps.refl No w6).alloc _) (fun _ _ e => e))) (hid (fun hq p hp => by obtain ⟨g', off', he, hc'⟩ := HT6.out.resolve_left (by intro e; rw [e] at hq; simp at hq); rw [hp] at he; cases he; have := World.block_lt_of_cell? _ _ (hc' 0 hq).1; rw [World.size_alloc]; exact Nat.lt_succ_of_lt this)))).mono ?_
      rintro e w8 ⟨hk8, -, h8⟩
      obtain ⟨g8, c8, rfl, hg8, hrow8⟩ := h8 HE2.out
      rw [← HE3.out] at hrow8 ⊢
      have HN8 := hid (ownsRow_nums hrow8).1
      have HK8 := hid (HK6.out.trans (((Keeps.refl No w6).alloc _).trans hk8))
      clear hk8 h8 hg8 hrow8 x0 x1 x2 x3 x4 x5
      have hcv1 := run_convert_any (P := Try.prog) w8 31 5 Try.underlying31 Try.underlying5 (some ⟨g8, 0, none⟩) x.length c8 x rfl HN8.out 9 Try.underlying9
      have hcv2 := run_convert_any (P := Try.prog) w8 31 5 Try.underlying31 Try.underlying5 (some ⟨g, 0, none⟩) (nb + 4) c x HLX.out (HN1.out.keep HK8.out (fun _ _ e => e)) 9 Try.underlying9
      gi_wp2_with fail
      refine ⟨trivial, ?_⟩
      refine (callsIn_wide.2 (num_any 0 _)).mono ?_
      rintro e w' ⟨rfl, rfl⟩
      have HKT := hid (HK5.out.trans HK8.out)
      clear HK5 HK6 HK8 HN8 HT6
      obtain ⟨y0, y1, y2, y3, y4, y5⟩ := box6 (BS.out.keep HKT.out).2.1
      gi_wp2_with fail
      refine ⟨trivial, ?_⟩
      refine (callsIn_wide.2 (encode_any h k tr th st h0 h1 a cap n l _ HN (by omega) (hid (HA.out.keep (BS.out.keep HKT.out).1 (fun _ _ e => e))) (hid (fun p hp => Nat.lt_of_lt_of_le (HAB.out p hp) (BS.out.keep HKT.out).1.size)))).mono ?_
      rintro e wa ⟨hka, ha0, ha1⟩
      have HKA := hid (HKT.out.trans hka)
      have HSZ := hid (HKT.out.size)
      clear hka HKT y0 y1 y2 y3 y4 y5
      cases hok : okB l k tr th st with
      | false =>
        obtain rfl := ha0 hok
        clear ha0 ha1 hok
        gi_wp2_with fail
        refine ⟨trivial, ?_⟩
        refine (callsIn_wide.2 (num_any 2 _)).mono ?_
        rintro e w' ⟨rfl, rfl⟩
        have HKT := HKA
        gi_wp2_with fail
        refine ⟨trivial, ?_⟩
        refine (callsIn_wide.2 (HW.out _)).mono ?_
        rintro e wf ⟨rfl, hkf⟩
        have HKF := hid (HKT.out.trans hkf)
        clear hkf
        have bsf := BS.out.keep HKF.out
        have ff := froz (i := 0) bsf.2.2.2
        have cf : wf.cell? ⟨w.heap.size + 1 + 1 + 1, 0, none⟩ = some (.bool false) := by rw [cell_of_row _ _ _ _ _ _ bsf.2.2.2]; rfl
        gi_wp2_with fail
        have e1 := World.cell?_setCell_same wf _ (.bool true) cf
        have hdf : (wf.setCell ⟨w.heap.size + 1 + 1 + 1, 0, none⟩ (.bool true)).heap[D]? = some (.deferred (some [])) := def_kept (S := fun k => k = w.heap.size + 1 + 1 + 1) (Keeps.set_at wf _ 0 _) (by rintro k rfl; exact ⟨_, _, _, bsf.2.2.2⟩) ((HKF.out.block D (Array.getElem?_eq_some_iff.1 HD.out).1 (fun e => e)).trans HD.out) rfl
        have hkD : Keeps (fun k => k = D) (wf.setCell ⟨w.heap.size + 1 + 1 + 1, 0, none⟩ (.bool true)) ((wf.setCell ⟨w.heap.size + 1 + 1 + 1, 0, none⟩ (.bool true)).putObj D (.deferred none)) := (Keeps.refl _ _).grown (grownBy_putObj' _ D _) (fun k hk => by cases hk; exact .inl rfl)
        have hne : D ≠ w.heap.size + 1 + 1 + 1 := fun e => by have h1 := BS.out.2.2.2; rw [← e, HD.out] at h1; cases h1
        have e2 := hkD.cellS e1 (fun e => hne e.symm)
        refine ⟨fun e => (by cases e), .inl ⟨D, _, rfl, run_takeDeferred hdf, .bool true, by simp [results, Try.results11, go_sem, e2], rfl, ?_⟩⟩
        exact (bsf.1.setCell (p := ⟨w.heap.size + 1 + 1 + 1, 0, none⟩) (.inr (by show _ ≤ w.heap.size + 1 + 1 + 1; omega)) _).trans' hkD (fun _ h => h) (fun i hi e => by have := HDW.out; omega)
      | true =>
        obtain ⟨gE, cE, rfl, hgE, hrowE⟩ := ha1 hok
        have HOK := hid hok
        obtain ⟨q4, q5, curE, hcellE⟩ : (encM h l k tr th st).length ≤ cE ∧ cE ≤ 9223372036854775807 ∧ ∃ cur : Array Value, wa.heap[gE]? = some (.cells cur 5 (0, 0)) := by
          have hq := hrowE.2
          rcases hq with hq | ⟨g', cap', cur, hv, -, hb, h1, h2, -⟩
          · cases hq.1
          · cases hv
            exact ⟨h1, h2, cur, hb⟩
        have HNE := hid (ownsRow_nums hrowE).1
        have HCE := hid hcellE
        have HGE := hid (Nat.le_trans HSZ.out hgE)
        have HDE := hid (decM_enc (h := h) (by have := HN.out; omega) hok)
        obtain ⟨HBE, HLE⟩ : Hid (Bytes (encM h l k tr th st)) ∧ Hid ((encM h l k tr th st).length ≤ 50000) := enc_bytes h0 h1 (by have := HN.out; omega) hok
        clear ha0 ha1 hok hgE hrowE hcellE
        obtain ⟨E, hE⟩ : ∃ E, E = encM h l k tr th st := ⟨_, rfl⟩
        rw [← hE] at q4 HNE HDE HBE HLE ⊢
        clear hE
        gi_wp2_with fail
        refine ⟨trivial, ?_⟩
        refine (callsIn_wide.2 (num_any 0 _)).mono ?_
        rintro e w' ⟨rfl, rfl⟩
        gi_wp2_with fail
        refine ⟨trivial, ?_⟩
        refine (callsIn_wide.2 (decode_any (some ⟨gE, 0, none⟩) cE E.length E wa (hid rfl) HLE.out q4 q5 HNE HBE)).mono ?_
        rintro e wb ⟨hkb, ab2, cb2, rfl, htb, hbb⟩
        rw [HDE.out] at htb ⊢
        dsimp only at htb ⊢
        have HKB := hid hkb
        have HTB := hid htb
        clear hkb htb hbb
        have hby := heap_alloc_new wb (.cells #[.int .u32 h, .slice ab2 l.length cb2, .int .i64 k, .int .i64 tr, .int .i64 th, .int .i64 st] 29)
        obtain ⟨x0, x1, x2, x3, x4, x5⟩ := box6 hby
        have HKT := hid (HKA.out.trans (HKB.out.alloc (.cells #[.int .u32 h, .slice ab2 l.length cb2, .int .i64 k, .int .i64 tr, .int .i64 th, .int .i64 st] 29)))
        obtain ⟨y0, y1, y2, y3, y4, y5⟩ := box6 (BS.out.keep HKT.out).2.1
        clear hby
        gi_wp2_with fail
        refine ⟨trivial, ?_⟩
        refine (callsIn_wide.2 (num_any 0 _)).mono ?_
        rintro e w' ⟨rfl, rfl⟩
        gi_wp2_with fail
        refine ⟨trivial, ?_⟩
        refine (callsIn_wide.2 (logsame_any h k tr th st h k tr th st ab2 a cb2 cap l.length n l l _ (hid rfl) HN (by have := HN.out; omega) (hid (HTB.out.keep ((Keeps.refl No wb).alloc _) (fun _ _ e => e))) (hid (HA.out.keep (BS.out.keep HKT.out).1 (fun _ _ e => e))))).mono ?_
        rintro e wc ⟨rfl, hkc⟩
        rw [sameB_refl]
        have HKC := hid (HKT.out.trans hkc)
        have HKS := hid hkc
        clear hkc HKT x0 x1 x2 x3 x4 x5 y0 y1 y2 y3 y4 y5
        gi_wp2_with fail
        have HKT := HKC
        have HKE := hid ((HKB.out.alloc (.cells #[.int .u32 h, .slice ab2 l.length cb2, .int .i64 k, .int .i64 tr, .int .i64 th, .int .i64 st] 29)).trans HKS.out)
        have HR := hid (fun W (hk : Keeps No wc W) => rot_cells (BS.out.keep (HKT.out.trans hk)).2.2.1)
        by_cases hat : at_ < 0
        · refine Sched.region (fun _ => trivial) rfl (by kernel_rfl) [] [.pointer (some ⟨w.heap.size + 1 + 1, 1, none⟩), .int .i64 at_, .bool true, .bool true, undef, undef, undef, undef, undef, .bool true, .bool true, undef, undef, undef, undef, undef, undef, undef, undef, .bool true] (fun _ W => Keeps No wc W) (by kernel_rfl) (by kernel_rfl) rfl (Keeps.refl No wc).drew ?_ ?_
          · simp only [List.zip_cons_cons, List.zip_nil_left]
            iterate 20
              refine Sched.Steps.cons ?_ ?_
              rotate_left
            exact Sched.Steps.nil
            all_goals simp only [List.take_succ_cons, List.take_zero, Sched.putL, Act.put, List.setIfInBounds_toArray, List.set_cons_zero, List.set_cons_succ]
            all_goals intro p hp W hw
            all_goals
              obtain ⟨z0, z1, z2⟩ := HR.out W hw
              clear hp
              simp [Sched.Ok, Sched.OkE, go_sem, *]
          rintro wd hkd
          simp only [List.zip_cons_cons, List.zip_nil_left, Sched.putL, Act.put, List.setIfInBounds_toArray, List.set_cons_zero, List.set_cons_succ]
          have HKD := hid (HKT.out.trans hkd)
          clear HKT
          have HKT := HKD
          skip
          clear hkd
          gi_wp2_with fail
          refine ⟨trivial, ?_⟩
          refine (callsIn_wide.2 (HW.out _)).mono ?_
          rintro e wf ⟨rfl, hkf⟩
          have HKF := hid (HKT.out.trans hkf)
          clear hkf
          have bsf := BS.out.keep HKF.out
          have ff := froz (i := 0) bsf.2.2.2
          have cf : wf.cell? ⟨w.heap.size + 1 + 1 + 1, 0, none⟩ = some (.bool false) := by rw [cell_of_row _ _ _ _ _ _ bsf.2.2.2]; rfl
          gi_wp2_with fail
          have e1 := World.cell?_setCell_same wf _ (.bool true) cf
          have hdf : (wf.setCell ⟨w.heap.size + 1 + 1 + 1, 0, none⟩ (.bool true)).heap[D]? = some (.deferred (some [])) := def_kept (S := fun k => k = w.heap.size + 1 + 1 + 1) (Keeps.set_at wf _ 0 _) (by rintro k rfl; exact ⟨_, _, _, bsf.2.2.2⟩) ((HKF.out.block D (Array.getElem?_eq_some_iff.1 HD.out).1 (fun e => e)).trans HD.out) rfl
          have hkD : Keeps (fun k => k = D) (wf.setCell ⟨w.heap.size + 1 + 1 + 1, 0, none⟩ (.bool true)) ((wf.setCell ⟨w.heap.size + 1 + 1 + 1, 0, none⟩ (.bool true)).putObj D (.deferred none)) := (Keeps.refl _ _).grown (grownBy_putObj' _ D _) (fun k hk => by cases hk; exact .inl rfl)
          have hne : D ≠ w.heap.size + 1 + 1 + 1 := fun e => by have h1 := BS.out.2.2.2; rw [← e, HD.out] at h1; cases h1
          have e2 := hkD.cellS e1 (fun e => hne e.symm)
          refine ⟨fun e => (by cases e), .inl ⟨D, _, rfl, run_takeDeferred hdf, .bool true, by simp [results, Try.results11, go_sem, e2], rfl, ?_⟩⟩
          exact (bsf.1.setCell (p := ⟨w.heap.size + 1 + 1 + 1, 0, none⟩) (.inr (by show _ ≤ w.heap.size + 1 + 1 + 1; omega)) _).trans' hkD (fun _ h => h) (fun i hi e => by have := HDW.out; omega)
        · by_cases hge : (E.length : Int) ≤ at_
          · refine Sched.region (fun _ => trivial) rfl (by kernel_rfl) [] [.pointer (some ⟨w.heap.size + 1 + 1, 1, none⟩), .int .i64 at_, .bool false, .bool false, .pointer (some ⟨w.heap.size + 1 + 1, 1, none⟩), .int .i64 at_, .slice (some ⟨gE, 0, none⟩) E.length cE, .int .i64 (E.length : Int), .bool true, .bool true, .bool true, undef, undef, undef, undef, undef, undef, undef, undef, .bool true] (fun _ W => Keeps No wc W) (by kernel_rfl) (by kernel_rfl) rfl (Keeps.refl No wc).drew ?_ ?_
            · simp only [List.zip_cons_cons, List.zip_nil_left]
              iterate 20
                refine Sched.Steps.cons ?_ ?_
                rotate_left
              exact Sched.Steps.nil
              all_goals simp only [List.take_succ_cons, List.take_zero, Sched.putL, Act.put, List.setIfInBounds_toArray, List.set_cons_zero, List.set_cons_succ]
              all_goals intro p hp W hw
              all_goals
                obtain ⟨z0, z1, z2⟩ := HR.out W hw
                clear hp
                simp [Sched.Ok, Sched.OkE, go_sem, *]
            rintro wd hkd
            simp only [List.zip_cons_cons, List.zip_nil_left, Sched.putL, Act.put, List.setIfInBounds_toArray, List.set_cons_zero, List.set_cons_succ]
            have HKD := hid (HKT.out.trans hkd)
            clear HKT
            have HKT := HKD
            skip
            clear hkd
            gi_wp2_with fail
            refine ⟨trivial, ?_⟩
            refine (callsIn_wide.2 (HW.out _)).mono ?_
            rintro e wf ⟨rfl, hkf⟩
            have HKF := hid (HKT.out.trans hkf)
            clear hkf
            have bsf := BS.out.keep HKF.out
            have ff := froz (i := 0) bsf.2.2.2
            have cf : wf.cell? ⟨w.heap.size + 1 + 1 + 1, 0, none⟩ = some (.bool false) := by rw [cell_of_row _ _ _ _ _ _ bsf.2.2.2]; rfl
            gi_wp2_with fail
            have e1 := World.cell?_setCell_same wf _ (.bool true) cf
            have hdf : (wf.setCell ⟨w.heap.size + 1 + 1 + 1, 0, none⟩ (.bool true)).heap[D]? = some (.deferred (some [])) := def_kept (S := fun k => k = w.heap.size + 1 + 1 + 1) (Keeps.set_at wf _ 0 _) (by rintro k rfl; exact ⟨_, _, _, bsf.2.2.2⟩) ((HKF.out.block D (Array.getElem?_eq_some_iff.1 HD.out).1 (fun e => e)).trans HD.out) rfl
            have hkD : Keeps (fun k => k = D) (wf.setCell ⟨w.heap.size + 1 + 1 + 1, 0, none⟩ (.bool true)) ((wf.setCell ⟨w.heap.size + 1 + 1 + 1, 0, none⟩ (.bool true)).putObj D (.deferred none)) := (Keeps.refl _ _).grown (grownBy_putObj' _ D _) (fun k hk => by cases hk; exact .inl rfl)
            have hne : D ≠ w.heap.size + 1 + 1 + 1 := fun e => by have h1 := BS.out.2.2.2; rw [← e, HD.out] at h1; cases h1
            have e2 := hkD.cellS e1 (fun e => hne e.symm)
            refine ⟨fun e => (by cases e), .inl ⟨D, _, rfl, run_takeDeferred hdf, .bool true, by simp [results, Try.results11, go_sem, e2], rfl, ?_⟩⟩
            exact (bsf.1.setCell (p := ⟨w.heap.size + 1 + 1 + 1, 0, none⟩) (.inr (by show _ ≤ w.heap.size + 1 + 1 + 1; omega)) _).trans' hkD (fun _ h => h) (fun i hi e => by have := HDW.out; omega)
          · obtain ⟨j, rfl⟩ : ∃ j : Nat, at_ = (j : Int) := ⟨at_.toNat, by omega⟩
            have hjE : j < E.length := by omega
            have HJE := hid hjE
            obtain ⟨z, hz⟩ : ∃ z, z = E[j]?.getD 0 := ⟨_, rfl⟩
            have HZ := hid hz
            have HCJ := hid (fun W (hk : Keeps No wc W) => num_cell (HNE.out.keep (HKE.out.trans hk) (fun _ _ e => e)) j hjE)
            rw [← hz] at HCJ
            have hge2 : ¬ (E.length : Int) ≤ (j : Int) := hge
            have hjl : (j : Int) < (E.length : Int) := by omega
            clear hz hge
            by_cases hzo : z = other
            · refine Sched.region (fun _ => trivial) rfl (by kernel_rfl) [] [.pointer (some ⟨w.heap.size + 1 + 1, 1, none⟩), .int .i64 (j : Int), .bool false, .bool false, .pointer (some ⟨w.heap.size + 1 + 1, 1, none⟩), .int .i64 (j : Int), .slice (some ⟨gE, 0, none⟩) E.length cE, .int .i64 (E.length : Int), .bool false, .bool false, .bool false, .slice (some ⟨gE, 0, none⟩) E.length cE, .pointer (some ⟨w.heap.size + 1 + 1, 1, none⟩), .int .i64 (j : Int), .pointer (some ⟨gE, j, none⟩), .int .u8 z, .pointer (some ⟨w.heap.size + 1 + 1, 2, none⟩), .int .u8 other, .bool true, .bool true] (fun _ W => Keeps No wc W) (by kernel_rfl) (by kernel_rfl) rfl (Keeps.refl No wc).drew ?_ ?_
              · simp only [List.zip_cons_cons, List.zip_nil_left]
                iterate 20
                  refine Sched.Steps.cons ?_ ?_
                  rotate_left
                exact Sched.Steps.nil
                all_goals simp only [List.take_succ_cons, List.take_zero, Sched.putL, Act.put, List.setIfInBounds_toArray, List.set_cons_zero, List.set_cons_succ]
                all_goals intro p hp W hw
                all_goals
                  obtain ⟨z0, z1, z2⟩ := HR.out W hw
                  have cj := HCJ.out W hw
                  clear hp
                  simp [Sched.Ok, Sched.OkE, go_sem, *]
              rintro wd hkd
              simp only [List.zip_cons_cons, List.zip_nil_left, Sched.putL, Act.put, List.setIfInBounds_toArray, List.set_cons_zero, List.set_cons_succ]
              have HKD := hid (HKT.out.trans hkd)
              clear HKT
              have HKT := HKD
              skip
              clear hkd
              gi_wp2_with fail
              refine ⟨trivial, ?_⟩
              refine (callsIn_wide.2 (HW.out _)).mono ?_
              rintro e wf ⟨rfl, hkf⟩
              have HKF := hid (HKT.out.trans hkf)
              clear hkf
              have bsf := BS.out.keep HKF.out
              have ff := froz (i := 0) bsf.2.2.2
              have cf : wf.cell? ⟨w.heap.size + 1 + 1 + 1, 0, none⟩ = some (.bool false) := by rw [cell_of_row _ _ _ _ _ _ bsf.2.2.2]; rfl
              gi_wp2_with fail
              have e1 := World.cell?_setCell_same wf _ (.bool true) cf
              have hdf : (wf.setCell ⟨w.heap.size + 1 + 1 + 1, 0, none⟩ (.bool true)).heap[D]? = some (.deferred (some [])) := def_kept (S := fun k => k = w.heap.size + 1 + 1 + 1) (Keeps.set_at wf _ 0 _) (by rintro k rfl; exact ⟨_, _, _, bsf.2.2.2⟩) ((HKF.out.block D (Array.getElem?_eq_some_iff.1 HD.out).1 (fun e => e)).trans HD.out) rfl
              have hkD : Keeps (fun k => k = D) (wf.setCell ⟨w.heap.size + 1 + 1 + 1, 0, none⟩ (.bool true)) ((wf.setCell ⟨w.heap.size + 1 + 1 + 1, 0, none⟩ (.bool true)).putObj D (.deferred none)) := (Keeps.refl _ _).grown (grownBy_putObj' _ D _) (fun k hk => by cases hk; exact .inl rfl)
              have hne : D ≠ w.heap.size + 1 + 1 + 1 := fun e => by have h1 := BS.out.2.2.2; rw [← e, HD.out] at h1; cases h1
              have e2 := hkD.cellS e1 (fun e => hne e.symm)
              refine ⟨fun e => (by cases e), .inl ⟨D, _, rfl, run_takeDeferred hdf, .bool true, by simp [results, Try.results11, go_sem, e2], rfl, ?_⟩⟩
              exact (bsf.1.setCell (p := ⟨w.heap.size + 1 + 1 + 1, 0, none⟩) (.inr (by show _ ≤ w.heap.size + 1 + 1 + 1; omega)) _).trans' hkD (fun _ h => h) (fun i hi e => by have := HDW.out; omega)
            · have hzo2 : (z == other) = false := by simpa using hzo
              refine Sched.region (fun _ => trivial) rfl (by kernel_rfl) [] [.pointer (some ⟨w.heap.size + 1 + 1, 1, none⟩), .int .i64 (j : Int), .bool false, .bool false, .pointer (some ⟨w.heap.size + 1 + 1, 1, none⟩), .int .i64 (j : Int), .slice (some ⟨gE, 0, none⟩) E.length cE, .int .i64 (E.length : Int), .bool false, .bool false, .bool false, .slice (some ⟨gE, 0, none⟩) E.length cE, .pointer (some ⟨w.heap.size + 1 + 1, 1, none⟩), .int .i64 (j : Int), .pointer (some ⟨gE, j, none⟩), .int .u8 z, .pointer (some ⟨w.heap.size + 1 + 1, 2, none⟩), .int .u8 other, .bool false, .bool false] (fun _ W => Keeps No wc W) (by kernel_rfl) (by kernel_rfl) rfl (Keeps.refl No wc).drew ?_ ?_
              · simp only [List.zip_cons_cons, List.zip_nil_left]
                iterate 20
                  refine Sched.Steps.cons ?_ ?_
                  rotate_left
                exact Sched.Steps.nil
                all_goals simp only [List.take_succ_cons, List.take_zero, Sched.putL, Act.put, List.setIfInBounds_toArray, List.set_cons_zero, List.set_cons_succ]
                all_goals intro p hp W hw
                all_goals
                  obtain ⟨z0, z1, z2⟩ := HR.out W hw
                  have cj := HCJ.out W hw
                  clear hp
                  simp [Sched.Ok, Sched.OkE, go_sem, *]
              rintro wd hkd
              simp only [List.zip_cons_cons, List.zip_nil_left, Sched.putL, Act.put, List.setIfInBounds_toArray, List.set_cons_zero, List.set_cons_succ]
              have HKD := hid (HKT.out.trans hkd)
              clear HKT
              have HKT := HKD
              obtain ⟨z0, z1, z2⟩ := rot_cells (BS.out.keep HKT.out).2.2.1
              have cj := HCJ.out wd hkd
              have hcE : wd.heap[gE]? = some (.cells curE 5 (0, 0)) := box_in HCE.out (HKE.out.trans hkd)
              have fE := froz (i := j) hcE
              have HAE := hid (set_nums (HNE.out.keep (HKE.out.trans hkd) (fun _ _ e => e)) (by omega) j HJE.out other)
              clear hcE
              clear hkd
              gi_wp2_with fail
              refine ⟨trivial, ?_⟩
              refine (callsIn_wide.2 (decode_any (some ⟨gE, 0, none⟩) cE E.length (E.set j other) _ (hid (by simp)) HLE.out q4 q5 HAE (hid (bytes_set HBE.out j ho)))).mono ?_
              rintro e we ⟨hke, ae, ce, rfl, hte, hbe⟩
              rw [decM_rot HBE.out (by rw [HDE.out]) j HJE.out other ho (by rw [← HZ.out]; exact hzo)]
              dsimp only [zeroTk]
              have HKE2 := hid ((HKT.out.setCell (p := ⟨gE, j, none⟩) (.inr HGE.out) (.int .u8 other)).trans hke)
              clear hke hte hbe HKT
              gi_wp2_with fail
              refine ⟨trivial, ?_⟩
              refine (callsIn_wide.2 (num_any 210 _)).mono ?_
              rintro e w' ⟨rfl, rfl⟩
              gi_wp2_with fail
              refine ⟨trivial, ?_⟩
              have HKT := hid (HKE2.out.alloc (.cells #[.int .u32 0, .slice ae 0 ce, .int .i64 0, .int .i64 0, .int .i64 0, .int .i64 0] 29))
              refine (callsIn_wide.2 (HW.out _)).mono ?_
              rintro e wf ⟨rfl, hkf⟩
              have HKF := hid (HKT.out.trans hkf)
              clear hkf
              have bsf := BS.out.keep HKF.out
              have ff := froz (i := 0) bsf.2.2.2
              have cf : wf.cell? ⟨w.heap.size + 1 + 1 + 1, 0, none⟩ = some (.bool false) := by rw [cell_of_row _ _ _ _ _ _ bsf.2.2.2]; rfl
              gi_wp2_with fail
              have e1 := World.cell?_setCell_same wf _ (.bool true) cf
              have hdf : (wf.setCell ⟨w.heap.size + 1 + 1 + 1, 0, none⟩ (.bool true)).heap[D]? = some (.deferred (some [])) := def_kept (S := fun k => k = w.heap.size + 1 + 1 + 1) (Keeps.set_at wf _ 0 _) (by rintro k rfl; exact ⟨_, _, _, bsf.2.2.2⟩) ((HKF.out.block D (Array.getElem?_eq_some_iff.1 HD.out).1 (fun e => e)).trans HD.out) rfl
              have hkD : Keeps (fun k => k = D) (wf.setCell ⟨w.heap.size + 1 + 1 + 1, 0, none⟩ (.bool true)) ((wf.setCell ⟨w.heap.size + 1 + 1 + 1, 0, none⟩ (.bool true)).putObj D (.deferred none)) := (Keeps.refl _ _).grown (grownBy_putObj' _ D _) (fun k hk => by cases hk; exact .inl rfl)
              have hne : D ≠ w.heap.size + 1 + 1 + 1 := fun e => by have h1 := BS.out.2.2.2; rw [← e, HD.out] at h1; cases h1
              have e2 := hkD.cellS e1 (fun e => hne e.symm)
              refine ⟨fun e => (by cases e), .inl ⟨D, _, rfl, run_takeDeferred hdf, .bool true, by simp [results, Try.results11, go_sem, e2], rfl, ?_⟩⟩
              exact (bsf.1.setCell (p := ⟨w.heap.size + 1 + 1 + 1, 0, none⟩) (.inr (by show _ ≤ w.heap.size + 1 + 1 + 1; omega)) _).trans' hkD (fun _ h => h) (fun i hi e => by have := HDW.out; omega)
    · generalize decM x = y at *
      obtain ⟨⟨hh, l6, k6, tr6, th6, st6⟩, no⟩ := y
      dsimp only at HT6 HSH hno ⊢
      have hno2 : (no == 0) = false := by simpa using hno
      gi_wp2_with fail
      refine ⟨trivial, ?_⟩
      refine (callsIn_wide.2 (num_any no _)).mono ?_
      rintro e w' ⟨rfl, rfl⟩
      have HKT := hid (HK5.out.trans (HK6.out.alloc (.cells #[.int .u32 hh, .slice a6 l6.length c6, .int .i64 k6, .int .i64 tr6, .int .i64 th6, .int .i64 st6] 29)))
      clear HK5 HK6 HT6
      obtain ⟨y0, y1, y2, y3, y4, y5⟩ := box6 (BS.out.keep HKT.out).2.1
      gi_wp2_with fail
      refine ⟨trivial, ?_⟩
      refine (callsIn_wide.2 (encode_any h k tr th st h0 h1 a cap n l _ HN (by omega) (hid (HA.out.keep (BS.out.keep HKT.out).1 (fun _ _ e => e))) (hid (fun p hp => Nat.lt_of_lt_of_le (HAB.out p hp) (BS.out.keep HKT.out).1.size)))).mono ?_
      rintro e wa ⟨hka, ha0, ha1⟩
      have HKA := hid (HKT.out.trans hka)
      have HSZ := hid (HKT.out.size)
      clear hka HKT y0 y1 y2 y3 y4 y5
      cases hok : okB l k tr th st with
      | false =>
        obtain rfl := ha0 hok
        clear ha0 ha1 hok
        gi_wp2_with fail
        refine ⟨trivial, ?_⟩
        refine (callsIn_wide.2 (num_any 2 _)).mono ?_
        rintro e w' ⟨rfl, rfl⟩
        have HKT := HKA
        gi_wp2_with fail
        refine ⟨trivial, ?_⟩
        refine (callsIn_wide.2 (HW.out _)).mono ?_
        rintro e wf ⟨rfl, hkf⟩
        have HKF := hid (HKT.out.trans hkf)
        clear hkf
        have bsf := BS.out.keep HKF.out
        have ff := froz (i := 0) bsf.2.2.2
        have cf : wf.cell? ⟨w.heap.size + 1 + 1 + 1, 0, none⟩ = some (.bool false) := by rw [cell_of_row _ _ _ _ _ _ bsf.2.2.2]; rfl
        gi_wp2_with fail
        have e1 := World.cell?_setCell_same wf _ (.bool true) cf
        have hdf : (wf.setCell ⟨w.heap.size + 1 + 1 + 1, 0, none⟩ (.bool true)).heap[D]? = some (.deferred (some [])) := def_kept (S := fun k => k = w.heap.size + 1 + 1 + 1) (Keeps.set_at wf _ 0 _) (by rintro k rfl; exact ⟨_, _, _, bsf.2.2.2⟩) ((HKF.out.block D (Array.getElem?_eq_some_iff.1 HD.out).1 (fun e => e)).trans HD.out) rfl
        have hkD : Keeps (fun k => k = D) (wf.setCell ⟨w.heap.size + 1 + 1 + 1, 0, none⟩ (.bool true)) ((wf.setCell ⟨w.heap.size + 1 + 1 + 1, 0, none⟩ (.bool true)).putObj D (.deferred none)) := (Keeps.refl _ _).grown (grownBy_putObj' _ D _) (fun k hk => by cases hk; exact .inl rfl)
        have hne : D ≠ w.heap.size + 1 + 1 + 1 := fun e => by have h1 := BS.out.2.2.2; rw [← e, HD.out] at h1; cases h1
        have e2 := hkD.cellS e1 (fun e => hne e.symm)
        refine ⟨fun e => (by cases e), .inl ⟨D, _, rfl, run_takeDeferred hdf, .bool true, by simp [results, Try.results11, go_sem, e2], rfl, ?_⟩⟩
        exact (bsf.1.setCell (p := ⟨w.heap.size + 1 + 1 + 1, 0, none⟩) (.inr (by show _ ≤ w.heap.size + 1 + 1 + 1; omega)) _).trans' hkD (fun _ h => h) (fun i hi e => by have := HDW.out; omega)
      | true =>
        obtain ⟨gE, cE, rfl, hgE, hrowE⟩ := ha1 hok
        have HOK := hid hok
        obtain ⟨q4, q5, curE, hcellE⟩ : (encM h l k tr th st).length ≤ cE ∧ cE ≤ 9223372036854775807 ∧ ∃ cur : Array Value, wa.heap[gE]? = some (.cells cur 5 (0, 0)) := by
          have hq := hrowE.2
          rcases hq with hq | ⟨g', cap', cur, hv, -, hb, h1, h2, -⟩
          · cases hq.1
          · cases hv
            exact ⟨h1, h2, cur, hb⟩
        have HNE := hid (ownsRow_nums hrowE).1
        have HCE := hid hcellE
        have HGE := hid (Nat.le_trans HSZ.out hgE)
        have HDE := hid (decM_enc (h := h) (by have := HN.out; omega) hok)
        obtain ⟨HBE, HLE⟩ : Hid (Bytes (encM h l k tr th st)) ∧ Hid ((encM h l k tr th st).length ≤ 50000) := enc_bytes h0 h1 (by have := HN.out; omega) hok
        clear ha0 ha1 hok hgE hrowE hcellE
        obtain ⟨E, hE⟩ : ∃ E, E = encM h l k tr th st := ⟨_, rfl⟩
        rw [← hE] at q4 HNE HDE HBE HLE ⊢
        clear hE
        gi_wp2_with fail
        refine ⟨trivial, ?_⟩
        refine (callsIn_wide.2 (num_any 0 _)).mono ?_
        rintro e w' ⟨rfl, rfl⟩
        gi_wp2_with fail
        refine ⟨trivial, ?_⟩
        refine (callsIn_wide.2 (decode_any (some ⟨gE, 0, none⟩) cE E.length E wa (hid rfl) HLE.out q4 q5 HNE HBE)).mono ?_
        rintro e wb ⟨hkb, ab2, cb2, rfl, htb, hbb⟩
        rw [HDE.out] at htb ⊢
        dsimp only at htb ⊢
        have HKB := hid hkb
        have HTB := hid htb
        clear hkb htb hbb
        have hby := heap_alloc_new wb (.cells #[.int .u32 h, .slice ab2 l.length cb2, .int .i64 k, .int .i64 tr, .int .i64 th, .int .i64 st] 29)
        obtain ⟨x0, x1, x2, x3, x4, x5⟩ := box6 hby
        have HKT := hid (HKA.out.trans (HKB.out.alloc (.cells #[.int .u32 h, .slice ab2 l.length cb2, .int .i64 k, .int .i64 tr, .int .i64 th, .int .i64 st] 29)))
        obtain ⟨y0, y1, y2, y3, y4, y5⟩ := box6 (BS.out.keep HKT.out).2.1
        clear hby
        gi_wp2_with fail
        refine ⟨trivial, ?_⟩
        refine (callsIn_wide.2 (num_any 0 _)).mono ?_
        rintro e w' ⟨rfl, rfl⟩
        gi_wp2_with fail
        refine ⟨trivial, ?_⟩
        refine (callsIn_wide.2 (logsame_any h k tr th st h k tr th st ab2 a cb2 cap l.length n l l _ (hid rfl) HN (by have := HN.out; omega) (hid (HTB.out.keep ((Keeps.refl No wb).alloc _) (fun _ _ e => e))) (hid (HA.out.keep (BS.out.keep HKT.out).1 (fun _ _ e => e))))).mono ?_
        rintro e wc ⟨rfl, hkc⟩
        rw [sameB_refl]
        have HKC := hid (HKT.out.trans hkc)
        have HKS := hid hkc
        clear hkc HKT x0 x1 x2 x3 x4 x5 y0 y1 y2 y3 y4 y5
        gi_wp2_with fail
        have HKT := HKC
        have HKE := hid ((HKB.out.alloc (.cells #[.int .u32 h, .slice ab2 l.length cb2, .int .i64 k, .int .i64 tr, .int .i64 th, .int .i64 st] 29)).trans HKS.out)
        have HR := hid (fun W (hk : Keeps No wc W) => rot_cells (BS.out.keep (HKT.out.trans hk)).2.2.1)
        by_cases hat : at_ < 0
        · refine Sched.region (fun _ => trivial) rfl (by kernel_rfl) [] [.pointer (some ⟨w.heap.size + 1 + 1, 1, none⟩), .int .i64 at_, .bool true, .bool true, undef, undef, undef, undef, undef, .bool true, .bool true, undef, undef, undef, undef, undef, undef, undef, undef, .bool true] (fun _ W => Keeps No wc W) (by kernel_rfl) (by kernel_rfl) rfl (Keeps.refl No wc).drew ?_ ?_
          · simp only [List.zip_cons_cons, List.zip_nil_left]
            iterate 20
              refine Sched.Steps.cons ?_ ?_
              rotate_left
            exact Sched.Steps.nil
            all_goals simp only [List.take_succ_cons, List.take_zero, Sched.putL, Act.put, List.setIfInBounds_toArray, List.set_cons_zero, List.set_cons_succ]
            all_goals intro p hp W hw
            all_goals
              obtain ⟨z0, z1, z2⟩ := HR.out W hw
              clear hp
              simp [Sched.Ok, Sched.OkE, go_sem, *]
          rintro wd hkd
          simp only [List.zip_cons_cons, List.zip_nil_left, Sched.putL, Act.put, List.setIfInBounds_toArray, List.set_cons_zero, List.set_cons_succ]
          have HKD := hid (HKT.out.trans hkd)
          clear HKT
          have HKT := HKD
          skip
          clear hkd
          gi_wp2_with fail
          refine ⟨trivial, ?_⟩
          refine (callsIn_wide.2 (HW.out _)).mono ?_
          rintro e wf ⟨rfl, hkf⟩
          have HKF := hid (HKT.out.trans hkf)
          clear hkf
          have bsf := BS.out.keep HKF.out
          have ff := froz (i := 0) bsf.2.2.2
          have cf : wf.cell? ⟨w.heap.size + 1 + 1 + 1, 0, none⟩ = some (.bool false) := by rw [cell_of_row _ _ _ _ _ _ bsf.2.2.2]; rfl
          gi_wp2_with fail
          have e1 := World.cell?_setCell_same wf _ (.bool true) cf
          have hdf : (wf.setCell ⟨w.heap.size + 1 + 1 + 1, 0, none⟩ (.bool true)).heap[D]? = some (.deferred (some [])) := def_kept (S := fun k => k = w.heap.size + 1 + 1 + 1) (Keeps.set_at wf _ 0 _) (by rintro k rfl; exact ⟨_, _, _, bsf.2.2.2⟩) ((HKF.out.block D (Array.getElem?_eq_some_iff.1 HD.out).1 (fun e => e)).trans HD.out) rfl
          have hkD : Keeps (fun k => k = D) (wf.setCell ⟨w.heap.size + 1 + 1 + 1, 0, none⟩ (.bool true)) ((wf.setCell ⟨w.heap.size + 1 + 1 + 1, 0, none⟩ (.bool true)).putObj D (.deferred none)) := (Keeps.refl _ _).grown (grownBy_putObj' _ D _) (fun k hk => by cases hk; exact .inl rfl)
          have hne : D ≠ w.heap.size + 1 + 1 + 1 := fun e => by have h1 := BS.out.2.2.2; rw [← e, HD.out] at h1; cases h1
          have e2 := hkD.cellS e1 (fun e => hne e.symm)
          refine ⟨fun e => (by cases e), .inl ⟨D, _, rfl, run_takeDeferred hdf, .bool true, by simp [results, Try.results11, go_sem, e2], rfl, ?_⟩⟩
          exact (bsf.1.setCell (p := ⟨w.heap.size + 1 + 1 + 1, 0, none⟩) (.inr (by show _ ≤ w.heap.size + 1 + 1 + 1; omega)) _).trans' hkD (fun _ h => h) (fun i hi e => by have := HDW.out; omega)
        · by_cases hge : (E.length : Int) ≤ at_
          · refine Sched.region (fun _ => trivial) rfl (by kernel_rfl) [] [.pointer (some ⟨w.heap.size + 1 + 1, 1, none⟩), .int .i64 at_, .bool false, .bool false, .pointer (some ⟨w.heap.size + 1 + 1, 1, none⟩), .int .i64 at_, .slice (some ⟨gE, 0, none⟩) E.length cE, .int .i64 (E.length : Int), .bool true, .bool true, .bool true, undef, undef, undef, undef, undef, undef, undef, undef, .bool true] (fun _ W => Keeps No wc W) (by kernel_rfl) (by kernel_rfl) rfl (Keeps.refl No wc).drew ?_ ?_
            · simp only [List.zip_cons_cons, List.zip_nil_left]
              iterate 20
                refine Sched.Steps.cons ?_ ?_
                rotate_left
              exact Sched.Steps.nil
              all_goals simp only [List.take_succ_cons, List.take_zero, Sched.putL, Act.put, List.setIfInBounds_toArray, List.set_cons_zero, List.set_cons_succ]
              all_goals intro p hp W hw
              all_goals
                obtain ⟨z0, z1, z2⟩ := HR.out W hw
                clear hp
                simp [Sched.Ok, Sched.OkE, go_sem, *]
            rintro wd hkd
            simp only [List.zip_cons_cons, List.zip_nil_left, Sched.putL, Act.put, List.setIfInBounds_toArray, List.set_cons_zero, List.set_cons_succ]
            have HKD := hid (HKT.out.trans hkd)
            clear HKT
            have HKT := HKD
            skip
            clear hkd
            gi_wp2_with fail
            refine ⟨trivial, ?_⟩
            refine (callsIn_wide.2 (HW.out _)).mono ?_
            rintro e wf ⟨rfl, hkf⟩
            have HKF := hid (HKT.out.trans hkf)
            clear hkf
            have bsf := BS.out.keep HKF.out
            have ff := froz (i := 0) bsf.2.2.2
            have cf : wf.cell? ⟨w.heap.size + 1 + 1 + 1, 0, none⟩ = some (.bool false) := by rw [cell_of_row _ _ _ _ _ _ bsf.2.2.2]; rfl
            gi_wp2_with fail
            have e1 := World.cell?_setCell_same wf _ (.bool true) cf
            have hdf : (wf.setCell ⟨w.heap.size + 1 + 1 + 1, 0, none⟩ (.bool true)).heap[D]? = some (.deferred (some [])) := def_kept (S := fun k => k = w.heap.size + 1 + 1 + 1) (Keeps.set_at wf _ 0 _) (by rintro k rfl; exact ⟨_, _, _, bsf.2.2.2⟩) ((HKF.out.block D (Array.getElem?_eq_some_iff.1 HD.out).1 (fun e => e)).trans HD.out) rfl
            have hkD : Keeps (fun k => k = D) (wf.setCell ⟨w.heap.size + 1 + 1 + 1, 0, none⟩ (.bool true)) ((wf.setCell ⟨w.heap.size + 1 + 1 + 1, 0, none⟩ (.bool true)).putObj D (.deferred none)) := (Keeps.refl _ _).grown (grownBy_putObj' _ D _) (fun k hk => by cases hk; exact .inl rfl)
            have hne : D ≠ w.heap.size + 1 + 1 + 1 := fun e => by have h1 := BS.out.2.2.2; rw [← e, HD.out] at h1; cases h1
            have e2 := hkD.cellS e1 (fun e => hne e.symm)
            refine ⟨fun e => (by cases e), .inl ⟨D, _, rfl, run_takeDeferred hdf, .bool true, by simp [results, Try.results11, go_sem, e2], rfl, ?_⟩⟩
            exact (bsf.1.setCell (p := ⟨w.heap.size + 1 + 1 + 1, 0, none⟩) (.inr (by show _ ≤ w.heap.size + 1 + 1 + 1; omega)) _).trans' hkD (fun _ h => h) (fun i hi e => by have := HDW.out; omega)
          · obtain ⟨j, rfl⟩ : ∃ j : Nat, at_ = (j : Int) := ⟨at_.toNat, by omega⟩
            have hjE : j < E.length := by omega
            have HJE := hid hjE
            obtain ⟨z, hz⟩ : ∃ z, z = E[j]?.getD 0 := ⟨_, rfl⟩
            have HZ := hid hz
            have HCJ := hid (fun W (hk : Keeps No wc W) => num_cell (HNE.out.keep (HKE.out.trans hk) (fun _ _ e => e)) j hjE)
            rw [← hz] at HCJ
            have hge2 : ¬ (E.length : Int) ≤ (j : Int) := hge
            have hjl : (j : Int) < (E.length : Int) := by omega
            clear hz hge
            by_cases hzo : z = other
            · refine Sched.region (fun _ => trivial) rfl (by kernel_rfl) [] [.pointer (some ⟨w.heap.size + 1 + 1, 1, none⟩), .int .i64 (j : Int), .bool false, .bool false, .pointer (some ⟨w.heap.size + 1 + 1, 1, none⟩), .int .i64 (j : Int), .slice (some ⟨gE, 0, none⟩) E.length cE, .int .i64 (E.length : Int), .bool false, .bool false, .bool false, .slice (some ⟨gE, 0, none⟩) E.length cE, .pointer (some ⟨w.heap.size + 1 + 1, 1, none⟩), .int .i64 (j : Int), .pointer (some ⟨gE, j, none⟩), .int .u8 z, .pointer (some ⟨w.heap.size + 1 + 1, 2, none⟩), .int .u8 other, .bool true, .bool true] (fun _ W => Keeps No wc W) (by kernel_rfl) (by kernel_rfl) rfl (Keeps.refl No wc).drew ?_ ?_
              · simp only [List.zip_cons_cons, List.zip_nil_left]
                iterate 20
                  refine Sched.Steps.cons ?_ ?_
                  rotate_left
                exact Sched.Steps.nil
                all_goals simp only [List.take_succ_cons, List.take_zero, Sched.putL, Act.put, List.setIfInBounds_toArray, List.set_cons_zero, List.set_cons_succ]
                all_goals intro p hp W hw
                all_goals
                  obtain ⟨z0, z1, z2⟩ := HR.out W hw
                  have cj := HCJ.out W hw
                  clear hp
                  simp [Sched.Ok, Sched.OkE, go_sem, *]
              rintro wd hkd
              simp only [List.zip_cons_cons, List.zip_nil_left, Sched.putL, Act.put, List.setIfInBounds_toArray, List.set_cons_zero, List.set_cons_succ]
              have HKD := hid (HKT.out.trans hkd)
              clear HKT
              have HKT := HKD
              skip
              clear hkd
              gi_wp2_with fail
              refine ⟨trivial, ?_⟩
              refine (callsIn_wide.2 (HW.out _)).mono ?_
              rintro e wf ⟨rfl, hkf⟩
              have HKF := hid (HKT.out.trans hkf)
              clear hkf
              have bsf := BS.out.keep HKF.out
              have ff := froz (i := 0) bsf.2.2.2
              have cf : wf.cell? ⟨w.heap.size + 1 + 1 + 1, 0, none⟩ = some (.bool false) := by rw [cell_of_row _ _ _ _ _ _ bsf.2.2.2]; rfl
              gi_wp2_with fail
              have e1 := World.cell?_setCell_same wf _ (.bool true) cf
              have hdf : (wf.setCell ⟨w.heap.size + 1 + 1 + 1, 0, none⟩ (.bool true)).heap[D]? = some (.deferred (some [])) := def_kept (S := fun k => k = w.heap.size + 1 + 1 + 1) (Keeps.set_at wf _ 0 _) (by rintro k rfl; exact ⟨_, _, _, bsf.2.2.2⟩) ((HKF.out.block D (Array.getElem?_eq_some_iff.1 HD.out).1 (fun e => e)).trans HD.out) rfl
              have hkD : Keeps (fun k => k = D) (wf.setCell ⟨w.heap.size + 1 + 1 + 1, 0, none⟩ (.bool true)) ((wf.setCell ⟨w.heap.size + 1 + 1 + 1, 0, none⟩ (.bool true)).putObj D (.deferred none)) := (Keeps.refl _ _).grown (grownBy_putObj' _ D _) (fun k hk => by cases hk; exact .inl rfl)
              have hne : D ≠ w.heap.size + 1 + 1 + 1 := fun e => by have h1 := BS.out.2.2.2; rw [← e, HD.out] at h1; cases h1
              have e2 := hkD.cellS e1 (fun e => hne e.symm)
              refine ⟨fun e => (by cases e), .inl ⟨D, _, rfl, run_takeDeferred hdf, .bool true, by simp [results, Try.results11, go_sem, e2], rfl, ?_⟩⟩
              exact (bsf.1.setCell (p := ⟨w.heap.size + 1 + 1 + 1, 0, none⟩) (.inr (by show _ ≤ w.heap.size + 1 + 1 + 1; omega)) _).trans' hkD (fun _ h => h) (fun i hi e => by have := HDW.out; omega)
            · have hzo2 : (z == other) = false := by simpa using hzo
              refine Sched.region (fun _ => trivial) rfl (by kernel_rfl) [] [.pointer (some ⟨w.heap.size + 1 + 1, 1, none⟩), .int .i64 (j : Int), .bool false, .bool false, .pointer (some ⟨w.heap.size + 1 + 1, 1, none⟩), .int .i64 (j : Int), .slice (some ⟨gE, 0, none⟩) E.length cE, .int .i64 (E.length : Int), .bool false, .bool false, .bool false, .slice (some ⟨gE, 0, none⟩) E.length cE, .pointer (some ⟨w.heap.size + 1 + 1, 1, none⟩), .int .i64 (j : Int), .pointer (some ⟨gE, j, none⟩), .int .u8 z, .pointer (some ⟨w.heap.size + 1 + 1, 2, none⟩), .int .u8 other, .bool false, .bool false] (fun _ W => Keeps No wc W) (by kernel_rfl) (by kernel_rfl) rfl (Keeps.refl No wc).drew ?_ ?_
              · simp only [List.zip_cons_cons, List.zip_nil_left]
                iterate 20
                  refine Sched.Steps.cons ?_ ?_
                  rotate_left
                exact Sched.Steps.nil
                all_goals simp only [List.take_succ_cons, List.take_zero, Sched.putL, Act.put, List.setIfInBounds_toArray, List.set_cons_zero, List.set_cons_succ]
                all_goals intro p hp W hw
                all_goals
                  obtain ⟨z0, z1, z2⟩ := HR.out W hw
                  have cj := HCJ.out W hw
                  clear hp
                  simp [Sched.Ok, Sched.OkE, go_sem, *]
              rintro wd hkd
              simp only [List.zip_cons_cons, List.zip_nil_left, Sched.putL, Act.put, List.setIfInBounds_toArray, List.set_cons_zero, List.set_cons_succ]
              have HKD := hid (HKT.out.trans hkd)
              clear HKT
              have HKT := HKD
              obtain ⟨z0, z1, z2⟩ := rot_cells (BS.out.keep HKT.out).2.2.1
              have cj := HCJ.out wd hkd
              have hcE : wd.heap[gE]? = some (.cells curE 5 (0, 0)) := box_in HCE.out (HKE.out.trans hkd)
              have fE := froz (i := j) hcE
              have HAE := hid (set_nums (HNE.out.keep (HKE.out.trans hkd) (fun _ _ e => e)) (by omega) j HJE.out other)
              clear hcE
              clear hkd
              gi_wp2_with fail
              refine ⟨trivial, ?_⟩
              refine (callsIn_wide.2 (decode_any (some ⟨gE, 0, none⟩) cE E.length (E.set j other) _ (hid (by simp)) HLE.out q4 q5 HAE (hid (bytes_set HBE.out j ho)))).mono ?_
              rintro e we ⟨hke, ae, ce, rfl, hte, hbe⟩
              rw [decM_rot HBE.out (by rw [HDE.out]) j HJE.out other ho (by rw [← HZ.out]; exact hzo)]
              dsimp only [zeroTk]
              have HKE2 := hid ((HKT.out.setCell (p := ⟨gE, j, none⟩) (.inr HGE.out) (.int .u8 other)).trans hke)
              clear hke hte hbe HKT
              gi_wp2_with fail
              refine ⟨trivial, ?_⟩
              refine (callsIn_wide.2 (num_any 210 _)).mono ?_
              rintro e w' ⟨rfl, rfl⟩
              gi_wp2_with fail
              refine ⟨trivial, ?_⟩
              have HKT := hid (HKE2.out.alloc (.cells #[.int .u32 0, .slice ae 0 ce, .int .i64 0, .int .i64 0, .int .i64 0, .int .i64 0] 29))
              refine (callsIn_wide.2 (HW.out _)).mono ?_
              rintro e wf ⟨rfl, hkf⟩
              have HKF := hid (HKT.out.trans hkf)
              clear hkf
              have bsf := BS.out.keep HKF.out
              have ff := froz (i := 0) bsf.2.2.2
              have cf : wf.cell? ⟨w.heap.size + 1 + 1 + 1, 0, none⟩ = some (.bool false) := by rw [cell_of_row _ _ _ _ _ _ bsf.2.2.2]; rfl
              gi_wp2_with fail
              have e1 := World.cell?_setCell_same wf _ (.bool true) cf
              have hdf : (wf.setCell ⟨w.heap.size + 1 + 1 + 1, 0, none⟩ (.bool true)).heap[D]? = some (.deferred (some [])) := def_kept (S := fun k => k = w.heap.size + 1 + 1 + 1) (Keeps.set_at wf _ 0 _) (by rintro k rfl; exact ⟨_, _, _, bsf.2.2.2⟩) ((HKF.out.block D (Array.getElem?_eq_some_iff.1 HD.out).1 (fun e => e)).trans HD.out) rfl
              have hkD : Keeps (fun k => k = D) (wf.setCell ⟨w.heap.size + 1 + 1 + 1, 0, none⟩ (.bool true)) ((wf.setCell ⟨w.heap.size + 1 + 1 + 1, 0, none⟩ (.bool true)).putObj D (.deferred none)) := (Keeps.refl _ _).grown (grownBy_putObj' _ D _) (fun k hk => by cases hk; exact .inl rfl)
              have hne : D ≠ w.heap.size + 1 + 1 + 1 := fun e => by have h1 := BS.out.2.2.2; rw [← e, HD.out] at h1; cases h1
              have e2 := hkD.cellS e1 (fun e => hne e.symm)
              refine ⟨fun e => (by cases e), .inl ⟨D, _, rfl, run_takeDeferred hdf, .bool true, by simp [results, Try.results11, go_sem, e2], rfl, ?_⟩⟩
              exact (bsf.1.setCell (p := ⟨w.heap.size + 1 + 1 + 1, 0, none⟩) (.inr (by show _ ≤ w.heap.size + 1 + 1 + 1; omega)) _).trans' hkD (fun _ h => h) (fun i hi e => by have := HDW.out; omega)
  case stop =>
    rintro D c pre W _ hs h _
    exact absurd hs h

end Go.Proofs.Ytnbhphjpefagjaa
