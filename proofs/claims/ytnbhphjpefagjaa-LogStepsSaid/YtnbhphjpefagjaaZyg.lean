/- Log: the steps of turns, and that one may leave: the law's walk. -/
import Derived.Test.YtnbhphjpefagjaaZyf
import Derived.Test.YtnbhphjpefagjaaZyo
namespace Go.Proofs.Ytnbhphjpefagjaa
open Go.RowKit Go.Shelf
attribute [local go_sem] Oper.semAt_some

/-- A box is set, and two marks are taken. -/
theorem two_marks {wf : World} {b D1 D2 : Nat} {c : Array Value} {e : TypeId} {f : Nat × Nat} (hb : wf.heap[b]? = some (.cells c e f)) (h1 : wf.heap[D1]? = some (.deferred (some []))) (h2 : wf.heap[D2]? = some (.deferred (some []))) (hne : D1 ≠ D2)
    {v v0 : Value} (e0 : wf.cell? ⟨b, 0, none⟩ = some v0) :
    (wf.setCell ⟨b, 0, none⟩ v).heap[D2]? = some (.deferred (some [])) ∧ ((wf.setCell ⟨b, 0, none⟩ v).putObj D2 (.deferred none)).heap[D1]? = some (.deferred (some [])) ∧
    (((wf.setCell ⟨b, 0, none⟩ v).putObj D2 (.deferred none)).putObj D1 (.deferred none)).cell? ⟨b, 0, none⟩ = some v ∧
    Keeps (fun k => k = b ∨ k = D2 ∨ k = D1) wf (((wf.setCell ⟨b, 0, none⟩ v).putObj D2 (.deferred none)).putObj D1 (.deferred none)) := by
  have hs : ∀ k, k = b → ∃ c e f, wf.heap[k]? = some (.cells c e f) := by rintro k rfl; exact ⟨_, _, _, hb⟩
  have d2 := def_kept (S := fun k => k = b) (Keeps.set_at wf b 0 v) hs h2 rfl
  have d1 := def_kept (S := fun k => k = b) (Keeps.set_at wf b 0 v) hs h1 rfl
  have n1 : b ≠ D1 := fun e => by rw [e, h1] at hb; cases hb
  have n2 : b ≠ D2 := fun e => by rw [e, h2] at hb; cases hb
  have k2 : Keeps (fun k => k = D2) (wf.setCell ⟨b, 0, none⟩ v) ((wf.setCell ⟨b, 0, none⟩ v).putObj D2 (.deferred none)) := (Keeps.refl _ _).grown (grownBy_putObj' _ D2 _) (fun k hk => by cases hk; exact .inl rfl)
  have k1 : Keeps (fun k => k = D1) ((wf.setCell ⟨b, 0, none⟩ v).putObj D2 (.deferred none)) (((wf.setCell ⟨b, 0, none⟩ v).putObj D2 (.deferred none)).putObj D1 (.deferred none)) := (Keeps.refl _ _).grown (grownBy_putObj' _ D1 _) (fun k hk => by cases hk; exact .inl rfl)
  have d12 := (k2.block D1 (Array.getElem?_eq_some_iff.1 d1).1 hne).trans d1
  have e1 := World.cell?_setCell_same wf _ v e0
  refine ⟨d2, d12, k1.cellS (k2.cellS e1 n2) n1, ?_⟩
  exact ((Keeps.set_at wf b 0 v).trans' k2 (T := fun k => k = b ∨ k = D2 ∨ k = D1) (fun _ h => .inl h) (fun _ _ h => .inr (.inl h))).trans' k1 (fun _ h => h) (fun _ _ h => .inr (.inr h))

set_option maxRecDepth 100000 in
set_option maxHeartbeats 4000000 in
theorem steps_in (m : Nat) (hm : 4 ≤ m) (a : Option Addr) (cap n : Nat) (l : List (Int × Int)) (many : Int) (w : World) (HN : Hid (l.length = n)) (HA : Hid (TurnsAt w a l)) (HNO : Hid (a = none → n = 0 ∧ cap = 0)) :
    CallsIn Fence.wide m Try.prog 10 #[.slice a n cap, .int .i64 many] w fun e w' => e = .returned (.bool true) ∧ Keeps No w w' := by
  have HW := hid (fun W => works_any W)
  have h1m : 1 ≤ m := by omega
  obtain ⟨W0, hW0⟩ : ∃ W0, W0 = ((w.alloc (.cells #[.slice a n cap] 23)).alloc (.cells #[.int .i64 many] 3)).alloc (.cells #[.bool false] 4) := ⟨_, rfl⟩
  have HK0 : Hid (Keeps No w W0) := hid (by rw [hW0]; exact (((Keeps.refl No w).alloc _).alloc _).alloc _)
  have HT0 : Hid (W0.heap[w.heap.size]? = some (.cells #[.slice a n cap] 23 (0, 0))) := hid (by
    rw [hW0]; exact box_in (heap_alloc_new w _) (((Keeps.refl No _).alloc _).alloc _))
  have HT1 : Hid (W0.heap[w.heap.size + 1]? = some (.cells #[.int .i64 many] 3 (0, 0))) := hid (by
    have := box_in (heap_alloc_new (w.alloc (.cells #[.slice a n cap] 23)) (.cells #[.int .i64 many] 3)) ((Keeps.refl No _).alloc (.cells #[.bool false] 4))
    rw [World.size_alloc] at this
    rw [hW0]; exact this)
  have HT2 : Hid (W0.heap[w.heap.size + 1 + 1]? = some (.cells #[.bool false] 4 (0, 0))) := hid (by
    have := heap_alloc_new ((w.alloc (.cells #[.slice a n cap] 23)).alloc (.cells #[.int .i64 many] 3)) (.cells #[.bool false] 4)
    rw [World.size_alloc, World.size_alloc] at this
    rw [hW0]; exact this)
  have HZ0 : Hid (W0.heap.size = w.heap.size + 1 + 1 + 1) := hid (by rw [hW0]; simp)
  by_cases hn : n ≤ 100
  · refine callsIn_of_wp_marks Try.func10 rfl trivial ?_ rfl
    simp only [Try.ntmps10, List.size_toArray, List.length_cons, List.length_nil, Nat.reduceAdd, Nat.reduceSub, Array.replicate_succ, Array.replicate_zero, List.push_toArray, List.append_toArray, List.nil_append, List.cons_append]
    have t0 : W0.cell? ⟨w.heap.size, 0, none⟩ = some (.slice a n cap) := by rw [cell_of_row _ _ _ _ _ _ HT0.out]; rfl
    gi_wp2_with fail
    rw [← hW0]
    clear hW0
    gi_loopw [5, 6] (fun sv iv wr => ∃ i : Nat, iv = .int .i64 i ∧ sv = .int .i64 ((seqK l i).length : Int) ∧ i ≤ n ∧ wr = W0 ∧ ∀ j, j < i → (l[j]?.getD (0, 0)).2 ≤ 100) (fun _ iv _ => n - (intOf iv).toNat)
    case atStart => exact ⟨0, rfl, rfl, by omega, rfl, fun j hj => by omega⟩
    case round =>
      obtain ⟨i, rfl, rfl, hi, rfl, hle⟩ := hrel
      have hsb := seqK_len_le l i hle
      have HLE := hid hle
      clear hle
      by_cases hlt : i < n
      · obtain ⟨g, off, rfl, hcl⟩ := HA.out.resolve_left (by rintro rfl; have := HN.out; simp at this; omega)
        have x2 := HK0.out.cellS (hcl i (by rw [HN.out]; exact hlt)).2 (fun e => e)
        have hsl := seqK_succ_len l i
        clear hcl
        obtain ⟨y, hy⟩ : ∃ y, y = (l[i]?.getD (0, 0)).2 := ⟨_, rfl⟩
        rw [← hy] at x2 hsl
        have HY := hid hy
        have HSL := hid hsl
        clear hy hsl
        by_cases hy2 : 100 < y
        · gi_wp2_with fail
          refine ⟨trivial, ?_⟩
          have HKL := HK0
          have HTL := HT2
          refine (callsIn_wide.2 (HW.out _)).mono ?_
          rintro e wf ⟨rfl, hkf⟩
          have HKF := hid (HKL.out.trans hkf)
          have hbf := box_in HTL.out hkf
          have ff := froz (i := 0) hbf
          have cf : wf.cell? ⟨w.heap.size + 1 + 1, 0, none⟩ = some (.bool false) := by rw [cell_of_row _ _ _ _ _ _ hbf]; rfl
          clear hkf hbf
          gi_wp2_with fail
          have e1 := World.cell?_setCell_same wf _ (.bool true) cf
          refine ⟨.bool true, by simp [results, Try.results10, go_sem, e1], rfl, HKF.out.setCell (.inr (by show _ ≤ w.heap.size + 1 + 1; omega)) _⟩
        · gi_wp2_with fail
          refine ⟨⟨i + 1, rfl, ?_, by omega, trivial, fun j hj => ?_⟩, ?_⟩
          · rw [HSL.out]
            congr 1
            split <;> omega
          · by_cases hji : j = i
            · subst hji
              rw [← HY.out]
              omega
            · exact HLE.out j (by omega)
          · simp [intOf]
            omega
      · obtain ⟨wo, hwo⟩ : ∃ wo, wo = wr := ⟨_, rfl⟩
        subst hwo
        have s1 := cell_alloc_of _ (.cells #[.int .i64 0] 3) (cell_alloc_of _ (.cells #[.int .i64 0] 3) (cell_alloc_of wo (.cells #[.int .i64 0] 3) t0))
        obtain rfl : n = i := by omega
        obtain ⟨W1, hW1⟩ : ∃ W1, W1 = ((wo.alloc (.cells #[.int .i64 0] 3)).alloc (.cells #[.int .i64 0] 3)).alloc (.cells #[.int .i64 0] 3) := ⟨_, rfl⟩
        have HK1 : Hid (Keeps No wo W1) := hid (by rw [hW1]; exact (((Keeps.refl No wo).alloc _).alloc _).alloc _)
        have HC7 : Hid (W1.heap[wo.heap.size]? = some (.cells #[.int .i64 0] 3 (0, 0))) := hid (by
          rw [hW1]; exact box_in (heap_alloc_new wo _) (((Keeps.refl No _).alloc _).alloc _))
        have HC8 : Hid (W1.heap[wo.heap.size + 1]? = some (.cells #[.int .i64 0] 3 (0, 0))) := hid (by
          have := box_in (heap_alloc_new (wo.alloc (.cells #[.int .i64 0] 3)) (.cells #[.int .i64 0] 3)) ((Keeps.refl No _).alloc (.cells #[.int .i64 0] 3))
          rw [World.size_alloc] at this
          rw [hW1]; exact this)
        have HC9 : Hid (W1.heap[wo.heap.size + 1 + 1]? = some (.cells #[.int .i64 0] 3 (0, 0))) := hid (by
          have := heap_alloc_new ((wo.alloc (.cells #[.int .i64 0] 3)).alloc (.cells #[.int .i64 0] 3)) (.cells #[.int .i64 0] 3)
          rw [World.size_alloc, World.size_alloc] at this
          rw [hW1]; exact this)
        have HZ1 : Hid (W1.heap.size = wo.heap.size + 1 + 1 + 1) := hid (by rw [hW1]; simp)
        have HST : Hid (∀ x ∈ l, x.2 ≤ 4294967296) := hid (fun x hx => by
          obtain ⟨j, hj⟩ := List.getElem?_of_mem hx
          have := HLE.out j (by rw [← HN.out]; exact (List.getElem?_eq_some_iff.1 hj).1)
          rw [hj] at this
          simp only [Option.getD_some] at this
          omega)
        clear hi
        gi_wp2_with fail
        refine ⟨trivial, ?_⟩
        rw [← hW1]
        clear hW1 s1 hlt t0
        have hth := threads_any a cap n l W1 HN (by omega) HNO.out (hid (HA.out.keep (HK0.out.trans HK1.out) (fun _ _ e => e)))
        refine (callsIn_wide.2 hth).mono ?_
        rintro e w2 ⟨hk2, Bn, a2, c2, rfl, -⟩
        have HK2 := hid (HK1.out.trans hk2)
        have t2 : w2.cell? ⟨w.heap.size, 0, none⟩ = some (.slice a n cap) := by rw [cell_of_row _ _ _ _ _ _ (box_in HT0.out HK2.out)]; rfl
        have HC7' := hid (box_in HC7.out hk2)
        have HC8' := hid (box_in HC8.out hk2)
        have HC9' := hid (box_in HC9.out hk2)
        have HS2 := hid hk2.size
        have hnn := func_not_nil
        clear hk2 hth HC7 HC8 HC9
        gi_wp2_with fail
        clear hnn
        refine ⟨trivial, ?_⟩
        have hth := threads_any a cap n l w2 HN (by omega) HNO.out (hid (HA.out.keep (HK0.out.trans HK2.out) (fun _ _ e => e)))
        refine (callsIn_wide.2 hth).mono ?_
        rintro e w3 ⟨hk3, B3, a3, c3, rfl, hb3, hl3, hc3, ht3, hp3⟩
        have HC7 := hid (box_in HC7'.out hk3)
        have HC8 := hid (box_in HC8'.out hk3)
        have HC9 := hid (box_in HC9'.out hk3)
        have HK3 := hid (HK2.out.trans hk3)
        have HS3 := hid (Nat.le_trans HS2.out hk3.size)
        have hm1 : 1 ≤ m - 1 := by omega
        have HP3 : Hid (∀ p, a3 = some p → ¬ (p.block = wo.heap.size ∨ p.block = wo.heap.size + 1 ∨ p.block = wo.heap.size + 1 + 1)) := hid (fun p hp e => by have := hp3 p hp; have := HS2.out; have := HZ1.out; omega)
        have HT3 := hid ht3
        have HSZ : Hid (∀ k, (k = wo.heap.size ∨ k = wo.heap.size + 1 ∨ k = wo.heap.size + 1 + 1) → k < w3.heap.size) := hid (fun k hk => by have := HS3.out; have := HZ1.out; omega)
        clear hk3 hth HC7' HC8' HC9' ht3 hp3 t2
        gi_wp2_with fail
        refine wpIn_rangeFunc_ownH (w0 := w3) rfl h1m (gf := 45) (lb := #[.pointer (some ⟨B3, 0, none⟩)]) rfl trivial (enters_of Try.func45 (by kernel_rfl) rfl)
          (threads_stops (m - 1) hm1 (SB wo.heap.size) B3 a3 n c3 l w3 hl3 HSZ.out (by omega) HN HST hc3 HT3 HP3)
          (fun h k => h.trans k) (fun W j o o' hj ho hc _ => KpC.put W j o o' ho hc) (Below.refl _ _) (fun _ => rfl)
          (fun pre W => ∃ turn step, SAt l w3 wo.heap.size pre turn step W)
          (fun _ pre _ => ¬ (pre <+: seqV l))
          (fun s W W' row hs hg hr => by obtain ⟨t, s, h⟩ := hs; exact ⟨t, s, h.own hg hr⟩)
          (fun _ _ _ _ _ hs _ _ => hs)
          ⟨0, 0, HC7.out, HC8.out, HC9.out, Keeps.refl _ _, Nat.zero_le _, .inl rfl, rfl⟩
          (fun x a' _ => a' = { tmps := #[Value.slice a n cap, Value.int IntKind.i64 many, Value.pointer (some { block := w.heap.size, off := 0 }), Value.pointer (some { block := w.heap.size + 1, off := 0 }), Value.pointer (some { block := w.heap.size + 1 + 1, off := 0 }), Value.int IntKind.i64 ↑(seqK l n).length, Value.int IntKind.i64 (n : Int), Value.pointer (some { block := wo.heap.size, off := 0 }), Value.pointer (some { block := wo.heap.size + 1, off := 0 }), Value.pointer (some { block := wo.heap.size + 1 + 1, off := 0 }), Value.int .i64 (x.1 : Int), Value.int .i64 x.2, undef, Value.slice a n cap, Value.int IntKind.i64 (n : Int), Value.bool (decide (100 < (n : Int))), undef, Value.int IntKind.i64 (n : Int), Value.slice a n cap, Value.int IntKind.i64 (n : Int), Value.bool false, u21, u22, u23, u24, u25, u26, u27, u28, u29, u30, u31, u32, u33, u34, u35, u36, u37, Value.slice a n cap, Value.func (Fn.func 45) #[] #[Value.pointer (some { block := Bn, off := 0 })], Value.bool false, Value.slice a n cap, Value.func (Fn.func 45) #[] #[Value.pointer (some { block := B3, off := 0 })], Value.int .i64 (x.1 : Int), Value.int .i64 x.2, undef, undef, undef, undef, undef, undef, undef, undef, undef, undef, undef, undef, undef, undef, undef, undef, undef, undef, undef, undef, undef, undef, undef, undef, undef, undef, undef, undef, undef, undef, undef, undef, undef, undef, undef, undef, undef, undef, undef, undef, undef, undef, undef, undef, undef, undef, undef, undef, undef, undef, undef, undef, undef, undef, undef, undef, undef, undef, undef, undef], defers := [] })
          (fun x a' s W W' row h _ _ => h)
          ?assign ?body ?done ?stop
        case assign =>
          intro lp pre x W K hI hK
          have HK := hid hK
          clear hK
          gi_wp2
          exact HK.out _ _ (KeepsFrom.refl _ _) (KpC.refl _ _) hI rfl
        case body =>
          rintro lp pre x a' W hlp ⟨r, hr⟩ ⟨turn, step, hA0⟩ rfl hpl
          obtain ⟨xi, xt⟩ := x
          dsimp only
          have HA0 := hid hA0
          have HPL := hid hpl
          clear hA0 hpl
          gi_wp2_with fail
          gi_loopw [45] (fun _ wi => Keeps (SB wo.heap.size) W wi ∧ ∃ t s, SAt l w3 wo.heap.size pre t s wi) (fun _ wi => n - cellN wi wo.heap.size)
          case atStart => exact ⟨Keeps.refl _ _, turn, step, HA0.out⟩
          case round =>
            obtain ⟨hkw, t, s, hS⟩ := hrel
            obtain ⟨wi, hwi⟩ : ∃ wi, wi = wr := ⟨_, rfl⟩
            subst hwi
            have HS := hid hS
            have HKW := hid hkw
            have hlt : t < l.length := HS.out.more HPL.out
            have hlt2 := hlt
            rw [HN.out] at hlt2
            have q1 : (t : Int) < (n : Int) := by omega
            have q2 : ¬ (n : Int) ≤ (t : Int) := by omega
            obtain ⟨g, off, rfl, hcl⟩ := HA.out.resolve_left (by rintro rfl; simp at hlt)
            obtain ⟨c1, c2⟩ := hcl t hlt
            have hgw : g < w.heap.size := World.block_lt_of_cell? _ _ c1
            have hlw : w.heap.size < wo.heap.size := by have := HZ0.out; omega
            have hgn : ¬ SB wo.heap.size g := fun e => by rcases e with e | e | e <;> omega
            have y1 := hS.kept.cellS ((HK0.out.trans HK3.out).cellS c1 (fun e => e)) hgn
            have y2 := hS.kept.cellS ((HK0.out.trans HK3.out).cellS c2 (fun e => e)) hgn
            have b0 := (hS.kept.block _ (by have := HS3.out; have := HZ1.out; omega) (fun e => by rcases e with e | e | e <;> omega)).trans (box_in HT0.out HK3.out)
            have b2 := (hS.kept.block (w.heap.size + 1 + 1) (by have := HS3.out; have := HZ1.out; have := HZ0.out; omega) (fun e => by have := HZ0.out; rcases e with e | e | e <;> omega)).trans (box_in HT2.out HK3.out)
            obtain ⟨y, hy⟩ : ∃ y, y = (l[t]?.getD (0, 0)).2 := ⟨_, rfl⟩
            obtain ⟨th, hth⟩ : ∃ th, th = (l[t]?.getD (0, 0)).1 := ⟨_, rfl⟩
            rw [← hy] at y2
            rw [← hth] at y1
            have HF := hid (fun W' (hk : Keeps No wi W') => And.intro (hk.cellS hS.cells.1 (fun e => e)) (And.intro (hk.cellS hS.cells.2.1 (fun e => e)) (And.intro (show W'.cell? ⟨w.heap.size, 0, none⟩ = some (.slice (some ⟨g, off, none⟩) n cap) by rw [cell_of_row _ _ _ _ _ _ (box_in b0 hk)]; rfl) (hk.cellS y2 (fun e => e)))))
            have HTH := hid (fun W' (hk : Keeps No wi W') => hk.cellS y1 (fun e => e))
            have HB2 := hid b2
            have HY := hid hy
            have HTHV := hid hth
            have HLT := hid hlt
            clear hS hkw c1 c2 hcl b0 b2 y1 y2 hy hth hlt
            by_cases hge : y ≤ (s : Int)
            · gi_wp2_with fail
              refine Sched.region (fun _ => trivial) rfl (by kernel_rfl) [] [.int .i64 (t : Int), .slice (some ⟨g, off, none⟩) n cap, .int .i64 (n : Int), .bool true, .bool true, .int .i64 (s : Int), .slice (some ⟨g, off, none⟩) n cap, .int .i64 (t : Int), .pointer (some ⟨g, off + t * 2, none⟩), .pointer (some ⟨g, off + t * 2 + 1, none⟩), .int .i64 y, .bool true, .bool true] (fun _ W' => Keeps No wi W') (by kernel_rfl) (by kernel_rfl) rfl (Keeps.refl No wi).drew ?_ ?_
              · simp only [List.zip_cons_cons, List.zip_nil_left]
                iterate 13
                  refine Sched.Steps.cons ?_ ?_
                  rotate_left
                exact Sched.Steps.nil
                all_goals simp only [List.take_succ_cons, List.take_zero, Sched.putL, Act.put, List.setIfInBounds_toArray, List.set_cons_zero, List.set_cons_succ]
                all_goals intro p hp W' hw
                all_goals
                  obtain ⟨z7, z8, z0, zy⟩ := HF.out W' hw
                  clear hp
                  simp [Sched.Ok, Sched.OkE, go_sem, *]
              rintro wd hkd
              simp only [List.zip_cons_cons, List.zip_nil_left, Sched.putL, Act.put, List.setIfInBounds_toArray, List.set_cons_zero, List.set_cons_succ]
              obtain ⟨z7, z8, -, -⟩ := HF.out wd hkd
              have hSd := HS.out.keep hkd
              have f7 := froz (i := 0) hSd.c7
              have f8 := froz (i := 0) hSd.c8
              have HSD := hid hSd
              have HKD := hid (HKW.out.trans hkd.of_no)
              clear hSd hkd
              gi_wp2_with fail
              have HSO := HSD.out.over HLT.out (by rw [← HY.out]; exact hge)
              refine ⟨⟨(HKD.out.setCell (p := ⟨wo.heap.size, 0, none⟩) (.inl (.inl rfl)) _).setCell (p := ⟨wo.heap.size + 1, 0, none⟩) (.inl (.inr (.inl rfl))) _, t + 1, 0, HSO⟩, ?_⟩
              rw [cellN_of HSO.cells.1, cellN_of HS.out.cells.1]
              omega
            · gi_wp2_with fail
              refine Sched.region (fun _ => trivial) rfl (by kernel_rfl) [] [.int .i64 (t : Int), .slice (some ⟨g, off, none⟩) n cap, .int .i64 (n : Int), .bool true, .bool true, .int .i64 (s : Int), .slice (some ⟨g, off, none⟩) n cap, .int .i64 (t : Int), .pointer (some ⟨g, off + t * 2, none⟩), .pointer (some ⟨g, off + t * 2 + 1, none⟩), .int .i64 y, .bool false, .bool false] (fun _ W' => Keeps No wi W') (by kernel_rfl) (by kernel_rfl) rfl (Keeps.refl No wi).drew ?_ ?_
              · simp only [List.zip_cons_cons, List.zip_nil_left]
                iterate 13
                  refine Sched.Steps.cons ?_ ?_
                  rotate_left
                exact Sched.Steps.nil
                all_goals simp only [List.take_succ_cons, List.take_zero, Sched.putL, Act.put, List.setIfInBounds_toArray, List.set_cons_zero, List.set_cons_succ]
                all_goals intro p hp W' hw
                all_goals
                  obtain ⟨z7, z8, z0, zy⟩ := HF.out W' hw
                  clear hp
                  simp [Sched.Ok, Sched.OkE, go_sem, *]
              rintro wd hkd
              simp only [List.zip_cons_cons, List.zip_nil_left, Sched.putL, Act.put, List.setIfInBounds_toArray, List.set_cons_zero, List.set_cons_succ]
              obtain ⟨z7, z8, z0, zy⟩ := HF.out wd hkd
              have zt := HTH.out wd hkd
              have hSd := HS.out.keep hkd
              have z9 := hSd.cells.2.2
              have f8 := froz (i := 0) hSd.c8
              have f9 := froz (i := 0) hSd.c9
              have hbd := box_in HB2.out hkd
              have f2 := froz (i := 0) hbd
              have e2 : wd.cell? ⟨w.heap.size + 1 + 1, 0, none⟩ = some (.bool false) := by rw [cell_of_row _ _ _ _ _ _ hbd]; rfl
              have HSD := hid hSd
              have HKD := hid (HKW.out.trans hkd.of_no)
              have HGE : Hid ((s : Int) < y) := hid (by omega)
              have hs3 : (s : Int) ≤ 100 := by have := HLE.out t (by rw [← HN.out]; exact HLT.out); rw [← HY.out] at this; omega
              have hp3 : (pre.length : Int) ≤ 10000 := by have := HPL.out; rw [show seqV l = seqK l n by rw [seqV, HN.out]] at this; omega
              have HKF := hid (keepsFrom_cells (B := w3.heap.size) HKD.out (fun k hk => by rcases hk with rfl | rfl | rfl; exact ⟨_, _, _, HA0.out.c7⟩; exact ⟨_, _, _, HA0.out.c8⟩; exact ⟨_, _, _, HA0.out.c9⟩))
              clear hSd hkd hbd
              by_cases hxi : xi = t
              · subst hxi
                by_cases hxt : xt = th
                · subst hxt
                  gi_wp2_with fail
                  have HSI := HSD.out.inc HLT.out (by rw [← HY.out]; exact HGE.out)
                  rw [← HTHV.out] at HSI
                  exact ⟨HKF.out.trans (((KeepsOthers.setCell wd ⟨wo.heap.size + 1, 0, none⟩ _).trans (KeepsOthers.setCell _ ⟨wo.heap.size + 1 + 1, 0, none⟩ _)).from _), KpC.of_keeps ((HKD.out.setCell (p := ⟨wo.heap.size + 1, 0, none⟩) (.inl (.inr (.inl rfl))) _).setCell (p := ⟨wo.heap.size + 1 + 1, 0, none⟩) (.inl (.inr (.inr rfl))) _), xi, s + 1, HSI⟩
                · have hxt2 : (xt != th) = true := by simpa using hxt
                  have HXT := hid hxt
                  gi_wp2_with fail
                  exact ⟨HKF.out.trans ((KeepsOthers.setCell wd _ _).from _), fun hp => HXT.out (by have := HSD.out.next HLT.out (by rw [← HY.out]; exact HGE.out) hp; rw [HTHV.out]; exact congrArg Prod.snd this)⟩
              · have hxi2 : ¬ (xi : Int) = (t : Int) := by omega
                have hxi3 : ((xi : Int) == (t : Int)) = false := by simpa using hxi2
                have HXI := hid hxi
                gi_wp2_with fail
                exact ⟨HKF.out.trans ((KeepsOthers.setCell wd _ _).from _), fun hp => HXI.out (by have := HSD.out.next HLT.out (by rw [← HY.out]; exact HGE.out) hp; exact congrArg Prod.fst this)⟩
        case done =>
          rintro D1 ys W4 hD1 rfl ⟨turn, step, hS⟩ hdf
          have HD1 := hid hdf
          have HD1G := hid hD1
          have hlw : w.heap.size + 1 + 1 + 1 = wo.heap.size := HZ0.out.symm
          have hs3 : wo.heap.size + 1 + 1 + 1 ≤ w3.heap.size := by have := HS3.out; have := HZ1.out; omega
          have hsb' (j : Nat) (hj : j < wo.heap.size) : ¬ SB wo.heap.size j := fun e => by rcases e with e | e | e <;> omega
          have b0 := (hS.kept.block _ (by omega) (hsb' w.heap.size (by omega))).trans (box_in HT0.out HK3.out)
          have HB1 := hid ((hS.kept.block _ (by omega) (hsb' (w.heap.size + 1) (by omega))).trans (box_in HT1.out HK3.out))
          have HB2 := hid ((hS.kept.block _ (by omega) (hsb' (w.heap.size + 1 + 1) (by omega))).trans (box_in HT2.out HK3.out))
          have HC9' : Hid (W4.heap[wo.heap.size + 1 + 1]? = some (.cells #[.int .i64 ((seqK l n).length : Int)] 3 (0, 0))) := hid (by have := hS.c9; rwa [seqV, HN.out] at this)
          have HK4 : Hid (Keeps No w W4) := hid ((HK0.out.trans HK3.out).trans' hS.kept (fun _ h => h) (fun i hi e => hsb' i (by omega) e))
          have HW4 : Hid (w.heap.size + 1 + 1 + 1 < W4.heap.size) := hid (by have := hS.kept.size; omega)
          have t4 : W4.cell? ⟨w.heap.size, 0, none⟩ = some (.slice a n cap) := by rw [cell_of_row _ _ _ _ _ _ b0]; rfl
          have s4 := cell_alloc_of W4 (.cells #[.int .i64 0] 3) t4
          have hD4 : D1 < W4.heap.size := (Array.getElem?_eq_some_iff.1 hdf).1
          clear hS hdf b0 hsb' hs3 hlw
          gi_wp2_with fail
          refine ⟨trivial, ?_⟩
          have hth := threads_any a cap n l (W4.alloc (.cells #[.int .i64 0] 3)) HN (by omega) HNO.out (hid (HA.out.keep (HK4.out.alloc _) (fun _ _ e => e)))
          refine (callsIn_wide.2 hth).mono ?_
          rintro e w5 ⟨hk5, B5, a5, c5, rfl, hb5, hl5, hc5, ht5, hp5⟩
          have HK5 := hid (((Keeps.refl No W4).alloc (.cells #[.int .i64 0] 3)).trans hk5)
          have HC12 := hid (box_in (heap_alloc_new W4 (.cells #[.int .i64 0] 3)) hk5)
          have hl45 : W4.heap.size < w5.heap.size := (Array.getElem?_eq_some_iff.1 HC12.out).1
          have hsz : (W4.alloc (.cells #[.int .i64 0] 3)).heap.size = W4.heap.size + 1 := by simp
          have HP5 : Hid (∀ p, a5 = some p → ¬ p.block = W4.heap.size) := hid (fun p hp e => by have := hp5 p hp; rw [hsz] at this; omega)
          have HT5 := hid ht5
          clear hk5 hth ht5 hp5 hsz t4 s4
          gi_wp2_with fail
          refine wpIn_rangeFunc_ownH (w0 := w5) rfl h1m (gf := 45) (lb := #[.pointer (some ⟨B5, 0, none⟩)]) rfl trivial (enters_of Try.func45 (by kernel_rfl) rfl)
            (threads_stops (m - 1) hm1 (fun k => k = W4.heap.size) B5 a5 n c5 l w5 hl5 (by rintro k rfl; omega) (by omega) HN HST hc5 HT5 HP5)
            (fun h k => h.trans k) (fun W j o o' hj ho hc _ => KpC.put W j o o' ho hc) (Below.refl _ _) (fun _ => rfl)
            (fun pre W => W.heap[W4.heap.size]? = some (.cells #[.int .i64 (pre.length : Int)] 3 (0, 0)) ∧ Keeps (fun k => k = W4.heap.size) w5 W ∧ (pre = [] ∨ (pre.length : Int) ≤ many))
            (fun c pre W => c = .exit 6 ∧ ∃ q : Nat, pre.length = q + 1 ∧ W.heap[W4.heap.size]? = some (.cells #[.int .i64 (q : Int)] 3 (0, 0)) ∧ Keeps (fun k => k = W4.heap.size) w5 W ∧ many ≤ (q : Int) ∧ (q = 0 ∨ (q : Int) ≤ many))
            (fun s W W' row hs hg hr => ⟨(hg.block _ (Array.getElem?_eq_some_iff.1 hs.1).1 (fun e => by have := (hr _ e.symm).1; omega)).trans hs.1, hs.2.1.grown hg (fun k hk => .inr (hr k hk).1), hs.2.2⟩)
            (fun c s W W' row hs hg hr => by
              obtain ⟨h1, q, h2, h3, h4, h5⟩ := hs
              exact ⟨h1, q, h2, (hg.block _ (Array.getElem?_eq_some_iff.1 h3).1 (fun e => by have := (hr _ e.symm).1; omega)).trans h3, h4.grown hg (fun k hk => .inr (hr k hk).1), h5⟩)
            ⟨HC12.out, Keeps.refl _ _, .inl rfl⟩
            (fun x a' _ => a' = { tmps := #[Value.slice a n cap, Value.int IntKind.i64 many, Value.pointer (some { block := w.heap.size, off := 0 }), Value.pointer (some { block := w.heap.size + 1, off := 0 }), Value.pointer (some { block := w.heap.size + 1 + 1, off := 0 }), Value.int IntKind.i64 ↑(seqK l n).length, Value.int IntKind.i64 (n : Int), Value.pointer (some { block := wo.heap.size, off := 0 }), Value.pointer (some { block := wo.heap.size + 1, off := 0 }), Value.pointer (some { block := wo.heap.size + 1 + 1, off := 0 }), undef, undef, Value.pointer (some { block := W4.heap.size, off := 0 }), Value.slice a n cap, Value.int IntKind.i64 (n : Int), Value.bool (decide (100 < (n : Int))), undef, Value.int IntKind.i64 (n : Int), Value.slice a n cap, Value.int IntKind.i64 (n : Int), Value.bool false, u21, u22, u23, u24, u25, u26, u27, u28, u29, u30, u31, u32, u33, u34, u35, u36, u37, Value.slice a n cap, Value.func (Fn.func 45) #[] #[Value.pointer (some { block := Bn, off := 0 })], Value.bool false, Value.slice a n cap, Value.func (Fn.func 45) #[] #[Value.pointer (some { block := B3, off := 0 })], undef, undef, undef, undef, undef, undef, undef, undef, undef, undef, undef, undef, undef, undef, undef, undef, undef, undef, undef, undef, undef, undef, undef, undef, undef, undef, undef, undef, undef, undef, undef, undef, undef, undef, undef, undef, undef, undef, undef, Value.slice a n cap, Value.func (Fn.func 45) #[] #[Value.pointer (some { block := B5, off := 0 })], Value.int .i64 (x.1 : Int), Value.int .i64 x.2, undef, undef, undef, undef, undef, undef, undef, undef, undef, undef, undef, undef, undef, undef, undef, undef, undef, undef, undef], defers := [] })
            (fun x a' s W W' row h _ _ => h)
            ?assign2 ?body2 ?done2 ?stop2
          case assign2 =>
            intro lp pre x W K hI hK
            have HK := hid hK
            clear hK
            gi_wp2
            exact HK.out _ _ (KeepsFrom.refl _ _) (KpC.refl _ _) hI rfl
          case body2 =>
            rintro lp pre x a' W hlp ⟨r, hr⟩ ⟨hc, hkw, hpm⟩ rfl hpl
            have hpl3 : (pre.length : Int) ≤ 10000 := by rw [seqV, HN.out] at hpl; omega
            have b1 := (hkw.block _ (by have := (Array.getElem?_eq_some_iff.1 HB1.out).1; omega) (by have := HW4.out; omega)).trans (box_in HB1.out HK5.out)
            have q1 : W.cell? ⟨w.heap.size + 1, 0, none⟩ = some (.int .i64 many) := by rw [cell_of_row _ _ _ _ _ _ b1]; rfl
            have q9 : W.cell? ⟨W4.heap.size, 0, none⟩ = some (.int .i64 (pre.length : Int)) := by rw [cell_of_row _ _ _ _ _ _ hc]; rfl
            have f9 := froz (i := 0) hc
            have HHC := hid hc
            have HHW := hid hkw
            have HPM := hid hpm
            clear hc hkw b1 hpm
            by_cases hq : many ≤ (pre.length : Int)
            · have HQ := hid hq
              gi_wp2_with fail
              refine ⟨KeepsFrom.refl _ _, rfl, pre.length, by simp, HHC.out, HHW.out, HQ.out, ?_⟩
              rcases HPM.out with h | h
              · exact .inl (by rw [h]; rfl)
              · exact .inr h
            · have HQ := hid hq
              gi_wp2_with fail
              refine ⟨(KeepsOthers.setCell W _ _).from _, KpC.of_keeps (Keeps.set_at W _ 0 _), ?_, HHW.out.setCell (.inl rfl) _, .inr ?_⟩
              · rw [heap_setCell_row HHC.out]
                simp
              · have := HQ.out
                simp
                omega
          case done2 =>
            rintro D2 ys W hD2 rfl ⟨hc, hkw, hpm⟩ hdf
            rw [seqV, HN.out] at hc hpm
            have hone : ((seqK l n).length : Int) = max 0 (min many ((seqK l n).length : Int)) := by
              rcases hpm with h | h
              · rw [h]; simp; omega
              · omega
            obtain ⟨qq, hqq⟩ : ∃ qq, W.heap[W4.heap.size]? = some (.cells #[.int .i64 qq] 3 (0, 0)) ∧ qq = max 0 (min many ((seqK l n).length : Int)) := ⟨_, hc, hone⟩
            have kb : ∀ {j : Nat} {o : Obj}, W4.heap[j]? = some o → W.heap[j]? = some o := fun {j o} h => (hkw.block _ (by have := (Array.getElem?_eq_some_iff.1 h).1; omega) (by have := (Array.getElem?_eq_some_iff.1 h).1; omega)).trans ((HK5.out.block _ (Array.getElem?_eq_some_iff.1 h).1 (fun e => e)).trans h)
            have z9 : W.cell? ⟨wo.heap.size + 1 + 1, 0, none⟩ = some (.int .i64 ((seqK l n).length : Int)) := by rw [cell_of_row _ _ _ _ _ _ (kb HC9'.out)]; rfl
            have z1 : W.cell? ⟨w.heap.size + 1, 0, none⟩ = some (.int .i64 many) := by rw [cell_of_row _ _ _ _ _ _ (kb HB1.out)]; rfl
            have z12 : W.cell? ⟨W4.heap.size, 0, none⟩ = some (.int .i64 qq) := by rw [cell_of_row _ _ _ _ _ _ hqq.1]; rfl
            have HBW := hid (kb HB2.out)
            have HDA := hid (kb HD1.out)
            have HDB := hid hdf
            have HKW : Hid (Keeps No w W) := hid ((HK4.out.trans HK5.out).trans' hkw (fun _ h => h) (fun i hi e => by have := HW4.out; omega))
            have HDD : Hid (w5.heap.size ≤ D2) := hid hD2
            have hq2 := hqq.2
            clear hqq kb hc hkw hone hdf
            generalize ((seqK l n).length : Int) = N at *
            gi_wp2_with fail
            all_goals
              refine ⟨trivial, ?_⟩
              refine (callsIn_wide.2 (HW.out _)).mono ?_
              rintro e wf ⟨rfl, hkf⟩
              have HKF := hid hkf
              have hbf := box_in HBW.out hkf
              have hda := (hkf.block D1 (Array.getElem?_eq_some_iff.1 HDA.out).1 (fun e => e)).trans HDA.out
              have hdb := (hkf.block D2 (Array.getElem?_eq_some_iff.1 HDB.out).1 (fun e => e)).trans HDB.out
              have ff := froz (i := 0) hbf
              have cf : wf.cell? ⟨w.heap.size + 1 + 1, 0, none⟩ = some (.bool false) := by rw [cell_of_row _ _ _ _ _ _ hbf]; rfl
              have HMM := hid (two_marks (v := .bool true) hbf hda hdb (by have := HDD.out; omega) cf)
              clear hkf hbf hda hdb
              gi_wp2_with fail
              obtain ⟨m1, m2, m3, m4⟩ := HMM.out
              refine ⟨fun e => (by cases e), .inl ⟨D2, _, rfl, run_takeDeferred m1, fun e => (by cases e), .inl ⟨D1, _, rfl, run_takeDeferred m2, .bool true, by simp [results, Try.results10, go_sem, m3], rfl, ?_⟩⟩⟩
              exact (HKW.out.trans HKF.out).trans' m4 (fun _ h => h) (fun i hi e => by have := HD1G.out; have := HDD.out; have := HS3.out; have := HZ1.out; have := HZ0.out; have := HW4.out; rcases e with e | e | e <;> omega)
          case stop2 =>
            rintro D2 c pre W hD2 hSp ⟨rfl, q, hq, hc, hkw, h1, h2⟩ hdf
            have hlen := hSp.length_le
            rw [seqV, HN.out] at hlen
            have hone : (q : Int) = max 0 (min many ((seqK l n).length : Int)) := by omega
            obtain ⟨qq, hqq⟩ : ∃ qq, W.heap[W4.heap.size]? = some (.cells #[.int .i64 qq] 3 (0, 0)) ∧ qq = max 0 (min many ((seqK l n).length : Int)) := ⟨_, hc, hone⟩
            have kb : ∀ {j : Nat} {o : Obj}, W4.heap[j]? = some o → W.heap[j]? = some o := fun {j o} h => (hkw.block _ (by have := (Array.getElem?_eq_some_iff.1 h).1; omega) (by have := (Array.getElem?_eq_some_iff.1 h).1; omega)).trans ((HK5.out.block _ (Array.getElem?_eq_some_iff.1 h).1 (fun e => e)).trans h)
            have z9 : W.cell? ⟨wo.heap.size + 1 + 1, 0, none⟩ = some (.int .i64 ((seqK l n).length : Int)) := by rw [cell_of_row _ _ _ _ _ _ (kb HC9'.out)]; rfl
            have z1 : W.cell? ⟨w.heap.size + 1, 0, none⟩ = some (.int .i64 many) := by rw [cell_of_row _ _ _ _ _ _ (kb HB1.out)]; rfl
            have z12 : W.cell? ⟨W4.heap.size, 0, none⟩ = some (.int .i64 qq) := by rw [cell_of_row _ _ _ _ _ _ hqq.1]; rfl
            have HBW := hid (kb HB2.out)
            have HDA := hid (kb HD1.out)
            have HDB := hid hdf
            have HKW : Hid (Keeps No w W) := hid ((HK4.out.trans HK5.out).trans' hkw (fun _ h => h) (fun i hi e => by have := HW4.out; omega))
            have HDD : Hid (w5.heap.size ≤ D2) := hid hD2
            have hq2 := hqq.2
            clear hqq kb hc hkw hone hdf
            generalize ((seqK l n).length : Int) = N at *
            gi_wp2_with fail
            all_goals
              refine ⟨trivial, ?_⟩
              refine (callsIn_wide.2 (HW.out _)).mono ?_
              rintro e wf ⟨rfl, hkf⟩
              have HKF := hid hkf
              have hbf := box_in HBW.out hkf
              have hda := (hkf.block D1 (Array.getElem?_eq_some_iff.1 HDA.out).1 (fun e => e)).trans HDA.out
              have hdb := (hkf.block D2 (Array.getElem?_eq_some_iff.1 HDB.out).1 (fun e => e)).trans HDB.out
              have ff := froz (i := 0) hbf
              have cf : wf.cell? ⟨w.heap.size + 1 + 1, 0, none⟩ = some (.bool false) := by rw [cell_of_row _ _ _ _ _ _ hbf]; rfl
              have HMM := hid (two_marks (v := .bool true) hbf hda hdb (by have := HDD.out; omega) cf)
              clear hkf hbf hda hdb
              gi_wp2_with fail
              obtain ⟨m1, m2, m3, m4⟩ := HMM.out
              refine ⟨fun e => (by cases e), .inl ⟨D2, _, rfl, run_takeDeferred m1, fun e => (by cases e), .inl ⟨D1, _, rfl, run_takeDeferred m2, .bool true, by simp [results, Try.results10, go_sem, m3], rfl, ?_⟩⟩⟩
              exact (HKW.out.trans HKF.out).trans' m4 (fun _ h => h) (fun i hi e => by have := HD1G.out; have := HDD.out; have := HS3.out; have := HZ1.out; have := HZ0.out; have := HW4.out; rcases e with e | e | e <;> omega)
        case stop =>
          rintro D c pre W _ hs h _
          exact absurd hs h
  · refine callsIn_of_wp_marks Try.func10 rfl trivial ?_ rfl
    simp only [Try.ntmps10, List.size_toArray, List.length_cons, List.length_nil, Nat.reduceAdd, Nat.reduceSub, Array.replicate_succ, Array.replicate_zero, List.push_toArray, List.append_toArray, List.nil_append, List.cons_append]
    gi_wp2_with fail
    refine ⟨trivial, ?_⟩
    rw [← hW0]
    clear hW0
    have HKL := HK0
    have HTL := HT2
    refine (callsIn_wide.2 (HW.out _)).mono ?_
    rintro e wf ⟨rfl, hkf⟩
    have HKF := hid (HKL.out.trans hkf)
    have hbf := box_in HTL.out hkf
    have ff := froz (i := 0) hbf
    have cf : wf.cell? ⟨w.heap.size + 1 + 1, 0, none⟩ = some (.bool false) := by rw [cell_of_row _ _ _ _ _ _ hbf]; rfl
    clear hkf hbf
    gi_wp2_with fail
    have e1 := World.cell?_setCell_same wf _ (.bool true) cf
    refine ⟨.bool true, by simp [results, Try.results10, go_sem, e1], rfl, HKF.out.setCell (.inr (by show _ ≤ w.heap.size + 1 + 1; omega)) _⟩

theorem steps_law (a : Option Addr) (cap n : Nat) (l : List (Int × Int)) (many : Int) (w : World) (HT : Hid (TurnsIn w a n l)) (HNO : Hid (a = none → n = 0 ∧ cap = 0)) :
    Calls Try.prog 10 #[.slice a n cap, .int .i64 many] w fun e w' => e = .returned (.bool true) ∧ Keeps No w w' :=
  callsIn_wide.1 (steps_in 4 (by omega) a cap n l many w (hid HT.out.1) (hid HT.out.2.1) HNO)

end Go.Proofs.Ytnbhphjpefagjaa
