/- Log: the document's Encode. -/
import Derived.Test.YtnbhphjpefagjaaI
import Derived.Test.YtnbhphjpefagjaaQ
namespace Go.Proofs.Ytnbhphjpefagjaa
open Go.RowKit
attribute [-go_sem] Builtin.append_

/-- Bytes in a row of their own, blocks from B on. -/
abbrev BRow (B : Nat) (w : World) (v : Value) (l : List Int) : Prop := w.ownsRow B 5 1 v l.length (l.map (Value.int .u8))

theorem BRow.keep {B : Nat} {w w' : World} {v : Value} {l : List Int} (h : BRow B w v l) (hk : Keeps No w w') : BRow B w' v l := hk.row h (fun _ _ e => e)

/-- A row that is not empty, as a slice whose cells may be read. -/
theorem BRow.read {B : Nat} {w : World} {v : Value} {l : List Int} (h : BRow B w v l) (hl : 0 < l.length) : ∃ g cap, v = .slice (some ⟨g, 0, none⟩) l.length cap ∧ B ≤ g ∧ (∀ j u, (l.map (Value.int .u8))[j]? = some u → w.cell? ((⟨g, 0, none⟩ : Addr).add j) = some u) := by
  rcases h.2 with ⟨_, hn⟩ | ⟨g, cap, cur, hv, hb, hg, hnc, hcm, hcs, ht⟩
  · omega
  · refine ⟨g, cap, hv, hb, fun j u hu => ?_⟩
    rw [Addr.add_lit, Nat.zero_add, cell_of_row w g j cur 5 (0, 0) hg]
    rw [← ht, List.getElem?_take] at hu
    split at hu
    · simpa using hu
    · cases hu

theorem BRow.up {B B' : Nat} {w : World} {g cap : Nat} {l : List Int} (h : BRow B w (.slice (some ⟨g, 0, none⟩) l.length cap) l) (hB : B' ≤ g) : BRow B' w (.slice (some ⟨g, 0, none⟩) l.length cap) l := by
  refine ⟨h.1, ?_⟩
  rcases h.2 with ⟨hv, _⟩ | ⟨g', cap', cur, hv, _, rest⟩
  · cases hv
  · cases hv
    exact .inr ⟨g, cap, cur, rfl, hB, rest⟩

theorem brow_of {B : Nat} {w : World} {v : Value} {n : Nat} {l : List Int} (h : w.ownsRow B 5 1 v n (l.map (Value.int .u8))) : BRow B w v l := by
  have : n = l.length := by have := h.1; simp at this; omega
  subst this
  exact h

theorem encN_pos (n : Int) : 0 < (encN n).length := by
  show 0 < (encF 9 n).length
  unfold encF
  split <;> simp

/-- What the document's Encode hands back. -/
def RefEncPost (h k tr th st : Int) (l : List (Int × Int)) (w : World) (e : Ending) (w' : World) : Prop :=
  Keeps No w w' ∧ ∃ v, e = .returned v ∧ BRow w.heap.size w' v (encM h l k tr th st)

def wlog : List Int := [87, 76, 79, 71]

/-- What holds behind p of the appends' operations of one turn. -/
def G12 (w1 wr : World) (x y : Int) (b : List Int) (p : Nat) (s : Value × Value × Value) (w' : World) : Prop :=
  Keeps No w1 w' ∧ match p with
  | 0 => w' = wr.drew
  | 1 => w' = (wr.alloc (.cells #[.int .u8 x] 5)).drew
  | 2 => BRow w1.heap.size w' s.1 (b ++ [x])
  | 3 => BRow w1.heap.size w' s.1 (b ++ [x]) ∧ BRow w1.heap.size w' s.2.1 (encN y)
  | _ => BRow w1.heap.size w' s.2.2 (b ++ [x] ++ encN y)

set_option maxRecDepth 100000 in
set_option maxHeartbeats 4000000 in
theorem refencode_any (h k tr th st : Int) (h0 : 0 ≤ h) (h1 : h < 4294967296) (a : Option Addr) (cap n : Nat) (l : List (Int × Int)) (w : World) (HN : Hid (l.length = n)) (hn : n ≤ 3000) (HA : Hid (TurnsAt w a l)) (HOK : Hid (okB l k tr th st = true)) :
    Calls Try.prog 16 #[.agg #[.int .u32 h, .slice a n cap, .int .i64 k, .int .i64 tr, .int .i64 th, .int .i64 st]] w (RefEncPost h k tr th st l w) := by
  obtain ⟨i0, hi, hz0, hz1, hz2⟩ := info_parts Try.info5
  have HI := hid hi
  have HZ0 := hid hz0
  have HZ1 := hid hz1
  have HZ2 := hid hz2
  have hcv := Lib.run_convert_bytes_const (P := Try.prog) (w.alloc (.cells #[.int .u32 h, .slice a n cap, .int .i64 k, .int .i64 tr, .int .i64 th, .int .i64 st] 29)) 31 5 #[.int .u8 87, .int .u8 76, .int .u8 79, .int .u8 71] 4 4 Try.underlying31 Try.underlying5
  simp only [World.size_alloc, List.size_toArray, List.length_cons, List.length_nil, Nat.zero_add, Nat.reduceAdd] at hcv
  have hbd := endB_bd (by have := HOK.out; simp only [okB, Bool.and_eq_true] at this; exact this.1)
  have hchk : chk 0 (-1) l = true := by have := HOK.out; simp only [okB, Bool.and_eq_true] at this; exact this.2
  have HCHK := hid hchk
  clear hi hz0 hz1 hz2 hchk
  -- the world behind the box and the constant
  have hbx := heap_alloc_new w (.cells #[.int .u32 h, .slice a n cap, .int .i64 k, .int .i64 tr, .int .i64 th, .int .i64 st] 29)
  have hKa : Keeps No w ((w.alloc (.cells #[.int .u32 h, .slice a n cap, .int .i64 k, .int .i64 tr, .int .i64 th, .int .i64 st] 29)).alloc (.cells #[.int .u8 87, .int .u8 76, .int .u8 79, .int .u8 71] 5 (4, 5))) := ((Keeps.refl No w).alloc _).alloc _
  have hb1 : ((w.alloc (.cells #[.int .u32 h, .slice a n cap, .int .i64 k, .int .i64 tr, .int .i64 th, .int .i64 st] 29)).alloc (.cells #[.int .u8 87, .int .u8 76, .int .u8 79, .int .u8 71] 5 (4, 5))).heap[w.heap.size]? = some (.cells #[.int .u32 h, .slice a n cap, .int .i64 k, .int .i64 tr, .int .i64 th, .int .i64 st] 29 (0, 0)) :=
    (Below.heap_alloc _ _ _ (by simp)).trans hbx
  have hg1 := heap_alloc_new (w.alloc (.cells #[.int .u32 h, .slice a n cap, .int .i64 k, .int .i64 tr, .int .i64 th, .int .i64 st] 29)) (.cells #[.int .u8 87, .int .u8 76, .int .u8 79, .int .u8 71] 5 (4, 5))
  rw [World.size_alloc] at hg1
  have hrd : ∀ j u, (wlog.map (Value.int .u8))[j]? = some u → ((w.alloc (.cells #[.int .u32 h, .slice a n cap, .int .i64 k, .int .i64 tr, .int .i64 th, .int .i64 st] 29)).alloc (.cells #[.int .u8 87, .int .u8 76, .int .u8 79, .int .u8 71] 5 (4, 5))).cell? ((⟨w.heap.size + 1, 0, none⟩ : Addr).add j) = some u := fun j u hu => by
    rw [Addr.add_lit, Nat.zero_add, cell_of_row _ _ j _ _ _ hg1]
    simpa [wlog] using hu
  have hz : w.heap.size + 2 = ((w.alloc (.cells #[.int .u32 h, .slice a n cap, .int .i64 k, .int .i64 tr, .int .i64 th, .int .i64 st] 29)).alloc (.cells #[.int .u8 87, .int .u8 76, .int .u8 79, .int .u8 71] 5 (4, 5))).heap.size := by simp
  have HKA := hid hKa
  have HB1 := hid hb1
  have HRD := hid hrd
  have HZ := hid hz
  clear hbx hKa hb1 hg1 hrd hz
  have d0 : ((w.alloc (.cells #[.int .u32 h, .slice a n cap, .int .i64 k, .int .i64 tr, .int .i64 th, .int .i64 st] 29)).alloc (.cells #[.int .u8 87, .int .u8 76, .int .u8 79, .int .u8 71] 5 (4, 5))).cell? ⟨w.heap.size, 0, none⟩ = some (.int .u32 h) := (box6 HB1.out).1
  go_enter Try.func16, Try.ntmps16
  go_wp2_with fail
  clear d0 hcv
  generalize (w.alloc (.cells #[.int .u32 h, .slice a n cap, .int .i64 k, .int .i64 tr, .int .i64 th, .int .i64 st] 29)).alloc (.cells #[.int .u8 87, .int .u8 76, .int .u8 79, .int .u8 71] 5 (4, 5)) = w1 at *
  go_loopw [3, 4, 5] (fun xv nv i wr => ∃ (j : Nat) (q : Int), j ≤ 4 ∧ i = .int .i64 j ∧ nv = .int .u32 q ∧ 0 ≤ q ∧ q < 4294967296 ∧ Left h j q ∧ ((j = 0 ∧ xv = .slice (some ⟨w.heap.size + 1, 0, none⟩) 4 4) ∨ BRow w1.heap.size wr xv (wlog ++ (le4 h).take j)) ∧ Keeps No w1 wr) (fun _ _ i _ => 4 - (intOf i).toNat)
  case atStart => exact ⟨0, h, by omega, rfl, rfl, h0, h1, .inl ⟨rfl, rfl⟩, .inl ⟨rfl, rfl⟩, Keeps.refl No w1⟩
  case round =>
    obtain ⟨j, q, hj, rfl, rfl, hq0, hq1, hq, hown, hkk⟩ := hrel
    have HKK := hid hkk
    have HQ := hid hq
    clear hkk hq
    by_cases hlt : j < 4
    · obtain ⟨r1, r2⟩ := left_step HQ.out h0 h1 hlt
      have R1 := hid r1
      have R2 := hid r2
      clear r1 r2
      rcases hown with ⟨hj0, rfl⟩ | hown
      · have hrd1 := hid (fun j u hu => HKK.out.cellS (HRD.out j u hu) (fun e => e))
        have hj00 : Hid ((le4 h).take j = []) := hid (by rw [hj0]; rfl)
        clear hj0
        go_wp2_with (at_builtin; go_must (refine wpList_append_full _ rfl (.tmp 15) (.tmp 19) rfl i0 HI.out HZ0.out HZ1.out HZ2.out (w.heap.size + 1) 4 rfl (wlog.map (Value.int .u8)) rfl (fun j u hu => cell_alloc_of wr _ (hrd1.out j u hu)) ⟨wr.heap.size, 0, none⟩ 1 1 ([q % 256].map (Value.int .u8)) rfl rfl (new_cells wr _ _) (by omega) (by omega) ?_); intro cap' w2 hown2 hk2; have HO2 := hid hown2; have HK2 := hid ((HKK.out.alloc _).trans hk2); clear hown2 hk2)
        go_roundw
        case rel =>
          have hx : BRow 0 w2 (.slice (some ⟨wr.heap.size + 1, 0, none⟩) 5 cap') (wlog ++ [q % 256]) := by
            have := HO2.out
            simp only [World.size_alloc] at this
            rw [← List.map_append] at this
            exact this
          refine ⟨j + 1, q / 256, by omega, by go_num, rfl, by omega, by omega, R1.out, .inr ?_, HK2.out⟩
          rw [R2.out, hj00.out]
          exact BRow.up (l := wlog ++ [q % 256]) hx (by have := HKK.out.size; have := HZ.out; omega)
        case measure => simp [intOf]; omega
      · have HOW := hid hown
        clear hown
        have hll : (wlog ++ (le4 h).take j).length = 4 + j := by simp [wlog, le4]; omega
        go_wp2_with (at_builtin; go_must (refine wpList_append_own _ rfl (.tmp 15) (.tmp 19) 31 rfl w1.heap.size 5 i0 (.int .u8 0) 1 1 Try.underlying31 HI.out HZ0.out HZ1.out HZ2.out rfl (by decide) _ _ _ rfl (World.ownsRow.alloc HOW.out _) ⟨wr.heap.size, 0, none⟩ 1 1 ([q % 256].map (Value.int .u8)) rfl rfl (new_cells wr _ _) (bytes_oneCell _) (by unfold maxLen; omega) (by omega) (by have := HKK.out.size; have := HZ.out; simp; omega) ?_); intro v2 w2 hown2 hg2 _; have HO2 := hid hown2; have HG2 := hid hg2; clear hown2 hg2)
        go_roundw
        case rel =>
          have hx : BRow w1.heap.size w2 v2 (wlog ++ (le4 h).take j ++ [q % 256]) := by
            have := HO2.out
            rw [← List.map_append] at this
            exact brow_of this
          refine ⟨j + 1, q / 256, by omega, by go_num, rfl, by omega, by omega, R1.out, .inr (by rw [R2.out, ← List.append_assoc]; exact hx), ?_⟩
          exact (HKK.out.alloc _).trans' ((Keeps.refl (fun k => w1.heap.size ≤ k) _).grown HG2.out (fun k hk => .inl (HOW.out.lt k hk).1)) (fun _ h => h) (fun i hi e => by omega)
        case measure => simp [intOf]; omega
    · obtain rfl : j = 4 := by omega
      have hown := hown.resolve_left (by omega)
      rw [show (le4 h).take 4 = le4 h from rfl] at hown
      have HOW := hid hown
      obtain ⟨d0, d1, d2, d3, d4, d5⟩ := box6 ((HKK.out.block _ (by have := HZ.out; omega) (fun e => e)).trans HB1.out)
      have hl8 : (wlog ++ le4 h).length = 8 := rfl
      have hnum := hid (refnumber_any (n : Int) (by omega) (by omega) wr)
      clear hown
      go_wp2_with (first | (go_at_call 33; refine hnum.out.mono ?_; rintro e w2 ⟨v2, rfl, hr2, hk2⟩; obtain ⟨g2, cap2, rfl, hg2, hc2⟩ := BRow.read hr2 (encN_pos _); have HC2 := hid hc2; have HK2 := hid (HKK.out.trans hk2); have HO2 := hid (BRow.keep HOW.out hk2); clear hr2 hk2 hc2) | (at_builtin; go_must (refine wpList_append_own _ rfl (.tmp 23) (.tmp 27) 31 rfl w1.heap.size 5 i0 (.int .u8 0) 1 1 Try.underlying31 HI.out HZ0.out HZ1.out HZ2.out rfl (by decide) _ _ _ rfl HO2.out ⟨g2, 0, none⟩ (encN n).length cap2 ((encN n).map (Value.int .u8)) rfl (by simp) HC2.out (bytes_oneCell _) (by have := encN_len n; unfold maxLen; omega) (by have := encN_len n; omega) (by have := HK2.out.size; omega) ?_); intro v3 w3 hown3 hg3 _; have HO3 := hid (brow_of (l := wlog ++ le4 h ++ encN n) (by rw [List.map_append]; exact hown3)); have HK3 := hid (HK2.out.trans' (T := No) ((Keeps.refl (fun k => w1.heap.size ≤ k) _).grown hg3 (fun k hk => .inl (HO2.out.lt k hk).1)) (fun _ h => h) (fun i hi e => by omega)); clear hown3 hg3))
      have HC1 := hid (box6 HB1.out)
      have HA1 := hid (HA.out.keep HKA.out (fun _ _ e => e))
      clear HOW HO2 HC2 hnum d0 d1 d2 d3 d4 d5 HK2
      go_loopw [3, 6] (fun xv i wr2 => ∃ j : Nat, j ≤ n ∧ i = .int .i64 j ∧ BRow w1.heap.size wr2 xv (wlog ++ le4 h ++ encN n ++ encTurns (l.take j)) ∧ Keeps No w1 wr2) (fun _ i _ => n - (intOf i).toNat)
      case atStart => exact ⟨0, Nat.zero_le _, rfl, by simpa [encTurns] using HO3.out, HK3.out⟩
      case round =>
        obtain ⟨j, hj, rfl, hrow, hk⟩ := hrel
        have HR := hid hrow
        have HKW := hid hk
        clear hrow hk HO3 HK3
        have d1 := HKW.out.cellS HC1.out.2.1 (fun e => e)
        by_cases hlt : j < n
        · obtain ⟨g, off, rfl, hcl⟩ := HA1.out.resolve_left (by rintro rfl; have := HN.out; simp at this; omega)
          have HX1 := hid (hcl j (by rw [HN.out]; exact hlt)).1
          have HX2 := hid (hcl j (by rw [HN.out]; exact hlt)).2
          have htk : encTurns (l.take (j + 1)) = encTurns (l.take j) ++ ([(l[j]?.getD (0, 0)).1] ++ encN (l[j]?.getD (0, 0)).2) := by
            have hjl : j < l.length := by rw [HN.out]; exact hlt
            unfold encTurns
            rw [List.take_succ_eq_append_getElem hjl, List.flatMap_append]
            simp [hjl]
          have hb := chk_elems l 0 (-1) (by omega) HCHK.out j (by rw [HN.out]; exact hlt)
          have HTK := hid htk
          have hblen : (wlog ++ le4 h ++ encN n ++ encTurns (l.take j)).length ≤ 50000 := by
            have h1 := encN_len n
            have h2 := encTurns_len (l.take j)
            have h3 : (l.take j).length ≤ j := by simp; omega
            simp only [List.length_append, show wlog.length = 4 from rfl, show (le4 h).length = 4 from rfl]
            omega
          clear hcl htk
          generalize (l[j]?.getD (0, 0)).1 = x at *
          generalize (l[j]?.getD (0, 0)).2 = y at *
          have hx8 : IntKind.u8.wrap x = x := by rw [IntKind.wrap_u8]; omega
          have HBB : Hid ((wlog ++ le4 h ++ encN n ++ encTurns (l.take (j + 1))) = (wlog ++ le4 h ++ encN n ++ encTurns (l.take j)) ++ [x] ++ encN y) := hid (by rw [HTK.out]; simp)
          clear HTK
          generalize wlog ++ le4 h ++ encN n ++ encTurns (l.take j) = b at *
          go_wp2_with fail
          refine (wpIn_wide (n := 0)).1 ?_
          refine Sched.region2 (σ := Value × Value × Value) (fun _ => trivial) rfl (by kernel_rfl) [8, 9, 16, 17] (fun s => [u3, .pointer (some ⟨w.heap.size, 1, none⟩), .slice (some ⟨g, off, none⟩) n cap, .int .i64 j, .pointer (some ⟨g, off + j * 2, none⟩), .pointer (some ⟨g, off + j * 2, none⟩), .int .i64 x, .int .u8 x, .slice (some ⟨wr.heap.size, 0, none⟩) 1 1, s.1, .pointer (some ⟨w.heap.size, 1, none⟩), .slice (some ⟨g, off, none⟩) n cap, .int .i64 j, .pointer (some ⟨g, off + j * 2, none⟩), .pointer (some ⟨g, off + j * 2 + 1, none⟩), .int .i64 y, s.2.1, s.2.2, s.2.2]) (G12 w1 wr x y b) (by kernel_rfl) (by kernel_rfl) (fun _ => rfl) (undef, undef, undef) ⟨HKW.out.drew, rfl⟩ ?_ ?_
          · iterate 19
              refine Sched.Steps2.cons ?_ ?_
              rotate_left
            exact Sched.Steps2.nil
            all_goals simp only [List.zip_cons_cons, List.zip_nil_left, List.take_succ_cons, List.take_zero, Sched.putL, Act.put, List.setIfInBounds_toArray, List.set_cons_zero, List.set_cons_succ]
            all_goals intro p hp s w' hG
            all_goals have c1 := hG.1.cellS HC1.out.2.1 (fun e => e)
            all_goals have x1 := hG.1.cellS HX1.out (fun e => e)
            all_goals have x2 := hG.1.cellS HX2.out (fun e => e)
            rotate_left 8
            · rcases p with _ | _ | _ | _ | _ | p
              · obtain ⟨hk, rfl⟩ := hG
                simp [Sched.OkE, go_sem]
                exact ⟨s.1, s.2.1, s.2.2, ⟨hk.alloc _, rfl⟩, Sched.agree_refl _ _⟩
              · exact Sched.not_may hp (by decide +kernel)
              · exact Sched.not_may hp (by decide +kernel)
              · exact Sched.not_may hp (by decide +kernel)
              · exact Sched.not_may hp (by decide +kernel)
              · (exfalso; have hq := Sched.may_le hp; simp only [List.length_cons, List.length_nil] at hq; omega)
            · rcases p with _ | _ | _ | _ | _ | p
              · exact Sched.not_may hp (by decide +kernel)
              · obtain ⟨hk, rfl⟩ := hG
                obtain ⟨g', cap', W3, hrun, hown, hgrow, hat, hgl⟩ := run_append_lies (P := Try.prog) (wr.alloc (.cells #[.int .u8 x] 5)).drew 31 31 w1.heap.size 5 i0 (.int .u8 0) 1 1 Try.underlying31 HI.out HZ0.out HZ1.out HZ2.out rfl (by decide) u3 b.length (b.map (Value.int .u8)) (((Keeps.refl No wr).alloc _).drew.row HR.out (fun _ _ e => e))
                  ⟨wr.heap.size, 0, none⟩ 1 1 ([x].map (Value.int .u8)) rfl (fun j u hu => by have := new_cells wr #[.int .u8 x] 5 j u (by simpa using hu); exact this) (bytes_oneCell _) (by omega) (by unfold maxLen; omega) (by omega) (by have := HKW.out.size; show _ ≤ (wr.alloc _).heap.size; simp; omega) _ rfl
                simp [Sched.OkE, go_sem, hrun]
                refine ⟨_, s.2.1, s.2.2, ⟨?_, ?_⟩, rfl, ?_⟩
                · exact hk.trans' (T := No) ((Keeps.refl (fun k => w1.heap.size ≤ k) _).grown hgrow (fun k hk => .inl (HR.out.lt k hk).1)) (fun _ h => h) (fun i hi e => by omega)
                · exact brow_of (l := b ++ [x]) (by rw [List.map_append]; exact hown)
                · repeat refine Sched.Agree.cons (by first | exact .inl rfl | exact .inr (.inl rfl) | exact .inr (.inr (by decide +kernel))) ?_
                  exact Sched.Agree.nil
              · exact Sched.not_may hp (by decide +kernel)
              · exact Sched.not_may hp (by decide +kernel)
              · exact Sched.not_may hp (by decide +kernel)
              · (exfalso; have hq := Sched.may_le hp; simp only [List.length_cons, List.length_nil] at hq; omega)
            rotate_left 6
            · rcases p with _ | _ | _ | _ | _ | p
              · exact Sched.not_may hp (by decide +kernel)
              · exact Sched.not_may hp (by decide +kernel)
              · obtain ⟨hk, hb1⟩ := hG
                simp [Sched.OkE, go_sem]
                refine (callsIn_wide.2 (refnumber_any y (by omega) (by omega) w')).mono ?_
                rintro e w'' ⟨v, rfl, hr2, hk2⟩
                refine ⟨v, rfl, s.1, v, s.2.2, ⟨hk.trans hk2, BRow.keep hb1 hk2, row_mono hr2 hk.size⟩, rfl, ?_⟩
                · repeat refine Sched.Agree.cons (by first | exact .inl rfl | exact .inr (.inl rfl) | exact .inr (.inr (by decide +kernel))) ?_
                  exact Sched.Agree.nil
              · exact Sched.not_may hp (by decide +kernel)
              · exact Sched.not_may hp (by decide +kernel)
              · (exfalso; have hq := Sched.may_le hp; simp only [List.length_cons, List.length_nil] at hq; omega)
            · rcases p with _ | _ | _ | _ | _ | p
              · exact Sched.not_may hp (by decide +kernel)
              · exact Sched.not_may hp (by decide +kernel)
              · exact Sched.not_may hp (by decide +kernel)
              · obtain ⟨v1, v2, v3⟩ := s
                obtain ⟨hk, hb1, hb2⟩ := hG
                obtain ⟨g2, cap2, rfl, hg2, hc2⟩ := BRow.read hb2 (encN_pos _)
                have hel := encN_len y
                obtain ⟨g', cap', W3, hrun, hown, hgrow, hat, hgl⟩ := run_append_lies (P := Try.prog) w' 31 31 w1.heap.size 5 i0 (.int .u8 0) 1 1 Try.underlying31 HI.out HZ0.out HZ1.out HZ2.out rfl (by decide) v1 (b ++ [x]).length ((b ++ [x]).map (Value.int .u8)) hb1
                  ⟨g2, 0, none⟩ (encN y).length cap2 ((encN y).map (Value.int .u8)) (by simp) hc2 (bytes_oneCell _) (encN_pos _) (by simp; unfold maxLen; omega) (by simp; omega) hk.size _ rfl
                simp [Sched.OkE, go_sem, hrun]
                refine ⟨v1, .slice (some ⟨g2, 0, none⟩) (encN y).length cap2, _, ⟨?_, ?_⟩, rfl, ?_⟩
                · exact hk.trans' (T := No) ((Keeps.refl (fun k => w1.heap.size ≤ k) _).grown hgrow (fun k hk => .inl (hb1.lt k hk).1)) (fun _ h => h) (fun i hi e => by omega)
                · have h9 := brow_of (l := b ++ [x] ++ encN y) (by rw [List.map_append]; exact hown)
                  simpa only [List.length_append, List.length_cons, List.length_nil, Nat.zero_add] using h9
                · repeat refine Sched.Agree.cons (by first | exact .inl rfl | exact .inr (.inl rfl) | exact .inr (.inr (by decide +kernel))) ?_
                  exact Sched.Agree.nil
              · exact Sched.not_may hp (by decide +kernel)
              · (exfalso; have hq := Sched.may_le hp; simp only [List.length_cons, List.length_nil] at hq; omega)
            all_goals
              simp [Sched.OkE, go_sem, c1, x1, x2, hx8, hlt]
              exact hG
          rintro s w' ⟨hk, hb⟩
          have HB2 := hid hb
          have HK2 := hid hk
          clear hb hk
          simp only [List.zip_cons_cons, List.zip_nil_left, Sched.putL, Act.put, List.setIfInBounds_toArray, List.set_cons_zero, List.set_cons_succ]
          go_wp2_with fail
          go_roundw
          case rel => exact ⟨j + 1, by omega, by go_num, by rw [HBB.out]; exact HB2.out, HK2.out⟩
          case measure => simp [intOf]; omega
        · obtain rfl : j = n := by omega
          have hlt : l.take j = l := by rw [← HN.out]; exact List.take_length
          have hb9 : encBody h l k tr th st = (wlog ++ le4 h ++ encN j ++ encTurns l) ++ [k, tr, th] ++ encN st := by rw [← HN.out]; rfl
          have hby : Bytes (encBody h l k tr th st) := bytes_body h0 h1 HCHK.out (by have := HN.out; omega) (by omega) (by omega) (by omega) (by omega)
          have hblen : (wlog ++ le4 h ++ encN j ++ encTurns l).length ≤ 40000 := by
            have h1 := encN_len j
            have h2 := encTurns_len l
            have h3 := HN.out
            simp only [List.length_append, show wlog.length = 4 from rfl, show (le4 h).length = 4 from rfl]
            omega
          have hHR := HR.out
          rw [hlt] at hHR
          have HR1 := hid hHR
          have HB9 := hid hb9
          have HBY := hid hby
          clear hHR hb9 hlt hby HR
          generalize wlog ++ le4 h ++ encN j ++ encTurns l = b at *
          obtain ⟨_, _, d2, d3, d4, d5⟩ := box6 ((HKW.out.block _ (by have := HZ.out; omega) (fun e => e)).trans HB1.out)
          have hk8 : IntKind.u8.wrap k = k := by rw [IntKind.wrap_u8]; omega
          have htr8 : IntKind.u8.wrap tr = tr := by rw [IntKind.wrap_u8]; omega
          have hth8 : IntKind.u8.wrap th = th := by rw [IntKind.wrap_u8]; omega
          have hsl := encN_len st
          go_wp2_with (first
            | (at_builtin; refine wpList_append_own _ rfl (.tmp 54) (.tmp 67) 31 rfl w1.heap.size 5 i0 (.int .u8 0) 1 1 Try.underlying31 HI.out HZ0.out HZ1.out HZ2.out rfl (by decide) _ _ _ rfl (World.ownsRow.alloc HR1.out _) ⟨wr.heap.size, 0, none⟩ 3 3 ([k, tr, th].map (Value.int .u8)) rfl rfl (new_cells wr _ _) (bytes_oneCell _) (by unfold maxLen; omega) (by omega) (by have := HKW.out.size; simp; omega) ?_; intro v5 w5 hown5 hg5 _; have HR5 := hid (brow_of (l := b ++ [k, tr, th]) (by rw [List.map_append]; exact hown5)); have hk5 := (HKW.out.alloc (.cells #[.int .u8 k, .int .u8 tr, .int .u8 th] 5)).trans' (T := No) ((Keeps.refl (fun k => w1.heap.size ≤ k) _).grown hg5 (fun k hk => .inl (HR1.out.lt k hk).1)) (fun _ h => h) (fun i hi e => by omega); have HK5 := hid hk5; have d5b := hk5.cellS HC1.out.2.2.2.2.2 (fun e => e); clear hown5 hg5 hk5 d2 d3 d4 d5)
            | (go_at_call 33; refine (refnumber_any st (by omega) (by omega) _).mono ?_; rintro e w6 ⟨v6, rfl, hr6, hk6⟩; obtain ⟨g6, cap6, rfl, hg6, hc6⟩ := BRow.read hr6 (encN_pos _); have HC6 := hid hc6; have HK6 := hid (HK5.out.trans hk6); have HO6 := hid (BRow.keep HR5.out hk6); clear hr6 hk6 hc6 d5b)
            | (at_builtin; refine wpList_append_own _ rfl (.tmp 69) (.tmp 73) 31 rfl w1.heap.size 5 i0 (.int .u8 0) 1 1 Try.underlying31 HI.out HZ0.out HZ1.out HZ2.out rfl (by decide) _ _ _ rfl HO6.out ⟨g6, 0, none⟩ (encN st).length cap6 ((encN st).map (Value.int .u8)) rfl (by simp) HC6.out (bytes_oneCell _) (by simp; unfold maxLen; omega) (by simp; omega) HK6.out.size ?_; intro v7 w7 hown7 hg7 _; have hr7 : BRow w1.heap.size w7 v7 (encBody h l k tr th st) := (by rw [HB9.out]; exact brow_of (l := b ++ [k, tr, th] ++ encN st) (by rw [List.map_append]; exact hown7)); have HK7 := hid ((HK6.out).trans' (T := No) ((Keeps.refl (fun k => w1.heap.size ≤ k) _).grown hg7 (fun k hk => .inl (HO6.out.lt k hk).1)) (fun _ h => h) (fun i hi e => by omega)); obtain ⟨g7, cap7, rfl, hg7b, hc7⟩ := BRow.read hr7 (by rw [HB9.out]; simp; have := encN_pos st; omega); have HC7 := hid hc7; clear hown7 hg7 hc7 hr7)
            | (go_at_call 20; refine (sealed_some g7 0 cap7 (encBody h l k tr th st).length (encBody h l k tr th st) _ (hid rfl) (by rw [HB9.out]; simp; omega) (hid (fun j hj => by have := HC7.out j _ (by rw [List.getElem?_map, List.getElem?_eq_getElem hj]; rfl); rw [Addr.add_lit] at this; simpa [hj] using this)) HBY).mono ?_; rintro e w8 ⟨v8, rfl, hr8, hk8⟩))
          go_ret
          refine ⟨HKA.out.trans (HK7.out.trans hk8), v8, rfl, ?_⟩
          have h9 := brow_of hr8
          exact row_mono h9 (by have := HKA.out.size; have := HK7.out.size; omega)

end Go.Proofs.Ytnbhphjpefagjaa
