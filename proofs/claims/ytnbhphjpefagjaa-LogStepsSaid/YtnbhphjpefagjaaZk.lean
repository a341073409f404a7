/- Log: the document's Decode. -/
import Derived.Test.YtnbhphjpefagjaaZj
import Derived.Test.YtnbhphjpefagjaaZg
import Derived.Test.YtnbhphjpefagjaaZb
import Derived.Test.YtnbhphjpefagjaaZc
import Derived.Test.YtnbhphjpefagjaaW
namespace Go.Proofs.Ytnbhphjpefagjaa
open Go.RowKit
attribute [-go_sem] Builtin.append_

/-- A part of bytes that may be read. -/
theorem nums_of {w : World} {g off : Nat} {bs : List Int} (h : ∀ j, j < bs.length → w.cell? ⟨g, off + j, none⟩ = some (.int .u8 (bs[j]?.getD 0))) (m : Nat) (hn : m ≤ bs.length) : ∀ i, i < m → w.cell? ⟨g, off + i, none⟩ = some (.int .u8 ((bs.take m).getD i 0)) := by
  intro i hi
  rw [h i (by omega)]
  simp [hi]

/-- The result's box, empty. -/
def Zbox (w0 w : World) : Prop := w.heap[w0.heap.size]? = some (.cells #[.int .u32 0, .slice none 0 0, .int .i64 0, .int .i64 0, .int .i64 0, .int .i64 0] 29 (0, 0)) ∧ Keeps No w0 w

theorem zbox_new (w : World) : Zbox w (w.alloc (.cells #[.int .u32 0, .slice none 0 0, .int .i64 0, .int .i64 0, .int .i64 0, .int .i64 0] 29)) := ⟨heap_alloc_new w _, (Keeps.refl No w).alloc _⟩

theorem Zbox.keep {S : Nat → Prop} {w0 w w' : World} (h : Zbox w0 w) (hk : Keeps S w w') (hS : ∀ i, S i → w0.heap.size < i) : Zbox w0 w' :=
  ⟨(hk.block _ (Array.getElem?_eq_some_iff.1 h.1).1 (fun e => by have := hS _ e; omega)).trans h.1, h.2.trans' hk (fun _ h => h) (fun i hi e => by have := hS _ e; omega)⟩

/-- The box of a result, stored anew. -/
theorem store6 {W : World} {b : Nat} {a0 a1 a2 a3 a4 a5 : Value} (h : W.heap[b]? = some (.cells #[a0, a1, a2, a3, a4, a5] 29 (0, 0))) (v0 v1 v2 v3 v4 v5 : Value) : ∃ W', W' = ((((((W.setCell ⟨b, 0, none⟩ v0).setCell ⟨b, 1, none⟩ v1).setCell ⟨b, 2, none⟩ v2).setCell ⟨b, 3, none⟩ v3).setCell ⟨b, 4, none⟩ v4).setCell ⟨b, 5, none⟩ v5) ∧
    W'.cell? ⟨b, 0, none⟩ = some v0 ∧ W'.cell? ⟨b, 1, none⟩ = some v1 ∧ W'.cell? ⟨b, 2, none⟩ = some v2 ∧ W'.cell? ⟨b, 3, none⟩ = some v3 ∧ W'.cell? ⟨b, 4, none⟩ = some v4 ∧ W'.cell? ⟨b, 5, none⟩ = some v5 ∧ Keeps (fun k => k = b) W W' := by
  refine ⟨_, rfl, ?_⟩
  have h6 := heap_set6 h v0 v1 v2 v3 v4 v5
  obtain ⟨d0, d1, d2, d3, d4, d5⟩ := six_cells h6
  exact ⟨d0, d1, d2, d3, d4, d5, keeps_set6 W b v0 v1 v2 v3 v4 v5⟩

/-- Nothing was taken: the function's end. -/
theorem ref_zero {bs : List Int} {w W : World} {t : Array Value} {n : Int} (hz : Zbox w W) (hd : decM bs = (zeroTk, n)) (h2 : t[2]? = some (.pointer (some ⟨w.heap.size, 0, none⟩))) (h3 : t[3]? = some (.int .i64 n)) :
    bodyPost Try.prog Try.f18 (DecPost bs w) .ret { tmps := t, defers := [] } ((((((W.setCell ⟨w.heap.size, 0, none⟩ (.int .u32 0)).setCell ⟨w.heap.size, 1, none⟩ (.slice none 0 0)).setCell ⟨w.heap.size, 2, none⟩ (.int .i64 0)).setCell ⟨w.heap.size, 3, none⟩ (.int .i64 0)).setCell ⟨w.heap.size, 4, none⟩ (.int .i64 0)).setCell ⟨w.heap.size, 5, none⟩ (.int .i64 0)) := by
  obtain ⟨W', hW, d0, d1, d2, d3, d4, d5, hk⟩ := store6 hz.1 (.int .u32 0) (.slice none 0 0) (.int .i64 0) (.int .i64 0) (.int .i64 0) (.int .i64 0)
  rw [← hW]
  refine ⟨rfl, .tuple #[.agg #[.int .u32 0, .slice none 0 0, .int .i64 0, .int .i64 0, .int .i64 0, .int .i64 0], .int .i64 n], ?_, decPost_zero hd (hz.2.trans' hk (fun _ h => h) (fun i hi e => by omega))⟩
  simp [results, Try.results18, go_sem, h2, h3, d0, d1, d2, d3, d4, d5]

set_option maxRecDepth 100000 in
set_option maxHeartbeats 4000000 in
theorem refdecode_short (a : Option Addr) (cap n : Nat) (bs : List Int) (w : World) (HN : Hid (bs.length = n)) (hs : n < 12) :
    Calls Try.prog 18 #[.slice a n cap] w (DecPost bs w) := by
  have hd : decM bs = (zeroTk, 210) := by unfold decM; rw [if_pos (by rw [HN.out]; exact hs)]
  have HD := hid hd
  have q2 : (n : Int) < 12 := by omega
  have HB := hid (zbox_new w)
  clear hd
  go_enter Try.func18, Try.ntmps18
  go_wp2_with fail
  go_quiet (fail)
  have hz := Zbox.keep HB.out ((Keeps.refl No _).drewN nq) (fun _ h => h.elim)
  have HZ := hid hz
  obtain ⟨d0, d1, d2, d3, d4, d5⟩ := six_cells hz.1
  have f0 := fun i => froz (i := i) hz.1
  clear hz
  generalize (w.alloc (.cells #[.int .u32 0, .slice none 0 0, .int .i64 0, .int .i64 0, .int .i64 0, .int .i64 0] 29)).drewN nq = W at *
  go_wp2_with fail
  exact ref_zero HZ.out HD.out rfl rfl

/-- What was taken: the function's end. -/
theorem ref_done {bs : List Int} {w W : World} {t : Array Value} {h k tr th st : Int} {a : Option Addr} {c B : Nat} {l : List (Int × Int)} (hz : Zbox w W) (hrow : TRow B W (.slice a l.length c) l) (hB : w.heap.size < B) (hd : decM bs = ((h, l, k, tr, th, st), 0)) (h2 : t[2]? = some (.pointer (some ⟨w.heap.size, 0, none⟩))) (h3 : t[3]? = some (.int .i64 0)) :
    bodyPost Try.prog Try.f18 (DecPost bs w) .ret { tmps := t, defers := [] } ((((((W.setCell ⟨w.heap.size, 0, none⟩ (.int .u32 h)).setCell ⟨w.heap.size, 1, none⟩ (.slice a l.length c)).setCell ⟨w.heap.size, 2, none⟩ (.int .i64 k)).setCell ⟨w.heap.size, 3, none⟩ (.int .i64 tr)).setCell ⟨w.heap.size, 4, none⟩ (.int .i64 th)).setCell ⟨w.heap.size, 5, none⟩ (.int .i64 st)) := by
  obtain ⟨W', hW, d0, d1, d2, d3, d4, d5, hk⟩ := store6 hz.1 (.int .u32 h) (.slice a l.length c) (.int .i64 k) (.int .i64 tr) (.int .i64 th) (.int .i64 st)
  rw [← hW]
  have hrow2 := hk.row hrow (fun k hk => by have := (hrow.lt k hk).1; omega)
  obtain ⟨a2, c2, he, hta, hpb⟩ := TRow.form hrow2
  cases he
  refine ⟨rfl, .tuple #[.agg #[.int .u32 h, .slice a l.length c, .int .i64 k, .int .i64 tr, .int .i64 th, .int .i64 st], .int .i64 0], ?_, hz.2.trans' hk (fun _ h => h) (fun i hi e => by omega), a, c, by rw [hd], by rw [hd]; exact hta, fun p hp => ?_⟩
  · simp [results, Try.results18, go_sem, h2, h3, d0, d1, d2, d3, d4, d5]
  · have := (hrow.lt _ (hpb p hp)).1
    omega

/-- The world behind the bytes with their sum. -/
def G1 (W : World) (l : List Int) (p : Nat) (s : Value) (w' : World) : Prop := Keeps No W w' ∧ (p = 0 ∨ BRow W.heap.size w' s l)

/-- The result's box, empty, and what is taken, in a box of its own. -/
def RB (w0 w : World) (b : Nat) (h : Int) (v : Value) (k tr th st : Int) : Prop := Zbox w0 w ∧ w.heap[b]? = some (.cells #[.int .u32 h, v, .int .i64 k, .int .i64 tr, .int .i64 th, .int .i64 st] 29 (0, 0)) ∧ w0.heap.size < b

/-- The world behind the hash's bytes. -/
def G6 (W : World) (h : Int) (p : Nat) (w' : World) : Prop := Keeps No W w' ∧ match p with
  | 0 => w' = W.drew
  | 1 => w' = (W.alloc (.cells #[.int .u32 0, .slice none 0 0, .int .i64 0, .int .i64 0, .int .i64 0, .int .i64 0] 29)).drew
  | _ => w'.heap[W.heap.size]? = some (.cells #[.int .u32 h, .slice none 0 0, .int .i64 0, .int .i64 0, .int .i64 0, .int .i64 0] 29 (0, 0))

set_option maxRecDepth 100000 in
set_option maxHeartbeats 4000000 in
theorem refdecode_long (g off cap nb : Nat) (bs : List Int) (w : World) (HN : Hid (bs.length = nb + 4)) (hn : nb ≤ 50000) (hs : 8 ≤ nb) (hc : nb + 4 ≤ cap)
    (HA : Hid (∀ j, j < bs.length → w.cell? ⟨g, off + j, none⟩ = some (.int .u8 (bs[j]?.getD 0)))) (HB : Hid (Bytes bs)) :
    Calls Try.prog 18 #[.slice (some ⟨g, off, none⟩) (nb + 4) cap] w (DecPost bs w) := by
  have q1 : ¬ (nb : Int) + 4 < 12 := by omega
  have q2 : IntKind.i64.wrap ((nb : Int) + 4 - 4) = (nb : Int) := by rw [IntKind.wrap_i64]; omega
  have q3 : IntKind.i64.wrap (nb : Int) = (nb : Int) := by rw [IntKind.wrap_i64]; omega
  have q5 : nb ≤ cap := by omega
  have q7 : (nb : Int) ≤ (cap : Int) := by omega
  have HX := hid (zbox_new w)
  have hgl : g < w.heap.size := World.block_lt_of_cell? _ _ (HA.out 0 (by have := HN.out; omega))
  have HGL := hid hgl
  have hBB : Bytes (bs.take nb) := bytes_iff.2 fun x hx => bytes_iff.1 HB.out x (List.mem_of_mem_take hx)
  have HBB := hid hBB
  have hlb : (bs.take nb).length = nb := by simp; have := HN.out; omega
  have HLB := hid hlb
  clear hgl hBB hlb
  go_enter Try.func18, Try.ntmps18
  go_wp2_with fail
  generalize hW : w.alloc (.cells #[.int .u32 0, .slice none 0 0, .int .i64 0, .int .i64 0, .int .i64 0, .int .i64 0] 29) = W at *
  have hwz : w.heap.size + 1 = W.heap.size := by rw [← hW]; simp
  have HWZ := hid hwz
  clear hW hwz
  have HAW := hid (fun j hj => HX.out.2.cellS (HA.out j hj) (fun e => e))
  obtain ⟨ls, hls⟩ : ∃ ls, ls = bs.take nb ++ le4 (sumL (bs.take nb)) := ⟨_, rfl⟩
  have hlp : 0 < ls.length := by rw [hls]; simp [le4]
  have HLS := hid hls
  clear hls
  obtain ⟨bq, hbq⟩ : ∃ bq, bq = !((strOfNums ls).toList == (strOfNums bs).toList) := ⟨_, rfl⟩
  refine (wpIn_wide (n := 0)).1 ?_
  refine Sched.region2 (σ := Value) (fun _ => trivial) rfl (by kernel_rfl) [9] (fun s => [.slice (some ⟨g, off, none⟩) (nb + 4) cap, .int .i64 ((nb : Int) + 4), .bool false, .bool false, .slice (some ⟨g, off, none⟩) (nb + 4) cap, .slice (some ⟨g, off, none⟩) (nb + 4) cap, .int .i64 ((nb : Int) + 4), .int .i64 nb, .slice (some ⟨g, off, none⟩) nb cap, s, .string (strOfNums ls), .slice (some ⟨g, off, none⟩) (nb + 4) cap, .string (strOfNums bs), .bool bq, .bool bq]) (G1 W ls) (by kernel_rfl) (by kernel_rfl) (fun _ => rfl) undef ⟨(Keeps.refl No W).drew, .inl rfl⟩ ?_ ?_
  · iterate 15
      refine Sched.Steps2.cons ?_ ?_
      rotate_left
    exact Sched.Steps2.nil
    all_goals simp only [List.zip_cons_cons, List.zip_nil_left, List.take_succ_cons, List.take_zero, Sched.putL, Act.put, List.setIfInBounds_toArray, List.set_cons_zero, List.set_cons_succ]
    all_goals intro p hp s w' hG
    rotate_left 9
    · rcases p with _ | _ | p
      · simp [Sched.OkE, go_sem]
        have hsl := hid (sealed_some g off cap nb (bs.take nb) w' HLB (by omega) (hid (fun j hj => by have := nums_of (fun j hj => hG.1.cellS (HAW.out j hj) (fun e => e)) nb (by rw [HN.out]; omega) j hj; simpa using this)) HBB)
        refine (callsIn_wide.2 hsl.out).mono ?_
        rintro e w'' ⟨v, rfl, hr, hk⟩
        refine ⟨v, rfl, v, ⟨hG.1.trans hk, .inr (by rw [HLS.out]; exact row_mono (brow_of hr) hG.1.size)⟩, rfl, ?_⟩
        repeat refine Sched.Agree.cons (by first | exact .inl rfl | exact .inr (.inl rfl) | exact .inr (.inr (by decide +kernel))) ?_
        exact Sched.Agree.nil
      · exact Sched.not_may hp (by decide +kernel)
      · (exfalso; have hq := Sched.may_le hp; simp only [List.length_cons, List.length_nil] at hq; omega)
    · rcases p with _ | _ | p
      · exact Sched.not_may hp (by decide +kernel)
      · have hrw := hG.2.resolve_left (by omega)
        obtain ⟨g2, cap2, rfl, _, hrd⟩ := hrw.read hlp
        have hcv := run_convert_bytes_arg (P := Try.prog) w' 31 5 Try.underlying31 Try.underlying5 g2 0 _ cap2 ls rfl (fun i hi => by have := hrd i _ (by rw [List.getElem?_map, List.getElem?_eq_getElem hi]; rfl); rw [Addr.add_lit] at this; rw [this]; simp [List.getD, hi]) 9 Try.underlying9
        simp [Sched.OkE, go_sem, hcv]
        exact hG
      · (exfalso; have hq := Sched.may_le hp; simp only [List.length_cons, List.length_nil] at hq; omega)
    rotate_left 1
    · have hcv := run_convert_bytes_arg (P := Try.prog) w' 31 5 Try.underlying31 Try.underlying5 g off (nb + 4) cap bs HN.out (fun i hi => by have := hG.1.cellS (HAW.out i (by rw [HN.out]; exact hi)) (fun e => e); rw [this]; simp [List.getD]) 9 Try.underlying9
      simp [Sched.OkE, go_sem, hcv]
      exact hG
    · simp [Sched.OkE, go_sem]
      exact ⟨hbq, hG⟩
    all_goals
      simp [Sched.OkE, go_sem, q1, q3, q5]
      exact hG
  rintro s W2 ⟨hk2, _⟩
  simp only [List.zip_cons_cons, List.zip_nil_left, Sched.putL, Act.put, List.setIfInBounds_toArray, List.set_cons_zero, List.set_cons_succ]
  have HX2 := hid (Zbox.keep HX.out hk2 (fun _ h => h.elim))
  have HA2 := hid (fun j hj => hk2.cellS (HAW.out j hj) (fun e => e))
  have hz2 := hk2.size
  clear hk2
  have hiff := sealed_iff (nb := nb) HN.out HB.out
  rw [← HLS.out] at hiff
  cases bq with
  | true =>
    have hd : decM bs = (zeroTk, 210) := by
      unfold decM
      rw [if_neg (by rw [HN.out]; omega), show bs.length - 4 = nb by rw [HN.out]; omega, if_neg]
      intro e
      rw [hiff.2 e] at hbq
      simp at hbq
    have HD := hid hd
    obtain ⟨d0, d1, d2, d3, d4, d5⟩ := six_cells HX2.out.1
    have f0 := fun i => froz (i := i) HX2.out.1
    clear hd hbq hiff
    go_wp2_with fail
    exact ref_zero HX2.out HD.out rfl rfl
  | false =>
    have hse : strOfNums ls = strOfNums bs := by
      have h1 : ((strOfNums ls).toList == (strOfNums bs).toList) = true := by simpa using hbq.symm
      rw [beq_iff_eq, ByteArray.toList_eq, ByteArray.toList_eq] at h1
      have h2 : (strOfNums ls).data = (strOfNums bs).data := Array.ext' h1
      cases hx : strOfNums ls
      cases hy : strOfNums bs
      rw [hx, hy] at h2
      simp only at h2
      rw [h2]
    have h4 := hiff.1 hse
    have HDEC := hid (decM_body HN.out (by omega) h4)
    clear hbq hiff hse h4
    have hcv4 := run_convert_bytes_arg (P := Try.prog) W2 31 5 Try.underlying31 Try.underlying5 g off 4 cap (bs.take 4) (by simp; have := HN.out; omega) (nums_of HA2.out 4 (by rw [HN.out]; omega)) 9 Try.underlying9
    obtain ⟨d0, d1, d2, d3, d4, d5⟩ := six_cells HX2.out.1
    have f0 := fun i => froz (i := i) HX2.out.1
    by_cases hw4 : bs.take 4 = [87, 76, 79, 71]
    · have hst : ((strOfNums (bs.take 4)).toList == [87, 76, 79, 71]) = true := by rw [hw4]; exact strOf_wlog_is
      have HLBA : Hid (∀ j, j < nb → W2.cell? ⟨g, off + j, none⟩ = some (.int .u8 ((bs.take nb)[j]?.getD 0))) := hid (fun j hj => by have := nums_of HA2.out nb (by rw [HN.out]; omega) j hj; rw [this]; rfl)
      have hbody := body_is (r := bs.take nb) (by rw [List.take_take, Nat.min_eq_left (by omega)]; exact hw4) (take_drop4 (by rw [HLB.out]; omega))
      rw [hbody] at HDEC
      clear hw4 hbody
      generalize bs.take nb = lb at *
      have x4 := HLBA.out 4 (by omega)
      have x5 := HLBA.out 5 (by omega)
      have x6 := HLBA.out 6 (by omega)
      have x7 := HLBA.out 7 (by omega)
      have b0 := HBB.out 4
      have b1 := HBB.out 5
      have b2 := HBB.out 6
      have b3 := HBB.out 7
      generalize lb[4]?.getD 0 = e0 at *
      generalize lb[5]?.getD 0 = e1 at *
      generalize lb[6]?.getD 0 = e2 at *
      generalize lb[7]?.getD 0 = e3 at *
      have r0 : IntKind.u32.wrap e0 = e0 := u32_small _ (by omega) (by omega)
      have r1 : IntKind.u32.wrap e1 = e1 := u32_small _ (by omega) (by omega)
      have r2 : IntKind.u32.wrap e2 = e2 := u32_small _ (by omega) (by omega)
      have r3 : IntKind.u32.wrap e3 = e3 := u32_small _ (by omega) (by omega)
      have m1 : IntKind.u32.wrap (256 * e1) = 256 * e1 := u32_small _ (by omega) (by omega)
      have m2 : IntKind.u32.wrap (65536 * e2) = 65536 * e2 := u32_small _ (by omega) (by omega)
      have m3 : IntKind.u32.wrap (16777216 * e3) = 16777216 * e3 := u32_small _ (by omega) (by omega)
      have s1 : IntKind.u32.wrap (e0 + 256 * e1) = e0 + 256 * e1 := u32_small _ (by omega) (by omega)
      have s2 : IntKind.u32.wrap (e0 + 256 * e1 + 65536 * e2) = e0 + 256 * e1 + 65536 * e2 := u32_small _ (by omega) (by omega)
      have s3 : IntKind.u32.wrap (e0 + 256 * e1 + 65536 * e2 + 16777216 * e3) = e0 + 256 * e1 + 65536 * e2 + 16777216 * e3 := u32_small _ (by omega) (by omega)
      have l4 : (4 : Int) < nb := by omega
      have l5 : (5 : Int) < nb := by omega
      have l6 : (6 : Int) < nb := by omega
      have l7 : (7 : Int) < nb := by omega
      have n4 : 4 < nb := by omega
      have n5 : 5 < nb := by omega
      have n6 : 6 < nb := by omega
      have n7 : 7 < nb := by omega
      go_wp2_with fail
      refine (wpIn_wide (n := 0)).1 ?_
      refine Sched.region (fun _ => trivial) rfl (by kernel_rfl) [23, 24] [.slice (some ⟨g, off, none⟩) nb cap, .pointer (some ⟨g, off + 4, none⟩), .int .u8 e0, .int .u32 e0, .slice (some ⟨g, off, none⟩) nb cap, .pointer (some ⟨g, off + 5, none⟩), .int .u8 e1, .int .u32 e1, .int .u32 (256 * e1), .int .u32 (e0 + 256 * e1), .slice (some ⟨g, off, none⟩) nb cap, .pointer (some ⟨g, off + 6, none⟩), .int .u8 e2, .int .u32 e2, .int .u32 (65536 * e2), .int .u32 (e0 + 256 * e1 + 65536 * e2), .slice (some ⟨g, off, none⟩) nb cap, .pointer (some ⟨g, off + 7, none⟩), .int .u8 e3, .int .u32 e3, .int .u32 (16777216 * e3), .int .u32 (e0 + 256 * e1 + 65536 * e2 + 16777216 * e3), .agg #[.int .u32 (e0 + 256 * e1 + 65536 * e2 + 16777216 * e3), .slice none 0 0, .int .i64 0, .int .i64 0, .int .i64 0, .int .i64 0], .pointer (some ⟨W2.heap.size, 0, none⟩), undef] (G6 W2 (e0 + 256 * e1 + 65536 * e2 + 16777216 * e3)) (by kernel_rfl) (by kernel_rfl) rfl ⟨(Keeps.refl No W2).drew, rfl⟩ ?_ ?_
      · simp only [List.zip_cons_cons, List.zip_nil_left]
        iterate 25
          refine Sched.Steps.cons ?_ ?_
          rotate_left
        exact Sched.Steps.nil
        all_goals simp only [List.take_succ_cons, List.take_zero, Sched.putL, Act.put, List.setIfInBounds_toArray, List.set_cons_zero, List.set_cons_succ]
        all_goals intro p hp w' hG
        all_goals have y4 := hG.1.cellS x4 (fun e => e)
        all_goals have y5 := hG.1.cellS x5 (fun e => e)
        all_goals have y6 := hG.1.cellS x6 (fun e => e)
        all_goals have y7 := hG.1.cellS x7 (fun e => e)
        rotate_left 23
        · rcases p with _ | _ | _ | p
          · obtain ⟨hk, rfl⟩ := hG
            simp [Sched.Ok, Sched.OkE, go_sem]
            exact ⟨hk.alloc _, rfl⟩
          · exact Sched.not_may hp (by decide +kernel)
          · exact Sched.not_may hp (by decide +kernel)
          · (exfalso; have hq := Sched.may_le hp; simp only [List.length_cons, List.length_nil] at hq; omega)
        · rcases p with _ | _ | _ | p
          · exact Sched.not_may hp (by decide +kernel)
          · obtain ⟨hk, rfl⟩ := hG
            simp [Sched.Ok, Sched.OkE, go_sem]
            exact ⟨((Keeps.refl No W2).alloc _).drew, heap_alloc_new W2 _⟩
          · exact Sched.not_may hp (by decide +kernel)
          · (exfalso; have hq := Sched.may_le hp; simp only [List.length_cons, List.length_nil] at hq; omega)
        all_goals
          simp [Sched.Ok, Sched.OkE, go_sem, y4, y5, y6, y7, r0, r1, r2, r3, m1, m2, m3, s1, s2, s3, l4, l5, l6, l7]
          exact hG
      rintro W3 ⟨hk3, hb3⟩
      simp only [List.zip_cons_cons, List.zip_nil_left, Sched.putL, Act.put, List.setIfInBounds_toArray, List.set_cons_zero, List.set_cons_succ]
      have hrb3 : RB w W3 W2.heap.size (e0 + 256 * e1 + 65536 * e2 + 16777216 * e3) (.slice none 0 0) 0 0 0 0 := ⟨Zbox.keep HX2.out hk3 (fun _ h => h.elim), hb3, by have := HWZ.out; omega⟩
      have HRB3 := hid hrb3
      have HLB3 := hid (fun j hj => hk3.cellS (HLBA.out j hj) (fun e => e))
      rw [show e0 + e1 * 256 + e2 * 65536 + e3 * 16777216 = e0 + 256 * e1 + 65536 * e2 + 16777216 * e3 by omega] at HDEC
      generalize e0 + 256 * e1 + 65536 * e2 + 16777216 * e3 = hv at *
      clear x4 x5 x6 x7 b0 b1 b2 b3 r0 r1 r2 r3 m1 m2 m3 s1 s2 s3 l4 l5 l6 l7 n4 n5 n6 n7 hcv4 d0 d1 d2 d3 d4 d5 f0 hb3 hk3 hrb3 HLBA HA2
      have hg2 : g < W2.heap.size := by have := HGL.out; have := HWZ.out; omega
      have HG2 := hid hg2
      have HCL := hid (fun (W' : World) (hk : Keeps (fun k => W2.heap.size ≤ k) W3 W') j (hj : j < nb) => hk.cellS (p := ⟨g, off + j, none⟩) (HLB3.out j hj) (fun e => by have := HG2.out; simp only at e; omega))
      have hNA := fun (W' : World) (hk : Keeps (fun k => W2.heap.size ≤ k) W3 W') => (show NumsAt .u8 W' (some ⟨g, off, none⟩) lb from .inr ⟨g, off, rfl, fun j hj => HCL.out W' hk j (by rw [← HLB.out]; exact hj)⟩)
      have HNA := hid hNA
      have HTK := hid (fun (W' : World) (k : Nat) (hk8 : k ≤ 60000) (hk : Keeps (fun k => W2.heap.size ≤ k) W3 W') => take_any (some ⟨g, off, none⟩) cap nb k lb W' HLB (by omega) (by omega) (hid (HNA.out W' hk)) HBB)
      have hw3 : W2.heap.size < W3.heap.size := (Array.getElem?_eq_some_iff.1 HRB3.out.2.1).1
      have HW3 := hid hw3
      clear hNA hg2 hw3
      go_wp2_with fail
      refine (HTK.out W3 8 (by omega) (Keeps.refl _ W3)).mono ?_
      rintro e w' ⟨rfl, rfl⟩
      cases hnm : numM (lb.drop 8) with
      | none =>
        have hdm : decM bs = (zeroTk, 211) := by rw [HDEC.out, hnm]
        have HD := hid hdm
        rw [takeM_no hnm]
        obtain ⟨d0, d1, d2, d3, d4, d5⟩ := six_cells HRB3.out.1.1
        have f0 := fun i => froz (i := i) HRB3.out.1.1
        clear hdm hnm
        go_wp2_with fail
        exact ref_zero HRB3.out.1 HD.out rfl rfl
      | some q =>
        obtain ⟨m, r2⟩ := q
        rw [takeM_yes hnm]
        obtain ⟨hr2, hat1, hat2⟩ := numM_drop HBB.out hnm
        obtain ⟨hm0, hm1, _, _⟩ := numM_bd (bytes_drop HBB.out 8) hnm
        rw [hnm] at HDEC
        rw [HLB.out] at hr2 hat1 hat2 ⊢
        generalize hat : nb - r2.length = at0 at *
        have HAT := hid (show at0 ≤ nb ∧ 8 < at0 from ⟨by omega, hat1⟩)
        have HR2 := hid hr2
        have qz : ((at0 : Nat) == 0) = false := by simp; omega
        have qz2 : (((at0 : Nat) : Int) == 0) = false := by simp; omega
        clear hr2 hat1 hat2 hat hnm
        go_wp2_with fail
        obtain ⟨i0, hi, hz0, hz1, hz2⟩ := info_parts Try.info57
        have HI := hid hi
        have HI0 := hid hz0
        have HI1 := hid hz1
        have HI2 := hid hz2
        have HM0 := hid hm0
        have HM1 := hid hm1
        clear hi hz0 hz1 hz2 qz qz2 q1 q2 q3 q5 q7 HX2 HAW HNA
        go_loopw [7, 8] (fun av i wr => ∃ (j k : Nat) (acc : List (Int × Int)) (a : Option Addr) (c : Nat), i = .int .i64 j ∧ av = .int .i64 k ∧ (j : Int) ≤ m ∧ k ≤ nb ∧ turnsGo m.toNat [] r2 = turnsGo (m.toNat - j) acc (lb.drop k) ∧ acc.length = j ∧ 2 * j ≤ k ∧ RB w wr W2.heap.size hv (.slice a acc.length c) 0 0 0 0 ∧ TRow (W2.heap.size + 1) wr (.slice a acc.length c) acc ∧ Keeps (fun k => W2.heap.size ≤ k) W3 wr) (fun _ i _ => m.toNat - (intOf i).toNat)
        case atStart => exact ⟨0, at0, [], none, 0, rfl, rfl, hm0, HAT.out.1, by rw [← HR2.out]; rfl, rfl, by omega, HRB3.out, World.ownsRow_nil _ _ _ _, Keeps.refl _ _⟩
        case round =>
          obtain ⟨j, k, acc, a, c, rfl, rfl, hjm, hk, htg, hacc, hjk, hrb, hrow, hkk⟩ := hrel
          have HTG := hid htg
          have HACC := hid hacc
          have HRB := hid hrb
          have HROW := hid hrow
          have HKK := hid hkk
          have hs3 := hkk.size
          clear htg hacc hrb hrow hkk HRB3 HR2 HAT
          obtain ⟨d0, d1, d2, d3, d4, d5⟩ := six_cells HRB.out.1.1
          have f0 := fun i => froz (i := i) HRB.out.1.1
          by_cases hlt : (j : Int) < m
          · have HF := hid (show m.toNat - j = (m.toNat - (j + 1)) + 1 by omega)
            by_cases hkn : k < nb
            · have hdr := drop_cons (lb := lb) (k := k) (by rw [HLB.out]; exact hkn)
              have y := HCL.out wr HKK.out k hkn
              have hcb := HBB.out k
              rw [hdr] at HTG
              clear hdr
              generalize lb[k]?.getD 0 = c0 at *
              have wk : IntKind.i64.wrap ((k : Int) + 1) = ((k + 1 : Nat) : Int) := by rw [IntKind.wrap_i64]; omega
              have wc : IntKind.i64.wrap c0 = c0 := by rw [IntKind.wrap_i64]; omega
              have hkn2 : ¬ (nb : Int) ≤ (k : Int) := by omega
              go_wp2_with fail
              refine (HTK.out wr (k + 1) (by omega) HKK.out).mono ?_
              rintro e w' ⟨rfl, rfl⟩
              cases hnm2 : numM (lb.drop (k + 1)) with
              | none =>
                have hdm : decM bs = (zeroTk, 211) := by rw [HDEC.out]; simp only [HTG.out, HF.out, turnsGo_none hnm2]
                have HD := hid hdm
                rw [takeM_no hnm2]
                clear hdm hnm2
                go_wp2_with fail
                exact ref_zero HRB.out.1 HD.out rfl rfl
              | some q =>
                obtain ⟨s, r''⟩ := q
                rw [takeM_yes hnm2]
                obtain ⟨hr3, hat3, hat4⟩ := numM_drop HBB.out hnm2
                obtain ⟨hs0, hs1, _, _⟩ := numM_bd (bytes_drop HBB.out (k + 1)) hnm2
                have HTG2' := hid (show turnsGo m.toNat [] r2 = turnsGo (m.toNat - (j + 1)) (acc ++ [(c0, s)]) r'' by rw [HTG.out, HF.out, turnsGo_some hnm2])
                rw [HLB.out] at hr3 hat3 hat4 ⊢
                generalize hat : nb - r''.length = k2 at *
                have HTG2 := HTG2'
                rw [hr3] at HTG2
                clear HTG2'
                have qz : ((k2 : Nat) == 0) = false := by simp; omega
                have qz2 : (((k2 : Nat) : Int) == 0) = false := by simp; omega
                have hk2n : k2 ≤ nb := by omega
                clear hr3 hat hnm2
                go_wp2_with fail
                obtain ⟨_, c1, _, _, _, _⟩ := six_cells HRB.out.2.1
                have c1a := cell_alloc_of wr (.cells #[.int .i64 c0, .int .i64 s] 57) c1
                obtain ⟨g', cap', W10, hrun, hown, hgrow, hat, hgl⟩ := run_append_lies (P := Try.prog) (wr.alloc (.cells #[.int .i64 c0, .int .i64 s] 57)).drew 23 23 (W2.heap.size + 1) 57 i0 (.agg #[.int .i64 0, .int .i64 0]) 2 16 Try.underlying23 HI.out HI0.out HI1.out HI2.out rfl (by decide) (.slice a acc.length c) acc.length (cells2 acc) (((Keeps.refl No wr).alloc _).drew.row HROW.out (fun _ _ e => e))
                  ⟨wr.heap.size, 0, none⟩ 1 1 [.int .i64 c0, .int .i64 s] rfl (fun j u hu => new_cells wr #[.int .i64 c0, .int .i64 s] 57 j u hu) (by simp [Value.oneCell']) (by omega) (by have := HACC.out; unfold maxLen; omega) (by have := HACC.out; omega) (by have := HW3.out; show _ ≤ (wr.alloc _).heap.size; simp; omega) _ rfl
                have hk10 : Keeps (fun k => W2.heap.size + 1 ≤ k) wr W10 := (((Keeps.refl (fun k => W2.heap.size + 1 ≤ k) wr).alloc (.cells #[.int .i64 c0, .int .i64 s] 57)).drew).grown hgrow (fun k hk => .inl (HROW.out.lt k hk).1)
                have hb10 := (hk10.block W2.heap.size (by have := HW3.out; omega) (by omega)).trans HRB.out.2.1
                obtain ⟨_, c2, _, _, _, _⟩ := six_cells hb10
                have f2 := froz (i := 1) hb10
                have HK10 := hid hk10
                have HB10 := hid hb10
                have HOWN := hid hown
                clear hk10 hb10 hown hgrow hat hgl
                refine (wpIn_wide (n := 0)).1 ?_
                refine Sched.region (fun _ => trivial) rfl (by kernel_rfl) [9, 10, 12] [.pointer (some ⟨W2.heap.size, 1, none⟩), .slice a acc.length c, .slice (some ⟨g, off, none⟩) nb cap, .int .i64 k, .pointer (some ⟨g, off + k, none⟩), .int .u8 c0, .int .i64 c0, .int .i64 s, .agg #[.int .i64 c0, .int .i64 s], .slice (some ⟨wr.heap.size, 0, none⟩) 1 1, .slice (some ⟨g', 0, none⟩) (acc.length + 1) cap', .pointer (some ⟨W2.heap.size, 1, none⟩), undef] (fun p wp => match p with | 0 => wp = wr.drew | 1 => wp = (wr.alloc (.cells #[.int .i64 c0, .int .i64 s] 57)).drew | 2 => wp = W10 | _ => wp = W10.setCell ⟨W2.heap.size, 1, none⟩ (.slice (some ⟨g', 0, none⟩) (acc.length + 1) cap')) (by kernel_rfl) (by kernel_rfl) rfl rfl ?_ ?_
                · simp only [List.zip_cons_cons, List.zip_nil_left]
                  iterate 13
                    refine Sched.Steps.cons ?_ ?_
                    rotate_left
                  exact Sched.Steps.nil
                  all_goals simp only [List.take_succ_cons, List.take_zero, Sched.putL, Act.put, List.setIfInBounds_toArray, List.set_cons_zero, List.set_cons_succ]
                  all_goals (intro p hp w' hw; rcases p with _ | _ | _ | _ | p)
                  all_goals first | exact Sched.not_may hp (by decide +kernel) | (exfalso; have hq := Sched.may_le hp; simp only [List.length_cons, List.length_nil] at hq; omega) | (cases hw; clear hp; simp [Sched.Ok, Sched.OkE, go_sem, *]; done) | trace_state
                rintro _ rfl
                simp only [List.zip_cons_cons, List.zip_nil_left, Sched.putL, Act.put, List.setIfInBounds_toArray, List.set_cons_zero, List.set_cons_succ]
                have hll : (acc ++ [(c0, s)]).length = acc.length + 1 := by simp
                have hks := Keeps.set_at W10 W2.heap.size 1 (.slice (some ⟨g', 0, none⟩) (acc.length + 1) cap')
                have hrb11 : RB w (W10.setCell ⟨W2.heap.size, 1, none⟩ (.slice (some ⟨g', 0, none⟩) (acc.length + 1) cap')) W2.heap.size hv (.slice (some ⟨g', 0, none⟩) (acc ++ [(c0, s)]).length cap') 0 0 0 0 := by
                  rw [hll]
                  exact ⟨Zbox.keep (Zbox.keep HRB.out.1 HK10.out (fun i hi => by have := HRB.out.2.2; omega)) hks (by rintro i rfl; exact HRB.out.2.2), heap_setCell_row HB10.out, HRB.out.2.2⟩
                have hrow11 : TRow (W2.heap.size + 1) (W10.setCell ⟨W2.heap.size, 1, none⟩ (.slice (some ⟨g', 0, none⟩) (acc.length + 1) cap')) (.slice (some ⟨g', 0, none⟩) (acc ++ [(c0, s)]).length cap') (acc ++ [(c0, s)]) := by
                  unfold TRow
                  rw [hll, cells2_snoc]
                  exact hks.row HOWN.out (fun k hk => by cases hk; show ¬ g' = W2.heap.size; have := (HOWN.out.lt g' rfl).1; omega)
                have hkk11 := (HKK.out.trans (HK10.out.mono (T := fun k => W2.heap.size ≤ k) (fun i hi => by omega))).trans (hks.mono (fun i hi => by omega))
                have HRB11 := hid hrb11
                have HROW11 := hid hrow11
                have HKK11 := hid hkk11
                clear hks hrb11 hrow11 hkk11 c2 f2 hrun
                generalize W10.setCell ⟨W2.heap.size, 1, none⟩ (.slice (some ⟨g', 0, none⟩) (acc.length + 1) cap') = W11 at *
                go_wp2_with fail
                go_roundw
                case rel => exact ⟨j + 1, k2, acc ++ [(c0, s)], some ⟨g', 0, none⟩, cap', by go_num, rfl, by omega, hk2n, HTG2.out, by rw [hll, HACC.out], by omega, HRB11.out, HROW11.out, HKK11.out⟩
                case measure => simp [intOf]; omega
            · have hdm : decM bs = (zeroTk, 211) := by rw [HDEC.out]; simp only [HTG.out, HF.out, List.drop_of_length_le (show lb.length ≤ k from by rw [HLB.out]; omega), turnsGo_nil]
              have HD := hid hdm
              clear hdm
              go_wp2_with fail
              exact ref_zero HRB.out.1 HD.out rfl rfl
          · have hend : turnsGo m.toNat [] r2 = some (acc, lb.drop k) := by rw [HTG.out, show m.toNat - j = 0 by omega]; rfl
            have hbody : decM bs = match endM hv acc (lb.drop k) with
                | none => (zeroTk, 211)
                | some t => (t, 0) := by rw [HDEC.out]; simp only [hend]; rfl
            have HDEC2 := hid hbody
            have HN65 := hid (show acc.length ≤ 65536 from by have := HACC.out; omega)
            clear hend hbody HTG HDEC HI HI0 HI1 HI2
            have wk4 : IntKind.i64.wrap ((k : Int) + 4) = (k : Int) + 4 := by rw [IntKind.wrap_i64]; omega
            by_cases hk4 : nb < k + 4
            · have hk4i : (nb : Int) < (k : Int) + 4 := by omega
              have hdm : decM bs = (zeroTk, 211) := by rw [HDEC2.out, endM_short (by simp; have := HLB.out; omega)]
              have HD := hid hdm
              clear hdm
              go_wp2_with fail
              exact ref_zero HRB.out.1 HD.out rfl rfl
            · have hk4i : ¬ (nb : Int) < (k : Int) + 4 := by omega
              rw [endM_at (by rw [HLB.out]; omega)] at HDEC2
              have y0 := HCL.out wr HKK.out k (by omega)
              obtain ⟨ka, hka⟩ : ∃ ka, ka = k + 1 := ⟨_, rfl⟩
              obtain ⟨kb, hkb⟩ : ∃ kb, kb = k + 2 := ⟨_, rfl⟩
              rw [← hka, ← hkb] at HDEC2
              have y1 := HCL.out wr HKK.out ka (by omega)
              have y2 := HCL.out wr HKK.out kb (by omega)
              have b0 := HBB.out k
              have b1 := HBB.out ka
              have b2 := HBB.out kb
              generalize lb[k]?.getD 0 = x0 at *
              generalize lb[ka]?.getD 0 = x1 at *
              generalize lb[kb]?.getD 0 = x2 at *
              have wc0 : IntKind.i64.wrap x0 = x0 := by rw [IntKind.wrap_i64]; omega
              have wc1 : IntKind.i64.wrap x1 = x1 := by rw [IntKind.wrap_i64]; omega
              have wc2 : IntKind.i64.wrap x2 = x2 := by rw [IntKind.wrap_i64]; omega
              have wk1 : IntKind.i64.wrap ((k : Int) + 1) = (ka : Int) := by rw [IntKind.wrap_i64]; omega
              have wk2 : IntKind.i64.wrap ((k : Int) + 2) = (kb : Int) := by rw [IntKind.wrap_i64]; omega
              have wk3 : IntKind.i64.wrap ((k : Int) + 3) = ((k + 3 : Nat) : Int) := by rw [IntKind.wrap_i64]; omega
              have k0 : k < nb := by omega
              have k1 : ka < nb := by omega
              have k2 : kb < nb := by omega
              clear hka hkb
              go_wp2_with fail
              refine (HTK.out wr (k + 3) (by omega) HKK.out).mono ?_
              rintro e w' ⟨rfl, rfl⟩
              obtain ⟨st, en, htk⟩ : ∃ st en, takeM lb (k + 3) = (st, en) := ⟨_, _, rfl⟩
              rw [htk]
              have HTKE := hid htk
              clear htk
              go_wp2_with fail
              obtain ⟨_, _, c2, c3, c4, c5⟩ := six_cells HRB.out.2.1
              have g0 := fun i => froz (i := i) HRB.out.2.1
              have hend23 : RB w ((((wr.drew.setCell ⟨W2.heap.size, 2, none⟩ (.int .i64 x0)).setCell ⟨W2.heap.size, 3, none⟩ (.int .i64 x1)).setCell ⟨W2.heap.size, 4, none⟩ (.int .i64 x2)).setCell ⟨W2.heap.size, 5, none⟩ (.int .i64 st)) W2.heap.size hv (.slice a acc.length c) x0 x1 x2 st ∧ TRow (W2.heap.size + 1) ((((wr.drew.setCell ⟨W2.heap.size, 2, none⟩ (.int .i64 x0)).setCell ⟨W2.heap.size, 3, none⟩ (.int .i64 x1)).setCell ⟨W2.heap.size, 4, none⟩ (.int .i64 x2)).setCell ⟨W2.heap.size, 5, none⟩ (.int .i64 st)) (.slice a acc.length c) acc := by
                have hks : Keeps (fun k => k = W2.heap.size) wr ((((wr.drew.setCell ⟨W2.heap.size, 2, none⟩ (.int .i64 x0)).setCell ⟨W2.heap.size, 3, none⟩ (.int .i64 x1)).setCell ⟨W2.heap.size, 4, none⟩ (.int .i64 x2)).setCell ⟨W2.heap.size, 5, none⟩ (.int .i64 st)) :=
                  (((((Keeps.refl _ wr).drew).trans (Keeps.set_at _ W2.heap.size 2 _)).trans (Keeps.set_at _ W2.heap.size 3 _)).trans (Keeps.set_at _ W2.heap.size 4 _)).trans (Keeps.set_at _ W2.heap.size 5 _)
                exact ⟨⟨Zbox.keep HRB.out.1 hks (by rintro i rfl; exact HRB.out.2.2), heap_setCell_row (heap_setCell_row (heap_setCell_row (heap_setCell_row (w := wr.drew) HRB.out.2.1))), HRB.out.2.2⟩, hks.row HROW.out (fun k hk => by have := (HROW.out.lt k hk).1; omega)⟩
              have HE23 := hid hend23
              clear hend23
              refine (wpIn_wide (n := 0)).1 ?_
              refine Sched.region (fun _ => trivial) rfl (by kernel_rfl) [20] [.slice (some ⟨g, off, none⟩) nb cap, .int .i64 k, .pointer (some ⟨g, off + k, none⟩), .int .u8 x0, .int .i64 x0, .slice (some ⟨g, off, none⟩) nb cap, .int .i64 k, .int .i64 ka, .pointer (some ⟨g, off + ka, none⟩), .int .u8 x1, .int .i64 x1, .slice (some ⟨g, off, none⟩) nb cap, .int .i64 k, .int .i64 kb, .pointer (some ⟨g, off + kb, none⟩), .int .u8 x2, .int .i64 x2, .int .i64 st, .agg #[.int .i64 x0, .int .i64 x1, .int .i64 x2, .int .i64 st], .pointer (some ⟨W2.heap.size, 2, none⟩), undef] (fun p wp => match p with | 0 => wp = wr.drew | _ => RB w wp W2.heap.size hv (.slice a acc.length c) x0 x1 x2 st ∧ TRow (W2.heap.size + 1) wp (.slice a acc.length c) acc) (by kernel_rfl) (by kernel_rfl) rfl rfl ?_ ?_
              · simp only [List.zip_cons_cons, List.zip_nil_left]
                iterate 21
                  refine Sched.Steps.cons ?_ ?_
                  rotate_left
                exact Sched.Steps.nil
                all_goals simp only [List.take_succ_cons, List.take_zero, Sched.putL, Act.put, List.setIfInBounds_toArray, List.set_cons_zero, List.set_cons_succ]
                all_goals (intro p hp w' hw; rcases p with _ | _ | p)
                all_goals first | exact Sched.not_may hp (by decide +kernel) | (exfalso; have hq := Sched.may_le hp; simp only [List.length_cons, List.length_nil] at hq; omega) | (cases hw; clear hp; simp [Sched.Ok, Sched.OkE, go_sem, *]; done) | (cases hw; clear hp; simp [Sched.Ok, Sched.OkE, go_sem, *]; exact HE23.out)
              rintro W12 ⟨hrb12, hrow12⟩
              have HRB12 := hid hrb12
              have HROW12 := hid hrow12
              clear hrb12 hrow12 HE23 c2 c3 c4 c5 g0 y0 y1 y2 d0 d1 d2 d3 d4 d5 f0
              simp only [List.zip_cons_cons, List.zip_nil_left, Sched.putL, Act.put, List.setIfInBounds_toArray, List.set_cons_zero, List.set_cons_succ]
              obtain ⟨d0, d1, d2, d3, d4, d5⟩ := six_cells HRB12.out.1.1
              have f0 := fun i => froz (i := i) HRB12.out.1.1
              obtain ⟨u0, u1, u2, u3, u4, u5⟩ := six_cells HRB12.out.2.1
              by_cases hen : en = nb
              · have hsome : numM (lb.drop (k + 3)) = some (st, []) := by
                  have h1 := HTKE.out
                  unfold takeM at h1
                  cases hq : numM (lb.drop (k + 3)) with
                  | none => rw [hq] at h1; simp only [Prod.mk.injEq] at h1; omega
                  | some q =>
                    obtain ⟨v, r5⟩ := q
                    rw [hq] at h1
                    simp only [Prod.mk.injEq] at h1
                    have h2 := (numM_drop HBB.out hq).2.2
                    have h3 := HLB.out
                    obtain rfl : r5 = [] := List.eq_nil_of_length_eq_zero (by omega)
                    rw [h1.1]
                rw [hsome] at HDEC2
                simp only at HDEC2
                subst hen
                have hck := refcheck_any hv x0 x1 x2 st a c acc.length acc W12 (hid rfl) HN65.out (hid (by obtain ⟨a2, c2, he, hta, _⟩ := HROW12.out.form; cases he; exact hta))
                have HCK := hid hck
                clear hck hsome
                cases hok : okB acc x0 x1 x2 st with
                | false =>
                  rw [hok] at HDEC2 HCK
                  have hdm : decM bs = (zeroTk, 211) := by rw [HDEC2.out]; rfl
                  have HD := hid hdm
                  clear hdm hok
                  go_wp2_with (go_at_call 14; refine HCK.out.mono ?_; rintro e V10 ⟨rfl, hk10⟩; have HZ10 := hid (Zbox.keep HRB12.out.1 hk10 (fun _ h => h.elim)); clear d0 d1 d2 d3 d4 d5 f0; obtain ⟨d0, d1, d2, d3, d4, d5⟩ := six_cells HZ10.out.1; have f0 := fun i => froz (i := i) HZ10.out.1; clear hk10)
                  exact ref_zero HZ10.out HD.out rfl rfl
                | true =>
                  rw [hok] at HDEC2 HCK
                  have hdm : decM bs = ((hv, acc, x0, x1, x2, st), 0) := by rw [HDEC2.out]; rfl
                  have HD := hid hdm
                  clear hdm hok
                  go_wp2_with (go_at_call 14; refine HCK.out.mono ?_; rintro e V10 ⟨rfl, hk10⟩; have HZ10 := hid (Zbox.keep HRB12.out.1 hk10 (fun _ h => h.elim)); have HROW10 := hid (hk10.row HROW12.out (fun _ _ h => h)); clear d0 d1 d2 d3 d4 d5 f0; obtain ⟨d0, d1, d2, d3, d4, d5⟩ := six_cells HZ10.out.1; have f0 := fun i => froz (i := i) HZ10.out.1; have hb10 := (hk10.block _ (Array.getElem?_eq_some_iff.1 HRB12.out.2.1).1 (fun e => e)).trans HRB12.out.2.1; clear u0 u1 u2 u3 u4 u5; obtain ⟨u0, u1, u2, u3, u4, u5⟩ := six_cells hb10; clear hk10 hb10)
                  exact ref_done HZ10.out HROW10.out (by have := HWZ.out; omega) HD.out rfl rfl
              · have hne : ((en : Int) == (nb : Int)) = false := by simp; omega
                have hne2 : ((en : Nat) == nb) = false := by simpa using hen
                have hdm : decM bs = (zeroTk, 211) := by
                  rw [HDEC2.out]
                  have h1 := HTKE.out
                  unfold takeM at h1
                  cases hq : numM (lb.drop (k + 3)) with
                  | none => rfl
                  | some q =>
                    obtain ⟨v, r5⟩ := q
                    rw [hq] at h1
                    simp only [Prod.mk.injEq] at h1
                    have h3 := HLB.out
                    cases r5 with
                    | nil => simp at h1; omega
                    | cons z r6 => rfl
                have HD := hid hdm
                clear hdm
                go_wp2_with fail
                exact ref_zero HRB12.out.1 HD.out rfl rfl
    · have hst := strOf_wlog (bytes_iff.2 fun x hx => bytes_iff.1 HB.out x (List.mem_of_mem_take hx)) hw4
      have hdm : decM bs = (zeroTk, 211) := by
        rw [HDEC.out, body_not (by rw [List.take_take, Nat.min_eq_left (by omega)]; exact hw4)]
      have HD := hid hdm
      clear hdm hw4
      go_wp2_with fail
      exact ref_zero HX2.out HD.out rfl rfl

end Go.Proofs.Ytnbhphjpefagjaa
