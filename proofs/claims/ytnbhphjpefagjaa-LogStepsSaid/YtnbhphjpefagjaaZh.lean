/- Log: Decode, up to what it defers. -/
import Derived.Test.YtnbhphjpefagjaaZg
import Derived.Test.YtnbhphjpefagjaaZi
import Derived.Test.YtnbhphjpefagjaaW
import Derived.Deep.RegionHeld3
namespace Go.Proofs.Ytnbhphjpefagjaa
open Go.RowKit

/-- A part of bytes that may be read. -/
theorem nums_part {w : World} {g off n : Nat} {bs : List Int} (h : ∀ j, j < bs.length → w.cell? ⟨g, off + j, none⟩ = some (.int .u8 (bs[j]?.getD 0))) (i m : Nat) (hn : i + m ≤ bs.length) (hm : n = off + i) : NumsAt .u8 w (some ⟨g, n, none⟩) ((bs.drop i).take m) := by
  subst hm
  refine .inr ⟨g, off + i, rfl, fun j hj => ?_⟩
  simp only [List.length_take, List.length_drop] at hj
  rw [Nat.add_assoc, h (i + j) (by omega), List.getElem?_take, if_pos (by omega), List.getElem?_drop]

theorem bytes_part {bs : List Int} (h : Bytes bs) (i m : Nat) : Bytes ((bs.drop i).take m) := by
  rw [bytes_iff] at h ⊢
  intro x hx
  exact h x (List.mem_of_mem_drop (List.mem_of_mem_take hx))

/-- The world behind the readers of the sum. -/
def G2 (W : World) (g off nb cap : Nat) (p : Nat) (w' : World) : Prop :=
  Keeps No W w' ∧ match p with
  | 0 => w' = W.drew
  | 1 => w' = (W.alloc (.cells #[.slice (some ⟨g, off + nb, none⟩) 4 (cap - nb)] 78)).drew
  | _ => True

/-- What was given up with is caught: nothing was taken. -/
theorem dec_caught {bs : List Int} {w W : World} {tmps : Array Value} (h2 : tmps[2]? = some (.pointer (some ⟨w.heap.size, 0, none⟩))) (h3 : tmps[3]? = some (.pointer (some ⟨w.heap.size + 1, 0, none⟩))) {h k tr th st e : Int} {v : Value} (hb : Boxes w W h v k tr th st e) (hd : decM bs = (zeroTk, 211)) :
    Leaves Try.prog Try.f17 tmps (DecPost bs w) [{ target := .fn (.func 35) #[.pointer (some ⟨w.heap.size, 0, none⟩), .pointer (some ⟨w.heap.size + 1, 0, none⟩)], args := #[] }] (.panicking gaveUp) W := by
  refine leaves_cons (f := 35) (args := #[.pointer (some ⟨w.heap.size, 0, none⟩), .pointer (some ⟨w.heap.size + 1, 0, none⟩)]) (by simp) (by simp [go_sem]) ?_
  refine (catch_log w.heap.size (w.heap.size + 1) _ _ _ _ _ _ _ W hb.1 hb.2.1 (by omega)).mono ?_
  rintro e u' w'' ⟨rfl, rfl, hk, h1, h5⟩
  have hk2 : Keeps No w w'' := hb.2.2.trans' hk (fun _ h => h) (fun i hi e => by omega)
  obtain ⟨d0, d1, d2, d3, d4, d5⟩ := six_cells h1
  have de : w''.cell? ⟨w.heap.size + 1, 0, none⟩ = some (.int .i64 211) := by rw [cell_of_row w'' _ _ _ _ _ h5]; rfl
  show Leaves _ _ _ _ [] (settle _) _
  simp only [settle, List.dropWhile]
  refine ⟨.tuple #[.agg #[.int .u32 0, .slice none 0 0, .int .i64 0, .int .i64 0, .int .i64 0, .int .i64 0], .int .i64 211], ?_, decPost_zero hd hk2⟩
  simp [results, Try.results17, go_sem, h2, h3, d0, d1, d2, d3, d4, d5, de]

/-- Where nothing was given up: what was taken. -/
theorem dec_ended {bs : List Int} {w W : World} {tmps : Array Value} (h2 : tmps[2]? = some (.pointer (some ⟨w.heap.size, 0, none⟩))) (h3 : tmps[3]? = some (.pointer (some ⟨w.heap.size + 1, 0, none⟩))) {h k tr th st : Int} {a : Option Addr} {c B : Nat} {l : List (Int × Int)} (hb : Boxes w W h (.slice a l.length c) k tr th st 0)
    (hrow : TRow B W (.slice a l.length c) l) (hB : w.heap.size ≤ B) (hd : decM bs = ((h, l, k, tr, th, st), 0)) :
    Leaves Try.prog Try.f17 tmps (DecPost bs w) [{ target := .fn (.func 35) #[.pointer (some ⟨w.heap.size, 0, none⟩), .pointer (some ⟨w.heap.size + 1, 0, none⟩)], args := #[] }] .returning W := by
  refine leaves_cons (f := 35) (args := #[.pointer (some ⟨w.heap.size, 0, none⟩), .pointer (some ⟨w.heap.size + 1, 0, none⟩)]) (by simp) (by simp [go_sem]) ?_
  refine (catch_idle w.heap.size (w.heap.size + 1) W).mono ?_
  rintro e u' w'' ⟨rfl, rfl, rfl⟩
  obtain ⟨d0, d1, d2, d3, d4, d5, de⟩ := boxes_cells hb
  show Leaves _ _ _ _ [] (settle _) _
  simp only [settle]
  refine ⟨.tuple #[.agg #[.int .u32 h, .slice a l.length c, .int .i64 k, .int .i64 tr, .int .i64 th, .int .i64 st], .int .i64 0], ?_, hb.2.2, a, c, by rw [hd], ?_, ?_⟩
  · simp [results, Try.results17, go_sem, h2, h3, d0, d1, d2, d3, d4, d5, de]
  · rw [hd]
    obtain ⟨a2, c2, he, hta, _⟩ := hrow.form
    cases he
    exact hta
  · intro p hp
    obtain ⟨a2, c2, he, _, hpb⟩ := hrow.form
    cases he
    have := (hrow.lt _ (hpb p hp)).1
    omega

/-- The results' cells are none of the row's. -/
theorem row_store {w W : World} {B : Nat} {v : Value} {l : List (Int × Int)} (hrow : TRow B W v l) (hB : w.heap.size + 2 ≤ B) (v0 v1 v2 v3 v4 v5 v6 : Value) :
    TRow B (((((((W.setCell ⟨w.heap.size, 0, none⟩ v0).setCell ⟨w.heap.size, 1, none⟩ v1).setCell ⟨w.heap.size, 2, none⟩ v2).setCell ⟨w.heap.size, 3, none⟩ v3).setCell ⟨w.heap.size, 4, none⟩ v4).setCell ⟨w.heap.size, 5, none⟩ v5).setCell ⟨w.heap.size + 1, 0, none⟩ v6) v l := by
  have k6 := keeps_set6 W w.heap.size v0 v1 v2 v3 v4 v5
  have h6 := k6.row hrow (fun k hk e => by have := (hrow.lt k hk).1; omega)
  exact (Keeps.set_at _ (w.heap.size + 1) 0 v6).row h6 (fun k hk e => by have := (hrow.lt k hk).1; omega)

set_option maxRecDepth 100000 in
set_option maxHeartbeats 4000000 in
theorem decode_long (g off cap nb : Nat) (bs : List Int) (w : World) (HN : Hid (bs.length = nb + 4)) (hn : nb ≤ 50000) (hs : 8 ≤ nb) (hc : nb + 4 ≤ cap) (hcm : cap ≤ 9223372036854775807)
    (HA : Hid (∀ j, j < bs.length → w.cell? ⟨g, off + j, none⟩ = some (.int .u8 (bs[j]?.getD 0)))) (HB : Hid (Bytes bs)) :
    Calls Try.prog 17 #[.slice (some ⟨g, off, none⟩) (nb + 4) cap] w (DecPost bs w) := by
  have q1 : IntKind.i64.wrap (nb : Int) = (nb : Int) := by rw [IntKind.wrap_i64]; omega
  have q2 : ¬ (nb : Int) < 8 := by omega
  have q5 : nb ≤ cap := by omega
  have q6 : ¬ cap = nb := by omega
  have q7 : (nb : Int) ≤ (nb : Int) + 4 := by omega
  have HX := hid (boxes_new w)
  have HCAP := hid (show nb + 4 ≤ cap ∧ cap ≤ 9223372036854775807 from ⟨hc, hcm⟩)
  obtain ⟨c0, c1, c2, c3, h4⟩ := four (l := bs.drop nb) (by simp; have := HN.out; omega)
  have H4 := hid h4
  clear h4
  go_enter_defers Try.func17, Try.ntmps17
  go_wp2_with fail
  generalize hW : (w.alloc (.cells #[.int .u32 0, .slice none 0 0, .int .i64 0, .int .i64 0, .int .i64 0, .int .i64 0] 29)).alloc (.cells #[.int .i64 0] 32) = W at *
  have hgl : g < w.heap.size := World.block_lt_of_cell? _ _ (HA.out 0 (by have := HN.out; omega))
  have hwz : w.heap.size + 2 = W.heap.size := by rw [← hW]; simp
  have HWZ := hid hwz
  have HGL := hid hgl
  clear hW hwz hgl
  have HAW := hid (fun j hj => HX.out.2.2.cellS (HA.out j hj) (fun e => e))
  generalize hv : c0 + c1 * 256 + c2 * 65536 + c3 * 16777216 = v
  have HV := hid hv
  clear hv
  refine (wpIn_wide (n := 0)).1 ?_
  refine Sched.region (fun _ => trivial) rfl (by kernel_rfl) [8, 9] [.int .i64 nb, .bool false, .bool false, .slice (some ⟨g, off, none⟩) (nb + 4) cap, .int .i64 nb, .slice (some ⟨g, off + nb, none⟩) 4 (cap - nb), .agg #[.slice (some ⟨g, off + nb, none⟩) 4 (cap - nb)], .agg #[.slice (some ⟨g, off + nb, none⟩) 4 (cap - nb)], .pointer (some ⟨W.heap.size, 0, none⟩), .int .u32 v, .slice (some ⟨g, off, none⟩) (nb + 4) cap, .int .i64 nb, .slice (some ⟨g, off, none⟩) nb cap, .int .u32 (sumL (bs.take nb)), .bool (v != sumL (bs.take nb)), .bool (v != sumL (bs.take nb))] (G2 W g off nb cap) (by kernel_rfl) (by kernel_rfl) rfl ⟨(Keeps.refl No W).drew, rfl⟩ ?_ ?_
  · simp only [List.zip_cons_cons, List.zip_nil_left]
    iterate 16
      refine Sched.Steps.cons ?_ ?_
      rotate_left
    exact Sched.Steps.nil
    all_goals simp only [List.take_succ_cons, List.take_zero, Sched.putL, Act.put, List.setIfInBounds_toArray, List.set_cons_zero, List.set_cons_succ]
    all_goals intro p hp w' hG
    rotate_left 8
    · rcases p with _ | _ | _ | p
      · obtain ⟨hk, rfl⟩ := hG
        simp [Sched.Ok, Sched.OkE, go_sem]
        exact ⟨hk.alloc _, rfl⟩
      · exact Sched.not_may hp (by decide +kernel)
      · exact Sched.not_may hp (by decide +kernel)
      · (exfalso; have hq := Sched.may_le hp; simp only [List.length_cons, List.length_nil] at hq; omega)
    · rcases p with _ | _ | _ | p
      · exact Sched.not_may hp (by decide +kernel)
      · obtain ⟨hk, rfl⟩ := hG
        simp [Sched.Ok, Sched.OkE, go_sem]
        have hnew := heap_alloc_new W (.cells #[.slice (some ⟨g, off + nb, none⟩) 4 (cap - nb)] 78)
        have hrd : Rd w.heap.size (W.alloc (.cells #[.slice (some ⟨g, off + nb, none⟩) 4 (cap - nb)] 78)).drew W.heap.size [c0, c1, c2, c3] := by
          refine ⟨some ⟨g, off + nb, none⟩, cap - nb, hnew, by simp; have := HCAP.out; omega, by have := HCAP.out; omega, ?_, fun p hp => by cases hp; exact ⟨HGL.out, by have := HWZ.out; omega⟩, ?_⟩
          · have := nums_part (w := (W.alloc (.cells #[.slice (some ⟨g, off + nb, none⟩) 4 (cap - nb)] 78)).drew) (bs := bs) (fun j hj => cell_alloc_of W _ (HAW.out j hj)) nb 4 (by rw [HN.out]; omega) rfl
            rwa [H4.out] at this
          · rw [← H4.out]
            have := bytes_part HB.out nb 4
            rwa [List.take_of_length_le (by simp; have := HN.out; omega)] at this
        refine (callsIn_wide.2 (word_any W.heap.size [c0, c1, c2, c3] _ hrd)).mono ?_
        rintro e w'' ⟨hm, hk2⟩
        rw [wordM_four] at hm
        exact ⟨_, hm.1, by rw [← HV.out], hk.trans' hk2 (fun _ h => h) (fun i hi e => by omega), trivial⟩
      · exact Sched.not_may hp (by decide +kernel)
      · (exfalso; have hq := Sched.may_le hp; simp only [List.length_cons, List.length_nil] at hq; omega)
    rotate_left 3
    · simp [Sched.Ok, Sched.OkE, go_sem]
      have hnp := nums_part (w := w') (bs := bs) (fun j hj => hG.1.cellS (HAW.out j hj) (fun e => e)) 0 nb (by rw [HN.out]; omega) rfl
      refine (callsIn_wide.2 (sum_any (some ⟨g, off, none⟩) cap nb (bs.take nb) w' (hid (by simp; have := HN.out; omega)) (by omega) (hid hnp) (hid (bytes_part HB.out 0 nb)))).mono ?_
      rintro e w'' ⟨he, rfl⟩
      exact ⟨_, he, rfl, hG⟩
    all_goals
      simp [Sched.Ok, Sched.OkE, go_sem, q2, q5, q6, q7]
      exact hG
  rintro W2 ⟨hk2, _⟩
  simp only [List.zip_cons_cons, List.zip_nil_left, Sched.putL, Act.put, List.setIfInBounds_toArray, List.set_cons_zero, List.set_cons_succ]
  have hx2 := hid (Boxes.keep HX.out hk2 (fun _ h => h.elim))
  have HA2 := hid (fun j hj => hk2.cellS (HAW.out j hj) (fun e => e))
  have hz2 := hk2.size
  have hvb : v = c0 + c1 * 256 + c2 * 65536 + c3 * 16777216 := HV.out.symm
  have hby4 : Bytes [c0, c1, c2, c3] := by
    rw [← H4.out]
    have := bytes_part HB.out nb 4
    rwa [List.take_of_length_le (by simp; have := HN.out; omega)] at this
  simp only [bytes_cons] at hby4
  have hiff := le4_iff (d := c3) hby4.1 hby4.2.1 hby4.2.2.1 (n := sumL (bs.take nb))
  rw [← hvb] at hiff
  have hL : bs.length - 4 = nb := by rw [HN.out]; omega
  by_cases hvs : v = sumL (bs.take nb)
  · have hvn : (v != sumL (bs.take nb)) = false := by simp [hvs]
    have hl4 := hiff.1 hvs
    have HDEC := hid (decM_body HN.out (by omega) (H4.out.trans hl4))
    have hcnv := hid (fun W' (hk : Keeps No W2 W') => run_convert_bytes_arg (P := Try.prog) W' 31 5 Try.underlying31 Try.underlying5 g off 4 cap (bs.take 4) (by simp; have := HN.out; omega) (fun i hi => by rw [hk.cellS (HA2.out i (by rw [HN.out]; omega)) (fun e => e)]; simp [hi]) 9 Try.underlying9)
    clear hl4 hiff hvb hby4 hvs hk2 HV
    generalize sumL (bs.take nb) = s at *
    rw [hvn]
    obtain ⟨d0, d1, d2, d3, d4, d5, de⟩ := boxes_cells hx2.out
    obtain ⟨f0, fe⟩ := boxes_froz hx2.out
    have hmf : ∀ (fn : Fn) (first cap : Array Value) (w : World), (Instr.makeFunc fn first cap).run Try.prog w = .ok (.func fn first cap) w := fun _ _ _ _ => rfl
    have hc0 := hcnv.out W2 (Keeps.refl No W2)
    go_wp2_with fail
    by_cases hw4 : bs.take 4 = [87, 76, 79, 71]
    · have hst : ((strOfNums (bs.take 4)).toList == [87, 76, 79, 71]) = true := by rw [hw4]; exact strOf_wlog_is
      rw [hst]
      refine (must_true _).mono ?_
      rintro e w' ⟨rfl, rfl⟩
      obtain ⟨e0, e1, e2, e3, r1, hr0⟩ : ∃ e0 e1 e2 e3 r1, (bs.drop 4).take (nb - 4) = e0 :: e1 :: e2 :: e3 :: r1 := by
        have hll : ((bs.drop 4).take (nb - 4)).length = nb - 4 := by simp; have := HN.out; omega
        match hq : (bs.drop 4).take (nb - 4), hll with
        | a :: b :: c :: d :: r, _ => exact ⟨a, b, c, d, r, rfl⟩
        | [], h => simp at h; omega
        | [_], h => simp at h; omega
        | [_, _], h => simp at h; omega
        | [_, _, _], h => simp at h; omega
      have hbody := body_is (r := bs.take nb) (r1 := r1) (a := e0) (b := e1) (c := e2) (d := e3) (by rw [List.take_take, Nat.min_eq_left (by omega)]; exact hw4) (by rw [List.drop_take]; exact hr0)
      have hbr := bytes_part HB.out 4 (nb - 4)
      have hrl : (e0 :: e1 :: e2 :: e3 :: r1).length = nb - 4 := by rw [← hr0]; simp; have := HN.out; omega
      have hrd : Rd w.heap.size (W2.alloc (.cells #[.slice (some ⟨g, off + 4, none⟩) (nb - 4) (cap - 4)] 78)) W2.heap.size (e0 :: e1 :: e2 :: e3 :: r1) := by
        refine ⟨some ⟨g, off + 4, none⟩, cap - 4, by rw [hrl]; exact heap_alloc_new W2 _, by rw [hrl]; have := HCAP.out; omega, by have := HCAP.out; omega, ?_, fun p hp => by cases hp; exact ⟨HGL.out, by have := HWZ.out; omega⟩, ?_⟩
        · rw [← hr0]
          exact nums_part (fun j hj => cell_alloc_of W2 _ (HA2.out j hj)) 4 (nb - 4) (by rw [HN.out]; omega) rfl
        · rw [← hr0]; exact hbr
      rw [hr0] at hbr
      simp only [bytes_cons] at hbr
      have HBR := hid hbr
      have HRD := hid hrd
      have HRL := hid hrl
      rw [hbody] at HDEC
      have HX3 := hid (Boxes.keep hx2.out ((Keeps.refl No W2).alloc (.cells #[.slice (some ⟨g, off + 4, none⟩) (nb - 4) (cap - 4)] 78)) (fun _ h => h.elim))
      have HZ3 := hid (show w.heap.size + 2 ≤ W2.heap.size from by have := HWZ.out; omega)
      have q8 : (4 : Int) ≤ nb := by omega
      have q9 : (nb : Int) ≤ cap := by omega
      clear hbr hrd hrl hbody hst hw4 hr0
      go_wp2_with fail
      clear d0 d1 d2 d3 d4 d5 de f0 fe
      refine (word_any W2.heap.size _ _ HRD.out).mono ?_
      rintro e W4 ⟨hm, hk4⟩
      rw [wordM_four] at hm
      obtain ⟨rfl, hrd4⟩ := hm
      generalize e0 + e1 * 256 + e2 * 65536 + e3 * 16777216 = hv at *
      have hx4 := Boxes.keep HX3.out hk4 (by rintro i rfl; exact HZ3.out)
      obtain ⟨d0, d1, d2, d3, d4, d5, de⟩ := boxes_cells hx4
      obtain ⟨f0, fe⟩ := boxes_froz hx4
      have hx5 := Boxes.set0 hx4 hv
      have hrd5 := Rd.keep hrd4 (Keeps.set_at W4 w.heap.size 0 (.int .u32 hv)) (by rintro i rfl; omega) (by have := HZ3.out; omega)
      have HX5 := hid hx5
      have HRD5 := hid hrd5
      clear hrd4 hk4 hx4 hx5 hrd5 HX3 HRD
      go_wp2_with fail
      clear d0 d1 d2 d3 d4 d5 de f0 fe
      generalize W4.setCell ⟨w.heap.size, 0, none⟩ (.int .u32 hv) = W5 at *
      cases hnm : numM r1 with
      | none =>
        have hdm : decM bs = (zeroTk, 211) := by rw [HDEC.out, hnm]
        have HDM := hid hdm
        clear hdm
        refine (number_any W2.heap.size _ _ HRD5.out).mono ?_
        rintro e W6 ⟨hm, hk6⟩
        rw [hnm] at hm
        obtain rfl := hm
        exact dec_caught rfl rfl (Boxes.keep HX5.out hk6 (by rintro i rfl; exact HZ3.out)) HDM.out
      | some q =>
        obtain ⟨m, r2⟩ := q
        rw [hnm] at HDEC
        obtain ⟨hm0, hm1, hbr2, hrl2⟩ := numM_bd HBR.out.2.2.2.2 hnm
        have HBR2 := hid hbr2
        have HRL2 := hid hrl2
        clear hbr2 hrl2
        refine (number_any W2.heap.size _ _ HRD5.out).mono ?_
        rintro e W6 ⟨hm, hk6⟩
        rw [hnm] at hm
        obtain ⟨rfl, hrd6⟩ := hm
        have HX6 := hid (Boxes.keep HX5.out hk6 (by rintro i rfl; exact HZ3.out))
        have HRD6 := hid hrd6
        have hz6 : W2.heap.size < W6.heap.size := by
          obtain ⟨_, _, h1, _⟩ := hrd6
          exact (Array.getElem?_eq_some_iff.1 h1).1
        have HZ6 := hid hz6
        clear hrd6 hk6 HX5 HRD5 hnm hz6
        go_wp2_with fail
        obtain ⟨i0, hi, hz0, hz1, hz2⟩ := info_parts Try.info57
        have HI := hid hi
        have HI0 := hid hz0
        have HI1 := hid hz1
        have HI2 := hid hz2
        have HM0 := hid hm0
        have HM1 := hid hm1
        have HRLB := hid (show r2.length ≤ 50000 from by have h1 := HRL2.out; have h2 := HRL.out; simp at h2; omega)
        clear hi hz0 hz1 hz2 hc0 HA2 hx2 HCAP HAW hcnv q5 q6 q7 q8 q9 HBR HRL HRL2
        go_loopw [44] (fun i wr => ∃ (j : Nat) (acc : List (Int × Int)) (r : List Int) (a : Option Addr) (c : Nat), i = .int .i64 j ∧ (j : Int) ≤ m ∧ turnsGo m.toNat [] r2 = turnsGo (m.toNat - j) acc r ∧ acc.length = j ∧ 2 * j + r.length ≤ 50000 ∧ Bytes r ∧ Rd w.heap.size wr W2.heap.size r ∧ Boxes w wr hv (.slice a acc.length c) 0 0 0 0 0 ∧ TRow (W2.heap.size + 1) wr (.slice a acc.length c) acc ∧ W2.heap.size < wr.heap.size) (fun i _ => m.toNat - (intOf i).toNat)
        case atStart => exact ⟨0, [], r2, none, 0, rfl, hm0, rfl, rfl, by have := HRLB.out; omega, HBR2.out, HRD6.out, HX6.out, World.ownsRow_nil _ _ _ _, HZ6.out⟩
        case round =>
          obtain ⟨j, acc, r, a, c, rfl, hjm, htg, hacc, hrb, hby, hrd, hbx, hrow, hsz⟩ := hrel
          have HTG := hid htg
          have HACC := hid hacc
          have HRB := hid hrb
          have HBY := hid hby
          have HRD := hid hrd
          have HBX := hid hbx
          have HROW := hid hrow
          have HSZ := hid hsz
          clear htg hacc hrb hby hrd hbx hrow hsz HX6 HRD6 HBR2 HZ6
          by_cases hlt : (j : Int) < m
          · have HF := hid (show m.toNat - j = (m.toNat - (j + 1)) + 1 by omega)
            go_wp2_with fail
            cases r with
            | nil =>
              have hdm : decM bs = (zeroTk, 211) := by rw [HDEC.out]; simp only [HTG.out, HF.out, turnsGo_nil]
              have HDM := hid hdm
              clear hdm
              refine (byte_nil W2.heap.size _ HRD.out).mono ?_
              rintro e w' ⟨rfl, rfl⟩
              exact dec_caught rfl rfl HBX.out HDM.out
            | cons c0 r' =>
              refine (byte_cons W2.heap.size c0 r' _ HRD.out).mono ?_
              rintro e w7 ⟨rfl, hrd7, hk7⟩
              have hbx7 := Boxes.keep HBX.out hk7 (by rintro i rfl; exact HZ3.out)
              have hrow7 := hk7.row HROW.out (fun k hk e => by have := (HROW.out.lt k hk).1; omega)
              have hs7 := hk7.size
              have HBY1 := hid ((bytes_cons.1 HBY.out).2)
              have hbx8 := Boxes.keep hbx7 ((Keeps.refl No w7).alloc (.cells #[.int .i64 c0, .int .i64 0] 57)) (fun _ h => h.elim)
              have hrd8 := Rd.keep hrd7 ((Keeps.refl No w7).alloc (.cells #[.int .i64 c0, .int .i64 0] 57)) (fun _ h => h.elim) (fun h => h)
              have hnew := heap_alloc_new w7 (.cells #[.int .i64 c0, .int .i64 0] 57)
              have hrow8 := ((Keeps.refl No w7).alloc (.cells #[.int .i64 c0, .int .i64 0] 57)).row hrow7 (fun _ _ h => h)
              have HLT := hid (fun k (hk : (Value.slice a acc.length c).ownBlock = some k) => (HROW.out.lt k hk).2)
              have HBX8 := hid hbx8
              have HRD8 := hid hrd8
              have HNEW := hid hnew
              have HROW8 := hid hrow8
              have HS7 := hid hs7
              clear hbx7 hrow7 hbx8 hrd8 hrd7 hnew hrow8 hs7 hk7 HRD HBX HROW
              go_wp2_with fail
              cases hnm2 : numM r' with
              | none =>
                have hdm : decM bs = (zeroTk, 211) := by rw [HDEC.out]; simp only [HTG.out, HF.out, turnsGo_none hnm2]
                have HDM := hid hdm
                clear hdm
                refine (number_any W2.heap.size _ _ HRD8.out).mono ?_
                rintro e W9 ⟨hm, hk9⟩
                rw [hnm2] at hm
                obtain rfl := hm
                exact dec_caught rfl rfl (Boxes.keep HBX8.out hk9 (by rintro i rfl; exact HZ3.out)) HDM.out
              | some q =>
                obtain ⟨s, r''⟩ := q
                obtain ⟨hs0, hs1, hbr3, hrl3⟩ := numM_bd HBY1.out hnm2
                have HTG2 := hid (show turnsGo m.toNat [] r2 = turnsGo (m.toNat - (j + 1)) (acc ++ [(c0, s)]) r'' by rw [HTG.out, HF.out, turnsGo_some hnm2])
                have HBR3 := hid hbr3
                have HRL3 := hid hrl3
                refine (number_any W2.heap.size _ _ HRD8.out).mono ?_
                rintro e W9 ⟨hm, hk9⟩
                rw [hnm2] at hm
                obtain ⟨rfl, hrd9⟩ := hm
                clear hnm2 hbr3 hrl3
                have hbx9 := Boxes.keep HBX8.out hk9 (by rintro i rfl; exact HZ3.out)
                have hrow9 := hk9.row HROW8.out (fun k hk e => by have := (HROW8.out.lt k hk).1; omega)
                have hltr : ∀ k, (Value.slice a acc.length c).ownBlock = some k → k < w7.heap.size := fun k hk => Nat.lt_of_lt_of_le (HLT.out k hk) HS7.out
                have hw72 : W2.heap.size < w7.heap.size := by have := HSZ.out; have := HS7.out; omega
                have hnew9 := (hk9.block _ (by simp) (by omega)).trans HNEW.out
                have x0 : W9.cell? ⟨w7.heap.size, 0, none⟩ = some (.int .i64 c0) := by rw [cell_of_row W9 _ _ _ _ _ hnew9]; rfl
                have x1 : W9.cell? ⟨w7.heap.size, 1, none⟩ = some (.int .i64 0) := by rw [cell_of_row W9 _ _ _ _ _ hnew9]; rfl
                have xf := froz (i := 1) hnew9
                have hs9 := hk9.size
                rw [World.size_alloc] at hs9
                have hkx := Keeps.set_at W9 w7.heap.size 1 (.int .i64 s)
                have hbx10 := Boxes.keep hbx9 hkx (by rintro i rfl; have := HZ3.out; omega)
                have hrow10 := hkx.row hrow9 (fun k hk e => by have := hltr k hk; omega)
                have hrd10 := Rd.keep hrd9 hkx (by rintro i rfl; have := HZ3.out; omega) (by omega)
                have hnew10 := heap_setCell_row (i := 1) (v := .int .i64 s) hnew9
                have y0 : (W9.setCell ⟨w7.heap.size, 1, none⟩ (.int .i64 s)).cell? ⟨w7.heap.size, 0, none⟩ = some (.int .i64 c0) := by rw [cell_of_row _ _ _ _ _ _ hnew10]; rfl
                have y1 : (W9.setCell ⟨w7.heap.size, 1, none⟩ (.int .i64 s)).cell? ⟨w7.heap.size, 1, none⟩ = some (.int .i64 s) := by rw [cell_of_row _ _ _ _ _ _ hnew10]; rfl
                obtain ⟨_, d1, _, _, _, _, _⟩ := boxes_cells hbx10
                obtain ⟨_, d1', _, _, _, _, _⟩ := boxes_cells hbx9
                have hne1 : ¬ w7.heap.size = w.heap.size := by have := HZ3.out; omega
                have hne2 : ¬ w.heap.size = w7.heap.size := by have := HZ3.out; omega
                have HBX10 := hid hbx10
                have HRD10 := hid hrd10
                have HROW10 := hid hrow10
                have HW72 := hid hw72
                have HS9 := hid hs9
                clear hbx9 hrow9 hkx hbx10 hrow10 hrd10 hrd9 hk9 hnew9 hnew10 hltr hs9 HBX8 HROW8 HRD8 HNEW hw72
                go_wp2_with (at_builtin; go_must (refine wpList_append_lies _ rfl (.tmp 53) (.tmp 55) 23 rfl (W2.heap.size + 1) 57 i0 (.agg #[.int .i64 0, .int .i64 0]) 2 16 Try.underlying23 HI.out HI0.out HI1.out HI2.out rfl (by decide) (.slice a acc.length c) acc.length (cells2 acc) rfl (World.ownsRow.alloc HROW10.out _) ⟨(W9.setCell ⟨w7.heap.size, 1, none⟩ (.int .i64 s)).heap.size, 0, none⟩ 1 1 [.int .i64 c0, .int .i64 s] (by simp [Act.eval]) rfl (new_cells (W9.setCell ⟨w7.heap.size, 1, none⟩ (.int .i64 s)) #[.int .i64 c0, .int .i64 s] 57) (by simp [Value.oneCell']) (by omega) (by have := HRB.out; have := HACC.out; unfold maxLen; omega) (by have := HRB.out; have := HACC.out; omega) (by have := HS9.out; have := HW72.out; simp; omega) _ rfl ?_); intro g' cap' w10 hown hgrow hat hgl; have hk10 := ((Keeps.refl (fun k => W2.heap.size + 1 ≤ k) (W9.setCell ⟨w7.heap.size, 1, none⟩ (.int .i64 s))).alloc (.cells #[.int .i64 c0, .int .i64 s] 57)).grown hgrow (fun k hk => .inl (HROW10.out.lt k hk).1); have hbx11 := Boxes.keep HBX10.out hk10 (fun i hi => by have := HZ3.out; omega); have HK10 := hid hk10; have HOWN := hid hown; have HBX11 := hid hbx11; have HAT := hid hat; obtain ⟨_, d1b, _, _, _, _, _⟩ := boxes_cells hbx11; have f1b := (boxes_froz hbx11).1 1; clear hown hgrow hat hgl hk10 hbx11)
                go_roundw
                case rel =>
                  have hll : (acc ++ [(c0, s)]).length = acc.length + 1 := by simp
                  have hks := Keeps.set_at w10 w.heap.size 1 (.slice (some ⟨g', 0, none⟩) (acc.length + 1) cap')
                  have hsz10 := HK10.out.size
                  refine ⟨j + 1, acc ++ [(c0, s)], r'', some ⟨g', 0, none⟩, cap', by go_num, by omega, HTG2.out, by have := HACC.out; simp; omega, by have h1 := HRB.out; have h2 := HRL3.out; simp at h1; omega, HBR3.out, ?_, ?_, ?_, ?_⟩
                  · exact Rd.keep (Rd.keep HRD10.out HK10.out (fun i hi => by have := HZ3.out; omega) (by omega)) hks (by rintro i rfl; omega) (by have := HZ3.out; omega)
                  · rw [hll]; exact Boxes.set1 HBX11.out _
                  · unfold TRow
                    rw [hll, cells2_snoc]
                    exact hks.row HOWN.out (fun k hk => by cases hk; show ¬ g' = w.heap.size; have := HZ3.out; have := (HOWN.out.lt g' rfl).1; omega)
                  · have := HW72.out; have := HS9.out; simp only [World.size_setCell] at hsz10 ⊢; omega
                case measure => simp [intOf]; omega
          · have hend : turnsGo m.toNat [] r2 = some (acc, r) := by rw [HTG.out, show m.toNat - j = 0 by omega]; rfl
            have hbody : decM bs = match endM hv acc r with
                | none => (zeroTk, 211)
                | some t => (t, 0) := by rw [HDEC.out]; simp only [hend]; rfl
            have HDEC2 := hid hbody
            clear hend hbody HTG HDEC
            have HN65 := hid (show acc.length ≤ 65536 from by have h1 := HRB.out; have h2 := HACC.out; omega)
            clear HACC HRB HM0 HM1 HI HI0 HI1 HI2 HRLB HA H4 HX HWZ HGL hmf
            go_wp2_with fail
            cases r with
            | nil =>
              have hdm : decM bs = (zeroTk, 211) := by rw [HDEC2.out]; rfl
              have HDM := hid hdm
              clear hdm
              refine (byte_nil W2.heap.size _ HRD.out).mono ?_
              rintro e w' ⟨rfl, rfl⟩
              exact dec_caught rfl rfl HBX.out HDM.out
            | cons xk rk =>
              refine (byte_cons W2.heap.size xk rk _ HRD.out).mono ?_
              rintro e V0 ⟨rfl, hrdn, hkn⟩
              have hbxn := Boxes.keep HBX.out hkn (by rintro i rfl; exact HZ3.out)
              have hrown := hkn.row HROW.out (fun k hk e => by have := (HROW.out.lt k hk).1; omega)
              have hks := Keeps.set_at V0 w.heap.size 2 (.int .i64 xk)
              have HRD0 := hid (Rd.keep hrdn hks (by rintro i rfl; omega) (by have := HZ3.out; omega))
              have HBX0 := hid (Boxes.set2 hbxn xk)
              have HROW0 := hid (hks.row hrown (fun k hk e => by have := (hrown.lt k hk).1; have := HZ3.out; omega))
              have HBY0 := hid ((bytes_cons.1 HBY.out).2)
              obtain ⟨d0, d1, d2, d3, d4, d5, de⟩ := boxes_cells hbxn
              obtain ⟨f0, fe⟩ := boxes_froz hbxn
              clear hbxn hrown hks hrdn hkn HRD HBX HROW HBY
              go_wp2_with fail
              clear d0 d1 d2 d3 d4 d5 de f0 fe
              generalize V0.setCell ⟨w.heap.size, 2, none⟩ (.int .i64 xk) = U0 at *
              cases rk with
              | nil =>
                have hdm : decM bs = (zeroTk, 211) := by rw [HDEC2.out]; rfl
                have HDM := hid hdm
                clear hdm
                refine (byte_nil W2.heap.size _ HRD0.out).mono ?_
                rintro e w' ⟨rfl, rfl⟩
                exact dec_caught rfl rfl HBX0.out HDM.out
              | cons xtr rtr =>
                refine (byte_cons W2.heap.size xtr rtr _ HRD0.out).mono ?_
                rintro e V1 ⟨rfl, hrdn, hkn⟩
                have hbxn := Boxes.keep HBX0.out hkn (by rintro i rfl; exact HZ3.out)
                have hrown := hkn.row HROW0.out (fun k hk e => by have := (HROW0.out.lt k hk).1; omega)
                have hks := Keeps.set_at V1 w.heap.size 3 (.int .i64 xtr)
                have HRD1 := hid (Rd.keep hrdn hks (by rintro i rfl; omega) (by have := HZ3.out; omega))
                have HBX1 := hid (Boxes.set3 hbxn xtr)
                have HROW1 := hid (hks.row hrown (fun k hk e => by have := (hrown.lt k hk).1; have := HZ3.out; omega))
                have HBY1 := hid ((bytes_cons.1 HBY0.out).2)
                obtain ⟨d0, d1, d2, d3, d4, d5, de⟩ := boxes_cells hbxn
                obtain ⟨f0, fe⟩ := boxes_froz hbxn
                clear hbxn hrown hks hrdn hkn HRD0 HBX0 HROW0 HBY0
                go_wp2_with fail
                clear d0 d1 d2 d3 d4 d5 de f0 fe
                generalize V1.setCell ⟨w.heap.size, 3, none⟩ (.int .i64 xtr) = U1 at *
                cases rtr with
                | nil =>
                  have hdm : decM bs = (zeroTk, 211) := by rw [HDEC2.out]; rfl
                  have HDM := hid hdm
                  clear hdm
                  refine (byte_nil W2.heap.size _ HRD1.out).mono ?_
                  rintro e w' ⟨rfl, rfl⟩
                  exact dec_caught rfl rfl HBX1.out HDM.out
                | cons xth rth =>
                  refine (byte_cons W2.heap.size xth rth _ HRD1.out).mono ?_
                  rintro e V2 ⟨rfl, hrdn, hkn⟩
                  have hbxn := Boxes.keep HBX1.out hkn (by rintro i rfl; exact HZ3.out)
                  have hrown := hkn.row HROW1.out (fun k hk e => by have := (HROW1.out.lt k hk).1; omega)
                  have hks := Keeps.set_at V2 w.heap.size 4 (.int .i64 xth)
                  have HRD2 := hid (Rd.keep hrdn hks (by rintro i rfl; omega) (by have := HZ3.out; omega))
                  have HBX2 := hid (Boxes.set4 hbxn xth)
                  have HROW2 := hid (hks.row hrown (fun k hk e => by have := (hrown.lt k hk).1; have := HZ3.out; omega))
                  have HBY2 := hid ((bytes_cons.1 HBY1.out).2)
                  obtain ⟨d0, d1, d2, d3, d4, d5, de⟩ := boxes_cells hbxn
                  obtain ⟨f0, fe⟩ := boxes_froz hbxn
                  clear hbxn hrown hks hrdn hkn HRD1 HBX1 HROW1 HBY1
                  go_wp2_with fail
                  clear d0 d1 d2 d3 d4 d5 de f0 fe
                  generalize V2.setCell ⟨w.heap.size, 4, none⟩ (.int .i64 xth) = U2 at *
                  cases hnm4 : numM rth with
                  | none =>
                    have hdm : decM bs = (zeroTk, 211) := by rw [HDEC2.out, endM_none hnm4]
                    have HDM := hid hdm
                    clear hdm
                    refine (number_any W2.heap.size _ _ HRD2.out).mono ?_
                    rintro e W9 ⟨hm, hk9⟩
                    rw [hnm4] at hm
                    obtain rfl := hm
                    exact dec_caught rfl rfl (Boxes.keep HBX2.out hk9 (by rintro i rfl; exact HZ3.out)) HDM.out
                  | some q =>
                    obtain ⟨st, r5⟩ := q
                    refine (number_any W2.heap.size _ _ HRD2.out).mono ?_
                    rintro e V9 ⟨hm, hk9⟩
                    rw [hnm4] at hm
                    obtain ⟨rfl, hrd9⟩ := hm
                    have hbxn := Boxes.keep HBX2.out hk9 (by rintro i rfl; exact HZ3.out)
                    have hrown := hk9.row HROW2.out (fun k hk e => by have := (HROW2.out.lt k hk).1; omega)
                    have hks := Keeps.set_at V9 w.heap.size 5 (.int .i64 st)
                    have hrd9b := Rd.keep hrd9 hks (by rintro i rfl; omega) (by have := HZ3.out; omega)
                    have hbx9b := Boxes.set5 hbxn st
                    have HBX9 := hid hbx9b
                    have HROW9 := hid (hks.row hrown (fun k hk e => by have := (hrown.lt k hk).1; have := HZ3.out; omega))
                    have HNM4 := hid hnm4
                    obtain ⟨ar, cr, hhr, _, _, _, _, _⟩ := hrd9b
                    have HHR := hid hhr
                    obtain ⟨d0, d1, d2, d3, d4, d5, de⟩ := boxes_cells hbxn
                    obtain ⟨f0, fe⟩ := boxes_froz hbxn
                    clear hbxn hrown hks hrd9 hk9 hbx9b hnm4 hhr HRD2 HBX2 HROW2
                    have hne1 : ¬ w.heap.size = W2.heap.size := by have := HZ3.out; omega
                    have hne2 : ¬ W2.heap.size = w.heap.size := by have := HZ3.out; omega
                    have y0 : (V9.setCell ⟨w.heap.size, 5, none⟩ (.int .i64 st)).cell? ⟨W2.heap.size, 0, none⟩ = some (.slice ar r5.length cr) := by rw [cell_of_row _ _ _ _ _ _ HHR.out]; rfl
                    have y1 := y0
                    rw [World.cell?_setCell_far _ _ _ _ hne1] at y1
                    cases r5 with
                    | cons x5 r6 =>
                      have hdm : decM bs = (zeroTk, 211) := by rw [HDEC2.out, endM_more HNM4.out]
                      have HDM := hid hdm
                      clear hdm
                      have hl5 : ((((x5 :: r6).length : Nat) : Int) == 0) = false := by simp; omega
                      generalize (x5 :: r6).length = n5 at *
                      go_wp2_with fail
                      refine (must_false _).mono ?_
                      rintro e w' ⟨rfl, rfl⟩
                      exact dec_caught rfl rfl HBX9.out HDM.out
                    | nil =>
                      simp only [List.length_nil] at y0 y1
                      have hchk := hid (fun W' (hk : TRow (W2.heap.size + 1) W' (.slice a acc.length c) acc) => check_any hv xk xtr xth st a c acc.length acc W' (hid rfl) HN65.out (hid (by obtain ⟨a2, c2, he, hta, _⟩ := hk.form; cases he; exact hta)))
                      have hck := hchk.out _ HROW9.out
                      have HCK := hid hck
                      clear hck hchk
                      cases hok : okB acc xk xtr xth st with
                      | false =>
                        have hdm : decM bs = (zeroTk, 211) := by rw [HDEC2.out, endM_some HNM4.out, hok]; rfl
                        have HDM := hid hdm
                        rw [hok] at HCK
                        clear hdm hok
                        go_wp2_with (go_at_call 26; refine HCK.out.mono ?_; rintro e V10 ⟨rfl, hk10⟩; have HK10 := hid hk10; clear hk10)
                        refine (must_false _).mono ?_
                        rintro e w' ⟨rfl, rfl⟩
                        exact dec_caught rfl rfl (Boxes.keep HBX9.out HK10.out (fun _ h => h.elim)) HDM.out
                      | true =>
                        have hdm : decM bs = ((hv, acc, xk, xtr, xth, st), 0) := by rw [HDEC2.out, endM_some HNM4.out, hok]; rfl
                        have HDM := hid hdm
                        rw [hok] at HCK
                        clear hdm hok
                        go_wp2_with (go_at_call 26; refine HCK.out.mono ?_; rintro e V10 ⟨rfl, hk10⟩; have hb10 := Boxes.keep HBX9.out hk10 (fun _ h => h.elim); have HROW10 := hid (hk10.row HROW9.out (fun _ _ h => h)); have HB10 := hid hb10; clear d0 d1 d2 d3 d4 d5 de f0 fe y0 y1; obtain ⟨d0, d1, d2, d3, d4, d5, de⟩ := boxes_cells hb10; obtain ⟨f0, fe⟩ := boxes_froz hb10; clear hk10 hb10)
                        refine (must_true _).mono ?_
                        rintro e w' ⟨rfl, rfl⟩
                        go_wp2_with fail
                        exact dec_ended rfl rfl (Boxes.store HB10.out 0) (row_store HROW10.out (by have := HZ3.out; omega) _ _ _ _ _ _ _) (by have := HZ3.out; omega) HDM.out
    · have hst := strOf_wlog (bytes_part HB.out 0 4) hw4
      rw [List.drop_zero] at hst
      rw [hst]
      have hdm : decM bs = (zeroTk, 211) := by
        rw [HDEC.out, body_not (by rw [List.take_take, Nat.min_eq_left (by omega)]; exact hw4)]
      have HDM := hid hdm
      clear hdm
      refine (must_false _).mono ?_
      rintro e w' ⟨rfl, rfl⟩
      exact dec_caught rfl rfl hx2.out HDM.out
  · have hvn : (v != sumL (bs.take nb)) = true := by simpa using hvs
    have hd : decM bs = (zeroTk, 210) := by
      unfold decM
      rw [if_neg (by rw [HN.out]; omega), hL, H4.out, if_neg (fun e => hvs (hiff.2 e))]
    have HD := hid hd
    clear hd hiff hvb hby4 hvs hk2
    generalize sumL (bs.take nb) = s at *
    rw [hvn]
    obtain ⟨d0, d1, d2, d3, d4, d5, de⟩ := boxes_cells hx2.out
    obtain ⟨f0, fe⟩ := boxes_froz hx2.out
    go_wp2_with fail
    have hb3 := Boxes.store hx2.out 210
    have HB3 := hid hb3
    clear hb3
    refine ⟨.tuple #[.agg #[.int .u32 0, .slice none 0 0, .int .i64 0, .int .i64 0, .int .i64 0, .int .i64 0], .int .i64 210], ?_, decPost_zero HD.out HB3.out.2.2⟩
    simp [results, Try.results17, go_sem, d0, d1, d2, d3, d4, d5, de]

end Go.Proofs.Ytnbhphjpefagjaa
