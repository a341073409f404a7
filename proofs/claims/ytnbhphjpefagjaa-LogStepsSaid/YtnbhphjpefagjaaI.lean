/- Log: Encode, walked. -/
import Derived.Test.YtnbhphjpefagjaaN
import Derived.Test.YtnbhphjpefagjaaG
import Derived.Test.YtnbhphjpefagjaaY
import Derived.Test.YtnbhphjpefagjaaZ
import Derived.Stop.RegionWithIn
import Derived.Deep.RegionHeld3
namespace Go.Proofs.Ytnbhphjpefagjaa
open Go.RowKit Go.Shelf
attribute [local go_sem] Oper.semAt_some
attribute [-go_sem] Builtin.append_

theorem keepsFrom_cells {S : Nat → Prop} {B : Nat} {W W' : World} (h : Keeps S W W') (hS : ∀ k, S k → ∃ c e f, W.heap[k]? = some (.cells c e f)) : KeepsFrom B W W' :=
  ⟨h.size, fun k o _ hk ho => (h.block k (Array.getElem?_eq_some_iff.1 hk).1 (fun e => by
    obtain ⟨c, e, f, hc⟩ := hS k e
    rw [hk] at hc; cases hc; cases ho)).trans hk⟩

theorem enc_number2 {w1 W : World} {bs : List Int} (h : Enc w1 W bs) (n : Int) (h0 : 0 ≤ n) (h1 : n ≤ 9223372036854775807) (hl : bs.length ≤ 100000) :
    ∃ g, ¬ F0 w1 g ∧ (∃ c, W.heap[w1.heap.size + 1]? = some (.cells c 69 (0, 0))) ∧ (∃ c, W.heap[g]? = some (.cells c 5 (0, 0))) ∧
    Calls Try.prog 30 #[.pointer (some ⟨w1.heap.size + 1, 0, none⟩), .int .i64 n] W fun e w' => EncTo w1 (bs ++ encN n) e w' ∧ Keeps (fun k => k = w1.heap.size + 1 ∨ k = g) W w' := by
  obtain ⟨g, hw, h4, h5, h6, hb, hg⟩ := h.wr.max
  refine ⟨g, h4, hb, hg, (wnumber_any _ n h0 h1 bs hl W hw).mono ?_⟩
  rintro e w' ⟨he, hw', hk⟩
  refine ⟨⟨he, h.step (wr_back hw' h4 h5 h6) (hk.mono fun k hn hf => hn ⟨h6 k hf, fun e => h5 (e ▸ hf), fun e => h4 (e ▸ hf)⟩)⟩, ⟨hk.os, hk.tape, hk.output, hk.size, fun k hk' hn => hk.block k hk' (fun e => e ⟨hk', fun e => hn (.inl e), fun e => hn (.inr e)⟩)⟩⟩

theorem enc_word2 {w1 W : World} {bs : List Int} (h : Enc w1 W bs) (n : Int) (h0 : 0 ≤ n) (h1 : n < 4294967296) (hl : bs.length ≤ 100000) :
    ∃ g, ¬ F0 w1 g ∧ (∃ c, W.heap[w1.heap.size + 1]? = some (.cells c 69 (0, 0))) ∧ (∃ c, W.heap[g]? = some (.cells c 5 (0, 0))) ∧
    Calls Try.prog 29 #[.pointer (some ⟨w1.heap.size + 1, 0, none⟩), .int .u32 n] W fun e w' => EncTo w1 (bs ++ le4 n) e w' ∧ Keeps (fun k => k = w1.heap.size + 1 ∨ k = g) W w' := by
  obtain ⟨g, hw, h4, h5, h6, hb, hg⟩ := h.wr.max
  refine ⟨g, h4, hb, hg, (wword_any _ n h0 h1 bs hl W hw).mono ?_⟩
  rintro e w' ⟨he, hw', hk⟩
  refine ⟨⟨he, h.step (wr_back hw' h4 h5 h6) (hk.mono fun k hn hf => hn ⟨h6 k hf, fun e => h5 (e ▸ hf), fun e => h4 (e ▸ hf)⟩)⟩, ⟨hk.os, hk.tape, hk.output, hk.size, fun k hk' hn => hk.block k hk' (fun e => e ⟨hk', fun e => hn (.inl e), fun e => hn (.inr e)⟩)⟩⟩

theorem two_cells {W : World} {a b : Nat} {c c' : Array Value} {e e' : TypeId} {f f' : Nat × Nat} (h : W.heap[a]? = some (.cells c e f)) (h' : W.heap[b]? = some (.cells c' e' f')) : ∀ k, (k = a ∨ k = b) → ∃ c e f, W.heap[k]? = some (.cells c e f) := by
  rintro k (rfl | rfl)
  · exact ⟨_, _, _, h⟩
  · exact ⟨_, _, _, h'⟩

/-- A block that is no cells lies as it lay, where cells alone may turn. -/
theorem def_kept {W W' : World} {S : Nat → Prop} {D : Nat} {o : Obj} (h : Keeps S W W') (hS : ∀ k, S k → ∃ c e f, W.heap[k]? = some (.cells c e f)) (hD : W.heap[D]? = some o) (ho : o.isCells = false) : W'.heap[D]? = some o :=
  (keepsFrom_cells (B := 0) h hS).same D o (Nat.zero_le _) hD ho

/-- What Encode hands back. -/
def EncPost (h k tr th st : Int) (l : List (Int × Int)) (w : World) (e : Ending) (w' : World) : Prop :=
  Keeps No w w' ∧ (okB l k tr th st = false → e = .returned (.tuple #[.slice none 0 0, .int .i64 2])) ∧
  (okB l k tr th st = true → ∃ g cap, e = .returned (.tuple #[.slice (some ⟨g, 0, none⟩) (encM h l k tr th st).length cap, .int .i64 0]) ∧ w.heap.size ≤ g ∧
    w'.ownsRow 0 5 1 (.slice (some ⟨g, 0, none⟩) (encM h l k tr th st).length cap) (encM h l k tr th st).length ((encM h l k tr th st).map (Value.int .u8)))

theorem box6 {w : World} {b : Nat} {a0 a1 a2 a3 a4 a5 : Value} {e : TypeId} {f : Nat × Nat} (h : w.heap[b]? = some (.cells #[a0, a1, a2, a3, a4, a5] e f)) :
    w.cell? ⟨b, 0, none⟩ = some a0 ∧ w.cell? ⟨b, 1, none⟩ = some a1 ∧ w.cell? ⟨b, 2, none⟩ = some a2 ∧ w.cell? ⟨b, 3, none⟩ = some a3 ∧ w.cell? ⟨b, 4, none⟩ = some a4 ∧ w.cell? ⟨b, 5, none⟩ = some a5 := by
  refine ⟨?_, ?_, ?_, ?_, ?_, ?_⟩ <;> (rw [cell_of_row w b _ _ _ _ h]; rfl)

/-- The temporaries in a round of Encode's loop. -/
abbrev encTmps (w w1 w4 : World) (h k tr th st : Int) (a : Option Addr) (n cap : Nat) (x : Nat) (u v : Int) (Bx : Nat) : Array Value :=
  #[.agg #[.int .u32 h, .slice a n cap, .int .i64 k, .int .i64 tr, .int .i64 th, .int .i64 st],
    .pointer (some ⟨w.heap.size, 0, none⟩), .slice none 0 0, .int .i64 0, .int .i64 (errOf true), .pointer (some ⟨w1.heap.size + 1 + 1, 0, none⟩), undef, .pointer (some ⟨Bx, 0, none⟩),
    .agg #[.int .u32 h, .slice a n cap, .int .i64 k, .int .i64 tr, .int .i64 th, .int .i64 st], .int .i64 (errOf true), .int .i64 (errOf true), .bool (errOf true != 0), undef,
    .slice (some ⟨w1.heap.size, 0, none⟩) 4 4, .slice (some ⟨w1.heap.size, 0, none⟩) 4 4, .agg #[.slice (some ⟨w1.heap.size, 0, none⟩) 4 4], .agg #[.slice (some ⟨w1.heap.size, 0, none⟩) 4 4],
    .pointer (some ⟨w1.heap.size + 1, 0, none⟩), .pointer (some ⟨w1.heap.size + 1, 0, none⟩), .pointer (some ⟨w.heap.size, 0, none⟩), .int .u32 h, .tuple #[], .pointer (some ⟨w1.heap.size + 1, 0, none⟩),
    .pointer (some ⟨w.heap.size, 1, none⟩), .slice a n cap, .int .i64 n, .tuple #[], .pointer (some ⟨w.heap.size, 1, none⟩), .slice a n cap,
    .func (.func 46) #[] #[.pointer (some ⟨w4.heap.size, 0, none⟩)], .int .i64 x, .agg #[.int .i64 u, .int .i64 v], undef, undef, undef, undef, undef, undef, undef, undef, undef, undef, undef, undef, undef, undef, undef, undef, undef, undef, undef, undef, undef, undef, undef, undef, undef, undef, undef, undef, undef, undef, undef, undef, undef, undef, undef, undef, undef, undef, undef, undef, undef, undef, undef, undef, undef, undef, undef, undef, undef, undef, undef, undef, undef, undef, undef, undef, undef, undef, undef]

def encPre (l : List (Int × Int)) (js : List Nat) : List Int := js.flatMap (fun j => (l[j]?.getD (0, 0)).1 :: encN (l[j]?.getD (0, 0)).2)

theorem encPre_len (l : List (Int × Int)) (js : List Nat) : (encPre l js).length ≤ 11 * js.length := by
  unfold encPre
  induction js with
  | nil => simp
  | cons x js ih =>
    have := encN_len (l[x]?.getD (0, 0)).2
    simp only [List.flatMap_cons, List.length_append, List.length_cons] at ih ⊢
    omega

theorem encPre_range (l : List (Int × Int)) : encPre l (List.range l.length) = encTurns l := by
  unfold encPre encTurns
  have : l = (List.range l.length).map (fun j => l[j]?.getD (0, 0)) := by
    apply List.ext_getElem?
    intro j
    by_cases hj : j < l.length
    · simp [hj]
    · simp at hj; simp [hj]
  conv => rhs; rw [this]
  rw [List.flatMap_map]

theorem endB_bd {k tr th st : Int} (h : endB k tr th st = true) : 0 ≤ k ∧ k ≤ 4 ∧ 0 ≤ tr ∧ tr ≤ 5 ∧ 0 ≤ th ∧ th ≤ 7 ∧ 0 ≤ st ∧ st ≤ 511 := by
  simp only [endB, inB] at h
  split at h
  · simp at h; omega
  · simp at h; omega

theorem kp_put (B Bn : Nat) (w W : World) (j : Nat) (o' : Obj) (hB : B ≤ w.heap.size) (hBn : Bn < w.heap.size) (hj : w.heap.size ≤ j) : Kp B Bn W (W.putObj j o') := by
  have hg := grownBy_putObj' W j o'
  exact ⟨hg.os, hg.tape, hg.output, hg.size, fun k hk hn => hg.block k hk (fun e => hn (fun hk2 => by cases e; omega))⟩

set_option maxRecDepth 100000 in
set_option maxHeartbeats 2000000 in
theorem encode_in (m : Nat) (hm : 4 ≤ m) (h k tr th st : Int) (h0 : 0 ≤ h) (h1 : h < 4294967296) (a : Option Addr) (cap n : Nat) (l : List (Int × Int)) (w : World) (HN : Hid (l.length = n)) (hn : n ≤ 3000) (HA : Hid (TurnsAt w a l)) (HB : Hid (0 < n → ∀ p, a = some p → p.block < w.heap.size)) :
    CallsIn Fence.wide m Try.prog 13 #[.agg #[.int .u32 h, .slice a n cap, .int .i64 k, .int .i64 tr, .int .i64 th, .int .i64 st]] w (EncPost h k tr th st l w) := by
  have h1m : 1 ≤ m := by omega
  have hcv := fun (w : World) (C : Array Value) (n c : Nat) => Lib.run_convert_bytes_const (P := Try.prog) w 31 5 C n c Try.underlying31 Try.underlying5
  have hck := hid (check_any h k tr th st a cap n l (w.alloc (.cells #[.int .u32 h, .slice a n cap, .int .i64 k, .int .i64 tr, .int .i64 th, .int .i64 st] 29)) HN (by omega) (hid (HA.out.keep ((Keeps.refl No w).alloc _) (fun _ _ e => e))))
  have hm1 : 1 ≤ m - 1 := by omega
  cases hok : okB l k tr th st with
  | false =>
    rw [hok] at hck
    have HOK := hid hok
    clear hok
    refine callsIn_of_wp_marks Try.func13 rfl trivial ?_ rfl
    simp only [Try.ntmps13, List.size_toArray, List.length_cons, List.length_nil, Nat.reduceAdd, Nat.reduceSub, Array.replicate_succ, Array.replicate_zero, List.push_toArray, List.append_toArray, List.nil_append, List.cons_append]
    gi_wp2_with (refine ⟨trivial, ?_⟩; gi_at_call 26; refine (callsIn_wide.2 hck.out).mono ?_; rintro e w1 ⟨rfl, hk1⟩; have HK1 := hid hk1; clear hk1)
    refine ⟨.tuple #[.slice none 0 0, .int .i64 2], by simp [results, Try.results13, go_sem]; rfl, (((Keeps.refl No w).alloc _).trans HK1.out), fun _ => rfl, fun e => by rw [HOK.out] at e; cases e⟩
  | true =>
    rw [hok] at hck
    have HOK := hid hok
    clear hok
    refine callsIn_of_wp_marks Try.func13 rfl trivial ?_ rfl
    simp only [Try.ntmps13, List.size_toArray, List.length_cons, List.length_nil, Nat.reduceAdd, Nat.reduceSub, Array.replicate_succ, Array.replicate_zero, List.push_toArray, List.append_toArray, List.nil_append, List.cons_append]
    gi_wp2_with (first | (refine ⟨trivial, ?_⟩; gi_at_call 26; refine (callsIn_wide.2 hck.out).mono ?_; rintro e w1 ⟨rfl, hk1⟩; have hn1 := (hk1.block w.heap.size (by simp) (fun e => e)).trans (heap_alloc_new w (.cells #[.int .u32 h, .slice a n cap, .int .i64 k, .int .i64 tr, .int .i64 th, .int .i64 st] 29)); obtain ⟨d0, d1, d2, d3, d4, d5⟩ := box6 hn1; have HN1 := hid hn1; have HK1 := hid (((Keeps.refl No w).alloc _).trans hk1); have hs1 : w.heap.size < w1.heap.size := (by have := hk1.size; rw [World.size_alloc] at this; omega); have e0 := cell_alloc_of _ (.cells #[.pointer (some ⟨w1.heap.size + 1, 0, none⟩)] 65) (cell_alloc_of _ (.cells #[.slice (some ⟨w1.heap.size, 0, none⟩) 4 4] 69) (cell_alloc_of w1 (.cells #[.int .u8 87, .int .u8 76, .int .u8 79, .int .u8 71] 5 (4, 5)) d0)); clear hk1 hn1) | (refine ⟨trivial, ?_⟩; gi_at_call 29; refine (callsIn_wide.2 (enc_first w1 h h0 h1)).mono ?_; rintro e w3 ⟨rfl, hE⟩; have HE := hid hE; have p3 := hE.cell; obtain ⟨c0, c1, c2, c3, c4, c5⟩ := box6 ((hE.kept.block _ hs1 (fun e => e)).trans HN1.out); clear hE d0 d1 d2 d3 d4 d5 e0) | (refine ⟨trivial, ?_⟩; gi_at_call 30; refine (callsIn_wide.2 (enc_number HE.out (n : Int) (by omega) (by omega) (by simp [le4]))).mono ?_; rintro e w4 ⟨rfl, hE4⟩; have HE4 := hid hE4; have p4 := hE4.cell; obtain ⟨g0, g1, g2, g3, g4, g5⟩ := box6 ((hE4.kept.block _ hs1 (fun e => e)).trans HN1.out); clear hE4 c0 c1 c2 c3 c4 c5 p3 HE) | (refine ⟨trivial, ?_⟩; gi_at_call 31; refine (callsIn_wide.2 (all_call a n cap w4)).mono ?_; rintro e w5 ⟨rfl, rfl⟩))
    have hw5 : Enc w1 (w4.alloc (.cells #[.slice a n cap] 23)) ([87, 76, 79, 71] ++ le4 h ++ encN n ++ encPre l []) := by
      simpa [encPre] using HE4.out.keep ((Keeps.refl No w4).alloc (.cells #[.slice a n cap] 23))
    have hc5 : (w4.alloc (.cells #[.slice a n cap] 23)).cell? ⟨w4.heap.size, 0, none⟩ = some (.slice a n cap) := by simp [go_sem]
    have hb5 := heap_alloc_new w4 (.cells #[.slice a n cap] 23)
    have hz5 : w4.heap.size + 1 = (w4.alloc (.cells #[.slice a n cap] 23)).heap.size := by simp
    have hs4 := HE4.out.kept.size
    have HL4 := hid (Array.getElem?_eq_some_iff.1 HE4.out.ptr).1
    have hA5 : TurnsAt (w4.alloc (.cells #[.slice a n cap] 23)) a l := HA.out.keep (((HK1.out.trans HE4.out.kept)).alloc _) (fun _ _ e => e)
    clear p4
    generalize w4.alloc (.cells #[.slice a n cap] 23) = W5 at *
    refine wpIn_rangeFunc_ownH (w0 := W5) rfl h1m (gf := 46) (lb := #[.pointer (some ⟨w4.heap.size, 0, none⟩)]) rfl trivial (enters_of Try.func46 (by kernel_rfl) rfl)
      (all_stops (m - 1) hm1 w1.heap.size w4.heap.size a n cap l W5 (by omega) (by omega) (by omega) HN hc5 (hid hA5) (hid (fun hq p hp => Nat.lt_trans (HB.out hq p hp) hs1)))
      (fun h k => h.trans k) (fun W j o o' hj _ _ _ => kp_put _ _ W5 W j o' (by omega) (by omega) hj) (Below.refl _ _) (fun _ => rfl)
      (fun pre W => Enc w1 W ([87, 76, 79, 71] ++ le4 h ++ encN n ++ encPre l (pre.map (·.1))) ∧ W5.heap.size ≤ W.heap.size ∧ W.heap[w4.heap.size]? = some (.cells #[.slice a n cap] 23 (0, 0)))
      (fun _ _ _ => False)
      (fun s W W' row hs hg hr => ⟨hs.1.own hg (fun r e => ⟨by have := (hr r e).1; omega, (hr r e).2⟩), Nat.le_trans hs.2.1 hg.size, (hg.block _ (Array.getElem?_eq_some_iff.1 hs.2.2).1 (fun e => by have := (hr _ e.symm).1; omega)).trans hs.2.2⟩)
      (fun _ _ _ _ _ hs _ _ => hs)
      ⟨hw5, Nat.le_refl _, hb5⟩
      (fun x a' W => ∃ Bx, W5.heap.size ≤ Bx ∧ W.heap[Bx]? = some (.cells #[.int .i64 (l[x.1]?.getD (0, 0)).1, .int .i64 (l[x.1]?.getD (0, 0)).2] 57 (0, 0)) ∧ a' = { tmps := encTmps w w1 w4 h k tr th st a n cap x.1 (l[x.1]?.getD (0, 0)).1 (l[x.1]?.getD (0, 0)).2 Bx, defers := [] })
      ?hAx ?assign ?body ?done ?stop
    case hAx =>
      rintro x a' s W W' row ⟨Bx, q1, q2, q3⟩ hg hr
      refine ⟨Bx, q1, (hg.block Bx (Array.getElem?_eq_some_iff.1 q2).1 (fun e => ?_)).trans q2, q3⟩
      obtain ⟨_, o, ho, hn⟩ := hr _ e.symm
      rw [q2] at ho
      cases ho
      simp [Obj.isCells] at hn
    case assign =>
      intro lp pre x W K hI hK
      have HK := hid hK
      have hI2 := hI.1.keep ((Keeps.refl No W).alloc (.cells #[.int .i64 (l[x.1]?.getD (0, 0)).1, .int .i64 (l[x.1]?.getD (0, 0)).2] 57))
      have hN := heap_alloc_new W (.cells #[.int .i64 (l[x.1]?.getD (0, 0)).1, .int .i64 (l[x.1]?.getD (0, 0)).2] 57)
      clear hK
      gi_wp2
      exact HK.out _ _ ((KeepsOthers.alloc _ _).from _) ((Keeps.refl _ W).alloc _) ⟨hI2, by have := hI.2.1; simp; omega, (Below.heap_alloc _ _ _ (by have := hI.2.1; omega)).trans hI.2.2⟩ ⟨W.heap.size, hI.2.1, hN, rfl⟩
    case body =>
      rintro lp pre x a' W hlp ⟨r, hr⟩ ⟨hE, hsz, hbn⟩ ⟨Bx, hBx, hbox, rfl⟩ hpl
      have hbd := chk_elems l 0 (-1) (by omega) (by have := HOK.out; simp only [okB, Bool.and_eq_true] at this; exact this.2) x.1 (by rw [HN.out]; exact x.2)
      have e0 := hE.cell
      have y0 : W.cell? ⟨Bx, 0, none⟩ = some (.int .i64 (l[x.1]?.getD (0, 0)).1) := by rw [cell_of_row W _ _ _ _ _ hbox]; rfl
      generalize hbs : ([87, 76, 79, 71] ++ le4 h ++ encN n ++ encPre l (pre.map (·.1))) = bs at *
      generalize hu : (l[x.1]?.getD (0, 0)).1 = u at *
      generalize hv : (l[x.1]?.getD (0, 0)).2 = v at *
      have hbl : bs.length ≤ 50000 := by
        have h1 := encN_len n
        have h2 := encPre_len l (pre.map (·.1))
        rw [← hbs]
        simp only [List.length_append, List.length_map, List.length_cons, List.length_nil, show (le4 h).length = 4 from rfl] at h2 ⊢
        omega
      have hw8 : IntKind.u8.wrap u = u := by rw [IntKind.wrap_u8]; omega
      obtain ⟨g, cap9, g', cap', W3, z1, z2, z3, z4, z5, gg, z6, ⟨z7c, z7⟩, z8c, z8⟩ := enc_append hE (by omega) [u] #[.int .u8 u] rfl (by simp) (by simp)
      simp only [List.length_cons, List.length_nil, Nat.zero_add] at z2 z5 z6
      have hlt1 := World.block_lt_of_cell? _ _ z1
      have hlt2 := World.block_lt_of_cell? _ _ e0
      have hlt3 := World.block_lt_of_cell? _ _ y0
      simp only at hlt1 hlt2 hlt3
      have HZ5 := hid z5
      have HZ6 := hid z6
      have HZ7 := hid z7
      have HZ8 := hid z8
      have HBS := hid hbs
      have HU := hid hu
      have HV := hid hv
      have HHE := hid hE
      have HHB := hid hbox
      clear hE z5 z6 z7 z8 hbs hu hv hbox hw5 hc5 hA5
      have z9 : W3.cell? ⟨w1.heap.size + 1 + 1, 0, none⟩ = some (.pointer (some ⟨w1.heap.size + 1, 0, none⟩)) := by
        have := HZ5.out.cell
        rwa [World.cell?_setCell_far _ _ _ _ (by simp)] at this
      have y9 : (W3.setCell ⟨w1.heap.size + 1, 0, none⟩ (.slice (some ⟨g', 0, none⟩) (bs.length + 1) cap')).cell? ⟨Bx, 1, none⟩ = some (.int .i64 v) := by
        refine HZ6.out.cellS (p := ⟨Bx, 1, none⟩) ?_ ?_
        · rw [cell_of_row W _ _ _ _ _ HHB.out]; rfl
        · rintro (e | e)
          · have := HL4.out; simp only at e; omega
          · simp only at e; have := HHB.out; rw [e, HZ7.out] at this; cases this
      obtain ⟨g2, n1, n2, n3, n4⟩ := enc_number2 HZ5.out v (by omega) (by omega) (by simp; omega)
      have N1 := hid n1
      have N2 := hid n2
      have N3 := hid n3
      have N4 := hid n4
      clear n1 n2 n3 n4
      gi_wp2_with fail
      refine region9_in lp _ _ _ _ _ _ _ _ _ _ _ _ _ _ _ _ _ _ _ _ _ _ _ _ _ _ _ _ _ _ _ (w1.heap.size + 1 + 1) (w1.heap.size + 1) Bx g cap9 g' cap' bs.length u W W3 _ e0 z1 y0 hw8 z2 z9 z3 z4 ?_
      clear z1 z2 z3 z4 z9 e0 y0
      have e9 := HZ5.out.cell
      generalize W3.setCell ⟨w1.heap.size + 1, 0, none⟩ (.slice (some ⟨g', 0, none⟩) (bs.length + 1) cap') = W6 at *
      gi_wp2_with (refine ⟨trivial, fun _ => by omega, ?_⟩; gi_at_call 30; refine (CallsIn.inRound lp (callsIn_wide.2 N4.out)).mono ?_; rintro e W7 ⟨⟨rfl, hE7⟩, hk7⟩)
      have hc6 : W6.heap[w4.heap.size]? = some (.cells #[.slice a n cap] 23 (0, 0)) := by
        refine (HZ6.out.block _ (Array.getElem?_eq_some_iff.1 hbn).1 ?_).trans hbn
        rintro (e | e)
        · have := HL4.out; omega
        · rw [e, HZ7.out] at hbn; cases hbn
      obtain ⟨g2c, hg2⟩ := N3.out
      have hc7 : W7.heap[w4.heap.size]? = some (.cells #[.slice a n cap] 23 (0, 0)) := by
        refine (hk7.block _ (Array.getElem?_eq_some_iff.1 hc6).1 ?_).trans hc6
        rintro (e | e)
        · have := HL4.out; omega
        · rw [e, hg2] at hc6; cases hc6
      have hs7 : W.heap.size ≤ W7.heap.size := Nat.le_trans HZ6.out.size hk7.size
      refine ⟨(keepsFrom_cells HZ6.out ?_).trans (keepsFrom_cells hk7 ?_), ⟨hk7.os.trans HZ6.out.os, hk7.tape.trans HZ6.out.tape, hk7.output.trans HZ6.out.output, hs7, ?_⟩, ?_, Nat.le_trans hsz hs7, hc7⟩
      · rintro k (rfl | rfl)
        · exact ⟨_, _, _, HZ8.out⟩
        · exact ⟨_, _, _, HZ7.out⟩
      · rintro k (rfl | rfl)
        · obtain ⟨c, hc⟩ := N2.out; exact ⟨_, _, _, hc⟩
        · exact ⟨_, _, _, hg2⟩
      · intro k hk hn
        rcases Classical.not_not.1 hn with hn | rfl
        · exact (hE7.kept.block k hn (fun e => e)).trans (HHE.out.kept.block k hn (fun e => e)).symm
        · exact hc7.trans hbn.symm
      · have : [87, 76, 79, 71] ++ le4 h ++ encN ↑n ++ encPre l (List.map (fun x => x.val) (pre ++ [x])) = bs ++ [u] ++ encN v := by
          rw [← HBS.out, ← HU.out, ← HV.out]
          simp [encPre]
        rw [this]
        exact hE7
    case done =>
      rintro D ys W hD hS hI hK
      have hE := hI.1
      rw [hS, ← HN.out, encPre_range] at hE
      have hf6 := (hE.kept.block _ hs1 (fun e => e)).trans HN1.out
      obtain ⟨j0, j1, j2, j3, j4, j5⟩ := box6 hf6
      have e0 := hE.cell
      have hbd := endB_bd (by have := HOK.out; simp only [okB, Bool.and_eq_true] at this; exact this.1)
      have hk8 : IntKind.u8.wrap k = k := by rw [IntKind.wrap_u8]; omega
      have htr8 : IntKind.u8.wrap tr = tr := by rw [IntKind.wrap_u8]; omega
      have hth8 : IntKind.u8.wrap th = th := by rw [IntKind.wrap_u8]; omega
      have hbl : ([87, 76, 79, 71] ++ le4 h ++ encN ↑l.length ++ encTurns l).length ≤ 50000 := by
        have h1 := encN_len l.length
        have h2 := encTurns_len l
        have h3 := HN.out
        simp only [List.length_append, List.length_cons, List.length_nil, show (le4 h).length = 4 from rfl]
        omega
      generalize hbs : [87, 76, 79, 71] ++ le4 h ++ encN ↑l.length ++ encTurns l = bs at *
      obtain ⟨g, cap9, g', cap', W3, z1, z2, z3, z4, z5, gg, z6, ⟨z7c, z7⟩, z8c, z8⟩ := enc_append hE (by omega) [k, tr, th] #[.int .u8 k, .int .u8 tr, .int .u8 th] rfl (by simp) (by simp)
      simp only [List.length_cons, List.length_nil, Nat.zero_add, Nat.reduceAdd] at z2 z5 z6
      have HBS := hid hbs
      have HHE := hid hE
      have HZ5 := hid z5
      have HZ6 := hid z6
      have hD6 := def_kept HZ6.out (two_cells z8 z7) hK rfl
      have z9 : W3.cell? ⟨w1.heap.size + 1 + 1, 0, none⟩ = some (.pointer (some ⟨w1.heap.size + 1, 0, none⟩)) := by
        have := HZ5.out.cell
        rwa [World.cell?_setCell_far _ _ _ _ (by simp)] at this
      have hf6' := (HZ5.out.kept.block _ hs1 (fun e => e)).trans HN1.out
      obtain ⟨k0, k1, k2, k3, k4, k5⟩ := box6 hf6'
      have q2 := k2
      have q3 := k3
      have q4 := k4
      rw [World.cell?_setCell_far _ _ _ _ (by simp; omega)] at k2 k3 k4 k5
      have hltb : w1.heap.size + 1 < W.heap.size := World.block_lt_of_cell? _ _ z1
      have zz := cell_alloc_of W (.cells #[.int .u8 k, .int .u8 tr, .int .u8 th] 5) z1
      have ze := cell_alloc_of W (.cells #[.int .u8 k, .int .u8 tr, .int .u8 th] 5) e0
      clear hE z5 z6 z7 z8 hbs hw5 hc5 hA5 hI hK hf6 hf6' j0 j1 k0 k1
      gi_wp2_with fail
      refine Sched.region (fun _ => trivial) rfl (by kernel_rfl) [18, 19, 23] [.pointer (some ⟨w1.heap.size + 1, 0, none⟩), .pointer (some ⟨w1.heap.size + 1, 0, none⟩), .pointer (some ⟨w1.heap.size + 1, 0, none⟩), .pointer (some ⟨w1.heap.size + 1, 0, none⟩), .pointer (some ⟨w1.heap.size + 1, 0, none⟩), .slice (some ⟨g, 0, none⟩) bs.length cap9, .pointer (some ⟨w.heap.size, 2, none⟩), .pointer (some ⟨w.heap.size, 2, none⟩), .int .i64 k, .int .u8 k, .pointer (some ⟨w.heap.size, 2, none⟩), .pointer (some ⟨w.heap.size, 3, none⟩), .int .i64 tr, .int .u8 tr, .pointer (some ⟨w.heap.size, 2, none⟩), .pointer (some ⟨w.heap.size, 4, none⟩), .int .i64 th, .int .u8 th, .slice (some ⟨W.heap.size, 0, none⟩) 3 3, .slice (some ⟨g', 0, none⟩) (bs.length + 3) cap', .pointer (some ⟨w1.heap.size + 1, 0, none⟩), .pointer (some ⟨w1.heap.size + 1, 0, none⟩), .pointer (some ⟨w1.heap.size + 1, 0, none⟩), undef]
        (fun p wp => match p with | 0 => wp = W.drew | 1 => wp = (W.alloc (.cells #[.int .u8 k, .int .u8 tr, .int .u8 th] 5)).drew | 2 => wp = W3 | _ => wp = W3.setCell ⟨w1.heap.size + 1, 0, none⟩ (.slice (some ⟨g', 0, none⟩) (bs.length + 3) cap')) (by kernel_rfl) (by kernel_rfl) rfl rfl ?_ ?_
      · simp only [List.zip_cons_cons, List.zip_nil_left]
        iterate 24
          refine Sched.Steps.cons ?_ ?_
          rotate_left
        exact Sched.Steps.nil
        all_goals simp only [List.take_succ_cons, List.take_zero, Sched.putL, Act.put, List.setIfInBounds_toArray, List.set_cons_zero, List.set_cons_succ]
        all_goals (intro p hp w' hw; rcases p with _ | _ | _ | _ | p)
        all_goals first | exact Sched.not_may hp (by decide +kernel) | (exfalso; have hq := Sched.may_le hp; simp only [List.length_cons, List.length_nil] at hq; omega) | (cases hw; clear hp; simp [Sched.Ok, Sched.OkE, go_sem, *])
      rintro _ rfl
      simp only [List.zip_cons_cons, List.zip_nil_left, Sched.putL, Act.put, List.setIfInBounds_toArray, List.set_cons_zero, List.set_cons_succ]
      have hf6 := (HZ5.out.kept.block _ hs1 (fun e => e)).trans HN1.out
      have e9 := HZ5.out.cell
      obtain ⟨k0, k1, p2, p3, p4, p5⟩ := box6 hf6
      clear z1 z2 z3 z4 z9 zz ze e0 j2 j3 j4 j5 k2 k3 k4 k5 q2 q3 q4 hf6 k0 k1 p2 p3 p4 HZ6
      generalize W3.setCell ⟨w1.heap.size + 1, 0, none⟩ (.slice (some ⟨g', 0, none⟩) (bs.length + 3) cap') = W6 at *
      have HD6 := hid hD6
      obtain ⟨g2, n1, ⟨n2c, n2⟩, ⟨n3c, n3⟩, n4⟩ := enc_number2 HZ5.out st (by omega) (by omega) (by simp; omega)
      have N2 := hid n2
      have N3 := hid n3
      have N4 := hid n4
      clear n1 n2 n3 n4 hD6
      gi_wp2_with (refine ⟨trivial, ?_⟩; gi_at_call 30; refine (callsIn_wide.2 N4.out).mono ?_; rintro e W7 ⟨⟨rfl, hE7⟩, hk7⟩; have HD7 := hid (def_kept hk7 (two_cells N2.out N3.out) HD6.out rfl); have HE7 := hid hE7; have e7 := hE7.cell; obtain ⟨g7, cap7, y1, y2, y3, y4⟩ := hE7.row; have Y2 := hid y2; have Y4 := hid y4; clear p5 e9 hE7 y2 y4 hk7)
      have hb7 : bs ++ [k, tr, th] ++ encN st = encBody h l k tr th st := by rw [← HBS.out]; rfl
      have hby : Bytes (encBody h l k tr th st) := bytes_body h0 h1 (by have := HOK.out; simp only [okB, Bool.and_eq_true] at this; exact this.2) (by have := HN.out; omega) (by omega) (by omega) (by omega) (by omega)
      have hl7 : (encBody h l k tr th st).length ≤ 60000 := by
        rw [← hb7]
        have h1 := encN_len st
        simp only [List.length_append, List.length_cons, List.length_nil]
        omega
      rw [hb7] at HE7 Y2 Y4 y1
      have hsm := sumL_bd (encBody h l k tr th st)
      have hSum := hid (sum_any (some ⟨g7, 0, none⟩) cap7 (encBody h l k tr th st).length (encBody h l k tr th st) W7.drew (hid rfl) (by omega) (hid Y2.out) (hid hby))
      obtain ⟨g3, o1, ⟨o2c, o2⟩, ⟨o3c, o3⟩, o4⟩ := enc_word2 (W := W7.drew) (HE7.out.keep (Keeps.refl No W7).drew) (sumL (encBody h l k tr th st)) hsm.1 hsm.2 (by omega)
      have O2 := hid o2
      have O3 := hid o3
      have hWord := hid o4
      clear o1 o2 o3 o4
      clear HBS hbl hb7
      refine Sched.region (fun _ => trivial) rfl (by kernel_rfl) [7] [.pointer (some ⟨w1.heap.size + 1, 0, none⟩), .pointer (some ⟨w1.heap.size + 1, 0, none⟩), .pointer (some ⟨w1.heap.size + 1, 0, none⟩), .pointer (some ⟨w1.heap.size + 1, 0, none⟩), .pointer (some ⟨w1.heap.size + 1, 0, none⟩), .slice (some ⟨g7, 0, none⟩) (encBody h l k tr th st).length cap7, .int .u32 (sumL (encBody h l k tr th st)), .tuple #[]]
        (fun p wp => match p with | 0 => wp = W7.drew | _ => Enc w1 wp (encM h l k tr th st) ∧ wp.heap[D]? = some (.deferred (some []))) (by kernel_rfl) (by kernel_rfl) rfl rfl ?_ ?_
      · simp only [List.zip_cons_cons, List.zip_nil_left]
        iterate 8
          refine Sched.Steps.cons ?_ ?_
          rotate_left
        exact Sched.Steps.nil
        all_goals simp only [List.take_succ_cons, List.take_zero, Sched.putL, Act.put, List.setIfInBounds_toArray, List.set_cons_zero, List.set_cons_succ]
        all_goals (intro p hp w' hw; rcases p with _ | _ | p)
        all_goals first | exact Sched.not_may hp (by decide +kernel) | (exfalso; have hq := Sched.may_le hp; simp only [List.length_cons, List.length_nil] at hq; omega) | (cases hw; clear hp; simp [Sched.Ok, Sched.OkE, go_sem, *]; done) | skip
        · cases hw
          clear hp
          simp [Sched.Ok, Sched.OkE, go_sem]
          refine (callsIn_wide.2 hSum.out).mono ?_
          rintro e w' ⟨he, rfl⟩
          exact ⟨_, he, rfl, rfl⟩
        · cases hw
          clear hp
          simp [Sched.Ok, Sched.OkE, go_sem]
          refine (callsIn_wide.2 hWord.out).mono ?_
          rintro e w' ⟨⟨he, hE⟩, hk⟩
          exact ⟨_, he, rfl, hE, def_kept hk (two_cells O2.out O3.out) HD7.out rfl⟩
      intro w8 hw8
      simp only [List.zip_cons_cons, List.zip_nil_left, Sched.putL, Act.put, List.setIfInBounds_toArray, List.set_cons_zero, List.set_cons_succ]
      have HE8 : Hid (Enc w1 w8 (encM h l k tr th st)) := hid hw8.1
      have HD8 := hid hw8.2
      have e8 := HE8.out.cell
      obtain ⟨g8, cap8, x1, x2, x3, x4⟩ := HE8.out.row
      have X4 := hid x4
      clear x2 x4 hw8 e7 y1
      gi_wp2_with fail
      refine ⟨fun e => (by cases e), .inl ⟨D, _, rfl, run_takeDeferred HD8.out, .tuple #[.slice (some ⟨g8, 0, none⟩) (encM h l k tr th st).length cap8, .int .i64 0], by simp [results, Try.results13, go_sem], ?_⟩⟩
      have hkD : Keeps (fun k => k = D) w8 (w8.putObj D (.deferred none)) := (Keeps.refl _ w8).grown (grownBy_putObj' w8 D _) (fun k hk => by cases hk; exact .inl rfl)
      have hge : w.heap.size ≤ D := by have := HL4.out; omega
      refine ⟨(HK1.out.trans HE8.out.kept).trans' hkD (fun _ h => h) (fun i hi e => by omega), fun e => (by rw [HOK.out] at e; cases e), fun _ => ⟨g8, cap8, rfl, by have := HK1.out.size; omega, ?_⟩⟩
      refine hkD.row X4.out ?_
      rintro k hk rfl
      cases hk
      rcases X4.out.2 with ⟨hv, _⟩ | ⟨g, cap, cur, hv, _, hg, _⟩
      · cases hv
      · cases hv
        rw [HD8.out] at hg
        cases hg
    case stop =>
      rintro D c pre W _ _ h _
      exact h.elim

end Go.Proofs.Ytnbhphjpefagjaa
