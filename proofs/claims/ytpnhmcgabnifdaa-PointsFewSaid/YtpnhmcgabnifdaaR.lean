/- Points: the law's played. -/
import Derived.Test.YtpnhmcgabnifdaaQ
import Derived.Deep.RegionWith
import Derived.Deep.RegionHeld3
namespace Go.Proofs.Ytpnhmcgabnifdaa
open Go.RowKit

/-- Points at b and the document's in the box bw, behind some times. -/
def PlayI (w : World) (bw : Nat) (ev mo : Int) (wr : World) : Prop :=
  ∃ kv wk s, Both wr (w.heap.size + 1) ev mo kv wk s ∧ wr.heap[bw]? = some (.cells #[.int .i64 ev, .int .i64 mo, wk, .int .i64 s.gn, .int .i64 s.la] 27 (0, 0)) ∧
    wr.heap[w.heap.size]? = some (.cells #[.int .i64 0, .int .i64 0, .slice none 0 0, .int .i64 0, .int .i64 0] 27 (0, 0)) ∧ w.heap.size + 1 < bw ∧
    (∀ j, kv.ownBlock = some j → bw < j) ∧ (∀ j, wk.ownBlock = some j → bw < j) ∧ Keeps No w wr

theorem play_step {w : World} {bw : Nat} {ev mo : Int} {kv wk : Value} {s s' : St} {wr w2 : World} {kv' wk' : Value} (hb : Both wr (w.heap.size + 1) ev mo kv wk s) (hh : wr.heap[bw]? = some (.cells #[.int .i64 ev, .int .i64 mo, wk, .int .i64 s.gn, .int .i64 s.la] 27 (0, 0)))
    (hr : wr.heap[w.heap.size]? = some (.cells #[.int .i64 0, .int .i64 0, .slice none 0 0, .int .i64 0, .int .i64 0] 27 (0, 0))) (hlt : w.heap.size + 1 < bw)
    (h1 : ∀ j, kv.ownBlock = some j → bw < j) (h2 : ∀ j, wk.ownBlock = some j → bw < j) (hk : Keeps No w wr)
    (hb2 : Both w2 (w.heap.size + 1) ev mo kv' wk' s') (hk2 : Keeps (Mine (w.heap.size + 1) kv) wr w2) (h3 : ∀ k, kv'.ownBlock = some k → kv.ownBlock = some k ∨ wr.heap.size ≤ k) (h4 : ∀ k, wk'.ownBlock = some k → wk.ownBlock = some k ∨ wr.heap.size ≤ k) :
    PlayI w bw ev mo (((((w2.setCell ⟨bw, 0, none⟩ (.int .i64 ev)).setCell ⟨bw, 1, none⟩ (.int .i64 mo)).setCell ⟨bw, 2, none⟩ wk').setCell ⟨bw, 3, none⟩ (.int .i64 s'.gn)).setCell ⟨bw, 4, none⟩ (.int .i64 s'.la)) := by
  have hbl := (Array.getElem?_eq_some_iff.1 hh).1
  have hrl := (Array.getElem?_eq_some_iff.1 hr).1
  have K5 : Keeps (fun k => k = bw) w2 (((((w2.setCell ⟨bw, 0, none⟩ (.int .i64 ev)).setCell ⟨bw, 1, none⟩ (.int .i64 mo)).setCell ⟨bw, 2, none⟩ wk').setCell ⟨bw, 3, none⟩ (.int .i64 s'.gn)).setCell ⟨bw, 4, none⟩ (.int .i64 s'.la)) :=
    ((((Keeps.set_at w2 _ 0 _).trans (Keeps.set_at _ _ 1 _)).trans (Keeps.set_at _ _ 2 _)).trans (Keeps.set_at _ _ 3 _)).trans (Keeps.set_at _ _ 4 _)
  have hm : ∀ k, k ≠ w.heap.size + 1 → (k ≤ bw ∨ wr.heap.size ≤ k) → ¬ Mine (w.heap.size + 1) kv k := by
    rintro k hk hk2 (h | h)
    · exact hk h
    · have := h1 k h
      have := (hb.pts.row.lt k h).2
      omega
  have hkv : ∀ j, kv'.ownBlock = some j → bw < j := by
    intro j hj
    rcases h3 j hj with h | h
    · exact h1 j h
    · omega
  have hwk : ∀ j, wk'.ownBlock = some j → bw < j := by
    intro j hj
    rcases h4 j hj with h | h
    · exact h2 j h
    · omega
  refine ⟨kv', wk', s', ⟨hb2.pts.keep K5 (by omega) (fun k hk => ?_), K5.row hb2.ref (fun k hk => ?_), hb2.sep⟩, heap_set5 ((hk2.block _ hbl (hm _ (by omega) (by omega))).trans hh) _ _ _ _ _, ?_, hlt, hkv, hwk, ?_⟩
  · have := hkv k hk; omega
  · have := hwk k hk; omega
  · exact (K5.block _ (Nat.lt_of_lt_of_le hrl hk2.size) (by omega)).trans ((hk2.block _ hrl (hm _ (by omega) (by omega))).trans hr)
  · refine (hk.trans' (T := No) hk2 (fun _ h => h) ?_).trans' (T := No) K5 (fun _ h => h) (fun i hi h => by omega)
    rintro i hi (h | h)
    · omega
    · have := h1 i h; omega

theorem froz {w : World} {b i : Nat} {c : Array Value} {e : TypeId} (h : w.heap[b]? = some (.cells c e (0, 0))) : w.frozen? ⟨b, i, none⟩ = false := by simp [World.frozen?, h]

theorem play_box {w : World} {bw : Nat} {kv : Value} {wr W w2 : World} {c : Array Value} (hh : wr.heap[bw]? = some (.cells c 27 (0, 0))) (hK : Keeps No wr W)
    (hlt : w.heap.size + 1 < bw) (h1 : ∀ j, kv.ownBlock = some j → bw < j) (hk2 : Keeps (Mine (w.heap.size + 1) kv) W w2) : w2.heap[bw]? = some (.cells c 27 (0, 0)) := by
  have hbl := (Array.getElem?_eq_some_iff.1 hh).1
  refine (hk2.block _ (Nat.lt_of_lt_of_le hbl hK.size) ?_).trans ((hK.block _ hbl (fun e => e)).trans hh)
  rintro (h | h)
  · omega
  · have := h1 _ h; omega

def Played (w : World) (ev mo : Int) (e : Ending) (w' : World) : Prop :=
  ∃ b kv wk s, e = .returned (.tuple #[.pointer (some ⟨b, 0, none⟩), RefV ev mo wk s.gn s.la, .bool true]) ∧ Both w' b ev mo kv wk s ∧ w.heap.size ≤ b ∧ (∀ j, kv.ownBlock = some j → w.heap.size ≤ j) ∧ (∀ j, wk.ownBlock = some j → w.heap.size ≤ j) ∧ Keeps No w w'

set_option maxHeartbeats 1000000 in
theorem played_any (ev mo : Int) (ta : Option Addr) (cap n : Nat) (l : List Int) (hn : Hid (l.length = n)) (w : World) (hok : okNew ev mo) (ht : IntsAt w ta l) (hl : n ≤ 100000) :
    Calls Try.prog 12 #[.int .i64 ev, .int .i64 mo, .slice ta n cap] w (Played w ev mo) := by
  have HOK := hid hok
  have HT := hid ht
  clear hok ht
  go_enter Try.func12, Try.ntmps12
  go_wp2_with (first | (go_at_call 16; refine (new_ok ev mo _ HOK.out).mono ?_; rintro e w' ⟨rfl, rfl⟩) | (go_at_call 26; refine (refnew_ok ev mo _ HOK.out).mono ?_; rintro e w1 ⟨rfl, hk1⟩; have HK1 := hid hk1; clear hk1) | (go_at_call 20; refine (num_any _ _).mono ?_; rintro e w' ⟨rfl, rfl⟩))
  have hI0 : PlayI w w1.heap.size ev mo (w1.alloc (.cells #[.int .i64 ev, .int .i64 mo, .slice none 0 0, .int .i64 0, .int .i64 (-1)] 27)) := by
    have hp0 := heap_alloc_new (w.alloc (.cells #[.int .i64 0, .int .i64 0, .slice none 0 0, .int .i64 0, .int .i64 0] 27)) (.cells #[.int .i64 ev, .int .i64 mo, .slice none 0 0, .int .i64 0, .int .i64 (-1)] 60)
    rw [World.size_alloc] at hp0
    have hr0 := (heap_alloc_old (w.alloc (.cells #[.int .i64 0, .int .i64 0, .slice none 0 0, .int .i64 0, .int .i64 0] 27)) (.cells #[.int .i64 ev, .int .i64 mo, .slice none 0 0, .int .i64 0, .int .i64 (-1)] 60) w.heap.size (by simp)).trans (heap_alloc_new w _)
    have hK := HK1.out.alloc (.cells #[.int .i64 ev, .int .i64 mo, .slice none 0 0, .int .i64 0, .int .i64 (-1)] 27)
    have hs := HK1.out.size
    simp only [World.size_alloc] at hs
    refine ⟨.slice none 0 0, .slice none 0 0, ⟨[], 0, -1⟩, ⟨?_, World.ownsRow_nil _ _ _ _, fun k hk => by cases hk⟩, heap_alloc_new w1 _, ?_, by omega, (fun j hj => by cases hj), (fun j hj => by cases hj), ?_⟩
    · exact ((good0 ev mo HOK.out).pts hp0 (World.ownsRow_nil _ _ _ _) (by simp [Value.ownBlock])).keepNo hK
    · exact (hK.block _ (by simp; omega) (fun e => e)).trans hr0
    · exact (((Keeps.refl No w).alloc _).alloc _).trans hK
  have hsw : w.heap.size + 2 ≤ w1.heap.size := by have hs := HK1.out.size; simp only [World.size_alloc] at hs; omega
  generalize w1.heap.size = bw at *
  generalize w1.alloc (.cells #[.int .i64 ev, .int .i64 mo, .slice none 0 0, .int .i64 0, .int .i64 (-1)] 27) = W1 at *
  clear HK1
  go_loopw [13, 14] (fun f i wr => ∃ k : Nat, k ≤ n ∧ f = .bool true ∧ i = .int .i64 k ∧ PlayI w bw ev mo wr) (fun _ i _ => n - (intOf i).toNat)
  case atStart => exact ⟨0, by omega, rfl, rfl, hI0⟩
  case round =>
    obtain ⟨k, hk, rfl, rfl, hI⟩ := hrel
    obtain ⟨kv, wk, s, hb, hh, hr, hlt, hv, hwv, hkk⟩ := hI
    obtain ⟨a', n', c', rfl⟩ := slice_form hb.ref
    obtain ⟨d0, d1, d2, d3, d4⟩ := five_cells hh
    have HB := hid hb
    have HH := hid hh
    have HR := hid hr
    have HV := hid hv
    have HWV := hid hwv
    have HKK := hid hkk
    have hbl : bw < wr.heap.size := (Array.getElem?_eq_some_iff.1 hh).1
    clear hb hh hr hv hwv hkk
    by_cases hlt2 : k < n
    · obtain ⟨g, off, rfl, hc⟩ := HT.out.resolve_left (by rintro rfl; have := hn.out; simp at this; omega)
      have x1 : wr.cell? ⟨g, off + k, none⟩ = some (.int .i64 (l[k]?.getD 0)) := HKK.out.cellS (p := ⟨g, off + k, none⟩) (hc k (by rw [hn.out]; exact hlt2)) (fun e => e)
      clear hc
      generalize l[k]?.getD 0 = t at *
      have HC := hid (fun W (hbw : Both W (w.heap.size + 1) ev mo kv (.slice a' n' c') s) => comes_any (w := W) t hbw)
      generalize (comeS ev mo s t).1 = s' at *
      go_wp2_with fail
      go_region_with (go_at_call 13; refine (HC.out _ (HB.out.keepNo (by exact ⟨rfl, rfl, rfl, Nat.le_refl _, fun _ _ _ => rfl⟩))).mono ?_; rintro e w2 ⟨kv', wk', rfl, hb2, hk2, h3, h4⟩; obtain ⟨a2, n2, c2, rfl⟩ := slice_form hb2.ref; have h9 := play_box HH.out (Keeps.drew (Keeps.refl No wr)) hlt HV.out hk2; obtain ⟨p0, p1, p2, p3, p4⟩ := five_cells h9; have f0 := froz (i := 0) h9; have f1 := froz (i := 1) h9; have f2 := froz (i := 2) h9; have f3 := froz (i := 3) h9; have f4 := froz (i := 4) h9; have HI := hid (play_step HB.out HH.out HR.out hlt HV.out HWV.out HKK.out hb2 (((Keeps.refl No wr).drew).trans' hk2 (fun _ h => h.elim) (fun _ _ h => h)) h3 h4); clear hb2 hk2 h3 h4 h9)
      all_goals
        go_wp2_with fail
        go_roundw
        case rel => exact ⟨k + 1, by omega, rfl, by go_num, HI.out⟩
        case measure => simp [intOf]; omega
    · obtain ⟨r0, r1, r2, r3, r4⟩ := five_cells HR.out
      have f0 := froz (i := 0) HR.out
      have f1 := froz (i := 1) HR.out
      have f2 := froz (i := 2) HR.out
      have f3 := froz (i := 3) HR.out
      have f4 := froz (i := 4) HR.out
      have hrl : w.heap.size < wr.heap.size := (Array.getElem?_eq_some_iff.1 HR.out).1
      have hne1 : ¬ w.heap.size = bw := by omega
      have hne2 : ¬ bw = w.heap.size := by omega
      have HC := hid (fun W (hbw : Both W (w.heap.size + 1) ev mo kv (.slice a' n' c') s) => is_any (w := W) hbw)
      go_wp2_with fail
      go_region_held3 (fun w' => w'.cell? ⟨bw, 0, none⟩ = some (.int .i64 ev) ∧ w'.cell? ⟨bw, 1, none⟩ = some (.int .i64 mo) ∧ w'.cell? ⟨bw, 2, none⟩ = some (.slice a' n' c') ∧ w'.cell? ⟨bw, 3, none⟩ = some (.int .i64 s.gn) ∧ w'.cell? ⟨bw, 4, none⟩ = some (.int .i64 s.la)) (go_keep) (first | (go_at_call 14; refine (HC.out _ (HB.out.keepNo (by exact ⟨rfl, rfl, rfl, Nat.le_refl _, fun _ _ _ => rfl⟩))).mono ?_; rintro e w2 ⟨rfl, hk2⟩; have h8 := (hk2.block bw (by exact hbl) (fun e => e)).trans HH.out; have h9 := (hk2.block w.heap.size (by exact hrl) (fun e => e)).trans HR.out; obtain ⟨p0, p1, p2, p3, p4⟩ := five_cells h8; obtain ⟨q0, q1, q2, q3, q4⟩ := five_cells h9; have g0 := froz (i := 0) h9; have g1 := froz (i := 1) h9; have g2 := froz (i := 2) h9; have g3 := froz (i := 3) h9; have g4 := froz (i := 4) h9; have H9 := hid h9; have HK2 := hid (((Keeps.refl No wr).drew).trans hk2); clear h8 h9 hk2))
      go_wp2_with fail
      have hh := heap_set5 H9.out (.int .i64 ev) (.int .i64 mo) (.slice a' n' c') (.int .i64 s.gn) (.int .i64 s.la)
      have K5 : Keeps (fun k => k = w.heap.size) w2 (((((w2.setCell ⟨w.heap.size, 0, none⟩ (.int .i64 ev)).setCell ⟨w.heap.size, 1, none⟩ (.int .i64 mo)).setCell ⟨w.heap.size, 2, none⟩ (.slice a' n' c')).setCell ⟨w.heap.size, 3, none⟩ (.int .i64 s.gn)).setCell ⟨w.heap.size, 4, none⟩ (.int .i64 s.la)) :=
        ((((Keeps.set_at w2 _ 0 _).trans (Keeps.set_at _ _ 1 _)).trans (Keeps.set_at _ _ 2 _)).trans (Keeps.set_at _ _ 3 _)).trans (Keeps.set_at _ _ 4 _)
      clear p0 p1 p2 p3 p4 q0 q1 q2 q3 q4 g0 g1 g2 g3 g4
      generalize (((((w2.setCell ⟨w.heap.size, 0, none⟩ (.int .i64 ev)).setCell ⟨w.heap.size, 1, none⟩ (.int .i64 mo)).setCell ⟨w.heap.size, 2, none⟩ (.slice a' n' c')).setCell ⟨w.heap.size, 3, none⟩ (.int .i64 s.gn)).setCell ⟨w.heap.size, 4, none⟩ (.int .i64 s.la)) = W9 at *
      obtain ⟨e0, e1, e2, e3, e4⟩ := five_cells hh
      have hb2 := HB.out.keepNo HK2.out
      refine bodyPost_ret (v := .tuple #[.pointer (some ⟨w.heap.size + 1, 0, none⟩), RefV ev mo (.slice a' n' c') s.gn s.la, .bool true]) (by simp [results, Try.results12, go_sem, e0, e1, e2, e3, e4]) rfl
        ⟨w.heap.size + 1, kv, _, s, rfl, ⟨hb2.pts.keep K5 (by omega) (fun k hk => ?_), K5.row hb2.ref (fun k hk => ?_), hb2.sep⟩, by omega, (fun j hj => ?_), (fun j hj => ?_), ?_⟩
      · have := HV.out k hk; omega
      · have := HWV.out k hk; omega
      · have := HV.out j hj; omega
      · have := HWV.out j hj; omega
      · exact (HKK.out.trans HK2.out).trans' K5 (fun _ h => h) (fun i hi h => by omega)

end Go.Proofs.Ytpnhmcgabnifdaa
