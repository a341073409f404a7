/- Points: the law's come and is. -/
import Derived.Test.YtpnhmcgabnifdaaN
import Derived.Deep.RegionHeld3
namespace Go.Proofs.Ytpnhmcgabnifdaa
open Go.RowKit

theorem row_form {B : Nat} {w : World} {v : Value} {l : List Int} (h : Row B w v l) : ∃ a c, v = .slice a l.length c ∧ IntsAt w a l ∧ (∀ p, a = some p → v.ownBlock = some p.block) := by
  rcases h.shape with ⟨rfl, rfl⟩ | ⟨g, cap, rfl, _⟩
  · exact ⟨none, 0, rfl, .inl rfl, fun p hp => by cases hp⟩
  · exact ⟨_, cap, rfl, (ownsRow_ints h).1, fun p hp => by cases hp; rfl⟩

/-- Points, and the document's, that stand the same. -/
structure Both (w : World) (b : Nat) (ev mo : Int) (kv wk : Value) (s : St) : Prop where
  pts : Pts w b ev mo kv s.l s.gn s.la
  ref : Row 0 w wk s.l
  sep : ∀ k, wk.ownBlock = some k → k ≠ b ∧ kv.ownBlock ≠ some k

theorem Both.keepNo {w w' : World} {b : Nat} {ev mo : Int} {kv wk : Value} {s : St} (h : Both w b ev mo kv wk s) (hk : Keeps No w w') : Both w' b ev mo kv wk s :=
  ⟨h.pts.keepNo hk, hk.row h.ref (fun _ _ e => e), h.sep⟩

def ComeBoth (b : Nat) (ev mo : Int) (kv wk : Value) (w : World) (s' : St) (e : Ending) (w' : World) : Prop :=
  ∃ kv' wk', e = .returned (.tuple #[RefV ev mo wk' s'.gn s'.la, .bool true]) ∧ Both w' b ev mo kv' wk' s' ∧ Keeps (Mine b kv) w w' ∧ (∀ k, kv'.ownBlock = some k → kv.ownBlock = some k ∨ w.heap.size ≤ k) ∧ (∀ k, wk'.ownBlock = some k → wk.ownBlock = some k ∨ w.heap.size ≤ k)

set_option maxHeartbeats 1000000 in
theorem comes_any {w : World} {b : Nat} {ev mo : Int} {kv wk : Value} {s : St} (t : Int) (h : Both w b ev mo kv wk s) :
    Calls Try.prog 13 #[.pointer (some ⟨b, 0, none⟩), RefV ev mo wk s.gn s.la, .int .i64 t] w (ComeBoth b ev mo kv wk w (comeS ev mo s t).1) := by
  obtain ⟨a, n, c, rfl⟩ := slice_form h.ref
  have HG := hid (good_come (s := s) h.pts.good t)
  have HB := hid h
  clear h
  have HR := hid (fun W (hr : Row 0 W (.slice a n c) s.l) => refcome_any (w := W) t HB.out.pts.good hr)
  have HC := hid (fun W (hp : Pts W b ev mo kv s.l s.gn s.la) => come_any (w := W) t hp)
  generalize comeS ev mo s t = r at *
  obtain ⟨s', x, y, z⟩ := r
  have hlt := HB.out.pts.lt
  go_enter Try.func13, Try.ntmps13
  go_wp2_with fail
  refine (HR.out _ ((((Keeps.refl No w).alloc _).alloc _).row HB.out.ref (fun _ _ e => e))).mono ?_
  rintro e w1 ⟨wk', rfl, hr1, hk1, hf1⟩
  obtain ⟨a', n', c', rfl⟩ := slice_form hr1
  have hk1' := hid hk1
  have K1 := hid ((((Keeps.refl No w).alloc _).alloc _).trans hk1)
  have HR1 := hid hr1
  have HF1 := hid hf1
  clear hr1 hk1 hf1
  dsimp only
  go_wp2_with fail
  have K2 := (K1.out.alloc (.cells #[.int .i64 ev, .int .i64 mo, .slice a' n' c', .int .i64 s'.gn, .int .i64 s'.la] 27))
  refine (HC.out _ (HB.out.pts.keepNo K2)).mono ?_
  rintro e w2 ⟨rfl, kv', hp2, hk2, hf2⟩
  dsimp only at hp2 hk2 hf2
  dsimp only
  have hsz1 : w.heap.size + 2 ≤ w1.heap.size := by have := K1.out.size; have h2 : ((w.alloc (.cells #[.int .i64 ev, .int .i64 mo, .slice a n c, .int .i64 s.gn, .int .i64 s.la] 27)).alloc (.cells #[.int .i64 0, .int .i64 0, .slice none 0 0, .int .i64 0, .int .i64 0] 27)).heap.size ≤ w1.heap.size := hk1'.out.size; simp at h2; omega
  have hmine : ∀ k, w.heap.size ≤ k → ¬ Mine b kv k := by
    rintro k hk (rfl | h)
    · omega
    · have := (HB.out.pts.row.lt k h).2
      omega
  have hb8 : w2.heap[w1.heap.size]? = some (.cells #[.int .i64 ev, .int .i64 mo, .slice a' n' c', .int .i64 s'.gn, .int .i64 s'.la] 27 (0, 0)) :=
    (hk2.block _ (by simp) (hmine _ (by omega))).trans (heap_alloc_new w1 _)
  have hbr : w2.heap[w.heap.size + 1]? = some (.cells #[.int .i64 0, .int .i64 0, .slice none 0 0, .int .i64 0, .int .i64 0] 27 (0, 0)) := by
    refine (hk2.block _ (by simp; omega) (hmine _ (by omega))).trans ((heap_alloc_old w1 _ _ (by omega)).trans ((hk1'.out.block _ (by simp) (fun e => e)).trans ?_))
    have := heap_alloc_new (w.alloc (.cells #[.int .i64 ev, .int .i64 mo, .slice a n c, .int .i64 s.gn, .int .i64 s.la] 27)) (.cells #[.int .i64 0, .int .i64 0, .slice none 0 0, .int .i64 0, .int .i64 0] 27)
    rwa [World.size_alloc] at this
  obtain ⟨d0, d1, d2, d3, d4⟩ := five_cells hb8
  obtain ⟨r0, r1, r2, r3, r4⟩ := five_cells hbr
  have f0 : w2.frozen? ⟨w.heap.size + 1, 0, none⟩ = false := by simp [World.frozen?, hbr]
  have f1 : w2.frozen? ⟨w.heap.size + 1, 1, none⟩ = false := by simp [World.frozen?, hbr]
  have f2 : w2.frozen? ⟨w.heap.size + 1, 2, none⟩ = false := by simp [World.frozen?, hbr]
  have f3 : w2.frozen? ⟨w.heap.size + 1, 3, none⟩ = false := by simp [World.frozen?, hbr]
  have f4 : w2.frozen? ⟨w.heap.size + 1, 4, none⟩ = false := by simp [World.frozen?, hbr]
  have HBR := hid hbr
  have HP2 := hid hp2
  have HK2 := hid hk2
  have HF2 := hid hf2
  have hne1 : ¬ w.heap.size + 1 = w1.heap.size := by omega
  have hne2 : ¬ w1.heap.size = w.heap.size + 1 := by omega
  have HKK := hid K2
  clear hbr hb8 hp2 hk2 hf2 K2
  go_wp2_with fail
  go_region_held3 (fun w' => w'.cell? ⟨w1.heap.size, 0, none⟩ = some (.int .i64 ev) ∧ w'.cell? ⟨w1.heap.size, 1, none⟩ = some (.int .i64 mo) ∧ w'.cell? ⟨w1.heap.size, 2, none⟩ = some (.slice a' n' c') ∧ w'.cell? ⟨w1.heap.size, 3, none⟩ = some (.int .i64 s'.gn) ∧ w'.cell? ⟨w1.heap.size, 4, none⟩ = some (.int .i64 s'.la)) (go_keep) (first | (go_at_call 20; refine (num_any _ _).mono ?_; rintro e w' ⟨rfl, rfl⟩))
  go_wp2_with fail
  have hh := heap_set5 HBR.out (.int .i64 ev) (.int .i64 mo) (.slice a' n' c') (.int .i64 s'.gn) (.int .i64 s'.la)
  have K5 : Keeps (fun k => k = w.heap.size + 1) w2 (((((w2.setCell ⟨w.heap.size + 1, 0, none⟩ (.int .i64 ev)).setCell ⟨w.heap.size + 1, 1, none⟩ (.int .i64 mo)).setCell ⟨w.heap.size + 1, 2, none⟩ (.slice a' n' c')).setCell ⟨w.heap.size + 1, 3, none⟩ (.int .i64 s'.gn)).setCell ⟨w.heap.size + 1, 4, none⟩ (.int .i64 s'.la)) :=
    ((((Keeps.set_at w2 _ 0 _).trans (Keeps.set_at _ _ 1 _)).trans (Keeps.set_at _ _ 2 _)).trans (Keeps.set_at _ _ 3 _)).trans (Keeps.set_at _ _ 4 _)
  clear d0 d1 d2 d3 d4 r0 r1 r2 r3 r4 f0 f1 f2 f3 f4
  generalize (((((w2.setCell ⟨w.heap.size + 1, 0, none⟩ (.int .i64 ev)).setCell ⟨w.heap.size + 1, 1, none⟩ (.int .i64 mo)).setCell ⟨w.heap.size + 1, 2, none⟩ (.slice a' n' c')).setCell ⟨w.heap.size + 1, 3, none⟩ (.int .i64 s'.gn)).setCell ⟨w.heap.size + 1, 4, none⟩ (.int .i64 s'.la)) = W9 at *
  obtain ⟨e0, e1, e2, e3, e4⟩ := five_cells hh
  have hs2 := ((((Keeps.refl No w).alloc (.cells #[.int .i64 ev, .int .i64 mo, .slice a n c, .int .i64 s.gn, .int .i64 s.la] 27)).alloc (.cells #[.int .i64 0, .int .i64 0, .slice none 0 0, .int .i64 0, .int .i64 0] 27)))
  have hwk : ∀ k, (Value.slice a' n' c').ownBlock = some k → k < w1.heap.size ∧ (((Value.slice a n c).ownBlock = some k ∧ k < w.heap.size) ∨ w.heap.size + 2 ≤ k) := by
    intro k hk
    refine ⟨(HR1.out.lt k hk).2, ?_⟩
    rcases HF1.out k hk with h | h
    · exact .inl ⟨h, (HB.out.ref.lt k h).2⟩
    · exact .inr (by simpa using h)
  have hkv' : ∀ k, kv'.ownBlock = some k → (kv.ownBlock = some k ∧ k < w.heap.size) ∨ w1.heap.size + 1 ≤ k := by
    intro k hk
    rcases HF2.out k hk with h | h
    · exact .inl ⟨h, (HB.out.pts.row.lt k h).2⟩
    · exact .inr (by simpa using h)
  refine bodyPost_ret (v := .tuple #[RefV ev mo (.slice a' n' c') s'.gn s'.la, .bool true]) (by simp [results, Try.results13, go_sem, e0, e1, e2, e3, e4]) rfl ⟨kv', _, rfl, ⟨HP2.out.keep K5.drew (by omega) (fun k hk => ?_), ?_, fun k hk => ?_⟩, ?_, fun k hk => ?_, fun k hk => ?_⟩
  · rcases hkv' k hk with h | h <;> omega
  · refine K5.drew.row (HK2.out.row (World.ownsRow.alloc HR1.out _) (fun k hk => ?_)) (fun k hk => ?_)
    · obtain ⟨h1, h2⟩ := hwk k hk
      rcases h2 with ⟨h2, h3⟩ | h2
      · rintro (h | h)
        · exact (HB.out.sep k h2).1 h
        · exact (HB.out.sep k h2).2 h
      · exact hmine k (by omega)
    · obtain ⟨h1, h2⟩ := hwk k hk
      rcases h2 with ⟨h2, h3⟩ | h2 <;> omega
  · obtain ⟨h1, h2⟩ := hwk k hk
    refine ⟨?_, fun e => ?_⟩
    · rcases h2 with ⟨h2, h3⟩ | h2
      · exact (HB.out.sep k h2).1
      · omega
    · rcases hkv' k e with ⟨h3, h4⟩ | h3
      · rcases h2 with ⟨h2, _⟩ | h2
        · exact (HB.out.sep k h2).2 h3
        · omega
      · omega
  · exact ((HKK.out.trans' (T := Mine b kv) HK2.out (fun _ h => h.elim) (fun _ _ h => h)).trans' (T := Mine b kv) K5.drew (fun _ h => h) (fun i hi h => by omega))
  · rcases hkv' k hk with ⟨h, _⟩ | h
    · exact .inl h
    · exact .inr (by omega)
  · obtain ⟨_, h2⟩ := hwk k hk
    rcases h2 with ⟨h2, _⟩ | h2
    · exact .inl h2
    · exact .inr (by omega)

end Go.Proofs.Ytpnhmcgabnifdaa
