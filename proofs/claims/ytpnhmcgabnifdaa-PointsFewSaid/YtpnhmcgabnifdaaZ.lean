/- Points: the law PointsCopies. -/
import Derived.Test.YtpnhmcgabnifdaaY
namespace Go.Proofs.Ytpnhmcgabnifdaa
open Go.RowKit

/-- A time that turns the list turns the last one, and the other way round at lists that grew. -/
theorem come_apart {ev mo : Int} {s : St} (h : Good ev mo s) (t : Int) :
    ((comeS ev mo s t).1.la = s.la → (comeS ev mo s t).1 = s) ∧ ((comeS ev mo s t).1.l = s.l → (comeS ev mo s t).1.gn = s.gn) := by
  unfold comeS
  split
  · exact ⟨fun _ => rfl, fun _ => rfl⟩
  · rename_i hn
    have h2 : s.la < t := by omega
    split
    · exact ⟨fun e => by have : t = s.la := e; omega, fun _ => rfl⟩
    · split
      · exact ⟨fun e => by have : t = s.la := e; omega, fun _ => rfl⟩
      · rename_i hm
        refine ⟨fun e => by have : t = s.la := e; omega, fun e => ?_⟩
        exfalso
        have e : (s.l ++ [t]).eraseIdx (bestIdx (s.l ++ [t])) = s.l := e
        have hlen : (s.l ++ [t]).length = s.l.length + 1 := by simp
        have hmo := h.mo1
        obtain ⟨b1, b2⟩ := bestIdx_bd (s.l ++ [t]) (by rw [hlen]; omega)
        have g1 := getD_erase (s.l ++ [t]) (bestIdx (s.l ++ [t])) (s.l.length - 1)
        rw [e, if_neg (by omega), getD_snoc _ _ _ (by omega), if_neg (by omega)] at g1
        have := h.hi (s.l.length - 1) (by omega)
        omega

/-- Two that stand: the same just if the last ones are. -/
theorem same_st {w : World} {b c : Nat} {ev mo : Int} {kv kv2 : Value} {s s' : St} {z : Bool} (h : Pts w b ev mo kv s.l s.gn s.la) (hc : Pts w c ev mo kv2 s'.l s'.gn s'.la) (h1 : s.la = s'.la → s.l = s'.l ∧ s.gn = s'.gn) (h2 : s.l = s'.l → s.gn = s'.gn) (hz : (s.la == s'.la) = z) :
    Calls Try.prog 25 #[.pointer (some ⟨b, 0, none⟩), .pointer (some ⟨c, 0, none⟩)] w fun e w' => e = .returned (.bool z) ∧ Keeps No w w' := by
  subst hz
  by_cases ha : s.la = s'.la
  · obtain ⟨e1, e2⟩ := h1 ha
    rw [show (s.la == s'.la) = true from by simpa using ha]
    exact same_all h hc (by simp) (by simp) (by simpa using e1) (by simpa using e2) (by simpa using ha)
  · rw [show (s.la == s'.la) = false from by simpa using ha]
    by_cases hl : s.l = s'.l
    · exact same_la h hc (by simp) (by simp) (by simpa using hl) (by simpa using h2 hl) (by simpa using ha)
    · exact same_l h hc (by simp) (by simp) (by simpa using hl)

/-- Points at b, their copy at c, the document's in two boxes. -/
structure Cop (W : World) (b c bw bx : Nat) (ev mo : Int) (kv wk kv3 wk0 : Value) (s' s : St) : Prop where
  p : Both W b ev mo kv wk s'
  q : Both W c ev mo kv3 wk0 s
  hw : W.heap[bw]? = some (.cells #[.int .i64 ev, .int .i64 mo, wk0, .int .i64 s.gn, .int .i64 s.la] 27 (0, 0))
  hx : W.heap[bx]? = some (.cells #[.int .i64 ev, .int .i64 mo, wk, .int .i64 s'.gn, .int .i64 s'.la] 27 (0, 0))

theorem Both.keepS {S : Nat → Prop} {w w' : World} {b : Nat} {ev mo : Int} {kv wk : Value} {s : St} (h : Both w b ev mo kv wk s) (hk : Keeps S w w') (hs : ∀ j, j < w.heap.size → ¬ S j) : Both w' b ev mo kv wk s :=
  ⟨h.pts.keep hk (hs _ h.pts.lt) (fun k hk => hs _ (h.pts.row.lt k hk).2), hk.row h.ref (fun k hk => hs _ (h.ref.lt k hk).2), h.sep⟩

theorem Cop.keepS {S : Nat → Prop} {w w' : World} {b c bw bx : Nat} {ev mo : Int} {kv wk kv3 wk0 : Value} {s' s : St} (h : Cop w b c bw bx ev mo kv wk kv3 wk0 s' s) (hk : Keeps S w w') (hs : ∀ j, j < w.heap.size → ¬ S j) : Cop w' b c bw bx ev mo kv wk kv3 wk0 s' s :=
  ⟨h.p.keepS hk hs, h.q.keepS hk hs, (hk.block _ (Array.getElem?_eq_some_iff.1 h.hw).1 (hs _ (Array.getElem?_eq_some_iff.1 h.hw).1)).trans h.hw, (hk.block _ (Array.getElem?_eq_some_iff.1 h.hx).1 (hs _ (Array.getElem?_eq_some_iff.1 h.hx).1)).trans h.hx⟩

theorem cop_make {w2 w4 w5 : World} {b c : Nat} {ev mo : Int} {kv wk0 kv3 kv' wk' : Value} {s s' : St} (hb : Both w2 b ev mo kv wk0 s) (hk4 : Keeps No (w2.alloc (.cells #[.int .i64 ev, .int .i64 mo, wk0, .int .i64 s.gn, .int .i64 s.la] 27)) w4)
    (hp : Pts w4 c ev mo kv3 s.l s.gn s.la) (hc1 : (w2.alloc (.cells #[.int .i64 ev, .int .i64 mo, wk0, .int .i64 s.gn, .int .i64 s.la] 27)).heap.size ≤ c) (hc2 : ∀ j, kv3.ownBlock = some j → (w2.alloc (.cells #[.int .i64 ev, .int .i64 mo, wk0, .int .i64 s.gn, .int .i64 s.la] 27)).heap.size ≤ j)
    (hb2 : Both w5 b ev mo kv' wk' s') (hk5 : Keeps (Mine b kv) w4 w5) : Cop (w5.alloc (.cells #[.int .i64 ev, .int .i64 mo, wk', .int .i64 s'.gn, .int .i64 s'.la] 27)) b c w2.heap.size w5.heap.size ev mo kv' wk' kv3 wk0 s' s := by
  have hn := heap_alloc_new w2 (.cells #[.int .i64 ev, .int .i64 mo, wk0, .int .i64 s.gn, .int .i64 s.la] 27)
  have ha := (Keeps.refl No w2).alloc (.cells #[.int .i64 ev, .int .i64 mo, wk0, .int .i64 s.gn, .int .i64 s.la] 27)
  have h6 := (Keeps.refl No w5).alloc (.cells #[.int .i64 ev, .int .i64 mo, wk', .int .i64 s'.gn, .int .i64 s'.la] 27)
  simp only [World.size_alloc] at hc1 hc2
  have hm : ∀ k, w2.heap.size ≤ k → ¬ Mine b kv k := by
    rintro k hk (h | h)
    · have := hb.pts.lt; omega
    · have := (hb.pts.row.lt k h).2; omega
  have hl := (Array.getElem?_eq_some_iff.1 hn).1
  have hn4 := (hk4.block _ hl (fun e => e)).trans hn
  have hn5 := (hk5.block _ (Array.getElem?_eq_some_iff.1 hn4).1 (hm _ (Nat.le_refl _))).trans hn4
  refine ⟨hb2.keepNo h6, ⟨(hp.keep hk5 (hm _ (by omega)) (fun k hk => hm _ (by have := hc2 k hk; omega))).keepNo h6, h6.row (hk5.row ((ha.trans hk4).row hb.ref (fun _ _ e => e)) ?_) (fun _ _ e => e), fun k hk => ?_⟩, ?_, heap_alloc_new w5 _⟩
  · rintro k hk (h | h)
    · exact (hb.sep k hk).1 h
    · exact (hb.sep k hk).2 h
  · have := (hb.ref.lt k hk).2
    refine ⟨by omega, fun e => ?_⟩
    have := hc2 k e
    omega
  · exact (h6.block _ (Array.getElem?_eq_some_iff.1 hn5).1 (fun e => e)).trans hn5

/-- The address of a slice that may be written: none, or a row from B on. -/
def Free (B n : Nat) (w : World) (a : Option Addr) : Prop := n = 0 ∨ ∃ g cur, a = some ⟨g, 0, none⟩ ∧ B ≤ g ∧ w.heap[g]? = some (.cells cur 3 (0, 0)) ∧ n ≤ cur.size

theorem Row.free {B : Nat} {w : World} {a : Option Addr} {c : Nat} {l : List Int} (h : Row B w (.slice a l.length c) l) : Free B l.length w a := by
  obtain ⟨h1, h2⟩ := h
  rcases h2 with ⟨hv, hn⟩ | ⟨g, cap, cur, hv, hb, hg, hnc, hcm, hcs, ht⟩
  · exact .inl hn
  · cases hv
    exact .inr ⟨g, cur, rfl, hb, hg, by omega⟩

end Go.Proofs.Ytpnhmcgabnifdaa
