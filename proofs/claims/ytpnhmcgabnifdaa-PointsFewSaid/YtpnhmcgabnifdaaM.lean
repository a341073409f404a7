/- Points: what Come does, as a function of lists and numbers; Come by one contract. -/
import Derived.Test.YtpnhmcgabnifdaaL
namespace Go.Proofs.Ytpnhmcgabnifdaa
open Go.RowKit

structure St where
  l : List Int
  gn : Int
  la : Int

/-- A time comes: what stands then; is it kept, which one is let go, the error. -/
def comeS (ev mo : Int) (s : St) (t : Int) : St × Bool × Int × Int :=
  if t < 0 ∨ (0 ≤ t ∧ 1099511627776 < t) ∨ (0 ≤ t ∧ t ≤ 1099511627776 ∧ t ≤ s.la) then (s, false, 0, 2)
  else if (t % ev == 0) = false then (⟨s.l, s.gn, t⟩, false, -1, 0)
  else if ((s.l.length + 1 : Nat) : Int) ≤ mo then (⟨s.l ++ [t], s.gn, t⟩, true, -1, 0)
  else (⟨(s.l ++ [t]).eraseIdx (bestIdx (s.l ++ [t])), s.gn + 1, t⟩, true, (s.l ++ [t])[bestIdx (s.l ++ [t])]?.getD 0, 0)

structure Good (ev mo : Int) (s : St) : Prop where
  ev1 : 1 ≤ ev
  ev2 : ev ≤ 1073741824
  mo1 : 2 ≤ mo
  mo2 : mo ≤ 4096
  few : (s.l.length : Int) ≤ mo
  inc : Inc s.l
  lo : ∀ j, j < s.l.length → 0 ≤ s.l[j]?.getD 0
  hi : ∀ j, j < s.l.length → s.l[j]?.getD 0 ≤ s.la
  la1 : -1 ≤ s.la
  la2 : s.la ≤ 1099511627776
  gn1 : 0 ≤ s.gn
  gn2 : s.gn ≤ s.la + 1

theorem Pts.good {w : World} {b : Nat} {ev mo gn la : Int} {kv : Value} {l : List Int} (h : Pts w b ev mo kv l gn la) : Good ev mo ⟨l, gn, la⟩ :=
  ⟨h.ev1, h.ev2, h.mo1, h.mo2, h.few, h.inc, h.lo, h.hi, h.la1, h.la2, h.gn1, h.gn2⟩

theorem Good.pts {w : World} {b : Nat} {ev mo gn la : Int} {kv : Value} {l : List Int} (h : Good ev mo ⟨l, gn, la⟩) (h1 : w.heap[b]? = some (.cells #[.int .i64 ev, .int .i64 mo, kv, .int .i64 gn, .int .i64 la] 60 (0, 0))) (h2 : Row 0 w kv l) (h3 : kv.ownBlock ≠ some b) : Pts w b ev mo kv l gn la :=
  ⟨h1, h2, h3, h.ev1, h.ev2, h.mo1, h.mo2, h.few, h.inc, h.lo, h.hi, h.la1, h.la2, h.gn1, h.gn2⟩

theorem getD_snoc (l : List Int) (t : Int) (j : Nat) (hj : j < (l ++ [t]).length) : (l ++ [t])[j]?.getD 0 = if j < l.length then l[j]?.getD 0 else t := by
  simp only [List.length_append, List.length_cons, List.length_nil] at hj
  rw [List.getElem?_append]
  split
  · rfl
  · rw [show j - l.length = 0 by omega]; rfl

theorem getD_erase (l : List Int) (i j : Nat) : (l.eraseIdx i)[j]?.getD 0 = if j < i then l[j]?.getD 0 else l[j + 1]?.getD 0 := by
  rw [List.getElem?_eraseIdx]; split <;> rfl

/-- A time behind all others comes. -/
theorem good_snoc {ev mo : Int} {s : St} (h : Good ev mo s) {t : Int} (h0 : 0 ≤ t) (h1 : t ≤ 1099511627776) (h2 : s.la < t) :
    Inc (s.l ++ [t]) ∧ (∀ j, j < (s.l ++ [t]).length → 0 ≤ (s.l ++ [t])[j]?.getD 0 ∧ (s.l ++ [t])[j]?.getD 0 ≤ t) := by
  refine ⟨fun i j hij hj => ?_, fun j hj => ?_⟩
  · rw [getD_snoc _ _ j hj, getD_snoc _ _ i (by omega)]
    simp only [List.length_append, List.length_cons, List.length_nil] at hj
    have hil : i < s.l.length := by omega
    simp only [hil, if_true]
    split
    · exact h.inc i j hij ‹_›
    · have := h.hi i (by omega)
      omega
  · rw [getD_snoc _ _ j hj]
    split
    · have := h.lo j ‹_›
      have := h.hi j ‹_›
      omega
    · omega

theorem good_come {ev mo : Int} {s : St} (h : Good ev mo s) (t : Int) : Good ev mo (comeS ev mo s t).1 := by
  unfold comeS
  split
  · exact h
  · rename_i hn
    have h0 : 0 ≤ t := by omega
    have h1 : t ≤ 1099511627776 := by omega
    have h2 : s.la < t := by omega
    have hla := h.la1
    have hgn1 := h.gn1
    have hgn2 := h.gn2
    obtain ⟨hi1, hi2⟩ := good_snoc h h0 h1 h2
    split
    · exact { h with hi := fun j hj => Int.le_trans (h.hi j hj) (Int.le_of_lt h2), la1 := by show -1 ≤ t; omega, la2 := h1, gn2 := by show s.gn ≤ t + 1; omega }
    · split
      · rename_i hm
        exact { h with few := by show ((s.l ++ [t]).length : Int) ≤ mo; rw [List.length_append]; exact hm, inc := hi1, lo := fun j hj => (hi2 j hj).1, hi := fun j hj => (hi2 j hj).2, la1 := by show -1 ≤ t; omega, la2 := h1, gn2 := by show s.gn ≤ t + 1; omega }
      · rename_i hm
        have hlen : (s.l ++ [t]).length = s.l.length + 1 := by simp
        have hmo := h.mo1
        obtain ⟨b1, b2⟩ := bestIdx_bd (s.l ++ [t]) (by rw [hlen]; omega)
        have hel : ((s.l ++ [t]).eraseIdx (bestIdx (s.l ++ [t]))).length = s.l.length := by rw [List.length_eraseIdx, if_pos (by omega), hlen]; rfl
        refine { h with few := by show (((s.l ++ [t]).eraseIdx (bestIdx (s.l ++ [t]))).length : Int) ≤ mo; rw [hel]; exact h.few, inc := fun i j hij hj => ?_, lo := fun j hj => ?_, hi := fun j hj => ?_, la1 := by show -1 ≤ t; omega, la2 := h1, gn1 := by show 0 ≤ s.gn + 1; omega, gn2 := by show s.gn + 1 ≤ t + 1; omega }
        · simp only [hel] at hj
          simp only [getD_erase]
          split
          · split
            · exact hi1 i j hij (by omega)
            · exact hi1 i (j + 1) (by omega) (by omega)
          · split
            · omega
            · exact hi1 (i + 1) (j + 1) (by omega) (by omega)
        · simp only [hel] at hj
          simp only [getD_erase]
          split
          · exact (hi2 j (by omega)).1
          · exact (hi2 (j + 1) (by omega)).1
        · simp only [hel] at hj
          simp only [getD_erase]
          split
          · exact (hi2 j (by omega)).2
          · exact (hi2 (j + 1) (by omega)).2

/-- Come, by one contract. -/
def Came (b : Nat) (ev mo : Int) (kv : Value) (w : World) (r : St × Bool × Int × Int) (e : Ending) (w' : World) : Prop :=
  e = .returned (.tuple #[.bool r.2.1, .int .i64 r.2.2.1, .int .i64 r.2.2.2]) ∧ ∃ kv', Pts w' b ev mo kv' r.1.l r.1.gn r.1.la ∧ Keeps (Mine b kv) w w' ∧ (∀ k, kv'.ownBlock = some k → kv.ownBlock = some k ∨ w.heap.size ≤ k)

theorem come_any {w : World} {b : Nat} {ev mo : Int} {kv : Value} {s : St} (t : Int) (h : Pts w b ev mo kv s.l s.gn s.la) :
    Calls Try.prog 17 #[.pointer (some ⟨b, 0, none⟩), .int .i64 t] w (Came b ev mo kv w (comeS ev mo s t)) := by
  have hgood := good_come (s := s) h.good t
  have hcome : comeS ev mo s t = comeS ev mo s t := rfl
  revert hgood
  conv at hcome => rhs; unfold comeS
  rw [hcome]
  split
  · intro _
    exact come_arg t h ‹_›
  · rename_i hn
    split
    · intro _
      exact come_not t h (by omega) (by omega) (by omega) ‹_›
    · rename_i hr
      have hr : (t % ev == 0) = true := by simpa using hr
      split
      · intro hg
        refine come_room t h (by omega) (by omega) (by omega) hr ‹_› (hid fun w' g cap hh hrow hgb => ?_)
        refine hg.pts hh ?_ (fun e => hgb (by cases e; rfl))
        rw [Row, List.length_append, List.map_append]
        exact hrow
      · intro hg
        obtain ⟨_, hi2⟩ := good_snoc h.good (t := t) (by omega) (by omega) (by show s.la < t; omega)
        exact come_full t h (by omega) (by omega) (by omega) hr (by omega) (hid fun j hj => ⟨(hi2 j hj).1, Int.le_trans (hi2 j hj).2 (by omega)⟩) (hid fun w' v hh hrow hb => hg.pts hh hrow hb)

end Go.Proofs.Ytpnhmcgabnifdaa
