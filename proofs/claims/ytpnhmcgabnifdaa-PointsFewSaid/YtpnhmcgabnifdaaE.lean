/- Points: slices.Clone, All, Best, Far. -/
import Derived.Test.YtpnhmcgabnifdaaD
namespace Go.Proofs.Ytpnhmcgabnifdaa
open Go.RowKit

theorem Try.info3 : (Try.prog.info? 3).map (fun i => (i.zero, i.size, i.bytes)) = some (some (.int .i64 0), 1, 8) := by kernel_rfl

/-- A row of the numbers l, from block B on. -/
abbrev Row (B : Nat) (w : World) (v : Value) (l : List Int) : Prop := w.ownsRow B 3 1 v l.length (l.map (Value.int .i64))

theorem Row.shape {B : Nat} {w : World} {v : Value} {l : List Int} (h : Row B w v l) : (v = .slice none 0 0 ∧ l = []) ∨ ∃ g cap, v = .slice (some ⟨g, 0, none⟩) l.length cap ∧ B ≤ g ∧ g < w.heap.size ∧ (∀ j, j < l.length → w.cell? ⟨g, j, none⟩ = some (.int .i64 (l[j]?.getD 0))) := by
  have h0 := h
  obtain ⟨h1, h2⟩ := h
  rcases h2 with ⟨hv, hn⟩ | ⟨g, cap, cur, hv, hb, hg, hnc, hcm, hcs, ht⟩
  · exact .inl ⟨hv, List.eq_nil_of_length_eq_zero hn⟩
  · subst hv
    refine .inr ⟨g, cap, rfl, hb, (Array.getElem?_eq_some_iff.1 hg).1, fun j hj => ?_⟩
    rcases (ownsRow_ints h0).1 with rfl | ⟨g', off, he, hc⟩
    · simp at hj
    · cases he
      have := hc j hj
      rwa [Nat.zero_add] at this

set_option maxHeartbeats 400000 in
theorem clone_nil (w : World) :
    Calls Try.prog 34 #[.slice none 0 0] w fun e w' => e = .returned (.slice none 0 0) ∧ w = w' := by
  have hq := fun (w : World) => Lib.run_eql_slice_nil (P := Try.prog) w 22 3 none 0 0 0 0 Try.underlying22
  go_enter Try.func34, Try.ntmps34
  go_wp2
  go_ret
  exact ⟨rfl, rfl⟩

set_option maxHeartbeats 400000 in
theorem clone_some (g cap n : Nat) (l : List Int) (w : World) (HN : Hid (l.length = n)) (hm : n ≤ 100000)
    (HA : Hid (∀ j, j < n → w.cell? ⟨g, j, none⟩ = some (.int .i64 (l[j]?.getD 0)))) :
    Calls Try.prog 34 #[.slice (some ⟨g, 0, none⟩) n cap] w fun e w' => ∃ v, e = .returned v ∧ Row w.heap.size w' v l ∧ Keeps No w w' := by
  obtain ⟨i0, hi, hz0, hz1, hz2⟩ := info_parts Try.info3
  have HI := hid hi
  have HZ0 := hid hz0
  have HZ1 := hid hz1
  have HZ2 := hid hz2
  clear hi hz0 hz1 hz2
  have hq := fun (w : World) => Lib.run_eql_slice_nil (P := Try.prog) w 22 3 (some ⟨g, 0, none⟩) n cap 0 0 Try.underlying22
  go_enter Try.func34, Try.ntmps34
  go_wp2_with (at_builtin; refine wpList_append_own _ rfl _ _ 22 rfl w.heap.size 3 i0 (.int .i64 0) 1 8 Try.underlying22 HI.out HZ0.out HZ1.out HZ2.out rfl (by decide) _ 0 [] rfl (World.ownsRow_made _ #[] 0 (Nat.le_refl _) (by unfold maxLen; omega) rfl) ⟨g, 0, none⟩ n cap (l.map (Value.int .i64)) rfl ?c1 ?c2 ?c3 ?c4 ?c5 ?c6 ?_)
  case c1 => simp [HN.out]
  case c2 => 
    intro j u hu
    have hj : j < n := by have := (List.getElem?_eq_some_iff.1 hu).1; simpa [HN.out] using this
    have hc := HA.out j hj
    have hl : j < l.length := by rw [HN.out]; exact hj
    rw [World.cell?_alloc_lt]
    · rw [Addr.add_lit, Nat.zero_add, hc]
      simp [hl] at hu ⊢
      exact hu
    · rw [Addr.add_lit, Nat.zero_add]; exact World.block_lt_of_cell? _ ⟨g, j, none⟩ hc
  case c3 => exact ints_oneCell _ _
  case c4 => unfold maxLen; omega
  case c5 => omega
  case c6 => simp
  · intro v' w1 hown hg _
    have hown' : w1.ownsRow w.heap.size 3 1 v' n (l.map (Value.int .i64)) := by simpa using hown
    have H := hid hown'
    have G := hid hg
    clear hown hown' hg
    go_wp2
    go_ret
    refine ⟨v', rfl, ?_, ?_⟩
    · rw [Row, HN.out]; exact H.out
    · exact ((Keeps.refl No w).alloc _).grown G.out (by intro k hk; cases hk; exact .inr (Nat.le_refl _))

/-- All of a slice's numbers, in a row of its own. -/
theorem clone_any {B : Nat} (v : Value) (l : List Int) (w : World) (h : Row B w v l) (hm : l.length ≤ 100000) :
    Calls Try.prog 34 #[v] w fun e w' => ∃ v', e = .returned v' ∧ Row w.heap.size w' v' l ∧ Keeps No w w' := by
  rcases h.shape with ⟨rfl, rfl⟩ | ⟨g, cap, rfl, _, _, hc⟩
  · exact (clone_nil w).mono fun e w' ⟨h1, h2⟩ => ⟨_, h1, World.ownsRow_nil _ _ _ _, h2 ▸ Keeps.refl _ _⟩
  · exact clone_some g cap l.length l w (hid rfl) hm (hid hc)

/-- Points at block b: the step, the bound, the kept times, how many were let go, the last. -/
structure Pts (w : World) (b : Nat) (ev mo : Int) (kv : Value) (l : List Int) (gn la : Int) : Prop where
  heap : w.heap[b]? = some (.cells #[.int .i64 ev, .int .i64 mo, kv, .int .i64 gn, .int .i64 la] 60 (0, 0))
  row : Row 0 w kv l
  apart : kv.ownBlock ≠ some b
  ev1 : 1 ≤ ev
  ev2 : ev ≤ 1073741824
  mo1 : 2 ≤ mo
  mo2 : mo ≤ 4096
  few : (l.length : Int) ≤ mo
  inc : Inc l
  lo : ∀ j, j < l.length → 0 ≤ l[j]?.getD 0
  hi : ∀ j, j < l.length → l[j]?.getD 0 ≤ la
  la1 : -1 ≤ la
  la2 : la ≤ 1099511627776
  gn1 : 0 ≤ gn
  gn2 : gn ≤ la + 1

namespace Pts
variable {w : World} {b : Nat} {ev mo gn la : Int} {kv : Value} {l : List Int} (h : Pts w b ev mo kv l gn la)
include h
theorem lt : b < w.heap.size := (Array.getElem?_eq_some_iff.1 h.heap).1
theorem c0 : w.cell? ⟨b, 0, none⟩ = some (.int .i64 ev) := by rw [cell_of_row w b 0 _ _ _ h.heap]; rfl
theorem c1 : w.cell? ⟨b, 1, none⟩ = some (.int .i64 mo) := by rw [cell_of_row w b 1 _ _ _ h.heap]; rfl
theorem c2 : w.cell? ⟨b, 2, none⟩ = some kv := by rw [cell_of_row w b 2 _ _ _ h.heap]; rfl
theorem c3 : w.cell? ⟨b, 3, none⟩ = some (.int .i64 gn) := by rw [cell_of_row w b 3 _ _ _ h.heap]; rfl
theorem c4 : w.cell? ⟨b, 4, none⟩ = some (.int .i64 la) := by rw [cell_of_row w b 4 _ _ _ h.heap]; rfl
theorem nz : (ev == 0) = false := by have := h.ev1; simp; omega
theorem fz (i : Nat) : w.frozen? ⟨b, i, none⟩ = false := by simp [World.frozen?, h.heap]
theorem keep {S : Nat → Prop} {w' : World} (hk : Keeps S w w') (hb : ¬ S b) (hv : ∀ k, kv.ownBlock = some k → ¬ S k) : Pts w' b ev mo kv l gn la :=
  { h with heap := (hk.block b h.lt hb).trans h.heap, row := hk.row h.row hv }
theorem keepNo {w' : World} (hk : Keeps No w w') : Pts w' b ev mo kv l gn la := h.keep hk (fun e => e) (fun _ _ e => e)
end Pts

set_option maxHeartbeats 400000 in
theorem all_any {w : World} {b : Nat} {ev mo gn la : Int} {kv : Value} {l : List Int} (h : Pts w b ev mo kv l gn la) :
    Calls Try.prog 18 #[.pointer (some ⟨b, 0, none⟩)] w fun e w' => ∃ v', e = .returned v' ∧ Row w.heap.size w' v' l ∧ Keeps No w w' := by
  have h0 := h.c0
  have h2 := h.c2
  have hz := h.nz
  have H := hid h
  clear h
  go_enter Try.func18, Try.ntmps18
  go_wp2_with (go_at_call 29; refine (none_some b ev _ h0 hz).mono ?_; rintro e w' ⟨rfl, rfl⟩)
  refine (clone_any kv l _ H.out.row (by have := H.out.few; have := H.out.mo2; omega)).mono ?_
  rintro e w' ⟨v', rfl, hr, hk⟩
  have HR := hid hr
  have HK := hid hk
  clear hr hk h0 h2 hz
  go_wp2
  go_ret
  exact ⟨v', rfl, HR.out, HK.out⟩

set_option maxHeartbeats 400000 in
theorem all_nil (w : World) :
    Calls Try.prog 18 #[.pointer none] w fun e w' => e = .returned (.slice none 0 0) ∧ w = w' := by
  go_enter Try.func18, Try.ntmps18
  go_wp2_with (go_at_call 29; refine (none_nil _).mono ?_; rintro e w' ⟨rfl, rfl⟩)
  go_ret
  exact ⟨rfl, rfl⟩

end Go.Proofs.Ytpnhmcgabnifdaa
