/- Log: Decode, where the sum is not the bytes'. -/
import Derived.Test.YtnbhphjpefagjaaZe
import Derived.Test.YtnbhphjpefagjaaZf
import Derived.Test.YtnbhphjpefagjaaY
import Derived.Laws.BytesArg
namespace Go.Proofs.Ytnbhphjpefagjaa
open Go.RowKit

/-- What Decode hands back. -/
def DecPost (bs : List Int) (w : World) (e : Ending) (w' : World) : Prop :=
  Keeps No w w' ∧ ∃ a c, e = .returned (.tuple #[.agg #[.int .u32 (decM bs).1.1, .slice a (decM bs).1.2.1.length c, .int .i64 (decM bs).1.2.2.1, .int .i64 (decM bs).1.2.2.2.1, .int .i64 (decM bs).1.2.2.2.2.1, .int .i64 (decM bs).1.2.2.2.2.2], .int .i64 (decM bs).2]) ∧
    TurnsAt w' a (decM bs).1.2.1 ∧ ∀ p, a = some p → w.heap.size ≤ p.block

theorem decPost_zero {bs : List Int} {w w' : World} {n : Int} (h : decM bs = (zeroTk, n)) (hk : Keeps No w w') : DecPost bs w (.returned (.tuple #[.agg #[.int .u32 0, .slice none 0 0, .int .i64 0, .int .i64 0, .int .i64 0, .int .i64 0], .int .i64 n])) w' := by
  refine ⟨hk, none, 0, ?_, ?_, fun p hp => by cases hp⟩
  · rw [h]; rfl
  · rw [h]; exact .inl rfl

/-- The two boxes of Decode's results. -/
def Boxes (w0 w : World) (h : Int) (v : Value) (k tr th st e : Int) : Prop :=
  w.heap[w0.heap.size]? = some (.cells #[.int .u32 h, v, .int .i64 k, .int .i64 tr, .int .i64 th, .int .i64 st] 29 (0, 0)) ∧ w.heap[w0.heap.size + 1]? = some (.cells #[.int .i64 e] 32 (0, 0)) ∧ Keeps No w0 w

theorem boxes_new (w : World) : Boxes w ((w.alloc (.cells #[.int .u32 0, .slice none 0 0, .int .i64 0, .int .i64 0, .int .i64 0, .int .i64 0] 29)).alloc (.cells #[.int .i64 0] 32)) 0 (.slice none 0 0) 0 0 0 0 0 := by
  have h1 := heap_alloc_new w (.cells #[.int .u32 0, .slice none 0 0, .int .i64 0, .int .i64 0, .int .i64 0, .int .i64 0] 29)
  have h2 := heap_alloc_new (w.alloc (.cells #[.int .u32 0, .slice none 0 0, .int .i64 0, .int .i64 0, .int .i64 0, .int .i64 0] 29)) (.cells #[.int .i64 0] 32)
  rw [World.size_alloc] at h2
  exact ⟨(Below.heap_alloc _ _ _ (by simp)).trans h1, h2, ((Keeps.refl No w).alloc _).alloc _⟩

theorem Boxes.keep {w0 w w' : World} {h : Int} {v : Value} {k tr th st e : Int} {S : Nat → Prop} (hb : Boxes w0 w h v k tr th st e) (hk : Keeps S w w') (hS : ∀ i, S i → w0.heap.size + 2 ≤ i) : Boxes w0 w' h v k tr th st e := by
  obtain ⟨h1, h2, h3⟩ := hb
  exact ⟨(hk.block _ (Array.getElem?_eq_some_iff.1 h1).1 (fun e => by have := hS _ e; omega)).trans h1, (hk.block _ (Array.getElem?_eq_some_iff.1 h2).1 (fun e => by have := hS _ e; omega)).trans h2, h3.trans' hk (fun _ h => h) (fun i hi e => by have := hS _ e; omega)⟩

/-- The results, stored anew. -/
theorem Boxes.store {w0 w : World} {h : Int} {v : Value} {k tr th st e : Int} (hb : Boxes w0 w h v k tr th st e) (e' : Int) :
    Boxes w0 (((((((w.setCell ⟨w0.heap.size, 0, none⟩ (.int .u32 h)).setCell ⟨w0.heap.size, 1, none⟩ v).setCell ⟨w0.heap.size, 2, none⟩ (.int .i64 k)).setCell ⟨w0.heap.size, 3, none⟩ (.int .i64 tr)).setCell ⟨w0.heap.size, 4, none⟩ (.int .i64 th)).setCell ⟨w0.heap.size, 5, none⟩ (.int .i64 st)).setCell ⟨w0.heap.size + 1, 0, none⟩ (.int .i64 e')) h v k tr th st e' := by
  obtain ⟨h1, h2, h3⟩ := hb
  have h6 := heap_set6 h1 (.int .u32 h) v (.int .i64 k) (.int .i64 tr) (.int .i64 th) (.int .i64 st)
  have k6 := keeps_set6 w w0.heap.size (.int .u32 h) v (.int .i64 k) (.int .i64 tr) (.int .i64 th) (.int .i64 st)
  have h7 := (k6.block _ (Array.getElem?_eq_some_iff.1 h2).1 (by omega)).trans h2
  exact ⟨(Below.heap_setCell _ _ _ _ (by simp)).trans h6, heap_setCell_row h7, (h3.trans' (T := No) k6 (fun _ h => h) (fun i hi e => by omega)).setCell (.inr (by simp)) _⟩

theorem boxes_cells {w0 w : World} {h : Int} {v : Value} {k tr th st e : Int} (hb : Boxes w0 w h v k tr th st e) :
    w.cell? ⟨w0.heap.size, 0, none⟩ = some (.int .u32 h) ∧ w.cell? ⟨w0.heap.size, 1, none⟩ = some v ∧ w.cell? ⟨w0.heap.size, 2, none⟩ = some (.int .i64 k) ∧ w.cell? ⟨w0.heap.size, 3, none⟩ = some (.int .i64 tr) ∧ w.cell? ⟨w0.heap.size, 4, none⟩ = some (.int .i64 th) ∧ w.cell? ⟨w0.heap.size, 5, none⟩ = some (.int .i64 st) ∧ w.cell? ⟨w0.heap.size + 1, 0, none⟩ = some (.int .i64 e) := by
  obtain ⟨d0, d1, d2, d3, d4, d5⟩ := six_cells hb.1
  exact ⟨d0, d1, d2, d3, d4, d5, by rw [cell_of_row w _ _ _ _ _ hb.2.1]; rfl⟩

theorem boxes_froz {w0 w : World} {h : Int} {v : Value} {k tr th st e : Int} (hb : Boxes w0 w h v k tr th st e) :
    (∀ i, w.frozen? ⟨w0.heap.size, i, none⟩ = false) ∧ w.frozen? ⟨w0.heap.size + 1, 0, none⟩ = false := ⟨fun _ => froz hb.1, froz hb.2.1⟩

theorem Boxes.set0 {w0 w : World} {h : Int} {v : Value} {k tr th st e : Int} (hb : Boxes w0 w h v k tr th st e) (x : Int) : Boxes w0 (w.setCell ⟨w0.heap.size, 0, none⟩ (.int .u32 x)) x v k tr th st e :=
  ⟨heap_setCell_row hb.1, (Below.heap_setCell _ _ _ _ (by simp)).trans hb.2.1, hb.2.2.setCell (.inr (by simp)) _⟩

theorem Boxes.set1 {w0 w : World} {h : Int} {v : Value} {k tr th st e : Int} (hb : Boxes w0 w h v k tr th st e) (x : Value) : Boxes w0 (w.setCell ⟨w0.heap.size, 1, none⟩ (x)) h x k tr th st e :=
  ⟨heap_setCell_row hb.1, (Below.heap_setCell _ _ _ _ (by simp)).trans hb.2.1, hb.2.2.setCell (.inr (by simp)) _⟩

theorem Boxes.set2 {w0 w : World} {h : Int} {v : Value} {k tr th st e : Int} (hb : Boxes w0 w h v k tr th st e) (x : Int) : Boxes w0 (w.setCell ⟨w0.heap.size, 2, none⟩ (.int .i64 x)) h v x tr th st e :=
  ⟨heap_setCell_row hb.1, (Below.heap_setCell _ _ _ _ (by simp)).trans hb.2.1, hb.2.2.setCell (.inr (by simp)) _⟩

theorem Boxes.set3 {w0 w : World} {h : Int} {v : Value} {k tr th st e : Int} (hb : Boxes w0 w h v k tr th st e) (x : Int) : Boxes w0 (w.setCell ⟨w0.heap.size, 3, none⟩ (.int .i64 x)) h v k x th st e :=
  ⟨heap_setCell_row hb.1, (Below.heap_setCell _ _ _ _ (by simp)).trans hb.2.1, hb.2.2.setCell (.inr (by simp)) _⟩

theorem Boxes.set4 {w0 w : World} {h : Int} {v : Value} {k tr th st e : Int} (hb : Boxes w0 w h v k tr th st e) (x : Int) : Boxes w0 (w.setCell ⟨w0.heap.size, 4, none⟩ (.int .i64 x)) h v k tr x st e :=
  ⟨heap_setCell_row hb.1, (Below.heap_setCell _ _ _ _ (by simp)).trans hb.2.1, hb.2.2.setCell (.inr (by simp)) _⟩

theorem Boxes.set5 {w0 w : World} {h : Int} {v : Value} {k tr th st e : Int} (hb : Boxes w0 w h v k tr th st e) (x : Int) : Boxes w0 (w.setCell ⟨w0.heap.size, 5, none⟩ (.int .i64 x)) h v k tr th x e :=
  ⟨heap_setCell_row hb.1, (Below.heap_setCell _ _ _ _ (by simp)).trans hb.2.1, hb.2.2.setCell (.inr (by simp)) _⟩

theorem Rd.keep {B : Nat} {S : Nat → Prop} {w w' : World} {b : Nat} {l : List Int} (h : Rd B w b l) (hk : Keeps S w w') (hS : ∀ i, S i → B ≤ i) (hb : ¬ S b) : Rd B w' b l := by
  obtain ⟨a, c, h1, h2, h3, h4, h5, h6⟩ := h
  exact ⟨a, c, (hk.block b (Array.getElem?_eq_some_iff.1 h1).1 hb).trans h1, h2, h3, h4.keep hk (fun p hp e => by have := hS _ e; have := (h5 p hp).1; omega), h5, h6⟩

set_option maxRecDepth 100000 in
set_option maxHeartbeats 4000000 in
theorem decode_short (a : Option Addr) (cap n : Nat) (bs : List Int) (w : World) (HN : Hid (bs.length = n)) (hs : n < 12) :
    Calls Try.prog 17 #[.slice a n cap] w (DecPost bs w) := by
  have hd : decM bs = (zeroTk, 210) := by unfold decM; rw [if_pos (by rw [HN.out]; exact hs)]
  have HD := hid hd
  have q1 : IntKind.i64.wrap ((n : Int) - 4) = (n : Int) - 4 := by rw [IntKind.wrap_i64]; omega
  have q2 : (n : Int) - 4 < 8 := by omega
  have HB := hid (boxes_new w)
  clear hd
  go_enter_defers Try.func17, Try.ntmps17
  go_wp2_with fail
  go_quiet (fail)
  go_wp2_with fail
  have hb2 := Boxes.store (Boxes.keep HB.out ((Keeps.refl No _).drewN nq) (fun _ h => h.elim)) 210
  have HB2 := hid hb2
  obtain ⟨d0, d1, d2, d3, d4, d5, de⟩ := boxes_cells hb2
  clear hb2
  refine ⟨.tuple #[.agg #[.int .u32 0, .slice none 0 0, .int .i64 0, .int .i64 0, .int .i64 0, .int .i64 0], .int .i64 210], ?_, decPost_zero HD.out HB2.out.2.2⟩
  simp [results, Try.results17, go_sem]

end Go.Proofs.Ytnbhphjpefagjaa
