/- Log: Encode's writer, as one thing. -/
import Derived.Test.YtnbhphjpefagjaaJ
namespace Go.Proofs.Ytnbhphjpefagjaa
open Go.RowKit

abbrev F0 (w1 : World) : Nat → Prop := fun k => k < w1.heap.size ∨ k = w1.heap.size + 2

/-- Encode's writer, made at w1, of the bytes bs. -/
structure Enc (w1 W : World) (bs : List Int) : Prop where
  wr : Wr (F0 w1) W (w1.heap.size + 1) bs
  kept : Keeps No w1 W
  ptr : W.heap[w1.heap.size + 2]? = some (.cells #[.pointer (some ⟨w1.heap.size + 1, 0, none⟩)] 65 (0, 0))

theorem Enc.step {w1 W W' : World} {bs bs' : List Int} (h : Enc w1 W bs) (hw : Wr (F0 w1) W' (w1.heap.size + 1) bs') (hk : Keeps (fun k => ¬ F0 w1 k) W W') : Enc w1 W' bs' :=
  ⟨hw, h.kept.trans' (T := No) hk (fun _ h => h) (fun _ hi h => (h (.inl hi)).elim), (hk.block _ (Array.getElem?_eq_some_iff.1 h.ptr).1 (fun e => e (.inr rfl))).trans h.ptr⟩

theorem Enc.keep {w1 W W' : World} {bs : List Int} (h : Enc w1 W bs) (hk : Keeps No W W') : Enc w1 W' bs :=
  ⟨h.wr.keep hk (fun _ _ e => e), h.kept.trans hk, (hk.block _ (Array.getElem?_eq_some_iff.1 h.ptr).1 (fun e => e)).trans h.ptr⟩

theorem Enc.cell {w1 W : World} {bs : List Int} (h : Enc w1 W bs) : W.cell? ⟨w1.heap.size + 2, 0, none⟩ = some (.pointer (some ⟨w1.heap.size + 1, 0, none⟩)) := by
  rw [cell_of_row W _ _ _ _ _ h.ptr]; rfl

theorem Enc.row {w1 W : World} {bs : List Int} (h : Enc w1 W bs) : ∃ g cap, W.cell? ⟨w1.heap.size + 1, 0, none⟩ = some (.slice (some ⟨g, 0, none⟩) bs.length cap) ∧ NumsAt .u8 W (some ⟨g, 0, none⟩) bs ∧ w1.heap.size ≤ g ∧
    W.ownsRow 0 5 1 (.slice (some ⟨g, 0, none⟩) bs.length cap) bs.length (bs.map (Value.int .u8)) := by
  obtain ⟨g, cap, h1, h2, h3, h4, h5, h6⟩ := h.wr
  refine ⟨g, cap, by rw [cell_of_row W _ _ _ _ _ h1]; rfl, (ownsRow_nums h2).1, ?_, h2⟩
  rcases Nat.lt_or_ge g w1.heap.size with hl | hl
  · exact (h4 (.inl hl)).elim
  · exact hl

def EncTo (w1 : World) (bs : List Int) (e : Ending) (w' : World) : Prop := e = .returned (.tuple #[]) ∧ Enc w1 w' bs

theorem enc_first (w1 : World) (h : Int) (h0 : 0 ≤ h) (h1 : h < 4294967296) :
    Calls Try.prog 29 #[.pointer (some ⟨w1.heap.size + 1, 0, none⟩), .int .u32 h] (((w1.alloc (.cells #[.int .u8 87, .int .u8 76, .int .u8 79, .int .u8 71] 5 (4, 5))).alloc (.cells #[.slice (some ⟨w1.heap.size, 0, none⟩) 4 4] 69)).alloc (.cells #[.pointer (some ⟨w1.heap.size + 1, 0, none⟩)] 65))
      (EncTo w1 ([87, 76, 79, 71] ++ le4 h)) := by
  have hb9 := heap_alloc_new (w1.alloc (.cells #[.int .u8 87, .int .u8 76, .int .u8 79, .int .u8 71] 5 (4, 5))) (.cells #[.slice (some ⟨w1.heap.size, 0, none⟩) 4 4] 69)
  rw [World.size_alloc] at hb9
  have hg9 := heap_alloc_new w1 (.cells #[.int .u8 87, .int .u8 76, .int .u8 79, .int .u8 71] 5 (4, 5))
  have hwr0 : Wr0 (((w1.alloc (.cells #[.int .u8 87, .int .u8 76, .int .u8 79, .int .u8 71] 5 (4, 5))).alloc (.cells #[.slice (some ⟨w1.heap.size, 0, none⟩) 4 4] 69)).alloc (.cells #[.pointer (some ⟨w1.heap.size + 1, 0, none⟩)] 65)) (w1.heap.size + 1) [87, 76, 79, 71] := by
    refine ⟨w1.heap.size, (Below.heap_alloc _ _ _ (by simp)).trans hb9, fun j u hu => ?_⟩
    refine cell_alloc_of _ _ (cell_alloc_of _ _ ?_)
    rw [Addr.add_lit, Nat.zero_add, cell_of_row _ _ j _ _ _ hg9]
    simpa using hu
  have hp9 := heap_alloc_new ((w1.alloc (.cells #[.int .u8 87, .int .u8 76, .int .u8 79, .int .u8 71] 5 (4, 5))).alloc (.cells #[.slice (some ⟨w1.heap.size, 0, none⟩) 4 4] 69)) (.cells #[.pointer (some ⟨w1.heap.size + 1, 0, none⟩)] 65)
  rw [World.size_alloc, World.size_alloc] at hp9
  have hk9 : Keeps No w1 (((w1.alloc (.cells #[.int .u8 87, .int .u8 76, .int .u8 79, .int .u8 71] 5 (4, 5))).alloc (.cells #[.slice (some ⟨w1.heap.size, 0, none⟩) 4 4] 69)).alloc (.cells #[.pointer (some ⟨w1.heap.size + 1, 0, none⟩)] 65)) := (((Keeps.refl No w1).alloc _).alloc _).alloc _
  have hz9 : (((w1.alloc (.cells #[.int .u8 87, .int .u8 76, .int .u8 79, .int .u8 71] 5 (4, 5))).alloc (.cells #[.slice (some ⟨w1.heap.size, 0, none⟩) 4 4] 69)).alloc (.cells #[.pointer (some ⟨w1.heap.size + 1, 0, none⟩)] 65)).heap.size = w1.heap.size + 3 := by simp
  refine (wword_first (F := F0 w1) (w1.heap.size + 1) h h0 h1 [87, 76, 79, 71] (by simp) _ hwr0 (by intro e; rcases e with e | e <;> omega) (fun k hk => by rcases hk with e | e <;> omega)).mono ?_
  rintro e w' ⟨he, hw, hk⟩
  exact ⟨he, hw, hk9.trans' (T := No) hk (fun _ h => h) (fun i hi e => by omega), (hk.block _ (by omega) (by omega)).trans hp9⟩

theorem enc_word {w1 W : World} {bs : List Int} (h : Enc w1 W bs) (n : Int) (h0 : 0 ≤ n) (h1 : n < 4294967296) (hl : bs.length ≤ 100000) :
    Calls Try.prog 29 #[.pointer (some ⟨w1.heap.size + 1, 0, none⟩), .int .u32 n] W (EncTo w1 (bs ++ le4 n)) :=
  (wword_any _ n h0 h1 bs hl W h.wr).mono fun _ _ ⟨he, hw, hk⟩ => ⟨he, h.step hw hk⟩

theorem enc_number {w1 W : World} {bs : List Int} (h : Enc w1 W bs) (n : Int) (h0 : 0 ≤ n) (h1 : n ≤ 9223372036854775807) (hl : bs.length ≤ 100000) :
    Calls Try.prog 30 #[.pointer (some ⟨w1.heap.size + 1, 0, none⟩), .int .i64 n] W (EncTo w1 (bs ++ encN n)) :=
  (wnumber_any _ n h0 h1 bs hl W h.wr).mono fun _ _ ⟨he, hw, hk⟩ => ⟨he, h.step hw hk⟩

theorem Enc.own {w1 W W' : World} {bs : List Int} {row : Option Nat} (h : Enc w1 W bs) (hg : W.grownBy W' row) (hr : ∀ r, row = some r → w1.heap.size ≤ r ∧ ∃ o : Obj, W.heap[r]? = some o ∧ o.isCells = false) : Enc w1 W' bs := by
  refine ⟨h.wr.own hg (fun r e => (hr r e).2), h.kept.trans' (T := No) (⟨hg.os, hg.tape, hg.output, hg.size, fun k hk hn => hg.block k hk (fun e => hn e.symm)⟩ : Keeps (fun k => row = some k) W W') (fun _ h => h) (fun i hi e => by have := (hr i e).1; omega), (hg.block _ (Array.getElem?_eq_some_iff.1 h.ptr).1 (fun e => ?_)).trans h.ptr⟩
  obtain ⟨_, o, ho, hn⟩ := hr _ e.symm
  rw [h.ptr] at ho
  cases ho
  simp [Obj.isCells] at hn

end Go.Proofs.Ytnbhphjpefagjaa
