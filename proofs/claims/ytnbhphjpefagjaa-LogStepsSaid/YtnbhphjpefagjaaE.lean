/- Log: the writer. -/
import Derived.Test.YtnbhphjpefagjaaD
import Derived.Deep.AppendLies
namespace Go.Proofs.Ytnbhphjpefagjaa
open Go.RowKit

theorem Try.info5 : (Try.prog.info? 5).map (fun i => (i.zero, i.size, i.bytes)) = some (some (.int .u8 0), 1, 1) := by kernel_rfl
theorem Try.info57 : (Try.prog.info? 57).map (fun i => (i.zero, i.size, i.bytes)) = some (some (.agg #[.int .i64 0, .int .i64 0]), 2, 16) := by kernel_rfl

/-- A writer at b of the bytes l; F: blocks that stay. -/
def Wr (F : Nat → Prop) (w : World) (b : Nat) (l : List Int) : Prop :=
  ∃ g cap, w.heap[b]? = some (.cells #[.slice (some ⟨g, 0, none⟩) l.length cap] 69 (0, 0)) ∧ w.ownsRow 0 5 1 (.slice (some ⟨g, 0, none⟩) l.length cap) l.length (l.map (Value.int .u8)) ∧ g ≠ b ∧ ¬ F g ∧ ¬ F b ∧ ∀ k, F k → k < w.heap.size

theorem Wr.keep {F S : Nat → Prop} {w w' : World} {b : Nat} {l : List Int} (h : Wr F w b l) (hk : Keeps S w w') (hs : ∀ k, k < w.heap.size → ¬ S k) : Wr F w' b l := by
  obtain ⟨g, cap, h1, h2, h3, h4, h5, h6⟩ := h
  exact ⟨g, cap, (hk.block b (Array.getElem?_eq_some_iff.1 h1).1 (hs _ (Array.getElem?_eq_some_iff.1 h1).1)).trans h1, hk.row h2 (fun k hk => hs k (h2.lt k hk).2), h3, h4, h5, fun k hk2 => Nat.lt_of_lt_of_le (h6 k hk2) hk.size⟩

theorem Wr.more {F G : Nat → Prop} {w : World} {b : Nat} {l : List Int} (h : Wr F w b l) (hG : ∀ k, G k → F k ∨ (k < w.heap.size ∧ k ≠ b ∧ ∀ g cap, w.heap[b]? = some (.cells #[.slice (some ⟨g, 0, none⟩) l.length cap] 69 (0, 0)) → k ≠ g)) : Wr G w b l := by
  obtain ⟨g, cap, h1, h2, h3, h4, h5, h6⟩ := h
  refine ⟨g, cap, h1, h2, h3, fun hg => ?_, fun hb => ?_, fun k hk => ?_⟩
  · rcases hG g hg with h | ⟨_, _, h⟩
    · exact h4 h
    · exact h g cap h1 rfl
  · rcases hG b hb with h | ⟨_, h, _⟩
    · exact h5 h
    · exact h rfl
  · rcases hG k hk with h | ⟨h, _⟩
    · exact h6 k h
    · exact h

/-- Behind an append and its store. -/
theorem wr_appended {F : Nat → Prop} {w W w1 : World} {b : Nat} {l news : List Int} {g0 cap0 : Nat} (hk : Keeps No w W) (h1 : w.heap[b]? = some (.cells #[.slice (some ⟨g0, 0, none⟩) l.length cap0] 69 (0, 0))) (h3 : g0 ≠ b) (h4 : ¬ F g0) (h5 : ¬ F b) (h6 : ∀ k, F k → k < w.heap.size)
    (g cap : Nat) (hown : w1.ownsRow 0 5 1 (.slice (some ⟨g, 0, none⟩) (l.length + news.length) cap) (l.length + news.length) (l.map (Value.int .u8) ++ news.map (Value.int .u8))) (hgrow : W.grownBy w1 (some g0)) (hat : (some g0 : Option Nat) = some g ∨ g = W.heap.size) :
    Wr F (w1.setCell ⟨b, 0, none⟩ (.slice (some ⟨g, 0, none⟩) (l.length + news.length) cap)) b (l ++ news) ∧ Keeps (fun k => ¬ F k) w (w1.setCell ⟨b, 0, none⟩ (.slice (some ⟨g, 0, none⟩) (l.length + news.length) cap)) := by
  have hlt := (Array.getElem?_eq_some_iff.1 h1).1
  have hs := hk.size
  have hgb : g ≠ b := by
    rintro rfl
    rcases hat with h | h
    · cases h; exact h3 rfl
    · omega
  have hgF : ¬ F g := by
    rcases hat with h | h
    · cases h; exact h4
    · intro hf; have := h6 _ hf; omega
  have hb : w1.heap[b]? = some (.cells #[.slice (some ⟨g0, 0, none⟩) l.length cap0] 69 (0, 0)) :=
    (hgrow.block b (Nat.lt_of_lt_of_le hlt hs) (by intro e; cases e; exact h3 rfl)).trans ((hk.block b hlt (fun e => e)).trans h1)
  have hK : Keeps (fun k => ¬ F k) w w1 := (hk.mono (T := fun k => ¬ F k) (fun _ h => h.elim)).grown hgrow (fun k hk => by cases hk; exact .inl h4)
  refine ⟨⟨g, cap, ?_, ?_, hgb, hgF, h5, fun k hf => ?_⟩, hK.setCell (p := ⟨b, 0, none⟩) (.inl h5) _⟩
  · rw [List.length_append]; exact heap_setCell_row hb
  · rw [List.length_append, List.map_append]
    exact (Keeps.set_at w1 b 0 _).row hown (fun k hk => by cases hk; exact hgb)
  · have := h6 k hf
    have := hK.size
    simp
    omega

def le4 (n : Int) : List Int := [n % 256, n / 256 % 256, n / 65536 % 256, n / 16777216]

theorem new_cells (W : World) (vs : Array Value) (e : TypeId) : ∀ j u, vs.toList[j]? = some u → (W.alloc (.cells vs e)).cell? ((⟨W.heap.size, 0, none⟩ : Addr).add j) = some u := by
  intro j u hu
  rw [Addr.add_lit, Nat.zero_add, cell_of_row _ _ j _ _ _ (heap_alloc_new W (.cells vs e))]
  simpa using hu

theorem bytes_oneCell (l : List Int) : ∀ u ∈ l.map (Value.int .u8), u.oneCell' = true := by
  intro u hu
  obtain ⟨x, _, rfl⟩ := List.mem_map.1 hu
  rfl

set_option maxHeartbeats 1000000 in
theorem wword_any {F : Nat → Prop} (b : Nat) (n : Int) (hn0 : 0 ≤ n) (hn1 : n < 4294967296) (l : List Int) (hl : l.length ≤ 100000) (w : World) (h : Wr F w b l) :
    Calls Try.prog 29 #[.pointer (some ⟨b, 0, none⟩), .int .u32 n] w fun e w' => e = .returned (.tuple #[]) ∧ Wr F w' b (l ++ le4 n) ∧ Keeps (fun k => ¬ F k) w w' := by
  obtain ⟨i0, hi, hz0, hz1, hz2⟩ := info_parts Try.info5
  have HI := hid hi
  have HZ0 := hid hz0
  have HZ1 := hid hz1
  have HZ2 := hid hz2
  clear hi hz0 hz1 hz2
  obtain ⟨g, cap, h1, h2, h3, h4, h5, h6⟩ := h
  have hc : w.cell? ⟨b, 0, none⟩ = some (.slice (some ⟨g, 0, none⟩) l.length cap) := by rw [cell_of_row w _ _ _ _ _ h1]; rfl
  have hf := froz (i := 0) h1
  have H1 := hid h1
  have H2 := hid h2
  have H6 := hid h6
  clear h1 h2 h6
  go_enter Try.func29, Try.ntmps29
  have APP := hid (fun w1 => wr_appended (w1 := w1) (news := le4 n) ((Keeps.refl No w).alloc (.cells #[.int .u8 (n % 256), .int .u8 (n / 256 % 256), .int .u8 (n / 65536 % 256), .int .u8 (n / 16777216)] 5)) H1.out h3 h4 h5 H6.out)
  go_wp2_with (at_builtin; go_must (refine wpList_append_lies _ rfl (.tmp 9) (.tmp 21) 31 rfl 0 5 i0 (.int .u8 0) 1 1 Try.underlying31 HI.out HZ0.out HZ1.out HZ2.out rfl (by decide) (.slice (some ⟨g, 0, none⟩) l.length cap) l.length (l.map (Value.int .u8)) rfl (World.ownsRow.alloc H2.out _) ⟨w.heap.size, 0, none⟩ 4 4 ((le4 n).map (Value.int .u8)) rfl rfl (new_cells w _ _) (bytes_oneCell _) (by omega) (by unfold maxLen; omega) (by omega) (Nat.zero_le _) (w.heap.size + 1) (by simp) ?_); intro g' cap' w1 hown hgrow hat hlt; have HA := hid (APP.out w1 g' cap' hown hgrow (by rw [World.size_alloc]; exact hat)); have hb1 := (hgrow.block b (by have := (Array.getElem?_eq_some_iff.1 H1.out).1; simp; omega) (by intro e; cases e; exact h3 rfl)).trans ((Below.heap_alloc w _ b (Array.getElem?_eq_some_iff.1 H1.out).1).trans H1.out); have hc1 : w1.cell? ⟨b, 0, none⟩ = some (.slice (some ⟨g, 0, none⟩) l.length cap) := (by rw [cell_of_row w1 _ _ _ _ _ hb1]; rfl); have hf1 := froz (i := 0) hb1; clear hown hgrow hat hb1)
  go_end0
  exact ⟨rfl, HA.out⟩

end Go.Proofs.Ytnbhphjpefagjaa
