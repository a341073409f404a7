/- Log: Encode's writer, an append within a round. -/
import Derived.Test.YtnbhphjpefagjaaL
namespace Go.Proofs.Ytnbhphjpefagjaa
open Go.RowKit

theorem enc_append {w1 W : World} {bs : List Int} (h : Enc w1 W bs) (hl : bs.length ≤ 100000) (news : List Int) (cs : Array Value) (hcs : cs.toList = news.map (Value.int .u8)) (hn : 0 < news.length) (hn2 : news.length ≤ 100) :
    ∃ g cap g' cap' W3, W.cell? ⟨w1.heap.size + 1, 0, none⟩ = some (.slice (some ⟨g, 0, none⟩) bs.length cap) ∧
      (Builtin.append_ #[31, 31] 31 #[.slice (some ⟨g, 0, none⟩) bs.length cap, .slice (some ⟨W.heap.size, 0, none⟩) news.length news.length]).run Try.prog (W.alloc (.cells cs 5)).drew = .ok (.slice (some ⟨g', 0, none⟩) (bs.length + news.length) cap') W3 ∧
      W3.cell? ⟨w1.heap.size + 1, 0, none⟩ = some (.slice (some ⟨g, 0, none⟩) bs.length cap) ∧ W3.frozen? ⟨w1.heap.size + 1, 0, none⟩ = false ∧
      Enc w1 (W3.setCell ⟨w1.heap.size + 1, 0, none⟩ (.slice (some ⟨g', 0, none⟩) (bs.length + news.length) cap')) (bs ++ news) ∧
      (∃ gg, Keeps (fun k => k = w1.heap.size + 1 ∨ k = gg) W (W3.setCell ⟨w1.heap.size + 1, 0, none⟩ (.slice (some ⟨g', 0, none⟩) (bs.length + news.length) cap')) ∧ (∃ c, W.heap[gg]? = some (.cells c 5 (0, 0))) ∧ (∃ c, W.heap[w1.heap.size + 1]? = some (.cells c 69 (0, 0)))) := by
  obtain ⟨i0, hi, hz0, hz1, hz2⟩ := info_parts Try.info5
  obtain ⟨g, cap, h1, h2, h3, h4, h5, h6⟩ := h.wr
  have hK : Keeps No W (W.alloc (.cells cs 5)).drew := ((Keeps.refl No W).alloc _).drew
  have hsz : (W.alloc (.cells cs 5)).drew.heap.size = W.heap.size + 1 := by show (W.alloc (.cells cs 5)).heap.size = _; simp
  obtain ⟨g', cap', W3, hrun, hown, hgrow, hat, hgl⟩ := run_append_lies (P := Try.prog) (W.alloc (.cells cs 5)).drew 31 31 0 5 i0 (.int .u8 0) 1 1 Try.underlying31 hi hz0 hz1 hz2 rfl (by decide) (.slice (some ⟨g, 0, none⟩) bs.length cap) bs.length (bs.map (Value.int .u8)) (hK.row h2 (fun _ _ e => e))
    ⟨W.heap.size, 0, none⟩ news.length news.length (news.map (Value.int .u8)) (by simp) (fun j u hu => by have := new_cells W cs 5 j u (by rw [hcs]; exact hu); exact this) (bytes_oneCell _) hn (by unfold maxLen; omega) (by omega) (Nat.zero_le _) _ rfl
  obtain ⟨q1, q2⟩ := wr_appended (w1 := W3) (news := news) hK h1 h3 h4 h5 h6 g' cap' hown hgrow hat
  have hlt := (Array.getElem?_eq_some_iff.1 h1).1
  have hb : W3.heap[w1.heap.size + 1]? = some (.cells #[.slice (some ⟨g, 0, none⟩) bs.length cap] 69 (0, 0)) :=
    (hgrow.block _ (by rw [hsz]; omega) (by intro e; cases e; exact h3 rfl)).trans ((hK.block _ hlt (fun e => e)).trans h1)
  have hgc : ∃ c, W.heap[g]? = some (.cells c 5 (0, 0)) := by
    rcases h2.2 with ⟨hv, _⟩ | ⟨g2, cap2, cur, hv, _, hg, _⟩
    · cases hv
    · cases hv; exact ⟨cur, hg⟩
  refine ⟨g, cap, g', cap', W3, by rw [cell_of_row W _ _ _ _ _ h1]; rfl, hrun, by rw [cell_of_row W3 _ _ _ _ _ hb]; rfl, froz hb, h.step q1 q2, g, ?_, hgc, ⟨_, h1⟩⟩
  exact ((hK.mono (T := fun k => k = w1.heap.size + 1 ∨ k = g) (fun _ e => e.elim)).grown hgrow (fun k hk => by cases hk; exact .inl (.inr rfl))).setCell (p := ⟨w1.heap.size + 1, 0, none⟩) (.inl (.inl rfl)) _

end Go.Proofs.Ytnbhphjpefagjaa
