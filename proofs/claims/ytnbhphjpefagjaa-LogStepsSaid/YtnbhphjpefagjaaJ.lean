/- Log: a writer's first word, behind the marked row of the constant "WLOG". -/
import Derived.Test.YtnbhphjpefagjaaH
import Derived.Lib.SlBytesConst
namespace Go.Proofs.Ytnbhphjpefagjaa
open Go.RowKit

/-- An append onto a full slice of readable bytes: a new row. -/
theorem run_append_full (w : World) (i : TypeInfo) (hi : Try.prog.info? 5 = some i) (hz : i.zero = some (.int .u8 0)) (hs : i.size = 1) (hb : i.bytes = 1) (ty : TypeId)
    (g n : Nat) (xs : List Value) (hxl : xs.length = n) (holds : ∀ j u, xs[j]? = some u → w.cell? ((⟨g, 0, none⟩ : Addr).add j) = some u)
    (ad : Addr) (m c : Nat) (news : List Value) (hl : news.length = m) (hnews : ∀ j u, news[j]? = some u → w.cell? (ad.add j) = some u) (hm : 0 < m) (hsz : n + m ≤ 1000000) :
    ∃ cap' w', (Builtin.append_ #[31, 31] ty #[.slice (some ⟨g, 0, none⟩) n n, .slice (some ad) m c]).run Try.prog w = .ok (.slice (some ⟨w.heap.size, 0, none⟩) (n + m) cap') w' ∧
      w'.ownsRow 0 5 1 (.slice (some ⟨w.heap.size, 0, none⟩) (n + m) cap') (n + m) (xs ++ news) ∧ Keeps No w w' := by
  have hr := run_append_grow (P := Try.prog) w 31 ty 5 i (.int .u8 0) Try.underlying31 hi hz ⟨g, 0, none⟩ n n xs (by rw [hs]; omega) holds ad m c news (by rw [hs]; omega) hnews (by omega) (by omega) (growslice_fits (by omega) (by rw [hb]; omega))
  have hge := grownCap_ge w (n + m) n 5
  have hcm : grownCap w (n + m) n 5 ≤ maxLen := grownCap_le_maxLen w (n + m) n 5 (by unfold maxLen; omega)
  refine ⟨_, _, hr, ⟨by simp; omega, .inr ⟨w.heap.size, _, _, rfl, Nat.zero_le _, heap_alloc_new w.drew _, hge, hcm, ?_, ?_⟩⟩, ((Keeps.refl No w).drew).alloc _⟩
  · simp only [Array.size_append, List.size_toArray, size_zeroCells, hxl, hl, Value.cells]
    simp
    omega
  · simp only [Array.toList_append, List.append_assoc]
    rw [← List.append_assoc, Nat.mul_one, show n + m = (xs ++ news).length by simp; omega]
    exact List.take_left

theorem wpList_append_full {ops : Array Oper} {rest : List Oper} {o : Oper} {a : Act} {Q : Exit → Act → World → Prop} (w : World) (hgd : o.guard = none) (s x : Operand)
    (ho : o.op = .call { callee := .builtin .append, args := #[s, x], argTypes := #[31, 31] })
    (i : TypeInfo) (hi : Try.prog.info? 5 = some i) (hz : i.zero = some (.int .u8 0)) (hs : i.size = 1) (hb : i.bytes = 1)
    (g n : Nat) (hsv : a.eval s = .slice (some ⟨g, 0, none⟩) n n) (xs : List Value) (hxl : xs.length = n) (holds : ∀ j u, xs[j]? = some u → w.cell? ((⟨g, 0, none⟩ : Addr).add j) = some u)
    (ad : Addr) (m c : Nat) (news : List Value) (hx : a.eval x = .slice (some ad) m c) (hl : news.length = m) (hnews : ∀ j u, news[j]? = some u → w.cell? (ad.add j) = some u) (hm : 0 < m) (hsz : n + m ≤ 1000000)
    (h : ∀ cap' w', w'.ownsRow 0 5 1 (.slice (some ⟨w.heap.size, 0, none⟩) (n + m) cap') (n + m) (xs ++ news) → Keeps No w w' → wpList Try.prog ops Q rest (a.put o.dst (.slice (some ⟨w.heap.size, 0, none⟩) (n + m) cap')) w') : wpList Try.prog ops Q (o :: rest) a w :=
  wpList_plain hgd fun _ hK => by
    obtain ⟨cap', w', hr, h2, h3⟩ := run_append_full w i hi hz hs hb o.type g n xs hxl holds ad m c news hl hnews hm hsz
    unfold Oper.wp execOp
    simp only [ho, resolve, invoke, builtin, Sem.run_bind, Sem.run_pure, Result.andThen_ok, List.map_toArray, List.map_cons, List.map_nil, hsv, hx, hr]
    exact hK _ _ (h cap' w' h2 h3)

/-- A writer at b of the bytes l in a full row that is only read. -/
def Wr0 (w : World) (b : Nat) (l : List Int) : Prop :=
  ∃ g, w.heap[b]? = some (.cells #[.slice (some ⟨g, 0, none⟩) l.length l.length] 69 (0, 0)) ∧ ∀ j u, (l.map (Value.int .u8))[j]? = some u → w.cell? ((⟨g, 0, none⟩ : Addr).add j) = some u

set_option maxHeartbeats 1000000 in
theorem wword_first {F : Nat → Prop} (b : Nat) (n : Int) (hn0 : 0 ≤ n) (hn1 : n < 4294967296) (l : List Int) (hl : l.length ≤ 1000) (w : World) (h : Wr0 w b l) (h5 : ¬ F b) (h6 : ∀ k, F k → k < w.heap.size) :
    Calls Try.prog 29 #[.pointer (some ⟨b, 0, none⟩), .int .u32 n] w fun e w' => e = .returned (.tuple #[]) ∧ Wr F w' b (l ++ le4 n) ∧ Keeps (fun k => k = b) w w' := by
  obtain ⟨i0, hi, hz0, hz1, hz2⟩ := info_parts Try.info5
  have HI := hid hi
  have HZ0 := hid hz0
  have HZ1 := hid hz1
  have HZ2 := hid hz2
  clear hi hz0 hz1 hz2
  obtain ⟨g, h1, h2⟩ := h
  have hc : w.cell? ⟨b, 0, none⟩ = some (.slice (some ⟨g, 0, none⟩) l.length l.length) := by rw [cell_of_row w _ _ _ _ _ h1]; rfl
  have hf := froz (i := 0) h1
  have H1 := hid h1
  have H2 := hid h2
  have H6 := hid h6
  have hlt := (Array.getElem?_eq_some_iff.1 h1).1
  clear h1 h2 h6
  go_enter Try.func29, Try.ntmps29
  go_wp2_with (at_builtin; go_must (refine wpList_append_full _ rfl (.tmp 9) (.tmp 21) rfl i0 HI.out HZ0.out HZ1.out HZ2.out g l.length rfl (l.map (Value.int .u8)) (by simp) (fun j u hu => cell_alloc_of w _ (H2.out j u hu)) ⟨w.heap.size, 0, none⟩ 4 4 ((le4 n).map (Value.int .u8)) rfl rfl (new_cells w _ _) (by omega) (by omega) ?_); intro cap' w1 hown hk1; have HO := hid hown; have hb1 := (hk1.block b (by simp; omega) (fun e => e)).trans ((Below.heap_alloc w _ b hlt).trans H1.out); have hc1 : w1.cell? ⟨b, 0, none⟩ = some (.slice (some ⟨g, 0, none⟩) l.length l.length) := (by rw [cell_of_row w1 _ _ _ _ _ hb1]; rfl); have hf1 := froz (i := 0) hb1; have HB1 := hid hb1; have HK1 := hid (((Keeps.refl No w).alloc _).trans hk1); clear hown hk1 hb1)
  go_end0
  have hsz := HK1.out.size
  have HO2 := HO.out
  rw [World.size_alloc] at HO2
  have hl4 : (l ++ le4 n).length = l.length + 4 := by rw [List.length_append]; rfl
  refine ⟨rfl, ⟨w.heap.size + 1, cap', ?_, ?_, by omega, fun hF => by have := H6.out _ hF; omega, h5, fun k hk => by have := H6.out k hk; simp; omega⟩, Keeps.setCell (S := fun k => k = b) (p := ⟨b, 0, none⟩) (HK1.out.mono (fun _ h => h.elim)) (.inl rfl) _⟩
  · rw [hl4]
    exact heap_setCell_row HB1.out
  · rw [hl4, List.map_append]
    exact (Keeps.set_at w1 b 0 _).row HO2 (fun k hk => by cases hk; show ¬ w.heap.size + 1 = b; omega)

end Go.Proofs.Ytnbhphjpefagjaa
