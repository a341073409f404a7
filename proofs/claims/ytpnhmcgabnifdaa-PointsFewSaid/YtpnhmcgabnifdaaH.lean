/- Points: least, over the places that may be let go. -/
import Derived.Test.YtpnhmcgabnifdaaG
namespace Go.Proofs.Ytpnhmcgabnifdaa
open Go.RowKit Go.Shelf
attribute [local go_sem] Oper.semAt_some

/-- How far apart a time's neighbours are. -/
def gapAt (l : List Int) (i : Nat) : Int := l[i + 1]?.getD 0 - l[i - 1]?.getD 0

set_option maxHeartbeats 400000 in
theorem gap_any (Bn b g cap n i : Nat) (l : List Int) (w : World) (hn : n ≤ 100000) (hi1 : 1 ≤ i) (hi2 : i + 1 < n) (hlo : Hid (∀ j, j < n → 0 ≤ l[j]?.getD 0 ∧ l[j]?.getD 0 ≤ 1099511627776))
    (c1 : w.cell? ⟨Bn, 0, none⟩ = some (.pointer (some ⟨b, 0, none⟩))) (c2 : w.cell? ⟨b, 2, none⟩ = some (.slice (some ⟨g, 0, none⟩) n cap))
    (HC : Hid (∀ j, j < n → w.cell? ⟨g, j, none⟩ = some (.int .i64 (l[j]?.getD 0)))) :
    Calls Try.prog 32 #[.int .i64 i, .pointer (some ⟨Bn, 0, none⟩)] w fun e w' => e = .returned (.int .i64 (gapAt l i)) ∧ ∃ q, w' = w.drewN q := by
  have e1 := HC.out (i + 1) hi2
  have e2 := HC.out (i - 1) (by omega)
  obtain ⟨b1, b2⟩ := hlo.out (i + 1) hi2
  obtain ⟨b3, b4⟩ := hlo.out (i - 1) (by omega)
  unfold gapAt
  generalize l[i + 1]?.getD 0 = x at *
  generalize l[i - 1]?.getD 0 = y at *
  go_enter Try.func32, Try.ntmps32
  go_wp2
  go_quiet (fail)
  go_wp2
  go_ret
  exact ⟨rfl, _, rfl⟩

/-- What least has kept: the place, how far, and whether it is still the first round. -/
def stepL (l : List Int) (s : Int × Int × Bool) (x : Nat) : Int × Int × Bool := if s.2.2 = true ∨ gapAt l x < s.2.1 then ((x : Int), gapAt l x, false) else s
def stL (l : List Int) (pre : List Nat) : Int × Int × Bool := pre.foldl (stepL l) (0, 0, true)
theorem stL_snoc (l : List Int) (pre : List Nat) (x : Nat) : stL l (pre ++ [x]) = stepL l (stL l pre) x := by simp [stL]

/-- The variables of least, and what lay below. -/
def LeastI (w : World) (B2 : Nat) (s : Int × Int × Bool) (W : World) : Prop :=
  (W.cell? ⟨w.heap.size, 0, none⟩ = some (.func (.func 32) #[] #[.pointer (some ⟨B2, 0, none⟩)]) ∧
   W.cell? ⟨w.heap.size + 1, 0, none⟩ = some (.int .i64 s.1) ∧ W.frozen? ⟨w.heap.size + 1, 0, none⟩ = false ∧
   W.cell? ⟨w.heap.size + 1 + 1, 0, none⟩ = some (.bool s.2.2) ∧ W.frozen? ⟨w.heap.size + 1 + 1, 0, none⟩ = false ∧
   W.cell? ⟨w.heap.size + 1 + 1 + 1, 0, none⟩ = some (.int .i64 s.2.1) ∧ W.frozen? ⟨w.heap.size + 1 + 1 + 1, 0, none⟩ = false) ∧ Below w.heap.size w W

theorem leastI_own {β : Type} (w : World) (B2 B : Nat) (hB : w.heap.size ≤ B) (f : β → Int × Int × Bool) : OwnFrom B (fun s W => LeastI w B2 (f s) W) :=
  OwnFrom.and (Own.from (fun _ _ _ _ hs hg hr => ⟨cell_kept hs.1 hg hr, cell_kept hs.2.1 hg hr, (frozen_kept hs.2.1 hg hr).trans hs.2.2.1, cell_kept hs.2.2.2.1 hg hr, (frozen_kept hs.2.2.2.1 hg hr).trans hs.2.2.2.2.1, cell_kept hs.2.2.2.2.2.1 hg hr, (frozen_kept hs.2.2.2.2.2.1 hg hr).trans hs.2.2.2.2.2.2⟩) _) (ownFrom_below (Nat.le_refl _) hB)

theorem leastI_drewN {w : World} {B2 : Nat} {s : Int × Int × Bool} {W : World} (h : LeastI w B2 s W) (q : Nat) : LeastI w B2 s (W.drewN q) :=
  ⟨h.1, ⟨h.2.os, h.2.tape, h.2.output, h.2.size, h.2.block⟩⟩

theorem leastI_set {w : World} {B2 : Nat} {s : Int × Int × Bool} {W : World} (h : LeastI w B2 s W) (x m : Int) :
    LeastI w B2 (x, m, false) (((W.setCell ⟨w.heap.size + 1, 0, none⟩ (.int .i64 x)).setCell ⟨w.heap.size + 1 + 1 + 1, 0, none⟩ (.int .i64 m)).setCell ⟨w.heap.size + 1 + 1, 0, none⟩ (.bool false)) := by
  obtain ⟨⟨h1, h2, h3, h4, h5, h6, h7⟩, hB⟩ := h
  have n12 : ∀ (a b : Nat), a ≠ b → (⟨a, 0, none⟩ : Addr) ≠ ⟨b, 0, none⟩ := fun a b hab e => hab (by cases e; rfl)
  refine ⟨⟨?_, ?_, ?_, ?_, ?_, ?_, ?_⟩, ((hB.setCell (p := ⟨w.heap.size + 1, 0, none⟩) (by simp) _).setCell (p := ⟨w.heap.size + 1 + 1 + 1, 0, none⟩) (by simp; omega) _).setCell (p := ⟨w.heap.size + 1 + 1, 0, none⟩) (by simp; omega) _⟩
  · rw [World.cell?_setCell_other _ _ _ _ (n12 _ _ (by omega)), World.cell?_setCell_other _ _ _ _ (n12 _ _ (by omega)), World.cell?_setCell_other _ _ _ _ (n12 _ _ (by omega)), h1]
  · rw [World.cell?_setCell_other _ _ _ _ (n12 _ _ (by omega)), World.cell?_setCell_other _ _ _ _ (n12 _ _ (by omega)), World.cell?_setCell_same _ _ _ h2]
  · simp only [World.frozen?_setCell]; exact h3
  · rw [World.cell?_setCell_same (u := .bool s.2.2)]
    rw [World.cell?_setCell_other _ _ _ _ (n12 _ _ (by omega)), World.cell?_setCell_other _ _ _ _ (n12 _ _ (by omega)), h4]
  · simp only [World.frozen?_setCell]; exact h5
  · rw [World.cell?_setCell_other _ _ _ _ (n12 _ _ (by omega)), World.cell?_setCell_same (u := .int .i64 s.2.1)]
    rw [World.cell?_setCell_other _ _ _ _ (n12 _ _ (by omega)), h6]
  · simp only [World.frozen?_setCell]; exact h7

theorem keepsOthers_drewN (W : World) (q : Nat) : KeepsOthers W (W.drewN q) := ⟨Nat.le_refl _, fun _ _ h _ => h⟩
theorem below_drewN' (n : Nat) (W : World) (q : Nat) : Below n W (W.drewN q) := ⟨rfl, rfl, rfl, Nat.le_refl _, fun _ _ => rfl⟩

set_option maxRecDepth 100000 in
set_option maxHeartbeats 1000000 in
theorem least_in (m : Nat) (hm : 4 ≤ m) (B1 B2 b g cap n : Nat) (l : List Int) (w : World) (hn : n ≤ 100000) (hlo : Hid (∀ j, j < n → 0 ≤ l[j]?.getD 0 ∧ l[j]?.getD 0 ≤ 1099511627776))
    (c1 : w.cell? ⟨B1, 0, none⟩ = some (.pointer (some ⟨b, 0, none⟩))) (c2 : w.cell? ⟨B2, 0, none⟩ = some (.pointer (some ⟨b, 0, none⟩))) (c3 : w.cell? ⟨b, 2, none⟩ = some (.slice (some ⟨g, 0, none⟩) n cap))
    (hg : g < w.heap.size) (HC : Hid (∀ j, j < n → w.cell? ⟨g, j, none⟩ = some (.int .i64 (l[j]?.getD 0)))) :
    CallsIn Fence.wide m Try.prog 30 #[.func (.func 37) #[] #[.pointer (some ⟨B1, 0, none⟩)], .func (.func 32) #[] #[.pointer (some ⟨B2, 0, none⟩)]] w fun e w' => e = .returned (.int .i64 (stL l (List.range' 1 (n - 2))).1) ∧ Below w.heap.size w w' := by
  have h1 : 1 ≤ m := by omega
  have hb1 := World.block_lt_of_cell? _ _ c1
  have hb2 := World.block_lt_of_cell? _ _ c2
  have hb3 := World.block_lt_of_cell? _ _ c3
  simp only at hb1 hb2 hb3
  refine callsIn_of_wp_marks Try.func30 rfl trivial ?_ rfl
  simp only [Try.ntmps30, List.size_toArray, List.length_cons, List.length_nil, Nat.reduceAdd, Nat.reduceSub, Array.replicate_succ, Array.replicate_zero, List.push_toArray, List.append_toArray, List.nil_append, List.cons_append]
  gi_wp2
  have hI0 : LeastI w B2 (0, 0, true) ((((w.alloc (Obj.cells #[Value.func (Fn.func 32) #[] #[Value.pointer (some { block := B2, off := 0 })]] 49)).alloc (Obj.cells #[Value.int IntKind.i64 0] 3)).alloc (Obj.cells #[Value.bool true] 4)).alloc (Obj.cells #[Value.int IntKind.i64 0] 3)) :=
    ⟨by refine ⟨?_, ?_, ?_, ?_, ?_, ?_, ?_⟩ <;> simp [go_sem], (((((Below.refl w.heap.size w).alloc (Nat.le_refl _) _).alloc (by simp) _).alloc (by simp; omega) _).alloc (by simp; omega) _)⟩
  have hB0 := hI0.2
  generalize hW0 : ((((w.alloc (Obj.cells #[Value.func (Fn.func 32) #[] #[Value.pointer (some { block := B2, off := 0 })]] 49)).alloc (Obj.cells #[Value.int IntKind.i64 0] 3)).alloc (Obj.cells #[Value.bool true] 4)).alloc (Obj.cells #[Value.int IntKind.i64 0] 3)) = W0 at hI0 hB0 ⊢
  have hsz : W0.heap.size = w.heap.size + 4 := by rw [← hW0]; simp
  clear hW0
  refine wpIn_rangeFunc_ownF (w0 := W0) rfl h1 (gf := 37) (lb := #[.pointer (some ⟨B1, 0, none⟩)]) rfl trivial (enters_of Try.func37 (by kernel_rfl) rfl)
    (inner_stops (m - 1) (by omega) B1 w.heap.size b (some ⟨g, 0, none⟩) n cap W0 hb1 hb3 hB0.size hn ((hB0.cell (p := ⟨B1, 0, none⟩) hb1).trans c1) ((hB0.cell (p := ⟨b, 2, none⟩) hb3).trans c3)) belowK_t (belowK_b (by omega)) (Below.refl _ _) (fun _ => rfl)
    (fun pre W => LeastI w B2 (stL l (pre.map (·.1))) W)
    (fun _ _ _ => False)
    (leastI_own w B2 _ hB0.size (fun pre : List (Mid n) => stL l (pre.map (·.1))))
    (fun _ _ _ _ _ hs _ _ => hs)
    hI0
    (fun x => { tmps := #[Value.func (Fn.func 37) #[] #[Value.pointer (some { block := B1, off := 0 })],
           Value.func (Fn.func 32) #[] #[Value.pointer (some { block := B2, off := 0 })], undef,
           Value.pointer (some { block := w.heap.size, off := 0 }),
           Value.pointer (some { block := w.heap.size + 1, off := 0 }),
           Value.pointer (some { block := w.heap.size + 1 + 1, off := 0 }),
           Value.pointer (some { block := w.heap.size + 1 + 1 + 1, off := 0 }), .int .i64 x.1, undef,
           Value.func (Fn.func 37) #[] #[Value.pointer (some { block := B1, off := 0 })], .int .i64 x.1, undef, undef, undef,
           undef, undef, undef, undef, undef, undef, undef, undef, undef], defers := [] }) ?assign ?body ?done ?stop
  case assign =>
    intro l x W K hK
    gi_wp2
    exact hK
  case body =>
    rintro lp pre x W hI _
    have hIb := hI.2
    have HI := hid hI
    obtain ⟨⟨d0, d1, f1, d2, f2, d3, f3⟩, _⟩ := hI
    have k1 : W.cell? ⟨B2, 0, none⟩ = some (.pointer (some ⟨b, 0, none⟩)) := (hIb.cell (p := ⟨B2, 0, none⟩) hb2).trans c2
    have k2 : W.cell? ⟨b, 2, none⟩ = some (.slice (some ⟨g, 0, none⟩) n cap) := (hIb.cell (p := ⟨b, 2, none⟩) hb3).trans c3
    have k3 : Hid (∀ j, j < n → W.cell? ⟨g, j, none⟩ = some (.int .i64 (l[j]?.getD 0))) := hid (fun j hj => (hIb.cell (p := ⟨g, j, none⟩) hg).trans (HC.out j hj))
    have HG := hid (gap_any B2 b g cap n x.1 l W hn x.2.1 x.2.2 hlo k1 k2 k3)
    have HS := hid (stL_snoc l (pre.map (·.1)) x.1)
    have hm1 : 1 ≤ m - 1 - 1 := by omega
    clear c1 c2 c3 k1 k2 hIb HC k3
    generalize stL l (pre.map (·.1)) = st at *
    obtain ⟨sa, sb, sc⟩ := st
    dsimp only at d1 d2 d3
    have hset : ∀ q, sc = true ∨ gapAt l x.1 < sb → ownPostK (Below w.heap.size) (fun pre W => LeastI w B2 (stL l (List.map (fun x => x.val) pre)) W) (fun _ _ _ => False) (pre ++ [x]) W Exit.normal { tmps := #[], defers := [] }
        ((((W.setCell ⟨w.heap.size + 1, 0, none⟩ (.int .i64 x.1)).setCell ⟨w.heap.size + 1 + 1 + 1, 0, none⟩ (.int .i64 (gapAt l x.1))).setCell ⟨w.heap.size + 1 + 1, 0, none⟩ (.bool false)).drewN q) := fun q hq => by
      refine ⟨(((KeepsOthers.setCell _ _ _).trans (KeepsOthers.setCell _ _ _)).trans (KeepsOthers.setCell _ _ _)).trans (keepsOthers_drewN _ q), ?_, ?_⟩
      · exact ((((Below.refl w.heap.size W).setCell (p := ⟨w.heap.size + 1, 0, none⟩) (by simp) _).setCell (p := ⟨w.heap.size + 1 + 1 + 1, 0, none⟩) (by simp; omega) _).setCell (p := ⟨w.heap.size + 1 + 1, 0, none⟩) (by simp; omega) _).trans (below_drewN' _ _ q)
      · show LeastI w B2 (stL l (List.map (fun x => x.val) (pre ++ [x]))) _
        rw [List.map_append, List.map_cons, List.map_nil, HS.out, stepL, if_pos hq]
        exact leastI_drewN (leastI_set HI.out _ _) q
    have hnot : ∀ q, ¬ (sc = true ∨ gapAt l x.1 < sb) → ownPostK (Below w.heap.size) (fun pre W => LeastI w B2 (stL l (List.map (fun x => x.val) pre)) W) (fun _ _ _ => False) (pre ++ [x]) W Exit.normal { tmps := #[], defers := [] }
        (W.drewN q) := fun q hq => by
      refine ⟨keepsOthers_drewN _ q, below_drewN' _ _ q, ?_⟩
      show LeastI w B2 (stL l (List.map (fun x => x.val) (pre ++ [x]))) _
      rw [List.map_append, List.map_cons, List.map_nil, HS.out, stepL, if_neg hq]
      exact leastI_drewN HI.out q
    have HSET := hid hset
    have HNOT := hid hnot
    clear hset hnot
    cases sc with
    | true =>
      gi_wp2_with (refine ⟨trivial, ?_⟩; gi_at_call 32; refine (CallsIn.inRound lp (callsIn_wide.2 HG.out)).mono ?_; rintro e w' ⟨rfl, q, rfl⟩)
      exact HSET.out _ (by simp)
    | false =>
      by_cases hlt : gapAt l x.1 < sb
      · gi_wp2_with (refine ⟨trivial, ?_⟩; gi_at_call 32; refine (CallsIn.inRound lp (callsIn_wide.2 HG.out)).mono ?_; rintro e w' ⟨rfl, q, rfl⟩)
        exact HSET.out _ (.inr (by assumption))
      · have hlt' := hid hlt
        gi_wp2_with (refine ⟨trivial, ?_⟩; gi_at_call 32; refine (CallsIn.inRound lp (callsIn_wide.2 HG.out)).mono ?_; rintro e w' ⟨rfl, q, rfl⟩)
        exact HNOT.out _ (by rintro (h | h); cases h; have := hlt'.out; omega)
  case done =>
    rintro D ys W hD hS hI hK
    have hB := hI.2
    rw [hS] at hI
    have HI := hid hI
    obtain ⟨⟨_, d1, f1, _, _, _, _⟩, _⟩ := hI
    gi_wp2
    have hK' := (KeepsOthers.setCell W ⟨w.heap.size + 1, 0, none⟩ (.int .i64 (stL l (List.range' 1 (n - 2))).1)).same D _ hK rfl
    refine ⟨by simp, .inl ⟨_, _, rfl, run_takeDeferred hK', ?_⟩⟩
    have hc5 := cell_kept (World.cell?_setCell_same' W ⟨w.heap.size + 1, 0, none⟩ (.int .i64 (stL l (List.range' 1 (n - 2))).1) (by rw [d1]; rfl)) (grownBy_putObj' _ D (.deferred none)) (fun r e => by cases e; exact ⟨_, hK', rfl⟩)
    refine ⟨.int .i64 (stL l (List.range' 1 (n - 2))).1, ?_, rfl, (hB.setCell (p := ⟨w.heap.size + 1, 0, none⟩) (by simp) _).trans (belowK_b (w := w) (Nat.le_refl _) _ D _ _ (by omega) hK' rfl rfl)⟩
    simp [results, Try.f30, go_sem, hc5]
  case stop =>
    rintro D c pre W _ _ h _
    exact h.elim

end Go.Proofs.Ytpnhmcgabnifdaa
