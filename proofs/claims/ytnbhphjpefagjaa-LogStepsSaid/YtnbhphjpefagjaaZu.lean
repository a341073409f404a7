/- Log: what comes in: outcomes, turns, what was taken. -/
import Derived.Test.YtnbhphjpefagjaaZq
import Derived.Deep.Slices
import Derived.Deep.Fields
import Derived.ChangeSame
import Derived.OpenShut
namespace Go.Proofs.Ytnbhphjpefagjaa
open Go.RowKit Go.ChangeShapes Go.WideShapes Go.Deep

theorem box_in {w W : World} {b : Nat} {cs : Array Value} {e : TypeId} (h : w.heap[b]? = some (.cells cs e (0, 0))) (hk : Keeps No w W) : W.heap[b]? = some (.cells cs e (0, 0)) :=
  (hk.block b (Array.getElem?_eq_some_iff.1 h).1 (fun e => e)).trans h

theorem cells_ok {P : Program} {w : World} {base : Nat} {t : TypeId} {v : Value} {fs : Array Field} {ts : List TypeId} (hs : P.underlying t = some (.struct fs)) (hts : P.cellTypes P.depth t = some ts) (h : Value.okWide P w .any base t v) :
    ∃ cs, v = .agg cs ∧ cs.size = P.cellsOf t ∧ ∀ i u, cs[i]? = some u → ∃ ty, ts[i % ts.length]? = some ty ∧ Cell.okWide P w .any base ty u := by
  simp only [Value.okWide, hs] at h
  obtain ⟨cs, h1, h2, ts', h3, _, h4⟩ := h
  rw [hts] at h3
  cases h3
  exact ⟨cs, h1, h2, h4⟩

theorem int_cell {P : Program} {w : World} {base : Nat} {t : TypeId} {v : Value} {k : IntKind} (ht : P.underlying t = some (.int k)) (h : Cell.okWide P w .any base t v) : ∃ n, v = .int k n ∧ k.has n := by
  simp only [Cell.okWide, ht] at h
  cases v <;> simp_all [Cell.ok]

theorem slice_cell {P : Program} {w : World} {base : Nat} {t e : TypeId} {v : Value} (ht : P.underlying t = some (.slice e)) (h : Cell.okWide P w .any base t v) :
    v = .slice none 0 0 ∨ ∃ b off len cap, v = .slice (some ⟨b, off, none⟩) len cap ∧ len ≤ cap ∧ cap ≤ 9223372036854775807 ∧ b < w.heap.size := by
  simp only [Cell.okWide, ht] at h
  cases v with
  | slice a len cap =>
    cases a with
    | none =>
      cases len <;> cases cap <;> simp_all [Cell.ok]
    | some a =>
      obtain ⟨b, off, sp⟩ := a
      simp only [Cell.ok, ht, World.has] at h
      obtain ⟨h1, h2, _, h3, row, cells, h4, _⟩ := h
      subst h3
      refine .inr ⟨b, off, len, cap, rfl, h1, ?_, ?_⟩
      · simp [IntKind.max, IntKind.signed, IntKind.bits] at h2
        omega
      · rcases Nat.lt_or_ge b w.heap.size with h | h
        · exact h
        · simp [World.shape?, Array.getElem?_eq_none h] at h4
  | _ => simp_all [Cell.ok]

section
variable {H : Type} {enc : TypeId × Value → H} {P : Program} {w : World} {base : Nat} {spare : Nat → Bool} {held : Bool}
theorem open_slice_fields {t e : TypeId} {fs : Array Field} {fuel : Nat} {cs : List Value} {x : DataW H × List MemPlace} (ht : P.underlying t = some (.slice e)) (he : P.underlying e = some (.struct fs))
    (hone : oneCellFields P fs = true) (hC : P.cellsOf e = fs.size) (h : DataW.trod enc P w base spare held fuel t cs = some x) :
    (cs = [.slice none 0 0] ∧ x = (.nil, [])) ∨
    ∃ (a : Addr) (len cap m : Nat) (D : Nat → DataW H) (Pl : Nat → List MemPlace), cs = [.slice (some a) len cap] ∧ base ≤ a.block ∧ len ≤ cap ∧ cap ≤ maxLen ∧ m = (if spare a.block then cap else len) ∧
      x = (.slice ((List.range len).map D) ((List.range (m - len)).map fun j => D (len + j)), MemPlace.row a (m * fs.size) ++ (List.range m).flatMap Pl) ∧
      ∀ i, i < m → ∃ (ys : List (DataW H × List MemPlace)) (n : Nat), D i = .agg (ys.map (·.1)) ∧ Pl i = ys.flatMap (·.2) ∧ ys.length = fs.size ∧
        ∀ (j : Nat) (f : Field), fs[j]? = some f → ∃ (v : Value) (y : DataW H × List MemPlace), w.cell? (a.add (i * fs.size + j)) = some v ∧ ys[j]? = some y ∧ DataW.trod enc P w base spare held n f.type [v] = some y := by
  rcases open_slice ht h with h0 | ⟨a, len, cap, m, n, D, Pl, hcs, hb, hl, hm, hmm, hx, hi⟩
  · exact .inl h0
  · refine .inr ⟨a, len, cap, m, D, Pl, hcs, hb, hl, hm, hmm, by rw [hC] at hx; exact hx, fun i him => ?_⟩
    obtain ⟨cs', hc, ht'⟩ := hi i him
    rw [hC] at hc
    obtain ⟨ys, n', hn', hy, hlen, hyl, hf⟩ := DataW.trod_struct he ht'
    obtain ⟨_, hcl, hat⟩ := World.cells?_some hc
    simp only [Prod.mk.injEq] at hy
    refine ⟨ys, n', hy.1, hy.2, hyl, fun j f hj => ?_⟩
    obtain ⟨ho, hk⟩ := hone_of hone j f hj
    have hjl : j < fs.size := (Array.getElem?_eq_some_iff.1 hj).1
    have hcell := hat j hjl
    have hv : cs'[j]? = some (cs'[j]'(by omega)) := List.getElem?_eq_getElem (by omega)
    have h1 := hf j f hj
    rw [ho, hk] at h1
    have hone' : (cs'.drop j).take 1 = [cs'[j]'(by omega)] := by
      rw [List.drop_eq_getElem_cons (by omega)]
      rfl
    rw [hone'] at h1
    have hys : ys[j]? = some (ys[j]'(by omega)) := List.getElem?_eq_getElem (by omega)
    refine ⟨_, _, ?_, hys, h1.trans hys⟩
    rw [← Go.Deep.add_add, hcell, hv]
end

theorem Try.types27 : Try.prog.cellTypes Try.prog.depth 27 = some [24, 25, 3, 3] := by kernel_rfl
theorem Try.types29 : Try.prog.cellTypes Try.prog.depth 29 = some [22, 23, 24, 25, 3, 3] := by kernel_rfl
theorem Try.size27 : Try.prog.cellsOf 27 = 4 := by kernel_rfl
theorem Try.size29 : Try.prog.cellsOf 29 = 6 := by kernel_rfl

theorem open_outcome {w : World} {base : Nat} {v : Value} (h : Value.okWide Try.prog w .any base 27 v) : ∃ k tr th st, v = .agg #[.int .i64 k, .int .i64 tr, .int .i64 th, .int .i64 st] := by
  obtain ⟨cs, rfl, hn, hc⟩ := cells_ok Try.underlying27 Try.types27 h
  rw [Try.size27] at hn
  obtain ⟨l⟩ := cs
  match l, hn, hc with
  | [a, b, c, d], _, hc =>
    obtain ⟨t0, e0, h0⟩ := hc 0 a rfl
    obtain ⟨t1, e1, h1⟩ := hc 1 b rfl
    obtain ⟨t2, e2, h2⟩ := hc 2 c rfl
    obtain ⟨t3, e3, h3⟩ := hc 3 d rfl
    cases e0
    cases e1
    cases e2
    cases e3
    obtain ⟨k, rfl, _⟩ := int_cell Try.underlying24 h0
    obtain ⟨tr, rfl, _⟩ := int_cell Try.underlying25 h1
    obtain ⟨th, rfl, _⟩ := int_cell Try.underlying3 h2
    obtain ⟨st, rfl, _⟩ := int_cell Try.underlying3 h3
    exact ⟨k, tr, th, st, rfl⟩

/-- What is told of turns that came in. -/
def TurnsIn (w : World) (a : Option Addr) (n : Nat) (l : List (Int × Int)) : Prop :=
  l.length = n ∧ TurnsAt w a l ∧ ∀ x ∈ l, (Lit.int .i64 x.1).wf = true ∧ (Lit.int .i64 x.2).wf = true

theorem open_turns {H : Type} {enc : TypeId × Value → H} {w : World} {held : Bool} {fuel : Nat} {a : Option Addr} {n c : Nat} {x : DataW H × List MemPlace} (hn : a = none → n = 0) (hsp : ∀ p, a = some p → p.spot = none)
    (h : DataW.trod enc Try.prog w 0 (fun _ => true) held fuel 23 [.slice a n c] = some x) : ∃ l, TurnsIn w a n l := by
  rcases open_slice_fields Try.underlying23 Try.underlying57 (by kernel_rfl) (by kernel_rfl) h with ⟨h0, _⟩ | ⟨p, len, cap, m, D, Pl, hcs, _, hl, _, hm, _, hf⟩
  · cases h0
    exact ⟨[], rfl, .inl rfl, by simp⟩
  · cases hcs
    have hp := hsp p rfl
    obtain ⟨g, off, sp⟩ := p
    simp only at hp
    subst hp
    simp only [if_true] at hm
    subst hm
    have hex : ∀ i, ∃ q : Int × Int, i < n → w.cell? ⟨g, off + i * 2, none⟩ = some (.int .i64 q.1) ∧ w.cell? ⟨g, off + i * 2 + 1, none⟩ = some (.int .i64 q.2) ∧ (Lit.int .i64 q.1).wf = true ∧ (Lit.int .i64 q.2).wf = true := by
      intro i
      by_cases hi : i < n
      · obtain ⟨ys, k, _, _, _, hj⟩ := hf i (by omega)
        obtain ⟨v0, y0, c0, _, t0⟩ := hj 0 _ rfl
        obtain ⟨v1, y1, c1, _, t1⟩ := hj 1 _ rfl
        obtain ⟨z0, e0, _, b0⟩ := DataW.trod_int Try.underlying3 t0
        obtain ⟨z1, e1, _, b1⟩ := DataW.trod_int Try.underlying3 t1
        cases e0
        cases e1
        rw [Addr.add_lit] at c0 c1
        exact ⟨(z0, z1), fun _ => ⟨c0, c1, b0, b1⟩⟩
      · exact ⟨(0, 0), fun h => absurd h hi⟩
    obtain ⟨f, hf⟩ := Classical.axiomOfChoice hex
    have hat : ∀ j, j < n → ((List.range n).map f)[j]?.getD (0, 0) = f j := fun j hj => by simp [hj]
    refine ⟨(List.range n).map f, by simp, .inr ⟨g, off, rfl, fun j hj => ?_⟩, ?_⟩
    · simp only [List.length_map, List.length_range] at hj
      rw [hat j hj]
      exact ⟨(hf j hj).1, (hf j hj).2.1⟩
    · intro x hx
      obtain ⟨j, hj, rfl⟩ := List.mem_map.1 hx
      exact (hf j (List.mem_range.1 hj)).2.2

theorem open_taken {H : Type} {enc : TypeId × Value → H} {w : World} {base : Nat} {v : Value} {d : DataW H} {ps : List MemPlace} (h : Value.okWide Try.prog w .any base 29 v) (ht : DataW.Trod enc Try.prog w 0 (fun _ => true) true 29 v d ps) :
    ∃ hh a n c k tr th st l, v = .agg #[.int .u32 hh, .slice a n c, .int .i64 k, .int .i64 tr, .int .i64 th, .int .i64 st] ∧ 0 ≤ hh ∧ hh < 4294967296 ∧ TurnsIn w a n l ∧ ∀ p, a = some p → p.block < w.heap.size := by
  obtain ⟨cs, rfl, hn, hc⟩ := cells_ok Try.underlying29 Try.types29 h
  rw [Try.size29] at hn
  obtain ⟨l⟩ := cs
  match l, hn, hc, ht with
  | [a, b, c, d, e, f], _, hc, ht =>
    obtain ⟨t0, e0, h0⟩ := hc 0 a rfl
    obtain ⟨t1, e1, h1⟩ := hc 1 b rfl
    obtain ⟨t2, e2, h2⟩ := hc 2 c rfl
    obtain ⟨t3, e3, h3⟩ := hc 3 d rfl
    obtain ⟨t4, e4, h4⟩ := hc 4 e rfl
    obtain ⟨t5, e5, h5⟩ := hc 5 f rfl
    cases e0
    cases e1
    cases e2
    cases e3
    cases e4
    cases e5
    obtain ⟨hh, rfl, hb⟩ := int_cell Try.underlying22 h0
    obtain ⟨k, rfl, _⟩ := int_cell Try.underlying24 h2
    obtain ⟨tr, rfl, _⟩ := int_cell Try.underlying25 h3
    obtain ⟨th, rfl, _⟩ := int_cell Try.underlying3 h4
    obtain ⟨st, rfl, _⟩ := int_cell Try.underlying3 h5
    simp [IntKind.has, IntKind.min, IntKind.max, IntKind.signed, IntKind.bits] at hb
    obtain ⟨fuel, hf⟩ := ht
    obtain ⟨xs, m, _, _, _, hxl, hg⟩ := DataW.trod_struct Try.underlying29 hf
    have hg1 := hg 1 _ rfl
    obtain ⟨y, hy⟩ : ∃ y, xs[1]? = some y := ⟨_, List.getElem?_eq_getElem (by rw [hxl]; decide)⟩
    rw [hy] at hg1
    simp only [Value.cells] at hg1
    rcases slice_cell Try.underlying23 h1 with rfl | ⟨g, off, n, cap, rfl, h6, h7, h8⟩
    · exact ⟨hh, none, 0, 0, k, tr, th, st, [], rfl, hb.1, by omega, ⟨rfl, .inl rfl, by simp⟩, fun p hp => by cases hp⟩
    · obtain ⟨l, hl⟩ := open_turns (fun h => by cases h) (fun p hp => by cases hp; rfl) hg1
      exact ⟨hh, some ⟨g, off, none⟩, n, cap, k, tr, th, st, l, rfl, hb.1, by omega, hl, fun p hp => by cases hp; exact h8⟩

end Go.Proofs.Ytnbhphjpefagjaa
