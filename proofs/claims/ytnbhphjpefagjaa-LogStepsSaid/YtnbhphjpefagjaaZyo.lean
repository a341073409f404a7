/- Log: what comes in: slices of numbers, turns alone, a rot. -/
import Derived.Test.YtnbhphjpefagjaaZu
import Derived.Test.YtnbhphjpefagjaaZn
namespace Go.Proofs.Ytnbhphjpefagjaa
open Go.RowKit Go.ChangeShapes Go.WideShapes Go.Deep

/-- What is told of a slice of numbers that came in. -/
def RowIn (k : IntKind) (w : World) (a : Option Addr) (len cap : Nat) (l : List Int) : Prop :=
  l.length = len ∧ len ≤ cap ∧ NumsAt k w a l ∧ (∀ n ∈ l, (Lit.int k n).wf = true) ∧ (a = none → cap = 0)

theorem open_nums {H : Type} {enc : TypeId × Value → H} {w : World} {held : Bool} {fuel : Nat} {t e : TypeId} {k : IntKind} {a : Option Addr} {len cap : Nat} {x : DataW H × List MemPlace}
    (ht : Try.prog.underlying t = some (.slice e)) (he : Try.prog.underlying e = some (.int k)) (hc : Try.prog.cellsOf e = 1)
    (h : DataW.trod enc Try.prog w 0 (fun _ => true) held fuel t [.slice a len cap] = some x) : ∃ l, RowIn k w a len cap l := by
  rcases open_ints ht he hc h with ⟨hcs, _⟩ | ⟨p, l, c, zs, hcs, _, hl, hm, hz, _, hcell, hwz⟩
  · cases hcs
    exact ⟨[], rfl, Nat.le_refl _, .inl rfl, by simp, fun _ => rfl⟩
  · cases hcs
    obtain ⟨l', h1, h2, _, h3, h4, _⟩ := row_in (.inr ⟨p, rfl, hl, hm, by simpa using hz, hcell, hwz⟩)
    exact ⟨l', h1, h2, h3, h4, fun e => by cases e⟩

theorem open_ints_arg {H : Type} {enc : TypeId × Value → H} {w : World} {base : Nat} {v : Value} {d : DataW H} {ps : List MemPlace} (h : Value.okWide Try.prog w .any base 48 v) (ht : DataW.Trod enc Try.prog w 0 (fun _ => true) true 48 v d ps) :
    ∃ a n c l, v = .slice a n c ∧ RowIn .i64 w a n c l := by
  obtain ⟨a, n, c, rfl⟩ := okWide_slice Try.underlying48 h
  obtain ⟨fuel, hf⟩ := ht
  simp only [Value.cells] at hf
  obtain ⟨l, hl⟩ := open_nums Try.underlying48 Try.underlying3 (by kernel_rfl) hf
  exact ⟨a, n, c, l, rfl, hl⟩

theorem open_turns_arg {H : Type} {enc : TypeId × Value → H} {w : World} {base : Nat} {v : Value} {d : DataW H} {ps : List MemPlace} (h : Value.okWide Try.prog w .any base 23 v) (ht : DataW.Trod enc Try.prog w 0 (fun _ => true) true 23 v d ps) :
    ∃ a n c l, v = .slice a n c ∧ TurnsIn w a n l ∧ (a = none → n = 0 ∧ c = 0) := by
  have h' : Cell.okWide Try.prog w .any base 23 v := by
    simpa only [Value.okWide, Try.underlying23] using h
  obtain ⟨fuel, hf⟩ := ht
  rcases slice_cell Try.underlying23 h' with rfl | ⟨g, off, n, cap, rfl, h6, h7, h8⟩
  · exact ⟨none, 0, 0, [], rfl, ⟨rfl, .inl rfl, by simp⟩, fun _ => ⟨rfl, rfl⟩⟩
  · simp only [Value.cells] at hf
    obtain ⟨l, hl⟩ := open_turns (fun h => by cases h) (fun p hp => by cases hp; rfl) hf
    exact ⟨some ⟨g, off, none⟩, n, cap, l, rfl, hl, fun e => by cases e⟩

theorem Try.types63 : Try.prog.cellTypes Try.prog.depth 63 = some [31, 3, 5] := by kernel_rfl
theorem Try.size63 : Try.prog.cellsOf 63 = 3 := by kernel_rfl

theorem open_rot {H : Type} {enc : TypeId × Value → H} {w : World} {base : Nat} {v : Value} {d : DataW H} {ps : List MemPlace} (h : Value.okWide Try.prog w .any base 63 v) (ht : DataW.Trod enc Try.prog w 0 (fun _ => true) true 63 v d ps) :
    ∃ a n c at_ other l, v = .agg #[.slice a n c, .int .i64 at_, .int .u8 other] ∧ (0 ≤ other ∧ other < 256) ∧ RowIn .u8 w a n c l := by
  obtain ⟨cs, rfl, hn, hc⟩ := cells_ok Try.underlying63 Try.types63 h
  rw [Try.size63] at hn
  obtain ⟨l⟩ := cs
  match l, hn, hc, ht with
  | [a, b, c], _, hc, ht =>
    obtain ⟨t0, e0, h0⟩ := hc 0 a rfl
    obtain ⟨t1, e1, h1⟩ := hc 1 b rfl
    obtain ⟨t2, e2, h2⟩ := hc 2 c rfl
    cases e0
    cases e1
    cases e2
    obtain ⟨at_, rfl, _⟩ := int_cell Try.underlying3 h1
    obtain ⟨o, rfl, hb⟩ := int_cell Try.underlying5 h2
    simp [IntKind.has, IntKind.min, IntKind.max, IntKind.signed, IntKind.bits] at hb
    obtain ⟨fuel, hf⟩ := ht
    obtain ⟨xs, m, _, _, _, hxl, hg⟩ := DataW.trod_struct Try.underlying63 hf
    have hg1 := hg 0 _ rfl
    obtain ⟨y, hy⟩ : ∃ y, xs[0]? = some y := ⟨_, List.getElem?_eq_getElem (by rw [hxl]; decide)⟩
    rw [hy] at hg1
    simp only [Value.cells] at hg1
    rcases slice_cell Try.underlying31 h0 with rfl | ⟨g, off, n, cap, rfl, h6, h7, h8⟩
    · exact ⟨none, 0, 0, at_, o, [], rfl, ⟨hb.1, by omega⟩, rfl, Nat.le_refl _, .inl rfl, by simp, fun _ => rfl⟩
    · obtain ⟨l, hl⟩ := open_nums Try.underlying31 Try.underlying5 (by kernel_rfl) hg1
      exact ⟨some ⟨g, off, none⟩, n, cap, at_, o, l, rfl, ⟨hb.1, by omega⟩, hl⟩

end Go.Proofs.Ytnbhphjpefagjaa
