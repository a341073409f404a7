/- Log: a slice of numbers that came in; the sums. -/
import Derived.Test.YtnbhphjpefagjaaZm
namespace Go.Proofs.Ytnbhphjpefagjaa
open Go.RowKit

/-- A slice of numbers that came in. -/
theorem row_in {k : IntKind} {w : World} {a : Option Addr} {len cap : Nat} {zs : List Int} (h : (a = none ∧ len = 0 ∧ cap = 0 ∧ zs = []) ∨
    ∃ x, a = some x ∧ len ≤ cap ∧ cap ≤ maxLen ∧ zs.length = cap ∧ (∀ i, i < zs.length → w.cell? (x.add i) = some (.int k (zs.getD i 0))) ∧ ∀ n ∈ zs, (Lit.int k n).wf = true) :
    ∃ l : List Int, l.length = len ∧ len ≤ cap ∧ cap ≤ 9223372036854775807 ∧ NumsAt k w a l ∧ (∀ n ∈ l, (Lit.int k n).wf = true) ∧ (0 < len → ∀ p, a = some p → p.block < w.heap.size) := by
  rcases h with ⟨rfl, rfl, rfl, rfl⟩ | ⟨x, rfl, h1, h2, h3, h4, h5⟩
  · exact ⟨[], rfl, Nat.le_refl _, by omega, .inl rfl, by simp, fun h => by omega⟩
  · have hm : cap ≤ 9223372036854775807 := h2
    refine ⟨zs.take len, by rw [List.length_take]; omega, h1, hm, ?_, fun n hn => h5 n (List.mem_of_mem_take hn), ?_⟩
    · by_cases h0 : len = 0
      · subst h0; exact .inl (by simp)
      · have hx := h4 0 (by omega)
        obtain ⟨b, off, sp⟩ := x
        have hsp : sp = none := by
          cases sp with
          | none => rfl
          | some y =>
            simp [Addr.add, World.cell?] at hx
            split at hx <;> simp at hx
        subst hsp
        refine .inr ⟨b, off, rfl, fun j hj => ?_⟩
        rw [List.length_take] at hj
        have := h4 j (by omega)
        rw [Addr.add_lit] at this
        rw [this]
        simp [List.getD, show j < len by omega]
    · intro h0 p hp
      cases hp
      have := World.block_lt_of_cell? _ _ (h4 0 (by omega))
      exact this

theorem bytes_in {l : List Int} (h : ∀ n ∈ l, (Lit.int .u8 n).wf = true) : Bytes l := bytes_iff.2 fun x hx => by
  have := h x hx
  simp [Lit.wf, IntKind.min, IntKind.max, IntKind.signed, IntKind.bits] at this
  omega

set_option maxRecDepth 100000 in
set_option maxHeartbeats 1000000 in
theorem sums_law (a : Option Addr) (cap n : Nat) (bs : List Int) (w : World) (HN : Hid (bs.length = n)) (HA : Hid (NumsAt .u8 w a bs)) (HB : Hid (Bytes bs)) :
    Calls Try.prog 7 #[.slice a n cap] w fun e w' => e = .returned (.bool true) ∧ Keeps No w w' := by
  have HW := hid (fun W => works_any W)
  by_cases hm : n ≤ 3000
  · have HS := hid (fun W (hk : Keeps No w W) => sum_any a cap n bs W HN (by omega) (hid (HA.out.keep hk (fun _ _ e => e))) HB)
    have HR := hid (fun W (hk : Keeps No w W) => refsum_any a cap n bs W HN (by omega) (hid (HA.out.keep hk (fun _ _ e => e))) HB)
    go_enter Try.func7, Try.ntmps7
    go_wp2_with fail
    refine (HS.out _ (Keeps.refl No _)).mono ?_
    rintro e w1 ⟨rfl, rfl⟩
    go_wp2_with fail
    refine (HR.out _ (Keeps.refl No _)).mono ?_
    rintro e w1 ⟨rfl, h1⟩
    first | subst h1 | (obtain ⟨m, rfl⟩ := h1)
    go_wp2_with fail
    refine (HW.out _).mono ?_
    rintro e w2 ⟨rfl, h2⟩
    go_wp2_with fail
    go_ret
    exact ⟨rfl, h2⟩
  · go_enter Try.func7, Try.ntmps7
    go_wp2_with fail
    refine (HW.out _).mono ?_
    rintro e w2 ⟨rfl, h2⟩
    go_wp2_with fail
    go_ret
    exact ⟨rfl, h2⟩

end Go.Proofs.Ytnbhphjpefagjaa
