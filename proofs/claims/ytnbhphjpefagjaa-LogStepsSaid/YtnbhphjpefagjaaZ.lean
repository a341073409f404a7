/- Log: the bytes of an encoding are bytes (no program in sight). -/
import Derived.Test.YtnbhphjpefagjaaH
namespace Go.Proofs.Ytnbhphjpefagjaa

theorem bytes_iff {l : List Int} : Bytes l ↔ ∀ x ∈ l, 0 ≤ x ∧ x < 256 := by
  constructor
  · intro h x hx
    obtain ⟨j, hj⟩ := List.getElem?_of_mem hx
    have := h j
    rw [hj] at this
    exact this
  · intro h j
    cases hj : l[j]? with
    | none => simp
    | some x => exact h x (List.mem_of_getElem? hj)

theorem bytes_append {a b : List Int} : Bytes (a ++ b) ↔ Bytes a ∧ Bytes b := by
  simp only [bytes_iff, List.mem_append]
  exact ⟨fun h => ⟨fun x hx => h x (.inl hx), fun x hx => h x (.inr hx)⟩, fun h x hx => hx.elim (h.1 x) (h.2 x)⟩

theorem bytes_cons {x : Int} {l : List Int} : Bytes (x :: l) ↔ (0 ≤ x ∧ x < 256) ∧ Bytes l := by
  simp [bytes_iff]

theorem bytes_le4 {n : Int} (h0 : 0 ≤ n) (h1 : n < 4294967296) : Bytes (le4 n) := by
  simp only [le4, bytes_cons]
  refine ⟨by omega, by omega, by omega, by omega, bytes_iff.2 (by simp)⟩

theorem bytes_encF : ∀ (f : Nat) (n : Int), 0 ≤ n → n < (128 : Int) ^ f * 256 → Bytes (encF f n) := by
  intro f
  induction f with
  | zero =>
    intro n h0 h1
    simp only [encF, bytes_cons]
    simp only [Int.pow_zero] at h1
    exact ⟨by omega, bytes_iff.2 (by simp)⟩
  | succ f ih =>
    intro n h0 h1
    unfold encF
    split
    · simp only [bytes_cons]
      exact ⟨by omega, bytes_iff.2 (by simp)⟩
    · rw [bytes_cons]
      refine ⟨by omega, ih _ (by omega) ?_⟩
      rw [Int.pow_succ] at h1
      have h2 : n < (128 : Int) ^ f * 256 * 128 := by
        rw [show (128 : Int) ^ f * 256 * 128 = (128 : Int) ^ f * 128 * 256 by rw [Int.mul_assoc, Int.mul_assoc]; rfl]
        exact h1
      generalize (128 : Int) ^ f * 256 = z at h2 ⊢
      omega

theorem bytes_encN {n : Int} (h0 : 0 ≤ n) (h1 : n ≤ 9223372036854775807) : Bytes (encN n) := bytes_encF 9 n h0 (by rw [show (128 : Int) ^ 9 = 9223372036854775808 by decide]; omega)

theorem bytes_encTurns {l : List (Int × Int)} (h : ∀ x ∈ l, 0 ≤ x.1 ∧ x.1 < 256 ∧ 0 ≤ x.2 ∧ x.2 ≤ 9223372036854775807) : Bytes (encTurns l) := by
  unfold encTurns
  rw [bytes_iff]
  intro y hy
  obtain ⟨x, hx, hy⟩ := List.mem_flatMap.1 hy
  obtain ⟨a, b, c, d⟩ := h x hx
  rcases List.mem_cons.1 hy with rfl | hy
  · exact ⟨a, b⟩
  · exact bytes_iff.1 (bytes_encN c d) y hy

theorem chk_mem {l : List (Int × Int)} (h : chk 0 (-1) l = true) : ∀ x ∈ l, 0 ≤ x.1 ∧ x.1 ≤ 7 ∧ 1 ≤ x.2 ∧ x.2 ≤ 2147483647 := by
  intro x hx
  obtain ⟨j, hj⟩ := List.getElem?_of_mem hx
  have := chk_elems l 0 (-1) (by omega) h j (by have := List.getElem?_eq_some_iff.1 hj; exact this.1)
  rw [hj] at this
  exact this

theorem bytes_body {h k tr th st : Int} {l : List (Int × Int)} (h0 : 0 ≤ h) (h1 : h < 4294967296) (hc : chk 0 (-1) l = true) (hn : l.length ≤ 100000) (hk : 0 ≤ k ∧ k < 256) (ht : 0 ≤ tr ∧ tr < 256) (hh : 0 ≤ th ∧ th < 256) (hs : 0 ≤ st ∧ st ≤ 9223372036854775807) : Bytes (encBody h l k tr th st) := by
  unfold encBody
  simp only [bytes_append, bytes_cons]
  refine ⟨⟨⟨⟨⟨?_, bytes_le4 h0 h1⟩, bytes_encN (by omega) (by omega)⟩, bytes_encTurns fun x hx => by have := chk_mem hc x hx; omega⟩, hk, ht, hh, bytes_iff.2 (by simp)⟩, bytes_encN hs.1 hs.2⟩
  exact ⟨by omega, by omega, by omega, by omega, bytes_iff.2 (by simp)⟩

end Go.Proofs.Ytnbhphjpefagjaa
