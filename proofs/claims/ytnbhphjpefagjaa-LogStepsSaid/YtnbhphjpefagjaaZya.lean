/- Log: there and back: facts for the walk. -/
import Derived.Test.YtnbhphjpefagjaaZx
import Derived.Test.YtnbhphjpefagjaaZu
import Derived.Test.YtnbhphjpefagjaaZr
import Derived.Test.YtnbhphjpefagjaaZz
namespace Go.Proofs.Ytnbhphjpefagjaa
open Go.RowKit Go.Shelf

/-- The boxes of LogBack. -/
def BSt (w : World) (A0 A2 : Array Value) (W : World) : Prop :=
  Keeps No w W ∧ W.heap[w.heap.size]? = some (.cells A0 29 (0, 0)) ∧ W.heap[w.heap.size + 1 + 1]? = some (.cells A2 63 (0, 0)) ∧ W.heap[w.heap.size + 1 + 1 + 1]? = some (.cells #[.bool false] 4 (0, 0))

theorem BSt.keep {w W W' : World} {A0 A2 : Array Value} (h : BSt w A0 A2 W) (hk : Keeps No W W') : BSt w A0 A2 W' := ⟨h.1.trans hk, box_in h.2.1 hk, box_in h.2.2.1 hk, box_in h.2.2.2 hk⟩

theorem rot_cells {W : World} {b : Nat} {v0 v1 v2 : Value} {e : TypeId} {f : Nat × Nat} (h : W.heap[b]? = some (.cells #[v0, v1, v2] e f)) : W.cell? ⟨b, 0, none⟩ = some v0 ∧ W.cell? ⟨b, 1, none⟩ = some v1 ∧ W.cell? ⟨b, 2, none⟩ = some v2 := by
  refine ⟨?_, ?_, ?_⟩ <;> (rw [cell_of_row W b _ _ _ _ h]; rfl)

theorem num_cell {k : IntKind} {W : World} {g : Nat} {l : List Int} (h : NumsAt k W (some ⟨g, 0, none⟩) l) (j : Nat) (hj : j < l.length) : W.cell? ⟨g, j, none⟩ = some (.int k (l[j]?.getD 0)) := by
  obtain ⟨g', off, he, hc⟩ := h.resolve_left (by rintro rfl; simp at hj)
  cases he
  have := hc j hj
  rwa [Nat.zero_add] at this

theorem bytes_set {l : List Int} (h : Bytes l) (j : Nat) {c : Int} (hc : 0 ≤ c ∧ c < 256) : Bytes (l.set j c) := bytes_iff.2 fun x hx => by
  rcases List.mem_or_eq_of_mem_set hx with hx | rfl
  · exact bytes_iff.1 h x hx
  · exact hc

theorem enc_bytes {h k tr th st : Int} {l : List (Int × Int)} (h0 : 0 ≤ h) (h1 : h < 4294967296) (hl : l.length ≤ 500) (ho : okB l k tr th st = true) : Hid (Bytes (encM h l k tr th st)) ∧ Hid ((encM h l k tr th st).length ≤ 50000) := by
  obtain ⟨_, b1, b2, b3, b4, b5⟩ := okB_bd ho
  unfold okB at ho
  rw [Bool.and_eq_true] at ho
  refine ⟨hid (sumL_bytes (bytes_body h0 h1 ho.2 (by omega) b1 b2 b3 ⟨b4, by omega⟩)), hid ?_⟩
  have q1 := encTurns_len l
  have q2 := encN_len (l.length : Nat)
  have q3 := encN_len st
  simp only [encM, encBody, List.length_append, List.length_cons, List.length_nil, le4_len]
  omega

theorem encTurns_len2 (l : List (Int × Int)) : l.length * 2 ≤ (encTurns l).length := by
  induction l with
  | nil => simp
  | cons x l ih => rw [encTurns_cons]; have := encN_pos' x.2; simp; omega

theorem turnsOf_few (zs : List Int) : Few zs.length (turnsOf zs) := by
  have := foldl_few zs 0 [] ⟨by simp, by simp⟩
  rwa [Nat.zero_add] at this

theorem flat_at {L : List (Int × Int)} {zs : List Int} (h : flat L = zs) {pre : List (Nat × Int)} {x : Nat × Int} (hp : pre ++ [x] <+: seqV L) : zs[pre.length]?.getD 0 = x.2 := by
  obtain ⟨r, hr⟩ := hp
  rw [← h, ← seqV_flat, ← hr]
  simp

theorem flat_len {L : List (Int × Int)} {zs : List Int} (h : flat L = zs) : (seqV L).length = zs.length := by
  rw [← h, ← seqV_flat]
  simp

end Go.Proofs.Ytnbhphjpefagjaa
