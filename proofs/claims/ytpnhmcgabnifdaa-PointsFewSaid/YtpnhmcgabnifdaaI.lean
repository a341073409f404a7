/- Points: slices.Delete of one element. -/
import Derived.Test.YtpnhmcgabnifdaaE
import Derived.Deep.RegionLaw
namespace Go.Proofs.Ytpnhmcgabnifdaa
open Go.RowKit

theorem Try.zero3 (w : World) : (zeroValue 3).run Try.prog w = .ok (.int .i64 0) w := by kernel_rfl

/-- The numbers behind place i. -/
def movedL (l : List Int) (i : Nat) : List Value := (l.drop (i + 1)).map (Value.int .i64)
theorem movedL_length (l : List Int) (i : Nat) : (movedL l i).length = l.length - (i + 1) := by simp [movedL]
theorem movedL_get (l : List Int) (i j : Nat) (hj : j < l.length - (i + 1)) : (movedL l i)[j]? = some (.int .i64 (l[i + 1 + j]?.getD 0)) := by
  simp [movedL, show i + 1 + j < l.length by omega]

theorem isSome_setCells' (b : Nat) (vs : List Value) : ∀ (o : Nat) (w : World) (x : Addr), (w.cell? x).isSome = true → ((w.setCells b o vs).cell? x).isSome = true := by
  induction vs with
  | nil => intro o w x h; exact h
  | cons v vs ih =>
    intro o w x h
    refine ih _ _ _ ?_
    by_cases e : (⟨b, o, none⟩ : Addr) = x
    · subst e
      obtain ⟨u, hu⟩ := Option.isSome_iff_exists.1 h
      rw [World.cell?_setCell_same _ _ _ hu]; rfl
    · rw [World.cell?_setCell_other _ _ _ _ e]; exact h

theorem World.setCells_drew' (b : Nat) (vs : List Value) : ∀ (o : Nat) (w : World), w.drew.setCells b o vs = (w.setCells b o vs).drew := by
  induction vs with
  | nil => intro o w; rfl
  | cons v vs ih => intro o w; exact ih (o + 1) (w.setCell ⟨b, o, none⟩ v)

set_option maxRecDepth 1000000 in
set_option maxHeartbeats 1600000 in
theorem delete_walk (g cap n i : Nat) (l : List Int) (w : World) (HN : Hid (l.length = n)) (hi : i + 1 < n) (hl : n ≤ cap) (hn : n ≤ 100000) (hm : cap ≤ 9223372036854775807)
    (hc : ∀ j, j < n → w.cell? ⟨g, j, none⟩ = some (.int .i64 (l[j]?.getD 0))) (hf : ∀ j, w.frozen? ⟨g, j, none⟩ = false) :
    Calls Try.prog 33 #[.slice (some ⟨g, 0, none⟩) n cap, .int .i64 i, .int .i64 ((i : Int) + 1)] w fun e w' => e = .returned (.slice (some ⟨g, 0, none⟩) (n - 1) cap) ∧ w' = ((w.setCells g i (movedL l i)).setCell ⟨g, n - 1, none⟩ (.int .i64 0)).drew := by
  obtain ⟨i0, hi0, hz0, hz1, hz2⟩ := info_parts Try.info3
  have HI0 := hid hi0
  have HZ1 := hid hz1
  have hnews : Hid (∀ j u, (movedL l i)[j]? = some u → w.drew.cell? ((⟨g, i + 1, none⟩ : Addr).add j) = some u) := by
    intro j u hu
    have hj : j < l.length - (i + 1) := by
      have := (List.getElem?_eq_some_iff.1 hu).1
      rwa [movedL_length] at this
    rw [movedL_get l i j hj] at hu
    rw [Addr.add_lit]
    exact (hc (i + 1 + j) (by have := HN.out; omega)).trans hu
  have s1 : Hid ((movedL l i).length = (n - (i + 1)) * 1) := by rw [Nat.mul_one, ← HN.out]; exact movedL_length l i
  have s2 : Hid (∀ u ∈ movedL l i, u.oneCell' = true) := ints_oneCell _ _
  have s3 : Hid (∀ j, j < (movedL l i).length → (w.drew.cell? ⟨g, 0 + i * 1 + j, none⟩).isSome = true ∧ w.drew.frozen? ⟨g, 0 + i * 1 + j, none⟩ = false) := by
    intro j hj
    rw [movedL_length] at hj
    rw [Nat.mul_one, Nat.zero_add]
    exact ⟨by show (w.cell? _).isSome = true; rw [hc (i + j) (by have := HN.out; omega)]; rfl, hf (i + j)⟩
  have hic : i ≤ cap := by omega
  have e1 : ((i : Int) == (i : Int) + 1) = false := by simp; omega
  have hlast := hid (hc (n - 1) (by omega))
  have HF := hid hf
  clear hi0 hz0 hz1 hz2 hc hf
  have hne : ¬ cap = i + 1 := by omega
  have hp0 : (0 : Int) ≤ (i : Int) + 1 := by omega
  have hp1 : (i : Int) + 1 ≤ (n : Int) := by omega
  have hp2 : ((i : Int) + 1).toNat = i + 1 := by omega
  go_enter Try.func33, Try.ntmps33
  go_wp2_with fail
  go_region_law (refine step_append_room rfl (.tmp 22) (.tmp 25) 22 rfl 3 i0 1 Try.underlying22 HI0.out HZ1.out g 0 i cap (by simp [Act.eval, Act.put]) ⟨g, i + 1, none⟩ (n - (i + 1)) (cap - (i + 1)) (movedL l i) (by simp [Act.eval, Act.put]) s1.out hnews.out s2.out (by omega) s3.out ?_)
  have e2 : i + (n - (i + 1)) = n - 1 := by omega
  rw [e2]
  have hcl := Lib.run_clear_slice (P := Try.prog) (w.drew.setCells g i (movedL l i)) 22 3 0 (.int .i64 0) Try.underlying22 Try.zero3 rfl rfl g (n - 1) 1 (cap - (n - 1)) (by omega)
    (fun j hj => by
      obtain rfl : j = 0 := by omega
      refine isSome_setCells' g _ _ _ _ ?_
      show (w.cell? _).isSome = true
      rw [Nat.add_zero, hlast.out]; rfl)
    (fun j hj => by rw [World.frozen?_setCells]; exact HF.out _)
  have hne2 : ¬ cap = n - 1 := by omega
  have q0 : ((n : Int) - 1).toNat = n - 1 := by omega
  have q1 : ((n - 1 : Nat) : Int) ≤ (n : Int) := by omega
  have q2 : n - (n - 1) = 1 := by omega
  have q3 : n - 1 ≤ n := by omega
  simp only [List.replicate_one, World.setCells] at hcl
  have HW := hid (World.setCells_drew' g (movedL l i) i w)
  generalize w.drew.setCells g i (movedL l i) = W1 at *
  clear hne hp0 hp1 hp2 e1
  go_wp2
  go_ret
  refine ⟨rfl, ?_⟩
  rw [HW.out]
  rfl

theorem delete_any {B : Nat} (v : Value) (l : List Int) (i : Nat) (w : World) (h : Row B w v l) (hi : i + 1 < l.length) (hl : l.length ≤ 100000) :
    Calls Try.prog 33 #[v, .int .i64 i, .int .i64 ((i : Int) + 1)] w fun e w' => ∃ v', e = .returned v' ∧ Row B w' v' (l.eraseIdx i) ∧ v'.ownBlock = v.ownBlock ∧ Keeps (fun k => v.ownBlock = some k) w w' := by
  obtain ⟨h1, h2⟩ := h
  rcases h2 with ⟨hv, hn⟩ | ⟨g, cap, cur, hv, hb, hg, hnc, hcm, hcs, ht⟩
  · omega
  · subst hv
    have hrow : Row B w (.slice (some ⟨g, 0, none⟩) l.length cap) l := ⟨h1, .inr ⟨g, cap, cur, rfl, hb, hg, hnc, hcm, hcs, ht⟩⟩
    have hc : ∀ j, j < l.length → w.cell? ⟨g, j, none⟩ = some (.int .i64 (l[j]?.getD 0)) := by
      rcases hrow.shape with ⟨e, _⟩ | ⟨g', cap', e, _, _, hc⟩
      · cases e
      · cases e; exact hc
    refine (delete_walk g cap l.length i l w (hid rfl) hi hnc hl (by unfold maxLen at hcm; omega) hc (fun j => by simp [World.frozen?, hg])).mono ?_
    rintro e w' ⟨he, hw⟩
    subst hw
    have hkeep : Keeps (fun k => (some g : Option Nat) = some k) w ((w.setCells g i (movedL l i)).setCell ⟨g, l.length - 1, none⟩ (.int .i64 0)).drew :=
      ((Keeps.setCells (S := fun k => (some g : Option Nat) = some k) (g := g) (.inl rfl) _ _ (Keeps.refl _ w)).setCell (p := ⟨g, l.length - 1, none⟩) (.inl rfl) _).drew
    refine ⟨_, he, ?_, rfl, hkeep⟩
    obtain ⟨c1, e1, s1⟩ := heap_setCells_row (movedL l i) i w cur hg
    have e2 := heap_setCell_row (i := l.length - 1) (v := .int .i64 0) e1
    have hlen : (l.eraseIdx i).length = l.length - 1 := by rw [List.length_eraseIdx]; rw [if_pos (by omega)]
    suffices key : Row B ((w.setCells g i (movedL l i)).setCell ⟨g, l.length - 1, none⟩ (.int .i64 0)).drew (.slice (some ⟨g, 0, none⟩) (l.eraseIdx i).length cap) (l.eraseIdx i) by
      rw [Row, hlen] at key
      rw [Row, hlen]
      exact key
    refine row_of_cells hb (cur := c1.setIfInBounds (l.length - 1) (.int .i64 0)) e2 (by simp [s1, hcs]) (by omega) hcm ?_
    intro j hj
    rw [hlen] at hj
    show (((w.setCells g i (movedL l i)).setCell ⟨g, l.length - 1, none⟩ (.int .i64 0))).cell? _ = _
    rw [World.cell?_setCell_other _ _ _ _ (by intro e; cases e; omega)]
    rw [List.getElem?_eraseIdx]
    by_cases hji : j < i
    · rw [if_pos hji, World.cell?_setCells_out _ _ _ _ _ (fun _ _ => .inl hji)]
      exact hc j (by omega)
    · rw [if_neg hji]
      have hin := World.cell?_setCells_in g (movedL l i) i w (fun j' hj' => by rw [movedL_length] at hj'; rw [hc (i + j') (by omega)]; rfl) (j - i) (by rw [movedL_length]; omega)
      rw [show i + (j - i) = j by omega] at hin
      rw [hin]
      have hget := movedL_get l i (j - i) (by omega)
      rw [List.getElem?_eq_getElem (by rw [movedL_length]; omega)] at hget
      rw [Option.some.inj hget, show i + 1 + (j - i) = j + 1 by omega]

end Go.Proofs.Ytpnhmcgabnifdaa
