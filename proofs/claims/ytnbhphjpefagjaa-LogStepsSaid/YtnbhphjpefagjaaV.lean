/- Log: Turns. -/
import Derived.Test.YtnbhphjpefagjaaU
namespace Go.Proofs.Ytnbhphjpefagjaa
open Go.RowKit

def turnsOf (zs : List Int) : List (Int × Int) := zs.foldl stepT []
def allIn (zs : List Int) : Prop := ∀ z ∈ zs, 0 ≤ z ∧ z ≤ 7

theorem turnsOf_succ (zs : List Int) (k : Nat) (hk : k < zs.length) : turnsOf (zs.take (k + 1)) = stepT (turnsOf (zs.take k)) (zs[k]?.getD 0) := by
  unfold turnsOf
  rw [List.take_succ_eq_append_getElem hk, List.foldl_append]
  simp [hk]

def TurnsPost (zs : List Int) (w : World) (e : Ending) (w' : World) : Prop :=
  Keeps No w w' ∧ (allIn zs → ∃ a c, e = .returned (.tuple #[.slice a (turnsOf zs).length c, .int .i64 0]) ∧ TRow (w.heap.size + 1) w' (.slice a (turnsOf zs).length c) (turnsOf zs)) ∧
  (¬ allIn zs → e = .returned (.tuple #[.slice none 0 0, .int .i64 2]))

set_option maxHeartbeats 2000000 in
theorem turns_any (a : Option Addr) (cap n : Nat) (zs : List Int) (w : World) (HN : Hid (zs.length = n)) (hm : n ≤ 60000) (HA : Hid (NumsAt .i64 w a zs)) :
    Calls Try.prog 23 #[.slice a n cap] w (TurnsPost zs w) := by
  have hmf : ∀ (fn : Fn) (first cap : Array Value) (w : World), (Instr.makeFunc fn first cap).run Try.prog w = .ok (.func fn first cap) w := fun _ _ _ _ => rfl
  have hb0 : TBox (w.heap.size + 1) (w.alloc (.cells #[.slice none 0 0] 23)) w.heap.size [] := ⟨none, 0, heap_alloc_new w _, World.ownsRow_nil _ _ _ _, fun p hp => by cases hp⟩
  have hz0 : w.heap.size + 1 ≤ (w.alloc (.cells #[.slice none 0 0] 23)).heap.size := by simp
  have HB0 := hid hb0
  have HZ0 := hid hz0
  have HK0 := hid ((Keeps.refl No w).alloc (.cells #[.slice none 0 0] 23))
  clear hb0 hz0
  go_enter Try.func23, Try.ntmps23
  go_wp2_with fail
  go_loopw [11] (fun i wr => ∃ k : Nat, k ≤ n ∧ i = .int .i64 k ∧ (∀ z ∈ zs.take k, 0 ≤ z ∧ z ≤ 7) ∧ TBox (w.heap.size + 1) wr w.heap.size (turnsOf (zs.take k)) ∧ Few k (turnsOf (zs.take k)) ∧ w.heap.size + 1 ≤ wr.heap.size ∧ Keeps No w wr) (fun i _ => n - (intOf i).toNat)
  case atStart => exact ⟨0, Nat.zero_le _, rfl, by simp, HB0.out, ⟨by simp [turnsOf], by simp [turnsOf]⟩, HZ0.out, HK0.out⟩
  case round =>
    obtain ⟨k, hk, rfl, hall, hbx, hfew, hsz, hkk⟩ := hrel
    have HALL := hid hall
    have HBX := hid hbx
    have HFEW := hid hfew
    have HKK := hid hkk
    clear hall hbx hfew hkk
    by_cases hlt : k < n
    · obtain ⟨g, off, rfl, hc⟩ := HA.out.resolve_left (by rintro rfl; have := HN.out; simp at this; omega)
      have x1 := HKK.out.cellS (p := ⟨g, off + k, none⟩) (hc k (by rw [HN.out]; exact hlt)) (fun e => e)
      have HS := hid (turnsOf_succ zs k (by rw [HN.out]; exact hlt))
      have hmem : zs[k]?.getD 0 ∈ zs := by have h : k < zs.length := (by rw [HN.out]; exact hlt); simp [h]
      have HMEM := hid hmem
      have htk : Hid (zs.take (k + 1) = zs.take k ++ [zs[k]?.getD 0]) := hid (by have h : k < zs.length := (by rw [HN.out]; exact hlt); rw [List.take_succ_eq_append_getElem h]; simp [h])
      clear hc hmem
      generalize zs[k]?.getD 0 = t at *
      have hw := hid (fun W => within_int t 0 7 W)
      generalize hb : inB t 0 7 = b at *
      have HBB := hid hb
      clear hb
      cases b with
      | false =>
        go_wp2_with fail
        refine (hw.out _).mono ?_
        rintro e w' ⟨rfl, rfl⟩
        go_wp2_with fail
        go_ret2
        refine ⟨HKK.out, fun h => ?_, fun _ => rfl⟩
        have := h t HMEM.out
        have h2 := HBB.out
        simp [inB] at h2
        omega
      | true =>
        have hst := hid (tstep_any w.heap.size t k (by omega) (turnsOf (zs.take k)) HFEW.out wr hsz HBX.out)
        go_wp2_with fail
        refine (hw.out _).mono ?_
        rintro e w' ⟨rfl, rfl⟩
        go_wp2_with fail
        refine hst.out.mono ?_
        rintro e w2 ⟨rfl, hb2, hk2⟩
        have HB2 := hid hb2
        have HK2 := hid (HKK.out.trans' (T := No) hk2 (fun _ h => h) (fun i hi h => by omega))
        have hs2 := hk2.size
        clear hb2 hk2
        go_wp2_with fail
        go_roundw
        case rel =>
          refine ⟨k + 1, by omega, by go_num, ?_, by rw [HS.out]; exact HB2.out, by rw [HS.out]; exact stepT_few HFEW.out t, by omega, HK2.out⟩
          rw [htk.out]
          intro z hz
          rcases List.mem_append.1 hz with h | h
          · exact HALL.out z h
          · simp at h
            subst h
            have h2 := HBB.out
            simpa [inB] using h2
        case measure => simp [intOf]; omega
    · obtain rfl : k = n := by omega
      have hzt : zs.take zs.length = zs := List.take_length
      rw [← HN.out] at HBX HFEW HALL
      rw [hzt] at HBX HFEW HALL
      obtain ⟨a2, c2, hh, hr, _⟩ := HBX.out
      have q0 : wr.cell? ⟨w.heap.size, 0, none⟩ = some (.slice a2 (turnsOf zs).length c2) := by rw [cell_of_row wr _ _ _ _ _ hh]; rfl
      have hfl := HFEW.out.1
      have hzl := HN.out
      have HR := hid hr
      have qd : decide (65536 < (turnsOf zs).length) = false := by simp; omega
      clear hh hr hzt
      generalize hL : (turnsOf zs).length = L at *
      go_wp2_with fail
      go_ret2
      refine ⟨HKK.out, fun _ => ⟨a2, c2, by rw [hL]; rfl, by rw [hL]; exact HR.out⟩, fun h => (h HALL.out).elim⟩

end Go.Proofs.Ytnbhphjpefagjaa
