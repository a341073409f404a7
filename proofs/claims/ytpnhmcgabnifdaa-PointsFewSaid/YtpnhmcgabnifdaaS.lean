/- Points: the laws PointsComes, PointsRuns, PointsGoes. -/
import Derived.Test.YtpnhmcgabnifdaaR
import Derived.OpenShut
namespace Go.Proofs.Ytpnhmcgabnifdaa
open Go.RowKit

/-- A slice of numbers that came in. -/
theorem row_in {w : World} {a : Option Addr} {len cap : Nat} {zs : List Int} (h : (a = none ∧ len = 0 ∧ cap = 0 ∧ zs = []) ∨
    ∃ x, a = some x ∧ len ≤ cap ∧ cap ≤ maxLen ∧ zs.length = cap ∧ (∀ i, i < zs.length → w.cell? (x.add i) = some (.int .i64 (zs.getD i 0))) ∧ ∀ n ∈ zs, (Lit.int .i64 n).wf = true) :
    ∃ l : List Int, l.length = len ∧ IntsAt w a l ∧ ∀ n ∈ l, (Lit.int .i64 n).wf = true := by
  rcases h with ⟨rfl, rfl, rfl, rfl⟩ | ⟨x, rfl, h1, h2, h3, h4, h5⟩
  · exact ⟨[], rfl, .inl rfl, by simp⟩
  · refine ⟨zs.take len, by rw [List.length_take]; omega, ?_, fun n hn => h5 n (List.mem_of_mem_take hn)⟩
    by_cases h0 : len = 0
    · subst h0; exact .inl (by simp)
    · have hx := h4 0 (by omega)
      obtain ⟨b, off, sp⟩ := x
      have hsp : sp = none := by
        cases sp with
        | none => rfl
        | some y =>
          simp [Addr.add, World.cell?] at hx
          split at hx <;> simp at hx
      subst hsp
      refine .inr ⟨b, off, rfl, fun j hj => ?_⟩
      rw [List.length_take] at hj
      have := h4 j (by omega)
      rw [Addr.add_lit] at this
      rw [this, List.getElem?_take, if_pos (by omega)]
      rfl

theorem bd_of {l : List Int} (h : ∀ n ∈ l, (Lit.int .i64 n).wf = true) (j : Nat) : -9223372036854775808 ≤ l[j]?.getD 0 ∧ l[j]?.getD 0 ≤ 9223372036854775807 := by
  by_cases hj : j < l.length
  · have := bounds_i64 (h l[j] (List.getElem_mem hj))
    simp [hj]
    exact this
  · simp [hj]

set_option maxHeartbeats 1000000 in
theorem comes_law (ev mo : Int) (ta : Option Addr) (cap n : Nat) (l : List Int) (hn : Hid (l.length = n)) (w : World) (ht : IntsAt w ta l) :
    Calls Try.prog 3 #[.int .i64 ev, .int .i64 mo, .slice ta n cap] w fun e w' => e = .returned (.bool true) ∧ Keeps No w w' := by
  have HT := hid ht
  clear ht
  by_cases hok : okNew ev mo
  · have HOK := hid hok
    clear hok
    by_cases hl : (n : Int) ≤ 200
    · have hd : decide ((n : Int) ≤ 200) = true := by simpa using hl
      go_enter Try.func3, Try.ntmps3
      go_wp2_with (go_at_call 10; refine (small_yes ev mo _ _ _ _ HOK.out).mono ?_; rintro e w1 ⟨rfl, hk1⟩; have HK1 := hid hk1; clear hk1)
      refine (played_any ev mo ta cap n l hn w1 HOK.out (HT.out.keep HK1.out (fun _ _ e => e)) (by omega)).mono ?_
      rintro e w2 ⟨b, kv, wk, s, rfl, hb, _, _, _, hk2⟩
      obtain ⟨a', n', c', rfl⟩ := slice_form hb.ref
      have HK2 := hid (HK1.out.trans hk2)
      clear hb hk2 HK1
      go_wp2_with (go_at_call 11; refine (works_any _).mono ?_; rintro e w3 ⟨rfl, hk3⟩; have HK3 := hid hk3; clear hk3)
      go_ret
      exact ⟨rfl, (HK2.out.alloc _).trans HK3.out⟩
    · have hd : decide ((n : Int) ≤ 200) = false := by simpa using hl
      go_enter Try.func3, Try.ntmps3
      go_wp2_with (first | (go_at_call 10; refine (small_yes ev mo _ _ _ _ HOK.out).mono ?_; rintro e w1 ⟨rfl, hk1⟩; have HK1 := hid hk1; clear hk1) | (go_at_call 11; refine (works_any _).mono ?_; rintro e w3 ⟨rfl, hk3⟩; have HK3 := hid hk3; clear hk3))
      go_ret
      exact ⟨rfl, HK1.out.trans HK3.out⟩
  · have HOK := hid hok
    clear hok
    go_enter Try.func3, Try.ntmps3
    go_wp2_with (first | (go_at_call 10; refine (small_no ev mo _ _ HOK.out).mono ?_; rintro e w1 ⟨rfl, hk1⟩; have HK1 := hid hk1; clear hk1) | (go_at_call 11; refine (works_any _).mono ?_; rintro e w3 ⟨rfl, hk3⟩; have HK3 := hid hk3; clear hk3))
    go_ret
    exact ⟨rfl, HK1.out.trans HK3.out⟩

end Go.Proofs.Ytpnhmcgabnifdaa
