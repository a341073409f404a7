/- Points: the walks of the small functions. -/
import Derived.Test.YtpnhmcgabnifdaaRows
import Derived.Test.YtpnhmcgabnifdaaK
namespace Go.Proofs.Ytpnhmcgabnifdaa
open Go.RowKit

set_option maxHeartbeats 400000 in
theorem num_any (a : Int) (w : World) :
    Calls Try.prog 20 #[.int .i64 a] w fun e w' => e = .returned (.int .i64 a) ∧ w = w' := by
  go_enter Try.func20, Try.ntmps20
  go_wp2
  go_ret
  exact ⟨rfl, rfl⟩

set_option maxHeartbeats 400000 in
theorem none_some (b : Nat) (ev : Int) (w : World) (h0 : w.cell? ⟨b, 0, none⟩ = some (.int .i64 ev)) (h1 : (ev == 0) = false) :
    Calls Try.prog 29 #[.pointer (some ⟨b, 0, none⟩)] w fun e w' => e = .returned (.bool false) ∧ w = w' := by
  go_enter Try.func29, Try.ntmps29
  go_wp2
  go_ret
  exact ⟨rfl, rfl⟩

set_option maxHeartbeats 400000 in
theorem none_nil (w : World) :
    Calls Try.prog 29 #[.pointer none] w fun e w' => e = .returned (.bool true) ∧ w = w' := by
  go_enter Try.func29, Try.ntmps29
  go_wp2
  go_ret
  exact ⟨rfl, rfl⟩

set_option maxHeartbeats 400000 in
theorem gone_some (b : Nat) (ev gn : Int) (w : World) (h0 : w.cell? ⟨b, 0, none⟩ = some (.int .i64 ev)) (h1 : (ev == 0) = false) (h3 : w.cell? ⟨b, 3, none⟩ = some (.int .i64 gn)) :
    Calls Try.prog 21 #[.pointer (some ⟨b, 0, none⟩)] w fun e w' => e = .returned (.int .i64 gn) ∧ w = w' := by
  go_enter Try.func21, Try.ntmps21
  go_wp2_with (go_at_call 29; refine (none_some b ev _ h0 h1).mono ?_; rintro e w' ⟨rfl, rfl⟩)
  go_ret
  exact ⟨rfl, rfl⟩

set_option maxHeartbeats 400000 in
theorem gone_nil (w : World) :
    Calls Try.prog 21 #[.pointer none] w fun e w' => e = .returned (.int .i64 0) ∧ w = w' := by
  go_enter Try.func21, Try.ntmps21
  go_wp2_with (go_at_call 29; refine (none_nil _).mono ?_; rintro e w' ⟨rfl, rfl⟩)
  go_ret
  exact ⟨rfl, rfl⟩

set_option maxHeartbeats 400000 in
theorem last_some (b : Nat) (ev la : Int) (w : World) (h0 : w.cell? ⟨b, 0, none⟩ = some (.int .i64 ev)) (h1 : (ev == 0) = false) (h3 : w.cell? ⟨b, 4, none⟩ = some (.int .i64 la)) :
    Calls Try.prog 27 #[.pointer (some ⟨b, 0, none⟩)] w fun e w' => e = .returned (.tuple #[.int .i64 (max 0 la), .bool (decide (0 ≤ la))]) ∧ w = w' := by
  by_cases h : la < 0
  · have e1 : max 0 la = 0 := by omega
    have e2 : decide (0 ≤ la) = false := by simp; omega
    rw [e1, e2]
    clear e1 e2
    go_enter Try.func27, Try.ntmps27
    go_wp2_with (go_at_call 29; refine (none_some b ev _ h0 h1).mono ?_; rintro e w' ⟨rfl, rfl⟩)
    go_ret2
    exact ⟨rfl, rfl⟩
  · have e1 : max 0 la = la := by omega
    have e2 : decide (0 ≤ la) = true := by simp; omega
    rw [e1, e2]
    clear e1 e2
    go_enter Try.func27, Try.ntmps27
    go_wp2_with (go_at_call 29; refine (none_some b ev _ h0 h1).mono ?_; rintro e w' ⟨rfl, rfl⟩)
    go_ret2
    exact ⟨rfl, rfl⟩

set_option maxHeartbeats 400000 in
theorem last_nil (w : World) :
    Calls Try.prog 27 #[.pointer none] w fun e w' => e = .returned (.tuple #[.int .i64 0, .bool false]) ∧ w = w' := by
  go_enter Try.func27, Try.ntmps27
  go_wp2_with (go_at_call 29; refine (none_nil _).mono ?_; rintro e w' ⟨rfl, rfl⟩)
  go_ret2
  exact ⟨rfl, rfl⟩

/-- New, and the document's. -/
def okNew (ev mo : Int) : Prop := 1 ≤ ev ∧ ev ≤ 1073741824 ∧ 2 ≤ mo ∧ mo ≤ 4096

set_option maxHeartbeats 400000 in
theorem new_ok (ev mo : Int) (w : World) (h : okNew ev mo) :
    Calls Try.prog 16 #[.int .i64 ev, .int .i64 mo] w fun e w' => e = .returned (.tuple #[.pointer (some ⟨w.heap.size, 0, none⟩), .int .i64 0]) ∧
      w' = w.alloc (.cells #[.int .i64 ev, .int .i64 mo, .slice none 0 0, .int .i64 0, .int .i64 (-1)] 60) := by
  obtain ⟨h1, h2, h3, h4⟩ := h
  go_enter Try.func16, Try.ntmps16
  go_wp2
  go_ret2
  exact ⟨rfl, rfl⟩

set_option maxHeartbeats 400000 in
theorem new_no (ev mo : Int) (w : World) (h : ¬ okNew ev mo) :
    Calls Try.prog 16 #[.int .i64 ev, .int .i64 mo] w fun e w' => e = .returned (.tuple #[.pointer none, .int .i64 2]) ∧ w = w' := by
  unfold okNew at h
  by_cases h1 : 1 ≤ ev
  · by_cases h2 : ev ≤ 1073741824
    · by_cases h3 : 2 ≤ mo
      · have h4 : 4096 < mo := by omega
        clear h
        go_enter Try.func16, Try.ntmps16
        go_wp2
        go_ret2
        exact ⟨rfl, rfl⟩
      · clear h
        go_enter Try.func16, Try.ntmps16
        go_wp2
        go_ret2
        exact ⟨rfl, rfl⟩
    · clear h
      go_enter Try.func16, Try.ntmps16
      go_wp2
      go_ret2
      exact ⟨rfl, rfl⟩
  · clear h
    go_enter Try.func16, Try.ntmps16
    go_wp2
    go_ret2
    exact ⟨rfl, rfl⟩

set_option maxHeartbeats 400000 in
theorem refnew_ok (ev mo : Int) (w : World) (h : okNew ev mo) :
    Calls Try.prog 26 #[.int .i64 ev, .int .i64 mo] w fun e w' => e = .returned (.tuple #[.agg #[.int .i64 ev, .int .i64 mo, .slice none 0 0, .int .i64 0, .int .i64 (-1)], .int .i64 0]) ∧ Keeps No w w' := by
  obtain ⟨h1, h2, h3, h4⟩ := h
  go_enter Try.func26, Try.ntmps26
  go_wp2
  refine bodyPost_ret (v := .tuple #[.agg #[.int .i64 ev, .int .i64 mo, .slice none 0 0, .int .i64 0, .int .i64 (-1)], .int .i64 0]) (by simp [results, Try.results26, go_sem]) rfl ⟨rfl, ?_⟩
  exact (Keeps.refl _ _).alloc _

set_option maxHeartbeats 400000 in
theorem refnew_no (ev mo : Int) (w : World) (h : ¬ okNew ev mo) :
    Calls Try.prog 26 #[.int .i64 ev, .int .i64 mo] w fun e w' => e = .returned (.tuple #[.agg #[.int .i64 0, .int .i64 0, .slice none 0 0, .int .i64 0, .int .i64 0], .int .i64 2]) ∧ Keeps No w w' := by
  unfold okNew at h
  have key : (ev < 1 ∨ (1 ≤ ev ∧ 1073741824 < ev)) ∨ (1 ≤ ev ∧ ev ≤ 1073741824 ∧ (mo < 2 ∨ (2 ≤ mo ∧ 4096 < mo))) := by omega
  clear h
  rcases key with (h1 | ⟨h1, h2⟩) | ⟨h1, h2, (h3 | ⟨h3, h4⟩)⟩
  all_goals
    go_enter Try.func26, Try.ntmps26
    go_wp2
    refine bodyPost_ret (v := .tuple #[.agg #[.int .i64 0, .int .i64 0, .slice none 0 0, .int .i64 0, .int .i64 0], .int .i64 2]) (by simp [results, Try.results26, go_sem]) rfl ⟨rfl, ?_⟩
    exact (Keeps.refl _ _).alloc _

end Go.Proofs.Ytpnhmcgabnifdaa
