/- Points: Best, Far, Copy, Same. -/
import Derived.Test.YtpnhmcgabnifdaaE
namespace Go.Proofs.Ytpnhmcgabnifdaa
open Go.RowKit

theorem best_low (l : List Int) (t : Int) (i : Nat) (hi : i ≤ l.length) (h1 : ∀ j, j < i → l[j]?.getD 0 < t) : ∀ k, k ≤ i → bestOf (l.take k) t = if k = 0 then -1 else l[k - 1]?.getD 0 := by
  intro k
  induction k with
  | zero => intro _; simp [bestOf]
  | succ k ih =>
    intro hk
    have := h1 k (by omega)
    rw [bestOf_succ l t k (by omega), if_pos (by omega)]
    simp

theorem best_high (l : List Int) (t : Int) (i : Nat) (hI : Inc l) (hi : i ≤ l.length) (h1 : ∀ j, j < i → l[j]?.getD 0 < t) (h2 : ∀ j, i ≤ j → j < l.length → t ≤ l[j]?.getD 0) :
    ∀ m, i + m ≤ l.length → bestOf (l.take (i + m)) t = if 0 < m ∧ l[i]?.getD 0 = t then t else if i = 0 then -1 else l[i - 1]?.getD 0 := by
  intro m
  induction m with
  | zero => intro _; simp [best_low l t i hi h1 i (Nat.le_refl _)]
  | succ m ih =>
    intro hm
    have ih := ih (by omega)
    rw [← Nat.add_assoc, bestOf_succ l t (i + m) (by omega), ih]
    have h3 := h2 (i + m) (by omega) (by omega)
    by_cases hm0 : m = 0
    · subst hm0
      simp only [Nat.add_zero] at *
      by_cases he : l[i]?.getD 0 = t
      · simp [he]
      · rw [if_neg (by omega)]
        simp [he]
    · have h4 := hI i (i + m) (by omega) (by omega)
      have h5 := h2 i (by omega) (by omega)
      rw [if_neg (by omega)]
      by_cases he : l[i]?.getD 0 = t
      · simp [he]; omega
      · simp [he]

theorem best_found (l : List Int) (t : Int) (i : Nat) (hI : Inc l) (hi : i ≤ l.length) (h1 : ∀ j, j < i → l[j]?.getD 0 < t) (h2 : ∀ j, i ≤ j → j < l.length → t ≤ l[j]?.getD 0) :
    bestOf l t = if i < l.length ∧ l[i]?.getD 0 = t then t else if i = 0 then -1 else l[i - 1]?.getD 0 := by
  have := best_high l t i hI hi h1 h2 (l.length - i) (by omega)
  rw [show i + (l.length - i) = l.length by omega, List.take_length] at this
  rw [this]
  by_cases h : i < l.length
  · simp [h, show 0 < l.length - i by omega]
  · simp [h, show ¬ 0 < l.length - i by omega]

theorem best_le (l : List Int) (t : Int) (hlo : ∀ j, j < l.length → 0 ≤ l[j]?.getD 0) : ∀ k, k ≤ l.length → -1 ≤ bestOf (l.take k) t ∧ (0 ≤ bestOf (l.take k) t → bestOf (l.take k) t ≤ t) := by
  intro k
  induction k with
  | zero => intro _; simp [bestOf]
  | succ k ih =>
    intro hk
    rw [bestOf_succ l t k (by omega)]
    have := hlo k (by omega)
    have := ih (by omega)
    split
    · exact ⟨by omega, fun _ => by omega⟩
    · exact this

theorem best_bd (l : List Int) (t : Int) (hlo : ∀ j, j < l.length → 0 ≤ l[j]?.getD 0) : -1 ≤ bestOf l t ∧ (0 ≤ bestOf l t → bestOf l t ≤ t) := by
  have := best_le l t hlo l.length (Nat.le_refl _)
  rwa [List.take_length] at this

def bestRes (B : Int) : Value := .tuple #[.int .i64 (max 0 B), .bool (decide (0 ≤ B))]

theorem ret_best {a : Int} {c : Bool} {B : Int} (h1 : a = max 0 B) (h2 : c = decide (0 ≤ B)) : Ending.returned (.tuple #[.int .i64 a, .bool c]) = .returned (bestRes B) := by
  subst h1; subst h2; rfl

theorem search_any {B : Nat} (v : Value) (l : List Int) (t : Int) (w : World) (h : Row B w v l) (hm : l.length ≤ 100000) (hI : Inc l) (hv : v ≠ .slice none 0 0) :
    Calls Try.prog 35 #[v, .int .i64 t] w (Found l t w) := by
  rcases h.shape with ⟨rfl, rfl⟩ | ⟨g, cap, rfl, _, _, hc⟩
  · exact (hv rfl).elim
  · exact search_loop g 0 cap l.length l t w (hid rfl) hm (hid hI) (hid (fun j hj => by rw [Nat.zero_add]; exact hc j hj))

set_option maxHeartbeats 400000 in
theorem search_nil (t : Int) (w : World) : Calls Try.prog 35 #[.slice none 0 0, .int .i64 t] w (Found [] t w) := by
  go_enter Try.func35, Try.ntmps35
  go_wp2
  refine wp_loop_once ?_
  go_wp2
  go_ret2
  exact ⟨0, by simp, by simp, by simp, rfl, rfl⟩

set_option maxHeartbeats 400000 in
theorem best_any {w : World} {b : Nat} {ev mo gn la : Int} {kv : Value} {l : List Int} (t : Int) (h : Pts w b ev mo kv l gn la) :
    Calls Try.prog 22 #[.pointer (some ⟨b, 0, none⟩), .int .i64 t] w fun e w' => e = .returned (bestRes (bestOf l t)) ∧ w = w' := by
  have h0 := h.c0
  have h2 := h.c2
  have hz := h.nz
  have hsh := h.row.shape
  have hlo := hid h.lo
  have hI := hid h.inc
  have hfew : l.length ≤ 4096 := by have := h.few; have := h.mo2; omega
  have HR := hid h.row
  clear h
  rcases hsh with ⟨rfl, rfl⟩ | ⟨g, cap, rfl, _, hg, hc⟩
  · go_enter Try.func22, Try.ntmps22
    go_wp2_with (first | (go_at_call 29; refine (none_some b ev _ h0 hz).mono ?_; rintro e w' ⟨rfl, rfl⟩))
    refine (search_nil t _).mono ?_
    rintro e w' ⟨i, hi, _, _, rfl, rfl⟩
    obtain rfl : i = 0 := by simpa using hi
    go_wp2
    go_ret2
    exact ⟨ret_best rfl rfl, rfl⟩
  · have HC := hid hc
    clear hc
    go_enter Try.func22, Try.ntmps22
    go_wp2_with (first | (go_at_call 29; refine (none_some b ev _ h0 hz).mono ?_; rintro e w' ⟨rfl, rfl⟩))
    refine (search_any _ l t _ HR.out (by omega) hI.out (by simp)).mono ?_
    rintro e w' ⟨i, hi, h1, h3, rfl, rfl⟩
    have HB := hid (best_found l t i hI.out hi h1 h3)
    clear h1 h3
    generalize hd : decide (i < l.length ∧ l[i]?.getD 0 = t) = c
    cases c with
    | true =>
      have hex := of_decide_eq_true hd
      have h5 := hlo.out i hex.1
      have HE := hid hex
      rw [hex.2] at h5
      clear hex hd
      go_wp2
      go_ret2
      refine ⟨ret_best ?_ ?_, rfl⟩
      · rw [HB.out, if_pos HE.out]; omega
      · rw [HB.out, if_pos HE.out]; simp; omega
    | false =>
      have HE := hid (of_decide_eq_false hd)
      clear hd
      by_cases h0i : i = 0
      · subst h0i
        go_wp2
        go_ret2
        refine ⟨ret_best ?_ ?_, rfl⟩
        · rw [HB.out, if_neg HE.out]; rfl
        · rw [HB.out, if_neg HE.out]; rfl
      · have hcell := HC.out (i - 1) (by omega)
        have h5 := hlo.out (i - 1) (by omega)
        have HX := hid h5
        have hi1 : 1 ≤ i := by omega
        have H0 := hid h0i
        have e1 : ((i : Int) == 0) = false := by simpa using h0i
        clear h0i h5
        go_wp2
        go_ret2
        refine ⟨ret_best ?_ ?_, rfl⟩
        · rw [HB.out, if_neg HE.out, if_neg H0.out]; have := HX.out; omega
        · rw [HB.out, if_neg HE.out, if_neg H0.out]; have := HX.out; simp; omega

set_option maxHeartbeats 400000 in
theorem best_nil (t : Int) (w : World) :
    Calls Try.prog 22 #[.pointer none, .int .i64 t] w fun e w' => e = .returned (.tuple #[.int .i64 0, .bool false]) ∧ w = w' := by
  go_enter Try.func22, Try.ntmps22
  go_wp2_with (go_at_call 29; refine (none_nil _).mono ?_; rintro e w' ⟨rfl, rfl⟩)
  go_ret2
  exact ⟨rfl, rfl⟩

set_option maxHeartbeats 400000 in
theorem far_nil (t : Int) (w : World) :
    Calls Try.prog 19 #[.pointer none, .int .i64 t] w fun e w' => e = .returned (.tuple #[.int .i64 0, .int .i64 1]) ∧ w = w' := by
  go_enter Try.func19, Try.ntmps19
  go_wp2_with (go_at_call 29; refine (none_nil _).mono ?_; rintro e w' ⟨rfl, rfl⟩)
  go_ret2
  exact ⟨rfl, rfl⟩

set_option maxHeartbeats 400000 in
theorem far_any {w : World} {b : Nat} {ev mo gn la : Int} {kv : Value} {l : List Int} (t : Int) (ht : t ≤ 9223372036854775807) (h : Pts w b ev mo kv l gn la) :
    Calls Try.prog 19 #[.pointer (some ⟨b, 0, none⟩), .int .i64 t] w fun e w' => e = .returned (if 0 ≤ bestOf l t then .tuple #[.int .i64 (t - bestOf l t), .int .i64 0] else .tuple #[.int .i64 0, .int .i64 5]) ∧ w = w' := by
  have h0 := h.c0
  have hz := h.nz
  have hb := best_bd l t h.lo
  have H := hid h
  clear h
  by_cases hp : 0 ≤ bestOf l t
  · rw [if_pos hp]
    have hle := hb.2 hp
    clear hb
    have hr : bestRes (bestOf l t) = .tuple #[.int .i64 (bestOf l t), .bool true] := by unfold bestRes; rw [decide_eq_true hp, Int.max_eq_right hp]
    have HC := fun w' (hw : w' = w) => best_any (w := w) t H.out
    rw [hr] at HC
    have HC := hid HC
    clear hr
    generalize bestOf l t = B at *
    go_enter Try.func19, Try.ntmps19
    go_wp2_with (first | (go_at_call 29; refine (none_some b ev _ h0 hz).mono ?_; rintro e w' ⟨rfl, rfl⟩) | (go_at_call 22; refine (HC.out w rfl).mono ?_; rintro e w' ⟨rfl, rfl⟩))
    go_ret2
    exact ⟨rfl, rfl⟩
  · rw [if_neg hp]
    have hr : bestRes (bestOf l t) = .tuple #[.int .i64 0, .bool false] := by unfold bestRes; rw [decide_eq_false hp, Int.max_eq_left (by omega)]
    have HC := fun w' (hw : w' = w) => best_any (w := w) t H.out
    rw [hr] at HC
    have HC := hid HC
    clear hr hb hp
    generalize bestOf l t = B at *
    go_enter Try.func19, Try.ntmps19
    go_wp2_with (first | (go_at_call 29; refine (none_some b ev _ h0 hz).mono ?_; rintro e w' ⟨rfl, rfl⟩) | (go_at_call 22; refine (HC.out w rfl).mono ?_; rintro e w' ⟨rfl, rfl⟩))
    go_ret2
    exact ⟨rfl, rfl⟩

end Go.Proofs.Ytpnhmcgabnifdaa
