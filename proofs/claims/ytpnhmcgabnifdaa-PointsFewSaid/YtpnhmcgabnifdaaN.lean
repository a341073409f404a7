/- Points: the document's Come. -/
import Derived.Test.YtpnhmcgabnifdaaM
import Derived.Laws.AppendOwnNone
namespace Go.Proofs.Ytpnhmcgabnifdaa
open Go.RowKit

/-- The document's points, as a value. -/
abbrev RefV (ev mo : Int) (kv : Value) (gn la : Int) : Value := .agg #[.int .i64 ev, .int .i64 mo, kv, .int .i64 gn, .int .i64 la]

def RefCame (ev mo : Int) (kv : Value) (w : World) (r : St × Bool × Int × Int) (e : Ending) (w' : World) : Prop :=
  ∃ kv', e = .returned (.tuple #[RefV ev mo kv' r.1.gn r.1.la, .bool r.2.1, .int .i64 r.2.2.1, .int .i64 r.2.2.2]) ∧ Row 0 w' kv' r.1.l ∧ Keeps No w w' ∧ (∀ k, kv'.ownBlock = some k → kv.ownBlock = some k ∨ w.heap.size ≤ k)

/-- A slice value, nil or not, as it is written out. -/
theorem slice_form {B : Nat} {w : World} {v : Value} {l : List Int} (h : Row B w v l) : ∃ a n c, v = .slice a n c := by
  rcases h.shape with ⟨rfl, _⟩ | ⟨g, cap, rfl, _⟩
  · exact ⟨_, _, _, rfl⟩
  · exact ⟨_, _, _, rfl⟩

set_option maxHeartbeats 400000 in
theorem refcome_arg {w : World} {ev mo gn la : Int} {a : Option Addr} {n c : Nat} {l : List Int} (t : Int) (hr : Row 0 w (.slice a n c) l) (ht : t < 0 ∨ (0 ≤ t ∧ 1099511627776 < t) ∨ (0 ≤ t ∧ t ≤ 1099511627776 ∧ t ≤ la)) :
    Calls Try.prog 15 #[RefV ev mo (.slice a n c) gn la, .int .i64 t] w (RefCame ev mo (.slice a n c) w (⟨l, gn, la⟩, false, 0, 2)) := by
  have HR := hid hr
  clear hr
  rcases ht with ht | ⟨ht, ht2⟩ | ⟨ht, ht2, ht3⟩
  all_goals
    go_enter Try.func15, Try.ntmps15
    go_wp2
    refine bodyPost_ret (v := .tuple #[RefV ev mo (.slice a n c) gn la, .bool false, .int .i64 0, .int .i64 2]) (by simp [results, Try.results15, go_sem]) rfl ⟨.slice a n c, rfl, ?_, ?_, fun k hk => .inl hk⟩
    · exact (((Keeps.refl No w).alloc _).alloc _).row HR.out (fun _ _ e => e)
    · exact ((Keeps.refl No w).alloc _).alloc _

set_option maxHeartbeats 400000 in
theorem refcome_not {w : World} {ev mo gn la : Int} {a : Option Addr} {n c : Nat} {l : List Int} (t : Int) (hr : Row 0 w (.slice a n c) l) (he1 : 1 ≤ ev) (he2 : ev ≤ 1073741824) (ht1 : 0 ≤ t) (ht2 : t ≤ 1099511627776) (ht3 : la < t) (hq : (t % ev == 0) = false) :
    Calls Try.prog 15 #[RefV ev mo (.slice a n c) gn la, .int .i64 t] w (RefCame ev mo (.slice a n c) w (⟨l, gn, t⟩, false, -1, 0)) := by
  have HR := hid hr
  have hq2 : (t % ev != 0) = true := by simpa using hq
  clear hr
  go_enter Try.func15, Try.ntmps15
  go_wp2
  refine bodyPost_ret (v := .tuple #[RefV ev mo (.slice a n c) gn t, .bool false, .int .i64 (-1), .int .i64 0]) (by simp [results, Try.results15, go_sem]) rfl ⟨.slice a n c, rfl, ?_, ?_, fun k hk => .inl hk⟩
  · exact (((Keeps.refl No w).alloc _).alloc _).row HR.out (fun _ _ e => e)
  · exact ((Keeps.refl No w).alloc _).alloc _

/-- Behind the appends: the boxed points and the result's box; a time more is kept, in a row of its own. -/
def RefApp (w : World) (ev mo gn t : Int) (l' : List Int) (wx : World) : Prop :=
  ∃ g cap, wx.heap[w.heap.size]? = some (.cells #[.int .i64 ev, .int .i64 mo, .slice (some ⟨g, 0, none⟩) l'.length cap, .int .i64 gn, .int .i64 t] 27 (0, 0)) ∧
    wx.heap[w.heap.size + 1]? = some (.cells #[.int .i64 0, .int .i64 0, .slice none 0 0, .int .i64 0, .int .i64 0] 27 (0, 0)) ∧ Row (w.heap.size + 2) wx (.slice (some ⟨g, 0, none⟩) l'.length cap) l' ∧ Keeps No w wx

theorem refapp_of {w W1 w1 : World} {ev mo gn t : Int} {kv v : Value} {l : List Int} (hs : W1.heap.size = w.heap.size + 2)
    (hb0 : W1.heap[w.heap.size]? = some (.cells #[.int .i64 ev, .int .i64 mo, kv, .int .i64 gn, .int .i64 t] 27 (0, 0)))
    (hb1 : W1.heap[w.heap.size + 1]? = some (.cells #[.int .i64 0, .int .i64 0, .slice none 0 0, .int .i64 0, .int .i64 0] 27 (0, 0))) (hk : Keeps No w W1)
    (hk1 : Keeps No W1 w1) {g cap : Nat} {w2 : World} (hown : w2.ownsRow (w.heap.size + 2) 3 1 (.slice (some ⟨g, 0, none⟩) (l.length + 1) cap) (l.length + 1) (l.map (Value.int .i64) ++ [.int .i64 t]))
    (hg : (w1.alloc (.cells #[.int .i64 t] 3)).grownBy w2 v.ownBlock) (hv : ∀ k, v.ownBlock = some k → w.heap.size + 2 ≤ k) :
    RefApp w ev mo gn t (l ++ [t]) (w2.setCell ⟨w.heap.size, 2, none⟩ (.slice (some ⟨g, 0, none⟩) (l.length + 1) cap)) := by
  have hK : Keeps No W1 w2 := (hk1.alloc _).grown hg (fun k hk => .inr (by have := hv k hk; omega))
  have h0 := (hK.block _ (by omega) (fun e => e)).trans hb0
  have h1 := (hK.block _ (by omega) (fun e => e)).trans hb1
  have hlen : (l ++ [t]).length = l.length + 1 := by simp
  have hgb := (hown.lt g rfl).1
  refine ⟨g, cap, ?_, ?_, ?_, ?_⟩
  · rw [hlen]; exact heap_setCell_row h0
  · rw [Below.heap_setCell _ _ _ _ (by simp)]; exact h1
  · rw [Row, hlen, List.map_append]
    exact (Keeps.set_at w2 w.heap.size 2 _).row hown (fun k hk => by cases hk; show ¬ g = w.heap.size; omega)
  · exact (hk.trans hK).setCell (p := ⟨w.heap.size, 2, none⟩) (.inr (Nat.le_refl _)) _

theorem heap_set5 {w : World} {b : Nat} {a0 a1 a2 a3 a4 : Value} {e : TypeId} {f : Nat × Nat} (h : w.heap[b]? = some (.cells #[a0, a1, a2, a3, a4] e f)) (x0 x1 x2 x3 x4 : Value) :
    (((((w.setCell ⟨b, 0, none⟩ x0).setCell ⟨b, 1, none⟩ x1).setCell ⟨b, 2, none⟩ x2).setCell ⟨b, 3, none⟩ x3).setCell ⟨b, 4, none⟩ x4).heap[b]? = some (.cells #[x0, x1, x2, x3, x4] e f) :=
  heap_setCell_row (heap_setCell_row (heap_setCell_row (heap_setCell_row (heap_setCell_row h))))

/-- A box of five cells is loaded. -/
theorem five_cells {w : World} {b : Nat} {a0 a1 a2 a3 a4 : Value} {e : TypeId} {f : Nat × Nat} (h : w.heap[b]? = some (.cells #[a0, a1, a2, a3, a4] e f)) :
    w.cell? ⟨b, 0, none⟩ = some a0 ∧ w.cell? ⟨b, 1, none⟩ = some a1 ∧ w.cell? ⟨b, 2, none⟩ = some a2 ∧ w.cell? ⟨b, 3, none⟩ = some a3 ∧ w.cell? ⟨b, 4, none⟩ = some a4 := by
  refine ⟨?_, ?_, ?_, ?_, ?_⟩ <;> (rw [cell_of_row w b _ _ _ _ h]; rfl)

/-- The answer in its box. -/
theorem refend {w W' : World} {ev mo gn t x y : Int} {kv : Value} {g n' cap' : Nat} {k : Bool} {l' : List Int} {tmps : Array Value} (h4 : tmps[4]? = some (.pointer (some ⟨w.heap.size + 1, 0, none⟩))) (h5 : tmps[5]? = some (.bool k)) (h6 : tmps[6]? = some (.int .i64 x)) (h7 : tmps[7]? = some (.int .i64 y))
    (hh : W'.heap[w.heap.size + 1]? = some (.cells #[.int .i64 ev, .int .i64 mo, .slice (some ⟨g, 0, none⟩) n' cap', .int .i64 gn, .int .i64 t] 27 (0, 0)))
    (hrow : Row (w.heap.size) W' (.slice (some ⟨g, 0, none⟩) n' cap') l') (hk : Keeps No w W') :
    bodyPost Try.prog Try.f15 (RefCame ev mo kv w (⟨l', gn, t⟩, k, x, y)) Exit.ret { tmps := tmps, defers := [] } W' := by
  obtain ⟨c0, c1, c2, c3, c4⟩ := five_cells hh
  refine bodyPost_ret (v := .tuple #[RefV ev mo (.slice (some ⟨g, 0, none⟩) n' cap') gn t, .bool k, .int .i64 x, .int .i64 y]) (by simp [results, Try.results15, go_sem, h4, h5, h6, h7, c0, c1, c2, c3, c4]) rfl ⟨_, rfl, ?_, hk, fun j hj => .inr (hrow.lt j hj).1⟩
  obtain ⟨h1, h2⟩ := hrow
  refine ⟨h1, ?_⟩
  rcases h2 with h2 | ⟨g, cap, cur, hv, hb, rest⟩
  · exact .inl h2
  · exact .inr ⟨g, cap, cur, hv, Nat.zero_le _, rest⟩

theorem row_mono {B B' : Nat} {w : World} {v : Value} {l : List Int} (h : Row B w v l) (hB : B' ≤ B) : Row B' w v l := by
  obtain ⟨h1, h2⟩ := h
  refine ⟨h1, ?_⟩
  rcases h2 with h2 | ⟨g, cap, cur, hv, hb, rest⟩
  · exact .inl h2
  · exact .inr ⟨g, cap, cur, hv, Nat.le_trans hB hb, rest⟩

theorem ieq {a b : Nat} (h : a = b) : ((a : Int) == (b : Int)) = true ∧ ((a : Int) != (b : Int)) = false := by
  subst h; exact ⟨by rw [beq_iff_eq], by rw [bne_eq_false_iff_eq]⟩
theorem ine {a b : Nat} (h : ¬ a = b) : ((a : Int) == (b : Int)) = false ∧ ((a : Int) != (b : Int)) = true :=
  ⟨by rw [beq_eq_false_iff_ne]; omega, by rw [bne_iff_ne]; omega⟩

/-- What is left of the first k. -/
def leftL (l : List Int) (a k : Nat) : List Int := (l.take k).eraseIdx a
theorem leftL_succ (l : List Int) (a k : Nat) (hk : k < l.length) : leftL l a (k + 1) = if k = a then leftL l a k else leftL l a k ++ [l[k]?.getD 0] := by
  unfold leftL
  have ht : (l.take k).length = k := by rw [List.length_take]; omega
  rw [List.take_succ_eq_append_getElem hk]
  have hx : l[k] = l[k]?.getD 0 := by simp [hk]
  rw [hx]
  rcases Nat.lt_trichotomy a k with h | h | h
  · rw [if_neg (by omega), List.eraseIdx_append_of_lt_length (by omega)]
  · subst h
    rw [if_pos rfl, List.eraseIdx_append_of_length_le (by omega), ht, Nat.sub_self, List.eraseIdx_of_length_le (l := l.take a) (by omega)]
    simp
  · rw [if_neg (by omega), List.eraseIdx_of_length_le (by simp; omega), List.eraseIdx_of_length_le (by omega)]
theorem leftL_len (l : List Int) (a k : Nat) : (leftL l a k).length ≤ k := by
  unfold leftL
  have := List.length_take_le k l
  have := List.length_eraseIdx_le (l.take k) a
  omega

theorem empty_row (W : World) (B : Nat) (hB : B ≤ W.heap.size) : (W.alloc (.cells #[] 3)).ownsRow B 3 1 (.slice (some ⟨W.heap.size, 0, none⟩) 0 0) 0 [] :=
  World.ownsRow_made W #[] 0 hB (by unfold maxLen; omega) rfl

set_option maxHeartbeats 2000000 in
theorem refcome_keep {w : World} {ev mo gn la : Int} {kv : Value} {a : Option Addr} {n c : Nat} {l : List Int} (t : Int) (hkv : kv = .slice a n c) (hr : Row 0 w (.slice a n c) l) (he1 : 1 ≤ ev) (he2 : ev ≤ 1073741824) (hmo : mo ≤ 4096) (hfew : l.length ≤ 4096) (ht1 : 0 ≤ t) (ht2 : t ≤ 1099511627776) (ht3 : la < t) (hq : (t % ev == 0) = true) (r : St × Bool × Int × Int)
    (hroom : ((l.length + 1 : Nat) : Int) ≤ mo → r = (⟨l ++ [t], gn, t⟩, true, -1, 0)) (hmo1 : 2 ≤ mo) (hgn1 : 0 ≤ gn) (hgn2 : gn ≤ 1099511627777) (hL : Hid (∀ j, j < (l ++ [t]).length → 0 ≤ (l ++ [t])[j]?.getD 0 ∧ (l ++ [t])[j]?.getD 0 ≤ 1099511627776))
    (hfull : Hid (¬ ((l.length + 1 : Nat) : Int) ≤ mo → r = (⟨(l ++ [t]).eraseIdx (bestIdx (l ++ [t])), gn + 1, t⟩, true, (l ++ [t])[bestIdx (l ++ [t])]?.getD 0, 0))) :
    Calls Try.prog 15 #[RefV ev mo (.slice a n c) gn la, .int .i64 t] w (RefCame ev mo (.slice a n c) w r) := by
  obtain ⟨i0, hi0, hz0, hz1, hz2⟩ := info_parts Try.info3
  have HI0 := hid hi0
  have HZ0 := hid hz0
  have HZ1 := hid hz1
  have HZ2 := hid hz2
  have HR := hid hr
  have hq2 : (t % ev != 0) = false := by simpa using hq
  clear hr hi0 hz0 hz1 hz2
  have HROOM := hid hroom
  clear hroom
  go_enter Try.func15, Try.ntmps15
  go_upto_region 6 with fail
  go_cut [] from 34 to 41 (fun wx => RefApp w ev mo gn t (l ++ [t]) wx)
  case first =>
    have hk := ((Keeps.refl No w).alloc (.cells #[.int .i64 ev, .int .i64 mo, .slice a n c, .int .i64 gn, .int .i64 t] 27)).alloc (.cells #[.int .i64 0, .int .i64 0, .slice none 0 0, .int .i64 0, .int .i64 0] 27)
    have hb0 : ((w.alloc (.cells #[.int .i64 ev, .int .i64 mo, .slice a n c, .int .i64 gn, .int .i64 t] 27)).alloc (.cells #[.int .i64 0, .int .i64 0, .slice none 0 0, .int .i64 0, .int .i64 0] 27)).heap[w.heap.size]? = some (.cells #[.int .i64 ev, .int .i64 mo, .slice a n c, .int .i64 gn, .int .i64 t] 27 (0, 0)) := by
      rw [heap_alloc_old _ _ _ (by simp)]; exact heap_alloc_new w _
    have hb1 : ((w.alloc (.cells #[.int .i64 ev, .int .i64 mo, .slice a n c, .int .i64 gn, .int .i64 t] 27)).alloc (.cells #[.int .i64 0, .int .i64 0, .slice none 0 0, .int .i64 0, .int .i64 0] 27)).heap[w.heap.size + 1]? = some (.cells #[.int .i64 0, .int .i64 0, .slice none 0 0, .int .i64 0, .int .i64 0] 27 (0, 0)) := by
      have := heap_alloc_new (w.alloc (.cells #[.int .i64 ev, .int .i64 mo, .slice a n c, .int .i64 gn, .int .i64 t] 27)) (.cells #[.int .i64 0, .int .i64 0, .slice none 0 0, .int .i64 0, .int .i64 0] 27)
      rwa [World.size_alloc] at this
    have hsz : ((w.alloc (.cells #[.int .i64 ev, .int .i64 mo, .slice a n c, .int .i64 gn, .int .i64 t] 27)).alloc (.cells #[.int .i64 0, .int .i64 0, .slice none 0 0, .int .i64 0, .int .i64 0] 27)).heap.size = w.heap.size + 2 := by simp
    generalize ((w.alloc (.cells #[.int .i64 ev, .int .i64 mo, .slice a n c, .int .i64 gn, .int .i64 t] 27)).alloc (.cells #[.int .i64 0, .int .i64 0, .slice none 0 0, .int .i64 0, .int .i64 0] 27)) = W1 at *
    have APP := hid (fun w1 h v g cap w2 => refapp_of (w1 := w1) (v := v) (l := l) hsz hb0 hb1 hk h (g := g) (cap := cap) (w2 := w2))
    have c2 : W1.cell? ⟨w.heap.size, 2, none⟩ = some (.slice a n c) := by rw [cell_of_row W1 _ 2 _ _ _ hb0]; rfl
    have hlt : w.heap.size < W1.heap.size := by omega
    have HSZ := hid hsz
    have HR1 := hid (hk.row HR.out (fun _ _ e => e))
    have HB0 := hid hb0
    clear hsz hb0 hb1 hk
    rcases (show Row 0 W1 (.slice a n c) l from HR1.out).shape with ⟨e, rfl⟩ | ⟨g, cap, e, _, _, hc⟩
    · cases e
      have hown' := empty_row W1 (w.heap.size + 2) (by rw [HSZ.out]; exact Nat.le_refl _)
      have hk1 := (Keeps.refl No W1).alloc (.cells #[] 3)
      have HO := hid hown'
      have HK1 := hid hk1
      have hlt1 : w.heap.size < (W1.alloc (.cells #[] 3)).heap.size := Nat.lt_of_lt_of_le hlt hk1.size
      have hv1 := hid (fun k (hk : (Value.slice (some ⟨W1.heap.size, 0, none⟩) 0 0).ownBlock = some k) => (hown'.lt k hk).1)
      have d2 : (W1.alloc (.cells #[] 3)).cell? ⟨w.heap.size, 2, none⟩ = some (.slice none 0 0) := hk1.cellS c2 (fun e => e)
      have f2 : (W1.alloc (.cells #[] 3)).frozen? ⟨w.heap.size, 2, none⟩ = false := by rw [hk1.frozen (p := ⟨w.heap.size, 2, none⟩) hlt (fun e => e)]; simp [World.frozen?, HB0.out]
      have hne : Hid (¬ (some w.heap.size : Option Nat) = (Value.slice (some ⟨W1.heap.size, 0, none⟩) 0 0).ownBlock) := hid (fun e => absurd (hv1.out _ e.symm) (by omega))
      clear hown' hk1
      go_wp2_with (first | (at_builtin; refine wpList_append_own_none rfl (.tmp 34) (.tmp 36) 22 rfl (w.heap.size + 2) 3 i0 1 Try.underlying22 HI0.out (.slice (some ⟨W1.heap.size, 0, none⟩) 0 0) 0 [] rfl (empty_row W1 _ (by rw [HSZ.out]; exact Nat.le_refl _)) rfl ?_) | (at_builtin; go_must (refine wpList_append_lies _ rfl (.tmp 37) (.tmp 39) 22 rfl (w.heap.size + 2) 3 i0 (.int .i64 0) 1 8 Try.underlying22 HI0.out HZ0.out HZ1.out HZ2.out rfl (by decide) (.slice (some ⟨W1.heap.size, 0, none⟩) 0 0) 0 [] rfl (HO.out.alloc _) ⟨W1.heap.size + 1, 0, none⟩ 1 1 [.int .i64 t] rfl rfl (by have := new_one (W1.alloc (.cells #[] 3)) (.int .i64 t) 3; rwa [World.size_alloc] at this) (by simp [Value.oneCell']) (by omega) (by unfold maxLen; omega) (by omega) (by have := HSZ.out; have := HK1.out.size; simp; omega) (W1.heap.size + 1 + 1) (by simp) ?_); intro g2 cap2 w2 hown2 hg2 _ _; have k2 := hg2.cell (cell_alloc_of (W1.alloc (.cells #[] 3)) _ d2) hne.out; have kf : w2.frozen? ⟨w.heap.size, 2, none⟩ = false := (by rw [World.frozen?_of_block (hg2.block w.heap.size (by simp; omega) hne.out)]; rw [World.frozen?_alloc_old _ _ _ (by show w.heap.size ≠ (W1.alloc (.cells #[] 3)).heap.size; omega)]; exact f2); have HD := hid (APP.out (W1.alloc (.cells #[] 3)) HK1.out (.slice (some ⟨W1.heap.size, 0, none⟩) 0 0) g2 cap2 w2 hown2 hg2 hv1.out); clear hown2 hg2))
      go_meet
      exact HD.out
    · cases e
      have HC := hid hc
      clear hc
      have C2 : Hid (∀ j u, (l.map (Value.int .i64))[j]? = some u → (W1.alloc (.cells #[] 3)).cell? ((⟨g, 0, none⟩ : Addr).add j) = some u) := by
        intro j u hu
        have hj : j < l.length := by have := (List.getElem?_eq_some_iff.1 hu).1; simpa using this
        have hcj := HC.out j hj
        rw [Addr.add_lit, Nat.zero_add]
        refine cell_alloc_of W1 _ ?_
        rw [hcj]
        simp [hj] at hu ⊢
        exact hu
      go_wp2_with (at_builtin; go_must (refine wpList_append_own _ rfl (.tmp 34) (.tmp 36) 22 rfl (w.heap.size + 2) 3 i0 (.int .i64 0) 1 8 Try.underlying22 HI0.out HZ0.out HZ1.out HZ2.out rfl (by decide) _ 0 [] rfl (empty_row W1 _ (by rw [HSZ.out]; exact Nat.le_refl _)) ⟨g, 0, none⟩ l.length c (l.map (Value.int .i64)) rfl (by simp) C2.out (ints_oneCell _ _) (by unfold maxLen; omega) (by omega) (by have := HSZ.out; simp; omega) ?_))
      · intro v1 w1 hown hg _
        have hown' : w1.ownsRow (w.heap.size + 2) 3 1 v1 l.length (l.map (Value.int .i64)) := by simpa using hown
        have hk1 : Keeps No W1 w1 := ((Keeps.refl No W1).alloc _).grown hg (fun k hk => .inr (by cases hk; exact Nat.le_refl _))
        clear hown hg
        have HO := hid hown'
        have HK1 := hid hk1
        have hlt1 : w.heap.size < w1.heap.size := Nat.lt_of_lt_of_le hlt hk1.size
        have hv1 := hid (fun k (hk : v1.ownBlock = some k) => (hown'.lt k hk).1)
        have d2 : w1.cell? ⟨w.heap.size, 2, none⟩ = some (.slice (some ⟨g, 0, none⟩) l.length c) := hk1.cellS c2 (fun e => e)
        have f2 : w1.frozen? ⟨w.heap.size, 2, none⟩ = false := by rw [hk1.frozen (p := ⟨w.heap.size, 2, none⟩) hlt (fun e => e)]; simp [World.frozen?, HB0.out]
        have hne : Hid (¬ (some w.heap.size : Option Nat) = v1.ownBlock) := hid (fun e => absurd (hv1.out _ e.symm) (by omega))
        clear hown' hk1
        go_wp2_with (at_builtin; go_must (refine wpList_append_lies _ rfl (.tmp 37) (.tmp 39) 22 rfl (w.heap.size + 2) 3 i0 (.int .i64 0) 1 8 Try.underlying22 HI0.out HZ0.out HZ1.out HZ2.out rfl (by decide) v1 l.length (l.map (Value.int .i64)) rfl (HO.out.alloc _) ⟨w1.heap.size, 0, none⟩ 1 1 [.int .i64 t] rfl rfl (new_one w1 _ _) (by simp [Value.oneCell']) (by omega) (by unfold maxLen; omega) (by omega) (by have := HSZ.out; have := HK1.out.size; simp; omega) (w1.heap.size + 1) (by simp) ?_); intro g2 cap2 w2 hown2 hg2 _ _; have k2 := hg2.cell (cell_alloc_of w1 _ d2) hne.out; have kf : w2.frozen? ⟨w.heap.size, 2, none⟩ = false := (by rw [World.frozen?_of_block (hg2.block w.heap.size (by simp; omega) hne.out)]; rw [World.frozen?_alloc_old _ _ _ (by show w.heap.size ≠ w1.heap.size; omega)]; exact f2); have HD := hid (APP.out w1 HK1.out v1 g2 cap2 w2 hown2 hg2 hv1.out); clear hown2 hg2)
        go_meet
        exact HD.out
  case rest =>
    obtain ⟨g, cap, hb0, hb1, hrow, hkp⟩ := hcut
    have hlt0 : w.heap.size < wc.heap.size := (Array.getElem?_eq_some_iff.1 hb0).1
    have hlt1 : w.heap.size + 1 < wc.heap.size := (Array.getElem?_eq_some_iff.1 hb1).1
    have c0 : wc.cell? ⟨w.heap.size, 0, none⟩ = some (.int .i64 ev) := by rw [cell_of_row wc _ 0 _ _ _ hb0]; rfl
    have c1 : wc.cell? ⟨w.heap.size, 1, none⟩ = some (.int .i64 mo) := by rw [cell_of_row wc _ 1 _ _ _ hb0]; rfl
    have c2 : wc.cell? ⟨w.heap.size, 2, none⟩ = some (.slice (some ⟨g, 0, none⟩) (l ++ [t]).length cap) := by rw [cell_of_row wc _ 2 _ _ _ hb0]; rfl
    have c3 : wc.cell? ⟨w.heap.size, 3, none⟩ = some (.int .i64 gn) := by rw [cell_of_row wc _ 3 _ _ _ hb0]; rfl
    have c4 : wc.cell? ⟨w.heap.size, 4, none⟩ = some (.int .i64 t) := by rw [cell_of_row wc _ 4 _ _ _ hb0]; rfl
    have r0 : wc.cell? ⟨w.heap.size + 1, 0, none⟩ = some (.int .i64 0) := by rw [cell_of_row wc _ 0 _ _ _ hb1]; rfl
    have r1 : wc.cell? ⟨w.heap.size + 1, 1, none⟩ = some (.int .i64 0) := by rw [cell_of_row wc _ 1 _ _ _ hb1]; rfl
    have r2 : wc.cell? ⟨w.heap.size + 1, 2, none⟩ = some (.slice none 0 0) := by rw [cell_of_row wc _ 2 _ _ _ hb1]; rfl
    have r3 : wc.cell? ⟨w.heap.size + 1, 3, none⟩ = some (.int .i64 0) := by rw [cell_of_row wc _ 3 _ _ _ hb1]; rfl
    have r4 : wc.cell? ⟨w.heap.size + 1, 4, none⟩ = some (.int .i64 0) := by rw [cell_of_row wc _ 4 _ _ _ hb1]; rfl
    have f0 : wc.frozen? ⟨w.heap.size + 1, 0, none⟩ = false := by simp [World.frozen?, hb1]
    have f1 : wc.frozen? ⟨w.heap.size + 1, 1, none⟩ = false := by simp [World.frozen?, hb1]
    have f2 : wc.frozen? ⟨w.heap.size + 1, 2, none⟩ = false := by simp [World.frozen?, hb1]
    have f3 : wc.frozen? ⟨w.heap.size + 1, 3, none⟩ = false := by simp [World.frozen?, hb1]
    have f4 : wc.frozen? ⟨w.heap.size + 1, 4, none⟩ = false := by simp [World.frozen?, hb1]
    have HB0 := hid hb0
    have HB1 := hid hb1
    have HROW := hid hrow
    have HKP := hid hkp
    have hlen : (l ++ [t]).length = l.length + 1 := by simp
    rw [hlen] at c2
    have HLEN := hid hlen
    clear hb0 hb1 hrow hkp hlen
    by_cases hm : ((l.length + 1 : Nat) : Int) ≤ mo
    · obtain rfl := HROOM.out hm
      go_wp2
      have hrow' : Row (w.heap.size + 2) wc (.slice (some ⟨g, 0, none⟩) (l.length + 1) cap) (l ++ [t]) := by rw [← HLEN.out]; exact HROW.out
      refine refend rfl rfl rfl rfl (heap_set5 HB1.out _ _ _ _ _) (Keeps.row (S := fun k => k = w.heap.size + 1) ?_ (row_mono hrow' (by omega)) (fun k hk => ?_)) ?_
      · exact ((((Keeps.set_at wc _ 0 _).trans (Keeps.set_at _ _ 1 _)).trans (Keeps.set_at _ _ 2 _)).trans (Keeps.set_at _ _ 3 _)).trans (Keeps.set_at _ _ 4 _)
      · have := (hrow'.lt k hk).1
        omega
      · exact ((((HKP.out.setCell (p := ⟨w.heap.size + 1, 0, none⟩) (.inr (by simp)) _).setCell (p := ⟨w.heap.size + 1, 1, none⟩) (.inr (by simp)) _).setCell (p := ⟨w.heap.size + 1, 2, none⟩) (.inr (by simp)) _).setCell (p := ⟨w.heap.size + 1, 3, none⟩) (.inr (by simp)) _).setCell (p := ⟨w.heap.size + 1, 4, none⟩) (.inr (by simp)) _
    · have HF := hid (hfull.out hm)
      have hrow' : Hid (Row (w.heap.size + 2) wc (.slice (some ⟨g, 0, none⟩) (l.length + 1) cap) (l ++ [t])) := by show Row _ _ _ _; rw [← HLEN.out]; exact HROW.out
      obtain ⟨l', hl'⟩ : ∃ l', l' = l ++ [t] := ⟨_, rfl⟩
      have HL' := hid hl'
      rw [← hl'] at hL HF hrow' HLEN
      have hm1 : mo < ((l.length + 1 : Nat) : Int) := by omega
      obtain ⟨n', hn'⟩ : ∃ n', n' = l.length + 1 := ⟨_, rfl⟩
      have hn3 : 3 ≤ n' := by omega
      have hn4 : n' ≤ 4097 := by omega
      rw [← hn'] at hm1 c2 HLEN hrow'
      have hg := hid (hrow'.out.lt g rfl)
      clear hl' hn' hm hfull
      go_wp2
      go_loopw [8, 9] (fun av iv wr => ∃ k : Nat, 1 ≤ k ∧ k + 1 ≤ n' ∧ iv = .int .i64 k ∧ av = .int .i64 (atL l' (List.range' 1 (k - 1)) : Nat) ∧ Keeps No wc wr) (fun _ iv _ => n' - (intOf iv).toNat)
      case atStart => exact ⟨1, by omega, by omega, rfl, rfl, Keeps.refl _ _⟩
      case round =>
        obtain ⟨k, hk1, hk2, rfl, rfl, hkr⟩ := hrel
        have hat := atL_range l' (k - 1)
        have hat1 := hat.1
        have hat2 : atL l' (List.range' 1 (k - 1)) + 1 < n' := by
          by_cases h : k - 1 = 0
          · rw [h]; show 1 + 1 < n'; omega
          · have := hat.2.1 h; omega
        have d2 : wr.cell? ⟨w.heap.size, 2, none⟩ = some (.slice (some ⟨g, 0, none⟩) n' cap) := hkr.cellS c2 (fun e => e)
        have hltr : w.heap.size < wr.heap.size := Nat.lt_of_lt_of_le hlt0 hkr.size
        have HC := hid (fun j (hj : j < n') => hkr.cellS (p := ⟨g, j, none⟩) (cells_at hrow'.out j (by rw [HLEN.out]; exact hj)) (fun e => e))
        have HKR := hid hkr
        clear hat hkr
        by_cases hlt : k + 1 < n'
        · have x1 := HC.out (k + 1) hlt
          have x2 := HC.out (k - 1) (by omega)
          have x3 := HC.out (atL l' (List.range' 1 (k - 1)) + 1) hat2
          have x4 := HC.out (atL l' (List.range' 1 (k - 1)) - 1) (by omega)
          obtain ⟨b1, b1'⟩ := hL.out (k + 1) (by rw [HLEN.out]; exact hlt)
          obtain ⟨b2, b2'⟩ := hL.out (k - 1) (by rw [HLEN.out]; omega)
          obtain ⟨b3, b3'⟩ := hL.out (atL l' (List.range' 1 (k - 1)) + 1) (by rw [HLEN.out]; exact hat2)
          obtain ⟨b4, b4'⟩ := hL.out (atL l' (List.range' 1 (k - 1)) - 1) (by rw [HLEN.out]; omega)
          have HS := hid (show atL l' (List.range' 1 k) = if gapAt l' k < gapAt l' (atL l' (List.range' 1 (k - 1))) then k else atL l' (List.range' 1 (k - 1)) by
            obtain ⟨k', rfl⟩ : ∃ k', k = k' + 1 := ⟨k - 1, by omega⟩
            rw [List.range'_1_concat, atL_snoc, Nat.add_comm 1 k']; rfl)
          by_cases hgap : gapAt l' k < gapAt l' (atL l' (List.range' 1 (k - 1)))
          · have HS2 := hid (HS.out.trans (if_pos hgap))
            unfold gapAt at hgap
            clear HS HC HF
            generalize atL l' (List.range' 1 (k - 1)) = at' at *
            generalize l'[k + 1]?.getD 0 = y1 at *
            generalize l'[k - 1]?.getD 0 = y2 at *
            generalize l'[at' + 1]?.getD 0 = y3 at *
            generalize l'[at' - 1]?.getD 0 = y4 at *
            go_wp2
            go_quiet (fail)
            go_wp2
            go_roundw
            case rel => exact ⟨k + 1, by omega, by omega, by go_num, by rw [show k + 1 - 1 = k by omega, HS2.out], HKR.out.drewN _⟩
            case measure => simp [intOf]; omega
          · have HS2 := hid (HS.out.trans (if_neg hgap))
            unfold gapAt at hgap
            clear HS HC HF
            generalize atL l' (List.range' 1 (k - 1)) = at' at *
            generalize l'[k + 1]?.getD 0 = y1 at *
            generalize l'[k - 1]?.getD 0 = y2 at *
            generalize l'[at' + 1]?.getD 0 = y3 at *
            generalize l'[at' - 1]?.getD 0 = y4 at *
            go_wp2
            go_quiet (fail)
            go_wp2
            go_roundw
            case rel => exact ⟨k + 1, by omega, by omega, by go_num, by rw [show k + 1 - 1 = k by omega, HS2.out], HKR.out.drewN _⟩
            case measure => simp [intOf]; omega
        · obtain rfl : k = n' - 1 := by omega
          have hbest : atL l' (List.range' 1 (n' - 1 - 1)) = bestIdx l' := by unfold bestIdx; rw [HLEN.out]; rfl
          rw [hbest]
          clear hbest hat1 hat2
          obtain ⟨hb1', hb2'⟩ := bestIdx_bd l' (by rw [HLEN.out]; exact hn3)
          rw [HLEN.out] at hb2'
          have x5 := HC.out (bestIdx l') (by omega)
          generalize hE1 : bestIdx l' = at' at *
          generalize hE2 : l'[at']?.getD 0 = x at *
          have HE1 := hid hE1
          have HE2 := hid hE2
          clear hE1 hE2 HC
          go_wp2
          obtain ⟨wo, rfl⟩ : ∃ wo : World, wo = wr := ⟨_, rfl⟩
          go_loopw [11, 12] (fun lv iv w2 => ∃ k : Nat, k ≤ n' ∧ iv = .int .i64 k ∧ w2.ownsRow wo.heap.size 3 1 lv (leftL l' at' k).length ((leftL l' at' k).map (Value.int .i64)) ∧ Keeps No wo w2) (fun _ iv _ => n' - (intOf iv).toNat)
          case atStart => exact ⟨0, by omega, rfl, World.ownsRow_nil _ _ _ _, Keeps.refl _ _⟩
          case round =>
            obtain ⟨k, hk, rfl, hown, hk2r⟩ := hrel
            have hkc := hid (HKR.out.trans hk2r)
            have HOWN := hid hown
            have HK2 := hid hk2r
            have e2 : wr.cell? ⟨w.heap.size, 2, none⟩ = some (.slice (some ⟨g, 0, none⟩) n' cap) := hkc.out.cellS c2 (fun e => e)
            have hlt2 : w.heap.size < wr.heap.size := Nat.lt_of_lt_of_le hlt0 hkc.out.size
            have hlen2 := leftL_len l' at' k
            clear hown hk2r x5 d2
            by_cases hlt3 : k < n'
            · have x6 : wr.cell? ⟨g, k, none⟩ = some (.int .i64 (l'[k]?.getD 0)) := hkc.out.cellS (p := ⟨g, k, none⟩) (cells_at hrow'.out k (by rw [HLEN.out]; exact hlt3)) (fun e => e)
              have HS := hid (leftL_succ l' at' k (by rw [HLEN.out]; exact hlt3))
              generalize l'[k]?.getD 0 = y at *
              by_cases hka : k = at'
              · have HS2 := hid (HS.out.trans (if_pos hka))
                obtain ⟨t1, t2⟩ := ieq hka
                clear hka HS
                go_wp2
                go_roundw
                case rel => exact ⟨k + 1, by omega, by go_num, by rw [HS2.out]; exact HOWN.out, HK2.out⟩
                case measure => simp [intOf]; omega
              · have HS2 := hid (HS.out.trans (if_neg hka))
                obtain ⟨t1, t2⟩ := ine hka
                clear hka HS
                go_wp2_with (at_builtin; go_must (refine wpList_append_own _ rfl (.tmp 100) (.tmp 106) 22 rfl wo.heap.size 3 i0 (.int .i64 0) 1 8 Try.underlying22 HI0.out HZ0.out HZ1.out HZ2.out rfl (by decide) _ _ _ rfl (HOWN.out.alloc _) ⟨wr.heap.size, 0, none⟩ 1 1 [.int .i64 y] rfl rfl (new_one wr _ _) (by simp [Value.oneCell']) (by unfold maxLen; omega) (by omega) (by have := HK2.out.size; simp; omega) ?_); intro v3 w3 hown3 hg3 _; have HO3 := hid hown3; have HG3 := hid (((HK2.out.alloc _).grown hg3 (fun k hk => .inr (HOWN.out.lt k hk).1))); clear hown3 hg3)
                go_roundw
                case rel => exact ⟨k + 1, by omega, by go_num, by rw [HS2.out, List.length_append, List.map_append]; exact HO3.out, HG3.out⟩
                case measure => simp [intOf]; omega
            · obtain rfl : n' = k := by omega
              have hle : leftL l' at' n' = l'.eraseIdx at' := by unfold leftL; rw [← HLEN.out, List.take_length]
              rw [hle] at HOWN hlen2
              have hel : (l'.eraseIdx at').length = n' - 1 := by rw [List.length_eraseIdx, if_pos (by rw [HLEN.out]; omega), HLEN.out]
              obtain ⟨g2, cap2, rfl, hg2a, hg2b⟩ := HOWN.out.form (by omega)
              have HG2 := hid hg2a
              have q0 := hkc.out.cellS c0 (fun e => e)
              have q1 := hkc.out.cellS c1 (fun e => e)
              have q3 := hkc.out.cellS c3 (fun e => e)
              have q4 := hkc.out.cellS c4 (fun e => e)
              have HH0 := hid ((hkc.out.block _ hlt0 (fun e => e)).trans HB0.out)
              have HH1 := hid ((hkc.out.block _ hlt1 (fun e => e)).trans HB1.out)
              obtain ⟨p0, p1, p2, p3, p4⟩ := five_cells HH1.out
              have g0 : wr.frozen? ⟨w.heap.size + 1, 0, none⟩ = false := by simp [World.frozen?, HH1.out]
              have g1 : wr.frozen? ⟨w.heap.size + 1, 1, none⟩ = false := by simp [World.frozen?, HH1.out]
              have g2' : wr.frozen? ⟨w.heap.size + 1, 2, none⟩ = false := by simp [World.frozen?, HH1.out]
              have g3 : wr.frozen? ⟨w.heap.size + 1, 3, none⟩ = false := by simp [World.frozen?, HH1.out]
              have g4 : wr.frozen? ⟨w.heap.size + 1, 4, none⟩ = false := by simp [World.frozen?, HH1.out]
              have g5 : wr.frozen? ⟨w.heap.size, 2, none⟩ = false := by simp [World.frozen?, HH0.out]
              have g6 : wr.frozen? ⟨w.heap.size, 3, none⟩ = false := by simp [World.frozen?, HH0.out]
              have hsame := HF.out
              have HWO := hid (show w.heap.size + 2 ≤ wo.heap.size by have := HKR.out.size; omega)
              have HSAME := hid hsame
              have HKW := hid (HKP.out.trans hkc.out)
              clear hle hel hg2a c0 c1 c2 c3 c4 r0 r1 r2 r3 r4 f0 f1 f2 f3 f4 hsame hlt1
              have hlt1' : w.heap.size + 1 < wr.heap.size := (Array.getElem?_eq_some_iff.1 HH1.out).1
              go_wp2
              rw [HSAME.out]
              have hrow5 : Row (w.heap.size + 2) wr (.slice (some ⟨g2, 0, none⟩) (l'.eraseIdx at').length cap2) (l'.eraseIdx at') := row_mono HOWN.out HWO.out
              refine refend rfl rfl rfl rfl (heap_set5 ((Below.heap_setCell _ _ _ _ (by simp)).trans ((Below.heap_setCell _ _ _ _ (by simp)).trans HH1.out)) _ _ _ _ _) (Keeps.row (S := fun k => k = w.heap.size ∨ k = w.heap.size + 1) ?_ (row_mono hrow5 (by omega)) (fun k hk => ?_)) ?_
              · exact ((((((Keeps.refl _ wr).setCell (p := ⟨w.heap.size, 2, none⟩) (.inl (.inl rfl)) _).setCell (p := ⟨w.heap.size, 3, none⟩) (.inl (.inl rfl)) _).setCell (p := ⟨w.heap.size + 1, 0, none⟩) (.inl (.inr rfl)) _).setCell (p := ⟨w.heap.size + 1, 1, none⟩) (.inl (.inr rfl)) _).setCell (p := ⟨w.heap.size + 1, 2, none⟩) (.inl (.inr rfl)) _).setCell (p := ⟨w.heap.size + 1, 3, none⟩) (.inl (.inr rfl)) _ |>.setCell (p := ⟨w.heap.size + 1, 4, none⟩) (.inl (.inr rfl)) _
              · have := (hrow5.lt k hk).1
                omega
              · exact ((((((HKW.out.setCell (p := ⟨w.heap.size, 2, none⟩) (.inr (by simp)) _).setCell (p := ⟨w.heap.size, 3, none⟩) (.inr (by simp)) _).setCell (p := ⟨w.heap.size + 1, 0, none⟩) (.inr (by simp)) _).setCell (p := ⟨w.heap.size + 1, 1, none⟩) (.inr (by simp)) _).setCell (p := ⟨w.heap.size + 1, 2, none⟩) (.inr (by simp)) _).setCell (p := ⟨w.heap.size + 1, 3, none⟩) (.inr (by simp)) _).setCell (p := ⟨w.heap.size + 1, 4, none⟩) (.inr (by simp)) _

/-- The document's Come, by one contract. -/
theorem refcome_any {w : World} {ev mo : Int} {kv : Value} {s : St} (t : Int) (h : Good ev mo s) (hr : Row 0 w kv s.l) :
    Calls Try.prog 15 #[RefV ev mo kv s.gn s.la, .int .i64 t] w (RefCame ev mo kv w (comeS ev mo s t)) := by
  obtain ⟨a, n, c, rfl⟩ := slice_form hr
  have hcome : comeS ev mo s t = comeS ev mo s t := rfl
  conv at hcome => rhs; unfold comeS
  rw [hcome]
  have h1 := h.ev1
  have h2 := h.ev2
  have h3 := h.mo1
  have h4 := h.mo2
  have h5 := h.few
  have h6 := h.la1
  have h7 := h.la2
  have h8 := h.gn1
  have h9 := h.gn2
  split
  · exact refcome_arg t hr ‹_›
  · rename_i hn
    split
    · exact refcome_not t hr h1 h2 (by omega) (by omega) (by omega) ‹_›
    · rename_i hq
      have hq : (t % ev == 0) = true := by simpa using hq
      obtain ⟨_, hi2⟩ := good_snoc h (t := t) (by omega) (by omega) (by omega)
      exact refcome_keep t rfl hr h1 h2 h4 (by omega) (by omega) (by omega) (by omega) hq _ (fun hm => by rw [if_pos hm]) h3 h8 (by omega) (hid fun j hj => ⟨(hi2 j hj).1, Int.le_trans (hi2 j hj).2 (by omega)⟩) (hid fun hm => by rw [if_neg hm])

end Go.Proofs.Ytpnhmcgabnifdaa
