/- Points: Come, where one is let go. -/
import Derived.Test.YtpnhmcgabnifdaaJ
import Derived.Deep.RegionWith
namespace Go.Proofs.Ytpnhmcgabnifdaa
open Go.RowKit

/-- The first place whose neighbours are closest. -/
def atL (l : List Int) (pre : List Nat) : Nat := pre.foldl (fun at' i => if gapAt l i < gapAt l at' then i else at') 1
def bestIdx (l : List Int) : Nat := atL l (List.range' 1 (l.length - 2))

theorem atL_snoc (l : List Int) (pre : List Nat) (x : Nat) : atL l (pre ++ [x]) = if gapAt l x < gapAt l (atL l pre) then x else atL l pre := by
  unfold atL; rw [List.foldl_append]; rfl

theorem atL_range (l : List Int) : ∀ k, 1 ≤ atL l (List.range' 1 k) ∧ (k ≠ 0 → atL l (List.range' 1 k) ≤ k) ∧ (k ≠ 0 → stL l (List.range' 1 k) = ((atL l (List.range' 1 k) : Int), gapAt l (atL l (List.range' 1 k)), false)) := by
  intro k
  induction k with
  | zero => exact ⟨by simp [atL], by simp, by simp⟩
  | succ k ih =>
    obtain ⟨h1, h2, h3⟩ := ih
    rw [List.range'_1_concat, stL_snoc, atL_snoc]
    by_cases hk : k = 0
    · subst hk
      simp [stL, stepL, atL]
    · have h2 := h2 hk
      have h3 := h3 hk
      rw [h3]
      by_cases hg : gapAt l (1 + k) < gapAt l (atL l (List.range' 1 k))
      · refine ⟨by rw [if_pos hg]; omega, fun _ => by rw [if_pos hg]; omega, fun _ => ?_⟩
        rw [if_pos hg, stepL, if_pos (.inr hg)]
      · refine ⟨by rw [if_neg hg]; exact h1, fun _ => by rw [if_neg hg]; omega, fun _ => ?_⟩
        rw [if_neg hg, stepL, if_neg (by simp [hg])]

theorem bestIdx_bd (l : List Int) (h : 3 ≤ l.length) : 1 ≤ bestIdx l ∧ bestIdx l + 1 < l.length := by
  have := atL_range l (l.length - 2)
  have h2 := this.2.1 (by omega)
  unfold bestIdx
  exact ⟨this.1, by omega⟩

theorem stL_best (l : List Int) (n : Nat) (hn : l.length = n) (h : 3 ≤ n) : (stL l (List.range' 1 (n - 2))).1 = (bestIdx l : Int) := by
  subst hn
  rw [(atL_range l (l.length - 2)).2.2 (by omega)]
  rfl

theorem cells_at {B : Nat} {w : World} {g n cap : Nat} {l : List Int} (h : w.ownsRow B 3 1 (.slice (some ⟨g, 0, none⟩) n cap) l.length (l.map (Value.int .i64))) (j : Nat) (hj : j < l.length) : w.cell? ⟨g, j, none⟩ = some (.int .i64 (l[j]?.getD 0)) := by
  rcases (ownsRow_ints h).1 with rfl | ⟨g', off, e, hc⟩
  · simp at hj
  · cases e
    have := hc j hj
    rwa [Nat.zero_add] at this

theorem delete_at (g n cap i : Nat) (l : List Int) (W : World) (hn : l.length = n) (h : Row 0 W (.slice (some ⟨g, 0, none⟩) n cap) l) (hi : i + 1 < n) (hl : n ≤ 100000) :
    Calls Try.prog 33 #[.slice (some ⟨g, 0, none⟩) n cap, .int .i64 i, .int .i64 ((i : Int) + 1)] W fun e w' => ∃ c, e = .returned (.slice (some ⟨g, 0, none⟩) (l.eraseIdx i).length c) ∧ Row 0 w' (.slice (some ⟨g, 0, none⟩) (l.eraseIdx i).length c) (l.eraseIdx i) ∧ Keeps (fun k => (some g : Option Nat) = some k) W w' := by
  subst hn
  refine (delete_any _ l i W h hi hl).mono ?_
  rintro e w' ⟨v', he, hr, ho, hk⟩
  rcases hr.shape with ⟨hv, _⟩ | ⟨g', c, hv, _, _, _⟩
  · rw [hv] at ho; cases ho
  · rw [hv] at ho
    have : g' = g := by simpa [Value.ownBlock] using ho
    subst this
    exact ⟨c, by rw [he, hv], by rw [← hv]; exact hr, hk⟩

/-- Behind the deletion. -/
def Deleted (W : World) (b g : Nat) (ev mo gn t : Int) (l : List Int) (wx : World) : Prop :=
  ∃ v, wx.heap[b]? = some (.cells #[.int .i64 ev, .int .i64 mo, v, .int .i64 gn, .int .i64 t] 60 (0, 0)) ∧ Row 0 wx v l ∧ v.ownBlock = some g ∧ Keeps (fun k => k = b ∨ k = g) W wx

theorem deleted_of {W W' w5 : World} {b g : Nat} {ev mo gn t : Int} {kv v : Value} {l : List Int} (hW : Keeps No W W') (hh : W.heap[b]? = some (.cells #[.int .i64 ev, .int .i64 mo, kv, .int .i64 gn, .int .i64 t] 60 (0, 0)))
    (hgb : g ≠ b) (hr : Row 0 w5 v l) (ho : v.ownBlock = some g) (hk : Keeps (fun k => (some g : Option Nat) = some k) W' w5) : Deleted W b g ev mo gn t l (w5.setCell ⟨b, 2, none⟩ v) := by
  have hb : w5.heap[b]? = some (.cells #[.int .i64 ev, .int .i64 mo, kv, .int .i64 gn, .int .i64 t] 60 (0, 0)) := by
    have hlt := (Array.getElem?_eq_some_iff.1 hh).1
    exact (hk.block b (Nat.lt_of_lt_of_le hlt hW.size) (fun e => hgb (by cases e; rfl))).trans ((hW.block b hlt (fun e => e)).trans hh)
  refine ⟨v, heap_setCell_row hb, (Keeps.set_at w5 b 2 _).row hr (fun k hk2 => by rw [ho] at hk2; cases hk2; exact hgb), ho, ?_⟩
  exact (hW.trans' (T := fun k => k = b ∨ k = g) hk (fun _ e => e.elim) (fun i _ e => .inr (by cases e; rfl))).setCell (p := ⟨b, 2, none⟩) (.inl (.inl rfl)) _

set_option maxHeartbeats 400000 in
theorem inner_any (p : Option Addr) (w : World) :
    Calls Try.prog 31 #[.pointer p] w fun e w' => e = .returned (.func (.func 37) #[] #[.pointer (some ⟨w.heap.size, 0, none⟩)]) ∧ w.alloc (.cells #[.pointer p] 25) = w' := by
  have hmf : ∀ (fn : Fn) (first cap : Array Value) (w : World), (Instr.makeFunc fn first cap).run Try.prog w = .ok (.func fn first cap) w := fun _ _ _ _ => rfl
  go_enter Try.func31, Try.ntmps31
  go_wp2
  go_ret
  exact ⟨rfl, rfl⟩

theorem least_any (B1 B2 b g cap : Nat) (l : List Int) (w : World) (hn : l.length ≤ 100000) (h3 : 3 ≤ l.length) (hlo : ∀ j, j < l.length → 0 ≤ l[j]?.getD 0 ∧ l[j]?.getD 0 ≤ 1099511627776)
    (c1 : w.cell? ⟨B1, 0, none⟩ = some (.pointer (some ⟨b, 0, none⟩))) (c2 : w.cell? ⟨B2, 0, none⟩ = some (.pointer (some ⟨b, 0, none⟩))) (c3 : w.cell? ⟨b, 2, none⟩ = some (.slice (some ⟨g, 0, none⟩) l.length cap))
    (hr : Row 0 w (.slice (some ⟨g, 0, none⟩) l.length cap) l) :
    Calls Try.prog 30 #[.func (.func 37) #[] #[.pointer (some ⟨B1, 0, none⟩)], .func (.func 32) #[] #[.pointer (some ⟨B2, 0, none⟩)]] w fun e w' => e = .returned (.int .i64 (bestIdx l : Int)) ∧ Keeps No w w' := by
  have hg := (hr.lt g rfl).2
  have hc : ∀ j, j < l.length → w.cell? ⟨g, j, none⟩ = some (.int .i64 (l[j]?.getD 0)) := by
    rcases hr.shape with ⟨e, _⟩ | ⟨g', cap', e, _, _, hc⟩
    · cases e
    · cases e; exact hc
  have := callsIn_wide.1 (least_in 5 (by omega) B1 B2 b g cap l.length l w hn (hid hlo) c1 c2 c3 hg (hid hc))
  rw [stL_best l l.length rfl h3] at this
  exact this.mono fun e w' ⟨h1, h2⟩ => ⟨h1, h2.os, h2.tape, h2.output, h2.size, fun k hk _ => h2.block k hk⟩

set_option maxHeartbeats 2000000 in
theorem come_full {w : World} {b : Nat} {ev mo gn la : Int} {kv : Value} {l : List Int} (t : Int) (h : Pts w b ev mo kv l gn la) (ht1 : 0 ≤ t) (ht2 : t ≤ 1099511627776) (ht3 : la < t) (hr : (t % ev == 0) = true) (hroom : mo < ((l.length + 1 : Nat) : Int))
    (hl : Hid (∀ j, j < (l ++ [t]).length → 0 ≤ (l ++ [t])[j]?.getD 0 ∧ (l ++ [t])[j]?.getD 0 ≤ 1099511627776))
    (hnew : Hid (∀ w' v, w'.heap[b]? = some (.cells #[.int .i64 ev, .int .i64 mo, v, .int .i64 (gn + 1), .int .i64 t] 60 (0, 0)) → Row 0 w' v ((l ++ [t]).eraseIdx (bestIdx (l ++ [t]))) → v.ownBlock ≠ some b → Pts w' b ev mo v ((l ++ [t]).eraseIdx (bestIdx (l ++ [t]))) (gn + 1) t)) :
    Calls Try.prog 17 #[.pointer (some ⟨b, 0, none⟩), .int .i64 t] w (ComeOk b ev mo kv w true ((l ++ [t])[bestIdx (l ++ [t])]?.getD 0) 0 ((l ++ [t]).eraseIdx (bestIdx (l ++ [t]))) (gn + 1) t) := by
  obtain ⟨i0, hi0, hz0, hz1, hz2⟩ := info_parts Try.info3
  have HI0 := hid hi0
  have HZ0 := hid hz0
  have HZ1 := hid hz1
  have HZ2 := hid hz2
  have h0 : (w.alloc (.cells #[.pointer (some ⟨b, 0, none⟩)] 25)).cell? ⟨b, 0, none⟩ = some (.int .i64 ev) := by rw [World.cell?_alloc_lt _ _ _ h.lt]; exact h.c0
  have h1 := h.c0
  have h4 := h.c4
  have hf := h.fz 4
  have hz := h.nz
  have hlt := h.lt
  have he1 := h.ev1
  have he2 := h.ev2
  have hmo := h.mo2
  have hmo1 := h.mo1
  have hfew : l.length ≤ 4096 := by have := h.few; omega
  have H := hid h
  clear h hi0 hz0 hz1 hz2
  go_enter Try.func17, Try.ntmps17
  go_wp2_with (go_at_call 29; refine (none_some b ev _ h0 hz).mono ?_; rintro e w' ⟨rfl, rfl⟩)
  have hk : Keeps (fun k => k = b) w ((w.setCell ⟨b, 4, none⟩ (.int .i64 t)).alloc (.cells #[.pointer (some ⟨b, 0, none⟩)] 25)) := (Keeps.set_at w b 4 _).alloc _
  have hp := H.out.later ((Below.heap_alloc _ (.cells #[.pointer (some ⟨b, 0, none⟩)] 25) _ (by simp; exact H.out.lt)).trans (heap_pts_last H.out.heap)) hk ht3 ht2
  have hbox : ((w.setCell ⟨b, 4, none⟩ (.int .i64 t)).alloc (.cells #[.pointer (some ⟨b, 0, none⟩)] 25)).cell? ⟨w.heap.size, 0, none⟩ = some (.pointer (some ⟨b, 0, none⟩)) := by simp [go_sem]
  have hsz : ((w.setCell ⟨b, 4, none⟩ (.int .i64 t)).alloc (.cells #[.pointer (some ⟨b, 0, none⟩)] 25)).heap.size = w.heap.size + 1 := by simp
  generalize (w.setCell ⟨b, 4, none⟩ (.int .i64 t)).alloc (.cells #[.pointer (some ⟨b, 0, none⟩)] 25) = W1 at *
  have HSZ := hid hsz
  have HK := hid hk
  have HP := hid hp
  have d2 := hp.c2
  have hown0 : ∀ k, kv.ownBlock = some k → k < w.heap.size := fun k hk => (H.out.row.lt k hk).2
  have hwb := hid (fun (e : (some w.heap.size : Option Nat) = kv.ownBlock) => Nat.lt_irrefl _ (hown0 _ e.symm))
  have hbb := hid (fun (e : (some b : Option Nat) = kv.ownBlock) => HP.out.apart e.symm)
  have APP := hid (fun w1 => appended_of (w1 := w1) hk hp hsz hbox hown0 H.out.lt)
  have hb1 : b < W1.heap.size := HP.out.lt
  have hb2 : w.heap.size < W1.heap.size := by rw [HSZ.out]; omega
  clear hown0 hsz hk hp h0 h1 h4 hf hz
  go_cut [] from 40 to 49 (fun wx => Appended w b ev mo gn t kv l wx)
  case first =>
    go_region_law (refine step_append_lies _ rfl (.tmp 44) (.tmp 46) 22 rfl 0 3 i0 (.int .i64 0) 1 8 Try.underlying22 HI0.out HZ0.out HZ1.out HZ2.out rfl (by decide) kv l.length (l.map (Value.int .i64)) (by simp [Act.eval]) (HP.out.row.alloc _) ⟨W1.heap.size, 0, none⟩ 1 1 [.int .i64 t] (by simp [Act.eval]) rfl (new_one W1 _ _) (by simp [Value.oneCell']) (by omega) (by unfold maxLen; omega) (by omega) (Nat.zero_le _) (W1.heap.size + 1) (by simp) ?_; intro g cap w1 hown hgrow hat hlt; have k0 := hgrow.cell (cell_alloc_of W1 _ hbox) hwb.out; have k2 := hgrow.cell (cell_alloc_of W1 _ d2) hbb.out; have kf : w1.frozen? ⟨b, 2, none⟩ = false := (by simp [World.frozen?, (hgrow.block b (Nat.lt_of_lt_of_le HP.out.lt (by simp)) hbb.out).trans ((Below.heap_alloc W1 _ b HP.out.lt).trans HP.out.heap)]); have HA := hid (APP.out w1 g cap hown hgrow hat); clear hown hgrow hat)
    all_goals
      go_wp2_with fail
      go_meet
      exact HA.out
  case rest =>
    obtain ⟨g, cap, hh, hrow, hgb, hkp, hat, hbx, hlt2⟩ := hcut
    have k1 : wc.cell? ⟨b, 1, none⟩ = some (.int .i64 mo) := by rw [cell_of_row wc b 1 _ _ _ hh]; rfl
    have k2 : wc.cell? ⟨b, 2, none⟩ = some (.slice (some ⟨g, 0, none⟩) (l.length + 1) cap) := by rw [cell_of_row wc b 2 _ _ _ hh]; rfl
    have HH := hid hh
    have HR := hid hrow
    have HKP := hid hkp
    have HAT := hid hat
    have HGB := hid hgb
    clear hh hrow hkp hat hgb d2 hwb hbb hb1 hb2 APP HP HK HSZ hbox
    go_wp2
    go_quiet (fail)
    have KD := hid ((Keeps.refl No wc).drewN nq)
    generalize wc.drewN nq = W2 at *
    have HH2 := hid ((KD.out.block b (Array.getElem?_eq_some_iff.1 HH.out).1 (fun e => e)).trans HH.out)
    have HR2 := hid (KD.out.row HR.out (fun _ _ e => e))
    have HB2 := hid (KD.out.cellS hbx (fun e => e))
    have HKP2 := hid (HKP.out.trans' (T := Mine b kv) KD.out (fun _ h => h) (fun _ _ h => h.elim))
    have hlt3 : w.heap.size < W2.heap.size := Nat.lt_of_lt_of_le hlt2 KD.out.size
    have hlen : (l ++ [t]).length = l.length + 1 := by simp
    have HR2' : Hid (Row 0 W2 (.slice (some ⟨g, 0, none⟩) (l.length + 1) cap) (l ++ [t])) := by
      have := HR2.out
      rw [Row, hlen, List.map_append]
      exact this
    have HLEN := hid hlen
    have hbx2 := HB2.out
    clear hlen hbx k1 k2 HR HH KD HKP HR2
    have hmf : ∀ (fn : Fn) (first cap : Array Value) (w : World), (Instr.makeFunc fn first cap).run Try.prog w = .ok (.func fn first cap) w := fun _ _ _ _ => rfl
    go_wp2_with (go_at_call 31; refine (inner_any _ _).mono ?_; rintro e w' ⟨rfl, rfl⟩)
    have K3 := (Keeps.refl No W2).alloc (.cells #[.pointer (some ⟨b, 0, none⟩)] 25)
    have HH3 := hid ((K3.block b (Array.getElem?_eq_some_iff.1 HH2.out).1 (fun e => e)).trans HH2.out)
    have HR3 : Hid (Row 0 (W2.alloc (.cells #[.pointer (some ⟨b, 0, none⟩)] 25)) (.slice (some ⟨g, 0, none⟩) (l.length + 1) cap) (l ++ [t])) := hid (K3.row HR2'.out (fun _ _ e => e))
    have HB3 := hid (K3.cellS HB2.out (fun e => e))
    have HI3 : Hid ((W2.alloc (.cells #[.pointer (some ⟨b, 0, none⟩)] 25)).cell? ⟨W2.heap.size, 0, none⟩ = some (.pointer (some ⟨b, 0, none⟩))) := by show _ = _; simp
    have HKP3 := hid (HKP2.out.trans' (T := Mine b kv) K3 (fun _ h => h) (fun _ _ h => h.elim))
    clear K3 HH2 HR2' HB2 HKP2 hmf hbx2
    generalize W2.alloc (.cells #[.pointer (some ⟨b, 0, none⟩)] 25) = W3 at *
    have e3 := least_any W2.heap.size w.heap.size b g cap (l ++ [t]) W3 (by rw [HLEN.out]; omega) (by rw [HLEN.out]; omega) hl.out HI3.out HB3.out (by rw [cell_of_row W3 b 2 _ _ _ HH3.out, HLEN.out]; rfl) (by rw [HLEN.out]; exact HR3.out)
    refine e3.mono ?_
    rintro e W4 ⟨rfl, K4⟩
    clear e3
    have HH4 := hid ((K4.block b (Array.getElem?_eq_some_iff.1 HH3.out).1 (fun e => e)).trans HH3.out)
    have HR4 : Hid (Row 0 W4 (.slice (some ⟨g, 0, none⟩) (l.length + 1) cap) (l ++ [t])) := hid (K4.row HR3.out (fun _ _ e => e))
    have hb4 : W4.cell? ⟨w.heap.size, 0, none⟩ = some (.pointer (some ⟨b, 0, none⟩)) := K4.cellS HB3.out (fun e => e)
    have HKP4 := hid (HKP3.out.trans' (T := Mine b kv) K4 (fun _ h => h) (fun _ _ h => h.elim))
    have hlt4 : w.heap.size < W4.heap.size := World.block_lt_of_cell? _ _ hb4
    have k2 : W4.cell? ⟨b, 2, none⟩ = some (.slice (some ⟨g, 0, none⟩) (l.length + 1) cap) := by rw [cell_of_row W4 b 2 _ _ _ HH4.out]; rfl
    obtain ⟨hi1, hi2⟩ := bestIdx_bd (l ++ [t]) (by rw [HLEN.out]; omega)
    rw [HLEN.out] at hi2
    have kx : W4.cell? ⟨g, bestIdx (l ++ [t]), none⟩ = some (.int .i64 ((l ++ [t])[bestIdx (l ++ [t])]?.getD 0)) := cells_at HR4.out _ (by rw [HLEN.out]; omega)
    have DEL := hid (fun W hr => delete_at g (l.length + 1) cap (bestIdx (l ++ [t])) (l ++ [t]) W HLEN.out hr (by omega) (by omega))
    clear HB3 HI3 HKP3 K4 HH3 HR3
    generalize hE1 : bestIdx (l ++ [t]) = at' at *
    generalize hE2 : (l ++ [t])[at']?.getD 0 = x at *
    have HE1 := hid hE1
    have HE2 := hid hE2
    clear hE1 hE2
    go_wp2_with fail
    have hwr : IntKind.i64.wrap ((at' : Int) + 1) = (at' : Int) + 1 := by rw [IntKind.wrap_i64]; omega
    have hb5 : b < W4.heap.size := (Array.getElem?_eq_some_iff.1 HH4.out).1
    have hgw := hid (show ¬ (some g : Option Nat) = some w.heap.size by intro e; cases e; rcases HAT.out with h | h; exact Nat.lt_irrefl _ (H.out.row.lt _ h).2; omega)
    have hgb' := hid (show ¬ (some g : Option Nat) = some b from fun e => HGB.out (by cases e; rfl))
    have fz4 : Hid (W4.frozen? ⟨b, 2, none⟩ = false) := by show _ = _; simp [World.frozen?, HH4.out]
    go_cut [] from 72 to 82 (fun wx => Deleted W4 b g ev mo gn t ((l ++ [t]).eraseIdx at') wx)
    case first =>
      go_region_with (go_at_call 33; refine (DEL.out _ (by exact HR4.out)).mono ?_; rintro e w5 ⟨c', rfl, hr5, k5⟩; have c5 := k5.cellS (p := ⟨w.heap.size, 0, none⟩) (by exact hb4) hgw.out; have c6 := k5.cellS (p := ⟨b, 2, none⟩) (by exact k2) hgb'.out; have f6 : w5.frozen? ⟨b, 2, none⟩ = false := (by rw [k5.frozen (p := ⟨b, 2, none⟩) hb5 hgb'.out]; exact fz4.out); have HD := hid (deleted_of ((Keeps.refl No W4).drew) HH4.out HGB.out hr5 rfl k5); clear hr5 k5)
      all_goals
        go_wp2_with fail
        go_meet
        exact HD.out
    case rest =>
      obtain ⟨v, hh6, hr6, ho6, hk6⟩ := hcut
      have HH6 := hid hh6
      have HR6 := hid hr6
      have HO6 := hid ho6
      have HK6 := hid hk6
      have c6 : wc.cell? ⟨w.heap.size, 0, none⟩ = some (.pointer (some ⟨b, 0, none⟩)) := hk6.cellS hb4 (by rintro (h | h); exact Nat.lt_irrefl _ (h ▸ H.out.lt); exact hgw.out (congrArg some h.symm))
      have d6 : wc.cell? ⟨b, 3, none⟩ = some (.int .i64 gn) := by rw [cell_of_row wc b 3 _ _ _ hh6]; rfl
      have f6 : wc.frozen? ⟨b, 3, none⟩ = false := by simp [World.frozen?, hh6]
      have hg1 := H.out.gn1
      have hg2 : gn ≤ 1099511627777 := by have := H.out.gn2; have := H.out.la2; omega
      clear hh6 hr6 ho6 hk6 hb4 k2 kx
      go_wp2
      go_ret3
      obtain rfl := HE2.out
      obtain rfl := HE1.out
      have K7 : Keeps (fun k => k = b ∨ k = g) W4 (wc.setCell ⟨b, 3, none⟩ (.int .i64 (gn + 1))) := HK6.out.setCell (p := ⟨b, 3, none⟩) (.inl (.inl rfl)) _
      refine ⟨rfl, v, hnew.out _ v (heap_setCell_row HH6.out) ((Keeps.set_at wc b 3 _).row HR6.out (fun k hk2 => by rw [HO6.out] at hk2; cases hk2; exact HGB.out)) (by rw [HO6.out]; exact hgb'.out), ?_, ?_⟩
      · refine HKP4.out.trans' K7 (fun _ h => h) ?_
        rintro i hi (h | h)
        · exact .inl h
        · rcases HAT.out with h2 | h2
          · exact .inr (by rw [h2, h])
          · omega
      · intro k hk
        rw [HO6.out] at hk
        cases hk
        rcases HAT.out with h2 | h2
        · exact .inl h2
        · exact .inr (by omega)

end Go.Proofs.Ytpnhmcgabnifdaa
