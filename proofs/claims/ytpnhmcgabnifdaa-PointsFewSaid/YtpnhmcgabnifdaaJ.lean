/- Points: Come. -/
import Derived.Test.YtpnhmcgabnifdaaH
import Derived.Test.YtpnhmcgabnifdaaI
import Derived.Deep.AppendLies
import Derived.Deep.RegionLaw
import Derived.Deep.DeepCutAuto
namespace Go.Proofs.Ytpnhmcgabnifdaa
open Go.RowKit

/-- The blocks that points at b with the row kv may write. -/
def Mine (b : Nat) (kv : Value) : Nat → Prop := fun k => k = b ∨ kv.ownBlock = some k

def ComeOk (b : Nat) (ev mo : Int) (kv : Value) (w : World) (keep : Bool) (gone err : Int) (l' : List Int) (gn' la' : Int) (e : Ending) (w' : World) : Prop :=
  e = .returned (.tuple #[.bool keep, .int .i64 gone, .int .i64 err]) ∧ ∃ kv', Pts w' b ev mo kv' l' gn' la' ∧ Keeps (Mine b kv) w w' ∧ (∀ k, kv'.ownBlock = some k → kv.ownBlock = some k ∨ w.heap.size ≤ k)

set_option maxHeartbeats 400000 in
theorem come_nil (t : Int) (w : World) :
    Calls Try.prog 17 #[.pointer none, .int .i64 t] w fun e w' => e = .returned (.tuple #[.bool false, .int .i64 0, .int .i64 1]) ∧ Keeps No w w' := by
  go_enter Try.func17, Try.ntmps17
  go_wp2_with (go_at_call 29; refine (none_nil _).mono ?_; rintro e w' ⟨rfl, rfl⟩)
  go_ret3
  exact ⟨rfl, (Keeps.refl _ _).alloc _⟩

set_option maxHeartbeats 400000 in
theorem come_arg {w : World} {b : Nat} {ev mo gn la : Int} {kv : Value} {l : List Int} (t : Int) (h : Pts w b ev mo kv l gn la) (ht : t < 0 ∨ (0 ≤ t ∧ 1099511627776 < t) ∨ (0 ≤ t ∧ t ≤ 1099511627776 ∧ t ≤ la)) :
    Calls Try.prog 17 #[.pointer (some ⟨b, 0, none⟩), .int .i64 t] w (ComeOk b ev mo kv w false 0 2 l gn la) := by
  have h0 : (w.alloc (.cells #[.pointer (some ⟨b, 0, none⟩)] 25)).cell? ⟨b, 0, none⟩ = some (.int .i64 ev) := by rw [World.cell?_alloc_lt _ _ _ h.lt]; exact h.c0
  have h4 := h.c4
  have hz := h.nz
  have hlt := h.lt
  have H := hid h
  have fin : ComeOk b ev mo kv w false 0 2 l gn la (.returned (.tuple #[.bool false, .int .i64 0, .int .i64 2])) (w.alloc (.cells #[.pointer (some ⟨b, 0, none⟩)] 25)) :=
    ⟨rfl, kv, h.keepNo ((Keeps.refl _ _).alloc _), (Keeps.refl _ _).alloc _, fun k hk => .inl hk⟩
  have FIN := hid fin
  clear h fin
  rcases ht with ht | ⟨ht, ht2⟩ | ⟨ht, ht2, ht3⟩
  all_goals
    go_enter Try.func17, Try.ntmps17
    go_wp2_with (go_at_call 29; refine (none_some b ev _ h0 hz).mono ?_; rintro e w' ⟨rfl, rfl⟩)
    go_ret3
    exact FIN.out

theorem Pts.later {w w' : World} {b : Nat} {ev mo gn la t : Int} {kv : Value} {l : List Int} (h : Pts w b ev mo kv l gn la) (hh : w'.heap[b]? = some (.cells #[.int .i64 ev, .int .i64 mo, kv, .int .i64 gn, .int .i64 t] 60 (0, 0)))
    (hk : Keeps (fun k => k = b) w w') (h1 : la < t) (h2 : t ≤ 1099511627776) : Pts w' b ev mo kv l gn t :=
  { h with
    heap := hh
    row := hk.row h.row (fun k hk2 e => h.apart (by rw [hk2, e]))
    hi := fun j hj => by have := h.hi j hj; omega
    la1 := by have := h.la1; omega
    la2 := h2
    gn2 := by have := h.gn2; omega }

theorem heap_pts_last {w : World} {b : Nat} {ev mo gn la t : Int} {kv : Value} (h : w.heap[b]? = some (.cells #[.int .i64 ev, .int .i64 mo, kv, .int .i64 gn, .int .i64 la] 60 (0, 0))) :
    (w.setCell ⟨b, 4, none⟩ (.int .i64 t)).heap[b]? = some (.cells #[.int .i64 ev, .int .i64 mo, kv, .int .i64 gn, .int .i64 t] 60 (0, 0)) := heap_setCell_row h

set_option maxHeartbeats 400000 in
theorem come_not {w : World} {b : Nat} {ev mo gn la : Int} {kv : Value} {l : List Int} (t : Int) (h : Pts w b ev mo kv l gn la) (ht1 : 0 ≤ t) (ht2 : t ≤ 1099511627776) (ht3 : la < t) (hr : (t % ev == 0) = false) :
    Calls Try.prog 17 #[.pointer (some ⟨b, 0, none⟩), .int .i64 t] w (ComeOk b ev mo kv w false (-1) 0 l gn t) := by
  have h0 : (w.alloc (.cells #[.pointer (some ⟨b, 0, none⟩)] 25)).cell? ⟨b, 0, none⟩ = some (.int .i64 ev) := by rw [World.cell?_alloc_lt _ _ _ h.lt]; exact h.c0
  have h1 := h.c0
  have h4 := h.c4
  have hf := h.fz 4
  have hz := h.nz
  have hlt := h.lt
  have he1 := h.ev1
  have he2 := h.ev2
  have H := hid h
  have hk : Keeps (fun k => k = b) w ((w.setCell ⟨b, 4, none⟩ (.int .i64 t)).alloc (.cells #[.pointer (some ⟨b, 0, none⟩)] 25)) := (Keeps.set_at w b 4 _).alloc _
  have fin : ComeOk b ev mo kv w false (-1) 0 l gn t (.returned (.tuple #[.bool false, .int .i64 (-1), .int .i64 0])) ((w.setCell ⟨b, 4, none⟩ (.int .i64 t)).alloc (.cells #[.pointer (some ⟨b, 0, none⟩)] 25)) :=
    ⟨rfl, kv, h.later ((Below.heap_alloc _ _ _ (by simp; exact h.lt)).trans (heap_pts_last h.heap)) hk ht3 ht2, hk.mono (fun i hi => .inl hi), fun k hk => .inl hk⟩
  have FIN := hid fin
  clear h fin hk
  go_enter Try.func17, Try.ntmps17
  go_wp2_with (go_at_call 29; refine (none_some b ev _ h0 hz).mono ?_; rintro e w' ⟨rfl, rfl⟩)
  go_ret3
  exact FIN.out

/-- Behind the append: a time more is kept. -/
def Appended (w : World) (b : Nat) (ev mo gn t : Int) (kv : Value) (l : List Int) (wx : World) : Prop :=
  ∃ g cap, wx.heap[b]? = some (.cells #[.int .i64 ev, .int .i64 mo, .slice (some ⟨g, 0, none⟩) (l.length + 1) cap, .int .i64 gn, .int .i64 t] 60 (0, 0)) ∧
    wx.ownsRow 0 3 1 (.slice (some ⟨g, 0, none⟩) (l.length + 1) cap) (l.length + 1) (l.map (Value.int .i64) ++ [.int .i64 t]) ∧ g ≠ b ∧ Keeps (Mine b kv) w wx ∧ (kv.ownBlock = some g ∨ w.heap.size + 1 < g) ∧
    wx.cell? ⟨w.heap.size, 0, none⟩ = some (.pointer (some ⟨b, 0, none⟩)) ∧ w.heap.size < wx.heap.size

theorem appended_of {w W1 w1 : World} {b : Nat} {ev mo gn t : Int} {kv : Value} {l : List Int} (hk : Keeps (fun k => k = b) w W1) (hp : Pts W1 b ev mo kv l gn t) (hsz : W1.heap.size = w.heap.size + 1) (hbox : W1.cell? ⟨w.heap.size, 0, none⟩ = some (.pointer (some ⟨b, 0, none⟩)))
    (hown0 : ∀ k, kv.ownBlock = some k → k < w.heap.size) (hlt : b < w.heap.size)
    (g cap : Nat) (hown : w1.ownsRow 0 3 1 (.slice (some ⟨g, 0, none⟩) (l.length + 1) cap) (l.length + 1) (l.map (Value.int .i64) ++ [.int .i64 t])) (hgrow : (W1.alloc (.cells #[.int .i64 t] 3)).drew.grownBy w1 kv.ownBlock)
    (hat : kv.ownBlock = some g ∨ g = W1.heap.size + 1) : Appended w b ev mo gn t kv l (w1.setCell ⟨b, 2, none⟩ (.slice (some ⟨g, 0, none⟩) (l.length + 1) cap)) := by
  have hgb : g ≠ b := by
    rintro rfl
    rcases hat with h | h
    · exact hp.apart h
    · omega
  have hbk : (some b : Option Nat) ≠ kv.ownBlock := fun e => hp.apart e.symm
  have hb : w1.heap[b]? = some (.cells #[.int .i64 ev, .int .i64 mo, kv, .int .i64 gn, .int .i64 t] 60 (0, 0)) :=
    (hgrow.block b (Nat.lt_of_lt_of_le hp.lt (by simp)) hbk).trans ((Below.heap_alloc W1 _ b hp.lt).trans hp.heap)
  have hK1 : Keeps (Mine b kv) w w1 := by
    have h1 : Keeps (Mine b kv) w (W1.alloc (.cells #[.int .i64 t] 3)).drew := ((hk.mono (fun i hi => .inl hi)).alloc _).drew
    exact h1.grown hgrow (fun k hk => .inl (.inr hk))
  refine ⟨g, cap, heap_setCell_row hb, (Keeps.set_at w1 b 2 _).row hown (fun k hk => by cases hk; exact hgb), hgb, hK1.setCell (p := ⟨b, 2, none⟩) (.inl (.inl rfl)) _, ?_, ?_, ?_⟩
  · rcases hat with h | h
    · exact .inl h
    · exact .inr (by omega)
  · rw [World.cell?_setCell_other _ _ _ _ (fun e => by have := congrArg Addr.block e; simp at this; omega)]
    refine hgrow.cell (cell_alloc_of W1 _ hbox) (fun e => ?_)
    have := hown0 _ e.symm
    exact Nat.lt_irrefl _ this
  · have := hgrow.size
    simp at this ⊢
    omega

set_option maxHeartbeats 2000000 in
theorem come_room {w : World} {b : Nat} {ev mo gn la : Int} {kv : Value} {l : List Int} (t : Int) (h : Pts w b ev mo kv l gn la) (ht1 : 0 ≤ t) (ht2 : t ≤ 1099511627776) (ht3 : la < t) (hr : (t % ev == 0) = true) (hroom : ((l.length + 1 : Nat) : Int) ≤ mo)
    (hnew : Hid (∀ w' g cap, w'.heap[b]? = some (.cells #[.int .i64 ev, .int .i64 mo, .slice (some ⟨g, 0, none⟩) (l.length + 1) cap, .int .i64 gn, .int .i64 t] 60 (0, 0)) → w'.ownsRow 0 3 1 (.slice (some ⟨g, 0, none⟩) (l.length + 1) cap) (l.length + 1) (l.map (Value.int .i64) ++ [.int .i64 t]) → g ≠ b → Pts w' b ev mo (.slice (some ⟨g, 0, none⟩) (l.length + 1) cap) (l ++ [t]) gn t)) :
    Calls Try.prog 17 #[.pointer (some ⟨b, 0, none⟩), .int .i64 t] w (ComeOk b ev mo kv w true (-1) 0 (l ++ [t]) gn t) := by
  obtain ⟨i0, hi0, hz0, hz1, hz2⟩ := info_parts Try.info3
  have HI0 := hid hi0
  have HZ0 := hid hz0
  have HZ1 := hid hz1
  have HZ2 := hid hz2
  have h0 : (w.alloc (.cells #[.pointer (some ⟨b, 0, none⟩)] 25)).cell? ⟨b, 0, none⟩ = some (.int .i64 ev) := by rw [World.cell?_alloc_lt _ _ _ h.lt]; exact h.c0
  have h1 := h.c0
  have h4 := h.c4
  have hf := h.fz 4
  have hz := h.nz
  have hlt := h.lt
  have he1 := h.ev1
  have he2 := h.ev2
  have hmo := h.mo2
  have H := hid h
  clear h hi0 hz0 hz1 hz2
  go_enter Try.func17, Try.ntmps17
  go_wp2_with (go_at_call 29; refine (none_some b ev _ h0 hz).mono ?_; rintro e w' ⟨rfl, rfl⟩)
  have hk : Keeps (fun k => k = b) w ((w.setCell ⟨b, 4, none⟩ (.int .i64 t)).alloc (.cells #[.pointer (some ⟨b, 0, none⟩)] 25)) := (Keeps.set_at w b 4 _).alloc _
  have hp := H.out.later ((Below.heap_alloc _ (.cells #[.pointer (some ⟨b, 0, none⟩)] 25) _ (by simp; exact H.out.lt)).trans (heap_pts_last H.out.heap)) hk ht3 ht2
  have hbox : ((w.setCell ⟨b, 4, none⟩ (.int .i64 t)).alloc (.cells #[.pointer (some ⟨b, 0, none⟩)] 25)).cell? ⟨w.heap.size, 0, none⟩ = some (.pointer (some ⟨b, 0, none⟩)) := by simp [go_sem]
  have hsz : ((w.setCell ⟨b, 4, none⟩ (.int .i64 t)).alloc (.cells #[.pointer (some ⟨b, 0, none⟩)] 25)).heap.size = w.heap.size + 1 := by simp
  generalize (w.setCell ⟨b, 4, none⟩ (.int .i64 t)).alloc (.cells #[.pointer (some ⟨b, 0, none⟩)] 25) = W1 at *
  have HSZ := hid hsz
  have HK := hid hk
  have HP := hid hp
  have d2 := hp.c2
  have hown0 : ∀ k, kv.ownBlock = some k → k < w.heap.size := fun k hk => (H.out.row.lt k hk).2
  have hwb := hid (fun (e : (some w.heap.size : Option Nat) = kv.ownBlock) => Nat.lt_irrefl _ (hown0 _ e.symm))
  have hbb := hid (fun (e : (some b : Option Nat) = kv.ownBlock) => HP.out.apart e.symm)
  have APP := hid (fun w1 => appended_of (w1 := w1) hk hp hsz hbox hown0 H.out.lt)
  have hb1 : b < W1.heap.size := HP.out.lt
  have hb2 : w.heap.size < W1.heap.size := by rw [HSZ.out]; omega
  clear hown0 hsz hk hp h0 h1 h4 hf hz
  go_cut [] from 40 to 49 (fun wx => Appended w b ev mo gn t kv l wx)
  case first =>
    go_region_law (refine step_append_lies _ rfl (.tmp 44) (.tmp 46) 22 rfl 0 3 i0 (.int .i64 0) 1 8 Try.underlying22 HI0.out HZ0.out HZ1.out HZ2.out rfl (by decide) kv l.length (l.map (Value.int .i64)) (by simp [Act.eval]) (HP.out.row.alloc _) ⟨W1.heap.size, 0, none⟩ 1 1 [.int .i64 t] (by simp [Act.eval]) rfl (new_one W1 _ _) (by simp [Value.oneCell']) (by omega) (by unfold maxLen; omega) (by omega) (Nat.zero_le _) (W1.heap.size + 1) (by simp) ?_; intro g cap w1 hown hgrow hat hlt; have k0 := hgrow.cell (cell_alloc_of W1 _ hbox) hwb.out; have k2 := hgrow.cell (cell_alloc_of W1 _ d2) hbb.out; have kf : w1.frozen? ⟨b, 2, none⟩ = false := (by simp [World.frozen?, (hgrow.block b (Nat.lt_of_lt_of_le HP.out.lt (by simp)) hbb.out).trans ((Below.heap_alloc W1 _ b HP.out.lt).trans HP.out.heap)]); have HA := hid (APP.out w1 g cap hown hgrow hat); clear hown hgrow hat)
    all_goals
      go_wp2_with fail
      go_meet
      exact HA.out
  case rest =>
    obtain ⟨g, cap, hh, hrow, hgb, hkp, hat, hbx, hlt2⟩ := hcut
    have k1 : wc.cell? ⟨b, 1, none⟩ = some (.int .i64 mo) := by rw [cell_of_row wc b 1 _ _ _ hh]; rfl
    have k2 : wc.cell? ⟨b, 2, none⟩ = some (.slice (some ⟨g, 0, none⟩) (l.length + 1) cap) := by rw [cell_of_row wc b 2 _ _ _ hh]; rfl
    have HH := hid hh
    have HR := hid hrow
    have HKP := hid hkp
    have HAT := hid hat
    have HGB := hid hgb
    clear hh hrow hkp hat hgb d2
    go_wp2
    go_quiet (fail)
    go_wp2
    go_ret3
    refine ⟨rfl, _, hnew.out _ g cap HH.out HR.out HGB.out, HKP.out.drewN _, fun k hk => ?_⟩
    cases hk
    rcases HAT.out with h | h
    · exact .inl h
    · exact .inr (by show w.heap.size ≤ g; omega)

end Go.Proofs.Ytpnhmcgabnifdaa
