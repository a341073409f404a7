/- Log: the document's Turns. -/
import Derived.Test.YtnbhphjpefagjaaW
namespace Go.Proofs.Ytnbhphjpefagjaa
open Go.RowKit

def RefTurnsPost (zs : List Int) (w : World) (e : Ending) (w' : World) : Prop :=
  Keeps No w w' ∧ (allIn zs → ∃ a c, e = .returned (.tuple #[.slice a (turnsOf zs).length c, .int .i64 0]) ∧ TRow w.heap.size w' (.slice a (turnsOf zs).length c) (turnsOf zs)) ∧
  (¬ allIn zs → e = .returned (.tuple #[.slice none 0 0, .int .i64 2]))

theorem trow_appended {B : Nat} {w1 : World} {v : Value} {l : List (Int × Int)} {t : Int} {g' cap' : Nat} (h : w1.ownsRow B 57 2 (.slice (some ⟨g', 0, none⟩) (l.length + 1) cap') (l.length + 1) (cells2 l ++ [.int .i64 t, .int .i64 1])) (hv : v = .slice (some ⟨g', 0, none⟩) (l ++ [(t, (1 : Int))]).length cap') : TRow B w1 v (l ++ [(t, 1)]) := by
  subst hv
  unfold TRow
  rw [cells2_snoc]
  simpa using h

set_option maxHeartbeats 2000000 in
theorem refturns_any (a : Option Addr) (cap n : Nat) (zs : List Int) (w : World) (HN : Hid (zs.length = n)) (hm : n ≤ 60000) (HA : Hid (NumsAt .i64 w a zs)) :
    Calls Try.prog 24 #[.slice a n cap] w (RefTurnsPost zs w) := by
  obtain ⟨i0, hi, hz0, hz1, hz2⟩ := info_parts Try.info57
  have HI := hid hi
  have HZ0 := hid hz0
  have HZ1 := hid hz1
  have HZ2 := hid hz2
  clear hi hz0 hz1 hz2
  go_enter Try.func24, Try.ntmps24
  go_wp2_with fail
  go_loopw [4, 5] (fun out i wr => ∃ k : Nat, k ≤ n ∧ i = .int .i64 k ∧ (∀ z ∈ zs.take k, 0 ≤ z ∧ z ≤ 7) ∧ (∃ a c, out = .slice a (turnsOf (zs.take k)).length c) ∧ TRow w.heap.size wr out (turnsOf (zs.take k)) ∧ Few k (turnsOf (zs.take k)) ∧ Keeps No w wr) (fun _ i _ => n - (intOf i).toNat)
  case atStart => exact ⟨0, Nat.zero_le _, rfl, by simp, ⟨none, 0, rfl⟩, World.ownsRow_nil _ _ _ _, ⟨by simp [turnsOf], by simp [turnsOf]⟩, Keeps.refl No w⟩
  case round =>
    obtain ⟨k, hk, rfl, hall, ⟨ao, co, rfl⟩, hbx, hfew, hkk⟩ := hrel
    have HALL := hid hall
    have HBX := hid hbx
    have HFEW := hid hfew
    have HKK := hid hkk
    clear hall hbx hfew hkk
    by_cases hlt : k < n
    · obtain ⟨g, off, rfl, hc⟩ := HA.out.resolve_left (by rintro rfl; have := HN.out; simp at this; omega)
      have x1 := HKK.out.cellS (p := ⟨g, off + k, none⟩) (hc k (by rw [HN.out]; exact hlt)) (fun e => e)
      have x0 := fun h0 : 0 < k => HKK.out.cellS (p := ⟨g, off + (k - 1), none⟩) (hc (k - 1) (by rw [HN.out]; omega)) (fun e => e)
      have HX0 := hid x0
      have HS := hid (turnsOf_succ zs k (by rw [HN.out]; exact hlt))
      have HL := hid (fun h0 : 0 < k => (show ∃ l y, turnsOf (zs.take k) = l ++ [(zs[k - 1]?.getD 0, y)] from by have := turnsOf_last zs (k - 1) (by rw [HN.out]; omega); rwa [Nat.sub_add_cancel h0] at this))
      have hmem : zs[k]?.getD 0 ∈ zs := by have h : k < zs.length := (by rw [HN.out]; exact hlt); simp [h]
      have HMEM := hid hmem
      have htk : Hid (zs.take (k + 1) = zs.take k ++ [zs[k]?.getD 0]) := hid (by have h : k < zs.length := (by rw [HN.out]; exact hlt); rw [List.take_succ_eq_append_getElem h]; simp [h])
      clear hc hmem x0
      generalize zs[k]?.getD 0 = t at *
      by_cases ht : 0 ≤ t ∧ t ≤ 7
      · have HT := hid ht
        have ht1 : ¬ t < 0 := by omega
        have ht2 : ¬ 7 < t := by omega
        clear ht
        have hLf := HFEW.out.1
        rcases Nat.eq_zero_or_pos k with hk0 | hk0
        · have q0 : ¬ (0 : Int) < (k : Int) := by omega
          have hST : stepT (turnsOf (zs.take k)) t = turnsOf (zs.take k) ++ [(t, 1)] := by rw [hk0]; rfl
          have qd : decide (0 < k) = false := by simp; omega
          clear hk0
          go_wp2_with fail
          go_quiet (fail)
          have HBD : Hid (TRow w.heap.size (wr.drewN nq) (.slice ao (turnsOf (zs.take k)).length co) (turnsOf (zs.take k))) := hid ((Keeps.refl No wr).drewN nq |>.row HBX.out (fun _ _ e => e))
          have HKD := hid (HKK.out.trans ((Keeps.refl No wr).drewN nq))
          have x1d : (wr.drewN nq).cell? ⟨g, off + k, none⟩ = some (.int .i64 t) := x1
          generalize wr.drewN nq = wd at *
          have hsz := HKD.out.size
          go_wp2_with (at_builtin; go_must (refine wpList_append_lies _ rfl (.tmp 48) (.tmp 54) 23 rfl w.heap.size 57 i0 (.agg #[.int .i64 0, .int .i64 0]) 2 16 Try.underlying23 HI.out HZ0.out HZ1.out HZ2.out rfl (by decide) (.slice ao (turnsOf (zs.take k)).length co) (turnsOf (zs.take k)).length (cells2 (turnsOf (zs.take k))) rfl (World.ownsRow.alloc HBD.out _) ⟨wd.heap.size, 0, none⟩ 1 1 [.int .i64 t, .int .i64 1] rfl rfl (new_cells wd #[.int .i64 t, .int .i64 1] 57) (by simp [Value.oneCell']) (by omega) (by unfold maxLen; omega) (by omega) (by simp; omega) (wd.heap.size + 1) (by simp) ?_); intro g' cap' w1 hown hgrow hat hgl; have HOWN := hid hown; have HGR := hid hgrow; clear hown hgrow hat hgl)
          go_roundw
          case rel =>
            have hn : (stepT (turnsOf (zs.take k)) t).length = (turnsOf (zs.take k)).length + 1 := by rw [hST]; simp
            refine ⟨k + 1, by omega, by go_num, ?_, ⟨some ⟨g', 0, none⟩, cap', by rw [HS.out, hn]⟩, ?_, by rw [HS.out]; exact stepT_few HFEW.out t, ?_⟩
            · rw [htk.out]
              intro z hz
              rcases List.mem_append.1 hz with h | h
              · exact HALL.out z h
              · simp at h; subst h; exact HT.out
            · rw [HS.out, hST]; exact trow_appended HOWN.out (by simp)
            · exact (HKD.out.alloc _).trans' ((Keeps.refl (fun k => w.heap.size ≤ k) _).grown HGR.out (fun k hk => .inl (HBD.out.lt k hk).1)) (fun _ h => h) (fun i hi e => by omega)
          case measure => simp [intOf]; omega
        · obtain ⟨l, y, hly⟩ := HL.out hk0
          have x0 := HX0.out hk0
          generalize zs[k - 1]?.getD 0 = x at *
          have q0 : (0 : Int) < (k : Int) := by omega
          have qd : decide (0 < k) = true := by simp; omega
          have q2 : IntKind.i64.wrap ((k : Int) - 1) = ((k - 1 : Nat) : Int) := by rw [IntKind.wrap_i64]; omega
          by_cases hx : x = t
          · subst hx
            have hlen : (turnsOf (zs.take k)).length = l.length + 1 := by rw [hly]; simp
            have hST : stepT (turnsOf (zs.take k)) x = l ++ [(x, y + 1)] := by rw [hly]; exact stepT_same l x y
            have hyf := HFEW.out.2 (x, y) (by rw [hly]; simp)
            simp only at hyf
            have HR := HBX.out
            unfold TRow at HR
            rw [hly, List.length_append, List.length_cons, List.length_nil] at HR
            simp only [Nat.zero_add] at HR
            rcases HR.2 with ⟨hv, hn⟩ | ⟨go, cap', cur, hv, hb, hg, hnc, hcm, hcs, htt⟩
            · omega
            · cases hv
              obtain ⟨c1, c2⟩ := cells2_at (l ++ [(x, y)]) l.length (by simp)
              rw [← htt, List.getElem?_take, if_pos (by omega)] at c1 c2
              have HRH := hid HR
              have y1 : wr.cell? ⟨go, (l.length + 1 - 1) * 2 + 1, none⟩ = some (.int .i64 y) := by rw [cell_of_row wr _ _ _ _ _ hg]; simpa using c2
              have f1 := froz (i := (l.length + 1 - 1) * 2 + 1) hg
              have hdr : ∀ m, wr.drewN m = wr.drewN m := fun _ => rfl
              have HLEN := hid hlen
              have HB := hid hb
              clear hg hcs htt c1 c2 HR hly hb hlen
              rw [HLEN.out]
              go_wp2_with fail
              go_quiet (fail)
              have y1d : (wr.drewN nq).cell? ⟨go, (l.length + 1 - 1) * 2 + 1, none⟩ = some (.int .i64 y) := y1
              have f1d : (wr.drewN nq).frozen? ⟨go, (l.length + 1 - 1) * 2 + 1, none⟩ = false := f1
              have HRD : Hid ((wr.drewN nq).ownsRow w.heap.size 57 2 (.slice (some ⟨go, 0, none⟩) (l.length + 1) co) (l.length + 1) (cells2 (l ++ [(x, y)]))) := hid ((Keeps.refl No wr).drewN nq |>.row HRH.out (fun _ _ e => e))
              have HKD := hid (HKK.out.trans ((Keeps.refl No wr).drewN nq))
              generalize wr.drewN nq = wd at *
              have hL1 : 1 ≤ l.length + 1 := by omega
              have HLL : Hid (l.length + 1 - 1 = l.length) := hid (by omega)
              rw [HLEN.out] at hLf
              generalize hm1 : l.length + 1 = m1 at *
              have q4 : (1 : Int) ≤ (m1 : Int) := by omega
              have q5 : IntKind.i64.wrap ((m1 : Int) - 1) = (m1 : Int) - 1 := by rw [IntKind.wrap_i64]; omega
              have q6 : IntKind.i64.wrap (y + 1) = y + 1 := by rw [IntKind.wrap_i64]; omega
              have HM1 := hid hm1
              clear hm1
              go_wp2_with fail
              go_roundw
              case rel =>
                have hn : (stepT (turnsOf (zs.take k)) x).length = m1 := by rw [hST, ← HM1.out]; simp
                have hK := Keeps.set_at wd go (l.length * 2 + 1) (.int .i64 (y + 1))
                rw [HLL.out]
                refine ⟨k + 1, by omega, by go_num, ?_, ⟨some ⟨go, 0, none⟩, co, by rw [HS.out, hn]⟩, ?_, by rw [HS.out]; exact stepT_few HFEW.out x, ?_⟩
                · rw [htk.out]
                  intro z hz
                  rcases List.mem_append.1 hz with h | h
                  · exact HALL.out z h
                  · simp at h; subst h; exact HT.out
                · rw [HS.out]
                  unfold TRow
                  rw [hn, hST, ← cells2_inc l x y (y + 1)]
                  exact row_set HRD.out _ _
                · exact HKD.out.trans' hK (fun _ h => h) (fun i hi e => by have := HB.out; omega)
              case measure => simp [intOf]; omega
          · have hxb : (x == t) = false := by simpa using hx
            have hST : stepT (turnsOf (zs.take k)) t = turnsOf (zs.take k) ++ [(t, 1)] := by rw [hly]; exact stepT_other l t x y hx
            clear hly
            go_wp2_with fail
            go_quiet (fail)
            have HBD : Hid (TRow w.heap.size (wr.drewN nq) (.slice ao (turnsOf (zs.take k)).length co) (turnsOf (zs.take k))) := hid ((Keeps.refl No wr).drewN nq |>.row HBX.out (fun _ _ e => e))
            have HKD := hid (HKK.out.trans ((Keeps.refl No wr).drewN nq))
            have x1d : (wr.drewN nq).cell? ⟨g, off + k, none⟩ = some (.int .i64 t) := x1
            generalize wr.drewN nq = wd at *
            have hsz := HKD.out.size
            go_wp2_with (at_builtin; go_must (refine wpList_append_lies _ rfl (.tmp 48) (.tmp 54) 23 rfl w.heap.size 57 i0 (.agg #[.int .i64 0, .int .i64 0]) 2 16 Try.underlying23 HI.out HZ0.out HZ1.out HZ2.out rfl (by decide) (.slice ao (turnsOf (zs.take k)).length co) (turnsOf (zs.take k)).length (cells2 (turnsOf (zs.take k))) rfl (World.ownsRow.alloc HBD.out _) ⟨wd.heap.size, 0, none⟩ 1 1 [.int .i64 t, .int .i64 1] rfl rfl (new_cells wd #[.int .i64 t, .int .i64 1] 57) (by simp [Value.oneCell']) (by omega) (by unfold maxLen; omega) (by omega) (by simp; omega) (wd.heap.size + 1) (by simp) ?_); intro g' cap' w1 hown hgrow hat hgl; have HOWN := hid hown; have HGR := hid hgrow; clear hown hgrow hat hgl)
            go_roundw
            case rel =>
              have hn : (stepT (turnsOf (zs.take k)) t).length = (turnsOf (zs.take k)).length + 1 := by rw [hST]; simp
              refine ⟨k + 1, by omega, by go_num, ?_, ⟨some ⟨g', 0, none⟩, cap', by rw [HS.out, hn]⟩, ?_, by rw [HS.out]; exact stepT_few HFEW.out t, ?_⟩
              · rw [htk.out]
                intro z hz
                rcases List.mem_append.1 hz with h | h
                · exact HALL.out z h
                · simp at h; subst h; exact HT.out
              · rw [HS.out, hST]; exact trow_appended HOWN.out (by simp)
              · exact (HKD.out.alloc _).trans' ((Keeps.refl (fun k => w.heap.size ≤ k) _).grown HGR.out (fun k hk => .inl (HBD.out.lt k hk).1)) (fun _ h => h) (fun i hi e => by omega)
            case measure => simp [intOf]; omega
      · have HTN : Hid (¬ (0 ≤ t ∧ t ≤ 7)) := hid ht
        clear ht
        by_cases hlo : t < 0
        · go_wp2_with fail
          go_ret2
          exact ⟨HKK.out, fun h => (HTN.out (h t HMEM.out)).elim, fun _ => rfl⟩
        · have h7 : 7 < t := Classical.byContradiction fun e => HTN.out (by omega)
          go_wp2_with fail
          go_ret2
          exact ⟨HKK.out, fun h => (HTN.out (h t HMEM.out)).elim, fun _ => rfl⟩
    · obtain rfl : k = n := by omega
      have hzk : zs.take k = zs := by rw [← HN.out]; exact List.take_length
      rw [hzk] at HBX HFEW HALL ⊢
      clear hzk
      have hfl := HFEW.out.1
      have hzl := HN.out
      have qd : decide (65536 < (turnsOf zs).length) = false := by simp; omega
      generalize hL : (turnsOf zs).length = L at *
      go_wp2_with fail
      go_ret2
      refine ⟨HKK.out, fun _ => ⟨ao, co, by rw [hL]; rfl, by rw [hL]; exact HBX.out⟩, fun h => (h HALL.out).elim⟩

end Go.Proofs.Ytnbhphjpefagjaa
