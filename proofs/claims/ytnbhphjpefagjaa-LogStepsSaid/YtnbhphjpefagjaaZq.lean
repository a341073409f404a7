/- Log: an append of any slice, a string of any bytes; the law of any bytes. -/
import Derived.Test.YtnbhphjpefagjaaZo
import Derived.Laws.AppendOwnNone
namespace Go.Proofs.Ytnbhphjpefagjaa
open Go.RowKit

/-- An append of a slice that may be nil. -/
theorem wpList_append_any {P : Program} (w : World) {ops : Array Oper} {rest : List Oper} {o : Oper} {a : Act} {Q : Exit → Act → World → Prop} (hgd : o.guard = none) (s x : Operand) (t : TypeId)
    (ho : o.op = .call { callee := .builtin .append, args := #[s, x], argTypes := #[t, t] })
    (base : Nat) (e : TypeId) (i : TypeInfo) (z : Value) (size bytes : Nat) (ht : P.underlying t = some (.slice e)) (hi : P.info? e = some i) (hz : i.zero = some z)
    (hsize : i.size = size) (hby : i.bytes = bytes) (hzs : z.cells.size = size) (hsz : 0 < size)
    (v : Value) (n : Nat) (xs : List Value) (hs : a.eval s = v) (hown : w.ownsRow base e size v n xs)
    (ad : Option Addr) (m c : Nat) (news : List Value) (hx : a.eval x = .slice ad m c) (hn : ad = none → m = 0 ∧ c = 0) (hl : news.length = m * size) (hnews : ∀ p, ad = some p → ∀ j u, news[j]? = some u → w.cell? (p.add j) = some u) (h1 : ∀ u ∈ news, u.oneCell' = true)
    (h63 : n + m ≤ maxLen) (hbytes : (n + m) * bytes ≤ 140737488355328) (hbase : base ≤ w.heap.size)
    (h : ∀ v' w', w'.ownsRow base e size v' (n + m) (xs ++ news) → w.grownBy w' v.ownBlock → wpList P ops Q rest (a.put o.dst v') w') : wpList P ops Q (o :: rest) a w := by
  cases ad with
  | some p => exact wpList_append_own w hgd s x t ho base e i z size bytes ht hi hz hsize hby hzs hsz v n xs hs hown p m c news hx hl (hnews p rfl) h1 h63 hbytes hbase fun v' w' h2 h3 _ => h v' w' h2 h3
  | none =>
    obtain ⟨rfl, rfl⟩ := hn rfl
    obtain rfl : news = [] := List.length_eq_zero_iff.1 (by simpa using hl)
    refine wpList_append_own_none hgd s x t ho base e i size ht hi v n xs hs hown hx (h v w (by simpa using hown) ⟨rfl, rfl, rfl, Nat.le_refl _, fun _ _ _ => rfl⟩)

/-- The string of any bytes. -/
theorem run_convert_any {P : Program} (w : World) (src e : TypeId) (hs : P.underlying src = some (.slice e)) (he : P.underlying e = some (.int .u8)) (a : Option Addr) (len cap : Nat) (xs : List Int) (hlen : xs.length = len)
    (hA : NumsAt .u8 w a xs) : ∀ dst, P.underlying dst = some .string → (convert src dst (.slice a len cap)).run P w = .ok (.string (strOfNums xs)) w := by
  rcases hA with rfl | ⟨g, off, rfl, hc⟩
  · intro dst hd
    obtain rfl : len = 0 := hlen.symm
    cases a with
    | none =>
      rw [run_convert_bytes_nil w src e hs he 0 cap dst hd]
      rfl
    | some x =>
      have hl : (loadCells x 0).run P w = .ok (([] : List Int).map (Value.int .u8)).toArray w := by
        have := run_loadCells_list (P := P) w x [] (fun j v hj => by simp at hj)
        simpa using this
      rw [run_convert_bytes_string w src dst e _ 0 cap hs he hd, run_bytesToString w x 0 cap [] hl]
      rfl
  · exact run_convert_bytes_arg w src e hs he g off len cap xs hlen (fun i hi => by rw [hc i (by omega)]; simp [List.getD])

/-- The cells of numbers, as an append reads them. -/
theorem NumsAt.adds {k : IntKind} {w : World} {a : Option Addr} {l : List Int} (h : NumsAt k w a l) : ∀ p, a = some p → ∀ j u, (l.map (Value.int k))[j]? = some u → w.cell? (p.add j) = some u := by
  intro p hp j u hu
  rcases h with rfl | ⟨g, off, rfl, hc⟩
  · simp at hu
  · cases hp
    have hj : j < l.length := by have := (List.getElem?_eq_some_iff.1 hu).1; simpa using this
    rw [Addr.add_lit, hc j hj]
    simp [hj] at hu ⊢
    exact hu

/-- A row and one more behind it. -/
theorem row_last {k : IntKind} {w : World} {B n : Nat} {e : TypeId} {v : Value} {bs : List Int} {z : Int} (h : w.ownsRow B e 1 v (0 + n + 1) (([] ++ bs.map (Value.int k)) ++ [z].map (Value.int k))) :
    ∃ g c, v = .slice (some ⟨g, 0, none⟩) (n + 1) c ∧ Hid (NumsAt k w (some ⟨g, 0, none⟩) bs) ∧ Hid (w.cell? ⟨g, n, none⟩ = some (.int k z)) ∧ n + 1 ≤ c ∧ c ≤ 9223372036854775807 ∧ B ≤ g := by
  rw [List.nil_append, ← List.map_append, Nat.zero_add] at h
  have h2 := h.2
  rcases h2 with h2 | ⟨g', cap', cur, hv, hB, hb, h1, h2, -⟩
  · exact absurd h2.2 (by omega)
  · subst hv
    obtain ⟨hn, hl, -⟩ := ownsRow_nums h
    have hl' : bs.length = n := by simpa using hl
    obtain ⟨g2, off, he, hc⟩ := hn.resolve_left (by simp)
    cases he
    refine ⟨g', cap', rfl, hid (.inr ⟨g', 0, rfl, fun j hj => ?_⟩), hid ?_, h1, h2, hB⟩
    · rw [hc j (by simp; omega), List.getElem?_append_left hj]
    · have := hc n (by simp; omega)
      rw [Nat.zero_add] at this
      rw [this]
      simp [← hl']

set_option maxRecDepth 100000 in
set_option maxHeartbeats 4000000 in
theorem decodes_law (a : Option Addr) (cap n : Nat) (bs : List Int) (w : World) (HN : Hid (bs.length = n)) (hc : a = none → cap = 0) (hcn : n ≤ cap) (HA : Hid (NumsAt .u8 w a bs)) (HB : Hid (Bytes bs)) :
    Calls Try.prog 5 #[.slice a n cap] w fun e w' => e = .returned (.bool true) ∧ Keeps No w w' := by
  have HW := hid (fun W => works_any W)
  by_cases hm : n ≤ 3000
  · obtain ⟨i0, hi, hz0, hz1, hz2⟩ := info_parts Try.info5
    have HI := hid hi
    have HZ0 := hid hz0
    have HZ1 := hid hz1
    have HZ2 := hid hz2
    clear hi hz0 hz1 hz2
    have HNO : Hid (a = none → n = 0 ∧ cap = 0) := hid (fun h => ⟨by have := hc h; omega, hc h⟩)
    clear hc
    have HK0 := hid ((Keeps.refl No w).alloc (.cells #[] 5))
    go_enter Try.func5, Try.ntmps5
    go_wp2_with (first
      | (at_builtin; (refine wpList_append_any _ rfl (.tmp 12) (.tmp 13) 31 rfl w.heap.size 5 i0 (.int .u8 0) 1 1 Try.underlying31 HI.out HZ0.out HZ1.out HZ2.out rfl (by decide) _ 0 [] rfl (empty_row w) a n cap (bs.map (Value.int .u8)) rfl HNO.out (by simp [HN.out]) (HA.out.keep HK0.out (fun _ _ e => e)).adds (bytes_oneCell _) (by unfold maxLen; omega) (by omega) (by simp) ?_); intro v1 w1 hown hg; have HO := hid hown; have HK1 := hid (HK0.out.grown hg (fun k hk => .inr (by cases hk; exact Nat.le_refl _))); clear hown hg)
      | (at_builtin; (refine wpList_append_any _ rfl (.tmp 14) (.tmp 15) 31 rfl w.heap.size 5 i0 (.int .u8 0) 1 1 Try.underlying31 HI.out HZ0.out HZ1.out HZ2.out rfl (by decide) _ (0 + n) _ rfl (World.ownsRow.alloc HO.out _) (some ⟨w1.heap.size, 0, none⟩) 1 1 ([77].map (Value.int .u8)) rfl (fun h => by cases h) rfl (fun p hp => by cases hp; exact new_cells w1 _ _) (bytes_oneCell _) (by unfold maxLen; omega) (by omega) (by have := HK1.out.size; simp; omega) ?_); intro v2 w2 hown2 hg2; obtain ⟨g, c, rfl, HN1, H77, h4, hcm2, hgw⟩ := row_last hown2; have HK2 := hid ((HK1.out.alloc _).grown hg2 (fun k hk => .inr ((HO.out.lt k hk).1))); clear hown2 hg2)
      | fail)
    have HKW := hid (HK2.out)
    have HL := HN
    have HBB := HB
    clear HO HK1 HI HZ0 HZ1 HZ2
    have hds : (decM bs).1.2.1.length ≤ 100000 := by
      have := decM_short bs HB.out
      have := HN.out
      omega
    have hd := decode_any (some ⟨g, 0, none⟩) c n bs w2 HN (by omega) (by omega) hcm2 HN1 HB
    have HR := hid (fun W (hk : Keeps No w W) => refdecode_any a cap n bs W HN (by omega) hcn (hid (HA.out.keep hk (fun _ _ e => e))) HB)
    unfold DecPost at hd HR
    generalize decM bs = y at *
    obtain ⟨⟨hh, l, k, tr, th, st⟩, no⟩ := y
    dsimp only at hds hd HR
    have HD := hid hd
    clear hd
    go_wp2_with fail
    refine HD.out.mono ?_
    rintro e w3 ⟨hk3, a3, c3, rfl, ht3, hb3⟩
    have HK3 := hid hk3
    have HT3 := hid ht3
    clear hk3 ht3 hb3
    go_wp2_with fail
    refine (HR.out _ (HKW.out.trans (HK3.out.alloc _))).mono ?_
    rintro e w4 ⟨hk4, a4, c4, rfl, ht4, hb4⟩
    have hbx := (hk4.block w3.heap.size (by simp) (fun e => e)).trans (heap_alloc_new w3 (.cells #[.int .u32 hh, .slice a3 l.length c3, .int .i64 k, .int .i64 tr, .int .i64 th, .int .i64 st] 29))
    have HK4 := hid hk4
    have HT4 := hid ht4
    clear hk4 ht4 hb4
    have HK5 := hid ((Keeps.refl No w4).alloc (.cells #[.int .u32 hh, .slice a4 l.length c4, .int .i64 k, .int .i64 tr, .int .i64 th, .int .i64 st] 29))
    obtain ⟨x0, x1, x2, x3, x4, x5⟩ := box6 ((HK5.out.block w3.heap.size (Array.getElem?_eq_some_iff.1 hbx).1 (fun e => e)).trans hbx)
    obtain ⟨b0, b1, b2, b3, b4, b5⟩ := box6 (heap_alloc_new w4 (.cells #[.int .u32 hh, .slice a4 l.length c4, .int .i64 k, .int .i64 tr, .int .i64 th, .int .i64 st] 29))
    clear hbx
    have HT5 := hid (HT3.out.keep (((Keeps.refl No w3).alloc (.cells #[.int .u32 hh, .slice a3 l.length c3, .int .i64 k, .int .i64 tr, .int .i64 th, .int .i64 st] 29)).trans (HK4.out.trans HK5.out)) (fun _ _ e => e))
    have HT6 := hid (HT4.out.keep HK5.out (fun _ _ e => e))
    go_wp2_with fail
    refine (same_any hh k tr th st hh k tr th st a3 a4 c3 c4 l.length l.length l l _ (hid rfl) (hid rfl) hds HT5 HT6).mono ?_
    rintro e w5 ⟨rfl, hk5⟩
    rw [sameB_refl]
    clear x0 x1 x2 x3 x4 x5 b0 b1 b2 b3 b4 b5 HT5 HT6
    have HK25 := hid ((HK3.out.alloc (.cells #[.int .u32 hh, .slice a3 l.length c3, .int .i64 k, .int .i64 tr, .int .i64 th, .int .i64 st] 29)).trans (HK4.out.trans (HK5.out.trans hk5)))
    have HKF := hid (HKW.out.trans HK25.out)
    clear hk5
    have hcx := run_convert_any (P := Try.prog) w5 31 5 Try.underlying31 Try.underlying5 (some ⟨g, 0, none⟩) n c bs HN.out (HN1.out.keep HK25.out (fun _ _ e => e)) 9 Try.underlying9
    have hcb := run_convert_any (P := Try.prog) w5 31 5 Try.underlying31 Try.underlying5 a n cap bs HN.out (HA.out.keep HKF.out (fun _ _ e => e)) 9 Try.underlying9
    have h77 := HK25.out.cellS H77.out (fun e => e)
    go_wp2_with fail
    refine (num_any no _).mono ?_
    rintro e w6 ⟨rfl, rfl⟩
    go_wp2_with fail
    refine (HW.out _).mono ?_
    rintro e w7 ⟨rfl, h7⟩
    go_wp2_with fail
    go_ret
    exact ⟨rfl, HKF.out.trans h7⟩
  · go_enter Try.func5, Try.ntmps5
    go_wp2_with fail
    refine (HW.out _).mono ?_
    rintro e w2 ⟨rfl, h2⟩
    go_wp2_with fail
    go_ret
    exact ⟨rfl, h2⟩

end Go.Proofs.Ytnbhphjpefagjaa
