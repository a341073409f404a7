/- Log: the threads of turns: what the iterator yields. -/
import Derived.Test.YtnbhphjpefagjaaG
import Derived.Test.YtnbhphjpefagjaaZp
namespace Go.Proofs.Ytnbhphjpefagjaa
open Go.RowKit Go.Shelf
attribute [local go_sem] Oper.semAt_some

/-- The steps of the first k turns: which turn, which thread. -/
def seqK (l : List (Int × Int)) (k : Nat) : List (Nat × Int) := (List.range k).flatMap fun i => List.replicate (l[i]?.getD (0, 0)).2.toNat (i, (l[i]?.getD (0, 0)).1)
def seqV (l : List (Int × Int)) : List (Nat × Int) := seqK l l.length

theorem seqK_zero (l : List (Int × Int)) : seqK l 0 = [] := rfl
theorem seqK_succ (l : List (Int × Int)) (k : Nat) : seqK l (k + 1) = seqK l k ++ List.replicate (l[k]?.getD (0, 0)).2.toNat (k, (l[k]?.getD (0, 0)).1) := by
  simp [seqK, List.range_succ]

theorem seqK_le (l : List (Int × Int)) (k : Nat) : ∀ d, seqK l k <+: seqK l (k + d)
  | 0 => List.prefix_refl _
  | d + 1 => (seqK_le l k d).trans (by rw [← Nat.add_assoc, seqK_succ]; exact List.prefix_append _ _)

/-- Behind j steps of turn k. -/
def seqAt (l : List (Int × Int)) (k j : Nat) : List (Nat × Int) := seqK l k ++ List.replicate j (k, (l[k]?.getD (0, 0)).1)
theorem seqAt_zero (l : List (Int × Int)) (k : Nat) : seqAt l k 0 = seqK l k := by simp [seqAt]
theorem seqAt_succ (l : List (Int × Int)) (k j : Nat) : seqAt l k (j + 1) = seqAt l k j ++ [(k, (l[k]?.getD (0, 0)).1)] := by
  rw [seqAt, seqAt, List.replicate_succ', List.append_assoc]
theorem seqAt_full (l : List (Int × Int)) (k : Nat) : seqAt l k (l[k]?.getD (0, 0)).2.toNat = seqK l (k + 1) := (seqK_succ l k).symm

theorem seqAt_prefix {l : List (Int × Int)} {k j : Nat} (hk : k < l.length) (hj : (j : Int) ≤ (l[k]?.getD (0, 0)).2) : seqAt l k j <+: seqV l := by
  have h1 : seqAt l k j <+: seqK l (k + 1) := by
    rw [← seqAt_full]
    refine (List.prefix_append_right_inj _).2 ⟨List.replicate ((l[k]?.getD (0, 0)).2.toNat - j) (k, (l[k]?.getD (0, 0)).1), ?_⟩
    rw [List.replicate_append_replicate]
    congr 1
    omega
  refine h1.trans ?_
  have := seqK_le l (k + 1) (l.length - (k + 1))
  rwa [show k + 1 + (l.length - (k + 1)) = l.length by omega] at this

/-- All blocks of cells but those of S are as they were. -/
structure KpC (S : Nat → Prop) (W W' : World) : Prop where
  size : W.heap.size ≤ W'.heap.size
  cells : ∀ (k : Nat) (o : Obj), W.heap[k]? = some o → o.isCells = true → ¬ S k → W'.heap[k]? = some o

theorem KpC.refl (S : Nat → Prop) (W : World) : KpC S W W := ⟨Nat.le_refl _, fun _ _ h _ _ => h⟩
theorem KpC.trans {S : Nat → Prop} {A B C : World} (h : KpC S A B) (k : KpC S B C) : KpC S A C :=
  ⟨Nat.le_trans h.size k.size, fun i o ho hc hn => k.cells i o (h.cells i o ho hc hn) hc hn⟩
theorem KpC.of_keeps {S : Nat → Prop} {A B : World} (h : Keeps S A B) : KpC S A B :=
  ⟨h.size, fun k _ ho _ hn => (h.block k (Array.getElem?_eq_some_iff.1 ho).1 hn).trans ho⟩
theorem KpC.put {S : Nat → Prop} (W : World) (j : Nat) (o o' : Obj) (h : W.heap[j]? = some o) (hc : o.isCells = false) : KpC S W (W.putObj j o') := by
  have hg := grownBy_putObj' W j o'
  refine ⟨hg.size, fun k x hx hxc _ => (hg.block k (Array.getElem?_eq_some_iff.1 hx).1 (fun e => ?_)).trans hx⟩
  cases e
  rw [hx] at h
  cases h
  rw [hxc] at hc
  cases hc

theorem KpC.cellS {S : Nat → Prop} {W W' : World} {p : Addr} {v : Value} (h : KpC S W W') (hc : W.cell? p = some v) (hn : ¬ S p.block) : W'.cell? p = some v := by
  obtain ⟨o, ho⟩ : ∃ o, W.heap[p.block]? = some o := ⟨_, Array.getElem?_eq_getElem (World.block_lt_of_cell? _ _ hc)⟩
  have hoc : o.isCells = true := by
    unfold World.cell? at hc
    rw [ho] at hc
    cases o <;> simp_all [Obj.isCells]
  have h2 := h.cells _ o ho hoc hn
  rw [World.cell?_of_block (w := W) (h2.trans ho.symm)]
  exact hc

set_option maxRecDepth 100000 in
set_option maxHeartbeats 2000000 in
theorem threads_stops (m : Nat) (hm : 1 ≤ m) (S : Nat → Prop) (Bn : Nat) (ko : Option Addr) (n cap : Nat) (l : List (Int × Int)) (w : World) (hBn : Bn < w.heap.size) (hS : ∀ k, S k → k < w.heap.size) (hn : n ≤ 100000) (HN : Hid (l.length = n)) (hst : Hid (∀ x ∈ l, x.2 ≤ 4294967296))
    (h1 : w.cell? ⟨Bn, 0, none⟩ = some (.slice ko n cap)) (h2 : Hid (TurnsAt w ko l)) (h3 : Hid (∀ p, ko = some p → ¬ S p.block)) :
    SeqStopsK Fence.wide m Try.prog 45 #[.pointer (some ⟨Bn, 0, none⟩)] (fun x : Nat × Int => #[.int .i64 x.1, .int .i64 x.2]) (KpC S) (fun xs => xs = seqV l) (fun xs => xs <+: seqV l) (seqV l).length w := fun lp J Jx W hW hJ hJx hY h0 => by
  have H1 := (hW.cell (p := ⟨Bn, 0, none⟩) hBn).trans h1
  clear h1
  refine callsIn_of_wp Try.func45 rfl trivial ?_ rfl
  simp only [Try.ntmps45, List.size_toArray, List.length_cons, List.length_nil, Nat.reduceAdd, Nat.reduceSub, Array.replicate_succ, Array.replicate_zero, List.push_toArray, List.append_toArray, List.nil_append, List.cons_append]
  gi_wp2
  have HW := hid hW
  clear H1
  gi_loopw [7] (fun p wr => ∃ k : Nat, p = .int .i64 k ∧ k ≤ n ∧ J (seqK l k) wr ∧ KpC S W wr)
    (fun p _ => n - (intOf p).toNat)
  case atStart => exact ⟨0, rfl, by omega, h0, KpC.refl _ _⟩
  case round =>
    obtain ⟨k, rfl, hk, hJs, hkw⟩ := hrel
    have HKW := hid hkw
    clear hkw
    obtain ⟨wo, hwo⟩ : ∃ wo, wo = wr := ⟨_, rfl⟩
    subst hwo
    by_cases hlt : k < n
    · obtain ⟨g, off, rfl, hcl⟩ := h2.out.resolve_left (by rintro rfl; have := HN.out; simp at this; omega)
      have hgn : ¬ S g := h3.out _ rfl
      have hgl : g < w.heap.size := World.block_lt_of_cell? _ _ (hcl k (by rw [HN.out]; exact hlt)).1
      have x1 := HKW.out.cellS (p := ⟨g, off + k * 2, none⟩) ((HW.out.cell (p := ⟨g, off + k * 2, none⟩) hgl).trans (hcl k (by rw [HN.out]; exact hlt)).1) hgn
      have x2 := HKW.out.cellS (p := ⟨g, off + k * 2 + 1, none⟩) ((HW.out.cell (p := ⟨g, off + k * 2 + 1, none⟩) hgl).trans (hcl k (by rw [HN.out]; exact hlt)).2) hgn
      have hbd := hst.out (l[k]?.getD (0, 0)) (by have h : k < l.length := (by rw [HN.out]; exact hlt); simp [h])
      have hpf := hid (fun j : Nat => seqAt_prefix (l := l) (k := k) (j := j) (by rw [HN.out]; exact hlt))
      have hsc := hid (fun j : Nat => seqAt_succ l k j)
      have hsf := hid (seqAt_full l k)
      rw [← seqAt_zero] at hJs
      clear hcl
      generalize (l[k]?.getD (0, 0)).1 = x at *
      generalize (l[k]?.getD (0, 0)).2 = y at *
      have HBD := hid hbd
      have hJ2 := hJ _ _ (wo.alloc (.cells #[.int .i64 x, .int .i64 y] 57)) none hJs (World.grownBy_alloc _ _ none) (fun r e => by cases e)
      have HJ2 := hid hJ2
      have HK2 : Hid (KpC S W (wo.alloc (.cells #[.int .i64 x, .int .i64 y] 57))) := hid (HKW.out.trans (KpC.of_keeps ((Keeps.refl S wo).alloc _)))
      have hbn : ¬ S wo.heap.size := fun e => by have := hS _ e; have := hW.size; have := HKW.out.size; omega
      have hbx := heap_alloc_new wo (.cells #[.int .i64 x, .int .i64 y] 57)
      have c0 : (wo.alloc (.cells #[.int .i64 x, .int .i64 y] 57)).cell? ⟨wo.heap.size, 0, none⟩ = some (.int .i64 x) := by rw [cell_of_row _ _ _ _ _ _ hbx]; rfl
      have HC0 := hid c0
      clear hJ2 hJs hbx c0
      gi_wp2
      generalize wo.alloc (.cells #[.int .i64 x, .int .i64 y] 57) = W2 at *
      gi_loopw [14] (fun p wi => ∃ j : Nat, p = .int .i64 j ∧ j ≤ y.toNat ∧ J (seqAt l k j) wi ∧ KpC S W2 wi)
        (fun p _ => y.toNat - (intOf p).toNat)
      case atStart => exact ⟨0, rfl, by omega, HJ2.out, KpC.refl _ _⟩
      case round =>
        obtain ⟨j, rfl, hj, hJj, hkj⟩ := hrel
        have HKJ := hid hkj
        have x3 := hkj.cellS HC0.out hbn
        clear hkj
        by_cases hjl : (j : Int) < y
        · have hpre := (hpf.out (j + 1) (by omega)).length_le
          rw [hsc.out] at hpre
          simp only [List.length_append, List.length_cons, List.length_nil] at hpre
          obtain ⟨fn, tmps, assign, body, hy, hR⟩ := hY (seqAt l k j) (k, x) wr hJj (by omega)
          dsimp only at hy
          have hR := hid hR
          clear hY hpre
          gi_wp2
          refine hR.out.mono ?_
          rintro e W3 (⟨rfl, hJ3, hk3⟩ | ⟨rfl, hJx3⟩)
          · have HK3 := hid (HKJ.out.trans hk3)
            clear hk3 hR
            gi_wp2
            go_roundw
            case rel => exact ⟨j + 1, by go_num, by omega, by rw [hsc.out]; exact hJ3, HK3.out⟩
            case measure => simp [intOf]; omega
          · clear hR
            gi_wp2
            refine bodyPost_ret (results_none rfl _ _ _) rfl ?_
            rw [← hsc.out] at hJx3
            exact ⟨⟨_, rfl⟩, .inr ⟨_, hpf.out (j + 1) (by omega), hJx3⟩⟩
        · gi_wp2
          have hjy : j = y.toNat := by omega
          subst hjy
          rw [hsf.out] at hJj
          go_roundw
          case rel => exact ⟨k + 1, by go_num, by omega, hJj, HK2.out.trans HKJ.out⟩
          case measure => simp [intOf]; omega
    · gi_wp2
      go_end0
      refine ⟨⟨_, rfl⟩, .inl ⟨seqK l k, ?_, hJs⟩⟩
      rw [seqV, HN.out, show k = n by omega]

end Go.Proofs.Ytnbhphjpefagjaa
