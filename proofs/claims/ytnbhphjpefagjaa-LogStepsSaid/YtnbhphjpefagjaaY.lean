/- Log: a drawn region, each of whose operations yields one value whatever the order: every order ends in one frame (no program in sight). -/
import Derived.Test.YtnbhphjpefagjaaX
namespace Go.Proofs.Ytnbhphjpefagjaa

namespace Sched

/-- What operation o waits for. -/
def deps (o : Oper) : List Nat := (o.after.toList.filter (Region.binds .any)).map (·.on)

/-- Does operation j wait for i, through others too? -/
def dep (ops : Array Oper) : Nat → Nat → Nat → Bool
  | 0, _, _ => false
  | f + 1, j, i => Nat.blt i j && (match ops[j]? with
    | none => false
    | some o => (deps o).contains i || (deps o).any (fun d => dep ops f d i))

/-- Each slot that an operation looks at is no operation's, or is that of one for which it waits, or of one that waits for it; each operation has its own slot; none defers or selects. -/
def chk (ops : Array Oper) : Bool :=
  (List.range ops.size).all (fun i => match ops[i]? with | none => true | some o => (o.looksAt ops).all fun t => (List.range ops.size).all fun j => ((ops[j]?).bind (·.dst)) != some t || (deps o).contains j || dep ops ops.size j i) &&
  (List.range ops.size).all (fun i => (List.range i).all fun j => match (ops[i]?).bind (·.dst) with | none => true | some d => ((ops[j]?).bind (·.dst)) != some d) &&
  ops.toList.all (fun o => match o.op with | .defer _ => false | .select .. => false | _ => true) &&
  (List.range ops.size).all (fun i => match ops[i]? with | none => true | some o => (deps o).all fun d => Nat.blt d i)

/-- The phases' operations wait for each other, one behind the other. -/
def chkC (ops : Array Oper) : List Nat → Bool
  | [] => true
  | c :: r => r.all (fun d => d != c && dep ops ops.size d c) && Nat.blt c ops.size && chkC ops r

/-- May operation i come up behind p phases? -/
def may (ops : Array Oper) (cs : List Nat) (i p : Nat) : Bool :=
  Nat.ble p cs.length && (cs.take p).all (fun c => c != i && !dep ops ops.size c i) && (cs.drop p).all (fun c => !dep ops ops.size i c) &&
  (!cs.contains i || (cs.drop p).head? == some i)

def putL : List (Oper × Value) → Act → Act
  | [], a => a
  | (o, v) :: r, a => putL r (a.put o.dst v)

/-! ### Facts -/

theorem not_may {ops : Array Oper} {cs : List Nat} {i p : Nat} {C : Prop} (h : may ops cs i p = true) (hn : may ops cs i p = false) : C := by rw [hn] at h; cases h

theorem may_le {ops : Array Oper} {cs : List Nat} {i p : Nat} (h : may ops cs i p = true) : p ≤ cs.length := by
  simp only [may, Bool.and_eq_true] at h
  simpa using h.1.1.1

theorem put_size (a : Act) (d : Option Tmp) (v : Value) : (a.put d v).tmps.size = a.tmps.size := by
  cases d <;> simp [Act.put]
theorem put_other (a : Act) (d : Option Tmp) (v : Value) (k : Nat) (h : d ≠ some k) : (a.put d v).tmps[k]? = a.tmps[k]? := by
  cases d with
  | none => rfl
  | some d => simp only [Act.put]; exact Array.getElem?_setIfInBounds_ne (fun e => h (by rw [e]))
theorem put_same (a : Act) (d : Nat) (v : Value) : (a.put (some d) v).tmps[d]? = if d < a.tmps.size then some v else none := by
  simp [Act.put, Array.getElem?_setIfInBounds_self]
theorem put_defers (a : Act) (d : Option Tmp) (v : Value) : (a.put d v).defers = a.defers := by cases d <;> rfl

theorem putL_size : ∀ (l : List (Oper × Value)) (a : Act), (putL l a).tmps.size = a.tmps.size
  | [], _ => rfl
  | (_, v) :: r, a => (putL_size r _).trans (put_size a _ v)
theorem putL_defers : ∀ (l : List (Oper × Value)) (a : Act), (putL l a).defers = a.defers
  | [], _ => rfl
  | (_, v) :: r, a => (putL_defers r _).trans (put_defers a _ v)
theorem putL_other : ∀ (l : List (Oper × Value)) (a : Act) (k : Nat), (∀ x ∈ l, x.1.dst ≠ some k) → (putL l a).tmps[k]? = a.tmps[k]?
  | [], _, _, _ => rfl
  | (o, v) :: r, a, k, h => (putL_other r _ k fun x hx => h x (by simp [hx])).trans (put_other a _ v k (h (o, v) (by simp)))
theorem putL_at : ∀ (l : List (Oper × Value)) (a : Act) (i : Nat) (x : Oper × Value) (d : Nat), l[i]? = some x → x.1.dst = some d → (∀ j y, l[j]? = some y → i < j → y.1.dst ≠ some d) →
    (putL l a).tmps[d]? = if d < a.tmps.size then some x.2 else none
  | [], _, i, x, d, h, _, _ => by simp at h
  | (o, v) :: r, a, 0, x, d, h, hd, hn => by
    simp at h; subst h
    simp only [putL]
    rw [putL_other r _ d, hd, put_same]
    intro y hy
    obtain ⟨j, hj⟩ := List.getElem?_of_mem hy
    exact hn (j + 1) y (by simpa using hj) (by omega)
  | (o, v) :: r, a, i + 1, x, d, h, hd, hn => by
    simp only [putL]
    rw [putL_at r _ i x d (by simpa using h) hd (fun j y hj hlt => hn (j + 1) y (by simpa using hj) (by omega)), put_size]

theorem mem_deps {o : Oper} {d : Nat} : d ∈ deps o ↔ ∃ e ∈ o.after, Region.binds .any e = true ∧ e.on = d := by
  simp [deps, and_assoc]

/-- What is listed has all listed for which it waits. -/
def Closed (ops : Array Oper) (L : Array Bool) : Prop := ∀ j o, ops[j]? = some o → L.getD j false = true → ∀ d ∈ deps o, L.getD d false = true

theorem dep_listed {ops : Array Oper} {L : Array Bool} (hc : Closed ops L) : ∀ (f j i : Nat), dep ops f j i = true → L.getD j false = true → L.getD i false = true
  | 0, _, _, h, _ => by simp [dep] at h
  | f + 1, j, i, h, hj => by
    simp only [dep, Bool.and_eq_true] at h
    have h := h.2
    split at h
    · cases h
    · rename_i o ho
      simp only [Bool.or_eq_true, List.any_eq_true, List.contains_iff_mem] at h
      rcases h with h | ⟨d, hd, h⟩
      · exact hc j o ho hj i h
      · exact dep_listed hc f d i h (hc j o ho hj d hd)

theorem dep_ready {ops : Array Oper} {L : Array Bool} (hc : Closed ops L) {i : Nat} {o : Oper} (ho : ops[i]? = some o) (hr : ∀ d ∈ deps o, L.getD d false = true) : ∀ (f c : Nat), dep ops f i c = true → L.getD c false = true
  | 0, _, h => by simp [dep] at h
  | f + 1, c, h => by
    simp only [dep, Bool.and_eq_true] at h
    have h := h.2
    rw [ho] at h
    simp only [Bool.or_eq_true, List.any_eq_true, List.contains_iff_mem] at h
    rcases h with h | ⟨d, hd, h⟩
    · exact hr c h
    · exact dep_listed hc f d c h (hr d hd)

theorem getD_set {L : Array Bool} {i j : Nat} (hi : i < L.size) : (L.setIfInBounds i true).getD j false = if i = j then true else L.getD j false := by
  simp only [Array.getD_eq_getD_getElem?, Array.getElem?_setIfInBounds]
  split
  · rfl
  · rfl

theorem getD_tf {L : Array Bool} {j : Nat} (hj : j < L.size) (b c : Bool) : L.getD j b = L.getD j c := by
  simp [Array.getD_eq_getD_getElem?, hj]

def missing (L : Array Bool) : Nat := (L.toList.filter (fun b => !b)).length

theorem missing_set {L : Array Bool} {i : Nat} (hi : i < L.size) (h : L.getD i false = false) : missing (L.setIfInBounds i true) + 1 = missing L := by
  obtain ⟨l⟩ := L
  simp only [missing, List.setIfInBounds_toArray]
  simp only [List.size_toArray] at hi
  simp [Array.getD_eq_getD_getElem?, hi] at h
  induction l generalizing i with
  | nil => simp at hi
  | cons b l ih =>
    cases i with
    | zero => simp at h; subst h; simp
    | succ i =>
      have := ih (i := i) (by simpa using hi) (by simpa using h)
      cases b <;> simp at this ⊢ <;> omega

theorem missing_zero {L : Array Bool} (h : missing L = 0) {j : Nat} (hj : j < L.size) : L.getD j false = true := by
  obtain ⟨l⟩ := L
  simp [missing] at h
  simp at hj
  simp [Array.getD_eq_getD_getElem?, hj]
  cases hb : l[j]
  · exact (h (by rw [← hb]; exact List.getElem_mem hj)).elim
  · rfl

theorem missing_pos {L : Array Bool} (h : missing L ≠ 0) : ∃ j, j < L.size ∧ L.getD j false = false := by
  obtain ⟨l⟩ := L
  simp only [missing] at h
  have : ∃ b, b ∈ l.filter (fun b => !b) := List.exists_mem_of_length_pos (by simp at h ⊢; simpa using h)
  obtain ⟨b, hb⟩ := this
  simp at hb
  obtain ⟨hb, rfl⟩ := hb
  obtain ⟨j, hj, e⟩ := List.getElem_of_mem hb
  exact ⟨j, by simpa using hj, by simp [Array.getD_eq_getD_getElem?, hj, e]⟩

/-! ### The law -/

/-- One operation, run in the frame a: what it yields and the world are as R says. -/
def OkE (F : Fence) (n : Nat) (P : Program) (ops : Array Oper) (o : Oper) (a : Act) (w : World) (R : Value → World → Prop) : Prop :=
  if Region.wanted o (yielded ops a.tmps) = true then
    match (execOp a.eval o).run P w with
    | .ok (.value u) w' => R u w'
    | .ok .skip w' => R undef w'
    | .ok (.enter f args) w' => CallsIn F (n - 1) P f args w' (fun e w'' => ∃ v, e = .returned v ∧ R v w'')
    | _ => False
  else R undef w

/-- Two lists of values differ only where operation c is waited for. -/
def Agree (ops : Array Oper) (c : Nat) : Nat → List Value → List Value → Prop
  | _, [], [] => True
  | i, x :: u, y :: v => (x = y ∨ i = c ∨ dep ops ops.size i c = true) ∧ Agree ops c (i + 1) u v
  | _, _, _ => False

def Steps2 {σ : Type} (F : Fence) (n : Nat) (P : Program) (ops : Array Oper) (cs : List Nat) (V : σ → List Value) (G : Nat → σ → World → Prop) (a : Act) : List Oper → Nat → Prop
  | [], _ => True
  | o :: r, i => (∀ p, may ops cs i p = true → ∀ s w, G p s w → OkE F n P ops o (putL ((ops.toList.zip (V s)).take i) a) w (fun v w' =>
      if cs.contains i then ∃ s', G (p + 1) s' w' ∧ (V s')[i]? = some v ∧ Agree ops i 0 (V s) (V s') else (V s)[i]? = some v ∧ G p s w')) ∧ Steps2 F n P ops cs V G a r (i + 1)

theorem Steps2.cons {σ : Type} {F : Fence} {n : Nat} {P : Program} {ops : Array Oper} {cs : List Nat} {V : σ → List Value} {G : Nat → σ → World → Prop} {a : Act} {o : Oper} {r : List Oper} {i : Nat}
    (h : ∀ p, may ops cs i p = true → ∀ s w, G p s w → OkE F n P ops o (putL ((ops.toList.zip (V s)).take i) a) w (fun v w' => if cs.contains i then ∃ s', G (p + 1) s' w' ∧ (V s')[i]? = some v ∧ Agree ops i 0 (V s) (V s') else (V s)[i]? = some v ∧ G p s w'))
    (hr : Steps2 F n P ops cs V G a r (i + 1)) : Steps2 F n P ops cs V G a (o :: r) i := ⟨h, hr⟩
theorem Steps2.nil {σ : Type} {F : Fence} {n : Nat} {P : Program} {ops : Array Oper} {cs : List Nat} {V : σ → List Value} {G : Nat → σ → World → Prop} {a : Act} {i : Nat} : Steps2 F n P ops cs V G a [] i := trivial

theorem steps2_at {σ : Type} {F : Fence} {n : Nat} {P : Program} {ops : Array Oper} {cs : List Nat} {V : σ → List Value} {G : Nat → σ → World → Prop} {a : Act} : ∀ (l : List Oper) (k : Nat), Steps2 F n P ops cs V G a l k → ∀ i o, l[i]? = some o →
    ∀ p, may ops cs (k + i) p = true → ∀ s w, G p s w → OkE F n P ops o (putL ((ops.toList.zip (V s)).take (k + i)) a) w (fun v w' =>
      if cs.contains (k + i) then ∃ s', G (p + 1) s' w' ∧ (V s')[k + i]? = some v ∧ Agree ops (k + i) 0 (V s) (V s') else (V s)[k + i]? = some v ∧ G p s w')
  | [], _, _, i, x, h => by simp at h
  | o :: r, k, h, 0, x, hx => by
    simp at hx; subst hx
    exact h.1
  | o :: r, k, h, i + 1, x, hx => by
    have := steps2_at r (k + 1) h.2 i x (by simpa using hx)
    rw [show k + (i + 1) = k + 1 + i by omega]
    exact this

theorem agree_at {ops : Array Oper} {c : Nat} : ∀ (u v : List Value) (k : Nat), Agree ops c k u v → ∀ j, u[j]? = v[j]? ∨ k + j = c ∨ dep ops ops.size (k + j) c = true
  | [], [], _, _, _ => .inl rfl
  | x :: u, y :: v, k, h, 0 => by
    rcases h.1 with rfl | h | h
    · exact .inl rfl
    · exact .inr (.inl h)
    · exact .inr (.inr h)
  | x :: u, y :: v, k, h, j + 1 => by
    have := agree_at u v (k + 1) h.2 j
    rw [show k + (j + 1) = k + 1 + j by omega]
    simpa using this
  | [], _ :: _, _, h, _ => h.elim
  | _ :: _, [], _, h, _ => h.elim

/-- The frame, where L is listed. -/
structure Fits (ops : Array Oper) (vals : List Value) (a0 : Act) (L : Array Bool) (a : Act) : Prop where
  size : a.tmps.size = a0.tmps.size
  defers : a.defers = a0.defers
  on : ∀ (i : Nat) (o : Oper) (v : Value) (d : Nat), ops[i]? = some o → vals[i]? = some v → o.dst = some d → L.getD i false = true → a.tmps[d]? = if d < a0.tmps.size then some v else none
  off : ∀ (i : Nat) (o : Oper) (d : Nat), ops[i]? = some o → o.dst = some d → L.getD i false = false → a.tmps[d]? = a0.tmps[d]?
  non : ∀ k, (¬ ∃ (i : Nat) (o : Oper), ops[i]? = some o ∧ o.dst = some k) → a.tmps[k]? = a0.tmps[k]?

theorem chk_reads {ops : Array Oper} (h : chk ops = true) {i : Nat} {o : Oper} (ho : ops[i]? = some o) {t : Tmp} (ht : t ∈ o.looksAt ops) {j : Nat} {o' : Oper} (hj : ops[j]? = some o') (hd : o'.dst = some t) : j ∈ deps o ∨ dep ops ops.size j i = true := by
  simp only [chk, Bool.and_eq_true] at h
  have := List.all_eq_true.1 h.1.1.1 i (by simpa using (Array.getElem?_eq_some_iff.1 ho).1)
  rw [ho] at this
  have := List.all_eq_true.1 (List.all_eq_true.1 this t ht) j (by simpa using (Array.getElem?_eq_some_iff.1 hj).1)
  simpa [hj, hd] using this

theorem dep_lt {ops : Array Oper} : ∀ {f j i : Nat}, dep ops f j i = true → i < j
  | 0, _, _, h => by simp [dep] at h
  | f + 1, j, i, h => by
    simp only [dep, Bool.and_eq_true] at h
    simpa using h.1

theorem chk_dst {ops : Array Oper} (h : chk ops = true) {i j : Nat} {o o' : Oper} (ho : ops[i]? = some o) (hj : ops[j]? = some o') {d : Tmp} (hd : o.dst = some d) (hd' : o'.dst = some d) : i = j := by
  simp only [chk, Bool.and_eq_true] at h
  have key : ∀ {i j : Nat} {o o' : Oper}, ops[i]? = some o → ops[j]? = some o' → o.dst = some d → o'.dst = some d → ¬ j < i := by
    intro i j o o' ho hj hd hd' hlt
    have := List.all_eq_true.1 (List.all_eq_true.1 h.1.1.2 i (by simpa using (Array.getElem?_eq_some_iff.1 ho).1)) j (by simpa using hlt)
    simp [ho, hj, hd, hd'] at this
  have h1 := key ho hj hd hd'
  have h2 := key hj ho hd' hd
  omega

theorem chk_kind {ops : Array Oper} (h : chk ops = true) {i : Nat} {o : Oper} (ho : ops[i]? = some o) : (∀ c, o.op ≠ .defer c) ∧ (∀ cs b, o.op ≠ .select cs b) := by
  simp only [chk, Bool.and_eq_true] at h
  have := List.all_eq_true.1 h.1.2 o (by simpa using Array.mem_of_getElem? ho)
  exact ⟨fun c e => by simp [e] at this, fun cs b e => by simp [e] at this⟩

theorem chk_low {ops : Array Oper} (h : chk ops = true) {i : Nat} {o : Oper} (ho : ops[i]? = some o) : ∀ d ∈ deps o, d < i := by
  simp only [chk, Bool.and_eq_true] at h
  have := List.all_eq_true.1 h.2 i (by simpa using (Array.getElem?_eq_some_iff.1 ho).1)
  rw [ho] at this
  exact fun d hd => by simpa using List.all_eq_true.1 this d hd

theorem chkC_spec {ops : Array Oper} : ∀ {cs : List Nat}, chkC ops cs = true → cs.Pairwise (fun c d => d ≠ c ∧ dep ops ops.size d c = true)
  | [], _ => List.Pairwise.nil
  | c :: r, h => by
    simp only [chkC, Bool.and_eq_true, List.all_eq_true] at h
    exact List.Pairwise.cons (fun d hd => by simpa using h.1.1 d hd) (chkC_spec h.2)

theorem chkC_lt {ops : Array Oper} : ∀ {cs : List Nat}, chkC ops cs = true → ∀ c ∈ cs, c < ops.size
  | [], _, c, hc => by cases hc
  | x :: r, h, c, hc => by
    simp only [chkC, Bool.and_eq_true, List.all_eq_true] at h
    rcases List.mem_cons.1 hc with rfl | hc
    · simpa using h.1.2
    · exact chkC_lt h.2 c hc

theorem pre_on {ops : Array Oper} (hc : chk ops = true) {vals : List Value} {a : Act} {i j : Nat} {o : Oper} {d : Nat} {v : Value} (ho : ops[j]? = some o) (hd : o.dst = some d) (hv : vals[j]? = some v) (hlt : j < i) :
    (putL ((ops.toList.zip vals).take i) a).tmps[d]? = if d < a.tmps.size then some v else none := by
  rw [putL_at _ a j (o, v) d (by rw [List.getElem?_take, if_pos hlt]; simp [List.getElem?_zip_eq_some, ho, hv]) hd]
  intro k y hj hlt hdy
  rw [List.getElem?_take] at hj
  split at hj
  · obtain ⟨h1, _⟩ := List.getElem?_zip_eq_some.1 hj
    have := chk_dst hc ho (by simpa using h1) hd hdy
    omega
  · cases hj

theorem pre_off {ops : Array Oper} {vals : List Value} {a : Act} {i : Nat} {d : Nat} (h : ∀ (j : Nat) (o : Oper), ops[j]? = some o → o.dst = some d → i ≤ j) : (putL ((ops.toList.zip vals).take i) a).tmps[d]? = a.tmps[d]? := by
  rw [putL_other]
  intro x hx e
  obtain ⟨j, hj⟩ := List.getElem?_of_mem hx
  rw [List.getElem?_take] at hj
  split at hj
  · obtain ⟨h1, _⟩ := List.getElem?_zip_eq_some.1 hj
    have := h j x.1 (by simpa using h1) e
    omega
  · cases hj

theorem Fits.eval {ops : Array Oper} {vals : List Value} {a0 a : Act} {L : Array Bool} (h : Fits ops vals a0 L a) (hc : chk ops = true) (hlen : vals.length = ops.size) (hcl : Closed ops L) {i : Nat} {o : Oper} (ho : ops[i]? = some o) (hl : L.getD i false = false) (hr : ∀ d ∈ deps o, L.getD d false = true) {t : Tmp} (ht : t ∈ o.looksAt ops) :
    a.tmps[t]? = (putL ((ops.toList.zip vals).take i) a0).tmps[t]? := by
  by_cases hk : ∃ (j : Nat) (o' : Oper), ops[j]? = some o' ∧ o'.dst = some t
  · obtain ⟨j, o', hj, hd⟩ := hk
    obtain ⟨v, hv⟩ : ∃ v, vals[j]? = some v := ⟨_, List.getElem?_eq_getElem (by rw [hlen]; exact (Array.getElem?_eq_some_iff.1 hj).1)⟩
    rcases chk_reads hc ho ht hj hd with h1 | h1
    · rw [pre_on hc hj hd hv (chk_low hc ho j h1), h.on j o' v t hj hv hd (hr j h1)]
    · have hlj : L.getD j false = false := by
        cases hb : L.getD j false with
        | false => rfl
        | true => have := dep_listed hcl _ _ _ h1 hb; rw [hl] at this; cases this
      rw [h.off j o' t hj hd hlj, pre_off]
      intro k o2 hk hd2
      have := chk_dst hc hj hk hd hd2
      have := dep_lt h1
      omega
  · rw [h.non t hk, pre_off]
    intro k o2 hk2 hd2
    exact (hk ⟨k, o2, hk2, hd2⟩).elim

theorem Fits.exec {ops : Array Oper} {vals : List Value} {a0 a : Act} {L : Array Bool} (h : Fits ops vals a0 L a) (hc : chk ops = true) (hlen : vals.length = ops.size) (hcl : Closed ops L) {i : Nat} {o : Oper} (ho : ops[i]? = some o) (hl : L.getD i false = false) (hr : ∀ d ∈ deps o, L.getD d false = true) :
    execOp a.eval o = execOp (putL ((ops.toList.zip vals).take i) a0).eval o := by
  refine execOp_congr o (chk_kind hc ho).2 fun x hx => ?_
  cases x with
  | tmp t =>
    have := h.eval hc hlen hcl ho hl hr (t := t) (List.mem_append_left _ (List.mem_filterMap.2 ⟨.tmp t, by simpa using hx, rfl⟩))
    simp [Act.eval, Array.getD_eq_getD_getElem?, this]
  | _ => rfl

theorem Fits.wanted {ops : Array Oper} {vals : List Value} {a0 a : Act} {L : Array Bool} (h : Fits ops vals a0 L a) (hc : chk ops = true) (hlen : vals.length = ops.size) (hcl : Closed ops L) {i : Nat} {o : Oper} (ho : ops[i]? = some o) (hl : L.getD i false = false) (hr : ∀ d ∈ deps o, L.getD d false = true) :
    Region.wanted o (yielded ops a.tmps) = Region.wanted o (yielded ops (putL ((ops.toList.zip vals).take i) a0).tmps) := by
  unfold Region.wanted
  cases hg : o.guard with
  | none => rfl
  | some gw =>
    obtain ⟨g, want⟩ := gw
    have hy : yielded ops a.tmps g = yielded ops (putL ((ops.toList.zip vals).take i) a0).tmps g := by
      unfold yielded
      cases ht : (ops[g]?).bind (·.dst) with
      | none => rfl
      | some t =>
        have := h.eval hc hlen hcl ho hl hr (t := t) (List.mem_append_right _ (by simp [hg, ht]))
        simp [this]
    simp only [hy]

/-- Behind operation i, with the values of a new choice. -/
theorem Fits.put {ops : Array Oper} (hc : chk ops = true) {u v : List Value} {a0 a : Act} {L : Array Bool} (hs : L.size = ops.size) (h : Fits ops u a0 L a) {i : Nat} {o : Oper} (ho : ops[i]? = some o)
    {x : Value} (hx : v[i]? = some x) (hag : ∀ j, L.getD j false = true → u[j]? = v[j]?) : Fits ops v a0 (L.setIfInBounds i true) (a.put o.dst x) := by
  have hi : i < L.size := by rw [hs]; exact (Array.getElem?_eq_some_iff.1 ho).1
  refine ⟨by rw [put_size, h.size], by rw [put_defers, h.defers], fun j o' y d hj hy hd hlj => ?_, fun j o' d hj hd hlj => ?_, fun k hk => ?_⟩
  · by_cases hij : i = j
    · subst hij
      rw [ho] at hj; cases hj
      rw [hx] at hy; cases hy
      rw [hd, put_same, h.size]
    · rw [getD_set hi, if_neg hij] at hlj
      rw [put_other _ _ _ _ (fun e => hij (chk_dst hc ho hj e hd))]
      exact h.on j o' y d hj ((hag j hlj).trans hy) hd hlj
  · have hij : i ≠ j := by rintro rfl; rw [getD_set hi, if_pos rfl] at hlj; cases hlj
    rw [getD_set hi, if_neg hij] at hlj
    rw [put_other _ _ _ _ (fun e => hij (chk_dst hc ho hj e hd))]
    exact h.off j o' d hj hd hlj
  · rw [put_other _ _ _ _ (fun e => hk ⟨i, o, ho, e⟩)]
    exact h.non k hk

theorem mem_ready' {ops : Array Oper} {L : Array Bool} (hs : L.size = ops.size) {i : Nat} : i ∈ Region.ready .any ops L ↔ ∃ o, ops[i]? = some o ∧ L.getD i false = false ∧ ∀ d ∈ deps o, L.getD d false = true := by
  rw [mem_ready]
  constructor
  · rintro ⟨h1, o, ho, h2⟩
    refine ⟨o, ho, by rw [getD_tf (by rw [hs]; exact (Array.getElem?_eq_some_iff.1 ho).1) false true]; exact h1, fun d hd => ?_⟩
    obtain ⟨e, he, hb, rfl⟩ := mem_deps.1 hd
    exact h2 e he hb
  · rintro ⟨o, ho, h1, h2⟩
    exact ⟨by rw [getD_tf (by rw [hs]; exact (Array.getElem?_eq_some_iff.1 ho).1) true false]; exact h1, o, ho, fun e he hb => h2 _ (mem_deps.2 ⟨e, he, hb, rfl⟩)⟩

theorem not_stuck {ops : Array Oper} {L : Array Bool} (hc : chk ops = true) (hs : L.size = ops.size) (hr : Region.ready .any ops L = []) : missing L = 0 := by
  by_cases hm : missing L = 0
  · exact hm
  · obtain ⟨j, hj, hl⟩ := missing_pos hm
    exfalso
    induction j using Nat.strongRecOn with
    | _ j ih =>
      have ho : ops[j]? = some ops[j] := Array.getElem?_eq_getElem (by omega)
      have : j ∈ Region.ready .any ops L := (mem_ready' hs).2 ⟨_, ho, hl, fun d hd => by
        cases hb : L.getD d false with
        | true => rfl
        | false => exact (ih d (chk_low hc ho d hd) (by have := chk_low hc ho d hd; omega) hb).elim⟩
      rw [hr] at this
      cases this

theorem Agree.cons {ops : Array Oper} {c i : Nat} {x y : Value} {u v : List Value} (h : x = y ∨ i = c ∨ dep ops ops.size i c = true) (hr : Agree ops c (i + 1) u v) : Agree ops c i (x :: u) (y :: v) := ⟨h, hr⟩
theorem Agree.nil {ops : Array Oper} {c i : Nat} : Agree ops c i [] [] := trivial

structure Inv2 {σ : Type} (ops : Array Oper) (cs : List Nat) (V : σ → List Value) (G : Nat → σ → World → Prop) (a0 : Act) (f : Nat) (L : Array Bool) (a : Act) (w : World) : Prop where
  size : L.size = ops.size
  miss : missing L = f
  closed : Closed ops L
  phase : ∃ s, Fits ops (V s) a0 L a ∧ ∃ p, (∀ c ∈ cs.take p, L.getD c false = true) ∧ (∀ c ∈ cs.drop p, L.getD c false = false) ∧ p ≤ cs.length ∧ G p s w

theorem Inv2.step {σ : Type} {F : Fence} {n : Nat} {P : Program} {ops : Array Oper} {cs : List Nat} {V : σ → List Value} {G : Nat → σ → World → Prop} {a0 : Act} {Q : Exit → Act → World → Prop} (hF : ∀ f, F.fn f) (hd : F.depth = none) (hc : chk ops = true) (hcs : chkC ops cs = true) (hlen : ∀ s, (V s).length = ops.size)
    (hst : Steps2 F n P ops cs V G a0 ops.toList 0) {f : Nat} {L : Array Bool} {a : Act} {w : World} (h : Inv2 ops cs V G a0 (f + 1) L a w) {i : Nat} (hi : i ∈ Region.ready .any ops L) :
    wpOpIn F n P ops Q i (Inv2 ops cs V G a0 f (L.setIfInBounds i true)) a w := by
  obtain ⟨o, ho, hl, hr⟩ := (mem_ready' h.size).1 hi
  have hlt : i < L.size := by rw [h.size]; exact (Array.getElem?_eq_some_iff.1 ho).1
  obtain ⟨s, hfits, p, hp1, hp2, hpl, hw⟩ := h.phase
  have hpw := chkC_spec hcs
  have hmay : may ops cs i p = true := by
    simp only [may, Bool.and_eq_true, List.all_eq_true]
    refine ⟨⟨⟨by simpa using hpl, fun c hcm => ?_⟩, fun c hcm => ?_⟩, ?_⟩
    · have := hp1 c hcm
      simp only [bne_iff_ne, ne_eq, Bool.not_eq_true']
      refine ⟨by (rintro rfl; rw [hl] at this; cases this), ?_⟩
      cases hb : dep ops ops.size c i with
      | false => rfl
      | true => have := dep_listed h.closed _ _ _ hb this; rw [hl] at this; cases this
    · have := hp2 c hcm
      simp only [Bool.not_eq_true']
      cases hb : dep ops ops.size i c with
      | false => rfl
      | true => have h3 := dep_ready h.closed ho hr _ _ hb; rw [this] at h3; cases h3
    · cases hci : cs.contains i with
      | false => rfl
      | true =>
        simp only [Bool.not_true, Bool.false_or]
        rw [List.contains_iff_mem] at hci
        have hdr : i ∈ cs.drop p := by
          rw [← List.take_append_drop p cs, List.mem_append] at hci
          rcases hci with hci | hci
          · have := hp1 i hci; rw [hl] at this; cases this
          · exact hci
        cases hdp : cs.drop p with
        | nil => rw [hdp] at hdr; cases hdr
        | cons x r =>
          rw [hdp] at hdr
          rcases List.mem_cons.1 hdr with rfl | hm
          · simp
          · have hsub : (x :: r).Sublist cs := hdp ▸ List.drop_sublist p cs
            have h4 := (List.pairwise_cons.1 (hpw.sublist hsub)).1 i hm
            have h5 := dep_ready h.closed ho hr _ _ h4.2
            rw [hp2 x (by rw [hdp]; simp)] at h5
            cases h5
  have hok := steps2_at _ _ hst i o (by simpa using ho) p (by simpa using hmay) s w hw
  simp only [Nat.zero_add] at hok
  have hclosed : Closed ops (L.setIfInBounds i true) := by
    intro j o' hj hlj d hdd
    rw [getD_set hlt] at hlj ⊢
    split
    · rfl
    · split at hlj
      · rename_i e; subst e
        rw [ho] at hj; cases hj
        exact hr d hdd
      · exact h.closed j o' hj hlj d hdd
  have fin : ∀ v w', (if cs.contains i then ∃ s', G (p + 1) s' w' ∧ (V s')[i]? = some v ∧ Agree ops i 0 (V s) (V s') else (V s)[i]? = some v ∧ G p s w') → Inv2 ops cs V G a0 f (L.setIfInBounds i true) (a.put o.dst v) w' := by
    intro v w' hw'
    refine ⟨by simpa using h.size, by have := missing_set hlt hl; have := h.miss; omega, hclosed, ?_⟩
    cases hci : cs.contains i with
    | false =>
      rw [hci] at hw'
      obtain ⟨hv, hG⟩ := hw'
      refine ⟨s, hfits.put hc h.size ho hv (fun _ _ => rfl), p, fun c hcm => ?_, fun c hcm => ?_, hpl, hG⟩
      · rw [getD_set hlt]; split
        · rfl
        · exact hp1 c hcm
      · rw [getD_set hlt, if_neg]
        · exact hp2 c hcm
        · rintro rfl
          have : cs.contains i = true := List.contains_iff_mem.2 (List.mem_of_mem_drop hcm)
          rw [hci] at this; cases this
    | true =>
      rw [hci] at hw'
      obtain ⟨s', hG, hv, hag⟩ := hw'
      have hmay := hmay
      simp only [may, Bool.and_eq_true, hci, Bool.not_true, Bool.false_or] at hmay
      have hh := hmay.2
      refine ⟨s', hfits.put hc h.size ho hv (fun j hlj => ?_), ?_⟩
      · rcases agree_at _ _ _ hag j with h1 | h1 | h1
        · exact h1
        · rw [Nat.zero_add] at h1; subst h1; rw [hl] at hlj; cases hlj
        · rw [Nat.zero_add] at h1
          have := dep_listed h.closed _ _ _ h1 hlj
          rw [hl] at this; cases this
      · cases hdp : cs.drop p with
        | nil => rw [hdp] at hh; simp at hh
        | cons x r =>
          rw [hdp] at hh
          simp at hh
          subst hh
          have hpl' : p < cs.length := by
            rcases Nat.lt_or_ge p cs.length with h | h
            · exact h
            · rw [List.drop_eq_nil_of_le h] at hdp; cases hdp
          have hx : cs[p] = x := by
            have := List.drop_eq_getElem_cons hpl'
            rw [hdp] at this
            exact (List.cons.inj this).1.symm
          have hr' : cs.drop (p + 1) = r := by
            have := List.drop_eq_getElem_cons hpl'
            rw [hdp] at this
            exact (List.cons.inj this).2.symm
          refine ⟨p + 1, fun c hcm => ?_, fun c hcm => ?_, hpl', hG⟩
          · rw [getD_set hlt]; split
            · rfl
            · rename_i hne
              rw [List.take_succ_eq_append_getElem hpl', List.mem_append] at hcm
              rcases hcm with hcm | hcm
              · exact hp1 c hcm
              · simp at hcm; rw [hx] at hcm; exact (hne hcm.symm).elim
          · rw [hr'] at hcm
            have hsub : (x :: r).Sublist cs := hdp ▸ List.drop_sublist p cs
            have h4 := (List.pairwise_cons.1 (hpw.sublist hsub)).1 c hcm
            rw [getD_set hlt, if_neg (fun e => h4.1 e.symm)]
            exact hp2 c (by rw [hdp]; exact List.mem_cons_of_mem _ hcm)
  unfold wpOpIn
  rw [ho]
  simp only
  unfold OkE at hok
  rw [hfits.wanted hc (hlen s) h.closed ho hl hr]
  split
  · rename_i hwt
    rw [if_pos hwt] at hok
    refine ⟨fun _ _ => hF _, ?_⟩
    rw [show Oper.semAt F.round a.eval o = execOp (putL ((ops.toList.zip (V s)).take i) a0).eval o from (by
      rw [← hfits.exec hc (hlen s) h.closed ho hl hr]
      cases F.round with
      | none => rfl
      | some l => exact Oper.semAt_some l _ _ (chk_kind hc ho).1)]
    generalize (execOp (putL ((ops.toList.zip (V s)).take i) a0).eval o).run P w = r at *
    cases r with
    | ok x w' =>
      cases x <;> simp only at hok <;> simp only [Oper.uponIn]
      case value u => exact fin u w' hok
      case skip => exact fin undef w' hok
      case enter f args => exact ⟨fun e => by (rw [hd] at e; cases e), hok.mono fun e w'' ⟨v, he, hw'⟩ => by (subst he; exact fin v w'' hw')⟩
    | halt x w' => cases hok
  · rename_i hwt
    rw [if_neg hwt] at hok
    exact ⟨fun _ _ => hF _, fin undef w hok⟩

/-- **A drawn region by phases, each of which may choose what it yields.** -/
theorem region2 {σ : Type} {F : Fence} {n : Nat} {P : Program} {ops : Array Oper} {Q : Exit → Act → World → Prop} {a : Act} {w : World} {id : Nat} (hF : ∀ f, F.fn f) (hd : F.depth = none) (hm : P.follows .mixedOrders = true)
    (cs : List Nat) (V : σ → List Value) (G : Nat → σ → World → Prop) (hc : chk ops = true) (hcs : chkC ops cs = true) (hlen : ∀ s, ((V s).length == ops.size) = true) (s0 : σ) (h0 : G 0 s0 w.drew)
    (hst : Steps2 F n P ops cs V G a ops.toList 0)
    (hend : ∀ s w', G cs.length s w' → Q .normal (putL (ops.toList.zip (V s)) a) w') :
    (Code.region id ops true).wpIn F n P Q a w := by
  have hlen : ∀ s, (V s).length = ops.size := fun s => by simpa using hlen s
  have hrep : ∀ j, (Array.replicate ops.size false).getD j false = false := by
    intro j
    simp only [Array.getD_eq_getD_getElem?, Array.getElem?_replicate]
    split <;> rfl
  refine wpIn_region_any hm ?_
  refine wpAnyIn_inv (Inv2 ops cs V G a) ?_ ?_ (fun f L a' w' h i hi => h.step hF hd hc hcs hlen hst hi) _ _ _ _ ⟨by simp, ?_, ?_, ⟨s0, ⟨rfl, rfl, fun j o v d hj hv hd hl => (by rw [hrep] at hl; cases hl), fun _ _ _ _ _ _ => rfl, fun _ _ => rfl⟩, 0, by simp, fun c _ => hrep c, Nat.zero_le _, h0⟩⟩
  · intro f L a' w' h hr
    have hz := not_stuck hc h.size hr
    obtain ⟨s, hfits, p, _, hp2, hpl, hw⟩ := h.phase
    have hp : p = cs.length := by
      rcases Nat.lt_or_ge p cs.length with hlt | hge
      · exfalso
        have hm : cs[p] ∈ cs.drop p := by rw [List.drop_eq_getElem_cons hlt]; exact List.mem_cons_self
        have h1 := hp2 _ hm
        have h2 : cs[p] < L.size := by rw [h.size]; exact chkC_lt hcs _ (List.getElem_mem _)
        rw [missing_zero hz h2] at h1
        cases h1
      · omega
    subst hp
    have : a' = putL (ops.toList.zip (V s)) a := by
      obtain ⟨t, dd⟩ := a'
      have h2 := hfits.defers
      have h3 : t = (putL (ops.toList.zip (V s)) a).tmps := by
        apply Array.ext_getElem?
        intro k
        by_cases hk : ∃ (j : Nat) (o' : Oper), ops[j]? = some o' ∧ o'.dst = some k
        · obtain ⟨j, o', hj, hd⟩ := hk
          have hjs := (Array.getElem?_eq_some_iff.1 hj).1
          obtain ⟨v, hv⟩ : ∃ v, (V s)[j]? = some v := ⟨_, List.getElem?_eq_getElem (by rw [hlen]; exact hjs)⟩
          have h4 := hfits.on j o' v k hj hv hd (missing_zero hz (by rw [h.size]; exact hjs))
          have h5 := pre_on (i := ops.size) (a := a) hc hj hd hv hjs
          rw [List.take_of_length_le (by simp; omega)] at h5
          exact h4.trans h5.symm
        · have h6 := pre_off (i := ops.size) (ops := ops) (vals := V s) (a := a) (d := k) (fun j o hj hd => (hk ⟨j, o, hj, hd⟩).elim)
          rw [List.take_of_length_le (by simp; omega)] at h6
          exact (hfits.non k hk).trans h6.symm
      simp only at h2
      rw [h3, h2, ← putL_defers (ops.toList.zip (V s)) a]
    rw [this]
    exact hend s w' hw
  · intro L a' w' h
    apply List.eq_nil_iff_forall_not_mem.2
    intro i hi
    obtain ⟨o, ho, hl, _⟩ := (mem_ready' h.size).1 hi
    rw [missing_zero h.miss (by rw [h.size]; exact (Array.getElem?_eq_some_iff.1 ho).1)] at hl
    cases hl
  · simp [missing]
  · intro j o ho hl
    rw [hrep] at hl
    cases hl

/-! ### The law where no choice is left -/

/-- One operation, run in the frame a: it yields v, and the world is one of R. -/
def Ok (F : Fence) (n : Nat) (P : Program) (ops : Array Oper) (o : Oper) (a : Act) (w : World) (v : Value) (R : World → Prop) : Prop := OkE F n P ops o a w (fun u w' => u = v ∧ R w')

def Steps (F : Fence) (n : Nat) (P : Program) (ops : Array Oper) (cs : List Nat) (Wp : Nat → World → Prop) (full : List (Oper × Value)) (a : Act) : List (Oper × Value) → Nat → Prop
  | [], _ => True
  | (o, v) :: r, i => (∀ p, may ops cs i p = true → ∀ w, Wp p w → Ok F n P ops o (putL (full.take i) a) w v (Wp (if cs.contains i then p + 1 else p))) ∧ Steps F n P ops cs Wp full a r (i + 1)

theorem Steps.cons {F : Fence} {n : Nat} {P : Program} {ops : Array Oper} {cs : List Nat} {Wp : Nat → World → Prop} {full : List (Oper × Value)} {a : Act} {o : Oper} {v : Value} {r : List (Oper × Value)} {i : Nat}
    (h : ∀ p, may ops cs i p = true → ∀ w, Wp p w → Ok F n P ops o (putL (full.take i) a) w v (Wp (if cs.contains i then p + 1 else p))) (hr : Steps F n P ops cs Wp full a r (i + 1)) : Steps F n P ops cs Wp full a ((o, v) :: r) i := ⟨h, hr⟩
theorem Steps.nil {F : Fence} {n : Nat} {P : Program} {ops : Array Oper} {cs : List Nat} {Wp : Nat → World → Prop} {full : List (Oper × Value)} {a : Act} {i : Nat} : Steps F n P ops cs Wp full a [] i := trivial

theorem OkE.mono {F : Fence} {n : Nat} {P : Program} {ops : Array Oper} {o : Oper} {a : Act} {w : World} {R R' : Value → World → Prop} (h : ∀ v w, R v w → R' v w) (hh : OkE F n P ops o a w R) : OkE F n P ops o a w R' := by
  unfold OkE at *
  split
  · rename_i hw
    rw [if_pos hw] at hh
    generalize (execOp a.eval o).run P w = r at *
    cases r with
    | ok x w' =>
      cases x <;> simp only at hh ⊢
      case value u => exact h _ _ hh
      case skip => exact h _ _ hh
      case enter f args => exact hh.mono fun e w'' ⟨v, he, hr⟩ => ⟨v, he, h _ _ hr⟩
    | halt x w' => exact hh
  · rename_i hw
    rw [if_neg hw] at hh
    exact h _ _ hh

theorem agree_refl {ops : Array Oper} {c : Nat} : ∀ (u : List Value) (k : Nat), Agree ops c k u u
  | [], _ => trivial
  | _ :: u, k => ⟨.inl rfl, agree_refl u (k + 1)⟩

theorem steps_steps2 {F : Fence} {n : Nat} {P : Program} {ops : Array Oper} {cs : List Nat} {Wp : Nat → World → Prop} {vals : List Value} {a : Act} : ∀ (l : List Oper) (k : Nat) (vs : List Value), (∀ j, l[j]? = ops[k + j]?) → (∀ j, vs[j]? = vals[k + j]?) → l.length = vs.length →
    Steps F n P ops cs Wp (ops.toList.zip vals) a (l.zip vs) k → Steps2 F n P ops cs (fun (_ : Unit) => vals) (fun p _ w => Wp p w) a l k
  | [], _, _, _, _, _, _ => trivial
  | o :: l, k, [], _, _, hl, _ => by simp at hl
  | o :: l, k, v :: vs, ho, hv, hl, h => by
    refine ⟨fun p hp s w hG => (h.1 p hp w hG).mono fun u w' hu => ?_, steps_steps2 l (k + 1) vs (fun j => by have := ho (j + 1); simpa [Nat.add_assoc, Nat.add_comm 1 j] using this) (fun j => by have := hv (j + 1); simpa [Nat.add_assoc, Nat.add_comm 1 j] using this) (by simpa using hl) h.2⟩
    obtain ⟨rfl, hw⟩ := hu
    have hvk : vals[k]? = some u := by simpa using (hv 0).symm
    cases hck : cs.contains k with
    | true =>
      rw [hck] at hw
      exact ⟨(), hw, hvk, agree_refl _ _⟩
    | false =>
      rw [hck] at hw
      exact ⟨hvk, hw⟩

/-- **A drawn region each of whose operations yields one value.** -/
theorem region {F : Fence} {n : Nat} {P : Program} {ops : Array Oper} {Q : Exit → Act → World → Prop} {a : Act} {w : World} {id : Nat} (hF : ∀ f, F.fn f) (hd : F.depth = none) (hm : P.follows .mixedOrders = true)
    (cs : List Nat) (vals : List Value) (Wp : Nat → World → Prop) (hc : chk ops = true) (hcs : chkC ops cs = true) (hlen : (vals.length == ops.size) = true) (h0 : Wp 0 w.drew)
    (hst : Steps F n P ops cs Wp (ops.toList.zip vals) a (ops.toList.zip vals) 0)
    (hend : ∀ w', Wp cs.length w' → Q .normal (putL (ops.toList.zip vals) a) w') :
    (Code.region id ops true).wpIn F n P Q a w :=
  region2 hF hd hm cs (fun (_ : Unit) => vals) (fun p _ w => Wp p w) hc hcs (fun _ => hlen) () h0
    (steps_steps2 _ 0 vals (fun j => by simp) (fun j => by simp) (by simpa using (by simpa using hlen : vals.length = ops.size).symm) hst) (fun _ w' h => hend w' h)

end Sched
end Go.Proofs.Ytnbhphjpefagjaa
