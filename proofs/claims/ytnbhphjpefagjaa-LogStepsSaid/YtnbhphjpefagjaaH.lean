/- Log: Encode. -/
import Derived.Test.YtnbhphjpefagjaaG
namespace Go.Proofs.Ytnbhphjpefagjaa
open Go.RowKit Go.Shelf
attribute [local go_sem] Oper.semAt_some

def encTurns (l : List (Int × Int)) : List Int := l.flatMap (fun x => x.1 :: encN x.2)
def encBody (h : Int) (l : List (Int × Int)) (k tr th st : Int) : List Int := [87, 76, 79, 71] ++ le4 h ++ encN l.length ++ encTurns l ++ [k, tr, th] ++ encN st
def encM (h : Int) (l : List (Int × Int)) (k tr th st : Int) : List Int := encBody h l k tr th st ++ le4 (sumL (encBody h l k tr th st))

theorem encN_len (n : Int) : (encN n).length ≤ 10 := encF_len 9 n

theorem encTurns_len (l : List (Int × Int)) : (encTurns l).length ≤ 11 * l.length := by
  unfold encTurns
  induction l with
  | nil => simp
  | cons x l ih =>
    have := encN_len x.2
    simp only [List.flatMap_cons, List.length_append, List.length_cons] at ih ⊢
    omega

theorem all_call (a : Option Addr) (n c : Nat) (w : World) :
    Calls Try.prog 31 #[.slice a n c] w fun e w' => e = .returned (.func (.func 46) #[] #[.pointer (some ⟨w.heap.size, 0, none⟩)]) ∧ w' = w.alloc (.cells #[.slice a n c] 23) := by
  have hmf : ∀ (fn : Fn) (first cap : Array Value) (w : World), (Instr.makeFunc fn first cap).run Try.prog w = .ok (.func fn first cap) w := fun _ _ _ _ => rfl
  go_enter Try.func31, Try.ntmps31
  go_wp2
  go_ret
  exact ⟨rfl, rfl⟩

theorem chk_elems : ∀ (l : List (Int × Int)) (all last : Int), 0 ≤ all → chk all last l = true → ∀ j, j < l.length → 0 ≤ (l[j]?.getD (0, 0)).1 ∧ (l[j]?.getD (0, 0)).1 ≤ 7 ∧ 1 ≤ (l[j]?.getD (0, 0)).2 ∧ (l[j]?.getD (0, 0)).2 ≤ 2147483647 := by
  intro l
  induction l with
  | nil => intro all last _ _ j hj; simp at hj
  | cons x l ih =>
    intro all last h0 h j hj
    simp only [chk, inB, Bool.and_eq_true, decide_eq_true_eq] at h
    obtain ⟨⟨h1, h2⟩, ⟨h3, h4⟩, _, h6⟩ := h
    cases j with
    | zero => simp; omega
    | succ j => simpa using ih (all + x.2) x.1 (by omega) h6 j (by simpa using hj)

/-- The writer's blocks alone may turn. -/
theorem Wr.max {F : Nat → Prop} {w : World} {b : Nat} {l : List Int} (h : Wr F w b l) : ∃ g, Wr (fun k => k < w.heap.size ∧ k ≠ b ∧ k ≠ g) w b l ∧ ¬ F g ∧ ¬ F b ∧ (∀ k, F k → k < w.heap.size) ∧ (∃ c, w.heap[b]? = some (.cells c 69 (0, 0))) ∧ ∃ c, w.heap[g]? = some (.cells c 5 (0, 0)) := by
  obtain ⟨g, cap, h1, h2, h3, h4, h5, h6⟩ := h
  refine ⟨g, ⟨g, cap, h1, h2, h3, fun e => e.2.2 rfl, fun e => e.2.1 rfl, fun k hk => hk.1⟩, h4, h5, h6, ⟨_, h1⟩, ?_⟩
  rcases h2.2 with ⟨hv, _⟩ | ⟨g', cap', cur, hv, _, hg, _⟩
  · cases hv
  · cases hv; exact ⟨cur, hg⟩

theorem wr_back {F : Nat → Prop} {w w' : World} {b g : Nat} {l' : List Int} (h : Wr (fun k => k < w.heap.size ∧ k ≠ b ∧ k ≠ g) w' b l') (h4 : ¬ F g) (h5 : ¬ F b) (h6 : ∀ k, F k → k < w.heap.size) : Wr F w' b l' :=
  h.more fun k hk => .inl ⟨h6 k hk, fun e => h5 (e ▸ hk), fun e => h4 (e ▸ hk)⟩

theorem Wr.own {F : Nat → Prop} {W W' : World} {b : Nat} {l : List Int} {row : Option Nat} (h : Wr F W b l) (hg : W.grownBy W' row) (hr : ∀ r, row = some r → ∃ o : Obj, W.heap[r]? = some o ∧ o.isCells = false) : Wr F W' b l := by
  have hk : Keeps (fun k => row = some k) W W' := ⟨hg.os, hg.tape, hg.output, hg.size, fun k hk hn => hg.block k hk (fun e => hn e.symm)⟩
  obtain ⟨g, cap, h1, h2, h3, h4, h5, h6⟩ := h
  have hcell : ∀ k c e f, W.heap[k]? = some (.cells c e f) → row ≠ some k := by
    rintro k c e f hc rfl
    obtain ⟨o, ho, hn⟩ := hr k rfl
    rw [hc] at ho
    cases ho
    simp [Obj.isCells] at hn
  have hgc : ∃ c, W.heap[g]? = some (.cells c 5 (0, 0)) := by
    rcases h2.2 with ⟨hv, _⟩ | ⟨g', cap', cur, hv, _, hg, _⟩
    · cases hv
    · cases hv; exact ⟨cur, hg⟩
  obtain ⟨cg, hcg⟩ := hgc
  exact ⟨g, cap, (hk.block b (Array.getElem?_eq_some_iff.1 h1).1 (hcell _ _ _ _ h1)).trans h1, hk.row h2 (fun k hk => by cases hk; exact hcell _ _ _ _ hcg), h3, h4, h5, fun k hf => Nat.lt_of_lt_of_le (h6 k hf) hg.size⟩

end Go.Proofs.Ytnbhphjpefagjaa
