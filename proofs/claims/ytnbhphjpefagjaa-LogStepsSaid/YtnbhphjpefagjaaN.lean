/- Log: Encode's drawn region in a round, by an invariant on what is listed. -/
import Derived.Test.YtnbhphjpefagjaaM
import Derived.Test.YtnbhphjpefagjaaX
namespace Go.Proofs.Ytnbhphjpefagjaa
open Go.RowKit Go.Shelf
attribute [local go_sem] Oper.semAt_some
attribute [-go_sem] Builtin.append_

/-- The value of a slot whose operation is listed or not. -/
def sl (l : Bool) (v : Value) : Value := if l then v else undef
theorem sl_true (v : Value) : sl true v = v := rfl
theorem sl_false (v : Value) : sl false v = undef := rfl

abbrev ops9 : Array Oper := #[{ dst := some 32, op := Go.Op.load 65 (Go.Operand.tmp 5), type := 65, pos := "log.go:82", after := #[], guard := none }, { dst := some 33, op := Go.Op.load 65 (Go.Operand.tmp 5), type := 65, pos := "log.go:82", after := #[], guard := none }, { dst := some 34, op := Go.Op.nilCheck (Go.Operand.tmp 33), type := 0, pos := "log.go:82", after := #[{ on := 1, ground := Go.Ground.data }], guard := none }, { dst := some 35, op := Go.Op.fieldAddr 69 (Go.Operand.tmp 34) 0, type := 0, pos := "log.go:82", after := #[{ on := 2, ground := Go.Ground.data }], guard := none }, { dst := some 36, op := Go.Op.fieldAddr 67 (Go.Operand.tmp 35) 0, type := 0, pos := "log.go:82", after := #[{ on := 3, ground := Go.Ground.data }], guard := none }, { dst := some 37, op := Go.Op.load 31 (Go.Operand.tmp 36), type := 31, pos := "log.go:82", after := #[{ on := 4, ground := Go.Ground.data }], guard := none }, { dst := some 38, op := Go.Op.fieldAddr 57 (Go.Operand.tmp 7) 0, type := 0, pos := "log.go:82", after := #[], guard := none }, { dst := some 39, op := Go.Op.load 3 (Go.Operand.tmp 38), type := 3, pos := "log.go:82", after := #[{ on := 6, ground := Go.Ground.data }], guard := none }, { dst := some 40, op := Go.Op.convert 3 5 (Go.Operand.tmp 39), type := 5, pos := "log.go:82", after := #[{ on := 7, ground := Go.Ground.data }], guard := none }, { dst := some 41, op := Go.Op.buildSlice 31 1 #[(0, Go.Operand.tmp 40)], type := 31, pos := "log.go:82", after := #[{ on := 8, ground := Go.Ground.data }], guard := none }, { dst := some 42, op := Go.Op.call { callee := Go.Callee.builtin Go.Builtin.append, args := #[Go.Operand.tmp 37, Go.Operand.tmp 41], argTypes := #[31, 31] }, type := 31, pos := "log.go:82", after := #[{ on := 5, ground := Go.Ground.data }, { on := 9, ground := Go.Ground.data }], guard := none }, { dst := some 43, op := Go.Op.nilCheck (Go.Operand.tmp 32), type := 0, pos := "log.go:82", after := #[{ on := 0, ground := Go.Ground.data }, { on := 0, ground := Go.Ground.phase }, { on := 1, ground := Go.Ground.phase }, { on := 2, ground := Go.Ground.phase }, { on := 3, ground := Go.Ground.phase }, { on := 4, ground := Go.Ground.phase }, { on := 5, ground := Go.Ground.phase }, { on := 6, ground := Go.Ground.phase }, { on := 7, ground := Go.Ground.phase }, { on := 8, ground := Go.Ground.phase }, { on := 9, ground := Go.Ground.phase }, { on := 10, ground := Go.Ground.phase }], guard := none }, { dst := some 44, op := Go.Op.fieldAddr 69 (Go.Operand.tmp 43) 0, type := 0, pos := "log.go:82", after := #[{ on := 11, ground := Go.Ground.data }, { on := 0, ground := Go.Ground.phase }, { on := 1, ground := Go.Ground.phase }, { on := 2, ground := Go.Ground.phase }, { on := 3, ground := Go.Ground.phase }, { on := 4, ground := Go.Ground.phase }, { on := 5, ground := Go.Ground.phase }, { on := 6, ground := Go.Ground.phase }, { on := 7, ground := Go.Ground.phase }, { on := 8, ground := Go.Ground.phase }, { on := 9, ground := Go.Ground.phase }, { on := 10, ground := Go.Ground.phase }], guard := none }, { dst := some 45, op := Go.Op.fieldAddr 67 (Go.Operand.tmp 44) 0, type := 0, pos := "log.go:82", after := #[{ on := 12, ground := Go.Ground.data }, { on := 0, ground := Go.Ground.phase }, { on := 1, ground := Go.Ground.phase }, { on := 2, ground := Go.Ground.phase }, { on := 3, ground := Go.Ground.phase }, { on := 4, ground := Go.Ground.phase }, { on := 5, ground := Go.Ground.phase }, { on := 6, ground := Go.Ground.phase }, { on := 7, ground := Go.Ground.phase }, { on := 8, ground := Go.Ground.phase }, { on := 9, ground := Go.Ground.phase }, { on := 10, ground := Go.Ground.phase }], guard := none }, { dst := none, op := Go.Op.store 31 (Go.Operand.tmp 45) (Go.Operand.tmp 42), type := 0, pos := "log.go:82", after := #[{ on := 13, ground := Go.Ground.data }, { on := 10, ground := Go.Ground.data }, { on := 10, ground := Go.Ground.chain }, { on := 0, ground := Go.Ground.phase }, { on := 1, ground := Go.Ground.phase }, { on := 2, ground := Go.Ground.phase }, { on := 3, ground := Go.Ground.phase }, { on := 4, ground := Go.Ground.phase }, { on := 5, ground := Go.Ground.phase }, { on := 6, ground := Go.Ground.phase }, { on := 7, ground := Go.Ground.phase }, { on := 8, ground := Go.Ground.phase }, { on := 9, ground := Go.Ground.phase }, { on := 10, ground := Go.Ground.phase }], guard := none }]

theorem ready9_0 (l0 l1 l2 l3 l4 l5 l6 l7 l8 l9 l10 l11 l12 l13 l14 : Bool) (h : 0 ∈ Region.ready .any ops9 #[l0, l1, l2, l3, l4, l5, l6, l7, l8, l9, l10, l11, l12, l13, l14]) : l0 = false := by
  rw [mem_ready] at h; simp [Region.binds] at h; simp [h]

theorem is_ready9_0 (l0 l1 l2 l3 l4 l5 l6 l7 l8 l9 l10 l11 l12 l13 l14 : Bool) (h : l0 = false) : 0 ∈ Region.ready .any ops9 #[l0, l1, l2, l3, l4, l5, l6, l7, l8, l9, l10, l11, l12, l13, l14] := by
  rw [mem_ready]; simp [Region.binds, h]

theorem ready9_1 (l0 l1 l2 l3 l4 l5 l6 l7 l8 l9 l10 l11 l12 l13 l14 : Bool) (h : 1 ∈ Region.ready .any ops9 #[l0, l1, l2, l3, l4, l5, l6, l7, l8, l9, l10, l11, l12, l13, l14]) : l1 = false := by
  rw [mem_ready] at h; simp [Region.binds] at h; simp [h]

theorem is_ready9_1 (l0 l1 l2 l3 l4 l5 l6 l7 l8 l9 l10 l11 l12 l13 l14 : Bool) (h : l1 = false) : 1 ∈ Region.ready .any ops9 #[l0, l1, l2, l3, l4, l5, l6, l7, l8, l9, l10, l11, l12, l13, l14] := by
  rw [mem_ready]; simp [Region.binds, h]

theorem ready9_2 (l0 l1 l2 l3 l4 l5 l6 l7 l8 l9 l10 l11 l12 l13 l14 : Bool) (h : 2 ∈ Region.ready .any ops9 #[l0, l1, l2, l3, l4, l5, l6, l7, l8, l9, l10, l11, l12, l13, l14]) : l2 = false ∧ l1 = true := by
  rw [mem_ready] at h; simp [Region.binds] at h; simp [h]

theorem is_ready9_2 (l0 l1 l2 l3 l4 l5 l6 l7 l8 l9 l10 l11 l12 l13 l14 : Bool) (h : l2 = false ∧ l1 = true) : 2 ∈ Region.ready .any ops9 #[l0, l1, l2, l3, l4, l5, l6, l7, l8, l9, l10, l11, l12, l13, l14] := by
  rw [mem_ready]; simp [Region.binds, h]

theorem ready9_3 (l0 l1 l2 l3 l4 l5 l6 l7 l8 l9 l10 l11 l12 l13 l14 : Bool) (h : 3 ∈ Region.ready .any ops9 #[l0, l1, l2, l3, l4, l5, l6, l7, l8, l9, l10, l11, l12, l13, l14]) : l3 = false ∧ l2 = true := by
  rw [mem_ready] at h; simp [Region.binds] at h; simp [h]

theorem is_ready9_3 (l0 l1 l2 l3 l4 l5 l6 l7 l8 l9 l10 l11 l12 l13 l14 : Bool) (h : l3 = false ∧ l2 = true) : 3 ∈ Region.ready .any ops9 #[l0, l1, l2, l3, l4, l5, l6, l7, l8, l9, l10, l11, l12, l13, l14] := by
  rw [mem_ready]; simp [Region.binds, h]

theorem ready9_4 (l0 l1 l2 l3 l4 l5 l6 l7 l8 l9 l10 l11 l12 l13 l14 : Bool) (h : 4 ∈ Region.ready .any ops9 #[l0, l1, l2, l3, l4, l5, l6, l7, l8, l9, l10, l11, l12, l13, l14]) : l4 = false ∧ l3 = true := by
  rw [mem_ready] at h; simp [Region.binds] at h; simp [h]

theorem is_ready9_4 (l0 l1 l2 l3 l4 l5 l6 l7 l8 l9 l10 l11 l12 l13 l14 : Bool) (h : l4 = false ∧ l3 = true) : 4 ∈ Region.ready .any ops9 #[l0, l1, l2, l3, l4, l5, l6, l7, l8, l9, l10, l11, l12, l13, l14] := by
  rw [mem_ready]; simp [Region.binds, h]

theorem ready9_5 (l0 l1 l2 l3 l4 l5 l6 l7 l8 l9 l10 l11 l12 l13 l14 : Bool) (h : 5 ∈ Region.ready .any ops9 #[l0, l1, l2, l3, l4, l5, l6, l7, l8, l9, l10, l11, l12, l13, l14]) : l5 = false ∧ l4 = true := by
  rw [mem_ready] at h; simp [Region.binds] at h; simp [h]

theorem is_ready9_5 (l0 l1 l2 l3 l4 l5 l6 l7 l8 l9 l10 l11 l12 l13 l14 : Bool) (h : l5 = false ∧ l4 = true) : 5 ∈ Region.ready .any ops9 #[l0, l1, l2, l3, l4, l5, l6, l7, l8, l9, l10, l11, l12, l13, l14] := by
  rw [mem_ready]; simp [Region.binds, h]

theorem ready9_6 (l0 l1 l2 l3 l4 l5 l6 l7 l8 l9 l10 l11 l12 l13 l14 : Bool) (h : 6 ∈ Region.ready .any ops9 #[l0, l1, l2, l3, l4, l5, l6, l7, l8, l9, l10, l11, l12, l13, l14]) : l6 = false := by
  rw [mem_ready] at h; simp [Region.binds] at h; simp [h]

theorem is_ready9_6 (l0 l1 l2 l3 l4 l5 l6 l7 l8 l9 l10 l11 l12 l13 l14 : Bool) (h : l6 = false) : 6 ∈ Region.ready .any ops9 #[l0, l1, l2, l3, l4, l5, l6, l7, l8, l9, l10, l11, l12, l13, l14] := by
  rw [mem_ready]; simp [Region.binds, h]

theorem ready9_7 (l0 l1 l2 l3 l4 l5 l6 l7 l8 l9 l10 l11 l12 l13 l14 : Bool) (h : 7 ∈ Region.ready .any ops9 #[l0, l1, l2, l3, l4, l5, l6, l7, l8, l9, l10, l11, l12, l13, l14]) : l7 = false ∧ l6 = true := by
  rw [mem_ready] at h; simp [Region.binds] at h; simp [h]

theorem is_ready9_7 (l0 l1 l2 l3 l4 l5 l6 l7 l8 l9 l10 l11 l12 l13 l14 : Bool) (h : l7 = false ∧ l6 = true) : 7 ∈ Region.ready .any ops9 #[l0, l1, l2, l3, l4, l5, l6, l7, l8, l9, l10, l11, l12, l13, l14] := by
  rw [mem_ready]; simp [Region.binds, h]

theorem ready9_8 (l0 l1 l2 l3 l4 l5 l6 l7 l8 l9 l10 l11 l12 l13 l14 : Bool) (h : 8 ∈ Region.ready .any ops9 #[l0, l1, l2, l3, l4, l5, l6, l7, l8, l9, l10, l11, l12, l13, l14]) : l8 = false ∧ l7 = true := by
  rw [mem_ready] at h; simp [Region.binds] at h; simp [h]

theorem is_ready9_8 (l0 l1 l2 l3 l4 l5 l6 l7 l8 l9 l10 l11 l12 l13 l14 : Bool) (h : l8 = false ∧ l7 = true) : 8 ∈ Region.ready .any ops9 #[l0, l1, l2, l3, l4, l5, l6, l7, l8, l9, l10, l11, l12, l13, l14] := by
  rw [mem_ready]; simp [Region.binds, h]

theorem ready9_9 (l0 l1 l2 l3 l4 l5 l6 l7 l8 l9 l10 l11 l12 l13 l14 : Bool) (h : 9 ∈ Region.ready .any ops9 #[l0, l1, l2, l3, l4, l5, l6, l7, l8, l9, l10, l11, l12, l13, l14]) : l9 = false ∧ l8 = true := by
  rw [mem_ready] at h; simp [Region.binds] at h; simp [h]

theorem is_ready9_9 (l0 l1 l2 l3 l4 l5 l6 l7 l8 l9 l10 l11 l12 l13 l14 : Bool) (h : l9 = false ∧ l8 = true) : 9 ∈ Region.ready .any ops9 #[l0, l1, l2, l3, l4, l5, l6, l7, l8, l9, l10, l11, l12, l13, l14] := by
  rw [mem_ready]; simp [Region.binds, h]

theorem ready9_10 (l0 l1 l2 l3 l4 l5 l6 l7 l8 l9 l10 l11 l12 l13 l14 : Bool) (h : 10 ∈ Region.ready .any ops9 #[l0, l1, l2, l3, l4, l5, l6, l7, l8, l9, l10, l11, l12, l13, l14]) : l10 = false ∧ l5 = true ∧ l9 = true := by
  rw [mem_ready] at h; simp [Region.binds] at h; simp [h]

theorem is_ready9_10 (l0 l1 l2 l3 l4 l5 l6 l7 l8 l9 l10 l11 l12 l13 l14 : Bool) (h : l10 = false ∧ l5 = true ∧ l9 = true) : 10 ∈ Region.ready .any ops9 #[l0, l1, l2, l3, l4, l5, l6, l7, l8, l9, l10, l11, l12, l13, l14] := by
  rw [mem_ready]; simp [Region.binds, h]

theorem ready9_11 (l0 l1 l2 l3 l4 l5 l6 l7 l8 l9 l10 l11 l12 l13 l14 : Bool) (h : 11 ∈ Region.ready .any ops9 #[l0, l1, l2, l3, l4, l5, l6, l7, l8, l9, l10, l11, l12, l13, l14]) : l11 = false ∧ l0 = true ∧ l1 = true ∧ l2 = true ∧ l3 = true ∧ l4 = true ∧ l5 = true ∧ l6 = true ∧ l7 = true ∧ l8 = true ∧ l9 = true ∧ l10 = true := by
  rw [mem_ready] at h; simp [Region.binds] at h; simp [h]

theorem is_ready9_11 (l0 l1 l2 l3 l4 l5 l6 l7 l8 l9 l10 l11 l12 l13 l14 : Bool) (h : l11 = false ∧ l0 = true ∧ l1 = true ∧ l2 = true ∧ l3 = true ∧ l4 = true ∧ l5 = true ∧ l6 = true ∧ l7 = true ∧ l8 = true ∧ l9 = true ∧ l10 = true) : 11 ∈ Region.ready .any ops9 #[l0, l1, l2, l3, l4, l5, l6, l7, l8, l9, l10, l11, l12, l13, l14] := by
  rw [mem_ready]; simp [Region.binds, h]

theorem ready9_12 (l0 l1 l2 l3 l4 l5 l6 l7 l8 l9 l10 l11 l12 l13 l14 : Bool) (h : 12 ∈ Region.ready .any ops9 #[l0, l1, l2, l3, l4, l5, l6, l7, l8, l9, l10, l11, l12, l13, l14]) : l12 = false ∧ l11 = true ∧ l0 = true ∧ l1 = true ∧ l2 = true ∧ l3 = true ∧ l4 = true ∧ l5 = true ∧ l6 = true ∧ l7 = true ∧ l8 = true ∧ l9 = true ∧ l10 = true := by
  rw [mem_ready] at h; simp [Region.binds] at h; simp [h]

theorem is_ready9_12 (l0 l1 l2 l3 l4 l5 l6 l7 l8 l9 l10 l11 l12 l13 l14 : Bool) (h : l12 = false ∧ l11 = true ∧ l0 = true ∧ l1 = true ∧ l2 = true ∧ l3 = true ∧ l4 = true ∧ l5 = true ∧ l6 = true ∧ l7 = true ∧ l8 = true ∧ l9 = true ∧ l10 = true) : 12 ∈ Region.ready .any ops9 #[l0, l1, l2, l3, l4, l5, l6, l7, l8, l9, l10, l11, l12, l13, l14] := by
  rw [mem_ready]; simp [Region.binds, h]

theorem ready9_13 (l0 l1 l2 l3 l4 l5 l6 l7 l8 l9 l10 l11 l12 l13 l14 : Bool) (h : 13 ∈ Region.ready .any ops9 #[l0, l1, l2, l3, l4, l5, l6, l7, l8, l9, l10, l11, l12, l13, l14]) : l13 = false ∧ l12 = true ∧ l0 = true ∧ l1 = true ∧ l2 = true ∧ l3 = true ∧ l4 = true ∧ l5 = true ∧ l6 = true ∧ l7 = true ∧ l8 = true ∧ l9 = true ∧ l10 = true := by
  rw [mem_ready] at h; simp [Region.binds] at h; simp [h]

theorem is_ready9_13 (l0 l1 l2 l3 l4 l5 l6 l7 l8 l9 l10 l11 l12 l13 l14 : Bool) (h : l13 = false ∧ l12 = true ∧ l0 = true ∧ l1 = true ∧ l2 = true ∧ l3 = true ∧ l4 = true ∧ l5 = true ∧ l6 = true ∧ l7 = true ∧ l8 = true ∧ l9 = true ∧ l10 = true) : 13 ∈ Region.ready .any ops9 #[l0, l1, l2, l3, l4, l5, l6, l7, l8, l9, l10, l11, l12, l13, l14] := by
  rw [mem_ready]; simp [Region.binds, h]

theorem ready9_14 (l0 l1 l2 l3 l4 l5 l6 l7 l8 l9 l10 l11 l12 l13 l14 : Bool) (h : 14 ∈ Region.ready .any ops9 #[l0, l1, l2, l3, l4, l5, l6, l7, l8, l9, l10, l11, l12, l13, l14]) : l14 = false ∧ l13 = true ∧ l10 = true ∧ l0 = true ∧ l1 = true ∧ l2 = true ∧ l3 = true ∧ l4 = true ∧ l5 = true ∧ l6 = true ∧ l7 = true ∧ l8 = true ∧ l9 = true := by
  rw [mem_ready] at h; simp [Region.binds] at h; simp [h]

theorem is_ready9_14 (l0 l1 l2 l3 l4 l5 l6 l7 l8 l9 l10 l11 l12 l13 l14 : Bool) (h : l14 = false ∧ l13 = true ∧ l10 = true ∧ l0 = true ∧ l1 = true ∧ l2 = true ∧ l3 = true ∧ l4 = true ∧ l5 = true ∧ l6 = true ∧ l7 = true ∧ l8 = true ∧ l9 = true) : 14 ∈ Region.ready .any ops9 #[l0, l1, l2, l3, l4, l5, l6, l7, l8, l9, l10, l11, l12, l13, l14] := by
  rw [mem_ready]; simp [Region.binds, h]

/-- What is listed closes upon what it leans on. -/
def cl9 (l0 l1 l2 l3 l4 l5 l6 l7 l8 l9 l10 l11 l12 l13 l14 : Bool) : Prop := (l2 = true → l1 = true) ∧ (l3 = true → l2 = true) ∧ (l4 = true → l3 = true) ∧ (l5 = true → l4 = true) ∧ (l7 = true → l6 = true) ∧ (l8 = true → l7 = true) ∧ (l9 = true → l8 = true) ∧ (l10 = true → l5 = true) ∧ (l10 = true → l9 = true) ∧ (l11 = true → l0 = true) ∧ (l11 = true → l1 = true) ∧ (l11 = true → l2 = true) ∧ (l11 = true → l3 = true) ∧ (l11 = true → l4 = true) ∧ (l11 = true → l5 = true) ∧ (l11 = true → l6 = true) ∧ (l11 = true → l7 = true) ∧ (l11 = true → l8 = true) ∧ (l11 = true → l9 = true) ∧ (l11 = true → l10 = true) ∧ (l12 = true → l11 = true) ∧ (l13 = true → l12 = true) ∧ (l14 = true → l13 = true)

theorem wpOpIn_ok {lp n i : Nat} {P : Program} {ops : Array Oper} {o : Oper} {K : Act → World → Prop} {Q : Exit → Act → World → Prop} {a : Act} {w w' : World} {v : Value} (hi : ops[i]? = some o) (hg : o.guard = none) (hd : ∀ c, o.op ≠ .defer c)
    (hrun : (execOp a.eval o).run P w = .ok (.value v) w') (h : K (a.put o.dst v) w') : wpOpIn (Fence.wide.inRound lp) n P ops Q i K a w := by
  unfold wpOpIn
  rw [hi]
  simp only [Region.wanted, hg, if_true]
  refine ⟨fun _ _ => trivial, ?_⟩
  rw [show (Fence.wide.inRound lp).round = some lp from rfl, Oper.semAt_some lp _ _ hd, hrun]
  exact h

theorem wpOpIn_skip {lp n i : Nat} {P : Program} {ops : Array Oper} {o : Oper} {K : Act → World → Prop} {Q : Exit → Act → World → Prop} {a : Act} {w w' : World} (hi : ops[i]? = some o) (hg : o.guard = none) (hd : ∀ c, o.op ≠ .defer c)
    (hrun : (execOp a.eval o).run P w = .ok .skip w') (h : K (a.put o.dst undef) w') : wpOpIn (Fence.wide.inRound lp) n P ops Q i K a w := by
  unfold wpOpIn
  rw [hi]
  simp only [Region.wanted, hg, if_true]
  refine ⟨fun _ _ => trivial, ?_⟩
  rw [show (Fence.wide.inRound lp).round = some lp from rfl, Oper.semAt_some lp _ _ hd, hrun]
  exact h

set_option maxRecDepth 100000 in
set_option maxHeartbeats 4000000 in
theorem region9_in (lp n : Nat) (v0 v1 v2 v3 v4 v6 v8 v9 v10 v11 v12 v13 v14 v15 v16 v17 v18 v19 v20 v21 v22 v23 v24 v25 v26 v27 v28 v29 v30 v31 : Value) (p b Bx g cap g' cap' len : Nat) (u : Int) (W W3 : World) (Q : Exit → Act → World → Prop)
    (h1 : W.cell? ⟨p, 0, none⟩ = some (.pointer (some ⟨b, 0, none⟩))) (h2 : W.cell? ⟨b, 0, none⟩ = some (.slice (some ⟨g, 0, none⟩) len cap)) (h3 : W.cell? ⟨Bx, 0, none⟩ = some (.int .i64 u)) (hu : IntKind.u8.wrap u = u)
    (hr : (Builtin.append_ #[31, 31] 31 #[.slice (some ⟨g, 0, none⟩) len cap, .slice (some ⟨W.heap.size, 0, none⟩) 1 1]).run Try.prog (W.alloc (.cells #[.int .u8 u] 5)).drew = .ok (.slice (some ⟨g', 0, none⟩) (len + 1) cap') W3)
    (h1' : W3.cell? ⟨p, 0, none⟩ = some (.pointer (some ⟨b, 0, none⟩))) (h4 : W3.cell? ⟨b, 0, none⟩ = some (.slice (some ⟨g, 0, none⟩) len cap)) (h5 : W3.frozen? ⟨b, 0, none⟩ = false)
    (hQ : Q .normal { tmps := #[v0, v1, v2, v3, v4, .pointer (some ⟨p, 0, none⟩), v6, .pointer (some ⟨Bx, 0, none⟩), v8, v9, v10, v11, v12, v13, v14, v15, v16, v17, v18, v19, v20, v21, v22, v23, v24, v25, v26, v27, v28, v29, v30, v31, .pointer (some ⟨b, 0, none⟩), .pointer (some ⟨b, 0, none⟩), .pointer (some ⟨b, 0, none⟩), .pointer (some ⟨b, 0, none⟩), .pointer (some ⟨b, 0, none⟩), .slice (some ⟨g, 0, none⟩) len cap, .pointer (some ⟨Bx, 0, none⟩), .int .i64 u, .int .u8 u, .slice (some ⟨W.heap.size, 0, none⟩) 1 1, .slice (some ⟨g', 0, none⟩) (len + 1) cap', .pointer (some ⟨b, 0, none⟩), .pointer (some ⟨b, 0, none⟩), .pointer (some ⟨b, 0, none⟩), undef, undef, undef, undef, undef, undef, undef, undef, undef, undef, undef, undef, undef, undef, undef, undef, undef, undef, undef, undef, undef, undef, undef, undef, undef, undef, undef, undef, undef, undef, undef, undef, undef, undef, undef, undef, undef, undef, undef, undef, undef, undef, undef, undef, undef], defers := [] } (W3.setCell ⟨b, 0, none⟩ (.slice (some ⟨g', 0, none⟩) (len + 1) cap'))) :
    (Go.Code.region 9 ops9 true).wpIn (Fence.wide.inRound lp) n Try.prog Q { tmps := #[v0, v1, v2, v3, v4, .pointer (some ⟨p, 0, none⟩), v6, .pointer (some ⟨Bx, 0, none⟩), v8, v9, v10, v11, v12, v13, v14, v15, v16, v17, v18, v19, v20, v21, v22, v23, v24, v25, v26, v27, v28, v29, v30, v31, undef, undef, undef, undef, undef, undef, undef, undef, undef, undef, undef, undef, undef, undef, undef, undef, undef, undef, undef, undef, undef, undef, undef, undef, undef, undef, undef, undef, undef, undef, undef, undef, undef, undef, undef, undef, undef, undef, undef, undef, undef, undef, undef, undef, undef, undef, undef, undef, undef, undef, undef, undef, undef, undef, undef, undef, undef, undef, undef], defers := [] } W := by
  have hW : W.drew.alloc (.cells #[.int .u8 u] 5) = (W.alloc (.cells #[.int .u8 u] 5)).drew := rfl
  have hp9 : ∀ l9 l10 : Bool, (if l10 then W3 else if l9 then (W.alloc (.cells #[.int .u8 u] 5)).drew else W.drew).cell? ⟨p, 0, none⟩ = some (.pointer (some ⟨b, 0, none⟩)) := by
    intro l9 l10
    cases l10
    · cases l9
      · exact h1
      · exact cell_alloc_of _ _ h1
    · exact h1'
  have hb9 : ∀ l9 : Bool, (if l9 then (W.alloc (.cells #[.int .u8 u] 5)).drew else W.drew).cell? ⟨b, 0, none⟩ = some (.slice (some ⟨g, 0, none⟩) len cap) := by
    intro l9
    cases l9
    · exact h2
    · exact cell_alloc_of _ _ h2
  have hB9 : W.drew.cell? ⟨Bx, 0, none⟩ = some (.int .i64 u) := h3
  refine wpIn_region_any (by kernel_rfl) ?_
  refine wpAnyIn_inv (fun f listed a w => ∃ l0 l1 l2 l3 l4 l5 l6 l7 l8 l9 l10 l11 l12 l13 l14 : Bool, listed = #[l0, l1, l2, l3, l4, l5, l6, l7, l8, l9, l10, l11, l12, l13, l14] ∧ (!l0).toNat + (!l1).toNat + (!l2).toNat + (!l3).toNat + (!l4).toNat + (!l5).toNat + (!l6).toNat + (!l7).toNat + (!l8).toNat + (!l9).toNat + (!l10).toNat + (!l11).toNat + (!l12).toNat + (!l13).toNat + (!l14).toNat = f ∧ cl9 l0 l1 l2 l3 l4 l5 l6 l7 l8 l9 l10 l11 l12 l13 l14 ∧ a = { tmps := #[v0, v1, v2, v3, v4, .pointer (some ⟨p, 0, none⟩), v6, .pointer (some ⟨Bx, 0, none⟩), v8, v9, v10, v11, v12, v13, v14, v15, v16, v17, v18, v19, v20, v21, v22, v23, v24, v25, v26, v27, v28, v29, v30, v31, sl l0 (.pointer (some ⟨b, 0, none⟩)), sl l1 (.pointer (some ⟨b, 0, none⟩)), sl l2 (.pointer (some ⟨b, 0, none⟩)), sl l3 (.pointer (some ⟨b, 0, none⟩)), sl l4 (.pointer (some ⟨b, 0, none⟩)), sl l5 (.slice (some ⟨g, 0, none⟩) len cap), sl l6 (.pointer (some ⟨Bx, 0, none⟩)), sl l7 (.int .i64 u), sl l8 (.int .u8 u), sl l9 (.slice (some ⟨W.heap.size, 0, none⟩) 1 1), sl l10 (.slice (some ⟨g', 0, none⟩) (len + 1) cap'), sl l11 (.pointer (some ⟨b, 0, none⟩)), sl l12 (.pointer (some ⟨b, 0, none⟩)), sl l13 (.pointer (some ⟨b, 0, none⟩)), undef, undef, undef, undef, undef, undef, undef, undef, undef, undef, undef, undef, undef, undef, undef, undef, undef, undef, undef, undef, undef, undef, undef, undef, undef, undef, undef, undef, undef, undef, undef, undef, undef, undef, undef, undef, undef, undef, undef, undef, undef, undef, undef, undef, undef], defers := [] } ∧ w = (if l14 then W3.setCell ⟨b, 0, none⟩ (.slice (some ⟨g', 0, none⟩) (len + 1) cap') else if l10 then W3 else if l9 then (W.alloc (.cells #[.int .u8 u] 5)).drew else W.drew)) ?_ ?_ ?_ _ _ _ _ ⟨false, false, false, false, false, false, false, false, false, false, false, false, false, false, false, rfl, rfl, ?_, rfl, rfl⟩
  · rintro f listed a w ⟨l0, l1, l2, l3, l4, l5, l6, l7, l8, l9, l10, l11, l12, l13, l14, rfl, hf, hc, rfl, rfl⟩ hnil
    have hno : ∀ i, i ∈ Region.ready .any ops9 #[l0, l1, l2, l3, l4, l5, l6, l7, l8, l9, l10, l11, l12, l13, l14] → False := fun i hi => by rw [hnil] at hi; cases hi
    have t0 : l0 = true := by
      cases hl : l0
      · exact (hno 0 (is_ready9_0 _ _ _ _ _ _ _ _ _ _ _ _ _ _ _ hl)).elim
      · rfl
    have t1 : l1 = true := by
      cases hl : l1
      · exact (hno 1 (is_ready9_1 _ _ _ _ _ _ _ _ _ _ _ _ _ _ _ hl)).elim
      · rfl
    have t2 : l2 = true := by
      cases hl : l2
      · exact (hno 2 (is_ready9_2 _ _ _ _ _ _ _ _ _ _ _ _ _ _ _ ⟨hl, t1⟩)).elim
      · rfl
    have t3 : l3 = true := by
      cases hl : l3
      · exact (hno 3 (is_ready9_3 _ _ _ _ _ _ _ _ _ _ _ _ _ _ _ ⟨hl, t2⟩)).elim
      · rfl
    have t4 : l4 = true := by
      cases hl : l4
      · exact (hno 4 (is_ready9_4 _ _ _ _ _ _ _ _ _ _ _ _ _ _ _ ⟨hl, t3⟩)).elim
      · rfl
    have t5 : l5 = true := by
      cases hl : l5
      · exact (hno 5 (is_ready9_5 _ _ _ _ _ _ _ _ _ _ _ _ _ _ _ ⟨hl, t4⟩)).elim
      · rfl
    have t6 : l6 = true := by
      cases hl : l6
      · exact (hno 6 (is_ready9_6 _ _ _ _ _ _ _ _ _ _ _ _ _ _ _ hl)).elim
      · rfl
    have t7 : l7 = true := by
      cases hl : l7
      · exact (hno 7 (is_ready9_7 _ _ _ _ _ _ _ _ _ _ _ _ _ _ _ ⟨hl, t6⟩)).elim
      · rfl
    have t8 : l8 = true := by
      cases hl : l8
      · exact (hno 8 (is_ready9_8 _ _ _ _ _ _ _ _ _ _ _ _ _ _ _ ⟨hl, t7⟩)).elim
      · rfl
    have t9 : l9 = true := by
      cases hl : l9
      · exact (hno 9 (is_ready9_9 _ _ _ _ _ _ _ _ _ _ _ _ _ _ _ ⟨hl, t8⟩)).elim
      · rfl
    have t10 : l10 = true := by
      cases hl : l10
      · exact (hno 10 (is_ready9_10 _ _ _ _ _ _ _ _ _ _ _ _ _ _ _ ⟨hl, t5, t9⟩)).elim
      · rfl
    have t11 : l11 = true := by
      cases hl : l11
      · exact (hno 11 (is_ready9_11 _ _ _ _ _ _ _ _ _ _ _ _ _ _ _ ⟨hl, t0, t1, t2, t3, t4, t5, t6, t7, t8, t9, t10⟩)).elim
      · rfl
    have t12 : l12 = true := by
      cases hl : l12
      · exact (hno 12 (is_ready9_12 _ _ _ _ _ _ _ _ _ _ _ _ _ _ _ ⟨hl, t11, t0, t1, t2, t3, t4, t5, t6, t7, t8, t9, t10⟩)).elim
      · rfl
    have t13 : l13 = true := by
      cases hl : l13
      · exact (hno 13 (is_ready9_13 _ _ _ _ _ _ _ _ _ _ _ _ _ _ _ ⟨hl, t12, t0, t1, t2, t3, t4, t5, t6, t7, t8, t9, t10⟩)).elim
      · rfl
    have t14 : l14 = true := by
      cases hl : l14
      · exact (hno 14 (is_ready9_14 _ _ _ _ _ _ _ _ _ _ _ _ _ _ _ ⟨hl, t13, t10, t0, t1, t2, t3, t4, t5, t6, t7, t8, t9⟩)).elim
      · rfl
    subst t0 t1 t2 t3 t4 t5 t6 t7 t8 t9 t10 t11 t12 t13 t14
    exact hQ
  · rintro listed a w ⟨l0, l1, l2, l3, l4, l5, l6, l7, l8, l9, l10, l11, l12, l13, l14, rfl, hf, hc, rfl, rfl⟩
    apply List.eq_nil_iff_forall_not_mem.2
    intro i hi
    rw [mem_ready] at hi
    obtain ⟨hi, o, ho, _⟩ := hi
    have hlt := (Array.getElem?_eq_some_iff.1 ho).1
    simp only [List.size_toArray, List.length_cons, List.length_nil] at hlt
    have ht : ∀ l : Bool, (!l).toNat = 0 → l = true := by decide
    have t0 := ht l0 (by omega)
    have t1 := ht l1 (by omega)
    have t2 := ht l2 (by omega)
    have t3 := ht l3 (by omega)
    have t4 := ht l4 (by omega)
    have t5 := ht l5 (by omega)
    have t6 := ht l6 (by omega)
    have t7 := ht l7 (by omega)
    have t8 := ht l8 (by omega)
    have t9 := ht l9 (by omega)
    have t10 := ht l10 (by omega)
    have t11 := ht l11 (by omega)
    have t12 := ht l12 (by omega)
    have t13 := ht l13 (by omega)
    have t14 := ht l14 (by omega)
    match i, hlt with
    | 0, _ => simp [t0] at hi
    | 1, _ => simp [t1] at hi
    | 2, _ => simp [t2] at hi
    | 3, _ => simp [t3] at hi
    | 4, _ => simp [t4] at hi
    | 5, _ => simp [t5] at hi
    | 6, _ => simp [t6] at hi
    | 7, _ => simp [t7] at hi
    | 8, _ => simp [t8] at hi
    | 9, _ => simp [t9] at hi
    | 10, _ => simp [t10] at hi
    | 11, _ => simp [t11] at hi
    | 12, _ => simp [t12] at hi
    | 13, _ => simp [t13] at hi
    | 14, _ => simp [t14] at hi
    | i + 15, hlt => omega
  · rintro f listed a w ⟨l0, l1, l2, l3, l4, l5, l6, l7, l8, l9, l10, l11, l12, l13, l14, rfl, hf, hc, rfl, rfl⟩ i hi
    have hlt : i < 15 := by
      rw [mem_ready] at hi
      obtain ⟨_, o, ho, _⟩ := hi
      exact (Array.getElem?_eq_some_iff.1 ho).1
    match i, hlt, hi with
    | 0, _, hi =>
      obtain r0 := ready9_0 _ _ _ _ _ _ _ _ _ _ _ _ _ _ _ hi
      have r11 : l11 = false := by
        cases hl : l11
        · rfl
        · simp_all [cl9]
      have r12 : l12 = false := by
        cases hl : l12
        · rfl
        · simp_all [cl9]
      have r13 : l13 = false := by
        cases hl : l13
        · rfl
        · simp_all [cl9]
      have r14 : l14 = false := by
        cases hl : l14
        · rfl
        · simp_all [cl9]
      subst r0 r11 r12 r13 r14
      refine wpOpIn_ok (v := .pointer (some ⟨b, 0, none⟩)) (w' := (if false then W3.setCell ⟨b, 0, none⟩ (.slice (some ⟨g', 0, none⟩) (len + 1) cap') else if l10 then W3 else if l9 then (W.alloc (.cells #[.int .u8 u] 5)).drew else W.drew)) rfl rfl (by simp) ?_ ⟨true, l1, l2, l3, l4, l5, l6, l7, l8, l9, l10, false, false, false, false, by simp, by simp at hf ⊢; omega, by simp_all [cl9], by simp [Act.put, sl], rfl⟩
      have hc := hp9 l9 l10
      simp only [Bool.false_eq_true, if_false] at hc ⊢
      simp [go_sem, sl, *]
    | 1, _, hi =>
      obtain r1 := ready9_1 _ _ _ _ _ _ _ _ _ _ _ _ _ _ _ hi
      have r2 : l2 = false := by
        cases hl : l2
        · rfl
        · simp_all [cl9]
      have r3 : l3 = false := by
        cases hl : l3
        · rfl
        · simp_all [cl9]
      have r4 : l4 = false := by
        cases hl : l4
        · rfl
        · simp_all [cl9]
      have r5 : l5 = false := by
        cases hl : l5
        · rfl
        · simp_all [cl9]
      have r10 : l10 = false := by
        cases hl : l10
        · rfl
        · simp_all [cl9]
      have r11 : l11 = false := by
        cases hl : l11
        · rfl
        · simp_all [cl9]
      have r12 : l12 = false := by
        cases hl : l12
        · rfl
        · simp_all [cl9]
      have r13 : l13 = false := by
        cases hl : l13
        · rfl
        · simp_all [cl9]
      have r14 : l14 = false := by
        cases hl : l14
        · rfl
        · simp_all [cl9]
      subst r1 r2 r3 r4 r5 r10 r11 r12 r13 r14
      refine wpOpIn_ok (v := .pointer (some ⟨b, 0, none⟩)) (w' := (if false then W3.setCell ⟨b, 0, none⟩ (.slice (some ⟨g', 0, none⟩) (len + 1) cap') else if false then W3 else if l9 then (W.alloc (.cells #[.int .u8 u] 5)).drew else W.drew)) rfl rfl (by simp) ?_ ⟨l0, true, false, false, false, false, l6, l7, l8, l9, false, false, false, false, false, by simp, by simp at hf ⊢; omega, by simp_all [cl9], by simp [Act.put, sl], rfl⟩
      have hc := hp9 l9 false
      simp only [Bool.false_eq_true, if_false] at hc ⊢
      simp [go_sem, sl, *]
    | 2, _, hi =>
      obtain ⟨r2, r1⟩ := ready9_2 _ _ _ _ _ _ _ _ _ _ _ _ _ _ _ hi
      have r3 : l3 = false := by
        cases hl : l3
        · rfl
        · simp_all [cl9]
      have r4 : l4 = false := by
        cases hl : l4
        · rfl
        · simp_all [cl9]
      have r5 : l5 = false := by
        cases hl : l5
        · rfl
        · simp_all [cl9]
      have r10 : l10 = false := by
        cases hl : l10
        · rfl
        · simp_all [cl9]
      have r11 : l11 = false := by
        cases hl : l11
        · rfl
        · simp_all [cl9]
      have r12 : l12 = false := by
        cases hl : l12
        · rfl
        · simp_all [cl9]
      have r13 : l13 = false := by
        cases hl : l13
        · rfl
        · simp_all [cl9]
      have r14 : l14 = false := by
        cases hl : l14
        · rfl
        · simp_all [cl9]
      subst r1 r2 r3 r4 r5 r10 r11 r12 r13 r14
      refine wpOpIn_ok (v := .pointer (some ⟨b, 0, none⟩)) (w' := (if false then W3.setCell ⟨b, 0, none⟩ (.slice (some ⟨g', 0, none⟩) (len + 1) cap') else if false then W3 else if l9 then (W.alloc (.cells #[.int .u8 u] 5)).drew else W.drew)) rfl rfl (by simp) ?_ ⟨l0, true, true, false, false, false, l6, l7, l8, l9, false, false, false, false, false, by simp, by simp at hf ⊢; omega, by simp_all [cl9], by simp [Act.put, sl], rfl⟩
      simp [go_sem, sl, *]
    | 3, _, hi =>
      obtain ⟨r3, r2⟩ := ready9_3 _ _ _ _ _ _ _ _ _ _ _ _ _ _ _ hi
      have r4 : l4 = false := by
        cases hl : l4
        · rfl
        · simp_all [cl9]
      have r5 : l5 = false := by
        cases hl : l5
        · rfl
        · simp_all [cl9]
      have r10 : l10 = false := by
        cases hl : l10
        · rfl
        · simp_all [cl9]
      have r11 : l11 = false := by
        cases hl : l11
        · rfl
        · simp_all [cl9]
      have r12 : l12 = false := by
        cases hl : l12
        · rfl
        · simp_all [cl9]
      have r13 : l13 = false := by
        cases hl : l13
        · rfl
        · simp_all [cl9]
      have r14 : l14 = false := by
        cases hl : l14
        · rfl
        · simp_all [cl9]
      subst r2 r3 r4 r5 r10 r11 r12 r13 r14
      refine wpOpIn_ok (v := .pointer (some ⟨b, 0, none⟩)) (w' := (if false then W3.setCell ⟨b, 0, none⟩ (.slice (some ⟨g', 0, none⟩) (len + 1) cap') else if false then W3 else if l9 then (W.alloc (.cells #[.int .u8 u] 5)).drew else W.drew)) rfl rfl (by simp) ?_ ⟨l0, l1, true, true, false, false, l6, l7, l8, l9, false, false, false, false, false, by simp, by simp at hf ⊢; omega, by simp_all [cl9], by simp [Act.put, sl], rfl⟩
      simp [go_sem, sl, *]
    | 4, _, hi =>
      obtain ⟨r4, r3⟩ := ready9_4 _ _ _ _ _ _ _ _ _ _ _ _ _ _ _ hi
      have r5 : l5 = false := by
        cases hl : l5
        · rfl
        · simp_all [cl9]
      have r10 : l10 = false := by
        cases hl : l10
        · rfl
        · simp_all [cl9]
      have r11 : l11 = false := by
        cases hl : l11
        · rfl
        · simp_all [cl9]
      have r12 : l12 = false := by
        cases hl : l12
        · rfl
        · simp_all [cl9]
      have r13 : l13 = false := by
        cases hl : l13
        · rfl
        · simp_all [cl9]
      have r14 : l14 = false := by
        cases hl : l14
        · rfl
        · simp_all [cl9]
      subst r3 r4 r5 r10 r11 r12 r13 r14
      refine wpOpIn_ok (v := .pointer (some ⟨b, 0, none⟩)) (w' := (if false then W3.setCell ⟨b, 0, none⟩ (.slice (some ⟨g', 0, none⟩) (len + 1) cap') else if false then W3 else if l9 then (W.alloc (.cells #[.int .u8 u] 5)).drew else W.drew)) rfl rfl (by simp) ?_ ⟨l0, l1, l2, true, true, false, l6, l7, l8, l9, false, false, false, false, false, by simp, by simp at hf ⊢; omega, by simp_all [cl9], by simp [Act.put, sl], rfl⟩
      simp [go_sem, sl, *]
    | 5, _, hi =>
      obtain ⟨r5, r4⟩ := ready9_5 _ _ _ _ _ _ _ _ _ _ _ _ _ _ _ hi
      have r10 : l10 = false := by
        cases hl : l10
        · rfl
        · simp_all [cl9]
      have r11 : l11 = false := by
        cases hl : l11
        · rfl
        · simp_all [cl9]
      have r12 : l12 = false := by
        cases hl : l12
        · rfl
        · simp_all [cl9]
      have r13 : l13 = false := by
        cases hl : l13
        · rfl
        · simp_all [cl9]
      have r14 : l14 = false := by
        cases hl : l14
        · rfl
        · simp_all [cl9]
      subst r4 r5 r10 r11 r12 r13 r14
      refine wpOpIn_ok (v := .slice (some ⟨g, 0, none⟩) len cap) (w' := (if false then W3.setCell ⟨b, 0, none⟩ (.slice (some ⟨g', 0, none⟩) (len + 1) cap') else if false then W3 else if l9 then (W.alloc (.cells #[.int .u8 u] 5)).drew else W.drew)) rfl rfl (by simp) ?_ ⟨l0, l1, l2, l3, true, true, l6, l7, l8, l9, false, false, false, false, false, by simp, by simp at hf ⊢; omega, by simp_all [cl9], by simp [Act.put, sl], rfl⟩
      have hc := hb9 l9
      simp only [Bool.false_eq_true, if_false] at hc ⊢
      simp [go_sem, sl, *]
    | 6, _, hi =>
      obtain r6 := ready9_6 _ _ _ _ _ _ _ _ _ _ _ _ _ _ _ hi
      have r7 : l7 = false := by
        cases hl : l7
        · rfl
        · simp_all [cl9]
      have r8 : l8 = false := by
        cases hl : l8
        · rfl
        · simp_all [cl9]
      have r9 : l9 = false := by
        cases hl : l9
        · rfl
        · simp_all [cl9]
      have r10 : l10 = false := by
        cases hl : l10
        · rfl
        · simp_all [cl9]
      have r11 : l11 = false := by
        cases hl : l11
        · rfl
        · simp_all [cl9]
      have r12 : l12 = false := by
        cases hl : l12
        · rfl
        · simp_all [cl9]
      have r13 : l13 = false := by
        cases hl : l13
        · rfl
        · simp_all [cl9]
      have r14 : l14 = false := by
        cases hl : l14
        · rfl
        · simp_all [cl9]
      subst r6 r7 r8 r9 r10 r11 r12 r13 r14
      refine wpOpIn_ok (v := .pointer (some ⟨Bx, 0, none⟩)) (w' := (if false then W3.setCell ⟨b, 0, none⟩ (.slice (some ⟨g', 0, none⟩) (len + 1) cap') else if false then W3 else if false then (W.alloc (.cells #[.int .u8 u] 5)).drew else W.drew)) rfl rfl (by simp) ?_ ⟨l0, l1, l2, l3, l4, l5, true, false, false, false, false, false, false, false, false, by simp, by simp at hf ⊢; omega, by simp_all [cl9], by simp [Act.put, sl], rfl⟩
      simp [go_sem, sl, *]
    | 7, _, hi =>
      obtain ⟨r7, r6⟩ := ready9_7 _ _ _ _ _ _ _ _ _ _ _ _ _ _ _ hi
      have r8 : l8 = false := by
        cases hl : l8
        · rfl
        · simp_all [cl9]
      have r9 : l9 = false := by
        cases hl : l9
        · rfl
        · simp_all [cl9]
      have r10 : l10 = false := by
        cases hl : l10
        · rfl
        · simp_all [cl9]
      have r11 : l11 = false := by
        cases hl : l11
        · rfl
        · simp_all [cl9]
      have r12 : l12 = false := by
        cases hl : l12
        · rfl
        · simp_all [cl9]
      have r13 : l13 = false := by
        cases hl : l13
        · rfl
        · simp_all [cl9]
      have r14 : l14 = false := by
        cases hl : l14
        · rfl
        · simp_all [cl9]
      subst r6 r7 r8 r9 r10 r11 r12 r13 r14
      refine wpOpIn_ok (v := .int .i64 u) (w' := (if false then W3.setCell ⟨b, 0, none⟩ (.slice (some ⟨g', 0, none⟩) (len + 1) cap') else if false then W3 else if false then (W.alloc (.cells #[.int .u8 u] 5)).drew else W.drew)) rfl rfl (by simp) ?_ ⟨l0, l1, l2, l3, l4, l5, true, true, false, false, false, false, false, false, false, by simp, by simp at hf ⊢; omega, by simp_all [cl9], by simp [Act.put, sl], rfl⟩
      have hc := hB9
      simp only [Bool.false_eq_true, if_false] at hc ⊢
      simp [go_sem, sl, *]
    | 8, _, hi =>
      obtain ⟨r8, r7⟩ := ready9_8 _ _ _ _ _ _ _ _ _ _ _ _ _ _ _ hi
      have r9 : l9 = false := by
        cases hl : l9
        · rfl
        · simp_all [cl9]
      have r10 : l10 = false := by
        cases hl : l10
        · rfl
        · simp_all [cl9]
      have r11 : l11 = false := by
        cases hl : l11
        · rfl
        · simp_all [cl9]
      have r12 : l12 = false := by
        cases hl : l12
        · rfl
        · simp_all [cl9]
      have r13 : l13 = false := by
        cases hl : l13
        · rfl
        · simp_all [cl9]
      have r14 : l14 = false := by
        cases hl : l14
        · rfl
        · simp_all [cl9]
      subst r7 r8 r9 r10 r11 r12 r13 r14
      refine wpOpIn_ok (v := .int .u8 u) (w' := (if false then W3.setCell ⟨b, 0, none⟩ (.slice (some ⟨g', 0, none⟩) (len + 1) cap') else if false then W3 else if false then (W.alloc (.cells #[.int .u8 u] 5)).drew else W.drew)) rfl rfl (by simp) ?_ ⟨l0, l1, l2, l3, l4, l5, l6, true, true, false, false, false, false, false, false, by simp, by simp at hf ⊢; omega, by simp_all [cl9], by simp [Act.put, sl], rfl⟩
      simp [go_sem, sl, *]
    | 9, _, hi =>
      obtain ⟨r9, r8⟩ := ready9_9 _ _ _ _ _ _ _ _ _ _ _ _ _ _ _ hi
      have r10 : l10 = false := by
        cases hl : l10
        · rfl
        · simp_all [cl9]
      have r11 : l11 = false := by
        cases hl : l11
        · rfl
        · simp_all [cl9]
      have r12 : l12 = false := by
        cases hl : l12
        · rfl
        · simp_all [cl9]
      have r13 : l13 = false := by
        cases hl : l13
        · rfl
        · simp_all [cl9]
      have r14 : l14 = false := by
        cases hl : l14
        · rfl
        · simp_all [cl9]
      subst r8 r9 r10 r11 r12 r13 r14
      refine wpOpIn_ok (v := .slice (some ⟨W.heap.size, 0, none⟩) 1 1) (w' := (if false then W3.setCell ⟨b, 0, none⟩ (.slice (some ⟨g', 0, none⟩) (len + 1) cap') else if false then W3 else if true then (W.alloc (.cells #[.int .u8 u] 5)).drew else W.drew)) rfl rfl (by simp) ?_ ⟨l0, l1, l2, l3, l4, l5, l6, l7, true, true, false, false, false, false, false, by simp, by simp at hf ⊢; omega, by simp_all [cl9], by simp [Act.put, sl], rfl⟩
      simp [go_sem, sl, *]
    | 10, _, hi =>
      obtain ⟨r10, r5, r9⟩ := ready9_10 _ _ _ _ _ _ _ _ _ _ _ _ _ _ _ hi
      have r11 : l11 = false := by
        cases hl : l11
        · rfl
        · simp_all [cl9]
      have r12 : l12 = false := by
        cases hl : l12
        · rfl
        · simp_all [cl9]
      have r13 : l13 = false := by
        cases hl : l13
        · rfl
        · simp_all [cl9]
      have r14 : l14 = false := by
        cases hl : l14
        · rfl
        · simp_all [cl9]
      subst r5 r9 r10 r11 r12 r13 r14
      refine wpOpIn_ok (v := .slice (some ⟨g', 0, none⟩) (len + 1) cap') (w' := (if false then W3.setCell ⟨b, 0, none⟩ (.slice (some ⟨g', 0, none⟩) (len + 1) cap') else if true then W3 else if true then (W.alloc (.cells #[.int .u8 u] 5)).drew else W.drew)) rfl rfl (by simp) ?_ ⟨l0, l1, l2, l3, l4, true, l6, l7, l8, true, true, false, false, false, false, by simp, by simp at hf ⊢; omega, by simp_all [cl9], by simp [Act.put, sl], rfl⟩
      simp [go_sem, sl, *]
    | 11, _, hi =>
      obtain ⟨r11, r0, r1, r2, r3, r4, r5, r6, r7, r8, r9, r10⟩ := ready9_11 _ _ _ _ _ _ _ _ _ _ _ _ _ _ _ hi
      have r12 : l12 = false := by
        cases hl : l12
        · rfl
        · simp_all [cl9]
      have r13 : l13 = false := by
        cases hl : l13
        · rfl
        · simp_all [cl9]
      have r14 : l14 = false := by
        cases hl : l14
        · rfl
        · simp_all [cl9]
      subst r0 r1 r2 r3 r4 r5 r6 r7 r8 r9 r10 r11 r12 r13 r14
      refine wpOpIn_ok (v := .pointer (some ⟨b, 0, none⟩)) (w' := (if false then W3.setCell ⟨b, 0, none⟩ (.slice (some ⟨g', 0, none⟩) (len + 1) cap') else if true then W3 else if true then (W.alloc (.cells #[.int .u8 u] 5)).drew else W.drew)) rfl rfl (by simp) ?_ ⟨true, true, true, true, true, true, true, true, true, true, true, true, false, false, false, by simp, by simp at hf ⊢; omega, by simp_all [cl9], by simp [Act.put, sl], rfl⟩
      simp [go_sem, sl, *]
    | 12, _, hi =>
      obtain ⟨r12, r11, r0, r1, r2, r3, r4, r5, r6, r7, r8, r9, r10⟩ := ready9_12 _ _ _ _ _ _ _ _ _ _ _ _ _ _ _ hi
      have r13 : l13 = false := by
        cases hl : l13
        · rfl
        · simp_all [cl9]
      have r14 : l14 = false := by
        cases hl : l14
        · rfl
        · simp_all [cl9]
      subst r0 r1 r2 r3 r4 r5 r6 r7 r8 r9 r10 r11 r12 r13 r14
      refine wpOpIn_ok (v := .pointer (some ⟨b, 0, none⟩)) (w' := (if false then W3.setCell ⟨b, 0, none⟩ (.slice (some ⟨g', 0, none⟩) (len + 1) cap') else if true then W3 else if true then (W.alloc (.cells #[.int .u8 u] 5)).drew else W.drew)) rfl rfl (by simp) ?_ ⟨true, true, true, true, true, true, true, true, true, true, true, true, true, false, false, by simp, by simp at hf ⊢; omega, by simp_all [cl9], by simp [Act.put, sl], rfl⟩
      simp [go_sem, sl, *]
    | 13, _, hi =>
      obtain ⟨r13, r12, r0, r1, r2, r3, r4, r5, r6, r7, r8, r9, r10⟩ := ready9_13 _ _ _ _ _ _ _ _ _ _ _ _ _ _ _ hi
      have r14 : l14 = false := by
        cases hl : l14
        · rfl
        · simp_all [cl9]
      subst r0 r1 r2 r3 r4 r5 r6 r7 r8 r9 r10 r12 r13 r14
      refine wpOpIn_ok (v := .pointer (some ⟨b, 0, none⟩)) (w' := (if false then W3.setCell ⟨b, 0, none⟩ (.slice (some ⟨g', 0, none⟩) (len + 1) cap') else if true then W3 else if true then (W.alloc (.cells #[.int .u8 u] 5)).drew else W.drew)) rfl rfl (by simp) ?_ ⟨true, true, true, true, true, true, true, true, true, true, true, l11, true, true, false, by simp, by simp at hf ⊢; omega, by simp_all [cl9], by simp [Act.put, sl], rfl⟩
      simp [go_sem, sl, *]
    | 14, _, hi =>
      obtain ⟨r14, r13, r10, r0, r1, r2, r3, r4, r5, r6, r7, r8, r9⟩ := ready9_14 _ _ _ _ _ _ _ _ _ _ _ _ _ _ _ hi
      subst r0 r1 r2 r3 r4 r5 r6 r7 r8 r9 r10 r13 r14
      refine wpOpIn_skip (w' := (if true then W3.setCell ⟨b, 0, none⟩ (.slice (some ⟨g', 0, none⟩) (len + 1) cap') else if true then W3 else if true then (W.alloc (.cells #[.int .u8 u] 5)).drew else W.drew)) rfl rfl (by simp) ?_ ⟨true, true, true, true, true, true, true, true, true, true, true, l11, l12, true, true, by simp, by simp at hf ⊢; omega, by simp_all [cl9], by simp [Act.put, sl], rfl⟩
      simp [go_sem, sl, *]
    | i + 15, hlt, _ => omega
  · simp [cl9]

end Go.Proofs.Ytnbhphjpefagjaa
