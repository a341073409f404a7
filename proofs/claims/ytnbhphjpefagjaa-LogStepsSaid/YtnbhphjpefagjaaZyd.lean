/- A function is not nil. -/
import Derived.Test.YtnbhphjpefagjaaZya
namespace Go.Proofs.Ytnbhphjpefagjaa
open Go.RowKit Go.Shelf

theorem run_eql_func_nil {P : Program} (w : World) {t : TypeId} {ps rs : Array TypeId} {v : Bool} (fn : Fn) (x y : Array Value) (ht : P.underlying t = some (.func ps rs v)) :
    (binOp .eql t (.func fn x y) .nilFunc).run P w = .ok (.bool false) w := by
  have h : ∀ d : Nat, (Op.equalIn (d + 1) t (.func fn x y) .nilFunc).run P w = .ok false w := fun d => by
    simp [Op.equalIn, Go.run_underlying ht]
  simp only [binOp]
  simp [Op.equal, Op.maxDepth, h 9999]

theorem func_not_nil (W : World) (fn : Fn) (x y : Array Value) : (binOp .eql 59 (.func fn x y) .nilFunc).run Try.prog W = .ok (.bool false) W :=
  run_eql_func_nil W fn x y Try.underlying59

end Go.Proofs.Ytnbhphjpefagjaa
