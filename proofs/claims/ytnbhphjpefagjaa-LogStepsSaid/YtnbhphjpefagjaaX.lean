/- Log: a drawn region inside a fence, by an invariant on what is listed. -/
import Derived.Test.YtnbhphjpefagjaaG
namespace Go.Proofs.Ytnbhphjpefagjaa

theorem wpAnyIn_inv {F : Fence} {n : Nat} {P : Program} {md : Region.Mode} {ops : Array Oper} {Q : Exit → Act → World → Prop} (Inv : Nat → Array Bool → Act → World → Prop)
    (hend : ∀ f listed a w, Inv f listed a w → Region.ready md ops listed = [] → Q .normal a w)
    (h0 : ∀ listed a w, Inv 0 listed a w → Region.ready md ops listed = [])
    (hstep : ∀ f listed a w, Inv (f + 1) listed a w → ∀ i ∈ Region.ready md ops listed, wpOpIn F n P ops Q i (Inv f (listed.setIfInBounds i true)) a w) :
    ∀ (fuel : Nat) (listed : Array Bool) (a : Act) (w : World), Inv fuel listed a w → wpAnyIn F n P md ops Q fuel listed a w
  | 0, listed, a, w, h => ⟨h0 listed a w h, hend 0 listed a w h (h0 listed a w h)⟩
  | f + 1, listed, a, w, h => ⟨fun hr => hend _ _ _ _ h hr, fun i hi => by
      have := hstep f listed a w h i hi
      unfold wpOpIn at this ⊢
      split
      · rename_i ho; simp only [ho] at this; exact wpAnyIn_inv Inv hend h0 hstep f _ a w this
      · rename_i o ho
        simp only [ho] at this
        split
        · rename_i hw
          rw [if_pos hw] at this
          exact Oper.wpIn_mono (fun a w h => wpAnyIn_inv Inv hend h0 hstep f _ a w h) this
        · rename_i hw
          rw [if_neg hw] at this
          exact ⟨this.1, wpAnyIn_inv Inv hend h0 hstep f _ _ w this.2⟩⟩

end Go.Proofs.Ytnbhphjpefagjaa
