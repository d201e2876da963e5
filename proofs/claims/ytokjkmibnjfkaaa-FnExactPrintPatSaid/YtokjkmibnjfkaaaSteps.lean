/- One operation of a region that draws its order. -/
import Derived.WalkKit
import Derived.Deep.RegionLaw
namespace Go.Proofs.Ytokjkmibnjfkaaa
theorem step_guard {P : Program} {ops : Array Oper} {o : Oper} {a : Act} {w : World} {K : Act → World → Prop} {Q : Exit → Act → World → Prop} {E : Prop} (hg : o.guard = none) (h : Oper.wp P o a w K Q) :
    if Region.wanted o (yielded ops a.tmps) = true then Oper.wp P o a w K Q else E := by
  rw [if_pos (by simp [Region.wanted, hg])]; exact h
end Go.Proofs.Ytokjkmibnjfkaaa
