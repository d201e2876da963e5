/- The closed facts of the program that no law's own function enters, each a theorem of its own. -/
import Derived.Test.YtmnokalddmlogaaGreatRows
import Derived.WalkKit
import Derived.ProofKit
import Derived.OpenShut
import Derived.JoinedOf
namespace Go.Proofs.YtmnokalddmlogaaGreat
open Go.RowKit
theorem and_t {a b : Bool} (h : a = true) (k : b = true) : (a && b) = true := by rw [h, k]; rfl
theorem cl_own : ownKnob Tryz.prog.godebug = none := by kernel_rfl
theorem cl_1 : (laidOutB Tryz.prog) = true := by kernel_rfl
theorem cl_2 : (mapsRowed Tryz.prog) = true := by kernel_rfl
theorem cl_6 : ((Tryz.prog.stops == [])) = true := by kernel_rfl
theorem cl_8 : ((Tryz.prog.stopKnobs == [])) = true := by kernel_rfl
theorem cl_22 : ((Rows.fnExactPatsTyRow.plainKeys == Tryz.prog.plainKeys)) = true := by kernel_rfl
theorem cl_24 : (Tryz.prog.stopsHeard) = true := by kernel_rfl
theorem cl_25 : (Tryz.prog.mayEnter) = true := by kernel_rfl
theorem cl_26 : ((Rows.fnExactPatsTyRow.lifted == Tryz.prog.liftsFinal)) = true := by kernel_rfl
theorem cl_27 : ((Tryz.prog.make == some Rows.fnExactPatsTyRow.make)) = true := by kernel_rfl
end Go.Proofs.YtmnokalddmlogaaGreat
