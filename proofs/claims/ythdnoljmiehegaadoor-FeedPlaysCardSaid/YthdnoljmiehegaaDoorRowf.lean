/- WHAT IS PROVED HERE: the closed facts on the program that all rows of this seat share, each a declaration of its own. -/
import Derived.Test.YthdnoljmiehegaaDoorRows
import Derived.JoinedOf
import Derived.KernelRfl
namespace Go.Proofs.YthdnoljmiehegaaDoor
set_option maxRecDepth 100000
theorem band {a b : Bool} (ha : a = true) (hb : b = true) : (a && b) = true := by rw [ha, hb]; rfl
theorem pf_laidOut : laidOutB Tryd.prog = true := by kernel_rfl
theorem pf_mapsRowed : mapsRowed Tryd.prog = true := by kernel_rfl
theorem pf_plainKeys : (true == Tryd.prog.plainKeys) = true := by kernel_rfl
theorem pf_stopsHeard : Tryd.prog.stopsHeard = true := by kernel_rfl
theorem pf_mayEnter : Tryd.prog.mayEnter = true := by kernel_rfl
theorem pf_lifted : (Rows.feedApartRow.lifted == Tryd.prog.liftsFinal) = true := by kernel_rfl
theorem pf_make : (Tryd.prog.make == some Rows.feedApartRow.make) = true := by kernel_rfl
theorem pf_stops : (Tryd.prog.stops == []) = true := by kernel_rfl
theorem pf_stopKnobs : (Tryd.prog.stopKnobs == []) = true := by kernel_rfl
end Go.Proofs.YthdnoljmiehegaaDoor
