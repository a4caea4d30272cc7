/- WHAT IS PROVED HERE: the closed facts on the row of FeedPlays. -/
import Derived.Test.YthdnoljmiehegaaDoorRowf
import Derived.JoinedOf
set_option linter.unusedVariables false
namespace Go.Proofs.YthdnoljmiehegaaDoor
set_option maxRecDepth 100000
theorem feedPlays_wf : Rows.feedPlaysRow.wf (OpenSpec.ofChange Rows.feedPlaysSpec) = true := by kernel_rfl
theorem feedPlays_inPlace : (Rows.feedPlaysRow.inPlace == Tryd.prog.inPlace 5) = true := by kernel_rfl
theorem feedPlays_unfollowed : (Rows.feedPlaysRow.unfollowed == Tryd.prog.unfollowed 5) = true := by kernel_rfl
theorem feedPlays_recurses : (Rows.feedPlaysRow.recurses == Tryd.prog.recurses 5) = true := by kernel_rfl
theorem feedPlays_named : (Rows.feedPlaysRow.named == Tryd.prog.varsNamed 5) = true := by kernel_rfl
theorem feedPlays_facts : joinedFacts Tryd.prog 5 Tryd.f5 Rows.feedPlaysSpec Rows.feedPlaysRow = true :=
  band (band (band (band (band (band (band (band (band (band (band (band (band (band (band (band (band (band (band (band (band (band (band (band (band (band (band (band (band (band (band feedPlays_wf pf_laidOut) pf_mapsRowed) (by kernel_rfl)) (by kernel_rfl)) rfl) pf_stops) rfl) pf_stopKnobs) feedPlays_inPlace) feedPlays_unfollowed) feedPlays_recurses) feedPlays_named) (by kernel_rfl)) (by kernel_rfl)) (by kernel_rfl)) (by kernel_rfl)) (by kernel_rfl)) (by kernel_rfl)) (by kernel_rfl)) (by kernel_rfl)) (by kernel_rfl)) pf_plainKeys) rfl) pf_stopsHeard) pf_mayEnter) pf_lifted) pf_make) (by kernel_rfl)) (by kernel_rfl)) (by kernel_rfl)) (by kernel_rfl)
theorem feedPlays_fn : Tryd.prog.funcNamed Rows.feedPlaysRow.func = some 5 := by kernel_rfl
theorem feedPlays_inst : Tryd.f5.isInstance Tryd.prog Rows.feedPlaysRow.origin Rows.feedPlaysRow.targs := of_decide_eq_true (by kernel_rfl)
theorem feedPlays_wrap : Tryd.f5.isWrapper Tryd.prog Rows.feedPlaysRow.wrapper Rows.feedPlaysRow.mainSum := by unfold Func.isWrapper; first | (rw [if_pos (by decide +kernel)]; kernel_rfl) | (rw [if_neg (by decide +kernel)]; exact ⟨rfl, rfl⟩)
theorem feedPlays_named2 : Tryd.prog.funcNamed "chapbook/chapbooklaw15.FeedPlays" = some 5 := by kernel_rfl
end Go.Proofs.YthdnoljmiehegaaDoor
