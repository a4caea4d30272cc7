/- WHAT IS PROVED HERE: FeedAgain, for every input, returns true and leaves its arguments as they were: reset, and with a fresh link, all rounds are told anew. The condition: prefix.bits holds what the program's text lays in it; the card ties that to the text. -/
import Derived.Test.YthdnoljmiehegaaDoorCards
import Derived.Test.YthdnoljmiehegaaDoorTie
import Derived.Test.YthdnoljmiehegaaDoorShut
import Derived.Test.YthdnoljmiehegaaDoorRowf
import Derived.Test.YthdnoljmiehegaaDoorFagain
import Derived.SevenTiedAt
set_option linter.unusedVariables false
set_option linter.unusedSimpArgs false
namespace Go.Proofs.YthdnoljmiehegaaDoor
open Go.ChangeShapes Go.WideShapes Go.ChangeAt Go.RowKit

set_option maxRecDepth 100000 in
theorem feedAgain_lifted (os : Os) (started : os.Started) (H : Type) (enc : TypeId × Value → H) :
    ReturnsInHanded {} Tryd.checked os 6 .any (fun w args => (Rows.feedAgainSpec.pre enc Tryd.prog Tryd.f6 [] false w args ∧ laidMetH Tryd.prog laidB w) ∧ sizedMet enc Tryd.prog Tryd.f6 (OpenSpec.ofChange Rows.feedAgainSpec) false w args)
      (Rows.feedAgainSpec.post enc Tryd.prog Tryd.f6 false true false false) := by
  refine returnsInHanded_of_change_and (C := Tryd.checked) (X := fun w _ => laidMetH Tryd.prog laidB w) (fun _ _ _ hh h => h.of_heap hh) Tryd.own started (by kernel_rfl) Tryd.func6
    (ChangeSpec.witness_shaped (enc := enc) (C := Tryd.checked) (os := os) (X := fun w _ => laidMetH Tryd.prog laidB w) false (World.doorLaid Tryd.prog 400 os) #[.slice none 0 0, .int .i64 0] 8 rfl (World.shaped_of_RefB (by kernel_rfl) (by kernel_rfl)) (by kernel_rfl) (by kernel_rfl) (by kernel_rfl) (door_met os _)) ?_
  intro W base args ds gs before hval0 hW _ _ hL _
  have hval : ∀ (j : Nat) t v, Tryd.f6.params[j]? = some t → args[j]? = some v → Value.okWide Tryd.prog W .any base t v := hval0
  have hW' := hW
  obtain ⟨p, q, hA0, hV, rfl, hfz, hnd⟩ := hW
  have hA : DataW.TrodAll enc Tryd.prog W 0 (fun _ => true) true Tryd.f6.params.toList args.toList ds p := hA0
  rw [Tryd.params6] at hA hval
  obtain ⟨v0, v1, d0, d1, p0, p1, rfl, rfl, rfl, h0, h1⟩ := trodAll_two hA
  obtain ⟨rfl, rfl⟩ := trodVars_none hV
  obtain ⟨A0, c0, l0, rfl, hs0, hq0⟩ := arg_rnds (hval 0 30 v0 rfl rfl) h0
  obtain ⟨a1, rfl, rfl, rfl, w1⟩ := open_int Tryd.underlying3 (hval 1 3 v1 rfl rfl) h1
  refine (feedAgain_any l0 A0 c0 a1 W hs0 (bits_of_laid hL)).mono fun e W' ⟨he, hb⟩ => ?_
  subst he
  refine ⟨_, rfl, law_post hW' rfl rfl rfl ?_ hb⟩
  rw [Tryd.params6]
  intro t ht
  simp only [List.mem_cons, List.not_mem_nil, or_false] at ht
  rcases ht with rfl | rfl <;> exact ⟨by kernel_rfl, of_decide_eq_true (by kernel_rfl)⟩

set_option maxRecDepth 100000
theorem feedAgain_wf : Rows.feedAgainRow.wf (OpenSpec.ofChange Rows.feedAgainSpec) = true := by kernel_rfl
theorem feedAgain_inPlace : (Rows.feedAgainRow.inPlace == Tryd.prog.inPlace 6) = true := by kernel_rfl
theorem feedAgain_unfollowed : (Rows.feedAgainRow.unfollowed == Tryd.prog.unfollowed 6) = true := by kernel_rfl
theorem feedAgain_recurses : (Rows.feedAgainRow.recurses == Tryd.prog.recurses 6) = true := by kernel_rfl
theorem feedAgain_named : (Rows.feedAgainRow.named == Tryd.prog.varsNamed 6) = true := by kernel_rfl
theorem feedAgain_facts : joinedFacts Tryd.prog 6 Tryd.f6 Rows.feedAgainSpec Rows.feedAgainRow = true :=
  band (band (band (band (band (band (band (band (band (band (band (band (band (band (band (band (band (band (band (band (band (band (band (band (band (band (band (band (band (band (band feedAgain_wf pf_laidOut) pf_mapsRowed) (by kernel_rfl)) (by kernel_rfl)) rfl) pf_stops) rfl) pf_stopKnobs) feedAgain_inPlace) feedAgain_unfollowed) feedAgain_recurses) feedAgain_named) (by kernel_rfl)) (by kernel_rfl)) (by kernel_rfl)) (by kernel_rfl)) (by kernel_rfl)) (by kernel_rfl)) (by kernel_rfl)) (by kernel_rfl)) (by kernel_rfl)) pf_plainKeys) rfl) pf_stopsHeard) pf_mayEnter) pf_lifted) pf_make) (by kernel_rfl)) (by kernel_rfl)) (by kernel_rfl)) (by kernel_rfl)
theorem feedAgain_fn : Tryd.prog.funcNamed Rows.feedAgainRow.func = some 6 := by kernel_rfl
theorem feedAgain_inst : Tryd.f6.isInstance Tryd.prog Rows.feedAgainRow.origin Rows.feedAgainRow.targs := of_decide_eq_true (by kernel_rfl)
theorem feedAgain_wrap : Tryd.f6.isWrapper Tryd.prog Rows.feedAgainRow.wrapper Rows.feedAgainRow.mainSum := by unfold Func.isWrapper; first | (rw [if_pos (by decide +kernel)]; kernel_rfl) | (rw [if_neg (by decide +kernel)]; exact ⟨rfl, rfl⟩)
theorem feedAgain_holds : Rows.FeedAgainSaid :=
  OpenClaim.holds_of_wide 6 Tryd.f6 rfl rfl rfl rfl rfl rfl rfl ⟨rfl, rfl, rfl, rfl, rfl⟩ rfl rfl rfl rfl rfl feedAgain_fn Tryd.func6 feedAgain_facts
    feedAgain_inst feedAgain_wrap
    (fun os started H enc _ => feedAgain_lifted os started H enc)

theorem feedAgain_card : Rows.FeedAgainCardSaid :=
  Claim7.holds_tied_plain_at .later [] [.data] true (true, "61eb17a64155d1724f8aee27df79bf74b0a92261a24a8d1de899e88f3ce3f3e0") false
    feedAgain_holds (fun _ h => by cases h) (by kernel_rfl) (fun _ h => by cases h) feedAgain_row_tie rfl ⟨rfl, rfl⟩ (by kernel_rfl) rfl
    (fun f fn hf hfn => by
      obtain rfl : f = 6 := Option.some.inj ((show Tryd.prog.funcNamed "chapbook/chapbooklaw15.FeedAgain" = some 6 by kernel_rfl).symm.trans hf) |>.symm
      obtain rfl : fn = Tryd.f6 := (Option.some.inj (Tryd.func6.symm.trans hfn)).symm
      exact ⟨by kernel_rfl, fun j t ht => by
        rw [Tryd.params6] at ht
        have h3 : t ∈ [30, 3] := List.mem_of_getElem? (l := [30, 3]) (i := j) (by simpa using ht)
        simp only [List.mem_cons, List.not_mem_nil, or_false] at h3
        rcases h3 with rfl | rfl <;> (first | exact (show Tryd.prog.wantsStandIn 3 = false by kernel_rfl) | exact (show Tryd.prog.wantsStandIn 30 = false by kernel_rfl))⟩)
    (by kernel_rfl)
#print axioms feedAgain_card
end Go.Proofs.YthdnoljmiehegaaDoor
