/- WHAT IS PROVED HERE: FeedApart, for every input, returns true and leaves its arguments as they were: pumped again, with nothing new and nothing acknowledged, nothing more is told. The condition: prefix.bits holds what the program's text lays in it; the card ties that to the text. -/
import Derived.Test.YthdnoljmiehegaaDoorCards
import Derived.Test.YthdnoljmiehegaaDoorTie
import Derived.Test.YthdnoljmiehegaaDoorShut
import Derived.Test.YthdnoljmiehegaaDoorRowf
import Derived.Test.YthdnoljmiehegaaDoorFapart
import Derived.SevenTiedAt
set_option linter.unusedVariables false
set_option linter.unusedSimpArgs false
namespace Go.Proofs.YthdnoljmiehegaaDoor
open Go.ChangeShapes Go.WideShapes Go.ChangeAt Go.RowKit

set_option maxRecDepth 100000 in
theorem feedApart_lifted (os : Os) (started : os.Started) (H : Type) (enc : TypeId × Value → H) :
    ReturnsInHanded {} Tryd.checked os 7 .any (fun w args => (Rows.feedApartSpec.pre enc Tryd.prog Tryd.f7 [] false w args ∧ laidMetH Tryd.prog laidB w) ∧ sizedMet enc Tryd.prog Tryd.f7 (OpenSpec.ofChange Rows.feedApartSpec) false w args)
      (Rows.feedApartSpec.post enc Tryd.prog Tryd.f7 false true false false) := by
  refine returnsInHanded_of_change_and (C := Tryd.checked) (X := fun w _ => laidMetH Tryd.prog laidB w) (fun _ _ _ hh h => h.of_heap hh) Tryd.own started (by kernel_rfl) Tryd.func7
    (ChangeSpec.witness_shaped (enc := enc) (C := Tryd.checked) (os := os) (X := fun w _ => laidMetH Tryd.prog laidB w) false (World.doorLaid Tryd.prog 400 os) #[.int .i64 0, .slice none 0 0] 8 rfl (World.shaped_of_RefB (by kernel_rfl) (by kernel_rfl)) (by kernel_rfl) (by kernel_rfl) (by kernel_rfl) (door_met os _)) ?_
  intro W base args ds gs before hval0 hW _ _ hL _
  have hval : ∀ (j : Nat) t v, Tryd.f7.params[j]? = some t → args[j]? = some v → Value.okWide Tryd.prog W .any base t v := hval0
  have hW' := hW
  obtain ⟨p, q, hA0, hV, rfl, hfz, hnd⟩ := hW
  have hA : DataW.TrodAll enc Tryd.prog W 0 (fun _ => true) true Tryd.f7.params.toList args.toList ds p := hA0
  rw [Tryd.params7] at hA hval
  obtain ⟨v0, v1, d0, d1, p0, p1, rfl, rfl, rfl, h0, h1⟩ := trodAll_two hA
  obtain ⟨rfl, rfl⟩ := trodVars_none hV
  obtain ⟨a0, rfl, rfl, rfl, w0⟩ := open_int Tryd.underlying3 (hval 0 3 v0 rfl rfl) h0
  obtain ⟨A1, c1, l1, rfl, hs1, hq1⟩ := arg_rnds (hval 1 30 v1 rfl rfl) h1
  refine (feedApart_any a0 l1 A1 c1 W hs1 (bits_of_laid hL)).mono fun e W' ⟨he, hb⟩ => ?_
  subst he
  refine ⟨_, rfl, law_post hW' rfl rfl rfl ?_ hb⟩
  rw [Tryd.params7]
  intro t ht
  simp only [List.mem_cons, List.not_mem_nil, or_false] at ht
  rcases ht with rfl | rfl <;> exact ⟨by kernel_rfl, of_decide_eq_true (by kernel_rfl)⟩

set_option maxRecDepth 100000
theorem feedApart_wf : Rows.feedApartRow.wf (OpenSpec.ofChange Rows.feedApartSpec) = true := by kernel_rfl
theorem feedApart_inPlace : (Rows.feedApartRow.inPlace == Tryd.prog.inPlace 7) = true := by kernel_rfl
theorem feedApart_unfollowed : (Rows.feedApartRow.unfollowed == Tryd.prog.unfollowed 7) = true := by kernel_rfl
theorem feedApart_recurses : (Rows.feedApartRow.recurses == Tryd.prog.recurses 7) = true := by kernel_rfl
theorem feedApart_named : (Rows.feedApartRow.named == Tryd.prog.varsNamed 7) = true := by kernel_rfl
theorem feedApart_facts : joinedFacts Tryd.prog 7 Tryd.f7 Rows.feedApartSpec Rows.feedApartRow = true :=
  band (band (band (band (band (band (band (band (band (band (band (band (band (band (band (band (band (band (band (band (band (band (band (band (band (band (band (band (band (band (band feedApart_wf pf_laidOut) pf_mapsRowed) (by kernel_rfl)) (by kernel_rfl)) rfl) pf_stops) rfl) pf_stopKnobs) feedApart_inPlace) feedApart_unfollowed) feedApart_recurses) feedApart_named) (by kernel_rfl)) (by kernel_rfl)) (by kernel_rfl)) (by kernel_rfl)) (by kernel_rfl)) (by kernel_rfl)) (by kernel_rfl)) (by kernel_rfl)) (by kernel_rfl)) pf_plainKeys) rfl) pf_stopsHeard) pf_mayEnter) pf_lifted) pf_make) (by kernel_rfl)) (by kernel_rfl)) (by kernel_rfl)) (by kernel_rfl)
theorem feedApart_fn : Tryd.prog.funcNamed Rows.feedApartRow.func = some 7 := by kernel_rfl
theorem feedApart_inst : Tryd.f7.isInstance Tryd.prog Rows.feedApartRow.origin Rows.feedApartRow.targs := of_decide_eq_true (by kernel_rfl)
theorem feedApart_wrap : Tryd.f7.isWrapper Tryd.prog Rows.feedApartRow.wrapper Rows.feedApartRow.mainSum := by unfold Func.isWrapper; first | (rw [if_pos (by decide +kernel)]; kernel_rfl) | (rw [if_neg (by decide +kernel)]; exact ⟨rfl, rfl⟩)
theorem feedApart_holds : Rows.FeedApartSaid :=
  OpenClaim.holds_of_wide 7 Tryd.f7 rfl rfl rfl rfl rfl rfl rfl ⟨rfl, rfl, rfl, rfl, rfl⟩ rfl rfl rfl rfl rfl feedApart_fn Tryd.func7 feedApart_facts
    feedApart_inst feedApart_wrap
    (fun os started H enc _ => feedApart_lifted os started H enc)

theorem feedApart_card : Rows.FeedApartCardSaid :=
  Claim7.holds_tied_plain_at .later [] [.data] true (true, "61eb17a64155d1724f8aee27df79bf74b0a92261a24a8d1de899e88f3ce3f3e0") false
    feedApart_holds (fun _ h => by cases h) (by kernel_rfl) (fun _ h => by cases h) feedApart_row_tie rfl ⟨rfl, rfl⟩ (by kernel_rfl) rfl
    (fun f fn hf hfn => by
      obtain rfl : f = 7 := Option.some.inj ((show Tryd.prog.funcNamed "chapbook/chapbooklaw15.FeedApart" = some 7 by kernel_rfl).symm.trans hf) |>.symm
      obtain rfl : fn = Tryd.f7 := (Option.some.inj (Tryd.func7.symm.trans hfn)).symm
      exact ⟨by kernel_rfl, fun j t ht => by
        rw [Tryd.params7] at ht
        have h3 : t ∈ [3, 30] := List.mem_of_getElem? (l := [3, 30]) (i := j) (by simpa using ht)
        simp only [List.mem_cons, List.not_mem_nil, or_false] at h3
        rcases h3 with rfl | rfl <;> (first | exact (show Tryd.prog.wantsStandIn 3 = false by kernel_rfl) | exact (show Tryd.prog.wantsStandIn 30 = false by kernel_rfl))⟩)
    (by kernel_rfl)
#print axioms feedApart_card
end Go.Proofs.YthdnoljmiehegaaDoor
