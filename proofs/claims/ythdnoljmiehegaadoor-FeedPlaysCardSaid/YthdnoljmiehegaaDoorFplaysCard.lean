/- WHAT IS PROVED HERE: FeedPlays, for every input, returns true and leaves its arguments as they were: in every order of calls, rounds and frames the link is offered just the rounds that the document says. The condition: prefix.bits holds what the program's text lays in it; the card ties that to the text. -/
import Derived.Test.YthdnoljmiehegaaDoorCards
import Derived.Test.YthdnoljmiehegaaDoorTie
import Derived.Test.YthdnoljmiehegaaDoorShut2
import Derived.Test.YthdnoljmiehegaaDoorFplaysFa
import Derived.Test.YthdnoljmiehegaaDoorFplays
import Derived.SevenTiedAt
set_option linter.unusedVariables false
set_option linter.unusedSimpArgs false
namespace Go.Proofs.YthdnoljmiehegaaDoor
open Go.ChangeShapes Go.WideShapes Go.ChangeAt Go.RowKit

set_option maxRecDepth 100000 in
theorem feedPlays_lifted (os : Os) (started : os.Started) (H : Type) (enc : TypeId × Value → H) :
    ReturnsInHanded {} Tryd.checked os 5 .any (fun w args => (Rows.feedPlaysSpec.pre enc Tryd.prog Tryd.f5 [] false w args ∧ laidMetH Tryd.prog laidB w) ∧ sizedMet enc Tryd.prog Tryd.f5 (OpenSpec.ofChange Rows.feedPlaysSpec) false w args)
      (Rows.feedPlaysSpec.post enc Tryd.prog Tryd.f5 false true false false) := by
  refine returnsInHanded_of_change_and (C := Tryd.checked) (X := fun w _ => laidMetH Tryd.prog laidB w) (fun _ _ _ hh h => h.of_heap hh) Tryd.own started (by kernel_rfl) Tryd.func5
    (ChangeSpec.witness_shaped (enc := enc) (C := Tryd.checked) (os := os) (X := fun w _ => laidMetH Tryd.prog laidB w) false (World.doorLaid Tryd.prog 400 os) #[.agg #[.int .i64 0, .int .i64 0], .slice none 0 0] 8 rfl (World.shaped_of_RefB (by kernel_rfl) (by kernel_rfl)) (by kernel_rfl) (by kernel_rfl) (by kernel_rfl) (door_met os _)) ?_
  intro W base args ds gs before hval0 hW _ _ hL _
  have hval : ∀ (j : Nat) t v, Tryd.f5.params[j]? = some t → args[j]? = some v → Value.okWide Tryd.prog W .any base t v := hval0
  have hW' := hW
  obtain ⟨p, q, hA0, hV, rfl, hfz, hnd⟩ := hW
  have hA : DataW.TrodAll enc Tryd.prog W 0 (fun _ => true) true Tryd.f5.params.toList args.toList ds p := hA0
  rw [Tryd.params5] at hA hval
  obtain ⟨v0, v1, d0, d1, p0, p1, rfl, rfl, rfl, h0, h1⟩ := trodAll_two hA
  obtain ⟨rfl, rfl⟩ := trodVars_none hV
  obtain ⟨a0, b0, rfl, ha0, hb0⟩ := arg_arr2 (hval 0 57 v0 rfl rfl) h0
  obtain ⟨A1, c1, l1, rfl, hs1⟩ := arg_facts (hval 1 58 v1 rfl rfl) h1
  refine (feedPlays_any a0 b0 l1 A1 c1 W hs1 (bits_of_laid hL)).mono fun e W' ⟨he, hb⟩ => ?_
  subst he
  refine ⟨_, rfl, law_post hW' rfl rfl rfl ?_ hb⟩
  rw [Tryd.params5]
  intro t ht
  simp only [List.mem_cons, List.not_mem_nil, or_false] at ht
  rcases ht with rfl | rfl <;> exact ⟨by kernel_rfl, of_decide_eq_true (by kernel_rfl)⟩

set_option maxRecDepth 100000
theorem feedPlays_holds : Rows.FeedPlaysSaid :=
  OpenClaim.holds_of_wide 5 Tryd.f5 rfl rfl rfl rfl rfl rfl rfl ⟨rfl, rfl, rfl, rfl, rfl⟩ rfl rfl rfl rfl rfl feedPlays_fn Tryd.func5 feedPlays_facts
    feedPlays_inst feedPlays_wrap
    (fun os started H enc _ => feedPlays_lifted os started H enc)

theorem feedPlays_card : Rows.FeedPlaysCardSaid :=
  Claim7.holds_tied_plain_at .later [] [.data] true (true, "61eb17a64155d1724f8aee27df79bf74b0a92261a24a8d1de899e88f3ce3f3e0") false
    feedPlays_holds (fun _ h => by cases h) (by kernel_rfl) (fun _ h => by cases h) feedPlays_row_tie rfl ⟨rfl, rfl⟩ (by kernel_rfl) rfl
    (fun f fn hf hfn => by
      obtain rfl : f = 5 := Option.some.inj (feedPlays_named2.symm.trans hf) |>.symm
      obtain rfl : fn = Tryd.f5 := (Option.some.inj (Tryd.func5.symm.trans hfn)).symm
      exact ⟨by kernel_rfl, fun j t ht => by
        rw [Tryd.params5] at ht
        have h3 : t ∈ [57, 58] := List.mem_of_getElem? (l := [57, 58]) (i := j) (by simpa using ht)
        simp only [List.mem_cons, List.not_mem_nil, or_false] at h3
        rcases h3 with rfl | rfl <;> (first | exact (show Tryd.prog.wantsStandIn 57 = false by kernel_rfl) | exact (show Tryd.prog.wantsStandIn 58 = false by kernel_rfl))⟩)
    (by kernel_rfl)
#print axioms feedPlays_card
end Go.Proofs.YthdnoljmiehegaaDoor
