/- WHAT IS SAID HERE: objects side by side: their order, and three of them as a group. -/
import Derived.Test.YthdnoljmiehegaaDoorSep
set_option linter.unusedVariables false
set_option linter.unusedSimpArgs false
namespace Go.Proofs.YthdnoljmiehegaaDoor
open Go.RowKit

section
variable {B : Nat} {X Y Z : Ob} {l : List Ob} {w0 w : World} {F : Nat → Prop}
theorem SepL.swap (h : SepL B (X :: Y :: l) w F) : SepL B (Y :: X :: l) w F := by
  obtain ⟨F1, F2, h1, g1, ⟨F3, F4, h3, g3, h4, d2, e2⟩, d1, e1⟩ := h
  refine ⟨F3, fun b => F1 b ∨ F4 b, h3, g3, ⟨F1, F4, h1, g1, h4, fun b hb q => d1 b hb ((e2 b).2 (.inr q)), fun b => Iff.rfl⟩, fun b hb q => q.elim (fun q => d1 b q ((e2 b).2 (.inl hb))) (d2 b hb), fun b => ?_⟩
  rw [e1, e2]
  constructor
  · rintro (q | q | q)
    · exact .inr (.inl q)
    · exact .inl q
    · exact .inr (.inr q)
  · rintro (q | q | q)
    · exact .inr (.inl q)
    · exact .inl q
    · exact .inr (.inr q)
theorem SepL.under {l' : List Ob} (h : SepL B (X :: l) w F) (hf : ∀ F, SepL B l w F → SepL B l' w F) : SepL B (X :: l') w F := by
  obtain ⟨F1, F2, h1, g1, h2, d1, e1⟩ := h
  exact ⟨F1, F2, h1, g1, hf F2 h2, d1, e1⟩
theorem SepL.group3 (h : SepL B (X :: Y :: Z :: l) w F) : SepL B (SepL B [X, Y, Z] :: l) w F := by
  obtain ⟨F1, F2, h1, g1, ⟨F3, F4, h3, g3, ⟨F5, F6, h5, g5, h6, d5, e5⟩, d3, e3⟩, d1, e1⟩ := h
  refine ⟨fun b => F1 b ∨ (F3 b ∨ F5 b), F6, ⟨F1, fun b => F3 b ∨ F5 b, h1, g1, ⟨F3, F5, h3, g3, ⟨F5, fun _ => False, h5, g5, fun _ h => h, fun _ _ h => h, fun b => by simp⟩, fun b hb q => d3 b hb ((e5 b).2 (.inl q)), fun b => Iff.rfl⟩, fun b hb q => d1 b hb ((e3 b).2 (q.imp id fun q => (e5 b).2 (.inl q))), fun b => Iff.rfl⟩, ?_, h6, ?_, fun b => ?_⟩
  · rintro b (q | q | q)
    · exact g1 b q
    · exact g3 b q
    · exact g5 b q
  · rintro b (q | q | q) q6
    · exact d1 b q ((e3 b).2 (.inr ((e5 b).2 (.inr q6))))
    · exact d3 b q ((e5 b).2 (.inr q6))
    · exact d5 b q q6
  · rw [e1, e3, e5]
    constructor
    · rintro (q | q | q | q)
      · exact .inl (.inl q)
      · exact .inl (.inr (.inl q))
      · exact .inl (.inr (.inr q))
      · exact .inr q
    · rintro ((q | q | q) | q)
      · exact .inl q
      · exact .inr (.inl q)
      · exact .inr (.inr (.inl q))
      · exact .inr (.inr (.inr q))
theorem Sys.swap (h : Sys B (X :: Y :: l) w0 w) : Sys B (Y :: X :: l) w0 w := by
  obtain ⟨F, h1⟩ := h.ex
  exact ⟨⟨F, h1.swap⟩, (h.good.tail.tail.cons h.good.head).cons h.good.tail.head, h.mod, h.le⟩
theorem Sys.swap1 (h : Sys B (X :: Y :: Z :: l) w0 w) : Sys B (X :: Z :: Y :: l) w0 w := by
  obtain ⟨F, h1⟩ := h.ex
  exact ⟨⟨F, h1.under fun _ q => q.swap⟩, ((h.good.tail.tail.tail.cons h.good.tail.head).cons h.good.tail.tail.head).cons h.good.head, h.mod, h.le⟩
theorem Sys.group3 (h : Sys B (X :: Y :: Z :: l) w0 w) : Sys B (SepL B [X, Y, Z] :: l) w0 w := by
  obtain ⟨F, h1⟩ := h.ex
  exact ⟨⟨F, h1.group3⟩, h.good.tail.tail.tail.cons (SepL.good ((((Goods.nil B).cons h.good.tail.tail.head).cons h.good.tail.head).cons h.good.head)), h.mod, h.le⟩
end

end Go.Proofs.YthdnoljmiehegaaDoor
