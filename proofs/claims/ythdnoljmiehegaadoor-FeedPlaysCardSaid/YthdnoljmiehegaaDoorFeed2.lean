/- WHAT IS PROVED HERE: the program's feed: new, reset, at. -/
import Derived.Test.YthdnoljmiehegaaDoorFeed
set_option linter.unusedVariables false
set_option linter.unusedSimpArgs false
namespace Go.Proofs.YthdnoljmiehegaaDoor
open Go.RowKit

theorem feedNew_any (w : World) : Calls Tryd.prog 33 #[] w fun e w' => e = .returned (ptr w.heap.size) ∧ w' = w.alloc (.cells #[.int .i64 0] 159) := by
  unfold ptr
  go_enter Tryd.func33, Tryd.ntmps33
  go_wp2
  go_ret
  exact ⟨rfl, rfl⟩
theorem feedReset_any (p : Nat) (a : Int) (w : World) (h : Blk w p 159 #[.int .i64 a]) : Calls Tryd.prog 42 #[ptr p] w fun e w' => e = .returned (.tuple #[]) ∧ w' = w.setCell ⟨p, 0, none⟩ (.int .i64 0) := by
  unfold ptr
  obtain ⟨c0, f0, z0⟩ := h.rules
  go_enter Tryd.func42, Tryd.ntmps42
  go_wp2
  go_end0
  exact ⟨rfl, rfl⟩
theorem feedAt_any (p : Nat) (a : Int) (w : World) (h : Blk w p 159 #[.int .i64 a]) : Calls Tryd.prog 45 #[ptr p] w fun e w' => e = .returned (.int .i64 a) ∧ w' = w := by
  unfold ptr
  obtain ⟨c0, f0, z0⟩ := h.rules
  go_enter Tryd.func45, Tryd.ntmps45
  go_wp2
  go_ret
  exact ⟨rfl, rfl⟩
end Go.Proofs.YthdnoljmiehegaaDoor
