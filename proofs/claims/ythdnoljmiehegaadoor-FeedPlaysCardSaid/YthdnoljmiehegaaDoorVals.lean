/- WHAT IS PROVED HERE: what the program and the references say of single updates, rounds and frames: may they be, are they great, are they the same. -/
import Derived.Test.YthdnoljmiehegaaDoorBase
import Derived.Deep.QuietTactic
import Derived.BigQuiet
import Derived.Deep.Light
set_option linter.unusedVariables false
set_option linter.unusedSimpArgs false
namespace Go.Proofs.YthdnoljmiehegaaDoor
open Go.RowKit

def Upd.may (u : Upd) : Int :=
  if (u.key.size : Int) < 1 ∨ 16 < (u.key.size : Int) then 1 else
  if u.kind = 1 ∨ u.kind = 3 then (if u.s.toList.isEmpty = false then 13 else if u.n < -2305843009213693952 ∨ 2305843009213693952 ≤ u.n then 1 else 0)
  else if u.kind = 2 ∨ u.kind = 4 then (if u.n ≠ 0 then 13 else if 32 < (u.s.size : Int) then 1 else 0)
  else if u.kind = 5 then (if u.n ≠ 0 ∨ u.s.toList.isEmpty = false then 13 else 0)
  else 5

theorem toList_isEmpty (s : ByteArray) : s.toList.isEmpty = true ↔ (s.size : Int) = 0 := by
  rw [List.isEmpty_iff]
  constructor
  · intro h
    have : s.toList.length = s.size := by simp [ByteArray.toList_eq]
    rw [h] at this
    simp at this
    omega
  · intro h
    apply List.eq_nil_of_length_eq_zero
    have : s.toList.length = s.size := by simp [ByteArray.toList_eq]
    omega

set_option maxHeartbeats 400000 in
theorem valueMay_any (u : Upd) (w : World) :
    Calls Tryd.prog 125 #[.agg #[.string u.key, .int .i64 u.kind, .int .i64 u.n, .string u.s]] w fun e w' => e = .returned (.int .i64 u.may) ∧ Below w.heap.size w w' := by
  obtain ⟨key, kind, n, s⟩ := u
  go_enter Tryd.func125, Tryd.ntmps125
  go_wp2
  all_goals
    go_ret
    refine ⟨ret_int ?_, (Below.refl _ _).alloc (Nat.le_refl _) _⟩
    go_light
    simp_all (config := { failIfUnchanged := false }) [Upd.may]
    try omega

theorem size_or (s : ByteArray) : s = ByteArray.empty ∨ 1 ≤ (s.size : Int) := by
  rcases Nat.eq_zero_or_pos s.size with h | h
  · exact .inl (ByteArray.ext (Array.eq_empty_of_size_eq_zero h))
  · exact .inr (by omega)
theorem nil_or (s : ByteArray) : (s.toList = [] ∧ (s.size : Int) = 0) ∨ (s.toList ≠ [] ∧ 1 ≤ (s.size : Int)) := by
  have h := toList_isEmpty s
  rw [List.isEmpty_iff] at h
  by_cases h0 : s.toList = []
  · exact .inl ⟨h0, h.1 h0⟩
  · exact .inr ⟨h0, by have : ¬ (s.size : Int) = 0 := fun e => h0 (h.2 e); omega⟩

set_option maxHeartbeats 1000000 in
theorem refMay_any (u : Upd) (w : World) :
    Calls Tryd.prog 135 #[.agg #[.string u.key, .int .i64 u.kind, .int .i64 u.n, .string u.s]] w fun e w' => e = .returned (.int .i64 u.may) ∧ Below w.heap.size w w' := by
  obtain ⟨key, kind, n, s⟩ := u
  go_enter Tryd.func135, Tryd.ntmps135
  go_wp2
  all_goals
    go_ret
    refine ⟨ret_int ?_, (Below.refl _ _).alloc (Nat.le_refl _) _⟩
    go_light
    have hk := size_or key
    simp (config := { failIfUnchanged := false }) only [Upd.may, List.isEmpty_iff, Bool.not_eq_true', beq_iff_eq, bne_iff_ne, ne_eq, beq_eq_false_iff_ne, List.isEmpty_eq_false_iff, Bool.not_eq_false'] at *
    rcases nil_or s with ⟨hs, hs'⟩ | ⟨hs, hs'⟩ <;> (repeat' split) <;> (first | omega | (simp_all; done) | (simp_all; omega))

end Go.Proofs.YthdnoljmiehegaaDoor
