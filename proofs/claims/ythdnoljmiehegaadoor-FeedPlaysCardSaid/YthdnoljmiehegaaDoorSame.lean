/- WHAT IS PROVED HERE: equal rounds, lists of rounds and lists of frames are told the same. -/
import Derived.Test.YthdnoljmiehegaaDoorBase
import Derived.Deep.RegionHeld3
set_option linter.unusedVariables false
set_option linter.unusedSimpArgs false
namespace Go.Proofs.YthdnoljmiehegaaDoor
open Go.RowKit

set_option maxHeartbeats 1000000 in
theorem same_any (r : Rnd) (A B : Option Addr) (c d : Nat) (w : World) (hA : SL KU anyB w A c r.us) (hB : SL KU anyB w B d r.us) :
    Calls Tryd.prog 58 #[.agg #[.int .i64 r.o, .int .i64 r.n, .slice A r.us.length c], .agg #[.int .i64 r.o, .int .i64 r.n, .slice B r.us.length d]] w fun e w' => e = .returned (.bool true) ∧ Below w.heap.size w w' := by
  obtain ⟨o, n, us⟩ := r
  have hlen : us.length ≤ 9223372036854775807 := by have := hA.1; have := hA.2.1; simp only [maxLen] at *; omega
  go_enter Tryd.func58, Tryd.ntmps58
  go_wp2
  go_loopw [5] (fun i wr => ∃ k : Nat, k ≤ us.length ∧ i = .int .i64 k ∧ Below (w.heap.size + 2) ((w.alloc (.cells #[.int .i64 o, .int .i64 n, .slice A us.length c] 38)).alloc (.cells #[.int .i64 o, .int .i64 n, .slice B us.length d] 38)) wr) (fun i _ => us.length - (intOf i).toNat)
  case atStart => exact ⟨0, Nat.zero_le _, rfl, Below.refl _ _⟩
  case round =>
    obtain ⟨k, hk, rfl, hb⟩ := hrel
    have x0 : wr.cell? ⟨w.heap.size, 2, none⟩ = some (.slice A us.length c) := (hb.cell (p := ⟨w.heap.size, 2, none⟩) (by simp)).trans (by simp)
    have x1 : wr.cell? ⟨w.heap.size + 1, 2, none⟩ = some (.slice B us.length d) := (hb.cell (p := ⟨w.heap.size + 1, 2, none⟩) (by simp)).trans (by simp)
    have hbs := hb.size
    simp only [World.size_alloc] at hbs
    have hb0 : Below w.heap.size w wr := (((Below.refl _ _).alloc (Nat.le_refl _) _).alloc (by simp) _).trans (hb.mono (by omega))
    by_cases hlt : k < us.length
    · obtain ⟨b, off, rfl, _, hbw, d0, d1, d2, d3⟩ := (hA.below hb0).upd k hlt
      obtain ⟨b', off', rfl, _, hbw', e0, e1, e2, e3⟩ := (hB.below hb0).upd k hlt
      generalize us[k] = u at *
      have i0 : (0 : Int) ≤ (k : Int) := by omega
      have i1 : (k : Int) < (us.length : Int) := by omega
      go_wp2
      go_quiet (fail)
      go_wp2
      go_roundw
      case rel => exact ⟨k + 1, by omega, by go_num, below_drewN' hb _⟩
      case measure => simp [intOf]; omega
    · go_wp2
      go_ret
      exact ⟨rfl, hb0⟩

set_option maxHeartbeats 1000000 in
theorem sameAll_any (rs : List Rnd) (A B : Option Addr) (c d : Nat) (w : World) (hA : SL KR anyB w A c rs) (hB : SL KR anyB w B d rs) :
    Calls Tryd.prog 27 #[.slice A rs.length c, .slice B rs.length d] w fun e w' => e = .returned (.bool true) ∧ Below w.heap.size w w' := by
  have hlen : rs.length ≤ 9223372036854775807 := by have := hA.1; have := hA.2.1; simp only [maxLen] at *; omega
  go_enter Tryd.func27, Tryd.ntmps27
  go_wp2
  go_loopw [5] (fun i wr => ∃ k : Nat, k ≤ rs.length ∧ i = .int .i64 k ∧ Below w.heap.size w wr) (fun i _ => rs.length - (intOf i).toNat)
  case atStart => exact ⟨0, Nat.zero_le _, rfl, Below.refl _ _⟩
  case round =>
    obtain ⟨k, hk, rfl, hb⟩ := hrel
    by_cases hlt : k < rs.length
    · obtain ⟨b, off, A', c', rfl, _, hbw, d0, d1, d2, h1⟩ := (hA.below hb).rnd k hlt
      obtain ⟨b', off', B', d', rfl, _, hbw', e0, e1, e2, h2⟩ := (hB.below hb).rnd k hlt
      generalize rs[k] = r at *
      have i0 : (0 : Int) ≤ (k : Int) := by omega
      have i1 : (k : Int) < (rs.length : Int) := by omega
      go_wp2
      go_region_held3 (fun w' => w'.cell? ⟨b, off + k * 3, none⟩ = some (.int .i64 r.o) ∧ w'.cell? ⟨b, off + k * 3 + 1, none⟩ = some (.int .i64 r.n) ∧ w'.cell? ⟨b, off + k * 3 + 2, none⟩ = some (.slice A' r.us.length c') ∧
          w'.cell? ⟨b', off' + k * 3, none⟩ = some (.int .i64 r.o) ∧ w'.cell? ⟨b', off' + k * 3 + 1, none⟩ = some (.int .i64 r.n) ∧ w'.cell? ⟨b', off' + k * 3 + 2, none⟩ = some (.slice B' r.us.length d'))
        (refine ⟨?_, ?_, ?_, ?_, ?_, ?_⟩ <;> (first | assumption | exact (hb1.cell (by assumption)).trans (by assumption)))
        (first | (go_at_call 58; refine (same_any r A' B' c' d' _ ?_ ?_).mono ?_; exact h1.drewN 1; exact h2.drewN 1; rintro e w1 ⟨rfl, hb1⟩))
      all_goals go_wp2
      go_roundw
      case rel => exact ⟨k + 1, by omega, by go_num, below_then' (below_drewN' hb 1) hb1⟩
      case measure => simp [intOf]; omega
    · go_wp2
      go_ret
      exact ⟨rfl, hb⟩

set_option maxHeartbeats 1000000 in
theorem sameFrames_any (fs : List Frm) (A B : Option Addr) (c d : Nat) (w : World) (hA : SL KF anyB w A c fs) (hB : SL KF anyB w B d fs) :
    Calls Tryd.prog 46 #[.slice A fs.length c, .slice B fs.length d] w fun e w' => e = .returned (.bool true) ∧ Below w.heap.size w w' := by
  have hlen : fs.length ≤ 9223372036854775807 := by have := hA.1; have := hA.2.1; simp only [maxLen] at *; omega
  go_enter Tryd.func46, Tryd.ntmps46
  go_wp2
  go_loopw [5] (fun i wr => ∃ k : Nat, k ≤ fs.length ∧ i = .int .i64 k ∧ Below w.heap.size w wr) (fun i _ => fs.length - (intOf i).toNat)
  case atStart => exact ⟨0, Nat.zero_le _, rfl, Below.refl _ _⟩
  case round =>
    obtain ⟨k, hk, rfl, hb⟩ := hrel
    by_cases hlt : k < fs.length
    · obtain ⟨b, off, rfl, _, hbw, d0, d1, d2, d3⟩ := (hA.below hb).frm k hlt
      obtain ⟨b', off', rfl, _, hbw', e0, e1, e2, e3⟩ := (hB.below hb).frm k hlt
      generalize fs[k] = u at *
      have i0 : (0 : Int) ≤ (k : Int) := by omega
      have i1 : (k : Int) < (fs.length : Int) := by omega
      go_wp2
      go_quiet (fail)
      go_wp2
      go_roundw
      case rel => exact ⟨k + 1, by omega, by go_num, below_drewN' hb _⟩
      case measure => simp [intOf]; omega
    · go_wp2
      go_ret
      exact ⟨rfl, hb⟩

end Go.Proofs.YthdnoljmiehegaaDoor
