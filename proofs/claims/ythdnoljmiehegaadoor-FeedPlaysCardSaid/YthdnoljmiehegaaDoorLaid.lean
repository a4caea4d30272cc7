/- WHAT IS PROVED HERE: what the rows' condition on prefix.bits gives the walks; a world that meets it. -/
import Derived.Test.YthdnoljmiehegaaDoorRows
import Derived.Test.YthdnoljmiehegaaDoorPfx
import Derived.Test.YthdnoljmiehegaaDoorOpen
import Derived.ProofKit
import Derived.LaidMore
import Derived.OpenShut
import Derived.ChangeSame
import Derived.ChangeVars
import Derived.JoinedOf
import Derived.LaidLaws
import Derived.LaidHandle
import Derived.MakeChecks
import Derived.Stop.Joined
set_option linter.unusedVariables false
set_option linter.unusedSimpArgs false
namespace Go.Proofs.YthdnoljmiehegaaDoor
open Go.ChangeShapes Go.WideShapes Go.ChangeAt Go.RowKit

def laidB : List (String × DataW Unit) := [("chapbook/prefix.bits", Rows.laid_chapbook_prefix_bits)]
theorem Tryd.own : ownKnob Tryd.prog.godebug = none := by kernel_rfl
theorem gBits : Tryd.prog.globalNamed "chapbook/prefix.bits" = some 0 := by kernel_rfl
theorem tBits : (Tryd.prog.globals[0]?).map (·.type) = some 280 := by kernel_rfl
theorem door_met (os : Os) (args : Array Value) : laidMetH Tryd.prog laidB ((World.doorLaid Tryd.prog 400 os).forCall (fun _ _ => 0) ⟨#[], args, []⟩).memory :=
  laidMetH_of_parts3 (fuel := 8) (laidMet_of_run' 8 (by kernel_rfl) (by kernel_rfl)) (by kernel_rfl) (by kernel_rfl)

set_option maxRecDepth 100000 in
theorem bits_of_laid {W : World} (h : laidMetH Tryd.prog laidB W) : Bits W := by
  rw [MakeChecks.laidMetH_plain _ _ _ (by kernel_rfl)] at h
  obtain ⟨ps, ⟨g0, t0, cs0, f0, p0, q0, hg0, ht0, hv0, hd0, _⟩, _⟩ := h
  obtain rfl := Option.some.inj (gBits.symm.trans hg0)
  obtain rfl := Option.some.inj (tBits.symm.trans ht0)
  obtain ⟨xs, m1, _, hx1, hlen, hn4, hel⟩ := DataW.trod_array Tryd.underlying280 hd0
  have c114 : Tryd.prog.cellsOf 114 = 1 := by kernel_rfl
  have c280 : Tryd.prog.cellsOf 280 = 4 := by kernel_rfl
  rw [c280] at hlen
  obtain ⟨a, b, c, d, hcs⟩ := len4 hlen
  have h0 := hel 0 (by omega)
  have h1 := hel 1 (by omega)
  have h2 := hel 2 (by omega)
  have h3 := hel 3 (by omega)
  rw [c114, hcs] at h0 h1 h2 h3
  simp only [Nat.zero_mul, Nat.one_mul, Nat.mul_one, List.drop_zero, List.take_succ_cons, List.take_zero, List.drop_succ_cons] at h0 h1 h2 h3
  simp only [Prod.mk.injEq, Rows.laid_chapbook_prefix_bits, DataW.agg.injEq] at hx1
  have hw : ∀ {v : Value} {i : Nat} {k : Int}, i < 4 → DataW.trod (fun _ => ()) Tryd.prog W 0 (fun _ => true) false m1 114 [v] = xs[i]? → (xs.map (·.1))[i]? = some (.lit (.int .u64 k)) → v = .int .u64 k := by
    intro v i k hi h hk
    obtain ⟨y, hy⟩ := nth_some hn4 hi
    rw [hy] at h
    rw [List.getElem?_map, hy] at hk
    obtain ⟨n, h5, h6, _⟩ := DataW.trod_int Tryd.underlying114 h
    subst h6
    simp at hk h5
    rw [h5, hk]
  obtain rfl := hw (by omega) h0 (by rw [← hx1.1]; rfl)
  obtain rfl := hw (by omega) h1 (by rw [← hx1.1]; rfl)
  obtain rfl := hw (by omega) h2 (by rw [← hx1.1]; rfl)
  obtain rfl := hw (by omega) h3 (by rw [← hx1.1]; rfl)
  have hcs0 : cs0 = #[.int .u64 6, .int .u64 14, .int .u64 30, .int .u64 62] := by
    apply Array.toList_inj.1
    rw [hcs]
  subst hcs0
  simp only [World.var?, hg0, Option.bind_some] at hv0
  unfold Bits
  split at hv0
  · rename_i cs t fr hh
    simp only [Option.some.injEq] at hv0
    subst hv0
    exact ⟨_, _, hh⟩
  · cases hv0

end Go.Proofs.YthdnoljmiehegaaDoor
