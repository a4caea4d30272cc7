/- WHAT IS PROVED HERE: signed numbers without their sign (Zig), in the program and in the reference. -/
import Derived.Test.YthdnoljmiehegaaDoorRow
set_option linter.unusedVariables false
set_option linter.unusedSimpArgs false
namespace Go.Proofs.YthdnoljmiehegaaDoor
open Go.RowKit

def zig (n : Int) : Int := if n < 0 then 2 * (-(n + 1)) + 1 else 2 * n

theorem rzig_any (n : Int) (h0 : -2305843009213693952 ≤ n) (h1 : n < 2305843009213693952) (w : World) :
    Calls Tryd.prog 178 #[.int .i64 n] w fun e w' => e = .returned (.tuple #[.int .u64 (zig n), .bool true]) ∧ w = w' := by
  have h2 : n ≤ 2305843009213693951 := by omega
  by_cases hn : n < 0
  · have hz : zig n = 2 * (-(n + 1)) + 1 := if_pos hn
    have Hz := Lib.hid hz
    clear hz
    go_enter Tryd.func178, Tryd.ntmps178
    go_wp2
    go_ret2
    go_light
    exact ⟨by rw [Hz.out]; rfl, rfl⟩
  · have hz : zig n = 2 * n := if_neg hn
    have Hz := Lib.hid hz
    clear hz
    go_enter Tryd.func178, Tryd.ntmps178
    go_wp2
    go_ret2
    go_light
    exact ⟨by rw [Hz.out]; rfl, rfl⟩

theorem xor_zig (n : Int) (h0 : -2305843009213693952 ≤ n) (h1 : n < 2305843009213693952) :
    bits .xor .u64 (IntKind.u64.wrap (n * 2)) (IntKind.u64.wrap (n / 9223372036854775808)) = zig n := by
  have hw : ∀ m : Int, IntKind.u64.wrap m = m % 18446744073709551616 := fun m => by simp [IntKind.wrap, IntKind.bits, IntKind.signed]
  by_cases hn : n < 0
  · have e1 : n / 9223372036854775808 = -1 := by omega
    have e2 : n * 2 % 18446744073709551616 = n * 2 + 18446744073709551616 := by omega
    have e3 : zig n = -2 * n - 1 := by unfold zig; rw [if_pos hn]; omega
    rw [e1, hw, hw, e2, e3]
    obtain ⟨a, ha⟩ := Int.eq_ofNat_of_zero_le (show 0 ≤ n * 2 + 18446744073709551616 by omega)
    have hlt : a < 18446744073709551616 := by omega
    rw [ha]
    have e4 : (-1 : Int) % 18446744073709551616 = ((18446744073709551615 : Nat) : Int) := by decide
    rw [e4]
    simp only [bits, BitVec.ofInt_natCast, IntKind.bits]
    have e5 : (BitVec.ofNat 64 18446744073709551615) = BitVec.allOnes 64 := by decide
    have e6 : ((BitVec.ofNat 64 a ^^^ BitVec.ofNat 64 18446744073709551615).toNat : Int) = 18446744073709551615 - a := by
      rw [e5, BitVec.xor_allOnes, BitVec.toNat_not, BitVec.toNat_ofNat]; omega
    refine (congrArg IntKind.u64.wrap e6).trans ?_
    rw [hw]
    omega
  · have e1 : n / 9223372036854775808 = 0 := by omega
    have e2 : n * 2 % 18446744073709551616 = n * 2 := by omega
    have e3 : zig n = n * 2 := by unfold zig; rw [if_neg hn]; omega
    rw [e1, hw, hw, e2, e3]
    obtain ⟨a, ha⟩ := Int.eq_ofNat_of_zero_le (show 0 ≤ n * 2 by omega)
    have hlt : a < 18446744073709551616 := by omega
    rw [ha]
    have e4 : (0 : Int) % 18446744073709551616 = ((0 : Nat) : Int) := by decide
    rw [e4]
    simp only [bits, BitVec.ofInt_natCast, IntKind.bits]
    have e6 : ((BitVec.ofNat 64 a ^^^ BitVec.ofNat 64 0).toNat : Int) = a := by
      rw [BitVec.xor_zero, BitVec.toNat_ofNat]; omega
    refine (congrArg IntKind.u64.wrap e6).trans ?_
    rw [hw]
    omega

theorem pzig_any (n : Int) (h0 : -2305843009213693952 ≤ n) (h1 : n < 2305843009213693952) (w : World) :
    Calls Tryd.prog 181 #[.int .i64 n] w fun e w' => e = .returned (.tuple #[.int .u64 (zig n), .bool true]) ∧ w = w' := by
  have h2 : n ≤ 2305843009213693951 := by omega
  go_enter Tryd.func181, Tryd.ntmps181
  go_wp2
  go_ret2
  go_light
  exact ⟨by rw [← xor_zig n h0 h1]; rfl, rfl⟩

end Go.Proofs.YthdnoljmiehegaaDoor
