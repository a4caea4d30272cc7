/- WHAT IS PROVED HERE: do updates fit: the program and the reference answer alike. -/
import Derived.Test.YthdnoljmiehegaaDoorPut
import Derived.Test.YthdnoljmiehegaaDoorRbyt2
set_option linter.unusedVariables false
set_option linter.unusedSimpArgs false
namespace Go.Proofs.YthdnoljmiehegaaDoor
open Go.RowKit

def fitR (us : List Upd) : Rnd := ⟨64, 1099511627776, us⟩
def fits (us : List Upd) (mtu : Int) : Bool := decide ((fitR us).may = 0 ∧ 64 ≤ mtu ∧ mtu ≤ 1400 ∧ ((bRnd (fitR us)).size : Int) ≤ mtu - 40)

set_option maxHeartbeats 1000000 in
theorem fits_any (us : List Upd) (mtu : Int) (A : Option Addr) (c : Nat) (w : World) (h : SL KU anyB w A c us) (hG : Bits w) :
    Calls Tryd.prog 126 #[.slice A us.length c, .int .i64 mtu] w fun e w' => e = .returned (.bool (fits us mtu)) ∧ Below w.heap.size w w' := by
  by_cases hm : (fitR us).may = 0
  · have hfin : ∀ x : Bool, x = decide (64 ≤ mtu ∧ mtu ≤ 1400 ∧ ((bRnd (fitR us)).size : Int) ≤ mtu - 40) → x = fits us mtu := by
      rintro x rfl
      simp [fits, hm]
    have Hfin := Lib.hid hfin
    clear hfin
    go_enter Tryd.func126, Tryd.ntmps126
    go_wp2_with (first
      | (go_at_call 97; refine (roundPut_any (fitR us) hm A c _ h hG).mono ?_; rintro e w1 ⟨rfl, hb1⟩)
      | (go_at_call 155; refine (in_any _ _ _ _).mono ?_; rintro e w2 ⟨rfl, rfl⟩))
    all_goals
      go_ret
      refine ⟨ret_bool (Hfin.out _ ?_), hb1⟩
      go_light
      simp_all [inB]
      try (first | (unfold wrap64; omega) | omega)
  · have hfin : fits us mtu = false := by simp [fits, hm]
    have Hfin := Lib.hid hfin
    have ht : ((fitR us).may == 0) = false := by simpa using hm
    clear hfin
    go_enter Tryd.func126, Tryd.ntmps126
    go_wp2_with (go_at_call 97; refine (putBad_any (fitR us) hm A c _ h).mono ?_; rintro e w1 ⟨rfl, hb1⟩)
    all_goals
      go_ret
      exact ⟨ret_bool Hfin.out.symm, hb1⟩

set_option maxHeartbeats 1000000 in
theorem rfits_any (us : List Upd) (mtu : Int) (A : Option Addr) (c : Nat) (w : World) (h : SL KU anyB w A c us) :
    Calls Tryd.prog 136 #[.slice A us.length c, .int .i64 mtu] w fun e w' => e = .returned (.bool (fits us mtu)) ∧ Below w.heap.size w w' := by
  have hbx : ∀ w1, Below (w.heap.size + 1) (w.alloc (.cells #[.int .i64 64, .int .i64 1099511627776, .slice A us.length c] 38)) w1 → Below w.heap.size w w1 := fun w1 hb => box_then (by simpa using hb)
  by_cases hr : 64 ≤ mtu ∧ mtu ≤ 1400
  · obtain ⟨r1, r2⟩ := hr
    by_cases hm : (fitR us).may = 0
    · have hfin : ∀ x : Bool, x = decide (((bRnd (fitR us)).size : Int) ≤ mtu - 40) → x = fits us mtu := by
        rintro x rfl
        simp [fits, hm, r1, r2]
      have Hfin := Lib.hid hfin
      have Hm := Lib.hid hm
      clear hfin hm
      go_enter Tryd.func136, Tryd.ntmps136
      go_wp2_with fail
      refine (ref07May_any (fitR us) A c _ (h.alloc _)).mono ?_
      rintro e w1 ⟨rfl, hb1⟩
      rw [Hm.out]
      obtain ⟨c1, f1, q1⟩ := ((Blk.new w 38 _).below hb1).rules
      go_wp2_with fail
      refine (rRnd_any (fitR us) Hm.out A c _ ((h.alloc _).below hb1)).mono ?_
      rintro e w2 ⟨rfl, hb2⟩
      go_wp2
      go_ret
      exact ⟨ret_bool (Hfin.out _ rfl), below_then' (box_then hb1) hb2⟩
    · have hfin : fits us mtu = false := by simp [fits, hm]
      have Hfin := Lib.hid hfin
      have ht : ((fitR us).may == 0) = false := by simpa using hm
      clear hfin
      go_enter Tryd.func136, Tryd.ntmps136
      go_wp2_with fail
      refine (ref07May_any (fitR us) A c _ (h.alloc _)).mono ?_
      rintro e w1 ⟨rfl, hb1⟩
      obtain ⟨c1, f1, q1⟩ := ((Blk.new w 38 _).below hb1).rules
      go_wp2
      go_ret
      exact ⟨ret_bool Hfin.out.symm, box_then hb1⟩
  · have hfin : fits us mtu = false := by simp [fits]; intro _ a b; exact absurd ⟨a, b⟩ hr
    have Hfin := Lib.hid hfin
    clear hfin
    rcases (show mtu < 64 ∨ 1400 < mtu by omega) with hx | hx
    all_goals
      clear hr
      go_enter Tryd.func136, Tryd.ntmps136
      go_wp2
      go_ret
      exact ⟨ret_bool Hfin.out.symm, (Below.refl _ _).alloc (Nat.le_refl _) _⟩

end Go.Proofs.YthdnoljmiehegaaDoor
