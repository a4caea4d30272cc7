/- WHAT IS PROVED HERE: the references' bounds on what is played (Great, GreatAll), and that equal rounds, lists of rounds and lists of frames are told the same. -/
import Derived.Test.YthdnoljmiehegaaDoorVal2
set_option linter.unusedVariables false
set_option linter.unusedSimpArgs false
namespace Go.Proofs.YthdnoljmiehegaaDoor
open Go.RowKit

def Upd.great (u : Upd) : Bool := decide (100 < (u.key.size : Int) ∨ 1200 < (u.s.size : Int))
def greatUs (l : List Upd) : Bool := decide (200 < (l.length : Int)) || l.any Upd.great
def Rnd.great (r : Rnd) : Bool := decide (20 < (r.us.length : Int)) || greatUs r.us
def greatRs (l : List Rnd) : Bool := decide (40 < (l.length : Int)) || l.any Rnd.great

theorem any_drop {α : Type} (f : α → Bool) (l : List α) (k : Nat) (h : k < l.length) : (l.drop k).any f = (f l[k] || (l.drop (k+1)).any f) := by
  rw [List.drop_eq_getElem_cons h]; rfl

theorem great_any (u : Upd) (w : World) :
    Calls Tryd.prog 79 #[.agg #[.string u.key, .int .i64 u.kind, .int .i64 u.n, .string u.s]] w fun e w' => e = .returned (.bool u.great) ∧ Below w.heap.size w w' := by
  obtain ⟨key, kind, n, s⟩ := u
  go_enter Tryd.func79, Tryd.ntmps79
  go_wp2
  all_goals
    go_ret
    refine ⟨ret_bool ?_, (Below.refl _ _).alloc (Nat.le_refl _) _⟩
    go_light
    simp_all [Upd.great]
    try omega

set_option maxHeartbeats 400000 in
theorem greatUs_any (us : List Upd) (A : Option Addr) (c : Nat) (w : World) (h : SL KU anyB w A c us) :
    Calls Tryd.prog 129 #[.slice A us.length c] w fun e w' => e = .returned (.bool (greatUs us)) ∧ Below w.heap.size w w' := by
  have hlen : us.length ≤ 9223372036854775807 := by have := h.1; have := h.2.1; simp only [maxLen] at *; omega
  by_cases hg : 200 < (us.length : Int)
  · have hfin : greatUs us = true := by simp [greatUs, hg]
    have Hfin := Lib.hid hfin
    clear hfin
    go_enter Tryd.func129, Tryd.ntmps129
    go_wp2
    go_ret
    exact ⟨ret_bool Hfin.out.symm, Below.refl _ _⟩
  · have hfin : greatUs us = us.any Upd.great := by simp [greatUs]; omega
    have Hfin := Lib.hid hfin
    clear hfin
    go_enter Tryd.func129, Tryd.ntmps129
    go_wp2
    go_loopw [3] (fun i wr => ∃ k : Nat, k ≤ us.length ∧ i = .int .i64 k ∧ Hid (us.any Upd.great = (us.drop k).any Upd.great) ∧ Below w.heap.size w wr) (fun i _ => us.length - (intOf i).toNat)
    case atStart => exact ⟨0, Nat.zero_le _, rfl, rfl, Below.refl _ _⟩
    case round =>
      obtain ⟨k, hk, rfl, hm, hb⟩ := hrel
      by_cases hlt : k < us.length
      · obtain ⟨b, off, rfl, _, hbw, d0, d1, d2, d3⟩ := (h.below hb).upd k hlt
        generalize hu : us[k] = u at d0 d1 d2 d3
        have Hu := Lib.hid hu
        clear hu
        rcases hm0 : u.great with _ | _
        all_goals
          have Hm0 := Lib.hid hm0
          clear hm0
        · go_wp2_with (go_at_call 79; refine (great_any _ _).mono ?_; rintro e w1 ⟨rfl, hb1⟩; rw [Hm0.out])
          go_roundw
          case rel =>
            refine ⟨k + 1, by omega, by go_num, ?_, below_then' hb hb1⟩
            show us.any Upd.great = _
            rw [hm.out, any_drop _ _ _ hlt, Hu.out, Hm0.out]; rfl
          case measure => simp [intOf]; omega
        · go_wp2_with (go_at_call 79; refine (great_any _ _).mono ?_; rintro e w1 ⟨rfl, hb1⟩; rw [Hm0.out])
          go_ret
          refine ⟨ret_bool ?_, below_then' hb hb1⟩
          rw [Hfin.out, hm.out, any_drop _ _ _ hlt, Hu.out, Hm0.out]; rfl
      · go_wp2
        go_ret
        refine ⟨ret_bool ?_, hb⟩
        rw [Hfin.out, hm.out, List.drop_eq_nil_of_le (by omega)]; rfl

theorem greatR_any (r : Rnd) (A : Option Addr) (c : Nat) (w : World) (h : SL KU anyB w A c r.us) :
    Calls Tryd.prog 70 #[.agg #[.int .i64 r.o, .int .i64 r.n, .slice A r.us.length c]] w fun e w' => e = .returned (.bool r.great) ∧ Below w.heap.size w w' := by
  obtain ⟨o, n, us⟩ := r
  by_cases hg : 20 < (us.length : Int)
  · have hfin : (Rnd.mk o n us).great = true := by simp [Rnd.great, hg]
    have Hfin := Lib.hid hfin
    clear hfin
    go_enter Tryd.func70, Tryd.ntmps70
    go_wp2
    go_ret
    exact ⟨ret_bool Hfin.out.symm, (Below.refl _ _).alloc (Nat.le_refl _) _⟩
  · have hfin : (Rnd.mk o n us).great = greatUs us := by simp [Rnd.great]; omega
    have Hfin := Lib.hid hfin
    clear hfin
    go_enter Tryd.func70, Tryd.ntmps70
    go_wp2_with (go_at_call 129; refine (greatUs_any us A c _ (h.alloc _)).mono ?_; rintro e w1 ⟨rfl, hb1⟩)
    go_ret
    exact ⟨ret_bool Hfin.out.symm, box_then hb1⟩

set_option maxHeartbeats 400000 in
theorem greatRs_any (rs : List Rnd) (A : Option Addr) (c : Nat) (w : World) (h : SL KR anyB w A c rs) :
    Calls Tryd.prog 49 #[.slice A rs.length c] w fun e w' => e = .returned (.bool (greatRs rs)) ∧ Below w.heap.size w w' := by
  have hlen : rs.length ≤ 9223372036854775807 := by have := h.1; have := h.2.1; simp only [maxLen] at *; omega
  by_cases hg : 40 < (rs.length : Int)
  · have hfin : greatRs rs = true := by simp [greatRs, hg]
    have Hfin := Lib.hid hfin
    clear hfin
    go_enter Tryd.func49, Tryd.ntmps49
    go_wp2
    go_ret
    exact ⟨ret_bool Hfin.out.symm, Below.refl _ _⟩
  · have hfin : greatRs rs = rs.any Rnd.great := by simp [greatRs]; omega
    have Hfin := Lib.hid hfin
    clear hfin
    go_enter Tryd.func49, Tryd.ntmps49
    go_wp2
    go_loopw [3] (fun i wr => ∃ k : Nat, k ≤ rs.length ∧ i = .int .i64 k ∧ Hid (rs.any Rnd.great = (rs.drop k).any Rnd.great) ∧ Below w.heap.size w wr) (fun i _ => rs.length - (intOf i).toNat)
    case atStart => exact ⟨0, Nat.zero_le _, rfl, rfl, Below.refl _ _⟩
    case round =>
      obtain ⟨k, hk, rfl, hm, hb⟩ := hrel
      by_cases hlt : k < rs.length
      · obtain ⟨b, off, A', c', rfl, _, hbw, d0, d1, d2, hsl⟩ := (h.below hb).rnd k hlt
        generalize hu : rs[k] = r at d0 d1 d2 hsl
        have Hu := Lib.hid hu
        clear hu
        rcases hm0 : r.great with _ | _
        all_goals
          have Hm0 := Lib.hid hm0
          clear hm0
        · go_wp2_with (go_at_call 70; refine (greatR_any r A' c' _ hsl).mono ?_; rintro e w1 ⟨rfl, hb1⟩; rw [Hm0.out])
          go_roundw
          case rel =>
            refine ⟨k + 1, by omega, by go_num, ?_, below_then' hb hb1⟩
            show rs.any Rnd.great = _
            rw [hm.out, any_drop _ _ _ hlt, Hu.out, Hm0.out]; rfl
          case measure => simp [intOf]; omega
        · go_wp2_with (go_at_call 70; refine (greatR_any r A' c' _ hsl).mono ?_; rintro e w1 ⟨rfl, hb1⟩; rw [Hm0.out])
          go_ret
          refine ⟨ret_bool ?_, below_then' hb hb1⟩
          rw [Hfin.out, hm.out, any_drop _ _ _ hlt, Hu.out, Hm0.out]; rfl
      · go_wp2
        go_ret
        refine ⟨ret_bool ?_, hb⟩
        rw [Hfin.out, hm.out, List.drop_eq_nil_of_le (by omega)]; rfl

def Frm.may (f : Frm) : Int :=
  if f.epoch < 1 ∨ 1099511627776 < f.epoch ∨ f.seq < 0 ∨ 1125899906842624 < f.seq ∨ f.ack < 0 ∨ 1125899906842624 < f.ack then 1
  else if f.seq = 0 ∧ f.data.toList.isEmpty = false then 13 else 0
set_option maxHeartbeats 400000 in
theorem frmMay_any (f : Frm) (w : World) :
    Calls Tryd.prog 95 #[.agg #[.int .i64 f.epoch, .int .i64 f.seq, .int .i64 f.ack, .string f.data]] w fun e w' => e = .returned (.int .i64 f.may) ∧ Below w.heap.size w w' := by
  obtain ⟨ep, sq, ak, d⟩ := f
  go_enter Tryd.func95, Tryd.ntmps95
  go_wp2
  all_goals
    go_ret
    refine ⟨ret_int ?_, (Below.refl _ _).alloc (Nat.le_refl _) _⟩
    go_light
    simp (config := { failIfUnchanged := false }) only [Frm.may, List.isEmpty_iff, Bool.not_eq_true', beq_iff_eq, bne_iff_ne, ne_eq, beq_eq_false_iff_ne, List.isEmpty_eq_false_iff, Bool.not_eq_false'] at *
    (repeat' split) <;> (first | omega | (simp_all; done) | (simp_all; omega))

end Go.Proofs.YthdnoljmiehegaaDoor
