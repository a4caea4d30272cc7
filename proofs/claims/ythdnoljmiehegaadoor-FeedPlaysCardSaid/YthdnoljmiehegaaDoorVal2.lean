/- WHAT IS PROVED HERE: may a round be, is a round great: the program's and the references' functions over a round's updates. -/
import Derived.Test.YthdnoljmiehegaaDoorVals
set_option linter.unusedVariables false
set_option linter.unusedSimpArgs false
namespace Go.Proofs.YthdnoljmiehegaaDoor
open Go.RowKit

def inB (a b c : Int) : Bool := decide (b ≤ a ∧ a ≤ c)
theorem in_any (a b c : Int) (w : World) : Calls Tryd.prog 155 #[.int .i64 a, .int .i64 b, .int .i64 c] w fun e w' => e = .returned (.bool (inB a b c)) ∧ w = w' := by
  go_enter Tryd.func155, Tryd.ntmps155
  go_wp2
  all_goals
    go_ret
    refine ⟨?_, rfl⟩
    go_light
    simp_all [inB]
    try omega

def mayAll : List Upd → Int
  | [] => 0
  | u :: l => if u.may = 0 then mayAll l else u.may
def Rnd.may (r : Rnd) : Int :=
  if inB r.o 1 64 = true ∧ inB r.n 1 1099511627776 = true ∧ inB r.us.length 1 8 = true then mayAll r.us else 1

theorem mayAll_drop (l : List Upd) (k : Nat) (h : k < l.length) : mayAll (l.drop k) = if l[k].may = 0 then mayAll (l.drop (k+1)) else l[k].may := by
  rw [List.drop_eq_getElem_cons h]; rfl

set_option maxHeartbeats 400000 in
theorem roundMay_any (r : Rnd) (A : Option Addr) (c : Nat) (w : World) (h : SL KU anyB w A c r.us) :
    Calls Tryd.prog 104 #[.agg #[.int .i64 r.o, .int .i64 r.n, .slice A r.us.length c]] w fun e w' => e = .returned (.int .i64 r.may) ∧ Below w.heap.size w w' := by
  obtain ⟨o, n, us⟩ := r
  have hlen : us.length ≤ 9223372036854775807 := by have := h.1; have := h.2.1; simp only [maxLen] at *; omega
  by_cases hg : inB o 1 64 = true ∧ inB n 1 1099511627776 = true ∧ inB us.length 1 8 = true
  · have hfin : (Rnd.mk o n us).may = mayAll us := by simp only [Rnd.may]; rw [if_pos hg]
    obtain ⟨g1, g2, g3⟩ := hg
    have Hfin := Lib.hid hfin
    clear hfin
    go_enter Tryd.func104, Tryd.ntmps104
    go_wp2_with (go_at_call 155; refine (in_any _ _ _ _).mono ?_; rintro e w' ⟨rfl, rfl⟩)
    go_loopw [26] (fun i wr => ∃ k : Nat, k ≤ us.length ∧ i = .int .i64 k ∧ Hid (mayAll us = mayAll (us.drop k)) ∧ Below w.heap.size w wr) (fun i _ => us.length - (intOf i).toNat)
    case atStart => exact ⟨0, Nat.zero_le _, rfl, rfl, (Below.refl _ _).alloc (Nat.le_refl _) _⟩
    case round =>
      obtain ⟨k, hk, rfl, hm, hb⟩ := hrel
      by_cases hlt : k < us.length
      · obtain ⟨b, off, rfl, _, hbw, d0, d1, d2, d3⟩ := (h.below hb).upd k hlt
        generalize hu : us[k] = u at d0 d1 d2 d3
        have Hu := Lib.hid hu
        clear hu
        have hbs := hb.size
        by_cases hm0 : u.may = 0
        all_goals
          first | (have ht : (u.may != 0) = false := by simpa using hm0) | (have ht : (u.may != 0) = true := by simpa using hm0)
          go_wp2_with (go_at_call 125; refine (valueMay_any _ _).mono ?_; rintro e w1 ⟨rfl, hb1⟩)
        · go_roundw
          case rel =>
            refine ⟨k + 1, by omega, by go_num, ?_, below_then' hb (box_then hb1)⟩
            show mayAll us = _
            rw [hm.out, mayAll_drop _ _ hlt, Hu.out, if_pos hm0]
          case measure => simp [intOf]; omega
        · go_ret
          refine ⟨ret_int ?_, below_then' hb (box_then hb1)⟩
          rw [Hfin.out, hm.out, mayAll_drop _ _ hlt, Hu.out, if_neg hm0]
      · go_wp2
        go_ret
        refine ⟨ret_int ?_, hb⟩
        rw [Hfin.out, hm.out, List.drop_eq_nil_of_le (by omega)]; rfl
  · have hfin : (Rnd.mk o n us).may = 1 := by simp only [Rnd.may]; rw [if_neg hg]
    have Hfin := Lib.hid hfin
    have Hg := Lib.hid hg
    clear hfin hg
    go_enter Tryd.func104, Tryd.ntmps104
    go_wp2_with (go_at_call 155; refine (in_any _ _ _ _).mono ?_; rintro e w' ⟨rfl, rfl⟩)
    all_goals first
      | (go_ret
         refine ⟨ret_int ?_, (Below.refl _ _).alloc (Nat.le_refl _) _⟩
         rw [Hfin.out])
      | (exfalso; refine Hg.out ?_; go_light; simp_all)

set_option maxHeartbeats 1000000 in
theorem ref07May_any (r : Rnd) (A : Option Addr) (c : Nat) (w : World) (h : SL KU anyB w A c r.us) :
    Calls Tryd.prog 106 #[.agg #[.int .i64 r.o, .int .i64 r.n, .slice A r.us.length c]] w fun e w' => e = .returned (.int .i64 r.may) ∧ Below w.heap.size w w' := by
  obtain ⟨o, n, us⟩ := r
  have hlen : us.length ≤ 9223372036854775807 := by have := h.1; have := h.2.1; simp only [maxLen] at *; omega
  by_cases hg : inB o 1 64 = true ∧ inB n 1 1099511627776 = true ∧ inB us.length 1 8 = true
  · have hfin : (Rnd.mk o n us).may = mayAll us := by simp only [Rnd.may]; rw [if_pos hg]
    simp only [inB, decide_eq_true_eq] at hg
    obtain ⟨⟨g1, g1'⟩, ⟨g2, g2'⟩, g3, g3'⟩ := hg
    have Hfin := Lib.hid hfin
    clear hfin
    go_enter Tryd.func106, Tryd.ntmps106
    go_wp2
    go_loopw [4] (fun i wr => ∃ k : Nat, k ≤ us.length ∧ i = .int .i64 k ∧ Hid (mayAll us = mayAll (us.drop k)) ∧ Below (w.heap.size + 1) (w.alloc (.cells #[.int .i64 o, .int .i64 n, .slice A us.length c] 38)) wr) (fun i _ => us.length - (intOf i).toNat)
    case atStart => exact ⟨0, Nat.zero_le _, rfl, rfl, Below.refl _ _⟩
    case round =>
      obtain ⟨k, hk, rfl, hm, hb⟩ := hrel
      have hbx : wr.cell? ⟨w.heap.size, 2, none⟩ = some (.slice A us.length c) := (hb.cell (p := ⟨w.heap.size, 2, none⟩) (by simp)).trans (by simp)
      have hbs := hb.size
      simp only [World.size_alloc] at hbs
      have hb0 : Below w.heap.size w wr := ((Below.refl _ _).alloc (Nat.le_refl _) _).trans (hb.mono (by omega))
      by_cases hlt : k < us.length
      · obtain ⟨b, off, rfl, _, hbw, d0, d1, d2, d3⟩ := (h.below hb0).upd k hlt
        generalize hu : us[k] = u at d0 d1 d2 d3
        have Hu := Lib.hid hu
        clear hu
        by_cases hm0 : u.may = 0
        all_goals
          first | (have ht : (u.may != 0) = false := by simpa using hm0) | (have ht : (u.may != 0) = true := by simpa using hm0)
          go_wp2_with (go_at_call 135; refine (refMay_any _ _).mono ?_; rintro e w1 ⟨rfl, hb1⟩)
        · go_roundw
          case rel =>
            refine ⟨k + 1, by omega, by go_num, ?_, hb.trans (hb1.mono (by omega))⟩
            show mayAll us = _
            rw [hm.out, mayAll_drop _ _ hlt, Hu.out, if_pos hm0]
          case measure => simp [intOf]; omega
        · go_ret
          refine ⟨ret_int ?_, below_then' hb0 hb1⟩
          rw [Hfin.out, hm.out, mayAll_drop _ _ hlt, Hu.out, if_neg hm0]
      · go_wp2
        go_ret
        refine ⟨ret_int ?_, hb0⟩
        rw [Hfin.out, hm.out, List.drop_eq_nil_of_le (by omega)]; rfl
  · have hfin : (Rnd.mk o n us).may = 1 := by simp only [Rnd.may]; rw [if_neg hg]
    have Hfin := Lib.hid hfin
    have Hg := Lib.hid hg
    clear hfin hg
    go_enter Tryd.func106, Tryd.ntmps106
    go_wp2
    all_goals first
      | (go_ret
         refine ⟨ret_int ?_, (Below.refl _ _).alloc (Nat.le_refl _) _⟩
         rw [Hfin.out])
      | (exfalso; refine Hg.out ?_; go_light; simp_all [inB]; done)
      | (exfalso; refine Hg.out ?_; go_light; simp only [inB, decide_eq_true_eq]; omega)

end Go.Proofs.YthdnoljmiehegaaDoor
