/- WHAT IS PROVED HERE: the reference's bytes of an update and of a round. -/
import Derived.Test.YthdnoljmiehegaaDoorRbyt
set_option linter.unusedVariables false
set_option linter.unusedSimpArgs false
namespace Go.Proofs.YthdnoljmiehegaaDoor
open Go.RowKit

set_option maxHeartbeats 1000000 in
theorem rUpd_any (u : Upd) (hm : u.may = 0) (w : World) :
    Calls Tryd.prog 149 #[.agg #[.string u.key, .int .i64 u.kind, .int .i64 u.n, .string u.s]] w fun e w' => e = .returned (.string (bUpd u)) ∧ Below w.heap.size w w' := by
  obtain ⟨h1, h2, h3, h4, h5, h6, h7⟩ := may_sizes hm
  clear hm
  obtain ⟨key, kind, n, s⟩ := u
  simp only at h1 h2 h3 h4 h5 h6 h7
  have z1 := bText_size key
  have z2 := bText_size s
  rcases (show kind = 1 ∨ kind = 2 ∨ kind = 3 ∨ kind = 4 ∨ kind = 5 by omega) with rfl | rfl | rfl | rfl | rfl
  all_goals
    have y := bNum_size
    have y1 := y 1
    have y2 := y 2
    have y3 := y 3
    have y4 := y 4
    have y5 := y 5
    have y6 := y (zig n)
    clear y
    go_enter Tryd.func149, Tryd.ntmps149
  · go_wp2_with fail
    refine (rNum_any 1 (by omega) (by omega) _).mono ?_
    rintro e w1 ⟨rfl, hb1⟩
    obtain ⟨c1, f1, q1⟩ := ((Blk.new w 46 _).below hb1).rules
    have k1 := (Blk.new w 46 _).below hb1
    go_wp2_with fail
    refine (rText_any key (by omega) _).mono ?_
    rintro e w2 ⟨rfl, hb2⟩
    clear c1 f1
    obtain ⟨c1, f1, q2⟩ := (k1.below hb2).rules
    have k2 := k1.below hb2
    have hB := below_then' (box_then hb1) hb2
    go_wp2_with fail
    refine (rSigned_any n h6 h7 _).mono ?_
    rintro e w3 ⟨rfl, hb3⟩
    clear c1 f1
    obtain ⟨c1, f1, q3⟩ := (k2.below hb3).rules
    go_wp2
    go_ret
    exact ⟨rfl, below_then' hB hb3⟩
  · go_wp2_with fail
    refine (rNum_any 2 (by omega) (by omega) _).mono ?_
    rintro e w1 ⟨rfl, hb1⟩
    obtain ⟨c1, f1, q1⟩ := ((Blk.new w 46 _).below hb1).rules
    have k1 := (Blk.new w 46 _).below hb1
    go_wp2_with fail
    refine (rText_any key (by omega) _).mono ?_
    rintro e w2 ⟨rfl, hb2⟩
    clear c1 f1
    obtain ⟨c1, f1, q2⟩ := (k1.below hb2).rules
    have k2 := k1.below hb2
    have hB := below_then' (box_then hb1) hb2
    go_wp2_with fail
    refine (rText_any s (by omega) _).mono ?_
    rintro e w3 ⟨rfl, hb3⟩
    clear c1 f1
    obtain ⟨c1, f1, q3⟩ := (k2.below hb3).rules
    go_wp2
    go_ret
    exact ⟨rfl, below_then' hB hb3⟩
  · go_wp2_with fail
    refine (rNum_any 3 (by omega) (by omega) _).mono ?_
    rintro e w1 ⟨rfl, hb1⟩
    obtain ⟨c1, f1, q1⟩ := ((Blk.new w 46 _).below hb1).rules
    have k1 := (Blk.new w 46 _).below hb1
    go_wp2_with fail
    refine (rText_any key (by omega) _).mono ?_
    rintro e w2 ⟨rfl, hb2⟩
    clear c1 f1
    obtain ⟨c1, f1, q2⟩ := (k1.below hb2).rules
    have k2 := k1.below hb2
    have hB := below_then' (box_then hb1) hb2
    go_wp2_with fail
    refine (rSigned_any n h6 h7 _).mono ?_
    rintro e w3 ⟨rfl, hb3⟩
    clear c1 f1
    obtain ⟨c1, f1, q3⟩ := (k2.below hb3).rules
    go_wp2
    go_ret
    exact ⟨rfl, below_then' hB hb3⟩
  · go_wp2_with fail
    refine (rNum_any 4 (by omega) (by omega) _).mono ?_
    rintro e w1 ⟨rfl, hb1⟩
    obtain ⟨c1, f1, q1⟩ := ((Blk.new w 46 _).below hb1).rules
    have k1 := (Blk.new w 46 _).below hb1
    go_wp2_with fail
    refine (rText_any key (by omega) _).mono ?_
    rintro e w2 ⟨rfl, hb2⟩
    clear c1 f1
    obtain ⟨c1, f1, q2⟩ := (k1.below hb2).rules
    have k2 := k1.below hb2
    have hB := below_then' (box_then hb1) hb2
    go_wp2_with fail
    refine (rText_any s (by omega) _).mono ?_
    rintro e w3 ⟨rfl, hb3⟩
    clear c1 f1
    obtain ⟨c1, f1, q3⟩ := (k2.below hb3).rules
    go_wp2
    go_ret
    exact ⟨rfl, below_then' hB hb3⟩
  · go_wp2_with fail
    refine (rNum_any 5 (by omega) (by omega) _).mono ?_
    rintro e w1 ⟨rfl, hb1⟩
    obtain ⟨c1, f1, q1⟩ := ((Blk.new w 46 _).below hb1).rules
    have k1 := (Blk.new w 46 _).below hb1
    go_wp2_with fail
    refine (rText_any key (by omega) _).mono ?_
    rintro e w2 ⟨rfl, hb2⟩
    clear c1 f1
    obtain ⟨c1, f1, q2⟩ := (k1.below hb2).rules
    have k2 := k1.below hb2
    have hB := below_then' (box_then hb1) hb2
    go_wp2
    go_ret
    exact ⟨rfl, hB⟩

set_option maxHeartbeats 1000000 in
theorem rRnd_any (r : Rnd) (hm : r.may = 0) (A : Option Addr) (c : Nat) (w : World) (h : SL KU anyB w A c r.us) :
    Calls Tryd.prog 94 #[.agg #[.int .i64 r.o, .int .i64 r.n, .slice A r.us.length c]] w fun e w' => e = .returned (.string (bRnd r)) ∧ Below w.heap.size w w' := by
  obtain ⟨o, n, us⟩ := r
  unfold Rnd.may at hm
  split at hm
  · rename_i hg
    simp only [inB, decide_eq_true_eq] at hg
    obtain ⟨⟨g1, g1'⟩, ⟨g2, g2'⟩, g3, g3'⟩ := hg
    have Hm := Lib.hid (mayAll_mem hm)
    clear hm
    have y1 := bNum_size o
    have y2 := bNum_size n
    have y3 := bNum_size us.length
    go_enter Tryd.func94, Tryd.ntmps94
    go_wp2_with fail
    refine (rNum_any o (by omega) (by omega) _).mono ?_
    rintro e w1 ⟨rfl, hb1⟩
    obtain ⟨c1, f1, q1⟩ := ((Blk.new w 38 _).below hb1).rules
    have k1 := (Blk.new w 38 _).below hb1
    go_wp2_with fail
    refine (rNum_any n (by omega) (by omega) _).mono ?_
    rintro e w2 ⟨rfl, hb2⟩
    clear c1 f1
    obtain ⟨c1, f1, q2⟩ := (k1.below hb2).rules
    have k2 := k1.below hb2
    go_wp2_with fail
    refine (rNum_any us.length (by omega) (by omega) _).mono ?_
    rintro e w3 ⟨rfl, hb3⟩
    clear c1 f1
    obtain ⟨c1, f1, q3⟩ := (k2.below hb3).rules
    have k3 := k2.below hb3
    have hB := below_then' (below_then' (box_then hb1) hb2) hb3
    go_wp2
    clear c1 f1
    have q0 : w.heap.size < w3.heap.size := k3.lt
    go_loopw [9, 10] (fun v i wr => ∃ k : Nat, k ≤ us.length ∧ i = .int .i64 k ∧ v = .string (bNum o ++ bNum n ++ bNum us.length ++ bUpds (us.take k)) ∧ Blk wr w.heap.size 38 #[.int .i64 o, .int .i64 n, .slice A us.length c] ∧ Below w.heap.size w wr) (fun _ i _ => us.length - (intOf i).toNat)
    case atStart => exact ⟨0, Nat.zero_le _, rfl, by simp [bUpds], k3, hB⟩
    case round =>
      obtain ⟨k, hk, rfl, rfl, kr, hb⟩ := hrel
      obtain ⟨c1, f1, q4⟩ := kr.rules
      by_cases hlt : k < us.length
      · obtain ⟨b, off, rfl, _, hbw, d0, d1, d2, d3⟩ := (h.below hb).upd k hlt
        have hu := Hm.out us[k] (List.getElem_mem hlt)
        have hsz := bUpds_size (l := us.take k) (fun v hv => Hm.out v (List.mem_of_mem_take hv))
        have hsz2 := bUpd_size hu
        rw [List.length_take] at hsz
        have hsz3 : (bNum o ++ bNum n ++ bNum us.length ++ bUpds (us.take k)).size ≤ 1000 := by simp only [ByteArray.size_append]; omega
        have hfin : bNum o ++ bNum n ++ bNum us.length ++ bUpds (us.take k) ++ bUpd us[k] = bNum o ++ bNum n ++ bNum us.length ++ bUpds (us.take (k + 1)) := by
          rw [List.take_succ_eq_append_getElem hlt, bUpds_append]; simp [bUpds, ByteArray.append_assoc]
        have Hfin := Lib.hid hfin
        clear hfin hsz
        generalize us[k] = u at *
        generalize bNum o ++ bNum n ++ bNum us.length ++ bUpds (us.take k) = acc at *
        go_wp2_with (go_at_call 149; refine (rUpd_any u hu _).mono ?_; rintro e w4 ⟨rfl, hb4⟩)
        go_roundw
        case rel => exact ⟨k + 1, by omega, by go_num, by rw [← Hfin.out], kr.below hb4, below_then' hb hb4⟩
        case measure => simp [intOf]; omega
      · obtain rfl : k = us.length := by omega
        go_wp2
        go_ret
        refine ⟨ret_str ?_, hb⟩
        simp [bRnd]
  · cases hm

end Go.Proofs.YthdnoljmiehegaaDoor
