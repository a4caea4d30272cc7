/- WHAT IS PROVED HERE: round.Put tells a round's bytes. -/
import Derived.Test.YthdnoljmiehegaaDoorWri3
set_option linter.unusedVariables false
set_option linter.unusedSimpArgs false
namespace Go.Proofs.YthdnoljmiehegaaDoor
open Go.RowKit

set_option maxHeartbeats 1600000 in
set_option maxRecDepth 100000 in
theorem string_any (g : Nat) (q : Option Nat) (w : World) (bs : ByteArray) (B : Nat) (h : IsW w g q bs) (h0 : 1 ≤ bs.size) (hB : ∀ b, q = some b → B ≤ b) :
    Calls Tryd.prog 173 #[.pointer (some ⟨g, 0, none⟩)] w fun e w' => e = .returned (.string bs) ∧ Below B w w' := by
  obtain ⟨p, v, hg, hp, hown, rfl⟩ := h
  clear hp
  have hlen : bs.data.toList.length = bs.size := by rw [Array.length_toList]; rfl
  obtain ⟨b, cap, cur, rfl, _, hh, hnc, hcm, hcs, htake⟩ : ∃ b cap cur, v = .slice (some ⟨b, 0, none⟩) bs.size cap ∧ 0 ≤ b ∧ w.heap[b]? = some (.cells cur 5 (0, 0)) ∧ bs.size ≤ cap ∧ cap ≤ maxLen ∧ cur.size = cap * 1 ∧ cur.toList.take (bs.size * 1) = Lib.strCells bs := by
    rcases hown.2 with ⟨_, hz⟩ | ⟨b, cap, cur, hv, r⟩
    · omega
    · exact ⟨b, cap, cur, hv, r⟩
  have hSD : (Builtin.unsafeSliceData_ #[120] 275 #[.slice (some ⟨b, 0, none⟩) bs.size cap]).run Tryd.prog w.drew = .ok (.pointer (some ⟨b, 0, none⟩)) w.drew :=
    Lib.run_unsafeSliceData_row _ _ _ _ _ _ (by omega)
  have hUS : (Builtin.unsafeString_ #[275, 3] 9 #[.pointer (some ⟨b, 0, none⟩), .int .i64 bs.size]).run Tryd.prog w.drew = .ok (.string bs) (w.drew.freeze ⟨b, 0, none⟩ bs.size) := by
    have := Lib.run_unsafeString_row (P := Tryd.prog) w.drew 275 3 9 5 Tryd.underlying275 (by kernel_rfl) b cur.size (by have hg' : w.drew.heap[b]? = some (.cells cur 5 (0, 0)) := hh; simp [World.shape?, hg']) bs.data.toList (by intro e; rw [e] at hlen; simp at hlen; omega) (by omega) (by unfold maxLen at hcm; omega) (fun j x hx => hown.cells (g := b) rfl j (.int .u8 x.toNat) (by simp [Lib.strCells, hx]))
    rw [hlen] at this
    simpa using this
  obtain ⟨c0, f0, z0⟩ := hg.rules
  clear hg hown hh htake
  go_enter Tryd.func173, Tryd.ntmps173
  go_wp2
  go_region
  all_goals (go_wp2; go_ret; exact ⟨rfl, Lib.below_freeze (Below.drew (Below.refl B w)) (p := ⟨b, 0, none⟩) (hB b rfl) _⟩)

theorem bytesW_any (g : Nat) (q : Option Nat) (w : World) (bs : ByteArray) (B : Nat) (h : IsW w g q bs) (h0 : 1 ≤ bs.size) (hB : ∀ b, q = some b → B ≤ b) :
    Calls Tryd.prog 152 #[.pointer (some ⟨g, 0, none⟩)] w fun e w' => e = .returned (.tuple #[.string bs, .int .i64 0]) ∧ Below B w w' := by
  obtain ⟨p, v, c0, f0, z0⟩ := h.rules
  go_enter Tryd.func152, Tryd.ntmps152
  go_wp2_with (go_at_call 173; refine (string_any g q _ bs B h h0 hB).mono ?_; rintro e w1 ⟨rfl, hb1⟩)
  go_ret2
  exact ⟨rfl, hb1⟩

theorem Wrote.behind {w w' : World} {g : Nat} {q : Option Nat} {bs : ByteArray} (h : Wrote w w' g q bs) (hg : g ≤ w.heap.size) (hq : ∀ b, q = some b → g ≤ b) :
    ∃ q', IsW w' g q' bs ∧ (∀ b, q' = some b → g ≤ b) ∧ Below g w w' := by
  obtain ⟨q', h1, h2, h3⟩ := h
  refine ⟨q', h1, fun b hb => (h3 b hb).elim (hq b) (fun k => by omega), h2.to_below hg ?_⟩
  rintro i (rfl | hi)
  · exact Nat.le_refl _
  · exact hq i hi
theorem pfx_len (n : Int) : 1 ≤ (pfx n).length := by unfold pfx; (repeat' split) <;> simp
theorem bNum_pos (n : Int) : 1 ≤ (bNum n).size := by unfold bNum; rw [strOfNums_size]; exact pfx_len n

set_option maxHeartbeats 1600000 in
theorem putBad_any (r : Rnd) (hm : r.may ≠ 0) (A : Option Addr) (c : Nat) (w : World) (h : SL KU anyB w A c r.us) :
    Calls Tryd.prog 97 #[.agg #[.int .i64 r.o, .int .i64 r.n, .slice A r.us.length c]] w fun e w' => e = .returned (.tuple #[.string ByteArray.empty, .int .i64 r.may]) ∧ Below w.heap.size w w' := by
  have ht : (r.may != 0) = true := by simpa using hm
  clear hm
  go_enter Tryd.func97, Tryd.ntmps97
  go_wp2_with (go_at_call 104; refine (roundMay_any r A c _ (h.alloc _)).mono ?_; rintro e w1 ⟨rfl, hb1⟩)
  go_ret2
  exact ⟨rfl, box_then hb1⟩

set_option maxHeartbeats 1600000 in
theorem roundPut_any (r : Rnd) (hm : r.may = 0) (A : Option Addr) (c : Nat) (w : World) (h : SL KU anyB w A c r.us) (hG : Bits w) :
    Calls Tryd.prog 97 #[.agg #[.int .i64 r.o, .int .i64 r.n, .slice A r.us.length c]] w fun e w' => e = .returned (.tuple #[.string (bRnd r), .int .i64 0]) ∧ Below w.heap.size w w' := by
  obtain ⟨o, n, us⟩ := r
  have Hm0 := Lib.hid hm
  unfold Rnd.may at hm
  split at hm
  · rename_i hg
    simp only [inB, decide_eq_true_eq] at hg
    obtain ⟨⟨g1, g1'⟩, ⟨g2, g2'⟩, g3, g3'⟩ := hg
    have Hm := Lib.hid (mayAll_mem hm)
    clear hm
    have y1 := bNum_size o
    have y2 := bNum_size n
    have y3 := bNum_size us.length
    have y4 := bNum_pos o
    go_enter Tryd.func97, Tryd.ntmps97
    go_wp2_with (go_at_call 104; refine (roundMay_any ⟨o, n, us⟩ A c _ (h.alloc _)).mono ?_; rintro e w1 ⟨rfl, hb1⟩; rw [Hm0.out]; obtain ⟨c1, f1, q1⟩ := ((Blk.new w 38 _).below hb1).rules)
    have k1 := (Blk.new w 38 _).below hb1
    have hG1 := (hG.alloc _).below hb1
    have hB1 := box_then hb1
    have hg0 := hG1.pos
    refine (numW_any w1.heap.size none _ ByteArray.empty o (IsW.new w1) (by omega) (by omega) (by simp) (hG1.alloc _)).mono ?_
    rintro e w2 ⟨rfl, hw2⟩
    obtain ⟨q2, hw2, hq2, hb2⟩ := hw2.behind (by simp) (by simp)
    have hB2 : Below w1.heap.size w1 w2 := ((Below.refl _ _).alloc (Nat.le_refl _) _).trans hb2
    have k2 := k1.below hB2
    have hG2 := hG1.below hB2
    clear c1 f1
    obtain ⟨c1, f1, z2⟩ := k2.rules
    go_wp2_with fail
    refine (numW_any w1.heap.size q2 _ _ n hw2 (by omega) (by omega) (by simp only [ByteArray.size_append, ByteArray.size_empty]; omega) hG2).mono ?_
    rintro e w3 ⟨rfl, hw3⟩
    obtain ⟨q3, hw3, hq3, hb3⟩ := hw3.behind hB2.size hq2
    have hB3 := hB2.trans hb3
    have k3 := k1.below hB3
    have hG3 := hG1.below hB3
    clear c1 f1
    obtain ⟨c1, f1, z3⟩ := k3.rules
    go_wp2_with fail
    refine (numW_any w1.heap.size q3 _ _ us.length hw3 (by omega) (by omega) (by simp only [ByteArray.size_append, ByteArray.size_empty]; omega) hG3).mono ?_
    rintro e w4 ⟨rfl, hw4⟩
    obtain ⟨q4, hw4, hq4, hb4⟩ := hw4.behind hB3.size hq3
    have hB4 := hB3.trans hb4
    have k4 := k1.below hB4
    have hG4 := hG1.below hB4
    clear c1 f1
    obtain ⟨c1, f1, z4⟩ := k4.rules
    go_wp2
    clear c1 f1
    go_loopw [26] (fun i wr => ∃ k : Nat, ∃ q, k ≤ us.length ∧ i = .int .i64 k ∧ IsW wr w1.heap.size q (bNum o ++ bNum n ++ bNum us.length ++ bUpds (us.take k)) ∧ (∀ b, q = some b → w1.heap.size ≤ b) ∧ Below w1.heap.size w1 wr) (fun i _ => us.length - (intOf i).toNat)
    case atStart => exact ⟨0, q4, Nat.zero_le _, rfl, by simpa [bUpds] using hw4, hq4, hB4⟩
    case round =>
      obtain ⟨k, q, hk, rfl, hw, hq, hb⟩ := hrel
      have hGr := hG1.below hb
      have Hq := Lib.hid hq
      clear hq
      by_cases hlt : k < us.length
      · obtain ⟨b, off, rfl, _, hbw, d0, d1, d2, d3⟩ := ((h.below hB1).below hb).upd k hlt
        have hu := Hm.out us[k] (List.getElem_mem hlt)
        have hsz := bUpds_size (l := us.take k) (fun v hv => Hm.out v (List.mem_of_mem_take hv))
        rw [List.length_take] at hsz
        have hsz3 : (bNum o ++ bNum n ++ bNum us.length ++ bUpds (us.take k)).size ≤ 1000 := by simp only [ByteArray.size_append]; omega
        have hfin : bNum o ++ bNum n ++ bNum us.length ++ bUpds (us.take k) ++ bUpd us[k] = bNum o ++ bNum n ++ bNum us.length ++ bUpds (us.take (k + 1)) := by
          rw [List.take_succ_eq_append_getElem hlt, bUpds_append]; simp [bUpds, ByteArray.append_assoc]
        have Hfin := Lib.hid hfin
        clear hfin hsz
        generalize us[k] = u at *
        generalize bNum o ++ bNum n ++ bNum us.length ++ bUpds (us.take k) = acc at *
        have hbs := hb.size
        have hPos : Pos w1.heap.size q := ⟨hg0, fun b hb => by have := Hq.out b hb; omega⟩
        go_wp2_with (go_at_call 151; refine (writeU_any w1.heap.size q _ acc u hu (hw.alloc _) (by omega) (hGr.alloc _) hPos).mono ?_; rintro e w5 ⟨rfl, hw5⟩)
        obtain ⟨q5, hw5, hq5, hb5⟩ := hw5.behind (by simp; omega) Hq.out
        go_roundw
        case rel => exact ⟨k + 1, q5, by omega, by go_num, by rw [← Hfin.out]; exact hw5, hq5, hb.trans (((Below.refl _ _).alloc hbs _).trans hb5)⟩
        case measure => simp [intOf]; omega
      · obtain rfl : k = us.length := by omega
        rw [List.take_length] at hw
        go_wp2_with (go_at_call 152; refine (bytesW_any w1.heap.size q _ _ w1.heap.size hw (by simp only [ByteArray.size_append]; omega) Hq.out).mono ?_; rintro e w6 ⟨rfl, hb6⟩)
        go_ret2
        exact ⟨by rfl, below_then' hB1 (hb.trans hb6)⟩
  · cases hm

end Go.Proofs.YthdnoljmiehegaaDoor
