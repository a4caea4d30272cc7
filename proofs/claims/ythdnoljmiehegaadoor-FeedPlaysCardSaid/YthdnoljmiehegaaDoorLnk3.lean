/- WHAT IS PROVED HERE: the program's link hears a frame. -/
import Derived.Test.YthdnoljmiehegaaDoorLnk2
set_option linter.unusedVariables false
set_option linter.unusedSimpArgs false
namespace Go.Proofs.YthdnoljmiehegaaDoor
open Go.RowKit

def Frm.val (f : Frm) : Value := .agg #[.int .i64 f.epoch, .int .i64 f.seq, .int .i64 f.ack, .string f.data]

set_option maxRecDepth 100000 in
set_option maxHeartbeats 4000000 in
theorem lnkHear_any (p : Nat) (F : Nat → Prop) (l : LS) (f : Frm) (w : World) (h : IsLnk w p F l) :
    Calls Tryd.prog 40 #[ptr p, f.val] w fun e w' => e = .returned (.bool (l.hears f)) ∧ ∃ F', IsLnk w' p F' (l.hear f) ∧ Step F w F' w' := by
  have hnG : ¬ F w.heap.size := fun q => Nat.lt_irrefl _ (h.lt _ q)
  have hself := Lib.hid h
  obtain ⟨ps, Fs, pr, Fr, hg, h1, h2, h3, h4, h5, hF⟩ := h
  have hpF : F p := (hF p).2 (.inl rfl)
  have hp := hg.lt
  have hg0 := hg.alloc (.cells #[.int .i64 f.epoch, .int .i64 f.seq, .int .i64 f.ack, .string f.data] 74)
  have kb0 := Blk.new w 74 #[.int .i64 f.epoch, .int .i64 f.seq, .int .i64 f.ack, .string f.data]
  have HG0 := Lib.hid hg0
  have KB0 := Lib.hid kb0
  obtain ⟨c0, f0, z0⟩ := hg0.rules
  obtain ⟨c1, f1, z1⟩ := kb0.rules
  have HnG := Lib.hid hnG
  clear hg h1 h2 h3 h4 h5 hF hg0 kb0 hnG
  unfold Frm.val
  unfold ptr at *
  rcases Int.lt_trichotomy f.epoch l.epoch with e1 | e1 | e1
  · have ha : decide (l.epoch < f.epoch) = false := by simp; omega
    have hb : decide (f.epoch < l.epoch) = true := by simp; omega
    have hr : (Ending.returned (.bool false) : Ending) = .returned (.bool (l.hears f)) := by simp [LS.hears, ha]
    have hx : l.hear f = l := by unfold LS.hear; rw [if_neg (by omega), if_neg (by omega)]
    have HR := Lib.hid hr
    have HX := Lib.hid hx
    clear hr hx e1
    go_enter Tryd.func40, Tryd.ntmps40
    go_wp2
    go_quiet (fail)
    go_wp2
    go_quiet (fail)
    go_wp2
    go_ret
    refine ⟨HR.out, F, ?_, ?_⟩
    · rw [HX.out]; exact hself.out.keep (by simp) fun b _ hl => Below.heap_alloc _ _ _ hl
    · exact Step.of_below (below_drewN' (below_drewN' ((Below.refl _ _).alloc (Nat.le_refl _) _) _) _)
  · have ha : decide (l.epoch < f.epoch) = false := by simp; omega
    have hb : decide (f.epoch < l.epoch) = false := by simp; omega
    have hr : (Ending.returned (.bool false) : Ending) = .returned (.bool (l.hears f)) := by simp [LS.hears, ha]
    have hx : l.hear f = (l.ack f).take f := by unfold LS.hear; rw [if_neg (by omega), if_pos (by omega)]
    have HR := Lib.hid hr
    have HX := Lib.hid hx
    clear hr hx e1
    go_enter Tryd.func40, Tryd.ntmps40
    go_wp2
    go_quiet (fail)
    go_wp2
    go_quiet (fail)
    go_wp2
    generalize hW : World.drewN _ _ = W1
    have hl1 : IsLnk W1 p F l := by rw [← hW]; exact hself.out.keep (by simp) fun b _ hl => Below.heap_alloc _ _ _ hl
    have hs1 : Step F w F W1 := by rw [← hW]; exact Step.of_below (below_drewN' (below_drewN' ((Below.refl _ _).alloc (Nat.le_refl _) _) _) _)
    have kb : Blk W1 w.heap.size 74 #[.int .i64 f.epoch, .int .i64 f.seq, .int .i64 f.ack, .string f.data] := by rw [← hW]; exact KB0.out
    have HL := Lib.hid hl1
    have HS := Lib.hid hs1
    have HG := HnG
    clear hW hl1 hs1 c0 f0 c1 f1
    obtain ⟨l1, hl1e⟩ : ∃ l1, l1 = l := ⟨_, rfl⟩
    have HX' : Hid (l.hear f = (l1.ack f).take f) := by rw [hl1e]; exact HX
    have HL' : Hid (IsLnk W1 p F l1) := by rw [hl1e]; exact HL
    clear hl1e HX HL
    have HX := HX'
    have HL := HL'
    clear HX' HL'
    obtain ⟨ps, Fs, pr, Fr, hg1, h1, h2, h3, h4, h5, hF1⟩ := HL.out
    have hnS : ¬ Fs w.heap.size := fun q => HG.out ((hF1 _).2 (.inr (.inl q)))
    have Hg1 := Lib.hid hg1
    have Kb := Lib.hid kb
    have HF1 := Lib.hid hF1
    have H1 := Lib.hid h1
    have H2 := Lib.hid h2
    obtain ⟨c2, f2, z2⟩ := hg1.rules
    obtain ⟨c3, f3, z3⟩ := kb.rules
    clear hg1 kb hF1 h1 h2
    go_region_with (first
      | (go_at_call 100; refine (sndAck_any ps Fs l1.s f.ack _ ?_).mono ?_; exact H1.out.keep (Nat.le_refl _) fun _ _ _ => rfl; rintro e w2 ⟨⟨n, rfl⟩, Fs', hs', hst2⟩))
    all_goals
      obtain ⟨F2, hl2, hs2⟩ := IsLnk.snd (l := l1) (w := W1.drewN _) Hg1.out (H2.out.keep fun _ _ _ => rfl) h3 h4 h5 HF1.out hs' hst2
      have kb2 := Blk.mod (w := W1.drewN _) Kb.out hst2.mod hnS
      have hG2 : ¬ F2 w.heap.size := fun q => (hs2.upg _ q).elim HG.out fun q => by have := Kb.out.lt; simp at q; omega
      have hst3 : Step F w F2 w2 := HS.out.trans ((Step.of_below (below_drewN' (Below.refl _ _) _)).trans hs2)
      clear Hg1 H2 HF1 hs' hst2 hs2 c2 f2 c3 f3 Kb h3 h4 h5 HL HS H1 hnS
      obtain ⟨ps2, Fs2, pr2, Fr2, hg1, h1, h2, h3, h4, h5, hF1⟩ := hl2
      have Hg1 := Lib.hid hg1
      have H2 := Lib.hid h2
      have HS := Lib.hid hst3
      have hl2 : IsLnk w2 p F2 (l1.ack f) := ⟨ps2, Fs2, pr2, Fr2, hg1, h1, h2, h3, h4, h5, hF1⟩
      have HL := Lib.hid hl2
      have HF1 := Lib.hid hF1
      have H1 := Lib.hid h1
      obtain ⟨c2, f2, z2'⟩ := hg1.rules
      obtain ⟨c3, f3, z3'⟩ := kb2.rules
      clear hg1 h2 hst3 hl2 hF1 h1 kb2
      by_cases hq : f.seq = 0
      · have hq2 : (f.seq != 0) = false := by simp [hq]
        have ht : (l1.ack f).take f = l1.ack f := by
          unfold LS.take RS.hear
          rw [if_neg (by omega)]
        have Ht := Lib.hid ht
        clear hq ht
        go_wp2
        go_ret
        refine ⟨HR.out, F2, ?_, HS.out⟩
        rw [HX.out, Ht.out]
        exact HL.out
      · have hq2 : (f.seq != 0) = true := by simp [hq]
        clear hq
        go_wp2
        go_region_with (first
          | (go_at_call 101; refine (rcvHear_any pr2 Fr2 (l1.ack f).r f.seq f.data _ ?_).mono ?_; exact H2.out.keep fun _ _ _ => rfl; rintro e w3 ⟨⟨n2, rfl⟩, Fr', hr', hst4⟩))
        all_goals
          go_wp2
          go_ret
          obtain ⟨F3, hl3, hs3⟩ := IsLnk.rcv (l := l1.ack f) (w := w2.drewN _) Hg1.out (H1.out.keep (Nat.le_refl _) fun _ _ _ => rfl) h3 h4 h5 HF1.out hr' hst4
          refine ⟨HR.out, F3, ?_, HS.out.trans ((Step.of_below (below_drewN' (Below.refl _ _) _)).trans hs3)⟩
          rw [HX.out]
          exact hl3
  · have ha : decide (l.epoch < f.epoch) = true := by simp; omega
    have hb : decide (f.epoch < l.epoch) = false := by simp; omega
    cases hpa : l.passive with
    | false =>
      have hr : (Ending.returned (.bool false) : Ending) = .returned (.bool (l.hears f)) := by simp [LS.hears, hpa]
      have hx : l.hear f = l := by unfold LS.hear; rw [if_pos (by omega), if_neg (by simp [hpa])]
      have HR := Lib.hid hr
      have HX := Lib.hid hx
      clear hr hx e1
      rw [hpa] at c0
      go_enter Tryd.func40, Tryd.ntmps40
      go_wp2
      go_quiet (fail)
      go_wp2
      go_quiet (fail)
      go_wp2
      go_ret
      refine ⟨HR.out, F, ?_, ?_⟩
      · rw [HX.out]; exact hself.out.keep (by simp) fun b _ hl => Below.heap_alloc _ _ _ hl
      · exact Step.of_below (below_drewN' (below_drewN' ((Below.refl _ _).alloc (Nat.le_refl _) _) _) _)
    | true =>
      have hr : (Ending.returned (.bool true) : Ending) = .returned (.bool (l.hears f)) := by simp [LS.hears, hpa, ha]
      have hx : l.hear f = ((l.begin f.epoch).ack f).take f := by unfold LS.hear; rw [if_pos (by omega), if_pos hpa]
      have HR := Lib.hid hr
      have HX := Lib.hid hx
      clear hr hx e1
      rw [hpa] at c0
      have HPA := Lib.hid hpa
      clear hpa
      go_enter Tryd.func40, Tryd.ntmps40
      go_wp2
      go_quiet (fail)
      go_wp2
      go_quiet (fail)
      go_wp2_with (go_at_call 91; refine (lnkBegin_any p l.window l.room f.epoch l.passive (.pointer (some ⟨ps, 0, none⟩)) (.pointer (some ⟨pr, 0, none⟩)) (.int .i64 l.epoch) _ ?_).mono ?_; exact HG0.out; rintro e W1 ⟨rfl, F1, hl1, hst1⟩)
      have HL : Hid (IsLnk W1 p F1 (l.begin f.epoch)) := Lib.hid hl1
      have HG : Hid (¬ F1 w.heap.size) := Lib.hid fun q => (hst1.upg _ q).elim (fun e => by omega) (fun q => by simp at q; omega)
      have kb : Blk W1 w.heap.size 74 #[.int .i64 f.epoch, .int .i64 f.seq, .int .i64 f.ack, .string f.data] := Blk.mod (w := (w.alloc _).drewN _) KB0.out hst1.mod (by omega)
      have HS : Hid (Step F w F1 W1) := Lib.hid ((Step.of_below (below_drewN' ((Below.refl _ _).alloc (Nat.le_refl _) _) _)).trans (hst1.sub (F := F) (fun b hb => by have e : b = p := hb; rw [e]; exact hpF) (fun b hb => .inr hb)))
      generalize l.begin f.epoch = l1 at HX HL
      clear hl1 hst1 c0 f0 c1 f1
      obtain ⟨ps, Fs, pr, Fr, hg1, h1, h2, h3, h4, h5, hF1⟩ := HL.out
      have hnS : ¬ Fs w.heap.size := fun q => HG.out ((hF1 _).2 (.inr (.inl q)))
      have Hg1 := Lib.hid hg1
      have Kb := Lib.hid kb
      have HF1 := Lib.hid hF1
      have H1 := Lib.hid h1
      have H2 := Lib.hid h2
      obtain ⟨c2, f2, z2⟩ := hg1.rules
      obtain ⟨c3, f3, z3⟩ := kb.rules
      clear hg1 kb hF1 h1 h2
      go_region_with (first
        | (go_at_call 100; refine (sndAck_any ps Fs l1.s f.ack _ ?_).mono ?_; exact H1.out.keep (Nat.le_refl _) fun _ _ _ => rfl; rintro e w2 ⟨⟨n, rfl⟩, Fs', hs', hst2⟩))
      all_goals
        obtain ⟨F2, hl2, hs2⟩ := IsLnk.snd (l := l1) (w := W1.drewN _) Hg1.out (H2.out.keep fun _ _ _ => rfl) h3 h4 h5 HF1.out hs' hst2
        have kb2 := Blk.mod (w := W1.drewN _) Kb.out hst2.mod hnS
        have hG2 : ¬ F2 w.heap.size := fun q => (hs2.upg _ q).elim HG.out fun q => by have := Kb.out.lt; simp at q; omega
        have hst3 : Step F w F2 w2 := HS.out.trans ((Step.of_below (below_drewN' (Below.refl _ _) _)).trans hs2)
        clear Hg1 H2 HF1 hs' hst2 hs2 c2 f2 c3 f3 Kb h3 h4 h5 HL HS H1 hnS
        obtain ⟨ps2, Fs2, pr2, Fr2, hg1, h1, h2, h3, h4, h5, hF1⟩ := hl2
        have Hg1 := Lib.hid hg1
        have H2 := Lib.hid h2
        have HS := Lib.hid hst3
        have hl2 : IsLnk w2 p F2 (l1.ack f) := ⟨ps2, Fs2, pr2, Fr2, hg1, h1, h2, h3, h4, h5, hF1⟩
        have HL := Lib.hid hl2
        have HF1 := Lib.hid hF1
        have H1 := Lib.hid h1
        obtain ⟨c2, f2, z2'⟩ := hg1.rules
        obtain ⟨c3, f3, z3'⟩ := kb2.rules
        clear hg1 h2 hst3 hl2 hF1 h1 kb2
        by_cases hq : f.seq = 0
        · have hq2 : (f.seq != 0) = false := by simp [hq]
          have ht : (l1.ack f).take f = l1.ack f := by
            unfold LS.take RS.hear
            rw [if_neg (by omega)]
          have Ht := Lib.hid ht
          clear hq ht
          go_wp2
          go_ret
          refine ⟨HR.out, F2, ?_, HS.out⟩
          rw [HX.out, Ht.out]
          exact HL.out
        · have hq2 : (f.seq != 0) = true := by simp [hq]
          clear hq
          go_wp2
          go_region_with (first
            | (go_at_call 101; refine (rcvHear_any pr2 Fr2 (l1.ack f).r f.seq f.data _ ?_).mono ?_; exact H2.out.keep fun _ _ _ => rfl; rintro e w3 ⟨⟨n2, rfl⟩, Fr', hr', hst4⟩))
          all_goals
            go_wp2
            go_ret
            obtain ⟨F3, hl3, hs3⟩ := IsLnk.rcv (l := l1.ack f) (w := w2.drewN _) Hg1.out (H1.out.keep (Nat.le_refl _) fun _ _ _ => rfl) h3 h4 h5 HF1.out hr' hst4
            refine ⟨HR.out, F3, ?_, HS.out.trans ((Step.of_below (below_drewN' (Below.refl _ _) _)).trans hs3)⟩
            rw [HX.out]
            exact hl3


end Go.Proofs.YthdnoljmiehegaaDoor
