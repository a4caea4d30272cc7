/- WHAT IS PROVED HERE: the program's link: made, and an offer. -/
import Derived.Test.YthdnoljmiehegaaDoorLnk
set_option linter.unusedVariables false
set_option linter.unusedSimpArgs false
namespace Go.Proofs.YthdnoljmiehegaaDoor
open Go.RowKit

set_option maxHeartbeats 1000000 in
theorem lnkNew_any (epoch window room : Int) (passive : Bool) (w : World) :
    Calls Tryd.prog 32 #[.int .i64 epoch, .int .i64 window, .int .i64 room, .bool passive] w fun e w' => ∃ p F, e = .returned (ptr p) ∧ w.heap.size ≤ p ∧ IsLnk w' p F (LS.anew window room passive epoch) ∧ (∀ b, F b → w.heap.size ≤ b) ∧ Below w.heap.size w w' := by
  go_enter Tryd.func32, Tryd.ntmps32
  go_wp2_with (go_at_call 91; refine (lnkBegin_any w.heap.size window room epoch passive _ _ _ _ (Blk.new w 156 _)).mono ?_; rintro e w1 ⟨rfl, F', hl, hst⟩)
  go_ret
  refine ⟨w.heap.size, F', rfl, Nat.le_refl _, hl, fun b hb => ?_, ?_⟩
  · rcases hst.upg b hb with rfl | h
    · exact Nat.le_refl _
    · simp at h; omega
  · exact ((Below.refl _ _).alloc (Nat.le_refl _) _).trans (hst.mod.to_below (by simp) fun i hi => Nat.le_of_eq hi.symm)

set_option maxHeartbeats 1000000 in
theorem lnkOffer_any (p : Nat) (F : Nat → Prop) (l : LS) (d : ByteArray) (w : World) (h : IsLnk w p F l) (hl : l.s.all.length ≤ 100000) :
    Calls Tryd.prog 98 #[ptr p, .string d] w fun e w' => e = .returned (.int .i64 l.s.err) ∧ ∃ F', IsLnk w' p F' (l.offer d) ∧ Step F w F' w' := by
  obtain ⟨ps, Fs, pr, Fr, hg, h1, h2, h3, h4, h5, hF⟩ := h
  unfold ptr at *
  have Hg := Lib.hid hg
  obtain ⟨c0, f0, z0⟩ := hg.rules
  clear hg
  go_enter Tryd.func98, Tryd.ntmps98
  go_wp2_with (go_at_call 153; refine (sndOffer_any ps Fs l.s d _ h1 hl).mono ?_; rintro e w1 ⟨⟨n, rfl⟩, Fs', hs', hst⟩)
  go_ret
  refine ⟨rfl, ?_⟩
  exact IsLnk.snd Hg.out h2 h3 h4 h5 hF hs' hst

theorem info74 : (Tryd.prog.info? 74).map (fun i => (i.zero, i.size, i.bytes)) = some (some (.agg #[.int .i64 0, .int .i64 0, .int .i64 0, .string ByteArray.empty]), 4, 40) := by kernel_rfl
def frs (epoch ack : Int) (l : List Pc) : List Frm := l.map fun p => ⟨epoch, p.seq, ack, p.data⟩
def LS.ps (l : LS) : List Pc := pcs l.s.acked (l.s.all.drop l.s.acked)
def LS.frames (l : LS) : List Frm := if l.epoch = 0 then [] else if l.ps.length = 0 then [⟨l.epoch, 0, l.r.n, ByteArray.empty⟩] else frs l.epoch l.r.n l.ps
theorem LS.ps_len {l : LS} (h : l.s.Ok) : l.ps.length ≤ 16 := by
  have := h.a1; have := h.a3; have := h.w2
  unfold LS.ps
  rw [pcs_len]
  omega

set_option maxRecDepth 100000 in
set_option maxHeartbeats 2000000 in
theorem lnkFrames_any (p : Nat) (F : Nat → Prop) (l : LS) (w : World) (h : IsLnk w p F l) :
    Calls Tryd.prog 47 #[ptr p] w fun e w' => (∃ A c, e = .returned (.slice A l.frames.length c) ∧ SL KF anyB w' A c l.frames) ∧ Below w.heap.size w w' := by
  obtain ⟨ps, Fs, pr, Fr, hg, h1, h2, h3, h4, h5, hF⟩ := h
  have hok := h1.choose_spec.choose_spec.2.2.1
  have hpl := LS.ps_len hok
  unfold ptr at *
  clear h3 h4 h5 hF
  by_cases e0 : l.epoch = 0
  · have hf : l.frames = [] := if_pos e0
    rw [hf]
    have ht : (l.epoch == 0) = true := by simpa using e0
    clear hf hpl h1 h2 hok e0
    obtain ⟨c0, f0, z0⟩ := hg.rules
    go_enter Tryd.func47, Tryd.ntmps47
    go_wp2
    go_ret
    exact ⟨⟨none, 0, rfl, SL.nil _ _ _⟩, Below.refl _ _⟩
  · have ht : (l.epoch == 0) = false := by simpa using e0
    have hfz : l.ps.length = 0 → l.frames = [⟨l.epoch, 0, l.r.n, ByteArray.empty⟩] := fun h => by unfold LS.frames; rw [if_neg e0, if_pos h]
    have hfn : l.ps.length ≠ 0 → l.frames = frs l.epoch l.r.n l.ps := fun h => by unfold LS.frames; rw [if_neg e0, if_neg h]
    have Hfz := Lib.hid hfz
    have Hfn := Lib.hid hfn
    have Hg := Lib.hid hg
    obtain ⟨c0, f0, z0⟩ := hg.rules
    clear hfz hfn hg hok e0
    generalize l.frames = out at *
    have hP : ∀ w0, IsSnd w0 ps Fs l.s → Calls Tryd.prog 109 #[.pointer (some ⟨ps, 0, none⟩)] w0 fun e w' => (∃ v, e = .returned v ∧ OwnL KP 182 (fun b => w0.heap.size ≤ b) w' v l.ps) ∧ Below w0.heap.size w0 w' := fun w0 h => sndPieces_any ps Fs l.s w0 h
    generalize l.ps = lp at *
    go_enter Tryd.func47, Tryd.ntmps47
    go_wp2_with (first
      | (go_at_call 108; refine (rcvAck_any pr Fr l.r _ h2).mono ?_; rintro e w1 ⟨rfl, rfl⟩)
      | (go_at_call 109; refine (hP _ h1).mono ?_; rintro e w1 ⟨⟨v, rfl, hown⟩, hb1⟩; obtain ⟨A, c, rfl, hsl⟩ := hown.sl))
    clear hown
    go_loopw [3, 25] (fun v i wr => ∃ k : Nat, ∃ A1 c1, k ≤ lp.length ∧ i = .int .i64 k ∧ v = .slice A1 k c1 ∧ OwnL KF 74 (newB w1) wr v ((frs l.epoch l.r.n lp).take k) ∧ Below w1.heap.size w1 wr) (fun _ i _ => lp.length - (intOf i).toNat)
    case atStart => exact ⟨0, none, 0, Nat.zero_le _, rfl, rfl, OwnL.nil _ _ _ _, Below.refl _ _⟩
    case round =>
      obtain ⟨k, A1, c1, hk, rfl, rfl, hown, hb⟩ := hrel
      have hbs := hb.size
      obtain ⟨c1', f1', z1'⟩ := ((Hg.out.below hb1).below hb).rules
      by_cases hlt : k < lp.length
      · obtain ⟨b, off, rfl, _, hbw, d0, d1⟩ := (hsl.below hb).pc k hlt
        have hfk : (frs l.epoch l.r.n lp).take k ++ [⟨l.epoch, lp[k].seq, l.r.n, lp[k].data⟩] = (frs l.epoch l.r.n lp).take (k + 1) := by
          rw [List.take_succ_eq_append_getElem (by simp [frs]; exact hlt)]
          simp [frs]
        have Hfk := Lib.hid hfk
        have hk2 : ((frs l.epoch l.r.n lp).take k).length = k := by simp [frs]; omega
        have Hown := Lib.hid hown
        have Hk2 := Lib.hid hk2
        clear hfk hown hk2
        generalize lp[k] = u at *
        generalize (frs l.epoch l.r.n lp).take k = fk at *
        have Hkp := Lib.hid (((Hg.out.below hb1).below hb).alloc (.cells #[.int .i64 u.seq, .string u.data] 182))
        go_wp2
        generalize hW : World.alloc wr _ = W at *
        have kb : Blk W wr.heap.size 182 #[.int .i64 u.seq, .string u.data] := by rw [← hW]; exact Blk.new _ _ _
        have OW : OwnL KF 74 (newB w1) W (.slice A1 k c1) fk := by rw [← hW]; exact Hown.out.alloc _
        have BW : Below w1.heap.size w1 W := by rw [← hW]; exact hb.alloc hbs _
        have HOW := Lib.hid OW
        have HBW := Lib.hid BW
        have hWs := BW.size
        clear hW hb OW BW d0 d1 c1' f1' z1'
        obtain ⟨c1', f1', z1'⟩ := Hkp.out.rules
        obtain ⟨c2', f2', z2'⟩ := kb.rules
        go_region_law (first
          | ((refine step_push KF _ (by rfl) _ _ _ (by rfl) 74 _ 40 Tryd.underlying84 info74 (by rfl) (by decide) (by decide) (newB w1) (.slice A1 k c1) fk (by rfl) ((HOW.out.drewN 1).alloc _) k Hk2.out W.heap.size ⟨l.epoch, u.seq, l.r.n, u.data⟩ 74 _ (by rfl) (Blk.new W.drew 74 _) rfl (by simp [newB]; omega) (by omega) ?_; intro A3 c3 w3 hown3 hg3 hat3)))
        all_goals
          go_wp2
          go_roundw
          case rel =>
            refine ⟨k + 1, A3, c3, by omega, by go_num, rfl, ?_, ?_⟩
            · rw [← Hfk.out]; exact hown3
            · exact ((below_drewN' HBW.out 1).alloc hWs _).grown hg3 (by simp; omega) (fun g hg => HOW.out.ok_ g hg)
          case measure => simp [intOf]; omega
      · obtain rfl : k = lp.length := by omega
        have hfl : (frs l.epoch l.r.n lp).take lp.length = frs l.epoch l.r.n lp := List.take_of_length_le (by simp [frs])
        rw [hfl] at hown
        have hfl2 : (frs l.epoch l.r.n lp).length = lp.length := by simp [frs]
        by_cases hz : lp.length = 0
        · have hout := Hfz.out hz
          obtain rfl := List.eq_nil_of_length_eq_zero hz
          simp only [frs, List.map_nil, List.length_nil] at hown
          have Hown := Lib.hid hown
          have hz2 : (((([] : List Pc).length : Nat) : Int) == 0) = true := rfl
          have HB := Lib.hid hb
          clear hown hfl hfl2 hz hlt hb
          go_wp2_with (at_builtin; refine wpList_push KF _ rfl _ _ _ rfl 74 _ 40 Tryd.underlying84 info74 rfl (by decide) (by decide) (newB w1) (.slice A1 0 c1) [] rfl (Hown.out.alloc _) 0 rfl wr.heap.size ⟨l.epoch, 0, l.r.n, ByteArray.empty⟩ 74 _ rfl (Blk.new wr 74 _) rfl (by simp [newB]; omega) (by omega) ?_; intro A3 c3 w3 hown3 hg3 hat3)
          go_ret
          refine ⟨⟨A3, c3, ?_, ?_⟩, below_then' hb1 ((HB.out.alloc hbs _).grown hg3 (by simp; omega) (fun g hg => Hown.out.ok_ g hg))⟩
          · rw [hout]; rfl
          · rw [hout]
            exact hown3.sl'.any
        · have hout := Hfn.out hz
          have hz2 : ((lp.length : Int) == 0) = false := by rw [beq_eq_false_iff_ne]; omega
          go_wp2
          go_ret
          refine ⟨⟨A1, c1, ?_, ?_⟩, below_then' hb1 hb⟩
          · rw [hout, hfl2]; rfl
          · rw [hout]
            rw [← hfl2] at hown
            exact hown.sl'.any

end Go.Proofs.YthdnoljmiehegaaDoor
