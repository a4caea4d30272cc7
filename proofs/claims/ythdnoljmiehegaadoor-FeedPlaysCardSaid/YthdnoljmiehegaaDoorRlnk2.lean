/- WHAT IS PROVED HERE: the reference's link tells the frames that the link as data tells. -/
import Derived.Test.YthdnoljmiehegaaDoorRlnk
import Derived.Deep.RegionHeld3
set_option linter.unusedVariables false
set_option linter.unusedSimpArgs false
namespace Go.Proofs.YthdnoljmiehegaaDoor
open Go.RowKit

theorem grown_cell {w w' : World} {row : Option Nat} (h : w.grownBy w' row) {b o : Nat} (hp : b < w.heap.size) (hn : some b ≠ row) : w'.cell? ⟨b, o, none⟩ = w.cell? ⟨b, o, none⟩ := World.cell?_of_block (a := ⟨b, o, none⟩) (h.block b hp hn)

set_option maxRecDepth 100000 in
set_option maxHeartbeats 2000000 in
theorem rlnkFrames_any (p : Nat) (F : Nat → Prop) (l : LS) (w : World) (h : IsRLnk w p F l) (hlen : l.s.all.length ≤ 100000) :
    Calls Tryd.prog 48 #[ptr p] w fun e w' => (∃ A c, e = .returned (.slice A l.frames.length c) ∧ SL KF anyB w' A c l.frames) ∧ Below w.heap.size w w' := by
  obtain ⟨ps, Fs, pr, Fr, hg, h1, h2, h3, h4, h5, hF⟩ := h
  obtain ⟨As, cs, hgs, _, hok, _⟩ := h1
  have h1' := Lib.hid (show IsRSnd w ps Fs l.s from ⟨As, cs, hgs, by assumption, hok, by assumption⟩)
  obtain ⟨Ar, cr, lr, hgr, _, hlr, hokr, _⟩ := h2
  have n1 := hokr.n1
  have r2 := hokr.r2
  have a1 := hok.a1
  have hpl := LS.ps_len hok
  unfold RlCells ptr at hg
  unfold ptr
  clear h3 h4 h5 hF
  by_cases e0 : l.epoch = 0
  · have hf : l.frames = [] := if_pos e0
    rw [hf]
    have ht : (l.epoch == 0) = true := by simpa using e0
    clear hf hpl hok e0
    obtain ⟨c0, f0, z0⟩ := hg.rules
    go_enter Tryd.func48, Tryd.ntmps48
    go_wp2
    go_ret
    exact ⟨⟨_, 0, rfl, SL.empty _ _ _ _ _ (Nat.zero_le _)⟩, (Below.refl _ _).alloc (Nat.le_refl _) _⟩
  · have ht : (l.epoch == 0) = false := by simpa using e0
    have hfz : l.ps.length = 0 → l.frames = [⟨l.epoch, 0, l.r.n, ByteArray.empty⟩] := fun h => by unfold LS.frames; rw [if_neg e0, if_pos h]
    have hfn : l.ps.length ≠ 0 → l.frames = frs l.epoch l.r.n l.ps := fun h => by unfold LS.frames; rw [if_neg e0, if_neg h]
    have hrl : l.s.all.length - l.s.acked = l.ps.length := by unfold LS.ps; rw [pcs_len]
    have hget : ∀ k (h : k < l.ps.length) (h' : k < (l.s.all.drop l.s.acked).length), l.ps[k] = ⟨(l.s.acked : Int) + k + 1, (l.s.all.drop l.s.acked)[k]⟩ := fun k h h' => pcs_get (l.s.all.drop l.s.acked) l.s.acked k h
    have hdl : (l.s.all.drop l.s.acked).length = l.ps.length := by rw [List.length_drop]; exact hrl
    have Hfz := Lib.hid hfz
    have Hfn := Lib.hid hfn
    have Hg := Lib.hid hg
    have Hgs := Lib.hid hgs
    have Hgr := Lib.hid hgr
    have Hget := Lib.hid hget
    have Hdl := Lib.hid hdl
    have hP : ∀ w0, IsRSnd w0 ps Fs l.s → Calls Tryd.prog 110 #[.pointer (some ⟨ps, 0, none⟩)] w0 fun e w' => (∃ A c, e = .returned (.slice A l.ps.length c) ∧ SL KS (newB w0) w' A c (l.s.all.drop l.s.acked)) ∧ Below w0.heap.size w0 w' := by
      intro w0 h
      have := rsndLeft_any ps Fs l.s w0 h hlen
      rwa [hrl] at this
    have HP := Lib.hid hP
    obtain ⟨c0, f0, z0⟩ := hg.rules
    have hz0 := hg.lt
    have hz1 := hgs.lt
    have hz2 := hgr.lt
    clear hfz hfn hg hok hokr e0 hgs hgr hget hdl hP hrl hlr
    generalize l.frames = out at *
    generalize l.ps = lp at *
    generalize l.s.all.drop l.s.acked = rest at *
    go_enter Tryd.func48, Tryd.ntmps48
    go_wp2_with (go_at_call 110; refine (HP.out _ ?_).mono ?_; exact h1'.out.below ((Below.refl _ _).alloc (Nat.le_refl _) _); rintro e w1 ⟨⟨A, c, rfl, hsl⟩, hb1⟩)
    have hb0 : Below w.heap.size w w1 := ((Below.refl _ _).alloc (Nat.le_refl _) (.cells #[] 74)).trans (hb1.mono (by simp))
    have hw1 : w.heap.size + 1 ≤ w1.heap.size := by have := hb1.size; simpa using this
    have he1 : OwnL KF 74 (fun b => b = w.heap.size ∨ w1.heap.size ≤ b) w1 (.slice (some ⟨w.heap.size, 0, none⟩) 0 0) [] := (OwnL.empty (ok := fun b => b = w.heap.size ∨ w1.heap.size ≤ b) KF 74 w (.inl rfl)).below hb1
    go_loopw [3, 5] (fun v i wr => ∃ k : Nat, ∃ A1 c1, k ≤ lp.length ∧ i = .int .i64 k ∧ v = .slice A1 k c1 ∧ OwnL KF 74 (fun b => b = w.heap.size ∨ w1.heap.size ≤ b) wr v ((frs l.epoch l.r.n lp).take k) ∧ Mod (fun b => b = w.heap.size) w1 wr) (fun _ i _ => lp.length - (intOf i).toNat)
    case atStart => exact ⟨0, _, 0, Nat.zero_le _, rfl, rfl, he1, Mod.refl _ _⟩
    case round =>
      obtain ⟨k, A1, c1, hk, rfl, rfl, hown, hm⟩ := hrel
      have hbs := hm.size
      have kp := (Hg.out.below hb0).mod hm (by omega)
      have ks := (Hgs.out.below hb0).mod hm (by omega)
      have kr := (Hgr.out.below hb0).mod hm (by omega)
      have HM := Lib.hid hm
      clear c0 f0 z0
      by_cases hlt : k < lp.length
      · have hlt2 : k < rest.length := by rw [Hdl.out]; exact hlt
        obtain ⟨b, off, rfl, hbn, hbw, d0'⟩ := hsl.str k hlt2
        simp only [newB, World.size_alloc] at hbn
        have d0 := (hm.cell (p := ⟨b, off + k, none⟩) hbw (by show ¬ b = w.heap.size; omega)).trans d0'
        clear d0'
        have hfk : (frs l.epoch l.r.n lp).take k ++ [⟨l.epoch, (l.s.acked : Int) + k + 1, l.r.n, rest[k]⟩] = (frs l.epoch l.r.n lp).take (k + 1) := by
          rw [List.take_succ_eq_append_getElem (by simp [frs]; exact hlt)]
          simp [frs, Hget.out k hlt hlt2]
        have hk2 : ((frs l.epoch l.r.n lp).take k).length = k := by simp [frs]; omega
        have Hfk := Lib.hid hfk
        have Hown := Lib.hid hown
        have Hk2 := Lib.hid hk2
        have Hne : Hid (∀ b', b' ≠ w.heap.size → b' < w1.heap.size → some b' ≠ (Value.slice A1 k c1).ownBlock) := Lib.hid fun b' h1 h2 e => by rcases hown.ok_ _ e.symm with q | q <;> omega
        have hab : (l.s.acked : Int) ≤ 100000 := by omega
        have hwr1 : IntKind.i64.wrap ((l.s.acked : Int) + k) = (l.s.acked : Int) + k := by rw [IntKind.wrap_i64]; omega
        have hwr2 : IntKind.i64.wrap ((l.s.acked : Int) + k + 1) = (l.s.acked : Int) + k + 1 := by rw [IntKind.wrap_i64]; omega
        clear hfk hown hk2 hm
        generalize rest[k] = u at *
        generalize (frs l.epoch l.r.n lp).take k = fk at *
        obtain ⟨c0, f0, z0⟩ := kp.rules
        obtain ⟨c2, f2, z2⟩ := ks.rules
        obtain ⟨c3, f3, z3⟩ := kr.rules
        go_wp2
        go_region_held3 (fun w' => w'.cell? ⟨p, 0, none⟩ = some (.int .i64 l.epoch) ∧ w'.cell? ⟨p, 1, none⟩ = some (.pointer (some ⟨ps, 0, none⟩)) ∧ w'.cell? ⟨p, 2, none⟩ = some (.pointer (some ⟨pr, 0, none⟩)) ∧ w'.cell? ⟨ps, 3, none⟩ = some (.int .i64 l.s.acked) ∧ w'.cell? ⟨pr, 1, none⟩ = some (.slice Ar l.r.n cr) ∧ w'.cell? ⟨b, off + k, none⟩ = some (.string u)) (first | go_keep | (refine ⟨?_, ?_, ?_, ?_, ?_, ?_⟩ <;> (refine (grown_cell hg3 (by simp; omega) (Hne.out _ (by omega) (by omega))).trans ?_; simp [*])))
          (first
          | ((refine step_push KF _ (by rfl) _ _ _ (by rfl) 74 _ 40 Tryd.underlying84 info74 (by rfl) (by decide) (by decide) (fun b => b = w.heap.size ∨ w1.heap.size ≤ b) (.slice A1 k c1) fk (by rfl) ((Hown.out.drewN 1).alloc _) k Hk2.out wr.heap.size ⟨l.epoch, (l.s.acked : Int) + k + 1, l.r.n, u⟩ 74 _ (by rfl) (Blk.new wr.drew 74 _) rfl (.inr (by simp; omega)) (by omega) ?_; intro A3 c3 w3 hown3 hg3 hat3)))
        all_goals
          go_wp2
          go_roundw
          case rel =>
            refine ⟨k + 1, A3, c3, by omega, by go_num, rfl, ?_, ?_⟩
            · rw [← Hfk.out]; exact hown3
            · exact ((HM.out.drewN 1).alloc _).grown hg3 (fun g hg => Hown.out.ok_ g hg)
          case measure => simp [intOf]; omega
      · obtain rfl : k = lp.length := by omega
        have hfl : (frs l.epoch l.r.n lp).take lp.length = frs l.epoch l.r.n lp := List.take_of_length_le (by simp [frs])
        rw [hfl] at hown
        have hfl2 : (frs l.epoch l.r.n lp).length = lp.length := by simp [frs]
        have hbe : Below w.heap.size w wr := hb0.trans (hm.to_below (by omega) (fun i hi => Nat.le_of_eq hi.symm))
        have Hbe := Lib.hid hbe
        obtain ⟨c0, f0, z0⟩ := kp.rules
        obtain ⟨c3, f3, z3⟩ := kr.rules
        by_cases hz : lp.length = 0
        · have hout := Hfz.out hz
          obtain rfl := List.eq_nil_of_length_eq_zero hz
          simp only [frs, List.map_nil, List.length_nil] at hown
          have Hown := Lib.hid hown
          have HM := Lib.hid hm
          have Hne : Hid (∀ b', b' ≠ w.heap.size → b' < w1.heap.size → some b' ≠ (Value.slice A1 0 c1).ownBlock) := Lib.hid fun b' h1 h2 e => by rcases hown.ok_ _ e.symm with q | q <;> omega
          have hz2 : (((([] : List Pc).length : Nat) : Int) == 0) = true := rfl
          clear hown hfl hfl2 hz hlt hbe
          go_wp2
          go_region_held3 (fun w' => w'.cell? ⟨p, 0, none⟩ = some (.int .i64 l.epoch) ∧ w'.cell? ⟨p, 2, none⟩ = some (.pointer (some ⟨pr, 0, none⟩)) ∧ w'.cell? ⟨pr, 1, none⟩ = some (.slice Ar l.r.n cr)) (first | go_keep | (refine ⟨?_, ?_, ?_⟩ <;> (refine (grown_cell hg3 (by simp; omega) (Hne.out _ (by omega) (by omega))).trans ?_; simp [*])))
            (first
            | ((refine step_push KF _ (by rfl) _ _ _ (by rfl) 74 _ 40 Tryd.underlying84 info74 (by rfl) (by decide) (by decide) (fun b => b = w.heap.size ∨ w1.heap.size ≤ b) (.slice A1 0 c1) [] (by rfl) ((Hown.out.drewN 1).alloc _) 0 rfl wr.heap.size ⟨l.epoch, 0, l.r.n, ByteArray.empty⟩ 74 _ (by rfl) (Blk.new wr.drew 74 _) rfl (.inr (by simp; omega)) (by omega) ?_; intro A3 c3 w3 hown3 hg3 hat3)))
          all_goals
            go_wp2
            go_ret
            refine ⟨⟨A3, c3, ?_, ?_⟩, hb0.trans ((((HM.out.drewN 1).alloc _).grown hg3 (fun g hg => Hown.out.ok_ g hg)).to_below (by omega) (fun i hi => Nat.le_of_eq hi.symm))⟩
            · rw [hout]; rfl
            · rw [hout]
              exact hown3.sl'.any
        · have hout := Hfn.out hz
          have hz2 : ((lp.length : Int) == 0) = false := by rw [beq_eq_false_iff_ne]; omega
          go_wp2
          go_ret
          refine ⟨⟨A1, c1, ?_, ?_⟩, Hbe.out⟩
          · rw [hout, hfl2]; rfl
          · rw [hout]
            rw [← hfl2] at hown
            exact hown.sl'.any

end Go.Proofs.YthdnoljmiehegaaDoor
