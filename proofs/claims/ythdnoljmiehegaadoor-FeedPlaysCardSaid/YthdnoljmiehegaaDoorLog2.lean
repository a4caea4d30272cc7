/- WHAT IS PROVED HERE: the program's log takes a round. -/
import Derived.Test.YthdnoljmiehegaaDoorLog
import Derived.Deep.RegionLaw
set_option linter.unusedVariables false
set_option linter.unusedSimpArgs false
namespace Go.Proofs.YthdnoljmiehegaaDoor
open Go.RowKit

theorem OwnL.belowD {α : Type} {K : Kind α} {e : TypeId} {ok : Nat → Prop} {W W' w1 : World} {v : Value} {l : List α} (h : OwnL K e ok W v l) (hb : Below W'.heap.size W' w1) (he : W'.heap = W.heap := by rfl) : OwnL K e ok w1 v l :=
  h.keep (by rw [← he]; exact hb.size) fun b _ hl => by rw [hb.block b (by rw [he]; exact hl), he]
theorem Blk.belowE {W W' w1 : World} {g : Nat} {t : TypeId} {cs : Array Value} (h : Blk W g t cs) (hb : Below W'.heap.size W' w1) (e : W'.heap = W.heap := by rfl) : Blk w1 g t cs :=
  Blk.below (w := W') (show W'.heap[g]? = _ by rw [e]; exact h) hb

set_option maxRecDepth 100000 in
set_option maxHeartbeats 1000000 in
theorem logAdd_any (p : Nat) (F : Nat → Prop) (g : Lg) (r : Rnd) (A : Option Addr) (c : Nat) (w : World) (h : IsLog w p F g) (hsl : SL KU (fun b => ¬ F b) w A c r.us) (hl : g.l.length ≤ 100000) :
    Calls Tryd.prog 43 #[.pointer (some ⟨p, 0, none⟩), .agg #[.int .i64 r.o, .int .i64 r.n, .slice A r.us.length c]] w fun e w' => e = .returned (.int .i64 (g.err r)) ∧ ∃ F', IsLog w' p F' (g.add r) ∧ Step F w F' w' := by
  have hkeep : ∀ w', Below w.heap.size w w' → g.err r ≠ 0 → ∃ F', IsLog w' p F' (g.add r) ∧ Step F w F' w' := by
    intro w' hb he
    have : g.add r = g := if_neg he
    rw [this]
    exact ⟨F, h.below hb, Step.of_below hb⟩
  by_cases hm : r.may = 0
  · obtain ⟨o1, o2, n1, n2, u1, u2, _⟩ := Rnd.may_parts hm
    obtain ⟨ro, rn, us⟩ := r
    simp only at o1 o2 n1 n2 u1 u2 hsl
    obtain ⟨o, rfl⟩ : ∃ o : Nat, ro = o := ⟨ro.toNat, by omega⟩
    have hself := Lib.hid h
    obtain ⟨A1, c1, cs, hg, ⟨k1, k2, k3, k4⟩, hown, hok, hp, hF⟩ := h
    have q2 := hok.c2
    have hsl0 := hsl.alloc (.cells #[.int .i64 o, .int .i64 rn, .slice A us.length c] 38)
    have hg0 := hg.alloc (.cells #[.int .i64 o, .int .i64 rn, .slice A us.length c] 38)
    have kb0 := Blk.new w 38 #[.int .i64 o, .int .i64 rn, .slice A us.length c]
    have hcl := cnt_le o g.l
    have hk4 := k4 o (by omega)
    have hcs := Lib.hid (show cs.size = 67 ∧ cs[0]? = some (.int .i64 g.clients) ∧ ∀ o : Nat, o ≤ 64 → cs[2 + o]? = some (.int .i64 (cnt o g.l)) from ⟨k1, k2, k4⟩)
    have Hm := Lib.hid hm
    have Hsl0 := Lib.hid hsl0
    have hR : ∀ w0, SL KU anyB w0 A c us → Calls Tryd.prog 104 #[.agg #[.int .i64 (o : Int), .int .i64 rn, .slice A us.length c]] w0 fun e w' => e = .returned (.int .i64 0) ∧ Below w0.heap.size w0 w' := fun w0 hs => (roundMay_any ⟨o, rn, us⟩ A c w0 hs).mono fun e w' hh => ⟨by rw [hh.1, Hm.out], hh.2⟩
    by_cases e1 : g.clients < o
    · have he : g.err ⟨o, rn, us⟩ = 11 := by unfold Lg.err; rw [if_neg (by simp [hm]), if_pos e1]
      have ha : decide (g.clients < (o : Int)) = true := by simp [e1]
      have He := Lib.hid he
      have Hkeep := Lib.hid hkeep
      clear he hkeep e1 hm k1 hok hp hF hown hsl hsl0
      go_enter Tryd.func43, Tryd.ntmps43
      go_wp2_with (go_at_call 104; refine (hR _ ?_).mono ?_; exact Hsl0.out.any; rintro e w1 ⟨rfl, hb1⟩; have hg1 := hg0.below hb1; obtain ⟨cc, f5, z5⟩ := hg1.rules; have c20 := (cc 0).trans k2; have c21 := (cc (2 + o)).trans hk4; have c22 := (cc 1).trans k3; clear cc; obtain ⟨c6, f6, z6⟩ := (kb0.below hb1).rules)
      go_quiet (fail)
      go_wp2
      go_quiet (fail)
      go_wp2
      go_ret
      refine ⟨by rw [He.out]; rfl, Hkeep.out _ ?_ (by rw [He.out]; decide)⟩
      first
        | exact below_drewN' (((Below.refl _ _).alloc (Nat.le_refl _) _).trans (hb1.mono (by simp))) _
        | exact below_drewN' (below_drewN' (((Below.refl _ _).alloc (Nat.le_refl _) _).trans (hb1.mono (by simp))) _) _
    · have ha : decide (g.clients < (o : Int)) = false := by simp; omega
      by_cases e2 : rn < cnt o g.l + 1
      · have he : g.err ⟨o, rn, us⟩ = 12 := by unfold Lg.err; rw [if_neg (by simp [hm]), if_neg (by simpa using e1), if_pos e2]
        have ha2 : decide (rn < cnt o g.l + 1) = true := by simp [e2]
        have He := Lib.hid he
        have Hkeep := Lib.hid hkeep
        clear he hkeep e1 e2 hm k1 hok hp hF hown hsl hsl0
        go_enter Tryd.func43, Tryd.ntmps43
        go_wp2_with (go_at_call 104; refine (hR _ ?_).mono ?_; exact Hsl0.out.any; rintro e w1 ⟨rfl, hb1⟩; have hg1 := hg0.below hb1; obtain ⟨cc, f5, z5⟩ := hg1.rules; have c20 := (cc 0).trans k2; have c21 := (cc (2 + o)).trans hk4; have c22 := (cc 1).trans k3; clear cc; obtain ⟨c6, f6, z6⟩ := (kb0.below hb1).rules)
        go_quiet (fail)
        go_wp2
        go_quiet (fail)
        go_wp2
        go_ret
        refine ⟨by rw [He.out]; rfl, Hkeep.out _ ?_ (by rw [He.out]; decide)⟩
        first
          | exact below_drewN' (((Below.refl _ _).alloc (Nat.le_refl _) _).trans (hb1.mono (by simp))) _
          | exact below_drewN' (below_drewN' (((Below.refl _ _).alloc (Nat.le_refl _) _).trans (hb1.mono (by simp))) _) _
      · have ha2 : decide (rn < cnt o g.l + 1) = false := by simp; omega
        by_cases e3 : cnt o g.l + 1 < rn
        · have he : g.err ⟨o, rn, us⟩ = 10 := by unfold Lg.err; rw [if_neg (by simp [hm]), if_neg (by simpa using e1), if_neg (by simpa using e2), if_pos (by simpa using e3)]
          have ha3 : decide (cnt o g.l + 1 < rn) = true := by simp [e3]
          have He := Lib.hid he
          have Hkeep := Lib.hid hkeep
          clear he hkeep e1 e2 e3 hm k1 hok hp hF hown hsl hsl0
          go_enter Tryd.func43, Tryd.ntmps43
          go_wp2_with (go_at_call 104; refine (hR _ ?_).mono ?_; exact Hsl0.out.any; rintro e w1 ⟨rfl, hb1⟩; have hg1 := hg0.below hb1; obtain ⟨cc, f5, z5⟩ := hg1.rules; have c20 := (cc 0).trans k2; have c21 := (cc (2 + o)).trans hk4; have c22 := (cc 1).trans k3; clear cc; obtain ⟨c6, f6, z6⟩ := (kb0.below hb1).rules)
          go_quiet (fail)
          go_wp2
          go_quiet (fail)
          go_wp2
          go_ret
          refine ⟨by rw [He.out]; rfl, Hkeep.out _ ?_ (by rw [He.out]; decide)⟩
          first
            | exact below_drewN' (((Below.refl _ _).alloc (Nat.le_refl _) _).trans (hb1.mono (by simp))) _
            | exact below_drewN' (below_drewN' (((Below.refl _ _).alloc (Nat.le_refl _) _).trans (hb1.mono (by simp))) _) _
        · have ha3 : decide (cnt o g.l + 1 < rn) = false := by simp; omega
          have he : g.err ⟨o, rn, us⟩ = 0 := by unfold Lg.err; rw [if_neg (by simp [hm]), if_neg (by simpa using e1), if_neg (by simpa using e2), if_neg (by simpa using e3)]
          have He := Lib.hid he
          have Hown := Lib.hid hown
          clear he hkeep e1 e2 e3 hm k1 hown hsl hsl0
          go_enter Tryd.func43, Tryd.ntmps43
          go_wp2_with (go_at_call 104; refine (hR _ ?_).mono ?_; exact Hsl0.out.any; rintro e w1 ⟨rfl, hb1⟩; have hg1 := hg0.below hb1; obtain ⟨cc, f5, z5⟩ := hg1.rules; have c20 := (cc 0).trans k2; have c21 := (cc (2 + o)).trans hk4; have c22 := (cc 1).trans k3; clear cc; obtain ⟨c6, f6, z6⟩ := (kb0.below hb1).rules)
          go_quiet (fail)
          go_wp2
          go_quiet (fail)
          go_wp2
          go_region
          all_goals
            generalize hW : World.setCell (World.drewN w1 _) _ _ = W
            have gW : Blk W p 150 (cs.setIfInBounds (2 + o) (.int .i64 (cnt o g.l + 1))) := by rw [← hW]; exact (hg1.drewN _).set (2 + o) _
            have kW : Blk W w.heap.size 38 #[.int .i64 o, .int .i64 rn, .slice A us.length c] := by rw [← hW]; exact ((kb0.below hb1).drewN _).off (by show w.heap.size ≠ p; have := hg.lt; omega) _
            have hsW : SL KU (fun b => ¬ F b) W A c us := by rw [← hW]; exact (((Hsl0.out.below hb1).drewN _).setCell (p := ⟨p, 2 + o, none⟩) (fun h => h hp) _)
            have oW : OwnL KR 38 (fun b => (F b ∨ w.heap.size ≤ b) ∧ b ≠ p) W (.slice A1 g.l.length c1) g.l := by rw [← hW]; exact (((((Hown.out.mono fun b hb _ => (⟨.inl hb.1, hb.2⟩ : (F b ∨ w.heap.size ≤ b) ∧ b ≠ p)).alloc _).below hb1).drewN _).setCell (p := ⟨p, 2 + o, none⟩) (fun h => h.2 rfl) _)
            have mW : Mod F w W := by rw [← hW]; exact ((((Mod.refl F w).alloc _).below hb1).drewN _).setCell (p := ⟨p, 2 + o, none⟩) (.inl hp) _
            have hWs : w.heap.size + 1 ≤ W.heap.size := kW.lt
            have hcW : (cs.setIfInBounds (2 + o) (.int .i64 (cnt o g.l + 1)))[1]? = some (.slice A1 g.l.length c1) := by rw [Array.getElem?_setIfInBounds_ne (by omega)]; exact k3
            have HsW := Lib.hid hsW
            have OW := Lib.hid oW
            have MW := Lib.hid mW
            have GW := Lib.hid gW
            have hne : (Value.slice A1 g.l.length c1).ownBlock ≠ some p := fun h => (oW.ok_ _ h).2 rfl
            have Hne := Lib.hid hne
            obtain ⟨cc, f8, z8⟩ := gW.rules
            have c30 := (cc 1).trans hcW
            clear cc hW hsW oW mW hne c20 c21 c22 f5 z5 c6 f6 z6 hg0 kb0 hg1 k2 k3 k4 hk4 hg Hown Hsl0 hR
            obtain ⟨c9, f9, z9⟩ := kW.rules
            go_wp2
            go_region_law (first
              | (refine step_push KR _ (by rfl) _ _ _ (by rfl) 38 _ 40 Tryd.underlying30 info38 (by rfl) (by decide) (by decide) (fun b => (F b ∨ w.heap.size ≤ b) ∧ b ≠ p) (.slice A1 g.l.length c1) g.l (by rfl) ((OW.out.belowD hb2).alloc _) g.l.length rfl w2.heap.size ⟨o, rn, us⟩ 38 _ (by rfl) (Blk.new w2 38 _) (el_of OW.out hsl2 (Nat.le_refl _) (fun b hb => (by have h1 : W.heap.size ≤ b := hb; exact ⟨.inr (by omega), by omega⟩)) _) (by have h1 : W.heap.size ≤ w2.heap.size := hb2.size; rw [World.size_alloc]; exact ⟨.inr (by omega), by omega⟩) (by omega) ?_; intro A3 c3 w3 hown3 hg3 hat3; obtain ⟨c11, f11, z11⟩ := ((hg2.alloc _).grown hg3 (fun e => Hne.out e.symm)).rules)
              | (refine step_sem (by rfl) ?_; go_simp; go_at_call 105; refine (copy_any ⟨o, rn, us⟩ A c _ ?_ (by simp only; omega)).mono ?_; exact HsW.out.any.drewN 1; rintro e w2 ⟨A2, c2, rfl, hsl2, hb2⟩; have hg2 := GW.out.belowE hb2; obtain ⟨cc, f10, z10⟩ := hg2.rules; have c31 := (cc 1).trans hcW; clear cc))
            all_goals
              go_wp2
              go_ret
              refine ⟨by rw [He.out]; rfl, ?_⟩
              refine log_grown (W := w3) He.out hok hF hp rfl (by omega) hcs.out ((hg2.alloc _).grown hg3 (fun e => Hne.out e.symm)) ?_ hown3 rfl
              exact ((MW.out.drew.below hb2).alloc _).grown hg3 (fun q hq => (OW.out.ok_ q hq).1)
  · have he : g.err r = r.may := by unfold Lg.err; rw [if_pos hm]
    have He := Lib.hid he
    have hr := roundMay_any r A c _ (hsl.any.alloc (.cells #[.int .i64 r.o, .int .i64 r.n, .slice A r.us.length c] 38))
    have ht : (r.may != 0) = true := by simp [hm]
    have Hm := Lib.hid hm
    clear he hm
    go_enter Tryd.func43, Tryd.ntmps43
    go_wp2_with (go_at_call 104; refine hr.mono ?_; rintro e w1 ⟨rfl, hb1⟩)
    go_ret
    refine ⟨by rw [He.out]; rfl, hkeep _ ?_ (by rw [He.out]; exact Hm.out)⟩
    exact ((Below.refl _ _).alloc (Nat.le_refl _) _).trans (hb1.mono (by simp))

end Go.Proofs.YthdnoljmiehegaaDoor
