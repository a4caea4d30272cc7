/- WHAT IS PROVED HERE: the reference's log takes a round. -/
import Derived.Test.YthdnoljmiehegaaDoorRlog
import Derived.Deep.RegionWith
import Derived.Deep.RegionLaw
set_option linter.unusedVariables false
set_option linter.unusedSimpArgs false
namespace Go.Proofs.YthdnoljmiehegaaDoor
open Go.RowKit

theorem OwnL.emptyB {α : Type} (K : Kind α) {e : TypeId} {ok : Nat → Prop} {w : World} {b : Nat} (h : Blk w b e #[]) (hok : ok b) : OwnL K e ok w (.slice (some ⟨b, 0, none⟩) 0 0) [] := by
  refine ⟨[], ⟨by simp, .inr ⟨b, 0, 0, #[], rfl, h, Nat.le_refl _, Nat.zero_le _, by simp, by simp⟩⟩, rfl, fun q hq => ?_⟩
  have h2 : b = q := by simpa [Value.ownBlock] using hq
  exact h2 ▸ hok
theorem SL.drew {α : Type} {K : Kind α} {ok : Nat → Prop} {w : World} {A : Option Addr} {c : Nat} {l : List α} (h : SL K ok w A c l) : SL K ok w.drew A c l := h.keep (Nat.le_refl _) fun _ _ _ => rfl
theorem Blk.newS (w : World) (o : Obj) (t : TypeId) (cs : Array Value) : Blk ((w.alloc o).alloc (.cells cs t)) (w.heap.size + 1) t cs := by
  have h := Blk.new (w.alloc o) t cs
  rwa [World.size_alloc] at h
theorem rlog_grown {w W w3 : World} {p : Nat} {F : Nat → Prop} {g : Lg} {r : Rnd} {A3 : Option Addr} {c3 : Nat} {x : Value} (he : g.err r = 0) (hok : g.Ok) (hF : ∀ b, F b → b < w.heap.size) (hp : F p)
    (hg : Blk W p 161 #[.int .i64 g.clients, x]) (hm : Mod F w W)
    (hown : OwnL KR 38 (fun b => (F b ∨ w.heap.size ≤ b) ∧ b ≠ p) W (.slice A3 (g.l.length + 1) c3) (g.l ++ [r])) (h3 : w3 = W.setCell ⟨p, 1, none⟩ (.slice A3 (g.l.length + 1) c3)) :
    ∃ F', IsRLog w3 p F' (g.add r) ∧ Step F w F' w3 := by
  have ha : g.add r = { g with l := g.l ++ [r] } := if_pos he
  have hok' := Lg.add_ok hok r
  rw [ha] at hok'
  have hl : (g.l ++ [r]).length = g.l.length + 1 := by simp
  rw [ha]
  refine ⟨fun b => (F b ∨ w.heap.size ≤ b) ∧ b < W.heap.size, ⟨A3, c3, ?_, ?_, hok', ?_, ?_⟩, ⟨?_, fun b hb => hb.1⟩⟩
  · rw [h3, hl]; exact hg.set 1 _
  · rw [h3]
    simp only [hl]
    exact (hown.mono fun b hb hlt => (⟨⟨hb.1, hlt⟩, hb.2⟩ : ((F b ∨ w.heap.size ≤ b) ∧ b < W.heap.size) ∧ b ≠ p)).setCell (p := ⟨p, 1, none⟩) (fun h => h.2 rfl) _
  · have := hF p hp; have := hm.size
    exact ⟨.inl hp, by omega⟩
  · rw [h3]; intro b hb; simpa using hb.2
  · rw [h3]; exact hm.setCell (p := ⟨p, 1, none⟩) (.inl hp) _

set_option maxRecDepth 100000 in
set_option maxHeartbeats 4000000 in
theorem rlogAdd_any (p : Nat) (F : Nat → Prop) (g : Lg) (r : Rnd) (A : Option Addr) (c : Nat) (w : World) (h : IsRLog w p F g) (hsl : SL KU (fun b => ¬ F b) w A c r.us) (hl : g.l.length ≤ 100000) :
    Calls Tryd.prog 44 #[.pointer (some ⟨p, 0, none⟩), .agg #[.int .i64 r.o, .int .i64 r.n, .slice A r.us.length c]] w fun e w' => e = .returned (.int .i64 (g.err r)) ∧ ∃ F', IsRLog w' p F' (g.add r) ∧ Step F w F' w' := by
  have hkeep : ∀ w', Below w.heap.size w w' → g.err r ≠ 0 → ∃ F', IsRLog w' p F' (g.add r) ∧ Step F w F' w' := by
    intro w' hb he
    have : g.add r = g := if_neg he
    rw [this]
    exact ⟨F, h.below hb, Step.of_below hb⟩
  by_cases hm : r.may = 0
  · obtain ⟨o1, o2, n1, n2, u1, u2, _⟩ := Rnd.may_parts hm
    obtain ⟨o, rn, us⟩ := r
    simp only at o1 o2 n1 n2 u1 u2 hsl
    have hself := Lib.hid h
    have hl0 := h.below ((Below.refl _ _).alloc (Nat.le_refl _) (.cells #[.int .i64 o, .int .i64 rn, .slice A us.length c] 38))
    obtain ⟨A1, c1, hg, hown, hok, hp, hF⟩ := h
    have q2 := hok.c2
    have hsl0 := hsl.alloc (.cells #[.int .i64 o, .int .i64 rn, .slice A us.length c] 38)
    have hg0 := hg.alloc (.cells #[.int .i64 o, .int .i64 rn, .slice A us.length c] 38)
    have kb0 := Blk.new w 38 #[.int .i64 o, .int .i64 rn, .slice A us.length c]
    have hcl := cnt_le o g.l
    have Hm := Lib.hid hm
    have Hsl0 := Lib.hid hsl0
    have hR : ∀ w0, SL KU anyB w0 A c us → Calls Tryd.prog 106 #[.agg #[.int .i64 o, .int .i64 rn, .slice A us.length c]] w0 fun e w' => e = .returned (.int .i64 0) ∧ Below w0.heap.size w0 w' := fun w0 hs => (ref07May_any ⟨o, rn, us⟩ A c w0 hs).mono fun e w' hh => ⟨by rw [hh.1, Hm.out], hh.2⟩
    by_cases e1 : g.clients < o
    · have he : g.err ⟨o, rn, us⟩ = 11 := by unfold Lg.err; rw [if_neg (by simp [hm]), if_pos e1]
      have ha : decide (g.clients < o) = true := by simp [e1]
      have He := Lib.hid he
      have Hkeep := Lib.hid hkeep
      clear he hkeep e1 hm hown hsl hsl0
      go_enter Tryd.func44, Tryd.ntmps44
      go_wp2_with (go_at_call 106; refine (hR _ ?_).mono ?_; exact Hsl0.out.any; rintro e w1 ⟨rfl, hb1⟩; obtain ⟨c20, f5, z5⟩ := (hg0.below hb1).rules; obtain ⟨c6, f6, z6⟩ := (kb0.below hb1).rules)
      have hl1 := hl0.below hb1
      have kb1 := kb0.below hb1
      have hw1 : Below w.heap.size w w1 := ((Below.refl _ _).alloc (Nat.le_refl _) _).trans (hb1.mono (by simp))
      go_quiet (fail)
      go_wp2
      all_goals
        go_ret
        refine ⟨by rw [He.out]; rfl, Hkeep.out _ ?_ (by rw [He.out]; decide)⟩
        first
          | exact below_drewN' hw1 _
          | exact below_drewN' (below_drewN' hw1 _) _
    · have ha : decide (g.clients < o) = false := by simp; omega
      by_cases e2 : rn < cnt o g.l + 1
      · have he : g.err ⟨o, rn, us⟩ = 12 := by unfold Lg.err; rw [if_neg (by simp [hm]), if_neg (by simpa using e1), if_pos e2]
        have ha2 : decide (rn ≤ cnt o g.l) = true := by simp; omega
        have He := Lib.hid he
        have Hkeep := Lib.hid hkeep
        clear he hkeep e1 e2 hm hown hsl hsl0
        go_enter Tryd.func44, Tryd.ntmps44
        go_wp2_with (go_at_call 106; refine (hR _ ?_).mono ?_; exact Hsl0.out.any; rintro e w1 ⟨rfl, hb1⟩; obtain ⟨c20, f5, z5⟩ := (hg0.below hb1).rules; obtain ⟨c6, f6, z6⟩ := (kb0.below hb1).rules)
        have hl1 := hl0.below hb1
        have kb1 := kb0.below hb1
        have hw1 : Below w.heap.size w w1 := ((Below.refl _ _).alloc (Nat.le_refl _) _).trans (hb1.mono (by simp))
        go_quiet (fail)
        go_wp2
        generalize hW2 : World.drewN _ _ = W2
        have hw2 : Below w.heap.size w W2 := by rw [← hW2]; exact below_drewN' hw1 _
        have hl2 : IsRLog W2 p F g := by rw [← hW2]; exact hl1.keep (Nat.le_refl _) (fun _ _ _ => rfl)
        have kb2 : Blk W2 w.heap.size 38 #[.int .i64 o, .int .i64 rn, .slice A us.length c] := by rw [← hW2]; exact kb1
        clear hW2 c20 f5 z5 c6 f6 z6
        obtain ⟨c20, f5, z5⟩ := kb2.rules
        obtain ⟨c6, f6, z6⟩ := kb2.rules
        go_quiet ((go_at_call 107; exact Calls.quiet_of_same (rlogLast_any p F g o _ (hl2.keep (Nat.le_refl _) (fun _ _ _ => rfl)) hl)))
        go_wp2
        all_goals
          go_ret
          refine ⟨by rw [He.out]; rfl, Hkeep.out _ ?_ (by rw [He.out]; decide)⟩
          first
            | exact below_drewN' hw2 _
            | exact below_drewN' (below_drewN' hw2 _) _
      · have ha2 : decide (rn ≤ cnt o g.l) = false := by simp; omega
        by_cases e3 : cnt o g.l + 1 < rn
        · have he : g.err ⟨o, rn, us⟩ = 10 := by unfold Lg.err; rw [if_neg (by simp [hm]), if_neg (by simpa using e1), if_neg (by simpa using e2), if_pos (by simpa using e3)]
          have ha3 : decide (cnt o g.l + 1 < rn) = true := by simp [e3]
          have He := Lib.hid he
          have Hkeep := Lib.hid hkeep
          clear he hkeep e1 e2 e3 hm hown hsl hsl0
          go_enter Tryd.func44, Tryd.ntmps44
          go_wp2_with (go_at_call 106; refine (hR _ ?_).mono ?_; exact Hsl0.out.any; rintro e w1 ⟨rfl, hb1⟩; obtain ⟨c20, f5, z5⟩ := (hg0.below hb1).rules; obtain ⟨c6, f6, z6⟩ := (kb0.below hb1).rules)
          have hl1 := hl0.below hb1
          have kb1 := kb0.below hb1
          have hw1 : Below w.heap.size w w1 := ((Below.refl _ _).alloc (Nat.le_refl _) _).trans (hb1.mono (by simp))
          go_quiet (fail)
          go_wp2
          generalize hW2 : World.drewN _ _ = W2
          have hw2 : Below w.heap.size w W2 := by rw [← hW2]; exact below_drewN' hw1 _
          have hl2 : IsRLog W2 p F g := by rw [← hW2]; exact hl1.keep (Nat.le_refl _) (fun _ _ _ => rfl)
          have kb2 : Blk W2 w.heap.size 38 #[.int .i64 o, .int .i64 rn, .slice A us.length c] := by rw [← hW2]; exact kb1
          clear hW2 c20 f5 z5 c6 f6 z6
          obtain ⟨c20, f5, z5⟩ := kb2.rules
          obtain ⟨c6, f6, z6⟩ := kb2.rules
          go_quiet ((go_at_call 107; exact Calls.quiet_of_same (rlogLast_any p F g o _ (hl2.keep (Nat.le_refl _) (fun _ _ _ => rfl)) hl)))
          go_wp2
          generalize hW3 : World.drewN _ _ = W3
          have hw3 : Below w.heap.size w W3 := by rw [← hW3]; exact below_drewN' hw2 _
          have hl3 : IsRLog W3 p F g := by rw [← hW3]; exact hl2.keep (Nat.le_refl _) (fun _ _ _ => rfl)
          have kb3 : Blk W3 w.heap.size 38 #[.int .i64 o, .int .i64 rn, .slice A us.length c] := by rw [← hW3]; exact kb2
          clear hW3 c20 f5 z5 c6 f6 z6
          obtain ⟨c20, f5, z5⟩ := kb3.rules
          obtain ⟨c6, f6, z6⟩ := kb3.rules
          go_quiet ((go_at_call 107; exact Calls.quiet_of_same (rlogLast_any p F g o _ (hl3.keep (Nat.le_refl _) (fun _ _ _ => rfl)) hl)))
          go_wp2
          all_goals
            go_ret
            refine ⟨by rw [He.out]; rfl, Hkeep.out _ ?_ (by rw [He.out]; decide)⟩
            first
              | exact below_drewN' hw3 _
              | exact below_drewN' (below_drewN' hw3 _) _
        · have ha3 : decide (cnt o g.l + 1 < rn) = false := by simp; omega
          have he : g.err ⟨o, rn, us⟩ = 0 := by unfold Lg.err; rw [if_neg (by simp [hm]), if_neg (by simpa using e1), if_neg (by simpa using e2), if_neg (by simpa using e3)]
          have He := Lib.hid he
          have Hown := Lib.hid hown
          have Hsl := Lib.hid hsl
          clear he hkeep e1 e2 e3 hm hown hsl hsl0
          go_enter Tryd.func44, Tryd.ntmps44
          go_wp2_with (go_at_call 106; refine (hR _ ?_).mono ?_; exact Hsl0.out.any; rintro e w1 ⟨rfl, hb1⟩; obtain ⟨c20, f5, z5⟩ := (hg0.below hb1).rules; obtain ⟨c6, f6, z6⟩ := (kb0.below hb1).rules)
          have hl1 := hl0.below hb1
          have kb1 := kb0.below hb1
          have hw1 : Below w.heap.size w w1 := ((Below.refl _ _).alloc (Nat.le_refl _) _).trans (hb1.mono (by simp))
          go_quiet (fail)
          go_wp2
          generalize hW2 : World.drewN _ _ = W2
          have hw2 : Below w.heap.size w W2 := by rw [← hW2]; exact below_drewN' hw1 _
          have hl2 : IsRLog W2 p F g := by rw [← hW2]; exact hl1.keep (Nat.le_refl _) (fun _ _ _ => rfl)
          have kb2 : Blk W2 w.heap.size 38 #[.int .i64 o, .int .i64 rn, .slice A us.length c] := by rw [← hW2]; exact kb1
          clear hW2 c20 f5 z5 c6 f6 z6
          obtain ⟨c20, f5, z5⟩ := kb2.rules
          obtain ⟨c6, f6, z6⟩ := kb2.rules
          go_quiet ((go_at_call 107; exact Calls.quiet_of_same (rlogLast_any p F g o _ (hl2.keep (Nat.le_refl _) (fun _ _ _ => rfl)) hl)))
          go_wp2
          generalize hW3 : World.drewN _ _ = W3
          have hw3 : Below w.heap.size w W3 := by rw [← hW3]; exact below_drewN' hw2 _
          have hl3 : IsRLog W3 p F g := by rw [← hW3]; exact hl2.keep (Nat.le_refl _) (fun _ _ _ => rfl)
          have kb3 : Blk W3 w.heap.size 38 #[.int .i64 o, .int .i64 rn, .slice A us.length c] := by rw [← hW3]; exact kb2
          clear hW3 c20 f5 z5 c6 f6 z6
          obtain ⟨c20, f5, z5⟩ := kb3.rules
          obtain ⟨c6, f6, z6⟩ := kb3.rules
          go_quiet ((go_at_call 107; exact Calls.quiet_of_same (rlogLast_any p F g o _ (hl3.keep (Nat.le_refl _) (fun _ _ _ => rfl)) hl)))
          generalize hW : World.drewN _ _ = W
          have hbW : Below w.heap.size w W := by rw [← hW]; exact below_drewN' hw3 _
          have kbW : Blk W w.heap.size 38 #[.int .i64 o, .int .i64 rn, .slice A us.length c] := by rw [← hW]; exact kb3
          have hW1 := kbW.lt
          have HbW := Lib.hid hbW
          have HkW := Lib.hid kbW
          have HgW := Lib.hid (hg.below hbW)
          have HsW := Lib.hid (Hsl.out.below hbW)
          have HoW := Lib.hid (Hown.out.below hbW)
          have hpw : p < w.heap.size := hF p hp
          clear hW c20 f5 z5 c6 f6 z6 hbW kbW kb1 kb2 kb3 hl1 hl2 hl3 hw1 hw2 hw3 hb1 hl0 kb0 hg0 hg
          obtain ⟨c20, f5, z5⟩ := HgW.out.rules
          obtain ⟨c6, f6, z6⟩ := HkW.out.rules
          go_wp2_with (at_builtin; (refine wpList_extendF KU _ KU.flat rfl _ _ _ rfl 46 _ 48 Tryd.underlying36 info46 rfl (by decide) (by decide) (newB W) (.slice (some ⟨W.heap.size, 0, none⟩) 0 0) [] us rfl (OwnL.empty KU 46 W (Nat.le_refl _)) 0 rfl us.length rfl A c rfl _ (HsW.out.alloc _) (by simp [newB]) (by omega) ?_); intro A3 c3 w3 hown3 hg3 hat3; have hbx := (HkW.out.alloc (.cells #[] 46)).grown hg3 (by (try simp [Value.ownBlock]); omega); have hgx := (HgW.out.alloc (.cells #[] 46)).grown hg3 (by (try simp [Value.ownBlock]); omega); obtain ⟨c8, f8, z8⟩ := hbx.rules; obtain ⟨c9, f9, z9⟩ := hgx.rules; simp only [Nat.zero_add, List.nil_append] at hown3)
          generalize hW2 : World.setCell w3 _ _ = W2
          have hb3 : Below W.heap.size W w3 := ((Below.refl _ _).alloc (Nat.le_refl _) (.cells #[] 46)).grown hg3 (by simp) (fun k hk => Nat.le_of_eq (by simpa [Value.ownBlock] using hk))
          have hz3 := hb3.size
          have hpn : p ≠ w.heap.size := by omega
          have kb2 : Blk W2 w.heap.size 38 #[.int .i64 o, .int .i64 rn, .slice A3 us.length c3] := by rw [← hW2]; exact hbx.set 2 _
          have kg2 : Blk W2 p 161 #[.int .i64 g.clients, .slice A1 g.l.length c1] := by rw [← hW2]; exact hgx.off (p := ⟨w.heap.size, 2, none⟩) hpn _
          have hus : SL KU (fun b => W.heap.size ≤ b ∧ b < W2.heap.size) W2 A3 c3 us := by
            rw [← hW2]
            exact ((hown3.sl').mono (fun b hb hl => (⟨hb, by simpa using hl⟩ : W.heap.size ≤ b ∧ b < (w3.setCell _ _).heap.size))).setCell (p := ⟨w.heap.size, 2, none⟩) (fun h => by have := h.1; simp only at this; omega) _
          have hlg : SL KR (fun b => (F b ∧ b ≠ p) ∧ b < W.heap.size) W2 A1 c1 g.l := by
            rw [← hW2]
            exact ((HoW.out.sl'.mono (fun b hb hl => (⟨hb, hl⟩ : (F b ∧ b ≠ p) ∧ b < W.heap.size))).keep hb3.size (fun b hb hl => hb3.block b hl)).setCell (p := ⟨w.heap.size, 2, none⟩) (fun h => by have := hF _ h.1.1; simp only at this; omega) _
          have hm2 : Mod F w W2 := by
            rw [← hW2]
            exact ((Mod.of_below HbW.out).trans (Mod.of_below hb3)).setCell (p := ⟨w.heap.size, 2, none⟩) (.inr (Nat.le_refl _)) _
          have hz2 : W2.heap.size = w3.heap.size := by rw [← hW2]; simp
          have Hus := Lib.hid hus
          have Hlg := Lib.hid hlg
          have Hm2 := Lib.hid hm2
          have Kb2 := Lib.hid kb2
          have Kg2 := Lib.hid kg2
          have hZ : W.heap.size ≤ W2.heap.size := by omega
          have hFw := Lib.hid hF
          clear hW2 hb3 hz3 hus hlg hm2 c8 f8 z8 c9 f9 z9 hbx hgx hown3 hg3 hat3 c20 f5 z5 c6 f6 z6 hz2 hF HsW HoW HgW HkW Hsl0 Hsl Hown
          obtain ⟨c8, f8, z8⟩ := kb2.rules
          obtain ⟨c9, f9, z9⟩ := kg2.rules
          clear kb2 kg2
          go_region_law
            (first
            | ((refine step_extend KR _ (by rfl) _ _ _ (by rfl) 38 _ 40 Tryd.underlying30 info38 (by rfl) (by decide) (by decide) (fun b => (F b ∨ w.heap.size ≤ b) ∧ b ≠ p) (.slice (some ⟨_, 0, none⟩) 0 0) [] g.l (by rfl) (by first | exact OwnL.emptyB KR (Blk.new W2 38 #[]).drew ⟨.inr (by (try simp); omega), by (try simp); omega⟩ | exact OwnL.emptyB KR ((Blk.new W2 38 #[]).alloc _).drew ⟨.inr (by (try simp); omega), by (try simp); omega⟩ | exact OwnL.emptyB KR (Blk.newS W2 (.cells #[.int .i64 o, .int .i64 rn, .slice A3 us.length c3] 38) 38 #[]).drew ⟨.inr (by (try simp); omega), by (try simp); omega⟩) 0 rfl g.l.length rfl A1 c1 (by rfl) (by first | exact ((Hlg.out.alloc _).drew).mono (fun b hb _ => ⟨⟨.inl hb.1.1, hb.1.2⟩, fun e => by have := hb.2; simp [Value.ownBlock] at e; omega⟩) | exact (((Hlg.out.alloc _).alloc _).drew).mono (fun b hb _ => ⟨⟨.inl hb.1.1, hb.1.2⟩, fun e => by have := hb.2; simp [Value.ownBlock] at e; omega⟩)) ⟨.inr (by (try simp); omega), by (try simp); omega⟩ (by omega) ?_; intro A4 c4 w4 hown4 hg4 hat4; have q8 : Blk w4 w.heap.size 38 #[.int .i64 o, .int .i64 rn, .slice A3 us.length c3] := (by first | exact ((Kb2.out.alloc _).drew).grown hg4 (by (try simp [Value.ownBlock]); omega) | exact (((Kb2.out.alloc _).alloc _).drew).grown hg4 (by (try simp [Value.ownBlock]); omega)); have q9 : Blk w4 p 161 #[.int .i64 g.clients, .slice A1 g.l.length c1] := (by first | exact ((Kg2.out.alloc _).drew).grown hg4 (by (try simp [Value.ownBlock]); omega) | exact (((Kg2.out.alloc _).alloc _).drew).grown hg4 (by (try simp [Value.ownBlock]); omega)); have hus4 : SL KU (fun b => W.heap.size ≤ b ∧ b < W2.heap.size) w4 A3 c3 us := (by first | exact ((Hus.out.alloc _).drew).keep hg4.size (fun b hb hl => hg4.block b hl (by (try simp [Value.ownBlock]); omega)) | exact (((Hus.out.alloc _).alloc _).drew).keep hg4.size (fun b hb hl => hg4.block b hl (by (try simp [Value.ownBlock]); omega))); have hm4 : Mod F w w4 := (by first | exact ((Hm2.out.alloc _).drew).grown hg4 (fun q hq => .inr (by simp [Value.ownBlock] at hq; omega)) | exact (((Hm2.out.alloc _).alloc _).drew).grown hg4 (fun q hq => .inr (by simp [Value.ownBlock] at hq; omega))); have hz4 := hg4.size; simp at hz4; have hA4 : ∀ b, (Value.slice A4 (0 + g.l.length) c4).ownBlock = some b → W2.heap.size ≤ b := (fun b hb => by rcases hat4 with e | e <;> rw [e] at hb <;> simp [Value.ownBlock] at hb <;> omega); simp only [Nat.zero_add, List.nil_append] at hown4; have Hown4 := Lib.hid hown4; clear hown4; obtain ⟨c10, f10, z10⟩ := q8.rules; obtain ⟨c11, f11, z11⟩ := q9.rules))
            | ((refine step_push KR _ (by rfl) _ _ _ (by rfl) 38 _ 40 Tryd.underlying30 info38 (by rfl) (by decide) (by decide) (fun b => (F b ∨ w.heap.size ≤ b) ∧ b ≠ p) (.slice A4 g.l.length c4) g.l (by first | rfl | simp) (by first | exact Hown4.out | exact Hown4.out.alloc _) g.l.length rfl _ ⟨o, rn, us⟩ 38 _ (by rfl) (by first | exact Blk.new _ _ _ | exact (Blk.newS W2 (.cells #[] 38) 38 #[.int .i64 o, .int .i64 rn, .slice A3 us.length c3]).drew.grown hg4 (by simp [Value.ownBlock]) | exact ((Blk.new W2 38 #[.int .i64 o, .int .i64 rn, .slice A3 us.length c3]).alloc _).drew.grown hg4 (by simp [Value.ownBlock])) (by first | exact ⟨A3, c3, rfl, hus4.mono (fun b hb _ => ⟨⟨.inr (by have := hb.1; omega), by have := hb.1; omega⟩, fun e => by have := hA4 b (by simpa using e); have := hb.2; omega⟩)⟩ | exact ⟨A3, c3, rfl, (hus4.alloc _).mono (fun b hb _ => ⟨⟨.inr (by have := hb.1; omega), by have := hb.1; omega⟩, fun e => by have := hA4 b (by simpa using e); have := hb.2; omega⟩)⟩) ⟨.inr (by (try simp); omega), by (try simp); omega⟩ (by omega) ?_; intro A5 c5 w5 hown5 hg5 hat5; have hne5 : ∀ b, b < W2.heap.size → some b ≠ (Value.slice A4 g.l.length c4).ownBlock := (fun b hb e => by have := hA4 b (by simpa using e.symm); omega); have q12 : Blk w5 w.heap.size 38 #[.int .i64 o, .int .i64 rn, .slice A3 us.length c3] := (by first | exact q8.grown hg5 (hne5 _ (by omega)) | exact (q8.alloc _).grown hg5 (hne5 _ (by omega))); have q13 : Blk w5 p 161 #[.int .i64 g.clients, .slice A1 g.l.length c1] := (by first | exact q9.grown hg5 (hne5 _ (by omega)) | exact (q9.alloc _).grown hg5 (hne5 _ (by omega))); have hm5 : Mod F w w5 := (by first | exact hm4.grown hg5 (fun q hq => .inr (by have := hA4 q (by simpa using hq); omega)) | exact (hm4.alloc _).grown hg5 (fun q hq => .inr (by have := hA4 q (by simpa using hq); omega))); obtain ⟨c12, f12, z12⟩ := q12.rules; obtain ⟨c13, f13, z13⟩ := q13.rules)))
          all_goals
            go_wp2
            go_ret
            refine ⟨by rw [He.out]; rfl, ?_⟩
            exact rlog_grown (W := w5) He.out hok hFw.out hp q13 hm5 hown5 rfl
  · have he : g.err r = r.may := by unfold Lg.err; rw [if_pos hm]
    have He := Lib.hid he
    have hr := ref07May_any r A c _ (hsl.any.alloc (.cells #[.int .i64 r.o, .int .i64 r.n, .slice A r.us.length c] 38))
    have ht : (r.may != 0) = true := by simp [hm]
    have Hm := Lib.hid hm
    clear he hm
    go_enter Tryd.func44, Tryd.ntmps44
    go_wp2_with (go_at_call 106; refine hr.mono ?_; rintro e w1 ⟨rfl, hb1⟩)
    go_ret
    refine ⟨by rw [He.out]; rfl, hkeep _ ?_ (by rw [He.out]; exact Hm.out)⟩
    exact ((Below.refl _ _).alloc (Nat.le_refl _) _).trans (hb1.mono (by simp))

end Go.Proofs.YthdnoljmiehegaaDoor
