/- WHAT IS PROVED HERE: the program's link: a fresh one, and an offer. -/
import Derived.Test.YthdnoljmiehegaaDoorRcv
import Derived.Test.YthdnoljmiehegaaDoorSnd2
set_option linter.unusedVariables false
set_option linter.unusedSimpArgs false
namespace Go.Proofs.YthdnoljmiehegaaDoor
open Go.RowKit

structure LS where
  epoch : Int
  window : Int
  room : Int
  passive : Bool
  s : SS
  r : RS
def LS.anew (window room : Int) (passive : Bool) (epoch : Int) : LS := ⟨clampI epoch 0 1099511627776, window, room, passive, SS.new window 1125899906842624, RS.new room⟩
def LS.begin (l : LS) (epoch : Int) : LS := LS.anew l.window l.room l.passive epoch
def LS.offer (l : LS) (d : ByteArray) : LS := { l with s := l.s.offer d }
def LS.ack (l : LS) (f : Frm) : LS := { l with s := l.s.ack f.ack }
def LS.take (l : LS) (f : Frm) : LS := { l with r := l.r.hear f.seq }
def LS.hears (l : LS) (f : Frm) : Bool := decide (l.epoch < f.epoch) && l.passive
def LS.hear (l : LS) (f : Frm) : LS :=
  if l.epoch < f.epoch then if l.passive then ((l.begin f.epoch).ack f).take f else l
  else if l.epoch = f.epoch then (l.ack f).take f else l

def ptr (p : Nat) : Value := .pointer (some ⟨p, 0, none⟩)
def IsLnk (w : World) (p : Nat) (F : Nat → Prop) (l : LS) : Prop :=
  ∃ ps Fs pr Fr, Blk w p 156 #[ptr ps, ptr pr, .int .i64 l.epoch, .int .i64 l.window, .int .i64 l.room, .bool l.passive] ∧ IsSnd w ps Fs l.s ∧ IsRcv w pr Fr l.r ∧ ¬ Fs p ∧ ¬ Fr p ∧ (∀ b, Fs b → ¬ Fr b) ∧ ∀ b, F b ↔ b = p ∨ Fs b ∨ Fr b
theorem IsLnk.keep {w w' : World} {p : Nat} {F : Nat → Prop} {l : LS} (h : IsLnk w p F l) (hs : w.heap.size ≤ w'.heap.size) (hk : ∀ b, F b → b < w.heap.size → w'.heap[b]? = w.heap[b]?) : IsLnk w' p F l := by
  obtain ⟨ps, Fs, pr, Fr, hg, h1, h2, h3, h4, h5, hF⟩ := h
  exact ⟨ps, Fs, pr, Fr, (hk p ((hF p).2 (.inl rfl)) hg.lt).trans hg, h1.keep hs fun b hb => hk b ((hF b).2 (.inr (.inl hb))), h2.keep fun b hb => hk b ((hF b).2 (.inr (.inr hb))), h3, h4, h5, hF⟩
theorem IsLnk.below {w w' : World} {p : Nat} {F : Nat → Prop} {l : LS} (h : IsLnk w p F l) (hb : Below w.heap.size w w') : IsLnk w' p F l := h.keep hb.size fun b _ hl => hb.block _ hl
theorem IsLnk.lt {w : World} {p : Nat} {F : Nat → Prop} {l : LS} (h : IsLnk w p F l) : ∀ b, F b → b < w.heap.size := by
  obtain ⟨ps, Fs, pr, Fr, hg, h1, h2, h3, h4, h5, hF⟩ := h
  intro b hb
  rcases (hF b).1 hb with rfl | hb | hb
  · exact hg.lt
  · exact h1.lt b hb
  · exact h2.lt b hb

/-- The sender of a link makes a step. -/
theorem IsLnk.snd {w w' : World} {p ps pr : Nat} {F Fs Fs' Fr : Nat → Prop} {l : LS} {s' : SS} (hg : Blk w p 156 #[ptr ps, ptr pr, .int .i64 l.epoch, .int .i64 l.window, .int .i64 l.room, .bool l.passive])
    (h2 : IsRcv w pr Fr l.r) (h3 : ¬ Fs p) (h4 : ¬ Fr p) (h5 : ∀ b, Fs b → ¬ Fr b) (hF : ∀ b, F b ↔ b = p ∨ Fs b ∨ Fr b) (hs : IsSnd w' ps Fs' s') (hst : Step Fs w Fs' w') : ∃ F', IsLnk w' p F' { l with s := s' } ∧ Step F w F' w' := by
  refine ⟨fun b => b = p ∨ Fs' b ∨ Fr b, ⟨ps, Fs', pr, Fr, hg.mod hst.mod h3, hs, h2.keep fun b hb hl => hst.mod.block b hl (fun q => h5 b q hb), fun q => ?_, h4, fun b hb hr => ?_, fun b => Iff.rfl⟩, hst.sub (fun b hb => (hF b).2 (.inr (.inl hb))) fun b hb => ?_⟩
  · have := hg.lt
    rcases hst.upg p q with q | q
    · exact h3 q
    · omega
  · have := h2.lt b hr
    rcases hst.upg b hb with q | q
    · exact h5 b q hr
    · omega
  · rcases hb with hb | hb | hb
    · exact .inl ((hF b).2 (.inl hb))
    · exact .inr hb
    · exact .inl ((hF b).2 (.inr (.inr hb)))
/-- The receiver of a link makes a step. -/
theorem IsLnk.rcv {w w' : World} {p ps pr : Nat} {F Fs Fr Fr' : Nat → Prop} {l : LS} {r' : RS} (hg : Blk w p 156 #[ptr ps, ptr pr, .int .i64 l.epoch, .int .i64 l.window, .int .i64 l.room, .bool l.passive])
    (h1 : IsSnd w ps Fs l.s) (h3 : ¬ Fs p) (h4 : ¬ Fr p) (h5 : ∀ b, Fs b → ¬ Fr b) (hF : ∀ b, F b ↔ b = p ∨ Fs b ∨ Fr b) (hs : IsRcv w' pr Fr' r') (hst : Step Fr w Fr' w') : ∃ F', IsLnk w' p F' { l with r := r' } ∧ Step F w F' w' := by
  refine ⟨fun b => b = p ∨ Fs b ∨ Fr' b, ⟨ps, Fs, pr, Fr', hg.mod hst.mod h4, h1.keep hst.mod.size fun b hb hl => hst.mod.block b hl (h5 b hb), hs, h3, fun q => ?_, fun b hb hr => ?_, fun b => Iff.rfl⟩, hst.sub (fun b hb => (hF b).2 (.inr (.inr hb))) fun b hb => ?_⟩
  · have := hg.lt
    rcases hst.upg p q with q | q
    · exact h4 q
    · omega
  · have := h1.lt b hb
    rcases hst.upg b hr with q | q
    · exact h5 b hb q
    · omega
  · rcases hb with hb | hb | hb
    · exact .inl ((hF b).2 (.inl hb))
    · exact .inl ((hF b).2 (.inr (.inl hb)))
    · exact .inr hb

/-- Begun anew: from what the block holds of window, room and passive. -/
theorem lnk_begun {w W w1 w2 w3 : World} {p : Nat} {window room epoch : Int} {passive : Bool} {x0 x1 x2 : Value} {ps pr : Nat} {e : Int}
    (hg : Blk w p 156 #[x0, x1, x2, .int .i64 window, .int .i64 room, .bool passive]) (hW : W = w.setCell ⟨p, 2, none⟩ (.int .i64 e)) (he : e = clampI epoch 0 1099511627776) (h1 : Below W.heap.size W w1) (hs : IsSnd w1 ps (fun i => i = ps) (SS.new window 1125899906842624)) (hps : W.heap.size ≤ ps)
    (h2 : Below w1.heap.size w1 w2) (hr : IsRcv w2 pr (fun i => i = pr) (RS.new room)) (hpr : w1.heap.size ≤ pr) (h3 : w3 = (w2.setCell ⟨p, 0, none⟩ (ptr ps)).setCell ⟨p, 1, none⟩ (ptr pr)) :
    ∃ F', IsLnk w3 p F' (LS.anew window room passive epoch) ∧ Step (fun b => b = p) w F' w3 := by
  have hp := hg.lt
  have gW : Blk W p 156 #[x0, x1, .int .i64 e, .int .i64 window, .int .i64 room, .bool passive] := by rw [hW]; exact hg.set 2 _
  have g2 := (gW.below h1).below h2
  have hWs : W.heap.size = w.heap.size := by rw [hW]; simp
  have hl1 := hs.lt ps rfl
  have hl2 := hr.lt pr rfl
  have k1 := h1.size
  have k2 := h2.size
  subst h3 he
  refine ⟨fun b => b = p ∨ b = ps ∨ b = pr, ⟨ps, _, pr, _, (g2.set 0 _).set 1 _, ?_, ?_, ?_, ?_, ?_, fun b => Iff.rfl⟩, ⟨?_, ?_⟩⟩
  · refine (hs.below h2).keep (by simp) fun b hb _ => ?_
    rw [Below.heap_setCell _ _ _ _ (by show b ≠ p; omega), Below.heap_setCell _ _ _ _ (by show b ≠ p; omega)]
  · refine hr.keep fun b hb _ => ?_
    rw [Below.heap_setCell _ _ _ _ (by show b ≠ p; omega), Below.heap_setCell _ _ _ _ (by show b ≠ p; omega)]
  · show ¬ p = ps; omega
  · show ¬ p = pr; omega
  · intro b hb hb'; omega
  · refine ((((((Mod.refl (fun b => b = p) w).setCell (p := ⟨p, 2, none⟩) (.inl rfl) _).below (by rw [← hW]; exact h1)).below h2).setCell (p := ⟨p, 0, none⟩) (.inl rfl) _).setCell (p := ⟨p, 1, none⟩) (.inl rfl) _)
  · intro b hb
    rcases hb with rfl | rfl | rfl
    · exact .inl rfl
    · right; omega
    · right; omega

set_option maxRecDepth 100000 in
set_option maxHeartbeats 1000000 in
theorem lnkBegin_any (p : Nat) (window room epoch : Int) (passive : Bool) (x0 x1 x2 : Value) (w : World) (hg : Blk w p 156 #[x0, x1, x2, .int .i64 window, .int .i64 room, .bool passive]) :
    Calls Tryd.prog 91 #[ptr p, .int .i64 epoch] w fun e w' => e = .returned (.tuple #[]) ∧ ∃ F', IsLnk w' p F' (LS.anew window room passive epoch) ∧ Step (fun b => b = p) w F' w' := by
  unfold ptr
  obtain ⟨c0, f0, z0⟩ := hg.rules
  go_enter Tryd.func91, Tryd.ntmps91
  go_wp2
  all_goals
    generalize hW : World.setCell w _ _ = W
    obtain ⟨e, he1, he2⟩ : ∃ e, W = w.setCell ⟨p, 2, none⟩ (.int .i64 e) ∧ e = clampI epoch 0 1099511627776 := ⟨_, hW.symm, by unfold clampI; (repeat' split) <;> omega⟩
    have gW : Blk W p 156 #[x0, x1, .int .i64 e, .int .i64 window, .int .i64 room, .bool passive] := by rw [he1]; exact hg.set 2 _
    have HW := Lib.hid he1
    have He := Lib.hid he2
    clear hW c0 f0 he1 he2
    obtain ⟨c0, f0, z1⟩ := gW.rules
    go_region_with (first
      | (go_at_call 144; refine (sndNew_any _ _ _).mono ?_; rintro e w1 ⟨rfl, hs1, hb1⟩; obtain ⟨c1, f1, z2⟩ := (gW.belowD hb1).rules)
      | (go_at_call 145; refine (rcvNew_any _ _).mono ?_; rintro e w2 ⟨rfl, hr2, hb2⟩; obtain ⟨c2, f2, z3⟩ := ((gW.belowD hb1).belowD hb2).rules))
  all_goals
    go_wp2
    go_end0
    refine ⟨rfl, ?_⟩
    exact lnk_begun hg HW.out He.out (below_then' (below_drewN' (Below.refl _ _) 1) hb1) hs1 (Nat.le_refl _) hb2 hr2 (Nat.le_refl _) rfl

end Go.Proofs.YthdnoljmiehegaaDoor
