/- WHAT IS PROVED HERE: the reference's link does what the link as data does: made, begun anew, its frames. -/
import Derived.Test.YthdnoljmiehegaaDoorRrcv
import Derived.Test.YthdnoljmiehegaaDoorLnk3
set_option linter.unusedVariables false
set_option linter.unusedSimpArgs false
namespace Go.Proofs.YthdnoljmiehegaaDoor
open Go.RowKit

def RlCells (l : LS) (ps pr : Nat) : Array Value := #[.int .i64 l.epoch, ptr ps, ptr pr, .int .i64 l.window, .int .i64 l.room, .bool l.passive]
def IsRLnk (w : World) (p : Nat) (F : Nat → Prop) (l : LS) : Prop :=
  ∃ ps Fs pr Fr, Blk w p 165 (RlCells l ps pr) ∧ IsRSnd w ps Fs l.s ∧ IsRRcv w pr Fr l.r ∧ ¬ Fs p ∧ ¬ Fr p ∧ (∀ b, Fs b → ¬ Fr b) ∧ ∀ b, F b ↔ b = p ∨ Fs b ∨ Fr b
theorem IsRLnk.keep {w w' : World} {p : Nat} {F : Nat → Prop} {l : LS} (h : IsRLnk w p F l) (hs : w.heap.size ≤ w'.heap.size) (hk : ∀ b, F b → b < w.heap.size → w'.heap[b]? = w.heap[b]?) : IsRLnk w' p F l := by
  obtain ⟨ps, Fs, pr, Fr, hg, h1, h2, h3, h4, h5, hF⟩ := h
  exact ⟨ps, Fs, pr, Fr, (hk p ((hF p).2 (.inl rfl)) hg.lt).trans hg, h1.keep hs fun b hb => hk b ((hF b).2 (.inr (.inl hb))), h2.keep hs fun b hb => hk b ((hF b).2 (.inr (.inr hb))), h3, h4, h5, hF⟩
theorem IsRLnk.below {w w' : World} {p : Nat} {F : Nat → Prop} {l : LS} (h : IsRLnk w p F l) (hb : Below w.heap.size w w') : IsRLnk w' p F l := h.keep hb.size fun b _ hl => hb.block _ hl
theorem IsRLnk.lt {w : World} {p : Nat} {F : Nat → Prop} {l : LS} (h : IsRLnk w p F l) : ∀ b, F b → b < w.heap.size := by
  obtain ⟨ps, Fs, pr, Fr, hg, h1, h2, h3, h4, h5, hF⟩ := h
  intro b hb
  rcases (hF b).1 hb with rfl | hb | hb
  · exact hg.lt
  · exact h1.lt b hb
  · exact h2.lt b hb

/-- The sender of a link makes a step. -/
theorem IsRLnk.snd {w w' : World} {p ps pr : Nat} {F Fs Fs' Fr : Nat → Prop} {l : LS} {s' : SS} (hg : Blk w p 165 (RlCells l ps pr))
    (h2 : IsRRcv w pr Fr l.r) (h3 : ¬ Fs p) (h4 : ¬ Fr p) (h5 : ∀ b, Fs b → ¬ Fr b) (hF : ∀ b, F b ↔ b = p ∨ Fs b ∨ Fr b) (hs : IsRSnd w' ps Fs' s') (hst : Step Fs w Fs' w') : ∃ F', IsRLnk w' p F' { l with s := s' } ∧ Step F w F' w' := by
  refine ⟨fun b => b = p ∨ Fs' b ∨ Fr b, ⟨ps, Fs', pr, Fr, hg.mod hst.mod h3, hs, h2.keep hst.mod.size fun b hb hl => hst.mod.block b hl (fun q => h5 b q hb), fun q => ?_, h4, fun b hb hr => ?_, fun b => Iff.rfl⟩, hst.sub (fun b hb => (hF b).2 (.inr (.inl hb))) fun b hb => ?_⟩
  · have := hg.lt
    rcases hst.upg p q with q | q
    · exact h3 q
    · omega
  · have := h2.lt b hr
    rcases hst.upg b hb with q | q
    · exact h5 b q hr
    · omega
  · rcases hb with hb | hb | hb
    · exact .inl ((hF b).2 (.inl hb))
    · exact .inr hb
    · exact .inl ((hF b).2 (.inr (.inr hb)))
/-- The receiver of a link makes a step. -/
theorem IsRLnk.rcv {w w' : World} {p ps pr : Nat} {F Fs Fr Fr' : Nat → Prop} {l : LS} {r' : RS} (hg : Blk w p 165 (RlCells l ps pr))
    (h1 : IsRSnd w ps Fs l.s) (h3 : ¬ Fs p) (h4 : ¬ Fr p) (h5 : ∀ b, Fs b → ¬ Fr b) (hF : ∀ b, F b ↔ b = p ∨ Fs b ∨ Fr b) (hs : IsRRcv w' pr Fr' r') (hst : Step Fr w Fr' w') : ∃ F', IsRLnk w' p F' { l with r := r' } ∧ Step F w F' w' := by
  refine ⟨fun b => b = p ∨ Fs b ∨ Fr' b, ⟨ps, Fs, pr, Fr', hg.mod hst.mod h4, h1.keep hst.mod.size fun b hb hl => hst.mod.block b hl (h5 b hb), hs, h3, fun q => ?_, fun b hb hr => ?_, fun b => Iff.rfl⟩, hst.sub (fun b hb => (hF b).2 (.inr (.inr hb))) fun b hb => ?_⟩
  · have := hg.lt
    rcases hst.upg p q with q | q
    · exact h4 q
    · omega
  · have := h1.lt b hb
    rcases hst.upg b hr with q | q
    · exact h5 b hb q
    · omega
  · rcases hb with hb | hb | hb
    · exact .inl ((hF b).2 (.inl hb))
    · exact .inl ((hF b).2 (.inr (.inl hb)))
    · exact .inr hb

/-- Begun anew: from what the block holds of window, room and passive. -/
theorem rlnk_begun {w W w1 w2 w3 : World} {p : Nat} {window room epoch : Int} {passive : Bool} {x0 x1 x2 : Value} {ps pr : Nat} {e : Int}
    (hg : Blk w p 165 #[x0, x1, x2, .int .i64 window, .int .i64 room, .bool passive]) (hW : W = w.setCell ⟨p, 0, none⟩ (.int .i64 e)) (he : e = clampI epoch 0 1099511627776) (h1 : Below W.heap.size W w1) (hs : IsRSnd w1 ps (fun i => i = ps) (SS.new window 1125899906842624)) (hps : W.heap.size ≤ ps)
    (h2 : Below w1.heap.size (w1.setCell ⟨p, 1, none⟩ (ptr ps)) w2) (hr : IsRRcv w2 pr (fun i => i = pr) (RS.new room)) (hpr : w1.heap.size ≤ pr) (h3 : w3 = w2.setCell ⟨p, 2, none⟩ (ptr pr)) :
    ∃ F', IsRLnk w3 p F' (LS.anew window room passive epoch) ∧ Step (fun b => b = p) w F' w3 := by
  have hp := hg.lt
  have gW : Blk W p 165 #[.int .i64 e, x1, x2, .int .i64 window, .int .i64 room, .bool passive] := by rw [hW]; exact hg.set 0 _
  have g1 : Blk (w1.setCell ⟨p, 1, none⟩ (ptr ps)) p 165 #[.int .i64 e, ptr ps, x2, .int .i64 window, .int .i64 room, .bool passive] := (gW.below h1).set 1 _
  have h2' : Below (w1.setCell ⟨p, 1, none⟩ (ptr ps)).heap.size (w1.setCell ⟨p, 1, none⟩ (ptr ps)) w2 := by rw [World.size_setCell]; exact h2
  have g2 := g1.below h2'
  have hWs : W.heap.size = w.heap.size := by rw [hW]; simp
  have hl1 := hs.lt ps rfl
  have hl2 := hr.lt pr rfl
  have k1 := h1.size
  have k2 := h2.size
  simp only [World.size_setCell] at k2
  have hs1 : IsRSnd (w1.setCell ⟨p, 1, none⟩ (ptr ps)) ps (fun i => i = ps) (SS.new window 1125899906842624) :=
    hs.keep (by simp) fun b hb _ => Below.heap_setCell _ _ _ _ (by show b ≠ p; omega)
  subst h3 he
  refine ⟨fun b => b = p ∨ b = ps ∨ b = pr, ⟨ps, _, pr, _, g2.set 2 _, ?_, ?_, ?_, ?_, ?_, fun b => Iff.rfl⟩, ⟨?_, ?_⟩⟩
  · exact (hs1.below h2').keep (by simp) fun b hb _ => Below.heap_setCell _ _ _ _ (by show b ≠ p; omega)
  · exact hr.keep (by simp) fun b hb _ => Below.heap_setCell _ _ _ _ (by show b ≠ p; omega)
  · show ¬ p = ps; omega
  · show ¬ p = pr; omega
  · intro b hb hb'; omega
  · refine ((((((Mod.refl (fun b => b = p) w).setCell (p := ⟨p, 0, none⟩) (.inl rfl) _).below (by rw [← hW]; exact h1)).setCell (p := ⟨p, 1, none⟩) (.inl rfl) _).below h2').setCell (p := ⟨p, 2, none⟩) (.inl rfl) _)
  · intro b hb
    rcases hb with rfl | rfl | rfl
    · exact .inl rfl
    · right; omega
    · right; omega

set_option maxRecDepth 100000 in
set_option maxHeartbeats 1000000 in
theorem rlnkFresh_any (p : Nat) (window room epoch : Int) (passive : Bool) (x0 x1 x2 : Value) (w : World) (hg : Blk w p 165 #[x0, x1, x2, .int .i64 window, .int .i64 room, .bool passive]) :
    Calls Tryd.prog 92 #[ptr p, .int .i64 epoch] w fun e w' => e = .returned (.tuple #[]) ∧ ∃ F', IsRLnk w' p F' (LS.anew window room passive epoch) ∧ Step (fun b => b = p) w F' w' := by
  unfold ptr
  have Hg := Lib.hid hg
  obtain ⟨c0, f0, z0⟩ := hg.rules
  clear hg
  go_enter Tryd.func92, Tryd.ntmps92
  go_wp2_with (first
    | (go_at_call 146; refine (rsndNew_any _ _ _).mono ?_; rintro e w1 ⟨rfl, hs1, hb1⟩; have g1 := (Hg.out.set 0 _).below hb1; obtain ⟨c1, f1, z1⟩ := g1.rules; rw [World.size_setCell] at hs1; have Hs1 := Lib.hid hs1)
    | (go_at_call 147; refine (rrcvNew_any _ _).mono ?_; rintro e w2 ⟨rfl, hr2, hb2⟩; obtain ⟨c2, f2, z2⟩ := ((g1.set 1 _).below hb2).rules; rw [World.size_setCell] at hr2; have Hr2 := Lib.hid hr2))
  all_goals
    go_end0
    refine ⟨rfl, ?_⟩
    refine rlnk_begun (epoch := epoch) Hg.out rfl ?_ hb1 Hs1.out ?_ ?_ Hr2.out (Nat.le_refl _) rfl
    · unfold clampI; (repeat' split) <;> omega
    · rw [World.size_setCell]; exact Nat.le_refl _
    · rw [World.size_setCell] at hb2; exact hb2

set_option maxHeartbeats 1000000 in
theorem rlnkNew_any (epoch window room : Int) (passive : Bool) (w : World) :
    Calls Tryd.prog 35 #[.int .i64 epoch, .int .i64 window, .int .i64 room, .bool passive] w fun e w' => ∃ p F, e = .returned (ptr p) ∧ w.heap.size ≤ p ∧ IsRLnk w' p F (LS.anew window room passive epoch) ∧ (∀ b, F b → w.heap.size ≤ b) ∧ Below w.heap.size w w' := by
  go_enter Tryd.func35, Tryd.ntmps35
  go_wp2_with (go_at_call 92; refine (rlnkFresh_any w.heap.size window room epoch passive _ _ _ _ (Blk.new w 165 _)).mono ?_; rintro e w1 ⟨rfl, F', hl, hst⟩)
  go_ret
  refine ⟨w.heap.size, F', rfl, Nat.le_refl _, hl, fun b hb => ?_, ?_⟩
  · rcases hst.upg b hb with rfl | h
    · exact Nat.le_refl _
    · simp at h; omega
  · exact ((Below.refl _ _).alloc (Nat.le_refl _) _).trans (hst.mod.to_below (by simp) fun i hi => Nat.le_of_eq hi.symm)

end Go.Proofs.YthdnoljmiehegaaDoor
