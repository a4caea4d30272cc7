/- WHAT IS PROVED HERE: the program's sender does what the sender as data does. -/
import Derived.Test.YthdnoljmiehegaaDoorObj
import Derived.BigRegion
import Derived.Deep.RegionLaw
import Derived.Deep.RegionHeld3
set_option linter.unusedVariables false
set_option linter.unusedSimpArgs false
namespace Go.Proofs.YthdnoljmiehegaaDoor
open Go.RowKit

def IsSnd (w : World) (p : Nat) (F : Nat → Prop) (s : SS) : Prop :=
  ∃ A c, Blk w p 236 #[.int .i64 s.window, .int .i64 s.last, .int .i64 s.all.length, .slice A (s.all.length - s.acked) c] ∧
    OwnL KP 182 anyB w (.slice A (s.all.length - s.acked) c) (pcs s.acked (s.all.drop s.acked)) ∧ s.Ok ∧ ∀ b, F b ↔ b = p ∨ (Value.slice A (s.all.length - s.acked) c).ownBlock = some b
theorem pcs_len {s : SS} : (pcs s.acked (s.all.drop s.acked)).length = s.all.length - s.acked := by rw [pcs_length, List.length_drop]
theorem IsSnd.keep {w w' : World} {p : Nat} {F : Nat → Prop} {s : SS} (h : IsSnd w p F s) (hs : w.heap.size ≤ w'.heap.size) (hk : ∀ b, F b → b < w.heap.size → w'.heap[b]? = w.heap[b]?) : IsSnd w' p F s := by
  obtain ⟨A, c, hg, hown, hok, hF⟩ := h
  obtain ⟨xs, h1, h2, h3⟩ := hown
  exact ⟨A, c, (hk p ((hF p).2 (.inl rfl)) hg.lt).trans hg, ⟨xs, h1.keep fun b hb hl => hk b ((hF b).2 (.inr hb)) hl, h2.flat KP.flat, h3⟩, hok, hF⟩
theorem IsSnd.lt {w : World} {p : Nat} {F : Nat → Prop} {s : SS} (h : IsSnd w p F s) : ∀ b, F b → b < w.heap.size := by
  obtain ⟨A, c, hg, hown, hok, hF⟩ := h
  intro b hb
  rcases (hF b).1 hb with rfl | hb
  · exact hg.lt
  · exact hown.lt b hb

theorem sndNew_is (w : World) (a b x y : Int) (hx : x = clampI a 1 16) (hy : y = clampI b 0 1125899906842624) :
    IsSnd (w.alloc (.cells #[.int .i64 x, .int .i64 y, .int .i64 0, .slice none 0 0] 236)) w.heap.size (fun i => i = w.heap.size) (SS.new a b) := by
  subst hx hy
  exact ⟨none, 0, Blk.new _ _ _, OwnL.nil _ _ _ _, SS.new_ok a b, fun i => by simp [Value.ownBlock]⟩

set_option maxHeartbeats 1000000 in
theorem sndNew_any (a b : Int) (w : World) :
    Calls Tryd.prog 144 #[.int .i64 a, .int .i64 b] w fun e w' => e = .returned (.pointer (some ⟨w.heap.size, 0, none⟩)) ∧ IsSnd w' w.heap.size (fun i => i = w.heap.size) (SS.new a b) ∧ Below w.heap.size w w' := by
  go_enter Tryd.func144, Tryd.ntmps144
  go_wp2
  all_goals
    go_ret
    refine ⟨rfl, sndNew_is w a b _ _ ?_ ?_, (Below.refl _ _).alloc (Nat.le_refl _) _⟩
    all_goals
      go_light
      unfold clampI
      (repeat' split) <;> omega

/-- One piece more: the state, said as data. -/
theorem snd_grown {w W wa w2 w3 : World} {p : Nat} {F : Nat → Prop} {s : SS} {d : ByteArray} {A A3 : Option Addr} {n c c3 : Nat} (hs : s.offer d = { s with all := s.all ++ [d] }) (hok : s.Ok)
    (hn : s.all.length - s.acked = n) (hF : ∀ b, F b ↔ b = p ∨ (Value.slice A n c).ownBlock = some b) (mW : Mod F w W) (ha : Below W.heap.size W wa)
    (kB : Blk w2 p 236 #[.int .i64 s.window, .int .i64 s.last, .int .i64 (s.all.length + 1), .slice A n c])
    (ho : OwnL KP 182 anyB w2 (.slice A3 (n + 1) c3) (pcs s.acked (s.all.drop s.acked) ++ [{ seq := s.all.length + 1, data := d }]))
    (hg : wa.grownBy w2 (Value.slice A n n).ownBlock) (hat : (Value.slice A3 (n + 1) c3).ownBlock = (Value.slice A n n).ownBlock ∨ (Value.slice A3 (n + 1) c3).ownBlock = some wa.heap.size)
    (h3 : w3 = w2.setCell ⟨p, 3, none⟩ (.slice A3 (n + 1) c3)) :
    ∃ F', IsSnd w3 p F' (s.offer d) ∧ Step F w F' w3 := by
  have a1 := hok.a1
  have he : (Value.slice A n n).ownBlock = (Value.slice A n c).ownBlock := by cases A <;> rfl
  rw [he] at hg hat
  have hl : (s.offer d).all.length - (s.offer d).acked = n + 1 := by rw [hs]; simp only [List.length_append, List.length_cons, List.length_nil]; omega
  have hp : pcs (s.offer d).acked ((s.offer d).all.drop (s.offer d).acked) = pcs s.acked (s.all.drop s.acked) ++ [{ seq := s.all.length + 1, data := d }] := by
    rw [hs]
    simp only
    rw [List.drop_append_of_le_length (by omega), pcs_append]
    simp only [pcs, List.length_drop, List.append_cancel_left_eq, List.cons.injEq, and_true, Pc.mk.injEq]
    omega
  refine ⟨fun b => b = p ∨ (Value.slice A3 (n + 1) c3).ownBlock = some b, ⟨A3, c3, ?_, ?_, SS.offer_ok hok d, ?_⟩, ⟨?_, ?_⟩⟩
  · rw [hl, h3]
    have := kB.set 3 (.slice A3 (n + 1) c3)
    rw [hs]
    simpa using this
  · rw [hl, hp, h3]
    obtain ⟨xs, q1, q2, q3⟩ := ho
    exact ⟨xs, q1.off (fun b hb e => q1.ne_blk kB (by decide) (by rw [hb, e])) _, q2.flat KP.flat, q3⟩
  · intro b; rw [hl]
  · rw [h3]
    refine Mod.setCell (Mod.grown (mW.below ha) hg ?_) (p := ⟨p, 3, none⟩) (.inl ((hF p).2 (.inl rfl))) _
    intro g hgb
    exact .inl ((hF g).2 (.inr hgb))
  · intro b hb
    rcases hb with rfl | hb
    · exact .inl ((hF _).2 (.inl rfl))
    · rcases hat with e | e <;> rw [e] at hb
      · exact .inl ((hF _).2 (.inr hb))
      · right
        have := ha.size
        have := mW.size
        simp at hb
        omega

set_option maxRecDepth 100000 in
set_option maxHeartbeats 1000000 in
theorem sndOffer_any (p : Nat) (F : Nat → Prop) (s : SS) (d : ByteArray) (w : World) (h : IsSnd w p F s) (hl : s.all.length ≤ 100000) :
    Calls Tryd.prog 153 #[.pointer (some ⟨p, 0, none⟩), .string d] w fun e w' => (∃ n, e = .returned (.tuple #[.int .i64 n, .int .i64 s.err])) ∧ ∃ F', IsSnd w' p F' (s.offer d) ∧ Step F w F' w' := by
  obtain ⟨A, c, hg, hown, hok, hF⟩ := h
  have a1 := hok.a1
  have a2 := hok.a2
  have a3 := hok.a3
  have w2 := hok.w2
  have l2 := hok.l2
  have hlen : (pcs s.acked (s.all.drop s.acked)).length = s.all.length - s.acked := pcs_len
  have hnn : ((s.all.length - s.acked : Nat) : Int) = (s.all.length : Int) - s.acked := by omega
  by_cases e1 : s.window ≤ (s.all.length : Int) - s.acked
  · have hfin : s.err = 7 := if_pos e1
    have hs : s.offer d = s := by unfold SS.offer; rw [if_neg (by omega)]
    have ht : (((s.all.length - s.acked : Nat) : Int) == s.window) = true := by rw [beq_iff_eq]; omega
    have Hfin := Lib.hid hfin
    have Hs := Lib.hid hs
    have hself : IsSnd w p F s := ⟨A, c, hg, hown, hok, hF⟩
    clear hfin hs hnn hown hF hlen
    obtain ⟨c0, f0, z0⟩ := hg.rules
    generalize s.all.length - s.acked = n at *
    go_enter Tryd.func153, Tryd.ntmps153
    go_wp2
    go_quiet (fail)
    go_wp2
    go_ret2
    refine ⟨⟨0, by rw [Hfin.out]; rfl⟩, F, ?_, Step.of_below (below_drewN' (Below.refl _ _) _)⟩
    rw [Hs.out]
    exact hself.keep (Nat.le_refl _) (fun _ _ _ => rfl)
  · by_cases e2 : s.last ≤ s.all.length
    · have hfin : s.err = 8 := by unfold SS.err; rw [if_neg e1, if_pos e2]
      have hs : s.offer d = s := by unfold SS.offer; rw [if_neg (by omega)]
      have ht : (((s.all.length - s.acked : Nat) : Int) == s.window) = false := by rw [beq_eq_false_iff_ne]; omega
      have ht2 : ((s.all.length : Int) == s.last) = true := by rw [beq_iff_eq]; omega
      have Hfin := Lib.hid hfin
      have Hs := Lib.hid hs
      have hself : IsSnd w p F s := ⟨A, c, hg, hown, hok, hF⟩
      clear hfin hs hnn hown hF hlen
      obtain ⟨c0, f0, z0⟩ := hg.rules
      generalize s.all.length - s.acked = n at *
      go_enter Tryd.func153, Tryd.ntmps153
      go_wp2
      go_quiet (fail)
      go_wp2
      go_quiet (fail)
      go_wp2
      go_ret2
      refine ⟨⟨0, by rw [Hfin.out]; rfl⟩, F, ?_, Step.of_below (below_drewN' (below_drewN' (Below.refl _ _) _) _)⟩
      rw [Hs.out]
      exact hself.keep (Nat.le_refl _) (fun _ _ _ => rfl)
    · have hfin : s.err = 0 := by unfold SS.err; rw [if_neg e1, if_neg e2]
      have hs : s.offer d = { s with all := s.all ++ [d] } := by unfold SS.offer; rw [if_pos hfin]
      have ht : (((s.all.length - s.acked : Nat) : Int) == s.window) = false := by rw [beq_eq_false_iff_ne]; omega
      have ht2 : ((s.all.length : Int) == s.last) = false := by rw [beq_eq_false_iff_ne]; omega
      have hnc : s.all.length - s.acked ≤ c := by
        obtain ⟨A', c', h1, h2, _⟩ := hown.shape
        rw [hlen] at h1 h2
        cases h1
        exact h2
      have Hfin := Lib.hid hfin
      have Hs := Lib.hid hs
      have Hown := Lib.hid hown
      have HF := Lib.hid hF
      have Hlen := Lib.hid hlen
      clear hfin hs hown hF hlen
      obtain ⟨c0, f0, z0⟩ := hg.rules
      have hnb : s.all.length - s.acked ≤ 16 := by omega
      clear hnn
      generalize hn : s.all.length - s.acked = n at *
      have Hn := Lib.hid hn
      clear hn
      go_enter Tryd.func153, Tryd.ntmps153
      go_wp2
      go_quiet (fail)
      go_wp2
      go_quiet (fail)
      go_wp2
      generalize hW : World.setCell (World.drewN w _) _ _ = W
      have kW : Blk W p 236 #[.int .i64 s.window, .int .i64 s.last, .int .i64 (s.all.length + 1), .slice A n c] := by rw [← hW]; exact (hg.drewN _).set 2 _
      have oW : OwnL KP 182 anyB W (.slice A n c) (pcs s.acked (s.all.drop s.acked)) := by
        rw [← hW]
        obtain ⟨xs, h1, h2, h3⟩ := Hown.out
        exact ⟨xs, (h1.drewN _).off (fun b hb e => h1.ne_blk hg (by decide) (by rw [hb, e])) _, h2.flat KP.flat, h3⟩
      have mW : Mod F w W := by rw [← hW]; exact ((Mod.refl F w).drewN _).setCell (p := ⟨p, 2, none⟩) (.inl ((HF.out p).2 (.inl rfl))) _
      have hne : (Value.slice A n c).ownBlock ≠ some p := oW.ne_blk kW (by decide)
      have KW := kW
      have OW := Lib.hid (oW.clip Hlen.out)
      clear hW c0 f0 oW
      obtain ⟨c0, f0, z1⟩ := kW.rules
      go_region_law (first
        | ((refine step_push KP _ (by rfl) _ _ _ (by rfl) 182 _ 24 Tryd.underlying179 info182 (by rfl) (by decide) (by decide) anyB (.slice A n n) (pcs s.acked (s.all.drop s.acked)) (by rfl) ((OW.out.drewN 1).alloc _) n Hlen.out W.heap.size ⟨s.all.length + 1, d⟩ 182 _ (by rfl) (Blk.new W.drew 182 _) rfl trivial (by omega) ?_; intro A3 c3 w2 hown2 hg2 hat2; obtain ⟨c1, f1, z2⟩ := (((KW.drewN 1).alloc _).grown hg2 (fun e => hne (by cases A <;> simp_all [Value.ownBlock]))).rules)))
      all_goals
        go_wp2
        go_ret2
        refine ⟨⟨s.all.length + 1, by rw [Hfin.out]; rfl⟩, ?_⟩
        exact snd_grown Hs.out hok Hn.out HF.out mW ((below_drewN' (Below.refl _ _) 1).alloc (Nat.le_refl _) _) (((KW.drewN 1).alloc _).grown hg2 (fun e => hne (by cases A <;> simp_all [Value.ownBlock]))) hown2 hg2 hat2 rfl

end Go.Proofs.YthdnoljmiehegaaDoor
