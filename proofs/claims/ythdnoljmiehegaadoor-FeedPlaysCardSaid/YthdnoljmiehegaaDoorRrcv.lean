/- WHAT IS PROVED HERE: the reference's receiver does what the receiver as data does. -/
import Derived.Test.YthdnoljmiehegaaDoorRsnd
set_option linter.unusedVariables false
set_option linter.unusedSimpArgs false
namespace Go.Proofs.YthdnoljmiehegaaDoor
open Go.RowKit

def IsRRcv (w : World) (p : Nat) (F : Nat → Prop) (r : RS) : Prop :=
  ∃ A c, ∃ l : List ByteArray, Blk w p 187 #[.int .i64 r.room, .slice A r.n c, .int .i64 0] ∧ OwnL KS 9 anyB w (.slice A r.n c) l ∧ l.length = r.n ∧ r.Ok ∧ ∀ b, F b ↔ b = p ∨ (Value.slice A r.n c).ownBlock = some b
theorem IsRRcv.keep {w w' : World} {p : Nat} {F : Nat → Prop} {r : RS} (h : IsRRcv w p F r) (hs : w.heap.size ≤ w'.heap.size) (hk : ∀ b, F b → b < w.heap.size → w'.heap[b]? = w.heap[b]?) : IsRRcv w' p F r := by
  obtain ⟨A, c, l, hg, hown, hl, hok, hF⟩ := h
  obtain ⟨xs, h1, h2, h3⟩ := hown
  exact ⟨A, c, l, (hk p ((hF p).2 (.inl rfl)) hg.lt).trans hg, ⟨xs, h1.keep fun b hb hl => hk b ((hF b).2 (.inr hb)) hl, h2.flat KS.flat, h3⟩, hl, hok, hF⟩
theorem IsRRcv.below {w w' : World} {p : Nat} {F : Nat → Prop} {r : RS} (h : IsRRcv w p F r) (hb : Below w.heap.size w w') : IsRRcv w' p F r := h.keep hb.size fun b _ hl => hb.block _ hl
theorem IsRRcv.lt {w : World} {p : Nat} {F : Nat → Prop} {r : RS} (h : IsRRcv w p F r) : ∀ b, F b → b < w.heap.size := by
  obtain ⟨A, c, l, hg, hown, hl, hok, hF⟩ := h
  intro b hb
  rcases (hF b).1 hb with rfl | hb
  · exact hg.lt
  · exact hown.lt b hb

set_option maxHeartbeats 1000000 in
theorem rrcvNew_any (a : Int) (w : World) :
    Calls Tryd.prog 147 #[.int .i64 a] w fun e w' => e = .returned (.pointer (some ⟨w.heap.size, 0, none⟩)) ∧ IsRRcv w' w.heap.size (fun i => i = w.heap.size) (RS.new a) ∧ Below w.heap.size w w' := by
  go_enter Tryd.func147, Tryd.ntmps147
  go_wp2
  all_goals
    go_ret
    refine ⟨rfl, ⟨none, 0, [], ?_, OwnL.nil _ _ _ _, rfl, RS.new_ok a, fun i => by simp [Value.ownBlock]⟩, (Below.refl _ _).alloc (Nat.le_refl _) _⟩
    go_light
    have hx : ∀ x, x = clampI a 1 16 → Blk (w.alloc (.cells #[.int .i64 x, .slice none 0 0, .int .i64 0] 187)) w.heap.size 187 #[.int .i64 (RS.new a).room, .slice none (RS.new a).n 0, .int .i64 0] := by
      rintro x rfl
      exact Blk.new _ _ _
    refine hx _ ?_
    unfold clampI
    (repeat' split) <;> omega

set_option maxRecDepth 100000 in
set_option maxHeartbeats 1000000 in
theorem rrcvHear_any (p : Nat) (F : Nat → Prop) (r : RS) (q : Int) (d : ByteArray) (w : World) (h : IsRRcv w p F r) (hqr : q ≤ 9223372036854775807) :
    Calls Tryd.prog 103 #[.pointer (some ⟨p, 0, none⟩), .int .i64 q, .string d] w fun e w' => (∃ b, e = .returned (.bool b)) ∧ ∃ F', IsRRcv w' p F' (r.hear q) ∧ Step F w F' w' := by
  have hself := Lib.hid h
  obtain ⟨A, c, l, hg, hown, hl, hok, hF⟩ := h
  have r1 := hok.r1
  have r2 := hok.r2
  have n1 := hok.n1
  have Hok := Lib.hid hok
  have HF := Lib.hid hF
  have Hg := Lib.hid hg
  have Hl := Lib.hid hl
  rw [← hl] at hown
  have Hsl := Lib.hid hown.sl'
  obtain ⟨c0, f0, z0⟩ := hg.rules
  clear hown hF hg hok hl
  by_cases e1 : (r.n : Int) < r.room ∧ q = r.n + 1
  · have hs : r.hear q = { r with n := r.n + 1 } := if_pos e1
    have ht1 : decide (r.room ≤ (r.n : Int)) = false := by simp; omega
    have ht2 : decide (q < 1) = false := by simp; omega
    have ht3 : (q - 1 != (r.n : Int)) = false := by simp; omega
    have hq1 : -9223372036854775808 ≤ q - 1 := by omega
    have hq2 : q ≤ 17 := by omega
    have Hs := Lib.hid hs
    clear hs e1
    go_enter Tryd.func103, Tryd.ntmps103
    go_wp2
    go_quiet (fail)
    generalize hW : World.drewN w _ = W
    have HslW := Lib.hid (show SL KS anyB W A c l by rw [← hW]; exact Hsl.out.drewN _)
    have HgW := Lib.hid (show Blk W p 187 _ by rw [← hW]; exact Hg.out)
    have HmW := Lib.hid (show Mod F w W by rw [← hW]; exact (Mod.refl _ _).drewN _)
    clear hW c0 f0
    obtain ⟨c0, f0, z1⟩ := HgW.out.rules
    go_wp2_with (first
      | (at_builtin; (refine wpList_extendF KS _ KS.flat rfl _ _ _ rfl 9 _ 16 Tryd.underlying113 info9 rfl (by decide) (by decide) (newB W) (.slice (some ⟨W.heap.size, 0, none⟩) 0 0) [] l rfl (OwnL.empty KS 9 W (Nat.le_refl _)) 0 rfl r.n Hl.out A c rfl anyB (HslW.out.alloc _) (by simp [newB]) (by omega) ?_); intro A3 c3 w3 hown3 hg3 hat3; have kg3 := (HgW.out.alloc (.cells #[] 9)).grown hg3 (fun e => by simp [Value.ownBlock] at e; omega); obtain ⟨c5, f5, z5⟩ := kg3.rules; simp only [Nat.zero_add, List.nil_append] at hown3; have Hown3 := Lib.hid hown3; clear hown3)
      | (at_builtin; (refine wpList_push KS _ rfl _ _ _ rfl 9 _ 16 Tryd.underlying113 info9 rfl (by decide) (by decide) (newB W) (.slice A3 r.n c3) l (by first | rfl | simp) (Hown3.out.alloc _) r.n Hl.out w3.heap.size d 9 _ rfl (Blk.new w3 9 _) rfl (by have h3 := hg3.size; rw [World.size_alloc] at h3; show W.heap.size ≤ (w3.alloc _).heap.size; rw [World.size_alloc]; omega) (by omega) ?_); intro A4 c4 w4 hown4 hg4 hat4; have kg4 := (kg3.alloc (.cells #[.string d] 9)).grown hg4 (fun e => by have := Hown3.out.ok_ _ e.symm; simp only [newB] at this; omega); obtain ⟨c6, f6, z6⟩ := kg4.rules))
    all_goals
      go_ret
      have hWs := HmW.out.size
      have hm1 : ∀ g, (Value.slice (some ⟨W.heap.size, 0, none⟩) 0 0).ownBlock = some g → F g ∨ w.heap.size ≤ g := by
        intro g hg
        have : W.heap.size = g := by simpa [Value.ownBlock] using hg
        exact .inr (by omega)
      have hm2 : ∀ g, (Value.slice A3 r.n c3).ownBlock = some g → F g ∨ w.heap.size ≤ g := by
        intro g hg
        have : W.heap.size ≤ g := Hown3.out.ok_ g hg
        exact .inr (by omega)
      have hmod : Mod F w w4 := (((HmW.out.alloc (.cells #[] 9)).grown hg3 hm1).alloc (.cells #[.string d] 9)).grown hg4 hm2
      have hpb : ∀ b, (Value.slice A4 (r.n + 1) c4).ownBlock = some b → W.heap.size ≤ b := fun b hb => hown4.ok_ b hb
      have hok' := RS.hear_ok Hok.out q
      rw [Hs.out] at hok' ⊢
      refine ⟨⟨true, rfl⟩, fun b => b = p ∨ (Value.slice A4 (r.n + 1) c4).ownBlock = some b, ⟨A4, c4, l ++ [d], ?_, ?_, by simp [Hl.out], hok', fun b => Iff.rfl⟩, ⟨?_, ?_⟩⟩
      · have := kg4.set 1 (.slice A4 (r.n + 1) c4)
        simpa using this
      · obtain ⟨xs, q1, q2, q3⟩ := hown4
        exact ⟨xs, q1.off (fun b hb e => q1.ne_blk kg4 (by decide) (by rw [hb, e])) _, q2.flat KS.flat, fun _ _ => trivial⟩
      · exact hmod.setCell (p := ⟨p, 1, none⟩) (.inl ((HF.out p).2 (.inl rfl))) _
      · intro b hb
        rcases hb with rfl | hb
        · exact .inl ((HF.out _).2 (.inl rfl))
        · have := hpb b hb; exact .inr (by omega)
  · have hs : r.hear q = r := if_neg e1
    have Hs := Lib.hid hs
    have hfin : ∀ n, ∃ F', IsRRcv (w.drewN n) p F' (r.hear q) ∧ Step F w F' (w.drewN n) := by
      intro n
      refine ⟨F, ?_, Step.of_below (below_drewN' (Below.refl _ _) _)⟩
      rw [hs]
      exact hself.out.keep (Nat.le_refl _) (fun _ _ _ => rfl)
    have Hfin := Lib.hid hfin
    clear hs hfin
    by_cases e2 : r.room ≤ (r.n : Int)
    · have ht1 : decide (r.room ≤ (r.n : Int)) = true := by simpa using e2
      clear e1 e2
      go_enter Tryd.func103, Tryd.ntmps103
      go_wp2
      go_quiet (fail)
      go_wp2
      all_goals
        go_ret
        exact ⟨⟨false, rfl⟩, Hfin.out _⟩
    · have ht1 : decide (r.room ≤ (r.n : Int)) = false := by simpa using e2
      by_cases e3 : q < 1
      · have ht2 : decide (q < 1) = true := by simpa using e3
        clear e1 e2 e3
        go_enter Tryd.func103, Tryd.ntmps103
        go_wp2
        go_quiet (fail)
        go_wp2
        all_goals
          go_ret
          exact ⟨⟨false, rfl⟩, Hfin.out _⟩
      · have ht2 : decide (q < 1) = false := by simpa using e3
        have ht3 : (q - 1 != (r.n : Int)) = true := by simp; omega
        have hq1 : 1 ≤ q := by omega
        clear e1 e2 e3
        go_enter Tryd.func103, Tryd.ntmps103
        go_wp2
        go_quiet (fail)
        go_wp2
        all_goals
          go_ret
          exact ⟨⟨false, rfl⟩, Hfin.out _⟩

end Go.Proofs.YthdnoljmiehegaaDoor
