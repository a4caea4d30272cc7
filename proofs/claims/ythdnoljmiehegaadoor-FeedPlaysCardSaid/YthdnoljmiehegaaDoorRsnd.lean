/- WHAT IS PROVED HERE: the reference's sender and receiver do what the sender and the receiver as data do. -/
import Derived.Test.YthdnoljmiehegaaDoorRcv
import Derived.Deep.RegionLaw
set_option linter.unusedVariables false
set_option linter.unusedSimpArgs false
namespace Go.Proofs.YthdnoljmiehegaaDoor
open Go.RowKit

section
variable {P : Program} {α : Type} (K : Kind α) (w : World)
/-- Another slice behind it, of elements that lead nowhere: it may lie anywhere. -/
theorem wp_extendF {o : Oper} {a : Act} {N : Act → World → Prop} {Q : Exit → Act → World → Prop} (hf : K.Flat) (s x : Operand) (t : TypeId)
    (ho : o.op = .call { callee := .builtin .append, args := #[s, x], argTypes := #[t, t] })
    (e : TypeId) (z : Value) (bytes : Nat) (ht : P.underlying t = some (.slice e)) (hinfo : (P.info? e).map (fun i => (i.zero, i.size, i.bytes)) = some (some z, K.sz, bytes))
    (hzs : z.cells.size = K.sz) (hsz : 0 < K.sz) (hb0 : 0 < bytes) (ok : Nat → Prop)
    (v : Value) (l m : List α) (hs : a.eval s = v) (hown : OwnL K e ok w v l) (n : Nat) (hlen : l.length = n) (q : Nat) (hq : m.length = q) (B : Option Addr) (d : Nat) (hx : a.eval x = .slice B q d)
    (ok' : Nat → Prop) (hsl : SL K ok' w B d m) (hn : ok w.heap.size) (hbytes : (n + q) * bytes ≤ 140737488355328)
    (h : ∀ A c w', OwnL K e ok w' (.slice A (n + q) c) (l ++ m) → w.grownBy w' v.ownBlock → ((Value.slice A (n + q) c).ownBlock = v.ownBlock ∨ (Value.slice A (n + q) c).ownBlock = some w.heap.size) → N (a.put o.dst (.slice A (n + q) c)) w') : o.wp P a w N Q := by
  subst hlen
  subst hq
  obtain ⟨xs, h1, h2, h3⟩ := hown
  obtain ⟨news, hsrc, henc⟩ := Src.of_sl hsl
  refine wp_append_gen w s x t ho e z K.sz bytes ht hinfo hzs hsz hb0 v l.length xs hs h1 _ m.length d _ hx hsrc hbytes ?_
  intro v' w' hown' hg' hat
  have hL : OwnL K e ok w' v' (l ++ m) := OwnL.grow h1 h2 h3 (henc.flat hf) hn hown' hg' hat
  obtain ⟨A, c, rfl, _, _⟩ := hown'.shape
  exact h A c w' hL hg' hat
theorem wpList_extendF {ops : Array Oper} {rest : List Oper} {o : Oper} {a : Act} {Q : Exit → Act → World → Prop} (hf : K.Flat) (hgd : o.guard = none) (s x : Operand) (t : TypeId)
    (ho : o.op = .call { callee := .builtin .append, args := #[s, x], argTypes := #[t, t] })
    (e : TypeId) (z : Value) (bytes : Nat) (ht : P.underlying t = some (.slice e)) (hinfo : (P.info? e).map (fun i => (i.zero, i.size, i.bytes)) = some (some z, K.sz, bytes))
    (hzs : z.cells.size = K.sz) (hsz : 0 < K.sz) (hb0 : 0 < bytes) (ok : Nat → Prop)
    (v : Value) (l m : List α) (hs : a.eval s = v) (hown : OwnL K e ok w v l) (n : Nat) (hlen : l.length = n) (q : Nat) (hq : m.length = q) (B : Option Addr) (d : Nat) (hx : a.eval x = .slice B q d)
    (ok' : Nat → Prop) (hsl : SL K ok' w B d m) (hn : ok w.heap.size) (hbytes : (n + q) * bytes ≤ 140737488355328)
    (h : ∀ A c w', OwnL K e ok w' (.slice A (n + q) c) (l ++ m) → w.grownBy w' v.ownBlock → ((Value.slice A (n + q) c).ownBlock = v.ownBlock ∨ (Value.slice A (n + q) c).ownBlock = some w.heap.size) → wpList P ops Q rest (a.put o.dst (.slice A (n + q) c)) w') :
    wpList P ops Q (o :: rest) a w :=
  wpList_plain hgd fun _ hK => wp_extendF K w hf s x t ho e z bytes ht hinfo hzs hsz hb0 ok v l m hs hown n hlen q hq B d hx ok' hsl hn hbytes fun A c w' h1 h2 h3 => hK _ _ (h A c w' h1 h2 h3)
theorem step_extendF {ops : Array Oper} {o : Oper} {a : Act} {N : Act → World → Prop} {Q : Exit → Act → World → Prop} {E : Prop} (hf : K.Flat) (hgd : o.guard = none) (s x : Operand) (t : TypeId)
    (ho : o.op = .call { callee := .builtin .append, args := #[s, x], argTypes := #[t, t] })
    (e : TypeId) (z : Value) (bytes : Nat) (ht : P.underlying t = some (.slice e)) (hinfo : (P.info? e).map (fun i => (i.zero, i.size, i.bytes)) = some (some z, K.sz, bytes))
    (hzs : z.cells.size = K.sz) (hsz : 0 < K.sz) (hb0 : 0 < bytes) (ok : Nat → Prop)
    (v : Value) (l m : List α) (hs : a.eval s = v) (hown : OwnL K e ok w v l) (n : Nat) (hlen : l.length = n) (q : Nat) (hq : m.length = q) (B : Option Addr) (d : Nat) (hx : a.eval x = .slice B q d)
    (ok' : Nat → Prop) (hsl : SL K ok' w B d m) (hn : ok w.heap.size) (hbytes : (n + q) * bytes ≤ 140737488355328)
    (h : ∀ A c w', OwnL K e ok w' (.slice A (n + q) c) (l ++ m) → w.grownBy w' v.ownBlock → ((Value.slice A (n + q) c).ownBlock = v.ownBlock ∨ (Value.slice A (n + q) c).ownBlock = some w.heap.size) → N (a.put o.dst (.slice A (n + q) c)) w') :
    if Region.wanted o (yielded ops a.tmps) = true then Oper.wp P o a w N Q else E := by
  have hw : Region.wanted o (yielded ops a.tmps) = true := by simp [Region.wanted, hgd]
  rw [if_pos hw]
  exact wp_extendF K w hf s x t ho e z bytes ht hinfo hzs hsz hb0 ok v l m hs hown n hlen q hq B d hx ok' hsl hn hbytes h
end

def IsRSnd (w : World) (p : Nat) (F : Nat → Prop) (s : SS) : Prop :=
  ∃ A c, Blk w p 185 #[.int .i64 s.window, .int .i64 s.last, .slice A s.all.length c, .int .i64 s.acked] ∧ OwnL KS 9 anyB w (.slice A s.all.length c) s.all ∧ s.Ok ∧ ∀ b, F b ↔ b = p ∨ (Value.slice A s.all.length c).ownBlock = some b
theorem IsRSnd.keep {w w' : World} {p : Nat} {F : Nat → Prop} {s : SS} (h : IsRSnd w p F s) (hs : w.heap.size ≤ w'.heap.size) (hk : ∀ b, F b → b < w.heap.size → w'.heap[b]? = w.heap[b]?) : IsRSnd w' p F s := by
  obtain ⟨A, c, hg, hown, hok, hF⟩ := h
  obtain ⟨xs, h1, h2, h3⟩ := hown
  exact ⟨A, c, (hk p ((hF p).2 (.inl rfl)) hg.lt).trans hg, ⟨xs, h1.keep fun b hb hl => hk b ((hF b).2 (.inr hb)) hl, h2.flat KS.flat, h3⟩, hok, hF⟩
theorem IsRSnd.below {w w' : World} {p : Nat} {F : Nat → Prop} {s : SS} (h : IsRSnd w p F s) (hb : Below w.heap.size w w') : IsRSnd w' p F s := h.keep hb.size fun b _ hl => hb.block _ hl
theorem IsRSnd.lt {w : World} {p : Nat} {F : Nat → Prop} {s : SS} (h : IsRSnd w p F s) : ∀ b, F b → b < w.heap.size := by
  obtain ⟨A, c, hg, hown, hok, hF⟩ := h
  intro b hb
  rcases (hF b).1 hb with rfl | hb
  · exact hg.lt
  · exact hown.lt b hb

set_option maxHeartbeats 1000000 in
theorem rclamp_any (a lo hi : Int) (w : World) : Calls Tryd.prog 166 #[.int .i64 a, .int .i64 lo, .int .i64 hi] w fun e w' => e = .returned (.int .i64 (clampI a lo hi)) ∧ w' = w := by
  go_enter Tryd.func166, Tryd.ntmps166
  go_wp2
  all_goals
    go_ret
    refine ⟨?_, rfl⟩
    go_light
    simp [clampI]
    (repeat' split) <;> first | rfl | omega

set_option maxHeartbeats 1000000 in
theorem rsndNew_any (a b : Int) (w : World) :
    Calls Tryd.prog 146 #[.int .i64 a, .int .i64 b] w fun e w' => e = .returned (.pointer (some ⟨w.heap.size, 0, none⟩)) ∧ IsRSnd w' w.heap.size (fun i => i = w.heap.size) (SS.new a b) ∧ Below w.heap.size w w' := by
  have h1 := fun w => rclamp_any a 1 16 w
  have h2 := fun w => rclamp_any b 0 1125899906842624 w
  have hs : SS.new a b = ⟨clampI a 1 16, clampI b 0 1125899906842624, [], 0⟩ := rfl
  generalize hx : clampI a 1 16 = x at *
  generalize hy : clampI b 0 1125899906842624 = y at *
  have Hs := Lib.hid hs
  clear hx hy hs
  go_enter Tryd.func146, Tryd.ntmps146
  go_wp2_with fail
  refine (h1 _).mono ?_
  rintro e w1 ⟨rfl, rfl⟩
  go_wp2_with fail
  refine (h2 _).mono ?_
  rintro e w2 ⟨rfl, rfl⟩
  go_wp2
  go_ret
  refine ⟨rfl, ⟨none, 0, ?_, ?_, SS.new_ok a b, fun i => ?_⟩, (Below.refl _ _).alloc (Nat.le_refl _) _⟩
  · rw [Hs.out]; exact Blk.new _ _ _
  · rw [Hs.out]; exact OwnL.nil _ _ _ _
  · rw [Hs.out]; simp [Value.ownBlock]

set_option maxRecDepth 100000 in
set_option maxHeartbeats 1000000 in
theorem rsndLeft_any (p : Nat) (F : Nat → Prop) (s : SS) (w : World) (h : IsRSnd w p F s) (hl : s.all.length ≤ 100000) :
    Calls Tryd.prog 110 #[.pointer (some ⟨p, 0, none⟩)] w fun e w' => (∃ A c, e = .returned (.slice A (s.all.length - s.acked) c) ∧ SL KS (newB w) w' A c (s.all.drop s.acked)) ∧ Below w.heap.size w w' := by
  obtain ⟨A, c, hg, hown, hok, hF⟩ := h
  have a1 := hok.a1
  have hc := hown.sl'.1
  have hcut := hown.sl'.cut s.acked a1 (by decide)
  have hKS : KS.sz = 1 := rfl
  rw [hKS, Nat.mul_one] at hcut
  have Hcut := Lib.hid (hcut.drewN 1)
  obtain ⟨c0, f0, z0⟩ := hg.rules
  clear hcut hown hF hg hok hKS
  have hdl : (s.all.drop s.acked).length = s.all.length - s.acked := List.length_drop
  have Hdl := Lib.hid hdl
  clear hdl
  generalize s.all.drop s.acked = rest at *
  generalize s.all.length = n at *
  generalize s.acked = k at *
  go_enter Tryd.func110, Tryd.ntmps110
  go_wp2
  go_region_law (first
    | (refine step_extendF KS _ KS.flat (by rfl) _ _ _ (by rfl) 9 _ 16 Tryd.underlying113 info9 (by rfl) (by decide) (by decide) (newB w) (.slice (some ⟨w.heap.size, 0, none⟩) 0 0) [] rest (by rfl) ((OwnL.empty KS 9 w.drew (Nat.le_refl _))) 0 rfl (n - k) Hdl.out _ _ (by rfl) anyB (Hcut.out.alloc _) (by simp [newB]) (by omega) ?_; intro A3 c3 w3 hown3 hg3 hat3))
  all_goals
    have hB : Below w.heap.size w w3 := ((below_drewN' (Below.refl w.heap.size w) 1).alloc (Nat.le_refl _) (.cells #[] 9)).grown hg3 (by simp) (by intro k hk; have : w.heap.size = k := by simpa [Value.ownBlock] using hk
                                                                                                                                                   exact Nat.le_of_eq this)
    simp only [Nat.zero_add, List.nil_append] at hown3
    go_wp2
    all_goals
      go_ret
      refine ⟨⟨A3, c3, by simp, ?_⟩, hB⟩
      rw [← Hdl.out] at hown3
      exact hown3.sl'

set_option maxHeartbeats 1000000 in
theorem rsndAck_any (p : Nat) (F : Nat → Prop) (s : SS) (m : Int) (w : World) (h : IsRSnd w p F s) (hl : s.all.length ≤ 100000) :
    Calls Tryd.prog 102 #[.pointer (some ⟨p, 0, none⟩), .int .i64 m] w fun e w' => (∃ n, e = .returned (.int .i64 n)) ∧ IsRSnd w' p F (s.ack m) ∧ Step F w F w' := by
  have hself := Lib.hid h
  obtain ⟨A, c, hg, hown, hok, hF⟩ := h
  have a1 := hok.a1
  have Hown := Lib.hid hown
  have HF := Lib.hid hF
  have Hg := Lib.hid hg
  obtain ⟨c0, f0, z0⟩ := hg.rules
  clear hown hF hg
  by_cases e1 : (s.all.length : Int) < m ∨ m ≤ s.acked
  · have hs : s.ack m = s := if_pos e1
    rw [hs]
    clear hs
    by_cases e2 : (s.all.length : Int) < m
    · clear e1
      go_enter Tryd.func102, Tryd.ntmps102
      go_wp2
      all_goals
        go_ret
        exact ⟨⟨0, rfl⟩, hself.out, Step.refl _ _⟩
    · have e3 : m ≤ s.acked := by omega
      clear e1
      go_enter Tryd.func102, Tryd.ntmps102
      go_wp2
      all_goals
        go_ret
        exact ⟨⟨0, rfl⟩, hself.out, Step.refl _ _⟩
  · have hs : s.ack m = { s with acked := m.toNat } := if_neg e1
    have e2 : ¬ (s.all.length : Int) < m := by omega
    have e3 : ¬ m ≤ (s.acked : Int) := by omega
    have hok' := SS.ack_ok hok m
    have hmt : (m.toNat : Int) = m := by omega
    rw [hs] at hok' ⊢
    have Hok' := Lib.hid hok'
    have Hmt := Lib.hid hmt
    clear hs e1 hok' hmt
    go_enter Tryd.func102, Tryd.ntmps102
    go_wp2
    all_goals
      go_ret
      refine ⟨⟨_, rfl⟩, ⟨A, c, ?_, ?_, Hok'.out, HF.out⟩, ⟨(Mod.refl F w).setCell (p := ⟨p, 3, none⟩) (.inl ((HF.out p).2 (.inl rfl))) _, fun b hb => .inl hb⟩⟩
      · have := Hg.out.set 3 (.int .i64 m)
        simpa [Hmt.out] using this
      · obtain ⟨xs, q1, q2, q3⟩ := Hown.out
        exact ⟨xs, q1.off (fun b hb e => q1.ne_blk Hg.out (by decide) (by rw [hb, e])) _, q2.flat KS.flat, q3⟩

set_option maxRecDepth 100000 in
set_option maxHeartbeats 1000000 in
theorem rsndOffer_any (p : Nat) (F : Nat → Prop) (s : SS) (d : ByteArray) (w : World) (h : IsRSnd w p F s) (hl : s.all.length ≤ 100000) :
    Calls Tryd.prog 99 #[.pointer (some ⟨p, 0, none⟩), .string d] w fun e w' => (∃ n, e = .returned (.tuple #[.int .i64 n, .int .i64 s.err])) ∧ ∃ F', IsRSnd w' p F' (s.offer d) ∧ Step F w F' w' := by
  have hself := Lib.hid h
  obtain ⟨A, c, hg, hown, hok, hF⟩ := h
  have a1 := hok.a1
  have a3 := hok.a3
  have w2 := hok.w2
  have Hok := Lib.hid hok
  have HF := Lib.hid hF
  have Hg := Lib.hid hg
  have Hsl := Lib.hid hown.sl'
  obtain ⟨c0, f0, z0⟩ := hg.rules
  clear hown hF hg hok
  by_cases e1 : s.window ≤ (s.all.length : Int) - s.acked
  · have hfin : s.err = 7 := if_pos e1
    have hs : s.offer d = s := by unfold SS.offer; rw [if_neg (by omega)]
    have Hfin := Lib.hid hfin
    have Hs := Lib.hid hs
    have ht : decide (s.window ≤ (s.all.length : Int) - s.acked) = true := by simpa using e1
    clear hfin hs e1
    go_enter Tryd.func99, Tryd.ntmps99
    go_wp2
    go_quiet (fail)
    go_wp2
    all_goals
      go_ret2
      refine ⟨⟨0, by rw [Hfin.out]; rfl⟩, F, ?_, Step.of_below (below_drewN' (Below.refl _ _) _)⟩
      rw [Hs.out]
      exact hself.out.keep (Nat.le_refl _) (fun _ _ _ => rfl)
  · have ht : decide (s.window ≤ (s.all.length : Int) - s.acked) = false := by simpa using e1
    by_cases e2 : s.last ≤ s.all.length
    · have hfin : s.err = 8 := by unfold SS.err; rw [if_neg e1, if_pos e2]
      have hs : s.offer d = s := by unfold SS.offer; rw [if_neg (by omega)]
      have Hfin := Lib.hid hfin
      have Hs := Lib.hid hs
      have ht2 : decide (s.last ≤ (s.all.length : Int)) = true := by simpa using e2
      clear hfin hs e1 e2
      go_enter Tryd.func99, Tryd.ntmps99
      go_wp2
      go_quiet (fail)
      go_wp2
      go_quiet (fail)
      go_wp2
      all_goals
        go_ret2
        refine ⟨⟨0, by rw [Hfin.out]; rfl⟩, F, ?_, Step.of_below (below_drewN' (below_drewN' (Below.refl _ _) _) _)⟩
        rw [Hs.out]
        exact hself.out.keep (Nat.le_refl _) (fun _ _ _ => rfl)
    · have hfin : s.err = 0 := by unfold SS.err; rw [if_neg e1, if_neg e2]
      have hs : s.offer d = { s with all := s.all ++ [d] } := by unfold SS.offer; rw [if_pos hfin]
      have Hfin := Lib.hid hfin
      have Hs := Lib.hid hs
      have ht2 : decide (s.last ≤ (s.all.length : Int)) = false := by simpa using e2
      have hlen : s.all.length = s.all.length := rfl
      clear hfin hs e1 e2
      have hnb : s.all.length ≤ 100000 := hl
      go_enter Tryd.func99, Tryd.ntmps99
      go_wp2
      go_quiet (fail)
      go_wp2
      go_quiet (fail)
      generalize hW : World.drewN (World.drewN w _) _ = W
      have HslW := Lib.hid (show SL KS anyB W A c s.all by rw [← hW]; exact (Hsl.out.drewN _).drewN _)
      have HgW := Lib.hid (show Blk W p 185 _ by rw [← hW]; exact Hg.out)
      have HmW := Lib.hid (show Mod F w W by rw [← hW]; exact ((Mod.refl _ _).drewN _).drewN _)
      clear hW c0 f0
      obtain ⟨c0, f0, z1⟩ := HgW.out.rules
      go_wp2_with (first
        | (at_builtin; (refine wpList_extendF KS _ KS.flat rfl _ _ _ rfl 9 _ 16 Tryd.underlying113 info9 rfl (by decide) (by decide) (newB W) (.slice (some ⟨W.heap.size, 0, none⟩) 0 0) [] s.all rfl (OwnL.empty KS 9 W (Nat.le_refl _)) 0 rfl s.all.length rfl A c rfl anyB (HslW.out.alloc _) (by simp [newB]) (by omega) ?_); intro A3 c3 w3 hown3 hg3 hat3; have kg3 := (HgW.out.alloc (.cells #[] 9)).grown hg3 (fun e => by simp [Value.ownBlock] at e; omega); obtain ⟨c5, f5, z5⟩ := kg3.rules; simp only [Nat.zero_add, List.nil_append] at hown3; have Hown3 := Lib.hid hown3; clear hown3)
        | (at_builtin; (refine wpList_push KS _ rfl _ _ _ rfl 9 _ 16 Tryd.underlying113 info9 rfl (by decide) (by decide) (newB W) (.slice A3 s.all.length c3) s.all (by first | rfl | simp) (Hown3.out.alloc _) s.all.length rfl w3.heap.size d 9 _ rfl (Blk.new w3 9 _) rfl (by have h3 := hg3.size; rw [World.size_alloc] at h3; show W.heap.size ≤ (w3.alloc _).heap.size; rw [World.size_alloc]; omega) (by omega) ?_); intro A4 c4 w4 hown4 hg4 hat4; have kg4 := (kg3.alloc (.cells #[.string d] 9)).grown hg4 (fun e => by have := Hown3.out.ok_ _ e.symm; simp only [newB] at this; omega); obtain ⟨c6, f6, z6⟩ := kg4.rules))
      all_goals
        go_ret2
        have hlen1 : (s.offer d).all.length = s.all.length + 1 := by rw [Hs.out]; simp
        have hpb : ∀ b, (Value.slice A4 (s.all.length + 1) c4).ownBlock = some b → W.heap.size ≤ b := fun b hb => hown4.ok_ b hb
        have hWs := HmW.out.size
        have hm1 : ∀ g, (Value.slice (some ⟨W.heap.size, 0, none⟩) 0 0).ownBlock = some g → F g ∨ w.heap.size ≤ g := by
          intro g hg
          have : W.heap.size = g := by simpa [Value.ownBlock] using hg
          exact .inr (by omega)
        have hm2 : ∀ g, (Value.slice A3 s.all.length c3).ownBlock = some g → F g ∨ w.heap.size ≤ g := by
          intro g hg
          have : W.heap.size ≤ g := Hown3.out.ok_ g hg
          exact .inr (by omega)
        have hmod : Mod F w w4 := (((HmW.out.alloc (.cells #[] 9)).grown hg3 hm1).alloc (.cells #[.string d] 9)).grown hg4 hm2
        refine ⟨⟨s.all.length + 1, by rw [Hfin.out]; rfl⟩, fun b => b = p ∨ (Value.slice A4 (s.all.length + 1) c4).ownBlock = some b, ⟨A4, c4, ?_, ?_, SS.offer_ok Hok.out d, fun b => by rw [hlen1]⟩, ⟨?_, ?_⟩⟩
        · rw [hlen1, Hs.out]
          have := kg4.set 2 (.slice A4 (s.all.length + 1) c4)
          simpa using this
        · rw [hlen1, Hs.out]
          obtain ⟨xs, q1, q2, q3⟩ := hown4
          rw [List.length_append] at q1
          exact ⟨xs, by rw [List.length_append]; exact q1.off (fun b hb e => q1.ne_blk kg4 (by decide) (by rw [hb, e])) _, q2.flat KS.flat, fun _ _ => trivial⟩
        · exact hmod.setCell (p := ⟨p, 2, none⟩) (.inl ((HF.out p).2 (.inl rfl))) _
        · intro b hb
          rcases hb with rfl | hb
          · exact .inl ((HF.out _).2 (.inl rfl))
          · have := hpb b hb; have := HmW.out.size; exact .inr (by omega)

end Go.Proofs.YthdnoljmiehegaaDoor
