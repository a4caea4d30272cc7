/- WHAT IS PROVED HERE: the program's feed. -/
import Derived.Test.YthdnoljmiehegaaDoorLnk3
import Derived.Test.YthdnoljmiehegaaDoorLog2
import Derived.Test.YthdnoljmiehegaaDoorPut
set_option linter.unusedVariables false
set_option linter.unusedSimpArgs false
namespace Go.Proofs.YthdnoljmiehegaaDoor
open Go.RowKit

theorem logAtN_any (p : Nat) (F : Nat → Prop) (g : Lg) (q : Nat) (w : World) (h : IsLog w p F g) (hl : g.l.length ≤ 100000) :
    Calls Tryd.prog 96 #[.pointer (some ⟨p, 0, none⟩), .int .i64 q] w fun e w' => Below w.heap.size w w' ∧ ∃ r A c, e = .returned (.tuple #[.agg #[.int .i64 r.o, .int .i64 r.n, .slice A r.us.length c], .bool (decide (q < g.l.length))]) ∧ SL KU (newB w) w' A c r.us ∧ ∀ h : q < g.l.length, g.l[q] = r := by
  refine (logAt_any p F g q w h hl).mono ?_
  rintro e w' ⟨hb, ⟨k, hk, hq, A, c, rfl, hs⟩ | ⟨hq, rfl⟩⟩
  · obtain rfl : q = k := by omega
    exact ⟨hb, g.l[q], A, c, by simp [hk], hs, fun _ => rfl⟩
  · have : ¬ q < g.l.length := by omega
    exact ⟨hb, ⟨0, 0, []⟩, none, 0, by simp [this], SL.nil _ _ _, fun h => absurd h this⟩

def pumpGo : List Rnd → LS → Nat × LS
  | [], k => (0, k)
  | r :: l, k => if k.s.err = 0 then ((pumpGo l (k.offer (bRnd r))).1 + 1, (pumpGo l (k.offer (bRnd r))).2) else (0, k)
theorem LS.offer_bad {k : LS} (d : ByteArray) (h : k.s.err ≠ 0) : k.offer d = k := by
  unfold LS.offer SS.offer
  rw [if_neg h]
theorem LS.offer_len (k : LS) (d : ByteArray) : (k.offer d).s.all.length ≤ k.s.all.length + 1 := by
  unfold LS.offer SS.offer
  simp only
  split <;> simp

/-- How it stands at a round's beginning. -/
def PumpAt (g : Lg) (a : Nat) (k : LS) (pf pk : Nat) (Fk : Nat → Prop) (w : World) (v7 v8 v9 : Value) (wr : World) : Prop :=
  ∃ m k' Fk' gb r A c, v7 = .int .i64 (m : Nat) ∧ v8 = .pointer (some ⟨gb, 0, none⟩) ∧ v9 = .bool (decide (a + m < g.l.length)) ∧ (∀ h : a + m < g.l.length, g.l[a + m] = r) ∧ IsLnk wr pk Fk' k' ∧ Blk wr pf 159 #[.int .i64 (a + m : Nat)] ∧
    Step (fun b => b = pf ∨ Fk b) w (fun b => b = pf ∨ Fk' b) wr ∧ ¬ Fk' pf ∧ Blk wr gb 38 #[.int .i64 r.o, .int .i64 r.n, .slice A r.us.length c] ∧ SL KU anyB wr A c r.us ∧ w.heap.size ≤ gb ∧ ¬ Fk' gb ∧ a + m ≤ g.l.length ∧
    pumpGo (g.l.drop a) k = ((pumpGo (g.l.drop (a + m)) k').1 + m, (pumpGo (g.l.drop (a + m)) k').2) ∧ k'.s.all.length ≤ k.s.all.length + m

set_option maxRecDepth 100000 in
set_option maxHeartbeats 2000000 in
theorem pump_any (pf pl pk : Nat) (Fl Fk : Nat → Prop) (g : Lg) (a : Nat) (k : LS) (w : World) (hf : Blk w pf 159 #[.int .i64 a]) (hg : IsLog w pl Fl g) (hk : IsLnk w pk Fk k) (hG : Bits w)
    (d1 : ¬ Fl pf) (d2 : ¬ Fk pf) (d3 : ∀ b, Fl b → ¬ Fk b) (d4 : pf ≠ 0) (d5 : ¬ Fk 0) (ha : a ≤ g.l.length) (hl : g.l.length + k.s.all.length ≤ 100000) :
    Calls Tryd.prog 38 #[ptr pf, ptr pl, ptr pk] w fun e w' => e = .returned (.int .i64 (pumpGo (g.l.drop a) k).1) ∧ Blk w' pf 159 #[.int .i64 (a + (pumpGo (g.l.drop a) k).1 : Nat)] ∧
      ∃ Fk', IsLnk w' pk Fk' (pumpGo (g.l.drop a) k).2 ∧ ¬ Fk' pf ∧ Step (fun b => b = pf ∨ Fk b) w (fun b => b = pf ∨ Fk' b) w' := by
  unfold ptr
  have hgl : g.l.length ≤ 100000 := by omega
  obtain ⟨c0, f0, z0⟩ := hf.rules
  have Hl := Lib.hid hl
  clear hl
  go_enter Tryd.func38, Tryd.ntmps38
  go_wp2_with (go_at_call 96; refine (logAtN_any pl Fl g a _ hg hgl).mono ?_; rintro e w1 ⟨hb1, r, A, c, rfl, hs1, hr1⟩)
  go_loopw [7, 8, 9] (fun v7 v8 v9 wr => PumpAt g a k pf pk Fk w v7 v8 v9 wr) (fun v _ _ _ => g.l.length - a - (intOf v).toNat)
  case atStart =>
    have hb2 : Below w.heap.size w (w1.alloc (.cells #[.int .i64 r.o, .int .i64 r.n, .slice A r.us.length c] 38)) := hb1.alloc hb1.size _
    refine ⟨0, k, Fk, w1.heap.size, r, A, c, rfl, rfl, rfl, hr1, hk.below hb2, hf.below hb2, ?_, d2, Blk.new _ _ _, hs1.any.alloc _, hb1.size, fun q => ?_, ha, by simp, by omega⟩
    · exact Step.of_below hb2
    · have := hk.lt _ q; have := hb1.size; omega
  case round =>
    obtain ⟨m, k', Fk', gb, r', A', c', rfl, rfl, rfl, hr', hk', hf', hst, e1, kb, hsl, e2, e3, e4, hpg, hkl⟩ := hrel
    clear hb1 hs1 hr1 c0 f0 z0 hk
    obtain ⟨c0, f0, z0⟩ := hf'.rules
    obtain ⟨c1, f1, z1⟩ := kb.rules
    have hgt : ∀ b, Fl b → ¬ (b = pf ∨ Fk b) := fun b hb q => q.elim (fun e => d1 (e ▸ hb)) (d3 b hb)
    have hgr : IsLog wr pl Fl g := hg.keep hst.mod.size fun b hb hl => hst.mod.block b hl (hgt b hb)
    have Hgr := Lib.hid hgr
    have Hst := Lib.hid hst
    have Hpg := Lib.hid hpg
    have HG := Lib.hid hG
    have Hg := Lib.hid hg
    by_cases hlt : a + m < g.l.length
    · have ht : decide (a + m < g.l.length) = true := by simpa using hlt
      rw [ht]
      have hr2 := hr' hlt
      have hd : g.l.drop (a + m) = r' :: g.l.drop (a + m + 1) := by rw [List.drop_eq_getElem_cons hlt, hr2]
      have hm : r'.may = 0 := by rw [← hr2]; exact hgr.ok.may _ (List.getElem_mem hlt)
      have hGr : Bits wr := hG.mod hst.mod (fun q => q.elim (fun e => d4 e.symm) d5)
      have hk5 : k'.s.all.length ≤ 100000 := by have := Hl.out; omega
      have HgAt : Hid (∀ w0, Mod (fun b => b = pf ∨ Fk b) w w0 → IsLog w0 pl Fl g) := Lib.hid fun w0 hm0 => hg.keep hm0.size fun b hb hl => hm0.block b hl (hgt b hb)
      have hA : ∀ w0 q', q' = a + m + 1 → IsLog w0 pl Fl g → Calls Tryd.prog 96 #[.pointer (some ⟨pl, 0, none⟩), .int .i64 (((a + m : Nat) : Int) + 1)] w0 fun e w' => Below w0.heap.size w0 w' ∧ ∃ r A c, e = .returned (.tuple #[.agg #[.int .i64 r.o, .int .i64 r.n, .slice A r.us.length c], .bool (decide (q' < g.l.length))]) ∧ SL KU (newB w0) w' A c r.us ∧ ∀ h : q' < g.l.length, g.l[q'] = r := by
        intro w0 q' hq' h0
        subst hq'
        have := logAtN_any pl Fl g (a + m + 1) w0 h0 hgl
        rwa [show ((a + m + 1 : Nat) : Int) = ((a + m : Nat) : Int) + 1 from by omega] at this
      have hamq : a + (m + 1) = a + m + 1 := by omega
      rw [hd] at hpg
      have Hpg := Lib.hid hpg
      have n1 : gb ≠ pf := kb.ne hf' (by decide)
      have hmb : m ≤ 100000 := by omega
      have n2 : pf ≠ gb := n1.symm
      have Hk' := Lib.hid hk'
      have Hf' := Lib.hid hf'
      have Kb := Lib.hid kb
      have HA := Lib.hid hA
      have Hamq := Lib.hid hamq
      clear hpg hst hgr hr' hr2 hd hg hG hk' hf' kb hA hamq e4 ha
      generalize hq : a + m = q at *
      have Hq := Lib.hid hq
      clear hq
      by_cases he : k'.s.err = 0
      · have hte : (k'.s.err != 0) = false := by simp [he]
        have He := Lib.hid he
        clear he
        go_wp2_with (first
          | (go_at_call 97; refine (roundPut_any r' hm A' c' _ hsl hGr).mono ?_; rintro e w1 ⟨rfl, hb1⟩)
          | (go_at_call 98; refine (lnkOffer_any pk Fk' k' (bRnd r') _ ?_ hk5).mono ?_; exact Hk'.out.below hb1; rintro e w2 ⟨rfl, Fk2, hk2, hst2⟩; obtain ⟨c5, f5, z5⟩ := ((Hf'.out.below hb1).mod hst2.mod e1).rules; obtain ⟨c6, f6, z6⟩ := ((Kb.out.below hb1).mod hst2.mod e3).rules; have Hk2 := Lib.hid hk2; have Hst2 := Lib.hid hst2; clear hk2 hst2)
          | (go_at_call 96; refine (HA.out _ (q + 1) rfl ?_).mono ?_; (refine HgAt.out _ (Mod.alloc (Mod.setCell ((Hst.out.mod.below hb1).trans' Hst2.out.mod fun i hi => Hst.out.upg i (.inr hi)) (p := ⟨pf, 0, none⟩) (.inl (.inl rfl)) _) _)); rintro e w5 ⟨hb5, r5, A5, c5', rfl, hs5, hr5⟩; obtain ⟨c7, f7, z7⟩ := ((Blk.new _ 38 _).below hb5).rules; simp only [World.size_setCell] at c7 f7 z7))
        all_goals
          go_roundw
          case rel =>
            have hst3 : Step (fun b => b = pf ∨ Fk b) w (fun b => b = pf ∨ Fk2 b) w2 := Hst.out.trans ((Step.of_below hb1).trans (Hst2.out.sub (fun b hb => .inr hb) (fun b hb => hb.elim (fun e => .inl (.inl e)) .inr)))
            have ham : a + (m + 1) = q + 1 := by have := Hq.out; omega
            have n3 : ¬ Fk2 pf := fun h => (Hst2.out.upg _ h).elim e1 (fun h => by have := hb1.size; omega)
            have kf2 := (((Hf'.out.below hb1).mod Hst2.out.mod e1).set 0 (.int .i64 ((q : Int) + 1)))
            have ks2 := hb1.size
            have ks3 := Hst2.out.mod.size
            have ks4 := hb5.size
            simp only [World.size_alloc, World.size_setCell] at ks4
            have hm6 := ((((((Mod.refl (fun b => b = pf) w2).setCell (p := ⟨pf, 0, none⟩) (.inl rfl) (.int .i64 ((q : Int) + 1))).alloc (.cells #[.int .i64 r'.o, .int .i64 r'.n, .slice A' r'.us.length c'] 38)).below hb5).setCell (p := ⟨w2.heap.size, 0, none⟩) (.inr (Nat.le_refl _)) (.int .i64 r5.o)).setCell (p := ⟨w2.heap.size, 1, none⟩) (.inr (Nat.le_refl _)) (.int .i64 r5.n)).setCell (p := ⟨w2.heap.size, 2, none⟩) (.inr (Nat.le_refl _)) (.slice A5 r5.us.length c5')
            have n4 : pf ≠ w2.heap.size := by omega
            have kb5 := Blk.below (Blk.new (w2.setCell ⟨pf, 0, none⟩ (.int .i64 ((q : Int) + 1))) 38 #[.int .i64 r'.o, .int .i64 r'.n, .slice A' r'.us.length c']) hb5
            rw [World.size_setCell] at kb5
            unfold PumpAt
            refine ⟨m + 1, k'.offer (bRnd r'), Fk2, w2.heap.size, r5, A5, c5', ?_⟩
            rw [ham]
            refine ⟨by go_num, rfl, rfl, hr5, ?_, ?_, ?_, n3, ?_, ?_, by omega, ?_, by omega, ?_, ?_⟩
            · exact Hk2.out.keep hm6.size fun b hb hl => hm6.block b hl (fun e => n3 (e ▸ hb))
            · exact (((((kf2.alloc _).below hb5).off (p := ⟨w2.heap.size, 0, none⟩) n4 _).off (p := ⟨w2.heap.size, 1, none⟩) n4 _).off (p := ⟨w2.heap.size, 2, none⟩) n4 _)
            · exact hst3.trans ⟨hm6.mono fun b _ hb => .inl hb, fun b hb => .inl hb⟩
            · exact ((kb5.set 0 _).set 1 _).set 2 _
            · exact (((hs5.setCell (p := ⟨w2.heap.size, 0, none⟩) (by simp [newB]) _).setCell (p := ⟨w2.heap.size, 1, none⟩) (by simp [newB]) _).setCell (p := ⟨w2.heap.size, 2, none⟩) (by simp [newB]) _).any
            · intro h; have := Hk2.out.lt _ h; omega
            · rw [Hpg.out]
              simp only [pumpGo]
              rw [if_pos He.out]
              simp only [Prod.mk.injEq, and_true]
              omega
            · have := LS.offer_len k' (bRnd r'); omega
          case measure =>
            have := Hq.out
            simp [intOf]; omega
      · have hte : (k'.s.err != 0) = true := by simp [he]
        have He := Lib.hid he
        clear he
        go_wp2_with (first
          | (go_at_call 97; refine (roundPut_any r' hm A' c' _ hsl hGr).mono ?_; rintro e w1 ⟨rfl, hb1⟩)
          | (go_at_call 98; refine (lnkOffer_any pk Fk' k' (bRnd r') _ ?_ hk5).mono ?_; exact Hk'.out.below hb1; rintro e w2 ⟨rfl, Fk2, hk2, hst2⟩; rw [LS.offer_bad _ He.out] at hk2))
        all_goals
          go_ret
          have hpe : pumpGo (r' :: g.l.drop (q + 1)) k' = (0, k') := by
            simp only [pumpGo]
            rw [if_neg He.out]
          rw [Hpg.out, hpe]
          refine ⟨by simp, ?_, Fk2, hk2, ?_, ?_⟩
          · have := (Hf'.out.below hb1).mod hst2.mod e1
            simpa [Hq.out] using this
          · intro hq2
            rcases hst2.upg _ hq2 with h | h
            · exact e1 h
            · have := hb1.size; omega
          · exact Hst.out.trans ((Step.of_below hb1).trans (hst2.sub (fun b hb => .inr hb) (fun b hb => hb.elim (fun e => .inl (.inl e)) .inr)))
    · have ht : decide (a + m < g.l.length) = false := by simpa using hlt
      have hd : g.l.drop (a + m) = [] := List.drop_eq_nil_of_le (by omega)
      rw [hd] at hpg
      simp only [pumpGo, Nat.zero_add] at hpg
      have Hpg := Lib.hid hpg
      rw [ht]
      clear hpg hst hgr
      go_wp2
      go_ret
      rw [Hpg.out]
      exact ⟨rfl, hf', Fk', hk', e1, Hst.out⟩

end Go.Proofs.YthdnoljmiehegaaDoor
