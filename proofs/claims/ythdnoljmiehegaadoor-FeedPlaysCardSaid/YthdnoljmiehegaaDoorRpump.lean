/- WHAT IS PROVED HERE: the reference's feed pumps as the feed as data does. -/
import Derived.Test.YthdnoljmiehegaaDoorFobj
import Derived.Test.YthdnoljmiehegaaDoorRbyt2
import Derived.Deep.RegionHeld3
set_option linter.unusedVariables false
set_option linter.unusedSimpArgs false
namespace Go.Proofs.YthdnoljmiehegaaDoor
open Go.RowKit

/-- Three objects, the second of which may make a step. -/
theorem SepL.three {B : Nat} {M N L : Ob} {w : World} {F : Nat → Prop} (h : SepL B [M, N, L] w F) (gs : Goods B [M, N, L]) (hB : B ≤ w.heap.size) :
    ∃ Fm Fn Fl, M w Fm ∧ N w Fn ∧ L w Fl ∧ (∀ b, Fm b → ¬ Fn b) ∧ (∀ b, Fl b → ¬ Fn b) ∧ ∀ N' Fn' w', N' w' Fn' → Step Fn w Fn' w' → ∃ F', SepL B [M, N', L] w' F' ∧ Step F w F' w' := by
  obtain ⟨Fm, F2, hm, g2, ⟨Fn, F3, hn, g3, ⟨Fl, F4, hl, g1, h4, d3, e3⟩, d2, e2⟩, d1, e1⟩ := h
  have gm := gs.head
  have gn := gs.tail.head
  have gl := gs.tail.tail.head
  have q1 : ∀ b, Fm b → ¬ Fn b := fun b hb q => d1 b hb ((e2 b).2 (.inl q))
  have q2 : ∀ b, Fl b → ¬ Fn b := fun b hb q => d2 b q ((e3 b).2 (.inl hb))
  have q3 : ∀ b, Fm b → ¬ Fl b := fun b hb q => d1 b hb ((e2 b).2 (.inr ((e3 b).2 (.inl q))))
  have sm : ∀ b, Fm b → F b := fun b hb => (e1 b).2 (.inl hb)
  have sn : ∀ b, Fn b → F b := fun b hb => (e1 b).2 (.inr ((e2 b).2 (.inl hb)))
  have sl : ∀ b, Fl b → F b := fun b hb => (e1 b).2 (.inr ((e2 b).2 (.inr ((e3 b).2 (.inl hb)))))
  refine ⟨Fm, Fn, Fl, hm, hn, hl, q1, q2, fun N' Fn' w' k1 k2 => ?_⟩
  have kn : ∀ b, Fn' b → Fn b ∨ w.heap.size ≤ b := k2.upg
  refine ⟨fun b => Fm b ∨ (Fn' b ∨ Fl b), ⟨Fm, fun b => Fn' b ∨ Fl b, gm.mod hm k2.mod q1 g3, g2, ⟨Fn', Fl, k1, fun b hb => (kn b hb).elim (g3 b) (fun q => by omega), ⟨Fl, fun _ => False, gl.mod hl k2.mod q2 g3, g1, fun _ h => h, fun _ _ h => h, fun b => by simp⟩, ?_, fun b => Iff.rfl⟩, ?_, fun b => Iff.rfl⟩, k2.sub sn fun b hb => ?_⟩
  · intro b hb hb'
    rcases kn b hb with q | q
    · exact q2 b hb' q
    · have := gl.lt hl b hb'; omega
  · intro b hb hb'
    rcases hb' with hb' | hb'
    · rcases kn b hb' with q | q
      · exact q1 b hb q
      · have := gm.lt hm b hb; omega
    · exact q3 b hb hb'
  · rcases hb with q | q | q
    · exact .inl (sm b q)
    · exact .inr q
    · exact .inl (sl b q)

/-- How it stands at a round's beginning. -/
def RPumpAt (B pl pf pk : Nat) (g : Lg) (a : Nat) (k : LS) (F : Nat → Prop) (w : World) (v : Value) (wr : World) : Prop :=
  ∃ m k' F', v = .int .i64 (m : Nat) ∧ SepL B (R3 pl pf pk g (a + m) k') wr F' ∧ Step F w F' wr ∧ a + m ≤ g.l.length ∧
    pumpGo (g.l.drop a) k = ((pumpGo (g.l.drop (a + m)) k').1 + m, (pumpGo (g.l.drop (a + m)) k').2) ∧ k'.s.all.length ≤ k.s.all.length + m

set_option maxRecDepth 100000 in
set_option maxHeartbeats 4000000 in
theorem rpump_sep {B pl pf pk : Nat} {g : Lg} {a : Nat} {k : LS} {w : World} {F : Nat → Prop} (h : SepL B (R3 pl pf pk g a k) w F) (ha : a ≤ g.l.length) (hl : g.l.length + k.s.all.length ≤ 100000) :
    Calls Tryd.prog 39 #[ptr pf, ptr pl, ptr pk] w fun e w' => e = .returned (.int .i64 (pumpGo (g.l.drop a) k).1) ∧
      ∃ F', SepL B (R3 pl pf pk g (a + (pumpGo (g.l.drop a) k).1) (pumpGo (g.l.drop a) k).2) w' F' ∧ Step F w F' w' := by
  have hB : B ≤ w.heap.size := by
    obtain ⟨Ff, F2, h2, g2, _⟩ := h
    have := g2 pf ((h2.2 pf).2 rfl); have := h2.1.lt; omega
  unfold ptr
  have Hl := Lib.hid hl
  have H := Lib.hid h
  clear hl h
  go_enter Tryd.func39, Tryd.ntmps39
  go_wp2
  go_loopw [7] (fun v wr => RPumpAt B pl pf pk g a k F w v wr) (fun v _ => g.l.length - a - (intOf v).toNat)
  case atStart => exact ⟨0, k, F, rfl, H.out, Step.refl _ _, ha, by simp, by omega⟩
  case round =>
    obtain ⟨m, k', F', rfl, hS, hst, ham, hpg, hkl⟩ := hrel
    have hBr : B ≤ wr.heap.size := Nat.le_trans hB hst.mod.size
    obtain ⟨Ff, Fk, Fl, hf, hlk, hlg, df, dl, hput⟩ := SepL.three hS (R3.goods _ _ _ _ _ _ _) hBr
    have dpf : ¬ Fk pf := df pf ((hf.2 pf).2 rfl)
    obtain ⟨A, c, hgB, hown, hok, hpl, _⟩ := hlg
    have dpl : ¬ Fk pl := dl pl hpl
    have HS := Lib.hid hS
    have Hst := Lib.hid hst
    have Hpg := Lib.hid hpg
    have Hput := Lib.hid hput
    obtain ⟨ps, Fs, pr, Fr, hgk, h1, h2, h3, h4, h5, hFk⟩ := hlk
    have Hgk := Lib.hid hgk
    have H1 := Lib.hid h1
    have H2 := Lib.hid h2
    have HFk := Lib.hid hFk
    obtain ⟨c0, f0, z0⟩ := hf.1.rules
    obtain ⟨c1, f1, z1⟩ := hgB.rules
    have hsl := hown.sl'
    have hlm : g.l.length ≤ 100000 := by have := Hl.out; omega
    clear hS hst hpg hput hgk h1 h2 hFk hown
    by_cases hlt : a + m < g.l.length
    · have ht : decide (((a + m : Nat) : Int) < (g.l.length : Int)) = true := by simp; omega
      obtain ⟨b, off, A', c', rfl, hbF, hbw, d0, d1, d2, hu⟩ := hsl.rnd (a + m) hlt
      have nb : ¬ Fs b := fun q => dl b hbF.1 ((HFk.out b).2 (.inr (.inl q)))
      have nf : ¬ Fs pf := fun q => dpf ((HFk.out pf).2 (.inr (.inl q)))
      have nl : ¬ Fs pl := fun q => dpl ((HFk.out pl).2 (.inr (.inl q)))
      have hm0 : g.l[a + m].may = 0 := hok.may _ (List.getElem_mem hlt)
      have hd : g.l.drop (a + m) = g.l[a + m] :: g.l.drop (a + m + 1) := List.drop_eq_getElem_cons hlt
      rw [hd] at Hpg
      generalize g.l[a + m] = r at *
      have hk5 : k'.s.all.length ≤ 100000 := by have := Hl.out; omega
      obtain ⟨c2, f2, z2⟩ := (show Blk wr pk 165 #[.int .i64 k'.epoch, .pointer (some ⟨ps, 0, none⟩), .pointer (some ⟨pr, 0, none⟩), .int .i64 k'.window, .int .i64 k'.room, .bool k'.passive] from Hgk.out).rules
      have Hu := Lib.hid hu.any
      have Hok := Lib.hid hok
      have Hf := Lib.hid hf.1
      clear hu hd hsl hok hf hgB
      go_wp2
      go_quiet (fail)
      go_wp2
      generalize hW : World.drewN _ _ = W
      have hbW : Below wr.heap.size wr W := by rw [← hW]; exact below_drewN' (Below.refl _ _) _
      have H1W := Lib.hid (H1.out.below hbW)
      have HuW := Lib.hid (Hu.out.below hbW)
      have HbW := Lib.hid hbW
      have e0 : W.cell? ⟨pf, 0, none⟩ = some (.int .i64 ((a + m : Nat) : Int)) := by rw [← hW]; exact (c0 0).trans rfl
      have e1 : W.cell? ⟨pl, 1, none⟩ = some (.slice (some ⟨b, off, none⟩) g.l.length c) := by rw [← hW]; exact (c1 1).trans rfl
      have e2 : W.cell? ⟨pk, 1, none⟩ = some (.pointer (some ⟨ps, 0, none⟩)) := by rw [← hW]; exact (c2 1).trans rfl
      have e3 : W.cell? ⟨b, off + (a + m) * 3, none⟩ = some (.int .i64 r.o) := by rw [← hW]; exact d0
      have e4 : W.cell? ⟨b, off + (a + m) * 3 + 1, none⟩ = some (.int .i64 r.n) := by rw [← hW]; exact d1
      have e5 : W.cell? ⟨b, off + (a + m) * 3 + 2, none⟩ = some (.slice A' r.us.length c') := by rw [← hW]; exact d2
      have hWs := hbW.size
      clear hW hbW c0 f0 c1 f1 c2 f2 d0 d1 d2 H1 Hu
      have i0 : (0 : Int) ≤ ((a + m : Nat) : Int) := by omega
      have i1 : ((a + m : Nat) : Int) < (g.l.length : Int) := by omega
      generalize hq : a + m = q at *
      have Hq := Lib.hid hq
      clear hq
      go_region_held3 (fun w' => w'.cell? ⟨pf, 0, none⟩ = some (.int .i64 (q : Int)) ∧ w'.cell? ⟨pl, 1, none⟩ = some (.slice (some ⟨b, off, none⟩) g.l.length c) ∧ w'.cell? ⟨pk, 1, none⟩ = some (.pointer (some ⟨ps, 0, none⟩)) ∧
          w'.cell? ⟨b, off + q * 3, none⟩ = some (.int .i64 r.o) ∧ w'.cell? ⟨b, off + q * 3 + 1, none⟩ = some (.int .i64 r.n) ∧ w'.cell? ⟨b, off + q * 3 + 2, none⟩ = some (.slice A' r.us.length c'))
        (first | go_keep | (refine ⟨?_, ?_, ?_, ?_, ?_, ?_⟩ <;> (refine (k3 _ _ (by omega)).trans ?_; assumption)) | (refine ⟨?_, ?_, ?_, ?_, ?_, ?_⟩ <;> (refine (k5 _ _ (by omega) (by assumption)).trans ((k3 _ _ (by omega)).trans ?_); assumption)))
        (first
        | (go_at_call 94; refine (rRnd_any r hm0 A' c' _ ?_).mono ?_; exact HuW.out.drewN 1; rintro e w1 ⟨rfl, hb1x⟩; have hb1 : Below W.heap.size W w1 := (below_drewN' (Below.refl W.heap.size W) 1).trans hb1x; obtain ⟨k3, k4⟩ := bcell hb1)
        | (go_at_call 99; refine (rsndOffer_any ps Fs k'.s (bRnd r) _ ?_ hk5).mono ?_; exact H1W.out.below hb1; rintro e w2 ⟨⟨n2, rfl⟩, Fs', hs', hst2⟩; have hz1 := hb1.size; have k5 : ∀ b o, b < w1.heap.size → ¬ Fs b → w2.cell? ⟨b, o, none⟩ = w1.cell? ⟨b, o, none⟩ := fun b o h1 h2 => hst2.mod.cell (p := ⟨b, o, none⟩) h1 h2))
      all_goals
        have kf2 : Blk w2 pf 71 #[.int .i64 (q : Int)] := ((Hf.out.below HbW.out).below hb1).mod hst2.mod nf
        obtain ⟨F2, hl2, hs2⟩ := IsRLnk.snd (l := k') ((Hgk.out.below HbW.out).below hb1) ((H2.out.below HbW.out).below hb1) h3 h4 h5 HFk.out hs' hst2
        obtain ⟨F3, hS3, hst3⟩ := Hput.out (rlnkO pk (k'.offer (bRnd r))) F2 w2 hl2 ((Step.of_below HbW.out).trans ((Step.of_below hb1).trans hs2))
        have HS3 : Hid (SepL B (R3 pl pf pk g q (k'.offer (bRnd r))) w2 F3) := Lib.hid hS3
        have Hst3 := Lib.hid (Hst.out.trans hst3)
        have Kf2 := Lib.hid kf2
        have hB2 : B ≤ w2.heap.size := by have := hst2.mod.size; omega
        have hmb : m ≤ 100000 := by have := Hq.out; omega
        obtain ⟨c6, f6, z6⟩ := kf2.rules
        clear kf2 hl2 hs2 hS3 hst3 hs' hst2 k3 k4 k5 e0 e1 e2 e3 e4 e5 Hput HS
        by_cases he : k'.s.err = 0
        · have hte : (k'.s.err != 0) = false := by simp [he]
          have He := Lib.hid he
          clear he
          go_wp2
          go_roundw
          case rel =>
            obtain ⟨Ff3, hf3, _, hput3⟩ := HS3.out.at_ 0 _ rfl (R3.goods _ _ _ _ _ _ _) hB2
            have h7 := hf3.set 0 (.int .i64 ((q : Int) + 1))
            obtain ⟨F4, hS4, hst4⟩ := hput3 (BlkO pf 71 #[.int .i64 ((q : Int) + 1)]) Ff3 _ h7.1 h7.2
            have hq2 : a + (m + 1) = q + 1 := by have := Hq.out; omega
            unfold RPumpAt
            refine ⟨m + 1, k'.offer (bRnd r), F4, by go_num, ?_, Hst3.out.trans hst4, by omega, ?_, ?_⟩
            · rw [hq2]; exact hS4
            · rw [Hpg.out, hq2]
              simp only [pumpGo]
              rw [if_pos He.out]
              simp only [Prod.mk.injEq, and_true]
              omega
            · have := LS.offer_len k' (bRnd r); omega
          case measure =>
            have := Hq.out
            simp [intOf]; omega
        · have hte : (k'.s.err != 0) = true := by simp [he]
          have hpe : pumpGo (r :: g.l.drop (q + 1)) k' = (0, k') := by
            simp only [pumpGo]
            rw [if_neg he]
          have hob := LS.offer_bad (bRnd r) he
          have Hpe := Lib.hid hpe
          have Hob := Lib.hid hob
          clear he hpe hob
          go_wp2
          go_ret
          rw [Hpg.out, Hpe.out]
          have hS5 := HS3.out
          rw [Hob.out] at hS5
          refine ⟨by simp, F3, ?_, Hst3.out⟩
          have hq3 : a + (0 + m) = q := by have := Hq.out; omega
          show SepL B (R3 pl pf pk g (a + (0 + m)) k') w2 F3
          rw [hq3]
          exact hS5
    · have ht : decide (((a + m : Nat) : Int) < (g.l.length : Int)) = false := by simp; omega
      have hd : g.l.drop (a + m) = [] := List.drop_eq_nil_of_le (by omega)
      rw [hd] at Hpg
      simp only [pumpGo, Nat.zero_add] at Hpg
      clear hf hgB hok
      go_wp2
      go_quiet (fail)
      go_wp2
      go_ret
      rw [Hpg.out]
      exact ⟨rfl, F', (SepL.good (R3.goods _ _ _ _ _ _ _)).keep HS.out (Nat.le_refl _) (fun _ _ _ => rfl), Hst.out.below (below_drewN' (Below.refl _ _) _)⟩

end Go.Proofs.YthdnoljmiehegaaDoor
