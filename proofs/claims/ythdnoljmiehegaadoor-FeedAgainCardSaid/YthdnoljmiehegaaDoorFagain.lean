/- WHAT IS PROVED HERE: the law FeedAgain returns true. -/
import Derived.Test.YthdnoljmiehegaaDoorFcom
import Derived.Test.YthdnoljmiehegaaDoorLnk4
import Derived.Test.YthdnoljmiehegaaDoorOpen
import Derived.Test.YthdnoljmiehegaaDoorVal3
set_option linter.unusedVariables false
set_option linter.unusedSimpArgs false
namespace Go.Proofs.YthdnoljmiehegaaDoor
open Go.RowKit

def kG (e : Int) : LS := LS.anew 16 16 true e
theorem kG_ok (e : Int) : (kG e).s.Ok := SS.new_ok _ _
/-- What was told: so many, and the link holds them. -/
theorem again1 (e : Int) (l : List Rnd) (hl : l.length ≤ 100000) : pumpGo l (kG e) = (min l.length 16, (kG e).more ((l.take 16).map bRnd)) := by
  have hlast : (kG e).s.last = 1125899906842624 := rfl
  have hall : (kG e).s.all.length = 0 := rfl
  have hr : (kG e).room' = 16 := rfl
  have h1 := pumpGo_eq l (kG e) (kG_ok e) (by rw [hlast, hall]; omega)
  rw [hr] at h1
  rw [h1]
  have : l.take (min l.length 16) = l.take 16 := by
    rcases Nat.le_total l.length 16 with h | h
    · rw [Nat.min_eq_left h, List.take_of_length_le (Nat.le_refl _), List.take_of_length_le h]
    · rw [Nat.min_eq_right h]
  rw [this]
theorem again2 {e : Int} (h1 : 2 ≤ e) (h2 : e ≤ 1099511627776) (m : List ByteArray) : ((kG 1).more m).hear ⟨e, 0, 0, ByteArray.empty⟩ = kG e ∧ ((kG 1).more m).hears ⟨e, 0, 0, ByteArray.empty⟩ = true := by
  have he : ((kG 1).more m).epoch = 1 := rfl
  have hp : ((kG 1).more m).passive = true := rfl
  refine ⟨?_, ?_⟩
  · unfold LS.hear
    rw [if_pos (by rw [he]; simp only; omega), if_pos hp]
    rfl
  · unfold LS.hears
    rw [he, hp]
    simp only [Bool.and_true, decide_eq_true_eq]
    omega
/-- The frames of a fresh link behind so many offers. -/
theorem again3 {e : Int} (h1 : 1 ≤ e) (h2 : e ≤ 1099511627776) (m : List ByteArray) : ((kG e).more m).frames = if m.length = 0 then [⟨e, 0, 0, ByteArray.empty⟩] else (pcs 0 m).map fun p => ⟨e, p.seq, 0, p.data⟩ := by
  have he : ((kG e).more m).epoch = e := by
    show clampI e 0 1099511627776 = e
    unfold clampI
    rw [if_neg (by omega), if_neg (by omega)]
  have hps : ((kG e).more m).ps = pcs 0 m := by
    unfold LS.ps
    show pcs 0 (([] ++ m).drop 0) = _
    simp
  have hn : ((kG e).more m).r.n = 0 := rfl
  unfold LS.frames frs
  rw [he, hps, hn, pcs_length, if_neg (by omega)]
  rfl
/-- Told anew: the same, but for the epoch. -/
theorem again4 {e : Int} (h1 : 2 ≤ e) (h2 : e ≤ 1099511627776) (m : List ByteArray) : ∃ n : Nat, ((kG 1).more m).frames.length = n ∧ ((kG e).more m).frames.length = n ∧ n ≤ m.length + 1 ∧
    ∀ (i : Nat) (h : i < ((kG 1).more m).frames.length) (h' : i < ((kG e).more m).frames.length), ((kG 1).more m).frames[i].data = ((kG e).more m).frames[i].data ∧ ((kG 1).more m).frames[i].seq = ((kG e).more m).frames[i].seq ∧ ((kG e).more m).frames[i].epoch = e := by
  rw [again3 (by omega) (by omega), again3 (by omega) h2]
  by_cases hm : m.length = 0
  · simp only [hm, if_true]
    refine ⟨1, rfl, rfl, by omega, fun i h h' => ?_⟩
    simp at h
    subst h
    exact ⟨rfl, rfl, rfl⟩
  · simp only [hm, if_false]
    refine ⟨m.length, by simp [pcs_length], by simp [pcs_length], by omega, fun i h h' => ?_⟩
    simp

/-- Frames that were told, as an object. -/
def frO (A : Option Addr) (c : Nat) (l : List Frm) : Ob := fun w F => SL KF F w A c l ∧ ∀ b, F b → b < w.heap.size
theorem frO.good (B : Nat) (A : Option Addr) (c : Nat) (l : List Frm) : Good B (frO A c l) :=
  ⟨fun {w w' F} h hs hk => ⟨h.1.keep hs fun b hb => hk b (.inl hb), fun b hb => Nat.lt_of_lt_of_le (h.2 b hb) hs⟩, fun {w F} h b hb => h.2 b hb⟩
theorem frO.of {w w0 : World} {A : Option Addr} {c : Nat} {l : List Frm} (h : SL KF (newB w0) w A c l) : frO A c l w (fun b => newB w0 b ∧ b < w.heap.size) :=
  ⟨h.mono fun b hb hl => ⟨hb, hl⟩, fun b hb => hb.2⟩

set_option maxRecDepth 100000 in
set_option maxHeartbeats 4000000 in
theorem feedAgain_any (rs : List Rnd) (A : Option Addr) (c : Nat) (ep : Int) (w : World) (h : SL KR (oldB w) w A c rs) (hG : Bits w) :
    Calls Tryd.prog 6 #[.slice A rs.length c, .int .i64 ep] w fun e w' => e = .returned (.bool true) ∧ Below w.heap.size w w' := by
  have hpos := hG.pos
  have HG := Lib.hid hG
  have Hh := Lib.hid h
  clear hG h
  go_enter Tryd.func6, Tryd.ntmps6
  go_wp2_with (first
    | (go_at_call 31; refine (logNew_any _ _).mono ?_; rintro e w1 ⟨rfl, hl1, hb1⟩)
    | (go_at_call 32; refine (lnkNew_any _ _ _ _ _).mono ?_; rintro e w2 ⟨pk, Fk, rfl, hp2, hk2, hn2, hb2⟩; unfold ptr)
    | (go_at_call 33; refine (feedNew_any _).mono ?_; rintro e w3 ⟨rfl, rfl⟩; unfold ptr))
  have S := P3.made hl1 hb1 hk2 hn2 hb2
  generalize w2.heap.size = pf at *
  generalize World.alloc w2 _ = W at *
  have S0 : Hid (Sys w.heap.size [SepL w.heap.size (P3 w.heap.size pf pk (Lg.new 3) 0 (kG 1))] w W) := Lib.hid S
  clear hl1 hb1 hk2 hn2 hb2 hp2 S
  go_wp2_with fail
  refine (fawake_any _ (S0.out.bits HG.out)).mono ?_
  rintro e w3 ⟨rfl, hb3⟩
  have S1 := Lib.hid (S0.out.below hb3)
  clear S0 hb3
  rcases hgr : greatRs rs with _ | _
  all_goals
    have Hgr := Lib.hid hgr
    clear hgr
  · by_cases hep : 2 ≤ ep ∧ ep ≤ 1099511627776
    · obtain ⟨he1, he2⟩ := hep
      have hn : rs.length ≤ 40 := by
        have := Hgr.out
        simp only [greatRs, Bool.or_eq_false_iff, decide_eq_false_iff_not] at this
        omega
      go_wp2_with fail
      refine (greatRs_any rs A c _ (S1.out.sl Hh.out).any).mono ?_
      rintro e w4 ⟨rfl, hb4⟩
      rw [Hgr.out]
      have S2 := Lib.hid (S1.out.below hb4)
      clear S1 hb4 Hgr
      go_wp2
      go_loopw [47] (fun i wr => ∃ k : Nat, k ≤ rs.length ∧ i = .int .i64 k ∧ Hid (Sys w.heap.size [SepL w.heap.size (P3 w.heap.size pf pk (addAll (Lg.new 3) (rs.take k)) 0 (kG 1))] w wr)) (fun i _ => rs.length - (intOf i).toNat)
      case atStart => exact ⟨0, Nat.zero_le _, rfl, S2⟩
      case round =>
        obtain ⟨k, hk, rfl, hS⟩ := hrel
        clear S2
        by_cases hlt : k < rs.length
        · obtain ⟨b, off, A', c', rfl, _, hbw, d0, d1, d2, hsl⟩ := (hS.out.sl Hh.out).rnd k hlt
          have hadd := addAll_take (Lg.new 3) rs k hlt
          have hlen : (addAll (Lg.new 3) (rs.take k)).l.length ≤ 100000 := by
            have := addAll_len (rs.take k) (Lg.new 3)
            have h3 : (Lg.new 3).l.length = 0 := rfl
            rw [List.length_take, h3] at this
            omega
          generalize addAll (Lg.new 3) (rs.take k) = g at *
          generalize rs[k] = r at *
          have Hadd := Lib.hid hadd
          obtain ⟨F1, hl, hge, hput⟩ := hS.out.at2 0 _ rfl (P3.goods _ _ _ _ _ _ _) 2 (logO w.heap.size g) rfl
          have Hput := Lib.hid hput
          have Hl := Lib.hid hl
          have Hge := Lib.hid hge
          have Hsl := Lib.hid hsl
          clear hput hl hge hsl hadd
          go_wp2_with (first
            | (go_at_call 43; refine (logAdd_any w.heap.size F1 g r A' c' _ ((logO.good 0 _ _).below Hl.out ((Below.refl _ _).alloc (Nat.le_refl _) _)) ((Hsl.out.alloc _).mono fun b hb _ hF => by have := Hge.out b hF; simp only [oldB] at hb; omega) hlen).mono ?_; rintro e w4 ⟨rfl, F', hl', hst⟩))
          go_roundw
          case rel => exact ⟨k + 1, by omega, by go_num, Lib.hid (by rw [Hadd.out]; exact (Hput.out (logO w.heap.size (g.add r)) F' _ hl' (logO.good _ _ _) ((Step.of_below ((Below.refl _ _).alloc (Nat.le_refl _) _)).trans hst)))⟩
          case measure => simp [intOf]; omega
        · obtain rfl : k = rs.length := by omega
          rw [List.take_length] at hS
          have hlen : (addAll (Lg.new 3) rs).l.length ≤ 1000 := by
            have := addAll_len rs (Lg.new 3)
            have h3 : (Lg.new 3).l.length = 0 := rfl
            rw [h3] at this
            omega
          have hq1 := again1 1 (addAll (Lg.new 3) rs).l (by omega)
          have hq2 := again1 ep (addAll (Lg.new 3) rs).l (by omega)
          generalize addAll (Lg.new 3) rs = g at *
          have hml : ((g.l.take 16).map bRnd).length ≤ 16 := by simp; omega
          generalize (g.l.take 16).map bRnd = m at *
          obtain ⟨nf, hf1, hf2, hf3, hf4⟩ := again4 he1 he2 m
          obtain ⟨hh1, hh2⟩ := again2 he1 he2 m
          have hall1 : ((kG 1).more m).s.all.length ≤ 16 := by simpa [LS.more, kG, LS.anew, SS.new] using hml
          generalize hk1 : (kG 1).more m = ka at *
          generalize hk2 : (kG ep).more m = kb at *
          have Hq1 := Lib.hid hq1
          have Hq2 := Lib.hid hq2
          have Hh1 := Lib.hid hh1
          have Hh2 := Lib.hid hh2
          have Hf1 := Lib.hid hf1
          have Hf2 := Lib.hid hf2
          have Hf4 := Lib.hid hf4
          clear hk hlt hq1 hq2 hh1 hh2 hf1 hf2 hf4 hk1 hk2
          go_wp2_with fail
          obtain ⟨FP, hP, _, hput⟩ := hS.out.at_ 0 _ rfl
          refine (pump_sep hP (hS.out.bits HG.out) hpos (Nat.zero_le _) (by show _ + 0 ≤ _; omega)).mono ?_
          rintro e w6 ⟨rfl, F', hP', hst⟩
          rw [List.drop_zero, Hq1.out] at hP' ⊢
          simp only [Nat.zero_add] at hP' ⊢
          have S6 : Hid (Sys w.heap.size [SepL w.heap.size (P3 w.heap.size pf pk g (min g.l.length 16) ka)] w w6) := Lib.hid (hput _ _ _ hP' (SepL.good (P3.goods _ _ _ _ _ _ _)) hst)
          clear hP hput hP' hst hS
          generalize hmn : min g.l.length 16 = n at *
          have Hmn := Lib.hid hmn
          have hnl : n ≤ g.l.length := by omega
          clear hmn
          go_wp2_with fail
          obtain ⟨F5, hk5, _, _⟩ := S6.out.at2 0 _ rfl (P3.goods _ _ _ _ _ _ _) 1 (lnkO pk ka) rfl
          refine (lnkFramesN_any pk F5 ka _ hk5).mono ?_
          rintro e w7 ⟨⟨A7, c7, rfl, hfr⟩, hb7⟩
          rw [Hf1.out]
          have S7 := Lib.hid ((S6.out).push (frO.of hfr) (frO.good _ _ _ _) (fun b hb => hb.1) hb7)
          clear hk5 hfr hb7 S6
          go_wp2_with fail
          obtain ⟨F2, hk2, _, hput⟩ := S7.out.at2 1 _ rfl (P3.goods _ _ _ _ _ _ _) 1 (lnkO pk ka) rfl
          refine (lnkHear_any pk F2 ka ⟨ep, 0, 0, ByteArray.empty⟩ _ hk2).mono ?_
          rintro e w8 ⟨rfl, F', hk', hst⟩
          rw [Hh1.out] at hk'
          rw [Hh2.out]
          have S8 : Hid (Sys w.heap.size [frO A7 c7 ka.frames, SepL w.heap.size (P3 w.heap.size pf pk g n (kG ep))] w w8) := Lib.hid (hput _ _ _ hk' (lnkO.good _ _ _) hst)
          clear hk2 hput hk' hst S7 Hh1 Hh2
          go_wp2_with fail
          obtain ⟨F3, hf3', _, hput⟩ := S8.out.at2 1 _ rfl (P3.goods _ _ _ _ _ _ _) 0 (BlkO pf 159 #[.int .i64 n]) rfl
          refine (feedReset_any pf n _ hf3'.1).mono ?_
          rintro e w8x ⟨rfl, rfl⟩
          have h4 := hf3'.set 0 (.int .i64 0)
          have S9 : Hid (Sys w.heap.size [frO A7 c7 ka.frames, SepL w.heap.size (P3 w.heap.size pf pk g 0 (kG ep))] w (w8.setCell ⟨pf, 0, none⟩ (.int .i64 0))) := Lib.hid (hput (BlkO pf 159 #[.int .i64 0]) F3 _ h4.1 (BlkO.good _ _ _ _) h4.2)
          clear hf3' hput h4 S8
          generalize World.setCell w8 _ _ = w9 at *
          go_wp2_with fail
          obtain ⟨FP, hP, _, hput⟩ := S9.out.at_ 1 _ rfl
          refine (pump_sep hP (S9.out.bits HG.out) hpos (Nat.zero_le _) (by show _ + 0 ≤ _; omega)).mono ?_
          rintro e w10 ⟨rfl, F', hP', hst⟩
          rw [List.drop_zero, Hq2.out] at hP' ⊢
          simp only [Nat.zero_add] at hP' ⊢
          have S10 : Hid (Sys w.heap.size [frO A7 c7 ka.frames, SepL w.heap.size (P3 w.heap.size pf pk g n kb)] w w10) := Lib.hid (hput _ _ _ hP' (SepL.good (P3.goods _ _ _ _ _ _ _)) hst)
          clear hP hput hP' hst S9
          go_wp2_with fail
          obtain ⟨F5, hk5, _, _⟩ := S10.out.at2 1 _ rfl (P3.goods _ _ _ _ _ _ _) 1 (lnkO pk kb) rfl
          refine (lnkFramesN_any pk F5 kb _ hk5).mono ?_
          rintro e w11 ⟨⟨A11, c11, rfl, hfr⟩, hb11⟩
          rw [Hf2.out]
          have S11 := Lib.hid ((S10.out).push (frO.of hfr) (frO.good _ _ _ _) (fun b hb => hb.1) hb11)
          clear hk5 hfr hb11 S10
          generalize ka.frames = L1 at *
          generalize kb.frames = L2 at *
          have hnb : nf ≤ 17 := by omega
          clear hf3 hml hall1
          go_wp2_with fail
          obtain ⟨F1, hl, _, _⟩ := S11.out.at2 2 _ rfl (P3.goods _ _ _ _ _ _ _) 2 (logO w.heap.size g) rfl
          refine (logLen_any _ F1 g _ hl).mono ?_
          rintro e w12 ⟨rfl, rfl⟩
          clear hl
          go_wp2
          all_goals first
            | (exfalso
               have h := Hmn.out
               omega)
            | (clear Hmn
               go_loopw [93] (fun i wr => ∃ k : Nat, k ≤ nf ∧ i = .int .i64 k ∧ Hid (Sys w.heap.size [frO A11 c11 L2, frO A7 c7 L1, SepL w.heap.size (P3 w.heap.size pf pk g n kb)] w wr)) (fun i _ => nf - (intOf i).toNat)
               case atStart => exact ⟨0, Nat.zero_le _, rfl, S11⟩
               case round =>
                 obtain ⟨k, hk, rfl, hS⟩ := hrel
                 clear S11
                 by_cases hlt : k < nf
                 · obtain ⟨Fa, ⟨ha, _⟩, _⟩ := hS.out.get 0 _ rfl
                   obtain ⟨Fb, ⟨hb, _⟩, _⟩ := hS.out.get 1 _ rfl
                   have hl1 : k < L1.length := by rw [Hf1.out]; exact hlt
                   have hl2 : k < L2.length := by rw [Hf2.out]; exact hlt
                   obtain ⟨q1, q2, q3⟩ := Hf4.out k hl1 hl2
                   obtain ⟨b, off, rfl, _, hbw, d0, d1, d2, d3⟩ := ha.frm k hl2
                   obtain ⟨b', off', rfl, _, hbw', e0, e1, e2, e3⟩ := hb.frm k hl1
                   rw [q3] at d0
                   rw [q1] at e3
                   rw [q2] at e1
                   generalize L2[k] = u at *
                   have i0 : (0 : Int) ≤ (k : Int) := by omega
                   have i1 : (k : Int) < (nf : Int) := by omega
                   clear q1 q2 q3 ha hb e0 e2 d2 hl1 hl2
                   go_wp2
                   go_quiet (fail)
                   go_wp2
                   go_roundw
                   case rel => exact ⟨k + 1, by omega, by go_num, Lib.hid (hS.out.drewN _)⟩
                   case measure => simp [intOf]; omega
                 · go_wp2
                   go_ret
                   exact ⟨rfl, hS.out.end_⟩)
    · have Hep := Lib.hid hep
      by_cases e1 : ep < 2
      · go_wp2_with fail
        refine (greatRs_any rs A c _ (S1.out.sl Hh.out).any).mono ?_
        rintro e w4 ⟨rfl, hb4⟩
        rw [Hgr.out]
        have S2 := Lib.hid (S1.out.below hb4)
        clear S1 hb4 hep
        go_wp2_with fail
        refine (fawake_any _ (S2.out.bits HG.out)).mono ?_
        rintro e w5 ⟨rfl, hb5⟩
        go_wp2
        go_ret
        exact ⟨rfl, (S2.out.below hb5).end_⟩
      · have e2 : 1099511627776 < ep := by omega
        have e3 : 2 ≤ ep := by omega
        go_wp2_with fail
        refine (greatRs_any rs A c _ (S1.out.sl Hh.out).any).mono ?_
        rintro e w4 ⟨rfl, hb4⟩
        rw [Hgr.out]
        have S2 := Lib.hid (S1.out.below hb4)
        clear S1 hb4 hep e1
        go_wp2_with fail
        refine (fawake_any _ (S2.out.bits HG.out)).mono ?_
        rintro e w5 ⟨rfl, hb5⟩
        go_wp2
        go_ret
        exact ⟨rfl, (S2.out.below hb5).end_⟩
  · go_wp2_with fail
    refine (greatRs_any rs A c _ (S1.out.sl Hh.out).any).mono ?_
    rintro e w4 ⟨rfl, hb4⟩
    rw [Hgr.out]
    have S2 := Lib.hid (S1.out.below hb4)
    clear S1 hb4
    go_wp2_with fail
    refine (fawake_any _ (S2.out.bits HG.out)).mono ?_
    rintro e w5 ⟨rfl, hb5⟩
    go_wp2
    go_ret
    exact ⟨rfl, (S2.out.below hb5).end_⟩

end Go.Proofs.YthdnoljmiehegaaDoor
