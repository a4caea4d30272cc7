/- WHAT IS PROVED HERE: the law FeedPlays returns true. -/
import Derived.Test.YthdnoljmiehegaaDoorFcom
import Derived.Test.YthdnoljmiehegaaDoorRpump
import Derived.Test.YthdnoljmiehegaaDoorRlog2
import Derived.Test.YthdnoljmiehegaaDoorRlnk2
import Derived.Test.YthdnoljmiehegaaDoorRlnk3
import Derived.Test.YthdnoljmiehegaaDoorFact
import Derived.Test.YthdnoljmiehegaaDoorSame
import Derived.Test.YthdnoljmiehegaaDoorSep2
set_option linter.unusedVariables false
set_option linter.unusedSimpArgs false
namespace Go.Proofs.YthdnoljmiehegaaDoor
open Go.RowKit

theorem LS.hear_ok {l : LS} (h : l.s.Ok) (f : Frm) : (l.hear f).s.Ok := by
  unfold LS.hear
  split
  · split
    · exact SS.ack_ok (SS.new_ok _ _) _
    · exact h
  · split
    · exact SS.ack_ok h _
    · exact h
theorem SS.ack_all (s : SS) (n : Int) : (s.ack n).all = s.all := by
  unfold SS.ack
  split <;> rfl
theorem LS.hear_all (l : LS) (f : Frm) : (l.hear f).s.all.length ≤ l.s.all.length := by
  unfold LS.hear
  split
  · split
    · show ((SS.new _ _).ack _).all.length ≤ _
      rw [SS.ack_all]; simp [SS.new]
    · exact Nat.le_refl _
  · split
    · show ((l.s).ack _).all.length ≤ _
      rw [SS.ack_all]; exact Nat.le_refl _
    · exact Nat.le_refl _
theorem Frm.may_parts {f : Frm} (h : f.may = 0) : 1 ≤ f.epoch ∧ f.epoch ≤ 1099511627776 ∧ 0 ≤ f.seq ∧ f.seq ≤ 1125899906842624 := by
  unfold Frm.may at h
  split at h
  · cases h
  · omega
/-- Old slices stand while a call goes on. -/
theorem Sys.sl2 {l l' : List Ob} {w0 wa wb : World} (ha : Sys w0.heap.size l w0 wa) (hb : Sys w0.heap.size l' w0 wb) (hs : wa.heap.size ≤ wb.heap.size) {α : Type} {K : Kind α} {A : Option Addr} {c : Nat} {x : List α} (h : SL K (oldB w0) wa A c x) : SL K (oldB w0) wb A c x :=
  h.keep hs fun b hob _ => by
    have hob' : b < w0.heap.size := hob
    rw [hb.mod.block b hob' (by omega), ha.mod.block b hob' (by omega)]
theorem greatF_at {l : List FAct} (h : greatF l = false) : l.length ≤ 60 ∧ ∀ a ∈ l, a.great = false := by
  simp only [greatF, Bool.or_eq_false_iff, decide_eq_false_iff_not] at h
  refine ⟨by omega, fun a ha => ?_⟩
  have := List.any_eq_false.1 h.2 a ha
  simpa using this
theorem FAct.great_hear {a : FAct} (h : a.great = false) (hk : a.kind = 2) : a.f.may = 0 := by
  simp only [FAct.great, Bool.or_eq_false_iff, Bool.and_eq_false_iff] at h
  rcases h.2 with h | h
  · simp [hk] at h
  · simpa using h

theorem Lg.len_add (g : Lg) (r : Rnd) : g.l.length ≤ (g.add r).l.length := by
  unfold Lg.add
  split <;> simp
abbrev FSys (w : World) (rl rf rk pl pf pk : Nat) (g : Lg) (a : Nat) (k : LS) (box : List Ob) (wr : World) : Prop :=
  Sys w.heap.size (SepL w.heap.size (R3 rl rf rk g a k) :: SepL w.heap.size (P3 pl pf pk g a k) :: box) w wr

set_option maxRecDepth 100000 in
set_option maxHeartbeats 8000000 in
theorem feedPlays_any (x0 x1 : Int) (l : List FAct) (A : Option Addr) (c : Nat) (w : World) (h : SL KA (oldB w) w A c l) (hG : Bits w) :
    Calls Tryd.prog 5 #[.agg #[.int .i64 x0, .int .i64 x1], .slice A l.length c] w fun e w' => e = .returned (.bool true) ∧ Below w.heap.size w w' := by
  have hpos := hG.pos
  have HG := Lib.hid hG
  have Hh := Lib.hid h
  clear hG h
  have S0 := Lib.hid ((Sys.new w).box 57 #[.int .i64 x0, .int .i64 x1])
  obtain ⟨c0, f0, z0⟩ := (S0.out.blk 0 rfl).1.rules
  go_enter Tryd.func5, Tryd.ntmps5
  go_wp2
  generalize World.alloc w _ = W at *
  go_region_held3 (fun w' => w'.cell? ⟨w.heap.size, 0, none⟩ = some (.int .i64 x0) ∧ w'.cell? ⟨w.heap.size, 1, none⟩ = some (.int .i64 x1))
    (first | go_keep | exact ⟨(k3 _ _ z0).trans (c0 0), (k3 _ _ z0).trans (c0 1)⟩ | exact ⟨(k5 _ _ z1).trans ((k3 _ _ z0).trans (c0 0)), (k5 _ _ z1).trans ((k3 _ _ z0).trans (c0 1))⟩)
    (first
    | (go_at_call 31; refine (logNew_any _ _).mono ?_; rintro e w1 ⟨rfl, hl1, hb1x⟩; have hb1 : Below W.heap.size W w1 := (below_drewN' (Below.refl W.heap.size W) 1).trans hb1x; obtain ⟨k3, k4⟩ := bcell hb1; have z1 : w.heap.size < w1.heap.size := Nat.lt_of_lt_of_le z0 hb1.size)
    | (go_at_call 32; refine (lnkNew_any _ _ _ _ _).mono ?_; rintro e w2 ⟨pk, Fk, rfl, hp2, hk2, hn2, hb2⟩; unfold ptr; obtain ⟨k5, k6⟩ := bcell hb2)
    | (go_at_call 33; refine (feedNew_any _).mono ?_; rintro e w3 ⟨rfl, rfl⟩; unfold ptr))
  have b3 : Below w2.heap.size w2 (w2.alloc (.cells #[.int .i64 0] 159)) := (Below.refl _ _).alloc (Nat.le_refl _) _
  have S1a := Sys.push S0.out (O := logO W.heap.size (Lg.new 3)) (F1 := fun i => i = W.heap.size) hl1 (logO.good _ _ _) (fun b hb => Nat.le_of_eq hb.symm) hb1
  have S1b := S1a.push (O := lnkO pk (LS.anew x0 x1 true 1)) hk2 (lnkO.good _ _ _) hn2 hb2
  have S1c := S1b.box 159 #[.int .i64 0]
  have S1 : Hid (Sys w.heap.size [SepL w.heap.size (P3 W.heap.size w2.heap.size pk (Lg.new 3) 0 (LS.anew x0 x1 true 1)), BlkO w.heap.size 57 #[.int .i64 x0, .int .i64 x1]] w (w2.alloc (.cells #[.int .i64 0] 159))) := Lib.hid S1c.group3
  have hpl1 : w.heap.size ≠ W.heap.size := by omega
  generalize W.heap.size = pl at *
  generalize w2.heap.size = pf at *
  generalize World.alloc w2 _ = W2 at *
  clear hl1 hk2 hn2 hb2 hp2 hb1 b3 S1a S1b S1c k3 k4 k5 k6 z1 c0 f0 z0 S0 hpl1
  obtain ⟨c0, f0, z0⟩ := (S1.out.blk 1 rfl).1.rules
  go_wp2
  go_region_held3 (fun w' => w'.cell? ⟨w.heap.size, 0, none⟩ = some (.int .i64 x0) ∧ w'.cell? ⟨w.heap.size, 1, none⟩ = some (.int .i64 x1))
    (first | go_keep | exact ⟨(k3 _ _ (by (try simp); omega)).trans (by simp [*]), (k3 _ _ (by (try simp); omega)).trans (by simp [*])⟩ | exact ⟨(k5 _ _ (by (try simp); omega)).trans (by simp [*]), (k5 _ _ (by (try simp); omega)).trans (by simp [*])⟩)
    (first
    | (go_at_call 34; refine (rlogNew_any _ _).mono ?_; rintro e w4 ⟨rfl, hl4, hb4⟩; obtain ⟨k3, k4⟩ := bcell hb4; have z3 := hb4.size; simp at z3)
    | (go_at_call 35; refine (rlnkNew_any _ _ _ _ _).mono ?_; rintro e w5 ⟨rk, Fk5, rfl, hp5, hk5, hn5, hb5⟩; unfold ptr; obtain ⟨k5, k6⟩ := bcell hb5))
  all_goals clear k3 k4 k5 k6 z3
  all_goals first
    | (have Sd : Sys w.heap.size _ w W2.drew := S1.out.drewN 1
       have Sa := Sd.push (O := rlogO W2.drew.heap.size (Lg.new 3)) (F1 := fun i => i = W2.drew.heap.size) hl4 (rlogO.good _ _ _) (fun b hb => Nat.le_of_eq hb.symm) hb4
       have Sb := Sa.push (O := rlnkO rk (LS.anew x0 x1 true 1)) hk5 (rlnkO.good _ _ _) hn5 hb5
       have Sc := Sb.box 71 #[.int .i64 0]
       have S2 : Hid (FSys w W2.heap.size w5.heap.size rk pl pf pk (Lg.new 3) 0 (LS.anew x0 x1 true 1) [BlkO w.heap.size 57 #[.int .i64 x0, .int .i64 x1]] (w5.alloc (.cells #[.int .i64 0] 71))) := Lib.hid Sc.group3
       clear Sd Sa Sb Sc hl4 hb4 hk5 hn5 hb5 hp5 S1 c0 f0
       generalize hrl : W2.heap.size = rl at *
       generalize hrf : w5.heap.size = rf at *
       generalize World.alloc w5 _ = W3 at *
       clear hrl hrf)
    | (have Sd : Sys w.heap.size _ w W2.drew := S1.out.drewN 1
       have Sa := Sd.push (O := rlogO W2.drew.heap.size (Lg.new 3)) (F1 := fun i => i = W2.drew.heap.size) hl4 (rlogO.good _ _ _) (fun b hb => Nat.le_of_eq hb.symm) hb4
       have Sb := Sa.box 71 #[.int .i64 0]
       have Sc := Sb.push (O := rlnkO rk (LS.anew x0 x1 true 1)) hk5 (rlnkO.good _ _ _) hn5 hb5
       have S2 : Hid (FSys w W2.heap.size w4.heap.size rk pl pf pk (Lg.new 3) 0 (LS.anew x0 x1 true 1) [BlkO w.heap.size 57 #[.int .i64 x0, .int .i64 x1]] w5) := Lib.hid Sc.swap.group3
       clear Sd Sa Sb Sc hl4 hb4 hk5 hn5 hb5 hp5 S1 c0 f0
       generalize hrl : W2.heap.size = rl at *
       generalize hrf : w4.heap.size = rf at *
       clear hrl hrf)
    | (have Sd : Sys w.heap.size _ w (W2.alloc (.cells #[.int .i64 0] 71)).drew := (S1.out.box 71 #[.int .i64 0]).drewN 1
       have Sa := Sd.push (O := rlogO (W2.alloc (.cells #[.int .i64 0] 71)).drew.heap.size (Lg.new 3)) (F1 := fun i => i = (W2.alloc (.cells #[.int .i64 0] 71)).drew.heap.size) hl4 (rlogO.good _ _ _) (fun b hb => Nat.le_of_eq hb.symm) hb4
       have Sb := Sa.push (O := rlnkO rk (LS.anew x0 x1 true 1)) hk5 (rlnkO.good _ _ _) hn5 hb5
       have hsz : (W2.alloc (.cells #[.int .i64 0] 71)).drew.heap.size = W2.heap.size + 1 := by simp
       have Sc := Sb.swap1.swap.group3
       rw [hsz] at Sc
       have S2 : Hid (FSys w (W2.heap.size + 1) W2.heap.size rk pl pf pk (Lg.new 3) 0 (LS.anew x0 x1 true 1) [BlkO w.heap.size 57 #[.int .i64 x0, .int .i64 x1]] w5) := Lib.hid Sc
       clear Sd Sa Sb Sc hsz hl4 hb4 hk5 hn5 hb5 hp5 S1 c0 f0
       generalize hrl : W2.heap.size + 1 = rl at *
       generalize hrf : W2.heap.size = rf at *
       clear hrl hrf)
  all_goals
    go_wp2_with fail
    refine (fawake_any _ (S2.out.bits HG.out)).mono ?_
    rintro e w6 ⟨rfl, hb6⟩
    have S3 := Lib.hid (S2.out.below hb6)
    clear S2 hb6 z0 hb1x
    rcases hgr : greatF l with _ | _
    all_goals
      have Hgr := Lib.hid hgr
      clear hgr
    · go_wp2_with fail
      refine (fgreat_any l A c _ (S3.out.sl Hh.out).any).mono ?_
      rintro e w7 ⟨rfl, hb7⟩
      rw [Hgr.out]
      have S4 := Lib.hid (S3.out.below hb7)
      clear S3 hb7
      have hn : l.length ≤ 60 := (greatF_at Hgr.out).1
      go_wp2
      go_loopw [49] (fun i wr => ∃ k : Nat, ∃ g a ls, k ≤ l.length ∧ i = .int .i64 k ∧ g.l.length ≤ k ∧ a ≤ g.l.length ∧ ls.s.all.length ≤ 16 * k ∧ ls.s.Ok ∧ Hid (FSys w rl rf rk pl pf pk g a ls [BlkO w.heap.size 57 #[.int .i64 x0, .int .i64 x1]] wr)) (fun i _ => l.length - (intOf i).toNat)
      case atStart => exact ⟨0, Lg.new 3, 0, LS.anew x0 x1 true 1, Nat.zero_le _, rfl, Nat.le_refl _, Nat.le_refl _, Nat.le_refl _, SS.new_ok _ _, S4⟩
      case round =>
        obtain ⟨k, g, a, ls, hk, rfl, hgk, hag, hls, hok, hS⟩ := hrel
        clear S4
        by_cases hlt : k < l.length
        · obtain ⟨b, off, A', c', rfl, _, hbw, d0, d1, d2, d3, d4, d5, d6, d7, hsl⟩ := (hS.out.sl Hh.out).fact k hlt
          have hgt := (greatF_at Hgr.out).2 _ (List.getElem_mem hlt)
          generalize l[k] = act at *
          have hhear : act.kind = 2 → act.f.may = 0 := FAct.great_hear hgt
          obtain ⟨kind, ⟨ep, sq, ak, da⟩, ⟨o, n, us⟩⟩ := act
          simp only at d0 d1 d2 d3 d4 d5 d6 d7 hsl hhear
          have S5 : Hid (Sys w.heap.size [BlkO wr.heap.size 76 #[.int .i64 kind, .int .i64 ep, .int .i64 sq, .int .i64 ak, .string da, .int .i64 o, .int .i64 n, .slice A' us.length c'], SepL w.heap.size (R3 rl rf rk g a ls), SepL w.heap.size (P3 pl pf pk g a ls), BlkO w.heap.size 57 #[.int .i64 x0, .int .i64 x1]] w (wr.alloc (.cells #[.int .i64 kind, .int .i64 ep, .int .i64 sq, .int .i64 ak, .string da, .int .i64 o, .int .i64 n, .slice A' us.length c'] 76))) := Lib.hid (hS.out.box 76 #[.int .i64 kind, .int .i64 ep, .int .i64 sq, .int .i64 ak, .string da, .int .i64 o, .int .i64 n, .slice A' us.length c'])
          obtain ⟨c8, f8, z8⟩ := (S5.out.blk 0 rfl).1.rules
          have Hsl := Lib.hid hsl
          have Hok := Lib.hid hok
          have Hhear := Lib.hid hhear
          clear hsl hok hhear hgt
          by_cases k1 : kind = 1
          · subst k1
            go_wp2_with fail
            obtain ⟨FP, hP, _, hput⟩ := S5.out.at_ 2 _ rfl
            refine (pump_sep hP (S5.out.bits HG.out) hpos hag (by omega)).mono ?_
            rintro e w8 ⟨rfl, F', hP', hst⟩
            have S6 : Hid (Sys w.heap.size [BlkO wr.heap.size 76 #[.int .i64 1, .int .i64 ep, .int .i64 sq, .int .i64 ak, .string da, .int .i64 o, .int .i64 n, .slice A' us.length c'], SepL w.heap.size (R3 rl rf rk g a ls), SepL w.heap.size (P3 pl pf pk g (a + (pumpGo (g.l.drop a) ls).1) (pumpGo (g.l.drop a) ls).2), BlkO w.heap.size 57 #[.int .i64 x0, .int .i64 x1]] w w8) := Lib.hid (hput _ _ _ hP' (SepL.good (P3.goods _ _ _ _ _ _ _)) hst)
            clear hP hput hP' hst c8 f8 z8
            go_wp2_with fail
            obtain ⟨FP, hP, _, hput⟩ := S6.out.at_ 1 _ rfl
            refine (rpump_sep hP hag (by omega)).mono ?_
            rintro e w9 ⟨rfl, F', hP', hst⟩
            have S7 : Hid (Sys w.heap.size [BlkO wr.heap.size 76 #[.int .i64 1, .int .i64 ep, .int .i64 sq, .int .i64 ak, .string da, .int .i64 o, .int .i64 n, .slice A' us.length c'], SepL w.heap.size (R3 rl rf rk g (a + (pumpGo (g.l.drop a) ls).1) (pumpGo (g.l.drop a) ls).2), SepL w.heap.size (P3 pl pf pk g (a + (pumpGo (g.l.drop a) ls).1) (pumpGo (g.l.drop a) ls).2), BlkO w.heap.size 57 #[.int .i64 x0, .int .i64 x1]] w w9) := Lib.hid (hput _ _ _ hP' (SepL.good (R3.goods _ _ _ _ _ _ _)) hst)
            have hnl := pumpGo_len (k := ls) (g.l.drop a)
            rw [List.length_drop] at hnl
            have hal := pumpGo_all (g.l.drop a) Hok.out
            have Hok' := Lib.hid (more_ok (g.l.drop a) Hok.out)
            clear hP hput hP' hst S5 S6
            generalize pumpGo (g.l.drop a) ls = q at *
            obtain ⟨nn, q⟩ := q
            simp only at S7 hnl hal Hok' ⊢
            obtain ⟨Fr0, hr0, _, _⟩ := S7.out.at2 1 _ rfl (R3.goods _ _ _ _ _ _ _) 0 (BlkO rf 71 #[.int .i64 ((a + nn) : Nat)]) rfl
            obtain ⟨Fp0, hp0, _, _⟩ := S7.out.at2 2 _ rfl (P3.goods _ _ _ _ _ _ _) 0 (BlkO pf 159 #[.int .i64 ((a + nn) : Nat)]) rfl
            obtain ⟨Frk, hrk, _, _⟩ := S7.out.at2 1 _ rfl (R3.goods _ _ _ _ _ _ _) 1 (rlnkO rk q) rfl
            obtain ⟨Fpk, hpk, _, _⟩ := S7.out.at2 2 _ rfl (P3.goods _ _ _ _ _ _ _) 1 (lnkO pk q) rfl
            have Hp0 := Lib.hid hp0.1
            have Hrk : Hid (IsRLnk w9 rk Frk q) := Lib.hid hrk
            have Hpk : Hid (IsLnk w9 pk Fpk q) := Lib.hid hpk
            obtain ⟨cA, fA, zA⟩ := hr0.1.rules
            clear hr0 hp0 hrk hpk
            go_wp2
            go_region_held3 (fun w' => w'.cell? ⟨rf, 0, none⟩ = some (.int .i64 (((a + nn) : Nat) : Int)))
              (first | go_keep | exact (k5 _ _ zA).trans (cA 0) | exact (k6 _ _ z5).trans ((k5 _ _ zA).trans (cA 0)) | exact (k7 _ _ z6).trans ((k6 _ _ z5).trans ((k5 _ _ zA).trans (cA 0))))
              (first
              | (go_at_call 45; refine (feedAt_any pf (((a + nn) : Nat) : Int) _ ?_).mono ?_; exact Hp0.out; rintro e wA ⟨rfl, rfl⟩)
              | (go_at_call 47; refine (lnkFrames_any pk Fpk q _ ?_).mono ?_; exact IsLnk.keep Hpk.out (Nat.le_refl _) (fun _ _ _ => rfl); rintro e wB ⟨⟨A5, c5, rfl, hf5⟩, hb5x⟩; have hb5 : Below w9.heap.size w9 wB := (below_drewN' (Below.refl w9.heap.size w9) 1).trans hb5x; obtain ⟨k5, k5'⟩ := bcell hb5; have z5 := Nat.lt_of_lt_of_le zA hb5.size)
              | (go_at_call 48; refine (rlnkFrames_any rk Frk q _ ?_ (by omega)).mono ?_; exact Hrk.out.below hb5; rintro e wC ⟨⟨A6, c6, rfl, hf6⟩, hb6⟩; obtain ⟨k6, k6'⟩ := bcell hb6; have z6 := Nat.lt_of_lt_of_le z5 hb6.size)
              | (go_at_call 46; refine (sameFrames_any (LS.frames q) A5 A6 c5 c6 _ ?_ ?_).mono ?_; exact hf5.below hb6; exact hf6; rintro e wD ⟨rfl, hb7⟩; obtain ⟨k7, k7'⟩ := bcell hb7))
            all_goals
              go_wp2
              go_roundw
              case rel => exact ⟨k + 1, g, (a + nn), q, by omega, by go_num, by omega, by omega, by omega, Hok'.out, Lib.hid (((S7.out.below hb5).below hb6).below hb7).pop⟩
              case measure => simp [intOf]; omega
          · have hk1 : (kind == 1) = false := by simpa using k1
            by_cases k2 : kind = 2
            · subst k2
              have hmay := Frm.may_parts (Hhear.out rfl)
              simp only at hmay
              obtain ⟨e1, e2, e3, e4⟩ := hmay
              clear k1
              go_wp2_with fail
              obtain ⟨F1, h1, _, hput⟩ := S5.out.at2 2 _ rfl (P3.goods _ _ _ _ _ _ _) 1 (lnkO pk ls) rfl
              refine (lnkHear_any pk F1 ls ⟨ep, sq, ak, da⟩ _ h1).mono ?_
              rintro e w8 ⟨rfl, F', h2, hst⟩
              have S6 : Hid (Sys w.heap.size [BlkO wr.heap.size 76 #[.int .i64 2, .int .i64 ep, .int .i64 sq, .int .i64 ak, .string da, .int .i64 o, .int .i64 n, .slice A' us.length c'], SepL w.heap.size (R3 rl rf rk g a ls), SepL w.heap.size (P3 pl pf pk g a (ls.hear ⟨ep, sq, ak, da⟩)), BlkO w.heap.size 57 #[.int .i64 x0, .int .i64 x1]] w w8) := Lib.hid (hput _ _ _ h2 (lnkO.good _ _ _) hst)
              clear h1 hput h2 hst c8 f8 z8
              obtain ⟨c8, f8, z8⟩ := (S6.out.blk 0 rfl).1.rules
              go_wp2_with fail
              obtain ⟨F1, h1, _, hput⟩ := S6.out.at2 1 _ rfl (R3.goods _ _ _ _ _ _ _) 1 (rlnkO rk ls) rfl
              refine (rlnkHear_any rk F1 ls ⟨ep, sq, ak, da⟩ _ h1 (by omega) (by simp only; omega) (by simp only; omega) (by simp only; omega)).mono ?_
              rintro e w9 ⟨rfl, F', h2, hst⟩
              have S7 : Hid (Sys w.heap.size [BlkO wr.heap.size 76 #[.int .i64 2, .int .i64 ep, .int .i64 sq, .int .i64 ak, .string da, .int .i64 o, .int .i64 n, .slice A' us.length c'], SepL w.heap.size (R3 rl rf rk g a (ls.hear ⟨ep, sq, ak, da⟩)), SepL w.heap.size (P3 pl pf pk g a (ls.hear ⟨ep, sq, ak, da⟩)), BlkO w.heap.size 57 #[.int .i64 x0, .int .i64 x1]] w w9) := Lib.hid (hput _ _ _ h2 (rlnkO.good _ _ _) hst)
              have hal := LS.hear_all ls ⟨ep, sq, ak, da⟩
              have Hok' := Lib.hid (LS.hear_ok Hok.out ⟨ep, sq, ak, da⟩)
              clear h1 hput h2 hst S5 S6 c8 f8 z8
              generalize ls.hear ⟨ep, sq, ak, da⟩ = q at *
              obtain ⟨Fr0, hr0, _, _⟩ := S7.out.at2 1 _ rfl (R3.goods _ _ _ _ _ _ _) 0 (BlkO rf 71 #[.int .i64 (a : Nat)]) rfl
              obtain ⟨Fp0, hp0, _, _⟩ := S7.out.at2 2 _ rfl (P3.goods _ _ _ _ _ _ _) 0 (BlkO pf 159 #[.int .i64 (a : Nat)]) rfl
              obtain ⟨Frk, hrk, _, _⟩ := S7.out.at2 1 _ rfl (R3.goods _ _ _ _ _ _ _) 1 (rlnkO rk q) rfl
              obtain ⟨Fpk, hpk, _, _⟩ := S7.out.at2 2 _ rfl (P3.goods _ _ _ _ _ _ _) 1 (lnkO pk q) rfl
              have Hp0 := Lib.hid hp0.1
              have Hrk : Hid (IsRLnk w9 rk Frk q) := Lib.hid hrk
              have Hpk : Hid (IsLnk w9 pk Fpk q) := Lib.hid hpk
              obtain ⟨cA, fA, zA⟩ := hr0.1.rules
              clear hr0 hp0 hrk hpk
              go_wp2
              go_region_held3 (fun w' => w'.cell? ⟨rf, 0, none⟩ = some (.int .i64 ((a : Nat) : Int)))
                (first | go_keep | exact (k5 _ _ zA).trans (cA 0) | exact (k6 _ _ z5).trans ((k5 _ _ zA).trans (cA 0)) | exact (k7 _ _ z6).trans ((k6 _ _ z5).trans ((k5 _ _ zA).trans (cA 0))))
                (first
                | (go_at_call 45; refine (feedAt_any pf ((a : Nat) : Int) _ ?_).mono ?_; exact Hp0.out; rintro e wA ⟨rfl, rfl⟩)
                | (go_at_call 47; refine (lnkFrames_any pk Fpk q _ ?_).mono ?_; exact IsLnk.keep Hpk.out (Nat.le_refl _) (fun _ _ _ => rfl); rintro e wB ⟨⟨A5, c5, rfl, hf5⟩, hb5x⟩; have hb5 : Below w9.heap.size w9 wB := (below_drewN' (Below.refl w9.heap.size w9) 1).trans hb5x; obtain ⟨k5, k5'⟩ := bcell hb5; have z5 := Nat.lt_of_lt_of_le zA hb5.size)
                | (go_at_call 48; refine (rlnkFrames_any rk Frk q _ ?_ (by omega)).mono ?_; exact Hrk.out.below hb5; rintro e wC ⟨⟨A6, c6, rfl, hf6⟩, hb6⟩; obtain ⟨k6, k6'⟩ := bcell hb6; have z6 := Nat.lt_of_lt_of_le z5 hb6.size)
                | (go_at_call 46; refine (sameFrames_any (LS.frames q) A5 A6 c5 c6 _ ?_ ?_).mono ?_; exact hf5.below hb6; exact hf6; rintro e wD ⟨rfl, hb7⟩; obtain ⟨k7, k7'⟩ := bcell hb7))
              all_goals
                go_wp2
                go_roundw
                case rel => exact ⟨k + 1, g, a, q, by omega, by go_num, by omega, by omega, by omega, Hok'.out, Lib.hid (((S7.out.below hb5).below hb6).below hb7).pop⟩
                case measure => simp [intOf]; omega
            · have hk2 : (kind == 2) = false := by simpa using k2
              by_cases k3 : kind = 3
              · subst k3
                clear k1 k2 hk1 hk2
                go_wp2_with fail
                obtain ⟨F1, h1, _, hput⟩ := S5.out.at2 2 _ rfl (P3.goods _ _ _ _ _ _ _) 0 (BlkO pf 159 #[.int .i64 (a : Nat)]) rfl
                refine (feedReset_any pf a _ h1.1).mono ?_
                rintro e w8 ⟨rfl, rfl⟩
                have h4 := h1.set 0 (.int .i64 0)
                have S6 : Hid (Sys w.heap.size [BlkO wr.heap.size 76 #[.int .i64 3, .int .i64 ep, .int .i64 sq, .int .i64 ak, .string da, .int .i64 o, .int .i64 n, .slice A' us.length c'], SepL w.heap.size (R3 rl rf rk g a ls), SepL w.heap.size (P3 pl pf pk g 0 ls), BlkO w.heap.size 57 #[.int .i64 x0, .int .i64 x1]] w ((wr.alloc (.cells #[.int .i64 3, .int .i64 ep, .int .i64 sq, .int .i64 ak, .string da, .int .i64 o, .int .i64 n, .slice A' us.length c'] 76)).setCell ⟨pf, 0, none⟩ (.int .i64 0))) := Lib.hid (hput (BlkO pf 159 #[.int .i64 0]) F1 _ h4.1 (BlkO.good _ _ _ _) h4.2)
                clear h1 hput h4 c8 f8 z8
                generalize World.setCell _ _ _ = w8 at *
                obtain ⟨F1, h1, _, hput⟩ := S6.out.at2 1 _ rfl (R3.goods _ _ _ _ _ _ _) 0 (BlkO rf 71 #[.int .i64 (a : Nat)]) rfl
                obtain ⟨c8, f8, z8⟩ := h1.1.rules
                have h4 := h1.set 0 (.int .i64 0)
                have S7 : Hid (Sys w.heap.size [BlkO wr.heap.size 76 #[.int .i64 3, .int .i64 ep, .int .i64 sq, .int .i64 ak, .string da, .int .i64 o, .int .i64 n, .slice A' us.length c'], SepL w.heap.size (R3 rl rf rk g 0 ls), SepL w.heap.size (P3 pl pf pk g 0 ls), BlkO w.heap.size 57 #[.int .i64 x0, .int .i64 x1]] w (w8.setCell ⟨rf, 0, none⟩ (.int .i64 0))) := Lib.hid (hput (BlkO rf 71 #[.int .i64 0]) F1 _ h4.1 (BlkO.good _ _ _ _) h4.2)
                obtain ⟨a0, ha0⟩ : ∃ a0 : Nat, a0 = 0 := ⟨0, rfl⟩
                have S8 : Hid (Sys w.heap.size [BlkO wr.heap.size 76 #[.int .i64 3, .int .i64 ep, .int .i64 sq, .int .i64 ak, .string da, .int .i64 o, .int .i64 n, .slice A' us.length c'], SepL w.heap.size (R3 rl rf rk g a0 ls), SepL w.heap.size (P3 pl pf pk g a0 ls), BlkO w.heap.size 57 #[.int .i64 x0, .int .i64 x1]] w (w8.setCell ⟨rf, 0, none⟩ (.int .i64 0))) := by rw [ha0]; exact S7
                have ha1 : a0 ≤ 0 := by omega
                have Hok' := Hok
                clear h1 hput h4 S5 S6 S7 ha0
                go_wp2
                generalize World.setCell w8 _ _ = w9 at *
                clear c8 f8 z8
                obtain ⟨Fr0, hr0, _, _⟩ := S8.out.at2 1 _ rfl (R3.goods _ _ _ _ _ _ _) 0 (BlkO rf 71 #[.int .i64 (a0 : Nat)]) rfl
                obtain ⟨Fp0, hp0, _, _⟩ := S8.out.at2 2 _ rfl (P3.goods _ _ _ _ _ _ _) 0 (BlkO pf 159 #[.int .i64 (a0 : Nat)]) rfl
                obtain ⟨Frk, hrk, _, _⟩ := S8.out.at2 1 _ rfl (R3.goods _ _ _ _ _ _ _) 1 (rlnkO rk ls) rfl
                obtain ⟨Fpk, hpk, _, _⟩ := S8.out.at2 2 _ rfl (P3.goods _ _ _ _ _ _ _) 1 (lnkO pk ls) rfl
                have Hp0 := Lib.hid hp0.1
                have Hrk : Hid (IsRLnk w9 rk Frk ls) := Lib.hid hrk
                have Hpk : Hid (IsLnk w9 pk Fpk ls) := Lib.hid hpk
                obtain ⟨cA, fA, zA⟩ := hr0.1.rules
                clear hr0 hp0 hrk hpk
                go_wp2
                go_region_held3 (fun w' => w'.cell? ⟨rf, 0, none⟩ = some (.int .i64 ((a0 : Nat) : Int)))
                  (first | go_keep | exact (k5 _ _ zA).trans (cA 0) | exact (k6 _ _ z5).trans ((k5 _ _ zA).trans (cA 0)) | exact (k7 _ _ z6).trans ((k6 _ _ z5).trans ((k5 _ _ zA).trans (cA 0))))
                  (first
                  | (go_at_call 45; refine (feedAt_any pf ((a0 : Nat) : Int) _ ?_).mono ?_; exact Hp0.out; rintro e wA ⟨rfl, rfl⟩)
                  | (go_at_call 47; refine (lnkFrames_any pk Fpk ls _ ?_).mono ?_; exact IsLnk.keep Hpk.out (Nat.le_refl _) (fun _ _ _ => rfl); rintro e wB ⟨⟨A5, c5, rfl, hf5⟩, hb5x⟩; have hb5 : Below w9.heap.size w9 wB := (below_drewN' (Below.refl w9.heap.size w9) 1).trans hb5x; obtain ⟨k5, k5'⟩ := bcell hb5; have z5 := Nat.lt_of_lt_of_le zA hb5.size)
                  | (go_at_call 48; refine (rlnkFrames_any rk Frk ls _ ?_ (by omega)).mono ?_; exact Hrk.out.below hb5; rintro e wC ⟨⟨A6, c6, rfl, hf6⟩, hb6⟩; obtain ⟨k6, k6'⟩ := bcell hb6; have z6 := Nat.lt_of_lt_of_le z5 hb6.size)
                  | (go_at_call 46; refine (sameFrames_any (LS.frames ls) A5 A6 c5 c6 _ ?_ ?_).mono ?_; exact hf5.below hb6; exact hf6; rintro e wD ⟨rfl, hb7⟩; obtain ⟨k7, k7'⟩ := bcell hb7))
                all_goals
                  go_wp2
                  go_roundw
                  case rel => exact ⟨k + 1, g, a0, ls, by omega, by go_num, by omega, by omega, by omega, Hok'.out, Lib.hid (((S8.out.below hb5).below hb6).below hb7).pop⟩
                  case measure => simp [intOf]; omega
              · have hk3 : (kind == 3) = false := by simpa using k3
                by_cases k4 : kind = 4
                · subst k4
                  clear k1 k2 k3 hk1 hk2 hk3
                  go_wp2_with fail
                  obtain ⟨F1, h1, hge, hput⟩ := S5.out.at2 2 _ rfl (P3.goods _ _ _ _ _ _ _) 2 (logO pl g) rfl
                  refine (logAdd_any pl F1 g ⟨o, n, us⟩ A' c' _ h1 ((Hsl.out.alloc _).mono fun b hb _ hF => by have := hge b hF; simp only [oldB] at hb; omega) (by omega)).mono ?_
                  rintro e w8 ⟨rfl, F', h2, hst⟩
                  have S6 : Hid (Sys w.heap.size [BlkO wr.heap.size 76 #[.int .i64 4, .int .i64 ep, .int .i64 sq, .int .i64 ak, .string da, .int .i64 o, .int .i64 n, .slice A' us.length c'], SepL w.heap.size (R3 rl rf rk g a ls), SepL w.heap.size (P3 pl pf pk (g.add ⟨o, n, us⟩) a ls), BlkO w.heap.size 57 #[.int .i64 x0, .int .i64 x1]] w w8) := Lib.hid (hput (logO pl (g.add ⟨o, n, us⟩)) _ _ h2 (logO.good _ _ _) hst)
                  have Hsl8 : Hid (SL KU (oldB w) w8 A' c' us) := Lib.hid (Sys.sl2 S5.out S6.out hst.mod.size (Hsl.out.alloc _))
                  clear h1 hput h2 hst hge c8 f8 z8 Hsl
                  obtain ⟨c8, f8, z8⟩ := (S6.out.blk 0 rfl).1.rules
                  go_wp2_with fail
                  obtain ⟨F1, h1, hge, hput⟩ := S6.out.at2 1 _ rfl (R3.goods _ _ _ _ _ _ _) 2 (rlogO rl g) rfl
                  refine (rlogAdd_any rl F1 g ⟨o, n, us⟩ A' c' _ h1 (Hsl8.out.mono fun b hb _ hF => by have := hge b hF; simp only [oldB] at hb; omega) (by omega)).mono ?_
                  rintro e w9 ⟨rfl, F', h2, hst⟩
                  have S7 : Hid (Sys w.heap.size [BlkO wr.heap.size 76 #[.int .i64 4, .int .i64 ep, .int .i64 sq, .int .i64 ak, .string da, .int .i64 o, .int .i64 n, .slice A' us.length c'], SepL w.heap.size (R3 rl rf rk (g.add ⟨o, n, us⟩) a ls), SepL w.heap.size (P3 pl pf pk (g.add ⟨o, n, us⟩) a ls), BlkO w.heap.size 57 #[.int .i64 x0, .int .i64 x1]] w w9) := Lib.hid (hput (rlogO rl (g.add ⟨o, n, us⟩)) _ _ h2 (rlogO.good _ _ _) hst)
                  have hal := Lg.add_len g ⟨o, n, us⟩
                  have hal2 := Lg.len_add g ⟨o, n, us⟩
                  have Hok' := Hok
                  clear h1 hput h2 hst hge S5 S6 c8 f8 z8 Hsl8
                  generalize g.add ⟨o, n, us⟩ = g' at *
                  obtain ⟨Fr0, hr0, _, _⟩ := S7.out.at2 1 _ rfl (R3.goods _ _ _ _ _ _ _) 0 (BlkO rf 71 #[.int .i64 (a : Nat)]) rfl
                  obtain ⟨Fp0, hp0, _, _⟩ := S7.out.at2 2 _ rfl (P3.goods _ _ _ _ _ _ _) 0 (BlkO pf 159 #[.int .i64 (a : Nat)]) rfl
                  obtain ⟨Frk, hrk, _, _⟩ := S7.out.at2 1 _ rfl (R3.goods _ _ _ _ _ _ _) 1 (rlnkO rk ls) rfl
                  obtain ⟨Fpk, hpk, _, _⟩ := S7.out.at2 2 _ rfl (P3.goods _ _ _ _ _ _ _) 1 (lnkO pk ls) rfl
                  have Hp0 := Lib.hid hp0.1
                  have Hrk : Hid (IsRLnk w9 rk Frk ls) := Lib.hid hrk
                  have Hpk : Hid (IsLnk w9 pk Fpk ls) := Lib.hid hpk
                  obtain ⟨cA, fA, zA⟩ := hr0.1.rules
                  clear hr0 hp0 hrk hpk
                  go_wp2
                  go_region_held3 (fun w' => w'.cell? ⟨rf, 0, none⟩ = some (.int .i64 ((a : Nat) : Int)))
                    (first | go_keep | exact (k5 _ _ zA).trans (cA 0) | exact (k6 _ _ z5).trans ((k5 _ _ zA).trans (cA 0)) | exact (k7 _ _ z6).trans ((k6 _ _ z5).trans ((k5 _ _ zA).trans (cA 0))))
                    (first
                    | (go_at_call 45; refine (feedAt_any pf ((a : Nat) : Int) _ ?_).mono ?_; exact Hp0.out; rintro e wA ⟨rfl, rfl⟩)
                    | (go_at_call 47; refine (lnkFrames_any pk Fpk ls _ ?_).mono ?_; exact IsLnk.keep Hpk.out (Nat.le_refl _) (fun _ _ _ => rfl); rintro e wB ⟨⟨A5, c5, rfl, hf5⟩, hb5x⟩; have hb5 : Below w9.heap.size w9 wB := (below_drewN' (Below.refl w9.heap.size w9) 1).trans hb5x; obtain ⟨k5, k5'⟩ := bcell hb5; have z5 := Nat.lt_of_lt_of_le zA hb5.size)
                    | (go_at_call 48; refine (rlnkFrames_any rk Frk ls _ ?_ (by omega)).mono ?_; exact Hrk.out.below hb5; rintro e wC ⟨⟨A6, c6, rfl, hf6⟩, hb6⟩; obtain ⟨k6, k6'⟩ := bcell hb6; have z6 := Nat.lt_of_lt_of_le z5 hb6.size)
                    | (go_at_call 46; refine (sameFrames_any (LS.frames ls) A5 A6 c5 c6 _ ?_ ?_).mono ?_; exact hf5.below hb6; exact hf6; rintro e wD ⟨rfl, hb7⟩; obtain ⟨k7, k7'⟩ := bcell hb7))
                  all_goals
                    go_wp2
                    go_roundw
                    case rel => exact ⟨k + 1, g', a, ls, by omega, by go_num, by omega, by omega, by omega, Hok'.out, Lib.hid (((S7.out.below hb5).below hb6).below hb7).pop⟩
                    case measure => simp [intOf]; omega
                · have hk4 : (kind == 4) = false := by simpa using k4
                  have Hok' := Hok
                  have S7 := S5
                  clear k1 k2 k3 k4 S5
                  go_wp2
                  generalize World.alloc wr _ = w9 at *
                  clear c8 f8 z8
                  obtain ⟨Fr0, hr0, _, _⟩ := S7.out.at2 1 _ rfl (R3.goods _ _ _ _ _ _ _) 0 (BlkO rf 71 #[.int .i64 (a : Nat)]) rfl
                  obtain ⟨Fp0, hp0, _, _⟩ := S7.out.at2 2 _ rfl (P3.goods _ _ _ _ _ _ _) 0 (BlkO pf 159 #[.int .i64 (a : Nat)]) rfl
                  obtain ⟨Frk, hrk, _, _⟩ := S7.out.at2 1 _ rfl (R3.goods _ _ _ _ _ _ _) 1 (rlnkO rk ls) rfl
                  obtain ⟨Fpk, hpk, _, _⟩ := S7.out.at2 2 _ rfl (P3.goods _ _ _ _ _ _ _) 1 (lnkO pk ls) rfl
                  have Hp0 := Lib.hid hp0.1
                  have Hrk : Hid (IsRLnk w9 rk Frk ls) := Lib.hid hrk
                  have Hpk : Hid (IsLnk w9 pk Fpk ls) := Lib.hid hpk
                  obtain ⟨cA, fA, zA⟩ := hr0.1.rules
                  clear hr0 hp0 hrk hpk
                  go_wp2
                  go_region_held3 (fun w' => w'.cell? ⟨rf, 0, none⟩ = some (.int .i64 ((a : Nat) : Int)))
                    (first | go_keep | exact (k5 _ _ zA).trans (cA 0) | exact (k6 _ _ z5).trans ((k5 _ _ zA).trans (cA 0)) | exact (k7 _ _ z6).trans ((k6 _ _ z5).trans ((k5 _ _ zA).trans (cA 0))))
                    (first
                    | (go_at_call 45; refine (feedAt_any pf ((a : Nat) : Int) _ ?_).mono ?_; exact Hp0.out; rintro e wA ⟨rfl, rfl⟩)
                    | (go_at_call 47; refine (lnkFrames_any pk Fpk ls _ ?_).mono ?_; exact IsLnk.keep Hpk.out (Nat.le_refl _) (fun _ _ _ => rfl); rintro e wB ⟨⟨A5, c5, rfl, hf5⟩, hb5x⟩; have hb5 : Below w9.heap.size w9 wB := (below_drewN' (Below.refl w9.heap.size w9) 1).trans hb5x; obtain ⟨k5, k5'⟩ := bcell hb5; have z5 := Nat.lt_of_lt_of_le zA hb5.size)
                    | (go_at_call 48; refine (rlnkFrames_any rk Frk ls _ ?_ (by omega)).mono ?_; exact Hrk.out.below hb5; rintro e wC ⟨⟨A6, c6, rfl, hf6⟩, hb6⟩; obtain ⟨k6, k6'⟩ := bcell hb6; have z6 := Nat.lt_of_lt_of_le z5 hb6.size)
                    | (go_at_call 46; refine (sameFrames_any (LS.frames ls) A5 A6 c5 c6 _ ?_ ?_).mono ?_; exact hf5.below hb6; exact hf6; rintro e wD ⟨rfl, hb7⟩; obtain ⟨k7, k7'⟩ := bcell hb7))
                  all_goals
                    go_wp2
                    go_roundw
                    case rel => exact ⟨k + 1, g, a, ls, by omega, by go_num, by omega, by omega, by omega, Hok'.out, Lib.hid (((S7.out.below hb5).below hb6).below hb7).pop⟩
                    case measure => simp [intOf]; omega
        · go_wp2
          go_ret
          exact ⟨rfl, hS.out.end_⟩
    · go_wp2_with fail
      refine (fgreat_any l A c _ (S3.out.sl Hh.out).any).mono ?_
      rintro e w7 ⟨rfl, hb7⟩
      rw [Hgr.out]
      have S4 := Lib.hid (S3.out.below hb7)
      clear S3 hb7
      go_wp2_with fail
      refine (fawake_any _ (S4.out.bits HG.out)).mono ?_
      rintro e w8 ⟨rfl, hb8⟩
      go_wp2
      go_ret
      exact ⟨rfl, (S4.out.below hb8).end_⟩

end Go.Proofs.YthdnoljmiehegaaDoor
