/- WHAT IS PROVED HERE: the law FeedApart returns true. -/
import Derived.Test.YthdnoljmiehegaaDoorFawk
import Derived.Test.YthdnoljmiehegaaDoorLogall
import Derived.Test.YthdnoljmiehegaaDoorOpen
import Derived.Test.YthdnoljmiehegaaDoorSame
set_option linter.unusedVariables false
set_option linter.unusedSimpArgs false
namespace Go.Proofs.YthdnoljmiehegaaDoor
open Go.RowKit

def addAll (g : Lg) (l : List Rnd) : Lg := l.foldl Lg.add g
theorem addAll_take (g : Lg) (l : List Rnd) (k : Nat) (hk : k < l.length) : addAll g (l.take (k + 1)) = (addAll g (l.take k)).add l[k] := by
  unfold addAll
  rw [List.take_succ_eq_append_getElem hk, List.foldl_append]; rfl
theorem Lg.add_len (g : Lg) (r : Rnd) : (g.add r).l.length ≤ g.l.length + 1 := by
  unfold Lg.add
  split <;> simp
theorem addAll_len : ∀ (l : List Rnd) (g : Lg), (addAll g l).l.length ≤ g.l.length + l.length
  | [], g => by simp [addAll]
  | r :: l, g => by
    have h1 := addAll_len l (g.add r)
    have h2 := g.add_len r
    simp only [List.length_cons]
    show (addAll (g.add r) l).l.length ≤ _
    omega
/-- A row of one's own, as an object. -/
def rowO (v : Value) (l : List Rnd) : Ob := fun w F => OwnL KR 38 F w v l ∧ ∀ b, F b → b < w.heap.size
theorem rowO.good (B : Nat) (v : Value) (l : List Rnd) : Good B (rowO v l) :=
  ⟨fun {w w' F} h hs hk => ⟨h.1.keep hs fun b hb => hk b (.inl hb), fun b hb => Nat.lt_of_lt_of_le (h.2 b hb) hs⟩, fun {w F} h b hb => h.2 b hb⟩
theorem rowO.of {w w0 : World} {v : Value} {l : List Rnd} (h : OwnL KR 38 (newB w0) w v l) : rowO v l w (fun b => newB w0 b ∧ b < w.heap.size) :=
  ⟨h.mono fun b hb hl => ⟨hb, hl⟩, fun b hb => hb.2⟩

def kA (win : Int) : LS := LS.anew win 1 true 1
theorem kA_ok (win : Int) : (kA win).s.Ok := SS.new_ok _ _
theorem apart1 (win : Int) (l : List Rnd) (hl : l.length ≤ 100000) : (pumpGo l (kA win)).1 = min l.length (clampI win 1 16).toNat ∧ (pumpGo (l.drop (pumpGo l (kA win)).1) (pumpGo l (kA win)).2).1 = 0 := by
  have hlast : (kA win).s.last = 1125899906842624 := rfl
  have hall : (kA win).s.all.length = 0 := rfl
  have hwin : (kA win).s.window = clampI win 1 16 := rfl
  have hac : (kA win).s.acked = 0 := rfl
  have hc : 1 ≤ clampI win 1 16 ∧ clampI win 1 16 ≤ 16 := by unfold clampI; (repeat' split) <;> omega
  have hr : (kA win).room' = (clampI win 1 16).toNat := by unfold LS.room'; rw [hwin, hall, hac]; simp
  have h1 := pumpGo_eq l (kA win) (kA_ok win) (by rw [hlast, hall]; omega)
  rw [hr] at h1
  rw [h1]
  refine ⟨rfl, ?_⟩
  have hok2 : ((kA win).more ((l.take (min l.length (clampI win 1 16).toNat)).map bRnd)).s.Ok := by
    have := more_ok l (kA_ok win)
    rw [h1] at this; exact this
  simp only
  generalize hm : min l.length (clampI win 1 16).toNat = m at *
  have hal : ((kA win).more ((l.take m).map bRnd)).s.all.length = m := by simp [LS.more, kA, LS.anew, SS.new]; omega
  rw [pumpGo_eq _ _ hok2 (by rw [hal, List.length_drop]; show _ < (1125899906842624 : Int); omega)]
  have hr2 : ((kA win).more ((l.take m).map bRnd)).room' = (clampI win 1 16).toNat - m := by
    unfold LS.room'
    rw [hal]
    show (clampI win 1 16 - ((m : Int) - ((0 : Nat) : Int))).toNat = _
    omega
  rw [hr2, List.length_drop]
  show min (l.length - m) ((clampI win 1 16).toNat - m) = 0
  omega

set_option maxRecDepth 100000 in
set_option maxHeartbeats 4000000 in
theorem feedApart_any (win : Int) (rs : List Rnd) (A : Option Addr) (c : Nat) (w : World) (h : SL KR (oldB w) w A c rs) (hG : Bits w) :
    Calls Tryd.prog 7 #[.int .i64 win, .slice A rs.length c] w fun e w' => e = .returned (.bool true) ∧ Below w.heap.size w w' := by
  have hpos := hG.pos
  have HG := Lib.hid hG
  have Hh := Lib.hid h
  clear hG h
  go_enter Tryd.func7, Tryd.ntmps7
  go_wp2_with (first
    | (go_at_call 31; refine (logNew_any _ _).mono ?_; rintro e w1 ⟨rfl, hl1, hb1⟩)
    | (go_at_call 32; refine (lnkNew_any _ _ _ _ _).mono ?_; rintro e w2 ⟨pk, Fk, rfl, hp2, hk2, hn2, hb2⟩; unfold ptr)
    | (go_at_call 33; refine (feedNew_any _).mono ?_; rintro e w3 ⟨rfl, rfl⟩; unfold ptr))
  have S := P3.made hl1 hb1 hk2 hn2 hb2
  generalize w2.heap.size = pf at *
  generalize World.alloc w2 _ = W at *
  have S0 : Hid (Sys w.heap.size [SepL w.heap.size (P3 w.heap.size pf pk (Lg.new 3) 0 (kA win))] w W) := Lib.hid S
  clear hl1 hb1 hk2 hn2 hb2 hp2 S
  rcases hgr : greatRs rs with _ | _
  all_goals
    have Hgr := Lib.hid hgr
    clear hgr
  · go_wp2_with (first
      | (go_at_call 36; refine (fawake_any _ (S0.out.bits HG.out)).mono ?_; rintro e w3 ⟨rfl, hb3⟩)
      | (go_at_call 49; refine (greatRs_any rs A c _ ((S0.out.below hb3).sl Hh.out).any).mono ?_; rintro e w4 ⟨rfl, hb4⟩; rw [Hgr.out]))
    have S1 := Lib.hid ((S0.out.below hb3).below hb4)
    clear S0 hb3 hb4
    have hn : rs.length ≤ 40 := by
      have := Hgr.out
      simp only [greatRs, Bool.or_eq_false_iff, decide_eq_false_iff_not] at this
      omega
    clear Hgr
    go_wp2
    go_loopw [37] (fun i wr => ∃ k : Nat, k ≤ rs.length ∧ i = .int .i64 k ∧ Hid (Sys w.heap.size [SepL w.heap.size (P3 w.heap.size pf pk (addAll (Lg.new 3) (rs.take k)) 0 (kA win))] w wr)) (fun i _ => rs.length - (intOf i).toNat)
    case atStart => exact ⟨0, Nat.zero_le _, rfl, S1⟩
    case round =>
      obtain ⟨k, hk, rfl, hS⟩ := hrel
      clear S1
      by_cases hlt : k < rs.length
      · obtain ⟨b, off, A', c', rfl, _, hbw, d0, d1, d2, hsl⟩ := (hS.out.sl Hh.out).rnd k hlt
        have hadd := addAll_take (Lg.new 3) rs k hlt
        have hlen : (addAll (Lg.new 3) (rs.take k)).l.length ≤ 100000 := by
          have := addAll_len (rs.take k) (Lg.new 3)
          have h3 : (Lg.new 3).l.length = 0 := rfl
          rw [List.length_take, h3] at this
          omega
        generalize addAll (Lg.new 3) (rs.take k) = g at *
        generalize rs[k] = r at *
        have Hadd := Lib.hid hadd
        obtain ⟨F1, hl, hge, hput⟩ := hS.out.at2 0 _ rfl (P3.goods _ _ _ _ _ _ _) 2 (logO w.heap.size g) rfl
        have Hput := Lib.hid hput
        have Hl := Lib.hid hl
        have Hge := Lib.hid hge
        have Hsl := Lib.hid hsl
        clear hput hl hge hsl hadd
        go_wp2_with (first
          | (go_at_call 43; refine (logAdd_any w.heap.size F1 g r A' c' _ ((logO.good 0 _ _).below Hl.out ((Below.refl _ _).alloc (Nat.le_refl _) _)) ((Hsl.out.alloc _).mono fun b hb _ hF => by have := Hge.out b hF; simp only [oldB] at hb; omega) hlen).mono ?_; rintro e w4 ⟨rfl, F', hl', hst⟩))
        go_roundw
        case rel => exact ⟨k + 1, by omega, by go_num, Lib.hid (by rw [Hadd.out]; exact (Hput.out (logO w.heap.size (g.add r)) F' _ hl' (logO.good _ _ _) ((Step.of_below ((Below.refl _ _).alloc (Nat.le_refl _) _)).trans hst)))⟩
        case measure => simp [intOf]; omega
      · obtain rfl : k = rs.length := by omega
        rw [List.take_length] at hS
        have hlen : (addAll (Lg.new 3) rs).l.length ≤ 1000 := by
          have := addAll_len rs (Lg.new 3)
          have h3 : (Lg.new 3).l.length = 0 := rfl
          rw [h3] at this
          omega
        have hap := apart1 win (addAll (Lg.new 3) rs).l (by omega)
        generalize addAll (Lg.new 3) rs = g at *
        obtain ⟨hp1, hp2⟩ := hap
        have hk2 := pumpGo_all g.l (kA_ok win)
        have hka : (kA win).s.all.length = 0 := rfl
        rw [hka] at hk2
        clear hka
        generalize hq : pumpGo g.l (kA win) = q at *
        obtain ⟨n, k2⟩ := q
        simp only at hp1 hp2 hk2
        have Hq := Lib.hid hq
        have Hp2 := Lib.hid hp2
        have Hp1 := Lib.hid hp1
        have hnl : n ≤ g.l.length := by omega
        clear hk hlt hq hp1 hp2
        obtain ⟨F1, hl, _, _⟩ := hS.out.at2 0 _ rfl (P3.goods _ _ _ _ _ _ _) 2 (logO w.heap.size g) rfl
        go_wp2_with fail
        refine (logAll_any _ F1 g _ hl (by omega)).mono ?_
        rintro e w5 ⟨A5, c5, rfl, hown5, hb5⟩
        have S5 := Lib.hid ((hS.out).push (rowO.of hown5) (rowO.good _ _ _) (fun b hb => hb.1) hb5)
        clear hS hl hown5 hb5
        go_wp2_with fail
        obtain ⟨FP, hP, _, hput⟩ := S5.out.at_ 1 _ rfl
        refine (pump_sep hP (S5.out.bits HG.out) hpos (Nat.zero_le _) (by show _ + 0 ≤ _; omega)).mono ?_
        rintro e w6 ⟨rfl, F', hP', hst⟩
        rw [List.drop_zero, Hq.out] at hP' ⊢
        simp only [Nat.zero_add] at hP'
        have S6 : Hid (Sys w.heap.size [rowO (.slice A5 g.l.length c5) g.l, SepL w.heap.size (P3 w.heap.size pf pk g n k2)] w w6) := Lib.hid (hput _ _ _ hP' (SepL.good (P3.goods _ _ _ _ _ _ _)) hst)
        clear hP hput hP' hst S5
        simp only
        go_wp2_with fail
        all_goals first
          | (exfalso
             have h := Hp1.out
             unfold clampI at h
             clear Hp1
             (repeat' split at h) <;> omega)
          | (clear Hp1
             obtain ⟨F7, hf7, _, _⟩ := S6.out.at2 1 _ rfl (P3.goods _ _ _ _ _ _ _) 0 (BlkO pf 159 #[.int .i64 n]) rfl
             refine (feedAt_any pf n _ hf7.1).mono ?_
             rintro e w7 ⟨rfl, rfl⟩
             clear hf7
             go_wp2_with fail
             obtain ⟨FP, hP, _, hput⟩ := S6.out.at_ 1 _ rfl
             refine (pump_sep hP (S6.out.bits HG.out) hpos hnl (by omega)).mono ?_
             rintro e w8 ⟨rfl, F', hP', hst⟩
             rw [Hp2.out] at hP' ⊢
             simp only [Nat.add_zero] at hP'
             have S8 : Hid (Sys w.heap.size [rowO (.slice A5 g.l.length c5) g.l, SepL w.heap.size (P3 w.heap.size pf pk g n (pumpGo (g.l.drop n) k2).2)] w w8) := Lib.hid (hput _ _ _ hP' (SepL.good (P3.goods _ _ _ _ _ _ _)) hst)
             clear hP hput hP' hst S6
             generalize (pumpGo (g.l.drop n) k2).2 = k3 at *
             go_wp2_with fail
             obtain ⟨F7, hf7, _, _⟩ := S8.out.at2 1 _ rfl (P3.goods _ _ _ _ _ _ _) 0 (BlkO pf 159 #[.int .i64 n]) rfl
             refine (feedAt_any pf n _ hf7.1).mono ?_
             rintro e w9 ⟨rfl, rfl⟩
             clear hf7
             go_wp2_with fail
             obtain ⟨F1, hl, _, _⟩ := S8.out.at2 1 _ rfl (P3.goods _ _ _ _ _ _ _) 2 (logO w.heap.size g) rfl
             refine (logAll_any _ F1 g _ hl (by omega)).mono ?_
             rintro e w10 ⟨A10, c10, rfl, hown10, hb10⟩
             have S10 := Lib.hid (S8.out.below hb10)
             have H10 := Lib.hid hown10
             obtain ⟨F0, h0, _⟩ := S10.out.get 0 _ rfl
             have H0 := Lib.hid h0.1
             clear hl hown10 hb10 S8 h0
             go_wp2_with fail
             refine (sameAll_any g.l A10 A5 c10 c5 _ H10.out.sl'.any H0.out.sl'.any).mono ?_
             rintro e w11 ⟨rfl, hb11⟩
             go_wp2
             go_ret
             exact ⟨rfl, (S10.out.below hb11).end_⟩)
  · go_wp2_with fail
    refine (fawake_any _ (S0.out.bits HG.out)).mono ?_
    rintro e w3 ⟨rfl, hb3⟩
    have S1 := Lib.hid (S0.out.below hb3)
    clear S0 hb3
    go_wp2_with fail
    refine (greatRs_any rs A c _ (S1.out.sl Hh.out).any).mono ?_
    rintro e w4 ⟨rfl, hb4⟩
    rw [Hgr.out]
    have S2 := Lib.hid (S1.out.below hb4)
    clear S1 hb4
    go_wp2_with fail
    refine (fawake_any _ (S2.out.bits HG.out)).mono ?_
    rintro e w5 ⟨rfl, hb5⟩
    go_wp2
    go_ret
    exact ⟨rfl, (S2.out.below hb5).end_⟩

end Go.Proofs.YthdnoljmiehegaaDoor
