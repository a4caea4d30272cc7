/- WHAT IS PROVED HERE: the feed's law is awake: the answers that the document fixes. -/
import Derived.Test.YthdnoljmiehegaaDoorFone
import Derived.Deep.RegionHeld3
set_option linter.unusedVariables false
set_option linter.unusedSimpArgs false
namespace Go.Proofs.YthdnoljmiehegaaDoor
open Go.RowKit

theorem Sys.bits {l : List Ob} {w0 w : World} (h : Sys w0.heap.size l w0 w) (hG : Bits w0) : Bits w := by
  have := hG.pos
  exact hG.mod h.mod (by omega)
/-- The program's three, just made. -/
theorem P3.made {w w1 w2 : World} {pk : Nat} {Fk : Nat → Prop} {g : Lg} {k : LS} (h1 : IsLog w1 w.heap.size (fun i => i = w.heap.size) g) (b1 : Below w.heap.size w w1)
    (h2 : IsLnk w2 pk Fk k) (n2 : ∀ b, Fk b → w1.heap.size ≤ b) (b2 : Below w1.heap.size w1 w2) :
    Sys w.heap.size [SepL w.heap.size (P3 w.heap.size w2.heap.size pk g 0 k)] w (w2.alloc (.cells #[.int .i64 0] 159)) := by
  have b3 : Below w2.heap.size w2 (w2.alloc (.cells #[.int .i64 0] 159)) := (Below.refl _ _).alloc (Nat.le_refl _) _
  obtain ⟨F, s1, s2⟩ := make3 (L := logO w.heap.size g) (N := lnkO pk k) (M := BlkO w2.heap.size 159 #[.int .i64 0]) (Nat.le_refl w.heap.size) (logO.good _ _ _) (lnkO.good _ _ _) (BlkO.good _ _ _ _)
    h1 (fun b hb => Nat.le_of_eq hb.symm) b1 h2 n2 b2 (BlkO.of (Blk.new w2 159 _)) (fun b hb => Nat.le_of_eq hb.symm) b3
  exact (Sys.new w).push s1 (SepL.good (P3.goods _ _ _ _ _ _ _)) s2 ((b1.trans (b2.mono b1.size)).trans (b3.mono (Nat.le_trans b1.size b2.size)))

set_option maxRecDepth 100000 in
set_option maxHeartbeats 4000000 in
theorem fawake_any (w : World) (hG : Bits w) : Calls Tryd.prog 36 #[] w fun e w' => e = .returned (.bool true) ∧ Below w.heap.size w w' := by
  have hpos := hG.pos
  have HG := Lib.hid hG
  clear hG
  go_enter Tryd.func36, Tryd.ntmps36
  go_wp2_with (first
    | (go_at_call 31; refine (logNew_any _ _).mono ?_; rintro e w1 ⟨rfl, hl1, hb1⟩)
    | (go_at_call 32; refine (lnkNew_any _ _ _ _ _).mono ?_; rintro e w2 ⟨pk, Fk, rfl, hp2, hk2, hn2, hb2⟩; unfold ptr)
    | (go_at_call 33; refine (feedNew_any _).mono ?_; rintro e w3 ⟨rfl, rfl⟩; unfold ptr))
  have S := P3.made hl1 hb1 hk2 hn2 hb2
  generalize w2.heap.size = pf at *
  generalize World.alloc w2 _ = W at *
  have S0 := Lib.hid S
  clear hl1 hb1 hk2 hn2 hb2 hp2 S
  have hk0 : LS.anew 2 2 true 1 = k0 := rfl
  rw [hk0] at S0
  clear hk0
  go_wp2
  go_loopw [22] (fun i wr => ∃ k : Nat, k ≤ 3 ∧ i = .int .i64 k ∧ Hid (Sys w.heap.size [SepL w.heap.size (P3 w.heap.size pf pk (ones k) 0 k0)] w wr)) (fun i _ => 3 - (intOf i).toNat)
  case atStart => exact ⟨0, by omega, rfl, S0⟩
  case round =>
    obtain ⟨k, hk, rfl, hS⟩ := hrel
    clear S0
    by_cases hlt : k < 3
    · obtain ⟨F1, hl, hge, hput⟩ := hS.out.at2 0 _ rfl (P3.goods _ _ _ _ _ _ _) 2 (logO w.heap.size (ones k)) rfl
      have hltF : ∀ b, F1 b → b < wr.heap.size := (logO.good 0 _ _).lt hl
      have Hput := Lib.hid hput
      have Hl := Lib.hid hl
      have HltF := Lib.hid hltF
      have hlen : (ones k).l.length ≤ 100000 := by rw [ones_eq k (by omega)]; simp; omega
      clear hput hl hltF hge
      go_wp2_with (first
        | (go_at_call 93; refine (one_any _ _).mono ?_; rintro e w3 ⟨g, rfl, hs3, hb3⟩)
        | (go_at_call 43; refine (logAdd_any w.heap.size F1 (ones k) (oneR ((k : Int) + 1)) _ _ _ ((logO.good 0 _ _).below Hl.out hb3) (hs3.mono fun b hb _ hF => by have := HltF.out b hF; simp only [newB] at hb; omega) hlen).mono ?_; rintro e w4 ⟨rfl, F', hl', hst⟩))
      go_roundw
      case rel => exact ⟨k + 1, by omega, by go_num, Lib.hid (Hput.out (logO w.heap.size (ones (k + 1))) F' _ hl' (logO.good _ _ _) ((Step.of_below hb3).trans hst))⟩
      case measure => simp [intOf]; omega
    · obtain rfl : k = 3 := by omega
      clear hk hlt
      go_wp2_with fail
      obtain ⟨FP, hP, _, hput⟩ := hS.out.at_ 0 _ rfl
      refine (pump_sep hP (hS.out.bits HG.out) hpos (Nat.zero_le _) (by rw [ones3]; decide)).mono ?_
      rintro e w5 ⟨rfl, F', hP', hst⟩
      rw [awk1] at hP' ⊢
      have S1 := Lib.hid (hput _ _ _ hP' (SepL.good (P3.goods _ _ _ _ _ _ _)) hst)
      clear hP hput hP' hst hS
      go_wp2_with fail
      obtain ⟨F2, hk2, _, hput⟩ := S1.out.at2 0 _ rfl (P3.goods _ _ _ _ _ _ _) 1 (lnkO pk k1) rfl
      refine (lnkHear_any pk F2 k1 ⟨1, 0, 1, ByteArray.empty⟩ _ hk2).mono ?_
      rintro e w6 ⟨rfl, F', hk', hst⟩
      rw [awk2] at hk'
      have S2 := Lib.hid (hput _ _ _ hk' (lnkO.good _ _ _) hst)
      clear hk2 hput hk' hst S1
      have S2' : Hid (Sys w.heap.size [SepL w.heap.size (P3 w.heap.size pf pk (ones 3) 2 k2)] w w6) := S2
      clear S2
      go_wp2_with fail
      obtain ⟨FP, hP, _, hput⟩ := S2'.out.at_ 0 _ rfl
      refine (pump_sep hP (S2'.out.bits HG.out) hpos (by rw [ones3]; decide) (by rw [ones3]; decide)).mono ?_
      rintro e w7 ⟨rfl, F', hP', hst⟩
      rw [awk3] at hP' ⊢
      have S3 : Hid (Sys w.heap.size [SepL w.heap.size (P3 w.heap.size pf pk (ones 3) 3 k3)] w w7) := Lib.hid (hput _ _ _ hP' (SepL.good (P3.goods _ _ _ _ _ _ _)) hst)
      clear hP hput hP' hst S2'
      go_wp2_with fail
      obtain ⟨F3, hf3, _, hput⟩ := S3.out.at2 0 _ rfl (P3.goods _ _ _ _ _ _ _) 0 (BlkO pf 159 #[.int .i64 3]) rfl
      refine (feedAt_any pf 3 _ hf3.1).mono ?_
      rintro e w8 ⟨rfl, rfl⟩
      go_wp2_with fail
      refine (feedReset_any pf 3 _ hf3.1).mono ?_
      rintro e w8x ⟨rfl, rfl⟩
      have h4 := hf3.set 0 (.int .i64 0)
      have S4 : Hid (Sys w.heap.size [SepL w.heap.size (P3 w.heap.size pf pk (ones 3) 0 k3)] w (w8.setCell ⟨pf, 0, none⟩ (.int .i64 0))) := Lib.hid (hput (BlkO pf 159 #[.int .i64 0]) F3 _ h4.1 (BlkO.good _ _ _ _) h4.2)
      clear hf3 hput h4 S3
      generalize World.setCell w8 _ _ = w8b at *
      go_wp2_with fail
      obtain ⟨F5, hk5, _, _⟩ := S4.out.at2 0 _ rfl (P3.goods _ _ _ _ _ _ _) 1 (lnkO pk k3) rfl
      refine (lnkFrames_any pk F5 k3 _ hk5).mono ?_
      rintro e w9 ⟨⟨A, c, rfl, hfr⟩, hb9⟩
      have S5 := Lib.hid (S4.out.below hb9)
      clear hk5 S4 hb9
      rw [awk4] at hfr ⊢
      obtain ⟨b, off, rfl, _, hbw, d0, d1, d2, d3⟩ := hfr.frm 0 (by decide)
      have d1' : w9.cell? ⟨b, off + 1, none⟩ = some (.int .i64 2) := d1
      have d3' : w9.cell? ⟨b, off + 3, none⟩ = some (.string b2) := d3
      obtain ⟨F6, hf6, _, _⟩ := S5.out.at2 0 _ rfl (P3.goods _ _ _ _ _ _ _) 0 (BlkO pf 159 #[.int .i64 0]) rfl
      have Hf6 := Lib.hid hf6.1
      have hR : ∀ w0 g, SL KU (newB w9) w0 (some ⟨g, 0, none⟩) 1 [oneU] → Calls Tryd.prog 94 #[.agg #[.int .i64 1, .int .i64 2, .slice (some ⟨g, 0, none⟩) 1 1]] w0 fun e w' => e = .returned (.string b2) ∧ Below w0.heap.size w0 w' :=
        fun w0 g h => rRnd_any (oneR 2) (oneR_may 2 (by omega) (by omega)) _ _ w0 h.any
      have HR := Lib.hid hR
      clear d0 d1 d2 d3 hf6 hR hfr
      go_wp2
      go_region_held3 (fun w' => w'.cell? ⟨b, off + 1, none⟩ = some (.int .i64 2) ∧ w'.cell? ⟨b, off + 3, none⟩ = some (.string b2))
        (first | go_keep | exact ⟨(hb10.cell (p := ⟨b, off + 1, none⟩) hbw).trans d1', (hb10.cell (p := ⟨b, off + 3, none⟩) hbw).trans d3'⟩ | exact ⟨((hb11.cell (p := ⟨b, off + 1, none⟩) (Nat.lt_of_lt_of_le hbw hb10.size)).trans (hb10.cell (p := ⟨b, off + 1, none⟩) hbw)).trans d1', ((hb11.cell (p := ⟨b, off + 3, none⟩) (Nat.lt_of_lt_of_le hbw hb10.size)).trans (hb10.cell (p := ⟨b, off + 3, none⟩) hbw)).trans d3'⟩)
        (first
        | (go_at_call 45; refine (feedAt_any pf 0 _ ?_).mono ?_; exact Hf6.out; rintro e w9b ⟨rfl, rfl⟩)
        | (go_at_call 93; refine (one_any _ _).mono ?_; rintro e w10 ⟨g, rfl, hs10, hb10⟩)
        | (go_at_call 94; refine (HR.out _ _ ?_).mono ?_; exact hs10; rintro e w11 ⟨rfl, hb11⟩))
      all_goals
        go_wp2
        go_ret
        refine ⟨rfl, ?_⟩
        first
          | exact (((S5.out.drewN 1).below hb10).below hb11).end_
          | exact ((((S5.out.drewN 1).below hb10).below hb11).drewN _).end_

end Go.Proofs.YthdnoljmiehegaaDoor
