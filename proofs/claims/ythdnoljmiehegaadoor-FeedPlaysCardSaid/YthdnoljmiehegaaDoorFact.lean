/- WHAT IS PROVED HERE: the acts of the feed's laws as plain data, how they stand in the arguments, whether there is more than is played; the round that deletes k. -/
import Derived.Test.YthdnoljmiehegaaDoorVal3
import Derived.Test.YthdnoljmiehegaaDoorOpen
import Derived.Test.YthdnoljmiehegaaDoorCopy
set_option linter.unusedVariables false
set_option linter.unusedSimpArgs false
namespace Go.Proofs.YthdnoljmiehegaaDoor
open Go.RowKit

structure FAct where
  kind : Int
  f : Frm
  r : Rnd
/-- Acts, eight cells each. -/
def KA : Kind FAct where
  sz := 8
  cs := fun ok w a l => ∃ A c, l = [.int .i64 a.kind, .int .i64 a.f.epoch, .int .i64 a.f.seq, .int .i64 a.f.ack, .string a.f.data, .int .i64 a.r.o, .int .i64 a.r.n, .slice A a.r.us.length c] ∧ SL KU ok w A c a.r.us
  len := by rintro _ _ _ _ ⟨_, _, rfl, _⟩; rfl
  one := by rintro _ _ _ _ ⟨_, _, rfl, _⟩ u hu; simp at hu; rcases hu with rfl | rfl | rfl | rfl | rfl | rfl | rfl | rfl <;> rfl
  keep := fun ⟨A, c, e, h⟩ hs hk => ⟨A, c, e, h.keep hs hk⟩
  mono := fun ⟨A, c, e, h⟩ hk => ⟨A, c, e, h.mono hk⟩
theorem SL.fact {ok : Nat → Prop} {w : World} {A : Option Addr} {c : Nat} {l : List FAct} (h : SL KA ok w A c l) (k : Nat) (hk : k < l.length) :
    ∃ b off A' c', A = some ⟨b, off, none⟩ ∧ ok b ∧ b < w.heap.size ∧ w.cell? ⟨b, off + k * 8, none⟩ = some (.int .i64 l[k].kind) ∧ w.cell? ⟨b, off + k * 8 + 1, none⟩ = some (.int .i64 l[k].f.epoch) ∧ w.cell? ⟨b, off + k * 8 + 2, none⟩ = some (.int .i64 l[k].f.seq) ∧ w.cell? ⟨b, off + k * 8 + 3, none⟩ = some (.int .i64 l[k].f.ack) ∧ w.cell? ⟨b, off + k * 8 + 4, none⟩ = some (.string l[k].f.data) ∧
      w.cell? ⟨b, off + k * 8 + 5, none⟩ = some (.int .i64 l[k].r.o) ∧ w.cell? ⟨b, off + k * 8 + 6, none⟩ = some (.int .i64 l[k].r.n) ∧ w.cell? ⟨b, off + k * 8 + 7, none⟩ = some (.slice A' l[k].r.us.length c') ∧ SL KU ok w A' c' l[k].r.us := by
  obtain ⟨b, off, cs, e, h1, h2, h3, h4⟩ := h.at_ k hk
  obtain ⟨A', c', rfl, h5⟩ := h3
  exact ⟨b, off, A', c', e, h1, h2, h4 0 _ rfl, h4 1 _ rfl, h4 2 _ rfl, h4 3 _ rfl, h4 4 _ rfl, h4 5 _ rfl, h4 6 _ rfl, h4 7 _ rfl, h5⟩

def FAct.great (a : FAct) : Bool := a.r.great || decide (100 < (a.f.data.size : Int)) || (decide (a.kind = 2) && !decide (a.f.may = 0))
def greatF (l : List FAct) : Bool := decide (60 < (l.length : Int)) || l.any FAct.great

set_option maxRecDepth 100000 in
set_option maxHeartbeats 1000000 in
theorem fgreat_any (l : List FAct) (A : Option Addr) (c : Nat) (w : World) (h : SL KA anyB w A c l) :
    Calls Tryd.prog 37 #[.slice A l.length c] w fun e w' => e = .returned (.bool (greatF l)) ∧ Below w.heap.size w w' := by
  have hlen : l.length ≤ 9223372036854775807 := by have := h.1; have := h.2.1; simp only [maxLen] at *; omega
  by_cases hg : 60 < (l.length : Int)
  · have hfin : greatF l = true := by simp [greatF, hg]
    have Hfin := Lib.hid hfin
    clear hfin
    go_enter Tryd.func37, Tryd.ntmps37
    go_wp2
    go_ret
    exact ⟨ret_bool Hfin.out.symm, Below.refl _ _⟩
  · have hfin : greatF l = l.any FAct.great := by simp [greatF]; omega
    have Hfin := Lib.hid hfin
    clear hfin
    go_enter Tryd.func37, Tryd.ntmps37
    go_wp2
    go_loopw [10] (fun i wr => ∃ k : Nat, k ≤ l.length ∧ i = .int .i64 k ∧ Hid (l.any FAct.great = (l.drop k).any FAct.great) ∧ Below w.heap.size w wr) (fun i _ => l.length - (intOf i).toNat)
    case atStart => exact ⟨0, Nat.zero_le _, rfl, rfl, Below.refl _ _⟩
    case round =>
      obtain ⟨k, hk, rfl, hm, hb⟩ := hrel
      by_cases hlt : k < l.length
      · obtain ⟨b, off, A', c', rfl, _, hbw, d0, d1, d2, d3, d4, d5, d6, d7, hsl⟩ := (h.below hb).fact k hlt
        have hnext : ∀ q, l[k].great = false → q = (l.drop (k + 1)).any FAct.great → l.any FAct.great = q := by
          intro q h1 h2
          rw [hm.out, any_drop _ _ _ hlt, h1, h2]; rfl
        have hstop : l[k].great = true → l.any FAct.great = true := by
          intro h1
          rw [hm.out, any_drop _ _ _ hlt, h1]; rfl
        generalize hu : l[k] = a at *
        have Hnext := Lib.hid hnext
        have Hstop := Lib.hid hstop
        have hbs := hb.size
        clear hnext hstop hu
        have hsl1 := Lib.hid hsl
        obtain ⟨kind, ⟨ep, sq, ak, da⟩, ⟨o, n, us⟩⟩ := a
        simp only at d0 d1 d2 d3 d4 d5 d6 d7
        obtain ⟨c8, f8, z8⟩ := (Blk.new wr 76 #[.int .i64 kind, .int .i64 ep, .int .i64 sq, .int .i64 ak, .string da, .int .i64 o, .int .i64 n, .slice A' us.length c']).rules
        have hval : FAct.great ⟨kind, ⟨ep, sq, ak, da⟩, ⟨o, n, us⟩⟩ = ((Rnd.great ⟨o, n, us⟩ || decide (100 < (da.size : Int))) || (decide (kind = 2) && !decide (Frm.may ⟨ep, sq, ak, da⟩ = 0))) := rfl
        rw [hval] at Hnext Hstop
        clear hval
        go_wp2_with (first
          | (go_at_call 70; refine (greatR_any ⟨o, n, us⟩ A' c' _ (hsl1.out.alloc _)).mono ?_; rintro e w1 ⟨rfl, hb1⟩; obtain ⟨c9, f9, z9⟩ := ((Blk.new wr 76 #[.int .i64 kind, .int .i64 ep, .int .i64 sq, .int .i64 ak, .string da, .int .i64 o, .int .i64 n, .slice A' us.length c']).below hb1).rules)
          | (go_at_call 95; refine (frmMay_any ⟨ep, sq, ak, da⟩ _).mono ?_; rintro e w2 ⟨rfl, hb2⟩))
        all_goals first
          | (go_roundw
             case rel =>
               have hv : ∀ x : Bool, x = false → l.any FAct.great = (l.drop (k + 1)).any FAct.great ∨ x = true := fun x hx => .inl (Hnext.out _ (by clear Hnext Hstop hm Hfin d0 d1 d2 d3 d4 d5 d6 d7 c8 f8 c9 f9; simp_all) rfl)
               refine ⟨k + 1, by omega, by go_num, Lib.hid ((hv false rfl).resolve_right (by simp)), ?_⟩
               first | exact below_then' (below_then' hb (box_then hb1)) hb2 | exact below_then' hb (box_then hb1)
             case measure => simp [intOf]; omega)
          | (go_ret
             refine ⟨ret_bool ?_, ?_⟩
             · rw [Hfin.out]
               refine (Hstop.out ?_).symm
               clear Hnext Hstop hm Hfin d0 d1 d2 d3 d4 d5 d6 d7 c8 f8 c9 f9
               simp_all
               try omega
             · first | exact below_then' (below_then' hb (box_then hb1)) hb2 | exact below_then' hb (box_then hb1))
      · go_wp2
        go_ret
        refine ⟨ret_bool ?_, hb⟩
        rw [Hfin.out, hm.out, List.drop_eq_nil_of_le (by omega)]; rfl

end Go.Proofs.YthdnoljmiehegaaDoor
