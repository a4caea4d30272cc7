/- WHAT IS PROVED HERE: update.Write puts an update's bytes; a Writer tells all that it was given. -/
import Derived.Test.YthdnoljmiehegaaDoorWri2
import Derived.BigRegion
set_option linter.unusedVariables false
set_option linter.unusedSimpArgs false
namespace Go.Proofs.YthdnoljmiehegaaDoor
open Go.RowKit

/-- The Writer's blocks are not the table's. -/
def Pos (g : Nat) (q : Option Nat) : Prop := 0 < g ∧ ∀ b, q = some b → 0 < b
theorem Pos.step {w : World} {g : Nat} {q q' : Option Nat} (h : Pos g q) (hG : 0 < w.heap.size) (hq : WQ w q q') : Pos g q' :=
  ⟨h.1, fun b hb => (hq b hb).elim (h.2 b) (fun k => by omega)⟩
theorem Bits.ws {w w' : World} {g : Nat} {q : Option Nat} (h : Bits w) (hb : Mod (WS g q) w w') (hp : Pos g q) : Bits w' :=
  h.mod hb (fun k => k.elim (fun e => by have := hp.1; omega) (fun e => by have := hp.2 0 e; omega))
/-- A block laid behind the Writer stays as it was. -/
theorem Blk.ws {w w' : World} {g b : Nat} {q : Option Nat} {t : TypeId} {cs : Array Value} (h : Blk w b t cs) (hb : Mod (WS g q) w w') (h1 : b ≠ g) (h2 : q ≠ some b) : Blk w' b t cs :=
  h.mod hb (fun k => k.elim h1 h2)
theorem WQ.ne {w : World} {q q' : Option Nat} (h : WQ w q q') {b : Nat} (h1 : q ≠ some b) (h2 : b < w.heap.size) : q' ≠ some b := fun e => (h b e).elim h1 (fun k => by omega)

set_option maxHeartbeats 1600000 in
theorem writeU_any (g : Nat) (q : Option Nat) (w : World) (bs : ByteArray) (u : Upd) (hm : u.may = 0) (h : IsW w g q bs) (hlen : bs.size ≤ 10000) (hG : Bits w) (hP : Pos g q) :
    Calls Tryd.prog 151 #[.pointer (some ⟨g, 0, none⟩), .agg #[.string u.key, .int .i64 u.kind, .int .i64 u.n, .string u.s]] w fun e w' => e = .returned (.tuple #[]) ∧ Wrote w w' g q (bs ++ bUpd u) := by
  obtain ⟨h1, h2, h3, h4, h5, h6, h7⟩ := may_sizes hm
  clear hm
  obtain ⟨key, kind, n, s⟩ := u
  simp only at h1 h2 h3 h4 h5 h6 h7
  have z1 := bText_size key
  have z2 := bText_size s
  have hgne : w.heap.size ≠ g := by have := h.lt; omega
  have hqne : q ≠ some w.heap.size := fun e => by have := h.qlt _ e; omega
  rcases (show kind = 1 ∨ kind = 2 ∨ kind = 3 ∨ kind = 4 ∨ kind = 5 by omega) with rfl | rfl | rfl | rfl | rfl
  all_goals
    have y := bNum_size
    have y1 := y 1
    have y2 := y 2
    have y3 := y 3
    have y4 := y 4
    have y5 := y 5
    have y6 := y (zig n)
    clear y
    go_enter Tryd.func151, Tryd.ntmps151
  · go_wp2_with fail
    refine (numW_any g q _ bs 1 (h.alloc _) (by omega) (by omega) (by omega) (hG.alloc _)).mono ?_
    rintro e w1 ⟨rfl, q1, hw1, hm1, hq1⟩
    have k1 := (Blk.new w 46 _).ws hm1 hgne hqne
    obtain ⟨c1, f1, p1⟩ := k1.rules
    have hG1 := (hG.alloc _).ws hm1 hP
    have hP1 := hP.step (hG.alloc _).pos hq1
    have hq1ne := hq1.ne hqne (by simp)
    go_wp2_with fail
    refine (textW_any g q1 _ _ key hw1 (by omega) (by rw [ByteArray.size_append]; omega) hG1).mono ?_
    rintro e w2 ⟨rfl, q2, hw2, hm2, hq2⟩
    have k2 := k1.ws hm2 hgne hq1ne
    clear c1 f1
    obtain ⟨c1, f1, p2⟩ := k2.rules
    have hG2 := hG1.ws hm2 hP1
    have M1 := (Mod.refl (WS g q) w).alloc (.cells #[.string key, .int .i64 1, .int .i64 n, .string s] 46) |>.trans hm1
    have Q1 : WQ w q q1 := fun b hb => (hq1 b hb).elim .inl (fun k => .inr (by simp at k; omega))
    go_wp2_with fail
    refine (signedW_any g q2 _ _ n hw2 h6 h7 (by simp only [ByteArray.size_append]; omega) hG2).mono ?_
    rintro e w3 ⟨rfl, hw3⟩
    clear c1 f1
    go_wp2
    go_end0
    refine ⟨rfl, Wrote.trans M1 Q1 (Wrote.trans hm2 hq2 ?_)⟩
    simpa [bUpd, ByteArray.append_assoc] using hw3
  · go_wp2_with fail
    refine (numW_any g q _ bs 2 (h.alloc _) (by omega) (by omega) (by omega) (hG.alloc _)).mono ?_
    rintro e w1 ⟨rfl, q1, hw1, hm1, hq1⟩
    have k1 := (Blk.new w 46 _).ws hm1 hgne hqne
    obtain ⟨c1, f1, p1⟩ := k1.rules
    have hG1 := (hG.alloc _).ws hm1 hP
    have hP1 := hP.step (hG.alloc _).pos hq1
    have hq1ne := hq1.ne hqne (by simp)
    go_wp2_with fail
    refine (textW_any g q1 _ _ key hw1 (by omega) (by rw [ByteArray.size_append]; omega) hG1).mono ?_
    rintro e w2 ⟨rfl, q2, hw2, hm2, hq2⟩
    have k2 := k1.ws hm2 hgne hq1ne
    clear c1 f1
    obtain ⟨c1, f1, p2⟩ := k2.rules
    have hG2 := hG1.ws hm2 hP1
    have M1 := (Mod.refl (WS g q) w).alloc (.cells #[.string key, .int .i64 2, .int .i64 n, .string s] 46) |>.trans hm1
    have Q1 : WQ w q q1 := fun b hb => (hq1 b hb).elim .inl (fun k => .inr (by simp at k; omega))
    go_wp2_with fail
    refine (textW_any g q2 _ _ s hw2 (by omega) (by simp only [ByteArray.size_append]; omega) hG2).mono ?_
    rintro e w3 ⟨rfl, hw3⟩
    clear c1 f1
    go_wp2
    go_end0
    refine ⟨rfl, Wrote.trans M1 Q1 (Wrote.trans hm2 hq2 ?_)⟩
    simpa [bUpd, ByteArray.append_assoc] using hw3
  · go_wp2_with fail
    refine (numW_any g q _ bs 3 (h.alloc _) (by omega) (by omega) (by omega) (hG.alloc _)).mono ?_
    rintro e w1 ⟨rfl, q1, hw1, hm1, hq1⟩
    have k1 := (Blk.new w 46 _).ws hm1 hgne hqne
    obtain ⟨c1, f1, p1⟩ := k1.rules
    have hG1 := (hG.alloc _).ws hm1 hP
    have hP1 := hP.step (hG.alloc _).pos hq1
    have hq1ne := hq1.ne hqne (by simp)
    go_wp2_with fail
    refine (textW_any g q1 _ _ key hw1 (by omega) (by rw [ByteArray.size_append]; omega) hG1).mono ?_
    rintro e w2 ⟨rfl, q2, hw2, hm2, hq2⟩
    have k2 := k1.ws hm2 hgne hq1ne
    clear c1 f1
    obtain ⟨c1, f1, p2⟩ := k2.rules
    have hG2 := hG1.ws hm2 hP1
    have M1 := (Mod.refl (WS g q) w).alloc (.cells #[.string key, .int .i64 3, .int .i64 n, .string s] 46) |>.trans hm1
    have Q1 : WQ w q q1 := fun b hb => (hq1 b hb).elim .inl (fun k => .inr (by simp at k; omega))
    go_wp2_with fail
    refine (signedW_any g q2 _ _ n hw2 h6 h7 (by simp only [ByteArray.size_append]; omega) hG2).mono ?_
    rintro e w3 ⟨rfl, hw3⟩
    clear c1 f1
    go_wp2
    go_end0
    refine ⟨rfl, Wrote.trans M1 Q1 (Wrote.trans hm2 hq2 ?_)⟩
    simpa [bUpd, ByteArray.append_assoc] using hw3
  · go_wp2_with fail
    refine (numW_any g q _ bs 4 (h.alloc _) (by omega) (by omega) (by omega) (hG.alloc _)).mono ?_
    rintro e w1 ⟨rfl, q1, hw1, hm1, hq1⟩
    have k1 := (Blk.new w 46 _).ws hm1 hgne hqne
    obtain ⟨c1, f1, p1⟩ := k1.rules
    have hG1 := (hG.alloc _).ws hm1 hP
    have hP1 := hP.step (hG.alloc _).pos hq1
    have hq1ne := hq1.ne hqne (by simp)
    go_wp2_with fail
    refine (textW_any g q1 _ _ key hw1 (by omega) (by rw [ByteArray.size_append]; omega) hG1).mono ?_
    rintro e w2 ⟨rfl, q2, hw2, hm2, hq2⟩
    have k2 := k1.ws hm2 hgne hq1ne
    clear c1 f1
    obtain ⟨c1, f1, p2⟩ := k2.rules
    have hG2 := hG1.ws hm2 hP1
    have M1 := (Mod.refl (WS g q) w).alloc (.cells #[.string key, .int .i64 4, .int .i64 n, .string s] 46) |>.trans hm1
    have Q1 : WQ w q q1 := fun b hb => (hq1 b hb).elim .inl (fun k => .inr (by simp at k; omega))
    go_wp2_with fail
    refine (textW_any g q2 _ _ s hw2 (by omega) (by simp only [ByteArray.size_append]; omega) hG2).mono ?_
    rintro e w3 ⟨rfl, hw3⟩
    clear c1 f1
    go_wp2
    go_end0
    refine ⟨rfl, Wrote.trans M1 Q1 (Wrote.trans hm2 hq2 ?_)⟩
    simpa [bUpd, ByteArray.append_assoc] using hw3
  · go_wp2_with fail
    refine (numW_any g q _ bs 5 (h.alloc _) (by omega) (by omega) (by omega) (hG.alloc _)).mono ?_
    rintro e w1 ⟨rfl, q1, hw1, hm1, hq1⟩
    have k1 := (Blk.new w 46 _).ws hm1 hgne hqne
    obtain ⟨c1, f1, p1⟩ := k1.rules
    have hG1 := (hG.alloc _).ws hm1 hP
    have hP1 := hP.step (hG.alloc _).pos hq1
    have hq1ne := hq1.ne hqne (by simp)
    go_wp2_with fail
    refine (textW_any g q1 _ _ key hw1 (by omega) (by rw [ByteArray.size_append]; omega) hG1).mono ?_
    rintro e w2 ⟨rfl, q2, hw2, hm2, hq2⟩
    have k2 := k1.ws hm2 hgne hq1ne
    clear c1 f1
    obtain ⟨c1, f1, p2⟩ := k2.rules
    have hG2 := hG1.ws hm2 hP1
    have M1 := (Mod.refl (WS g q) w).alloc (.cells #[.string key, .int .i64 5, .int .i64 n, .string s] 46) |>.trans hm1
    have Q1 : WQ w q q1 := fun b hb => (hq1 b hb).elim .inl (fun k => .inr (by simp at k; omega))
    go_wp2
    go_end0
    refine ⟨rfl, Wrote.trans M1 Q1 ⟨q2, ?_, hm2, hq2⟩⟩
    simpa [bUpd, ByteArray.append_assoc] using hw2

end Go.Proofs.YthdnoljmiehegaaDoor
