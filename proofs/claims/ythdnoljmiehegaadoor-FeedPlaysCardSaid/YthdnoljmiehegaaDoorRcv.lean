/- WHAT IS PROVED HERE: the program's receiver, as far as it is played here: nothing is popped. -/
import Derived.Test.YthdnoljmiehegaaDoorObj
import Derived.BigRegion
import Derived.Deep.RegionLaw
import Derived.Deep.RegionWith
import Derived.Deep.RegionHeld3
set_option linter.unusedVariables false
set_option linter.unusedSimpArgs false
namespace Go.Proofs.YthdnoljmiehegaaDoor
open Go.RowKit

structure RS where
  room : Int
  n : Nat
structure RS.Ok (r : RS) : Prop where
  r1 : 1 ≤ r.room
  r2 : r.room ≤ 16
  n1 : (r.n : Int) ≤ r.room
def RS.new (room : Int) : RS := ⟨clampI room 1 16, 0⟩
def RS.hear (r : RS) (seq : Int) : RS := if (r.n : Int) < r.room ∧ seq = r.n + 1 then { r with n := r.n + 1 } else r
theorem RS.new_ok (room : Int) : (RS.new room).Ok := by
  constructor <;> simp only [RS.new, clampI] <;> (repeat' split) <;> omega
theorem RS.hear_ok {r : RS} (h : r.Ok) (seq : Int) : (r.hear seq).Ok := by
  have := h.r1; have := h.r2; have := h.n1
  unfold RS.hear
  split
  · constructor <;> simp only <;> omega
  · exact h

def IsRcv (w : World) (p : Nat) (F : Nat → Prop) (r : RS) : Prop :=
  (∃ cs, Blk w p 239 cs ∧ cs.size = 20 ∧ cs[0]? = some (.int .i64 r.room) ∧ cs[1]? = some (.int .i64 r.n) ∧ cs[18]? = some (.int .i64 0) ∧ cs[19]? = some (.int .i64 r.n)) ∧ r.Ok ∧ ∀ b, F b ↔ b = p
theorem IsRcv.keep {w w' : World} {p : Nat} {F : Nat → Prop} {r : RS} (h : IsRcv w p F r) (hk : ∀ b, F b → b < w.heap.size → w'.heap[b]? = w.heap[b]?) : IsRcv w' p F r := by
  obtain ⟨⟨cs, h1, h2⟩, hok, hF⟩ := h
  exact ⟨⟨cs, (hk p ((hF p).2 rfl) h1.lt).trans h1, h2⟩, hok, hF⟩
theorem IsRcv.below {w w' : World} {p : Nat} {F : Nat → Prop} {r : RS} (h : IsRcv w p F r) (hb : Below w.heap.size w w') : IsRcv w' p F r := h.keep fun b _ hl => hb.block _ hl
theorem IsRcv.lt {w : World} {p : Nat} {F : Nat → Prop} {r : RS} (h : IsRcv w p F r) : ∀ b, F b → b < w.heap.size := by
  obtain ⟨⟨cs, h1, h2⟩, hok, hF⟩ := h
  intro b hb
  obtain rfl := (hF b).1 hb
  exact h1.lt

set_option maxHeartbeats 1000000 in
theorem rcvNew_any (a : Int) (w : World) :
    Calls Tryd.prog 145 #[.int .i64 a] w fun e w' => e = .returned (.pointer (some ⟨w.heap.size, 0, none⟩)) ∧ IsRcv w' w.heap.size (fun i => i = w.heap.size) (RS.new a) ∧ Below w.heap.size w w' := by
  go_enter Tryd.func145, Tryd.ntmps145
  go_wp2
  all_goals
    go_ret
    refine ⟨rfl, ⟨⟨_, Blk.new _ _ _, by simp, ?_, by simp [RS.new], by simp, by simp [RS.new]⟩, RS.new_ok a, fun _ => Iff.rfl⟩, (Below.refl _ _).alloc (Nat.le_refl _) _⟩
    go_light
    simp [RS.new, clampI]
    (repeat' split) <;> omega

set_option maxHeartbeats 1000000 in
theorem rcvAck_any (p : Nat) (F : Nat → Prop) (r : RS) (w : World) (h : IsRcv w p F r) :
    Calls Tryd.prog 108 #[.pointer (some ⟨p, 0, none⟩)] w fun e w' => e = .returned (.int .i64 r.n) ∧ w' = w := by
  obtain ⟨⟨cs, hg, h1, h2, h3, h4, h5⟩, hok, hF⟩ := h
  obtain ⟨c0, f0, z0⟩ := hg.rules
  have c1 := (c0 1).trans h3
  clear c0
  go_enter Tryd.func108, Tryd.ntmps108
  go_wp2
  go_ret
  exact ⟨rfl, rfl⟩

set_option maxHeartbeats 1000000 in
theorem rcvPlace_any (p : Nat) (F : Nat → Prop) (r : RS) (w : World) (h : IsRcv w p F r) (hn : r.n < 16) :
    Calls Tryd.prog 154 #[.pointer (some ⟨p, 0, none⟩), .int .i64 r.n] w fun e w' => e = .returned (.int .i64 r.n) ∧ w' = w := by
  obtain ⟨⟨cs, hg, h1, h2, h3, h4, h5⟩, hok, hF⟩ := h
  have r2 := hok.r2
  have n1 := hok.n1
  obtain ⟨c0, f0, z0⟩ := hg.rules
  have c1 := (c0 18).trans h4
  clear c0
  go_enter Tryd.func154, Tryd.ntmps154
  go_wp2
  go_ret
  refine ⟨?_, rfl⟩
  have hm : (r.n : Int) % 16 = r.n := by omega
  simp_all

theorem rcv_taken {w W : World} {p : Nat} {F : Nat → Prop} {r : RS} {q : Int} {cs : Array Value} {d : ByteArray} {o : Nat} (hr : r.hear q = { r with n := r.n + 1 }) (hok : r.Ok) (hF : ∀ b, F b ↔ b = p)
    (hg : Blk w p 239 cs) (h1 : cs.size = 20) (h2 : cs[0]? = some (.int .i64 r.room)) (h4 : cs[18]? = some (.int .i64 0)) (ho : 2 ≤ o) (ho' : o < 18) (hW : Below w.heap.size w W) :
    ∃ F', IsRcv (((W.setCell ⟨p, o, none⟩ (.string d)).setCell ⟨p, 1, none⟩ (.int .i64 (r.n + 1))).setCell ⟨p, 19, none⟩ (.int .i64 (r.n + 1))) p F' (r.hear q) ∧ Step F w F' (((W.setCell ⟨p, o, none⟩ (.string d)).setCell ⟨p, 1, none⟩ (.int .i64 (r.n + 1))).setCell ⟨p, 19, none⟩ (.int .i64 (r.n + 1))) := by
  refine ⟨F, ⟨⟨_, (((hg.below hW).set o _).set 1 _).set 19 _, by simpa using h1, ?_, ?_, ?_, ?_⟩, RS.hear_ok hok q, hF⟩, ⟨?_, fun b hb => .inl hb⟩⟩
  · rw [hr, Array.getElem?_setIfInBounds_ne (by omega), Array.getElem?_setIfInBounds_ne (by omega), Array.getElem?_setIfInBounds_ne (by omega)]; exact h2
  · rw [hr]; simp [Array.getElem?_setIfInBounds, h1]
  · rw [Array.getElem?_setIfInBounds_ne (by omega), Array.getElem?_setIfInBounds_ne (by omega), Array.getElem?_setIfInBounds_ne (by omega)]; exact h4
  · rw [hr]; simp [Array.getElem?_setIfInBounds, h1]
  · exact (((Mod.of_below hW).setCell (p := ⟨p, o, none⟩) (.inl ((hF p).2 rfl)) _).setCell (p := ⟨p, 1, none⟩) (.inl ((hF p).2 rfl)) _).setCell (p := ⟨p, 19, none⟩) (.inl ((hF p).2 rfl)) _

set_option maxRecDepth 100000 in
set_option maxHeartbeats 1000000 in
theorem rcvHear_any (p : Nat) (F : Nat → Prop) (r : RS) (q : Int) (d : ByteArray) (w : World) (h : IsRcv w p F r) :
    Calls Tryd.prog 101 #[.pointer (some ⟨p, 0, none⟩), .int .i64 q, .string d] w fun e w' => (∃ b, e = .returned (.bool b)) ∧ ∃ F', IsRcv w' p F' (r.hear q) ∧ Step F w F' w' := by
  have hself := h
  obtain ⟨⟨cs, hg, h1, h2, h3, h4, h5⟩, hok, hF⟩ := h
  have r1 := hok.r1
  have r2 := hok.r2
  have n1 := hok.n1
  obtain ⟨cc, f0, z0⟩ := hg.rules
  have c0 := (cc 0).trans h2
  have c1 := (cc 1).trans h3
  have c18 := (cc 18).trans h4
  have c19 := (cc 19).trans h5
  by_cases e1 : (r.n : Int) = r.room
  · have hs : r.hear q = r := if_neg (by omega)
    have ht : ((r.n : Int) == r.room) = true := by rw [beq_iff_eq]; exact e1
    have Hs := Lib.hid hs
    have Hself := Lib.hid hself
    clear hs hF hself cc e1 h1 h2 h3 h4 h5
    go_enter Tryd.func101, Tryd.ntmps101
    go_wp2
    go_quiet (fail)
    go_wp2
    go_ret
    refine ⟨⟨false, rfl⟩, F, ?_, Step.of_below (below_drewN' (Below.refl _ _) _)⟩
    rw [Hs.out]
    exact Hself.out.keep fun _ _ _ => rfl
  · have ht : ((r.n : Int) == r.room) = false := by rw [beq_eq_false_iff_ne]; exact e1
    by_cases e2 : q = r.n + 1
    · have hs : r.hear q = { r with n := r.n + 1 } := if_pos (by omega)
      have ht2 : (q != (r.n : Int) + 1) = false := by simp [e2]
      have Hs := Lib.hid hs
      have Hself := Lib.hid hself
      have HF := Lib.hid hF
      have hx : ∃ v, cs[2 + r.n]? = some v := ⟨_, Array.getElem?_eq_getElem (by omega)⟩
      obtain ⟨v, hv⟩ := hx
      have cx := (cc (2 + r.n)).trans hv
      have hn16 : r.n < 16 := by omega
      clear hs hF hself cc e1 e2 h3 h5
      go_enter Tryd.func101, Tryd.ntmps101
      go_wp2
      go_quiet (fail)
      go_wp2
      go_region_with (first
        | (go_at_call 154; refine (rcvPlace_any p F r _ ?_ hn16).mono ?_; exact Hself.out.keep fun _ _ _ => rfl; rintro e w1 ⟨rfl, rfl⟩))
      all_goals
        go_wp2
        go_ret
        refine ⟨⟨true, rfl⟩, ?_⟩
        refine rcv_taken (W := w.drewN _) (o := 2 + r.n) Hs.out hok HF.out hg h1 h2 h4 (by omega) (by omega) ?_
        first
          | exact below_drewN' (below_drewN' (Below.refl _ _) _) _
          | exact below_drewN' (Below.refl _ _) _
    · have hs : r.hear q = r := if_neg (by omega)
      have ht2 : (q != (r.n : Int) + 1) = true := by simp [e2]
      have Hs := Lib.hid hs
      have Hself := Lib.hid hself
      clear hs hF hself cc e1 e2 h1 h2 h3 h4 h5
      go_enter Tryd.func101, Tryd.ntmps101
      go_wp2
      go_quiet (fail)
      go_wp2
      go_ret
      refine ⟨⟨false, rfl⟩, F, ?_, Step.of_below (below_drewN' (Below.refl _ _) _)⟩
      rw [Hs.out]
      exact Hself.out.keep fun _ _ _ => rfl

end Go.Proofs.YthdnoljmiehegaaDoor
