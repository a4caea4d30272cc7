/- WHAT IS PROVED HERE: the reference's log of rounds does what the log as data does: made, and the last number of an origin. -/
import Derived.Test.YthdnoljmiehegaaDoorLog2
import Derived.Test.YthdnoljmiehegaaDoorRsnd
set_option linter.unusedVariables false
set_option linter.unusedSimpArgs false
namespace Go.Proofs.YthdnoljmiehegaaDoor
open Go.RowKit

def IsRLog (w : World) (p : Nat) (F : Nat → Prop) (g : Lg) : Prop :=
  ∃ A c, Blk w p 161 #[.int .i64 g.clients, .slice A g.l.length c] ∧ OwnL KR 38 (fun b => F b ∧ b ≠ p) w (.slice A g.l.length c) g.l ∧ g.Ok ∧ F p ∧ ∀ b, F b → b < w.heap.size
theorem IsRLog.keep {w w' : World} {p : Nat} {F : Nat → Prop} {g : Lg} (h : IsRLog w p F g) (hs : w.heap.size ≤ w'.heap.size) (hk : ∀ b, F b → b < w.heap.size → w'.heap[b]? = w.heap[b]?) : IsRLog w' p F g := by
  obtain ⟨A, c, hg, hown, hok, hp, hF⟩ := h
  exact ⟨A, c, (hk p hp hg.lt).trans hg, hown.keep hs fun b hb => hk b hb.1, hok, hp, fun b hb => Nat.lt_of_lt_of_le (hF b hb) hs⟩
theorem IsRLog.below {w w' : World} {p : Nat} {F : Nat → Prop} {g : Lg} (h : IsRLog w p F g) (hb : Below w.heap.size w w') : IsRLog w' p F g := h.keep hb.size fun b _ hl => hb.block _ hl

set_option maxHeartbeats 1000000 in
theorem rlogNew_any (a : Int) (w : World) :
    Calls Tryd.prog 34 #[.int .i64 a] w fun e w' => e = .returned (.pointer (some ⟨w.heap.size, 0, none⟩)) ∧ IsRLog w' w.heap.size (fun i => i = w.heap.size) (Lg.new a) ∧ Below w.heap.size w w' := by
  go_enter Tryd.func34, Tryd.ntmps34
  go_wp2
  all_goals
    go_ret
    refine ⟨rfl, ⟨none, 0, ?_, OwnL.nil _ _ _ _, Lg.new_ok a, rfl, fun b hb => by subst hb; simp⟩, (Below.refl _ _).alloc (Nat.le_refl _) _⟩
    go_light
    have hx : ∀ x, x = clampI a 1 64 → Blk (w.alloc (.cells #[.int .i64 x, .slice none 0 0] 161)) w.heap.size 161 #[.int .i64 (Lg.new a).clients, .slice none (Lg.new a).l.length 0] := by
      rintro x rfl
      exact Blk.new _ _ _
    refine hx _ ?_
    unfold clampI
    (repeat' split) <;> omega

theorem lastN_take (o : Int) (l : List Rnd) (k : Nat) (hk : k < l.length) : lastN o (l.take (k + 1)) = if l[k].o = o then l[k].n else lastN o (l.take k) := by
  rw [List.take_succ_eq_append_getElem hk, lastN_snoc]

set_option maxRecDepth 100000 in
set_option maxHeartbeats 1000000 in
theorem rlogLast_any (p : Nat) (F : Nat → Prop) (g : Lg) (o : Int) (w : World) (h : IsRLog w p F g) (hl : g.l.length ≤ 100000) :
    Calls Tryd.prog 107 #[.pointer (some ⟨p, 0, none⟩), .int .i64 o] w fun e w' => e = .returned (.int .i64 (cnt o g.l)) ∧ w' = w := by
  obtain ⟨A, c, hg, hown, hok, hp, hF⟩ := h
  have hnum := hok.num o
  rw [← hnum]
  have hsl := hown.sl'
  obtain ⟨c0, f0, z0⟩ := hg.rules
  clear hown hok hF hg hp hnum
  go_enter Tryd.func107, Tryd.ntmps107
  go_wp2
  go_loopw [5, 6] (fun v i wr => ∃ k : Nat, k ≤ g.l.length ∧ i = .int .i64 k ∧ v = .int .i64 (lastN o (g.l.take k)) ∧ wr = w) (fun _ i _ => g.l.length - (intOf i).toNat)
  case atStart => exact ⟨0, Nat.zero_le _, rfl, rfl, rfl⟩
  case round =>
    obtain ⟨k, hk, rfl, rfl, rfl⟩ := hrel
    by_cases hlt : k < g.l.length
    · obtain ⟨b, off, A', c', rfl, _, hbw, d0, d1, d2, h1⟩ := hsl.rnd k hlt
      have hstep := lastN_take o g.l k hlt
      have Hstep := Lib.hid hstep
      clear hstep h1
      by_cases ho : g.l[k].o = o
      · have ht : (g.l[k].o == o) = true := by simpa using ho
        have Hs2 : Hid (lastN o (g.l.take (k + 1)) = g.l[k].n) := Lib.hid (by rw [Hstep.out, if_pos ho])
        clear ho Hstep
        generalize g.l[k] = r at *
        go_wp2
        go_roundw
        case rel => exact ⟨k + 1, by omega, by go_num, by rw [Hs2.out], trivial⟩
        case measure => simp [intOf]; omega
      · have ht : (g.l[k].o == o) = false := by simpa using ho
        have Hs2 : Hid (lastN o (g.l.take (k + 1)) = lastN o (g.l.take k)) := Lib.hid (by rw [Hstep.out, if_neg ho])
        clear ho Hstep
        generalize g.l[k] = r at *
        go_wp2
        go_roundw
        case rel => exact ⟨k + 1, by omega, by go_num, by rw [Hs2.out], trivial⟩
        case measure => simp [intOf]; omega
    · obtain rfl : k = g.l.length := by omega
      have ht : g.l.take g.l.length = g.l := List.take_length
      rw [ht]
      go_wp2
      go_ret
      exact ⟨rfl, rfl⟩

end Go.Proofs.YthdnoljmiehegaaDoor
