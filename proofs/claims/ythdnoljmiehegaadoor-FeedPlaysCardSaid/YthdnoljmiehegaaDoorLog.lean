/- WHAT IS PROVED HERE: the program's log of rounds. -/
import Derived.Test.YthdnoljmiehegaaDoorObj
import Derived.Test.YthdnoljmiehegaaDoorFits
import Derived.Test.YthdnoljmiehegaaDoorCops
set_option linter.unusedVariables false
set_option linter.unusedSimpArgs false
namespace Go.Proofs.YthdnoljmiehegaaDoor
open Go.RowKit

/-- A call as one step of a region that draws its order. -/
theorem step_sem {P : Program} {ops : Array Oper} {o : Oper} {a : Act} {w : World} {N : Act → World → Prop} {Q : Exit → Act → World → Prop} {E : Prop} (hgd : o.guard = none) (h : o.upon P a N Q ((execOp a.eval o).run P w)) :
    if Region.wanted o (yielded ops a.tmps) = true then Oper.wp P o a w N Q else E := by
  have hw : Region.wanted o (yielded ops a.tmps) = true := by simp [Region.wanted, hgd]
  rw [if_pos hw]
  exact h

/-- The log as data: how many clients, and all rounds. -/
structure Lg where
  clients : Int
  l : List Rnd
def cnt (o : Int) (l : List Rnd) : Int := (l.filter fun r => decide (r.o = o)).length
def lastN (o : Int) (l : List Rnd) : Int := l.foldl (fun a r => if r.o = o then r.n else a) 0
structure Lg.Ok (g : Lg) : Prop where
  c1 : 1 ≤ g.clients
  c2 : g.clients ≤ 64
  may : ∀ r ∈ g.l, r.may = 0
  num : ∀ o, lastN o g.l = cnt o g.l
def Lg.new (c : Int) : Lg := ⟨clampI c 1 64, []⟩
def Lg.err (g : Lg) (r : Rnd) : Int := if r.may ≠ 0 then r.may else if g.clients < r.o then 11 else if r.n < cnt r.o g.l + 1 then 12 else if cnt r.o g.l + 1 < r.n then 10 else 0
def Lg.add (g : Lg) (r : Rnd) : Lg := if g.err r = 0 then { g with l := g.l ++ [r] } else g
theorem Rnd.may_parts {r : Rnd} (h : r.may = 0) : 1 ≤ r.o ∧ r.o ≤ 64 ∧ 1 ≤ r.n ∧ r.n ≤ 1099511627776 ∧ 1 ≤ r.us.length ∧ r.us.length ≤ 8 ∧ mayAll r.us = 0 := by
  unfold Rnd.may at h
  split at h
  · rename_i hg
    simp only [inB, decide_eq_true_eq] at hg
    omega
  · cases h
theorem cnt_le (o : Int) (l : List Rnd) : 0 ≤ cnt o l ∧ cnt o l ≤ l.length := by
  unfold cnt
  have := List.length_filter_le (fun r : Rnd => decide (r.o = o)) l
  omega
theorem cnt_snoc (o : Int) (l : List Rnd) (r : Rnd) : cnt o (l ++ [r]) = cnt o l + (if r.o = o then 1 else 0) := by
  unfold cnt
  rw [List.filter_append, List.length_append]
  by_cases h : r.o = o <;> simp [h]
theorem lastN_snoc (o : Int) (l : List Rnd) (r : Rnd) : lastN o (l ++ [r]) = if r.o = o then r.n else lastN o l := by
  unfold lastN
  rw [List.foldl_append]; rfl
theorem Lg.new_ok (c : Int) : (Lg.new c).Ok := by
  constructor <;> simp only [Lg.new, clampI]
  · (repeat' split) <;> omega
  · (repeat' split) <;> omega
  · simp
  · intro o; rfl
theorem Lg.err_zero {g : Lg} {r : Rnd} (h : g.err r = 0) : r.may = 0 ∧ r.o ≤ g.clients ∧ r.n = cnt r.o g.l + 1 := by
  unfold Lg.err at h
  split at h
  · contradiction
  · rename_i h0
    split at h
    · omega
    split at h
    · omega
    split at h
    · omega
    exact ⟨by simpa using h0, by omega, by omega⟩
theorem Lg.add_ok {g : Lg} (h : g.Ok) (r : Rnd) : (g.add r).Ok := by
  unfold Lg.add
  split
  · rename_i he
    obtain ⟨h1, h2, h3⟩ := Lg.err_zero he
    refine ⟨h.c1, h.c2, ?_, ?_⟩
    · intro q hq
      simp only [List.mem_append, List.mem_singleton] at hq
      rcases hq with hq | rfl
      · exact h.may q hq
      · exact h1
    · intro o
      simp only [lastN_snoc, cnt_snoc]
      by_cases ho : r.o = o
      · subst ho; simp; omega
      · simp [ho, h.num]
  · exact h

/-- What the block of a log holds. -/
def LgCells (g : Lg) (A : Option Addr) (c : Nat) (cs : Array Value) : Prop :=
  cs.size = 67 ∧ cs[0]? = some (.int .i64 g.clients) ∧ cs[1]? = some (.slice A g.l.length c) ∧ ∀ o : Nat, o ≤ 64 → cs[2 + o]? = some (.int .i64 (cnt o g.l))
def IsLog (w : World) (p : Nat) (F : Nat → Prop) (g : Lg) : Prop :=
  ∃ A c cs, Blk w p 150 cs ∧ LgCells g A c cs ∧ OwnL KR 38 (fun b => F b ∧ b ≠ p) w (.slice A g.l.length c) g.l ∧ g.Ok ∧ F p ∧ ∀ b, F b → b < w.heap.size
theorem IsLog.keep {w w' : World} {p : Nat} {F : Nat → Prop} {g : Lg} (h : IsLog w p F g) (hs : w.heap.size ≤ w'.heap.size) (hk : ∀ b, F b → b < w.heap.size → w'.heap[b]? = w.heap[b]?) : IsLog w' p F g := by
  obtain ⟨A, c, cs, hg, hc, hown, hok, hp, hF⟩ := h
  exact ⟨A, c, cs, (hk p hp hg.lt).trans hg, hc, hown.keep hs fun b hb => hk b hb.1, hok, hp, fun b hb => Nat.lt_of_lt_of_le (hF b hb) hs⟩
theorem IsLog.below {w w' : World} {p : Nat} {F : Nat → Prop} {g : Lg} (h : IsLog w p F g) (hb : Below w.heap.size w w') : IsLog w' p F g := h.keep hb.size fun b _ hl => hb.block _ hl
theorem IsLog.lt {w : World} {p : Nat} {F : Nat → Prop} {g : Lg} (h : IsLog w p F g) : ∀ b, F b → b < w.heap.size := h.choose_spec.choose_spec.choose_spec.2.2.2.2.2
theorem IsLog.ok {w : World} {p : Nat} {F : Nat → Prop} {g : Lg} (h : IsLog w p F g) : g.Ok := h.choose_spec.choose_spec.choose_spec.2.2.2.1

theorem z150 : Tryd.zeroCells150 = #[.int .i64 0, .slice none 0 0] ++ Array.replicate 65 (.int .i64 0) := by kernel_rfl
theorem z150_at (o : Nat) (ho : o ≤ 64) : Tryd.zeroCells150[2 + o]? = some (.int .i64 0) := by
  rw [z150, Array.getElem?_append_right (by simp)]
  show (Array.replicate 65 _)[2 + o - 2]? = _
  rw [Nat.add_sub_cancel_left, Array.getElem?_replicate, if_pos (by omega)]
set_option maxHeartbeats 1000000 in
theorem logNew_any (a : Int) (w : World) :
    Calls Tryd.prog 31 #[.int .i64 a] w fun e w' => e = .returned (.pointer (some ⟨w.heap.size, 0, none⟩)) ∧ IsLog w' w.heap.size (fun i => i = w.heap.size) (Lg.new a) ∧ Below w.heap.size w w' := by
  go_enter Tryd.func31, Tryd.ntmps31
  go_wp2
  all_goals
    go_ret
    refine ⟨rfl, ⟨none, 0, _, Blk.new _ _ _, ⟨by rfl, ?_, by rfl, ?_⟩, OwnL.nil _ _ _ _, Lg.new_ok a, rfl, ?_⟩, (Below.refl _ _).alloc (Nat.le_refl _) _⟩
    · go_light
      simp [Lg.new, clampI]
      (repeat' split) <;> omega
    · intro o ho
      simp only [cnt, Lg.new, List.filter_nil, List.length_nil]
      rw [Array.getElem?_setIfInBounds_ne (by omega), z150_at o ho]
      rfl
    · intro b hb; subst hb; simp

set_option maxRecDepth 100000 in
set_option maxHeartbeats 2000000 in
theorem logAt_any (p : Nat) (F : Nat → Prop) (g : Lg) (i : Int) (w : World) (h : IsLog w p F g) (hl : g.l.length ≤ 100000) :
    Calls Tryd.prog 96 #[.pointer (some ⟨p, 0, none⟩), .int .i64 i] w fun e w' => Below w.heap.size w w' ∧
      ((∃ k : Nat, ∃ hk : k < g.l.length, i = k ∧ ∃ A c, e = .returned (.tuple #[.agg #[.int .i64 g.l[k].o, .int .i64 g.l[k].n, .slice A g.l[k].us.length c], .bool true]) ∧ SL KU (newB w) w' A c g.l[k].us) ∨
        ((i < 0 ∨ (g.l.length : Int) ≤ i) ∧ e = .returned (.tuple #[.agg #[.int .i64 0, .int .i64 0, .slice none 0 0], .bool false]))) := by
  obtain ⟨A, c, cs, hg, ⟨k1, k2, k3, k4⟩, hown, hok, hp, hF⟩ := h
  obtain ⟨cc, f0, z0⟩ := (hg.alloc (.cells #[.int .i64 0, .int .i64 0, .slice none 0 0] 38)).rules
  have c1 := (cc 1).trans k3
  clear cc
  by_cases hin : 0 ≤ i ∧ i < g.l.length
  · obtain ⟨h0, h1⟩ := hin
    obtain ⟨k, rfl⟩ : ∃ k : Nat, i = k := ⟨i.toNat, by omega⟩
    have hk : k < g.l.length := by omega
    have hmay := Rnd.may_parts (hok.may _ (List.getElem_mem hk))
    obtain ⟨b, off, A', c', rfl, _, hbw, d0, d1, d2, hsl⟩ := ((hown.alloc (.cells #[.int .i64 0, .int .i64 0, .slice none 0 0] 38)).sl').rnd k hk
    have hus : g.l[k].us.length ≤ 1000 := by omega
    have ha : decide ((k : Int) < 0) = false := by simp
    generalize hr : g.l[k] = r at *
    have Hr := Lib.hid hr
    clear k1 k2 k3 k4 hown hok hp hF hmay hr
    go_enter Tryd.func96, Tryd.ntmps96
    go_wp2_with (go_at_call 105; refine (copy_any r A' c' _ hsl.any (by omega)).mono ?_; rintro e w1 ⟨A2, c2, rfl, hsl2, hb1⟩; obtain ⟨c5, f5, z5⟩ := ((Blk.new w 38 _).below hb1).rules)
    all_goals
      refine bodyPost_ret (v := .tuple #[.agg #[.int .i64 r.o, .int .i64 r.n, .slice A2 r.us.length c2], .bool true]) (by simp [results, Tryd.results96, go_sem, c5, z5]) rfl ⟨?_, ?_⟩
      · exact (((((Below.refl _ _).alloc (Nat.le_refl _) _).trans (hb1.mono (by simp))).setCell (Nat.le_refl _) _).setCell (Nat.le_refl _) _).setCell (Nat.le_refl _) _
      · refine .inl ⟨k, hk, rfl, A2, c2, ?_⟩
        rw [Hr.out]
        refine ⟨rfl, (((hsl2.setCell ?_ _).setCell ?_ _).setCell ?_ _).mono fun b hb _ => ?_⟩
        all_goals (simp only [newB, World.size_alloc] at *; omega)
  · have Hd : Hid (i < 0 ∨ (g.l.length : Int) ≤ i) := Lib.hid (by omega)
    clear k1 k2 k3 k4 hok hp hF
    obtain ⟨c5, f5, z5⟩ := (Blk.new w 38 #[.int .i64 0, .int .i64 0, .slice none 0 0]).rules
    go_enter Tryd.func96, Tryd.ntmps96
    go_wp2
    all_goals
      refine bodyPost_ret (v := .tuple #[.agg #[.int .i64 0, .int .i64 0, .slice none 0 0], .bool false]) (by simp [results, Tryd.results96, go_sem, c5, z5]) rfl ⟨?_, ?_⟩
      · exact (Below.refl _ _).alloc (Nat.le_refl _) _
      · first
          | exact .inr ⟨Hd.out, rfl⟩
          | exact .inr rfl

set_option maxHeartbeats 1000000 in
theorem logLen_any (p : Nat) (F : Nat → Prop) (g : Lg) (w : World) (h : IsLog w p F g) :
    Calls Tryd.prog 50 #[.pointer (some ⟨p, 0, none⟩)] w fun e w' => e = .returned (.int .i64 g.l.length) ∧ w' = w := by
  obtain ⟨A, c, cs, hg, ⟨k1, k2, k3, k4⟩, hown, hok, hp, hF⟩ := h
  obtain ⟨cc, f0, z0⟩ := hg.rules
  have c1 := (cc 1).trans k3
  clear cc
  go_enter Tryd.func50, Tryd.ntmps50
  go_wp2
  go_ret
  exact ⟨rfl, rfl⟩

/-- One round more. -/
theorem log_grown {w W w3 : World} {p : Nat} {F : Nat → Prop} {g : Lg} {r : Rnd} {A3 : Option Addr} {c3 : Nat} {cs : Array Value} (he : g.err r = 0) (hok : g.Ok) (hF : ∀ b, F b → b < w.heap.size) (hp : F p) {o : Nat} (ho : r.o = o) (ho' : o ≤ 64)
    (hcs : cs.size = 67 ∧ cs[0]? = some (.int .i64 g.clients) ∧ ∀ o : Nat, o ≤ 64 → cs[2 + o]? = some (.int .i64 (cnt o g.l)))
    (hg : Blk W p 150 (cs.setIfInBounds (2 + o) (.int .i64 (cnt r.o g.l + 1)))) (hm : Mod F w W)
    (hown : OwnL KR 38 (fun b => (F b ∨ w.heap.size ≤ b) ∧ b ≠ p) W (.slice A3 (g.l.length + 1) c3) (g.l ++ [r])) (h3 : w3 = W.setCell ⟨p, 1, none⟩ (.slice A3 (g.l.length + 1) c3)) :
    ∃ F', IsLog w3 p F' (g.add r) ∧ Step F w F' w3 := by
  have ha : g.add r = { g with l := g.l ++ [r] } := if_pos he
  have hok' := Lg.add_ok hok r
  rw [ha] at hok'
  have hl : (g.l ++ [r]).length = g.l.length + 1 := by simp
  rw [ha]
  refine ⟨fun b => (F b ∨ w.heap.size ≤ b) ∧ b < W.heap.size, ⟨A3, c3, (cs.setIfInBounds (2 + o) (.int .i64 (cnt r.o g.l + 1))).setIfInBounds 1 (.slice A3 (g.l.length + 1) c3), ?_, ⟨?_, ?_, ?_, ?_⟩, ?_, hok', ?_, ?_⟩, ⟨?_, fun b hb => hb.1⟩⟩
  · rw [h3]; exact hg.set 1 _
  · simpa using hcs.1
  · rw [Array.getElem?_setIfInBounds_ne (by omega), Array.getElem?_setIfInBounds_ne (by omega)]; exact hcs.2.1
  · rw [Array.getElem?_setIfInBounds_self_of_lt (by simp [hcs.1])]; simp
  · intro q hq
    rw [Array.getElem?_setIfInBounds_ne (by omega)]
    show _ = some (Value.int .i64 (cnt (q : Int) (g.l ++ [r])))
    rw [cnt_snoc]
    by_cases hqo : q = o
    · subst hqo
      rw [Array.getElem?_setIfInBounds_self_of_lt (by rw [hcs.1]; omega), ho]; simp
    · rw [Array.getElem?_setIfInBounds_ne (by omega), hcs.2.2 q hq]
      have : r.o ≠ (q : Int) := by rw [ho]; omega
      simp [this]
  · rw [h3]
    simp only [hl]
    exact (hown.mono fun b hb hlt => (⟨⟨hb.1, hlt⟩, hb.2⟩ : ((F b ∨ w.heap.size ≤ b) ∧ b < W.heap.size) ∧ b ≠ p)).setCell (p := ⟨p, 1, none⟩) (fun h => h.2 rfl) _
  · have := hF p hp; have := hm.size
    exact ⟨.inl hp, by omega⟩
  · rw [h3]; intro b hb; simpa using hb.2
  · rw [h3]; exact hm.setCell (p := ⟨p, 1, none⟩) (.inl hp) _

end Go.Proofs.YthdnoljmiehegaaDoor
