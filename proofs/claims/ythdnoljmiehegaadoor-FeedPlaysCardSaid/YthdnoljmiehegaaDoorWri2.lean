/- WHAT IS PROVED HERE: a pack.Writer's numbers, texts, signed numbers, and an update's fields. -/
import Derived.Test.YthdnoljmiehegaaDoorWri
import Derived.Test.YthdnoljmiehegaaDoorZig
import Derived.Test.YthdnoljmiehegaaDoorRbyt
set_option linter.unusedVariables false
set_option linter.unusedSimpArgs false
namespace Go.Proofs.YthdnoljmiehegaaDoor
open Go.RowKit

theorem Bits.pos {w : World} (h : Bits w) : 0 < w.heap.size := by
  obtain ⟨t, fr, e⟩ := h
  rcases Nat.lt_or_ge 0 w.heap.size with hl | hl
  · exact hl
  · rw [Array.getElem?_eq_none hl] at e; cases e
theorem Bits.mod {S : Nat → Prop} {w w' : World} (h : Bits w) (hb : Mod S w w') (h0 : ¬ S 0) : Bits w' := by
  have hp := h.pos
  obtain ⟨t, fr, e⟩ := h
  exact ⟨t, fr, (hb.block 0 hp h0).trans e⟩
theorem Bits.alloc {w : World} (h : Bits w) (o : Obj) : Bits (w.alloc o) := h.below ((Below.refl _ _).alloc (Nat.le_refl _) _)
theorem IsW.lt {w : World} {g : Nat} {q : Option Nat} {bs : ByteArray} (h : IsW w g q bs) : g < w.heap.size := by
  obtain ⟨p, v, hg, _⟩ := h; exact hg.lt
theorem IsW.qlt {w : World} {g : Nat} {q : Option Nat} {bs : ByteArray} (h : IsW w g q bs) : ∀ b, q = some b → b < w.heap.size := by
  obtain ⟨p, v, hg, _, hown, rfl⟩ := h
  exact fun b hb => (hown.lt b hb).2
theorem IsW.below {w w' : World} {g : Nat} {q : Option Nat} {bs : ByteArray} (h : IsW w g q bs) (hb : Below w.heap.size w w') : IsW w' g q bs := by
  obtain ⟨p, v, hg, hp, hown, hq⟩ := h
  exact ⟨p, v, hg.below hb, hp, hown.kept (row := none) ⟨hb.os, hb.tape, hb.output, hb.size, fun k hk _ => hb.block k hk⟩ (by cases v.ownBlock <;> simp), hq⟩
theorem IsW.alloc {w : World} {g : Nat} {q : Option Nat} {bs : ByteArray} (h : IsW w g q bs) (o : Obj) : IsW (w.alloc o) g q bs := h.below ((Below.refl _ _).alloc (Nat.le_refl _) _)
theorem IsW.new (w : World) : IsW (w.alloc (.cells #[.pointer none, .slice none 0 0, .bool false] 229)) w.heap.size none ByteArray.empty :=
  ⟨_, _, Blk.new _ _ _, .inl rfl, World.ownsRow_nil _ _ _ _, rfl⟩
theorem IsW.rules {w : World} {g : Nat} {q : Option Nat} {bs : ByteArray} (h : IsW w g q bs) : ∃ p v, (∀ i, w.cell? ⟨g, i, none⟩ = #[p, v, Value.bool false][i]?) ∧ (∀ i, w.frozen? ⟨g, i, none⟩ = false) ∧ g < w.heap.size := by
  obtain ⟨p, v, hg, _⟩ := h; exact ⟨p, v, hg.rules⟩
/-- What each step on the Writer leaves. -/
def Wrote (w w' : World) (g : Nat) (q : Option Nat) (bs : ByteArray) : Prop := ∃ q', IsW w' g q' bs ∧ Mod (WS g q) w w' ∧ WQ w q q'
theorem Wrote.trans {a b c : World} {g : Nat} {q q' : Option Nat} {bs : ByteArray} (h1 : Mod (WS g q) a b) (h2 : WQ a q q') (h : Wrote b c g q' bs) : Wrote a c g q bs := by
  obtain ⟨q2, k1, k2, k3⟩ := h
  refine ⟨q2, k1, h1.trans' k2 ?_, ?_⟩
  · intro i hi
    rcases hi with rfl | hi
    · exact .inl (.inl rfl)
    · rcases h2 i hi with h | h
      · exact .inl (.inr h)
      · exact .inr h
  · intro b hb
    rcases k3 b hb with h | h
    · exact h2 b h
    · exact .inr (Nat.le_trans h1.size h)

set_option maxHeartbeats 1000000 in
set_option maxRecDepth 100000 in
theorem putW_any (g : Nat) (q : Option Nat) (w : World) (bs : ByteArray) (n : Int) (h : IsW w g q bs) (h0 : 0 ≤ n) (h1 : n < 4611686018427387904) (hlen : bs.size ≤ 90000) (hG : Bits w) :
    Calls Tryd.prog 170 #[.pointer (some ⟨g, 0, none⟩), .int .u64 n, .bool true] w fun e w' => e = .returned (.tuple #[]) ∧ Wrote w w' g q (bs ++ bNum n) := by
  have hz := bNum_size n
  have Hq := Lib.hid h.qlt
  have hgl := h.lt
  go_enter Tryd.func170, Tryd.ntmps170
  go_wp2_with (go_at_call 179; refine (put_any n h0 h1 _ hG).mono ?_)
  rintro e w1 ⟨rfl, hb1⟩
  have hw1 := h.below hb1
  obtain ⟨p, v, hg, hp, hown, hq⟩ := hw1
  obtain ⟨c0, f0, z0⟩ := hg.rules
  have hw2 : IsW (w1.setCell ⟨g, 2, none⟩ (.bool false)) g q bs := ⟨p, v, hg.set 2 _, hp, row_other hown hg (by decide) _ _, hq⟩
  have Hw2 := Lib.hid hw2
  clear hw2 hown hp hq
  go_wp2_with (go_at_call 180; refine (writeString_any g q _ bs _ Hw2.out (by have := hz; unfold bNum at this; omega)).mono ?_)
  rintro e w2 ⟨rfl, q', h2, hb2, hq2⟩
  go_wp2
  go_end0
  refine ⟨rfl, q', h2, (((Mod.refl _ w).below hb1).setCell (p := ⟨g, 2, none⟩) (.inl (.inl rfl)) _).trans hb2, ?_⟩
  intro b hb
  rcases hq2 b hb with h | h
  · exact .inl h
  · exact .inr (by have := hb1.size; simp at h; omega)

theorem numW_any (g : Nat) (q : Option Nat) (w : World) (bs : ByteArray) (n : Int) (h : IsW w g q bs) (h0 : 0 ≤ n) (h1 : n < 4611686018427387904) (hlen : bs.size ≤ 90000) (hG : Bits w) :
    Calls Tryd.prog 150 #[.pointer (some ⟨g, 0, none⟩), .int .i64 n] w fun e w' => e = .returned (.tuple #[]) ∧ Wrote w w' g q (bs ++ bNum n) := by
  have h2 : n < 18446744073709551616 := by omega
  go_enter Tryd.func150, Tryd.ntmps150
  go_wp2_with (go_at_call 170; refine (putW_any g q _ bs n h h0 h1 hlen hG).mono ?_; rintro e w1 ⟨rfl, hw1⟩)
  go_end0
  exact ⟨rfl, hw1⟩

theorem signedW_any (g : Nat) (q : Option Nat) (w : World) (bs : ByteArray) (n : Int) (h : IsW w g q bs) (h0 : -2305843009213693952 ≤ n) (h1 : n < 2305843009213693952) (hlen : bs.size ≤ 90000) (hG : Bits w) :
    Calls Tryd.prog 172 #[.pointer (some ⟨g, 0, none⟩), .int .i64 n] w fun e w' => e = .returned (.tuple #[]) ∧ Wrote w w' g q (bs ++ bNum (zig n)) := by
  have hz : 0 ≤ zig n ∧ zig n < 4611686018427387904 := by unfold zig; split <;> omega
  go_enter Tryd.func172, Tryd.ntmps172
  go_wp2_with (first | (go_at_call 181; refine (pzig_any n h0 h1 _).mono ?_; rintro e w1 ⟨rfl, rfl⟩) | (go_at_call 170; refine (putW_any g q _ bs _ h hz.1 hz.2 hlen hG).mono ?_; rintro e w1 ⟨rfl, hw1⟩))
  go_end0
  exact ⟨rfl, hw1⟩

set_option maxHeartbeats 1000000 in
theorem textW_any (g : Nat) (q : Option Nat) (w : World) (bs s : ByteArray) (h : IsW w g q bs) (hs : s.size ≤ 1000) (hlen : bs.size ≤ 80000) (hG : Bits w) :
    Calls Tryd.prog 171 #[.pointer (some ⟨g, 0, none⟩), .string s] w fun e w' => e = .returned (.tuple #[]) ∧ Wrote w w' g q (bs ++ bText s) := by
  have hz := bNum_size s.size
  go_enter Tryd.func171, Tryd.ntmps171
  go_wp2_with (go_at_call 150; refine (numW_any g q _ bs s.size h (by omega) (by omega) (by omega) hG).mono ?_)
  rintro e w1 ⟨rfl, q1, hw1, hm1, hq1⟩
  obtain ⟨p, v, c0, f0, z0⟩ := hw1.rules
  go_wp2_with (go_at_call 180; refine (writeString_any g q1 _ _ s hw1 (by rw [ByteArray.size_append]; omega)).mono ?_)
  rintro e w2 ⟨rfl, q2, hw2, hm2, hq2⟩
  go_wp2
  go_end0
  refine ⟨rfl, Wrote.trans hm1 hq1 ⟨q2, ?_, hm2, hq2⟩⟩
  rw [bText, ← ByteArray.append_assoc]
  exact hw2

end Go.Proofs.YthdnoljmiehegaaDoor
