/- WHAT IS PROVED HERE: the reference lays a number as the same bytes. -/
import Derived.Test.YthdnoljmiehegaaDoorPfx
import Derived.BigRegion
set_option linter.unusedVariables false
set_option linter.unusedSimpArgs false
namespace Go.Proofs.YthdnoljmiehegaaDoor
open Go.RowKit

/-- Bytes. -/
def KB : Kind Int where
  sz := 1
  cs := fun _ _ b l => l = [.int .u8 b]
  len := by rintro _ _ _ _ rfl; rfl
  one := by rintro _ _ _ _ rfl u hu; simp at hu; subst hu; rfl
  keep := fun h _ _ => h
  mono := fun h _ => h
theorem KB.flat : Kind.Flat KB := fun h => h
theorem info5 : (Tryd.prog.info? 5).map (fun i => (i.zero, i.size, i.bytes)) = some (some (.int .u8 0), 1, 1) := by kernel_rfl

theorem rsize_any (n : Int) (w : World) : Calls Tryd.prog 177 #[.int .u64 n] w fun e w' => e = .returned (.int .i64 (psize n)) ∧ w = w' := by
  go_enter Tryd.func177, Tryd.ntmps177
  go_wp2
  all_goals
    go_ret
    refine ⟨ret_int ?_, rfl⟩
    go_light
    unfold psize
    (repeat' split) <;> first | rfl | omega

def digs : Nat → Int → List Int
  | 0, _ => []
  | k + 1, n => (n / 256 ^ k % 256) :: digs k n
theorem digs_length (k : Nat) (n : Int) : (digs k n).length = k := by induction k with
  | zero => rfl
  | succ k ih => simp [digs, ih]

theorem OwnL.sl_of {α : Type} {K : Kind α} {e : TypeId} {ok : Nat → Prop} {w : World} {A : Option Addr} {n c : Nat} {l : List α} (h : OwnL K e ok w (.slice A n c) l) (hn : l.length = n) : SL K ok w A c l := by
  subst hn; exact h.sl'

/-- A new row of one byte. -/
theorem OwnL.byte {ok : Nat → Prop} (w : World) (b : Int) (hok : ok w.heap.size) : OwnL KB 5 ok (w.alloc (.cells #[.int .u8 b] 5)) (.slice (some ⟨w.heap.size, 0, none⟩) 1 1) [b] :=
  ⟨[.int .u8 b], ⟨by simp [KB], .inr ⟨_, 0, 1, _, rfl, Blk.new _ _ _, Nat.le_refl _, by simp [maxLen], by simp [KB], by simp [KB]⟩⟩, ⟨[.int .u8 b], [], by simp, rfl, rfl⟩, fun b hb => by simp [Value.ownBlock] at hb; subst hb; exact hok⟩

theorem strOfNums_append (xs ys : List Int) : strOfNums xs ++ strOfNums ys = strOfNums (xs ++ ys) := by
  apply ByteArray.ext
  simp [strOfNums]

set_option maxRecDepth 100000 in
set_option maxHeartbeats 1000000 in
theorem rput2_any (n : Int) (h0 : 64 ≤ n) (h1 : n < 16384) (w : World) :
    Calls Tryd.prog 167 #[.int .u64 n] w fun e w' => e = .returned (.tuple #[.string (strOfNums (pfx n)), .int .i64 0]) ∧ Below w.heap.size w w' := by
  have hs : psize n = 2 := by unfold psize; (repeat' split) <;> omega
  have Hs := Lib.hid hs
  clear hs
  go_enter Tryd.func167, Tryd.ntmps167
  go_wp2_with (go_at_call 177; refine (rsize_any n _).mono ?_; rintro e w' ⟨rfl, rfl⟩; rw [Hs.out])
  go_loopw [0, 5, 6] (fun m v i wr => ∃ k : Nat, ∃ A1 c1, k ≤ 2 ∧ i = .int .i64 k ∧ m = .int .u64 (n / 256 ^ k) ∧ v = .slice A1 k c1 ∧ OwnL KB 5 (newB w) wr v (digs k n) ∧ Below w.heap.size w wr) (fun _ _ i _ => 2 - (intOf i).toNat)
  case atStart => exact ⟨0, some ⟨w.heap.size, 0, none⟩, 0, by omega, rfl, by simp, rfl, OwnL.empty _ _ _ (Nat.le_refl _), (Below.refl _ _).alloc (Nat.le_refl _) _⟩
  case round =>
    obtain ⟨k, A1, c1, hk, rfl, rfl, rfl, hown, hb⟩ := hrel
    have Hown := Lib.hid hown
    clear hown
    have hbs := hb.size
    by_cases hlt : k < 2
    · have hd0 : 0 ≤ n / 256 ^ k := Int.ediv_nonneg (by omega) (Int.pow_nonneg (by decide))
      have hd1 : n / 256 ^ k < 4611686018427387904 := by have := Int.ediv_le_self (256 ^ k) (show 0 ≤ n by omega); omega
      generalize hm : n / 256 ^ k = m at *
      have Hm := Lib.hid hm
      have hsl : SL KB (fun b => newB w b ∧ (Value.slice (some ⟨wr.heap.size, 0, none⟩) 1 1).ownBlock ≠ some b) wr A1 c1 (digs k n) := by
        exact (Hown.out.sl_of (digs_length k n)).mono fun b hb hl => ⟨hb, fun e => by simp [Value.ownBlock] at e; omega⟩
      have Hsl := Lib.hid hsl
      clear hsl
      clear hm
      go_wp2_with (at_builtin; refine wpList_extend KB _ rfl _ _ _ rfl 5 _ 1 Tryd.underlying120 info5 rfl (by decide) (by decide) (newB w) (.slice (some ⟨wr.heap.size, 0, none⟩) 1 1) [m % 256] (digs k n) rfl (OwnL.byte wr _ hbs) 1 rfl k (digs_length k n) A1 c1 rfl (Hsl.out.alloc _) (by simp [newB]; omega) (by omega) ?_; intro A3 c3 w2 hown2 hg2 hat2)
      go_roundw
      case rel =>
        refine ⟨k + 1, A3, c3, by omega, by go_num, ?_, by rw [Nat.add_comm], ?_, ?_⟩
        · rw [← Hm.out, Int.pow_succ, Int.ediv_ediv_of_nonneg (by exact_mod_cast Nat.zero_le _)]
        · rw [digs, Hm.out]; exact hown2
        · exact (hb.alloc hbs _).grown hg2 (by simp; omega) (fun g hg => by simp [Value.ownBlock] at hg; omega)
      case measure => simp [intOf]; omega
    · obtain rfl : k = 2 := by omega
      have hsl := Hown.out.sl_of (digs_length 2 n)
      have hc8 : 2 ≤ c1 := by have := hsl.1; rw [digs_length] at this; exact this
      obtain ⟨b, off, cs, rfl, hok, hbw, rfl, hc⟩ := hsl.at_ 0 (by rw [digs_length]; omega)
      have c0 := hc 0 _ rfl
      simp only [digs, List.getElem_cons_zero, KB, Nat.zero_mul, Nat.add_zero] at c0
      have hcvA : ∀ x0, (convert 120 9 (.slice (some ⟨wr.heap.size, 0, none⟩) 1 1)).run Tryd.prog (wr.alloc (.cells #[.int .u8 x0] 5)).drew = .ok (.string (strOfNums [x0])) (wr.alloc (.cells #[.int .u8 x0] 5)).drew := fun x0 => conv_lit wr.drew [x0] (by simp)
      have hcells : ∀ i, i < 1 → wr.cell? ⟨b, off + 1 + i, none⟩ = some (.int .u8 ((digs 1 n).getD i 0)) := by
        intro i hi
        obtain ⟨b', off', cs', e', _, _, hcs', hc'⟩ := hsl.at_ (i + 1) (by rw [digs_length]; omega)
        cases e'
        obtain rfl : cs' = _ := hcs'
        have := hc' 0 _ rfl
        rw [show off + 1 + i = off + (i + 1) * KB.sz + 0 from by simp [KB]; omega, this]
        simp only [digs, List.getElem_cons_succ]
        rw [List.getD_eq_getElem?_getD, List.getElem?_eq_getElem (by simp [digs]; omega)]
        rfl
      have hcvB : ∀ W : World, (∀ i, i < 1 → W.cell? ⟨b, off + 1 + i, none⟩ = wr.cell? ⟨b, off + 1 + i, none⟩) → (convert 120 9 (.slice (some ⟨b, off + 1, none⟩) 1 (c1 - 1))).run Tryd.prog W = .ok (.string (strOfNums (digs 1 n))) W := fun W hW =>
        run_convert_bytes_arg W 120 5 Tryd.underlying120 Tryd.underlying5 b (off + 1) 1 (c1 - 1) (digs 1 n) (digs_length 1 n) (fun i hi => (hW i hi).trans (hcells i hi)) 9 Tryd.underlying9
      have hcvB1 := hcvB wr.drew (fun _ _ => rfl)
      have hcvB2 : ∀ o, (convert 120 9 (.slice (some ⟨b, off + 1, none⟩) 1 (c1 - 1))).run Tryd.prog (wr.alloc o).drew = .ok (.string (strOfNums (digs 1 n))) (wr.alloc o).drew := fun o => hcvB (wr.alloc o).drew (fun i _ => by show (wr.alloc o).cell? _ = _; exact World.cell?_alloc_lt _ _ _ hbw)
      have hne : ¬ c1 = 1 := by omega
      have z0 : ∀ x, (strOfNums [x]).size = 1 := fun x => strOfNums_size _
      have z1 : (strOfNums (digs 1 n)).size = 1 := by rw [strOfNums_size, digs_length]
      clear hc hsl hcells hcvB
      go_wp2
      go_region
      go_wp2
      go_ret2
      go_light
      refine ⟨?_, below_drewN' (below_alloc' hb _) 1⟩
      have hfin : strOfNums [n / 256 % 256 + 64] ++ strOfNums (digs 1 n) = strOfNums (pfx n) := by
        rw [strOfNums_append, pfx2 h0 h1]
        congr 1
        simp only [digs, List.cons_append, List.nil_append, List.cons.injEq, and_true]
        simp only [Int.reducePow, Int.ediv_one]
        omega
      rw [← hfin]
      rfl

set_option maxRecDepth 100000 in
set_option maxHeartbeats 1000000 in
theorem rput4_any (n : Int) (h0 : 16384 ≤ n) (h1 : n < 1073741824) (w : World) :
    Calls Tryd.prog 167 #[.int .u64 n] w fun e w' => e = .returned (.tuple #[.string (strOfNums (pfx n)), .int .i64 0]) ∧ Below w.heap.size w w' := by
  have hs : psize n = 4 := by unfold psize; (repeat' split) <;> omega
  have Hs := Lib.hid hs
  clear hs
  go_enter Tryd.func167, Tryd.ntmps167
  go_wp2_with (go_at_call 177; refine (rsize_any n _).mono ?_; rintro e w' ⟨rfl, rfl⟩; rw [Hs.out])
  go_loopw [0, 5, 6] (fun m v i wr => ∃ k : Nat, ∃ A1 c1, k ≤ 4 ∧ i = .int .i64 k ∧ m = .int .u64 (n / 256 ^ k) ∧ v = .slice A1 k c1 ∧ OwnL KB 5 (newB w) wr v (digs k n) ∧ Below w.heap.size w wr) (fun _ _ i _ => 4 - (intOf i).toNat)
  case atStart => exact ⟨0, some ⟨w.heap.size, 0, none⟩, 0, by omega, rfl, by simp, rfl, OwnL.empty _ _ _ (Nat.le_refl _), (Below.refl _ _).alloc (Nat.le_refl _) _⟩
  case round =>
    obtain ⟨k, A1, c1, hk, rfl, rfl, rfl, hown, hb⟩ := hrel
    have Hown := Lib.hid hown
    clear hown
    have hbs := hb.size
    by_cases hlt : k < 4
    · have hd0 : 0 ≤ n / 256 ^ k := Int.ediv_nonneg (by omega) (Int.pow_nonneg (by decide))
      have hd1 : n / 256 ^ k < 4611686018427387904 := by have := Int.ediv_le_self (256 ^ k) (show 0 ≤ n by omega); omega
      generalize hm : n / 256 ^ k = m at *
      have Hm := Lib.hid hm
      have hsl : SL KB (fun b => newB w b ∧ (Value.slice (some ⟨wr.heap.size, 0, none⟩) 1 1).ownBlock ≠ some b) wr A1 c1 (digs k n) := by
        exact (Hown.out.sl_of (digs_length k n)).mono fun b hb hl => ⟨hb, fun e => by simp [Value.ownBlock] at e; omega⟩
      have Hsl := Lib.hid hsl
      clear hsl
      clear hm
      go_wp2_with (at_builtin; refine wpList_extend KB _ rfl _ _ _ rfl 5 _ 1 Tryd.underlying120 info5 rfl (by decide) (by decide) (newB w) (.slice (some ⟨wr.heap.size, 0, none⟩) 1 1) [m % 256] (digs k n) rfl (OwnL.byte wr _ hbs) 1 rfl k (digs_length k n) A1 c1 rfl (Hsl.out.alloc _) (by simp [newB]; omega) (by omega) ?_; intro A3 c3 w2 hown2 hg2 hat2)
      go_roundw
      case rel =>
        refine ⟨k + 1, A3, c3, by omega, by go_num, ?_, by rw [Nat.add_comm], ?_, ?_⟩
        · rw [← Hm.out, Int.pow_succ, Int.ediv_ediv_of_nonneg (by exact_mod_cast Nat.zero_le _)]
        · rw [digs, Hm.out]; exact hown2
        · exact (hb.alloc hbs _).grown hg2 (by simp; omega) (fun g hg => by simp [Value.ownBlock] at hg; omega)
      case measure => simp [intOf]; omega
    · obtain rfl : k = 4 := by omega
      have hsl := Hown.out.sl_of (digs_length 4 n)
      have hc8 : 4 ≤ c1 := by have := hsl.1; rw [digs_length] at this; exact this
      obtain ⟨b, off, cs, rfl, hok, hbw, rfl, hc⟩ := hsl.at_ 0 (by rw [digs_length]; omega)
      have c0 := hc 0 _ rfl
      simp only [digs, List.getElem_cons_zero, KB, Nat.zero_mul, Nat.add_zero] at c0
      have hcvA : ∀ x0, (convert 120 9 (.slice (some ⟨wr.heap.size, 0, none⟩) 1 1)).run Tryd.prog (wr.alloc (.cells #[.int .u8 x0] 5)).drew = .ok (.string (strOfNums [x0])) (wr.alloc (.cells #[.int .u8 x0] 5)).drew := fun x0 => conv_lit wr.drew [x0] (by simp)
      have hcells : ∀ i, i < 3 → wr.cell? ⟨b, off + 1 + i, none⟩ = some (.int .u8 ((digs 3 n).getD i 0)) := by
        intro i hi
        obtain ⟨b', off', cs', e', _, _, hcs', hc'⟩ := hsl.at_ (i + 1) (by rw [digs_length]; omega)
        cases e'
        obtain rfl : cs' = _ := hcs'
        have := hc' 0 _ rfl
        rw [show off + 1 + i = off + (i + 1) * KB.sz + 0 from by simp [KB]; omega, this]
        simp only [digs, List.getElem_cons_succ]
        rw [List.getD_eq_getElem?_getD, List.getElem?_eq_getElem (by simp [digs]; omega)]
        rfl
      have hcvB : ∀ W : World, (∀ i, i < 3 → W.cell? ⟨b, off + 1 + i, none⟩ = wr.cell? ⟨b, off + 1 + i, none⟩) → (convert 120 9 (.slice (some ⟨b, off + 1, none⟩) 3 (c1 - 1))).run Tryd.prog W = .ok (.string (strOfNums (digs 3 n))) W := fun W hW =>
        run_convert_bytes_arg W 120 5 Tryd.underlying120 Tryd.underlying5 b (off + 1) 3 (c1 - 1) (digs 3 n) (digs_length 3 n) (fun i hi => (hW i hi).trans (hcells i hi)) 9 Tryd.underlying9
      have hcvB1 := hcvB wr.drew (fun _ _ => rfl)
      have hcvB2 : ∀ o, (convert 120 9 (.slice (some ⟨b, off + 1, none⟩) 3 (c1 - 1))).run Tryd.prog (wr.alloc o).drew = .ok (.string (strOfNums (digs 3 n))) (wr.alloc o).drew := fun o => hcvB (wr.alloc o).drew (fun i _ => by show (wr.alloc o).cell? _ = _; exact World.cell?_alloc_lt _ _ _ hbw)
      have hne : ¬ c1 = 1 := by omega
      have z0 : ∀ x, (strOfNums [x]).size = 1 := fun x => strOfNums_size _
      have z1 : (strOfNums (digs 3 n)).size = 3 := by rw [strOfNums_size, digs_length]
      clear hc hsl hcells hcvB
      go_wp2
      go_region
      go_wp2
      go_ret2
      go_light
      refine ⟨?_, below_drewN' (below_alloc' hb _) 1⟩
      have hfin : strOfNums [n / 16777216 % 256 + 128] ++ strOfNums (digs 3 n) = strOfNums (pfx n) := by
        rw [strOfNums_append, pfx4 h0 h1]
        congr 1
        simp only [digs, List.cons_append, List.nil_append, List.cons.injEq, and_true]
        simp only [Int.reducePow, Int.ediv_one]
        omega
      rw [← hfin]
      rfl

set_option maxRecDepth 100000 in
set_option maxHeartbeats 1000000 in
theorem rput8_any (n : Int) (h0 : 1073741824 ≤ n) (h1 : n < 4611686018427387904) (w : World) :
    Calls Tryd.prog 167 #[.int .u64 n] w fun e w' => e = .returned (.tuple #[.string (strOfNums (pfx n)), .int .i64 0]) ∧ Below w.heap.size w w' := by
  have hs : psize n = 8 := by unfold psize; (repeat' split) <;> omega
  have Hs := Lib.hid hs
  clear hs
  go_enter Tryd.func167, Tryd.ntmps167
  go_wp2_with (go_at_call 177; refine (rsize_any n _).mono ?_; rintro e w' ⟨rfl, rfl⟩; rw [Hs.out])
  go_loopw [0, 5, 6] (fun m v i wr => ∃ k : Nat, ∃ A1 c1, k ≤ 8 ∧ i = .int .i64 k ∧ m = .int .u64 (n / 256 ^ k) ∧ v = .slice A1 k c1 ∧ OwnL KB 5 (newB w) wr v (digs k n) ∧ Below w.heap.size w wr) (fun _ _ i _ => 8 - (intOf i).toNat)
  case atStart => exact ⟨0, some ⟨w.heap.size, 0, none⟩, 0, by omega, rfl, by simp, rfl, OwnL.empty _ _ _ (Nat.le_refl _), (Below.refl _ _).alloc (Nat.le_refl _) _⟩
  case round =>
    obtain ⟨k, A1, c1, hk, rfl, rfl, rfl, hown, hb⟩ := hrel
    have Hown := Lib.hid hown
    clear hown
    have hbs := hb.size
    by_cases hlt : k < 8
    · have hd0 : 0 ≤ n / 256 ^ k := Int.ediv_nonneg (by omega) (Int.pow_nonneg (by decide))
      have hd1 : n / 256 ^ k < 4611686018427387904 := by have := Int.ediv_le_self (256 ^ k) (show 0 ≤ n by omega); omega
      generalize hm : n / 256 ^ k = m at *
      have Hm := Lib.hid hm
      have hsl : SL KB (fun b => newB w b ∧ (Value.slice (some ⟨wr.heap.size, 0, none⟩) 1 1).ownBlock ≠ some b) wr A1 c1 (digs k n) := by
        exact (Hown.out.sl_of (digs_length k n)).mono fun b hb hl => ⟨hb, fun e => by simp [Value.ownBlock] at e; omega⟩
      have Hsl := Lib.hid hsl
      clear hsl
      clear hm
      go_wp2_with (at_builtin; refine wpList_extend KB _ rfl _ _ _ rfl 5 _ 1 Tryd.underlying120 info5 rfl (by decide) (by decide) (newB w) (.slice (some ⟨wr.heap.size, 0, none⟩) 1 1) [m % 256] (digs k n) rfl (OwnL.byte wr _ hbs) 1 rfl k (digs_length k n) A1 c1 rfl (Hsl.out.alloc _) (by simp [newB]; omega) (by omega) ?_; intro A3 c3 w2 hown2 hg2 hat2)
      go_roundw
      case rel =>
        refine ⟨k + 1, A3, c3, by omega, by go_num, ?_, by rw [Nat.add_comm], ?_, ?_⟩
        · rw [← Hm.out, Int.pow_succ, Int.ediv_ediv_of_nonneg (by exact_mod_cast Nat.zero_le _)]
        · rw [digs, Hm.out]; exact hown2
        · exact (hb.alloc hbs _).grown hg2 (by simp; omega) (fun g hg => by simp [Value.ownBlock] at hg; omega)
      case measure => simp [intOf]; omega
    · obtain rfl : k = 8 := by omega
      have hsl := Hown.out.sl_of (digs_length 8 n)
      have hc8 : 8 ≤ c1 := by have := hsl.1; rw [digs_length] at this; exact this
      obtain ⟨b, off, cs, rfl, hok, hbw, rfl, hc⟩ := hsl.at_ 0 (by rw [digs_length]; omega)
      have c0 := hc 0 _ rfl
      simp only [digs, List.getElem_cons_zero, KB, Nat.zero_mul, Nat.add_zero] at c0
      have hcvA : ∀ x0, (convert 120 9 (.slice (some ⟨wr.heap.size, 0, none⟩) 1 1)).run Tryd.prog (wr.alloc (.cells #[.int .u8 x0] 5)).drew = .ok (.string (strOfNums [x0])) (wr.alloc (.cells #[.int .u8 x0] 5)).drew := fun x0 => conv_lit wr.drew [x0] (by simp)
      have hcells : ∀ i, i < 7 → wr.cell? ⟨b, off + 1 + i, none⟩ = some (.int .u8 ((digs 7 n).getD i 0)) := by
        intro i hi
        obtain ⟨b', off', cs', e', _, _, hcs', hc'⟩ := hsl.at_ (i + 1) (by rw [digs_length]; omega)
        cases e'
        obtain rfl : cs' = _ := hcs'
        have := hc' 0 _ rfl
        rw [show off + 1 + i = off + (i + 1) * KB.sz + 0 from by simp [KB]; omega, this]
        simp only [digs, List.getElem_cons_succ]
        rw [List.getD_eq_getElem?_getD, List.getElem?_eq_getElem (by simp [digs]; omega)]
        rfl
      have hcvB : ∀ W : World, (∀ i, i < 7 → W.cell? ⟨b, off + 1 + i, none⟩ = wr.cell? ⟨b, off + 1 + i, none⟩) → (convert 120 9 (.slice (some ⟨b, off + 1, none⟩) 7 (c1 - 1))).run Tryd.prog W = .ok (.string (strOfNums (digs 7 n))) W := fun W hW =>
        run_convert_bytes_arg W 120 5 Tryd.underlying120 Tryd.underlying5 b (off + 1) 7 (c1 - 1) (digs 7 n) (digs_length 7 n) (fun i hi => (hW i hi).trans (hcells i hi)) 9 Tryd.underlying9
      have hcvB1 := hcvB wr.drew (fun _ _ => rfl)
      have hcvB2 : ∀ o, (convert 120 9 (.slice (some ⟨b, off + 1, none⟩) 7 (c1 - 1))).run Tryd.prog (wr.alloc o).drew = .ok (.string (strOfNums (digs 7 n))) (wr.alloc o).drew := fun o => hcvB (wr.alloc o).drew (fun i _ => by show (wr.alloc o).cell? _ = _; exact World.cell?_alloc_lt _ _ _ hbw)
      have hne : ¬ c1 = 1 := by omega
      have z0 : ∀ x, (strOfNums [x]).size = 1 := fun x => strOfNums_size _
      have z1 : (strOfNums (digs 7 n)).size = 7 := by rw [strOfNums_size, digs_length]
      clear hc hsl hcells hcvB
      go_wp2
      go_region
      go_wp2
      go_ret2
      go_light
      refine ⟨?_, below_drewN' (below_alloc' hb _) 1⟩
      have hfin : strOfNums [n / 72057594037927936 % 256 + 192] ++ strOfNums (digs 7 n) = strOfNums (pfx n) := by
        rw [strOfNums_append, pfx8 h0]
        congr 1
        simp only [digs, List.cons_append, List.nil_append, List.cons.injEq, and_true]
        simp only [Int.reducePow, Int.ediv_one]
        omega
      rw [← hfin]
      rfl

set_option maxRecDepth 100000 in
set_option maxHeartbeats 1000000 in
theorem rput1_any (n : Int) (h0 : 0 ≤ n) (h1 : n < 64) (w : World) :
    Calls Tryd.prog 167 #[.int .u64 n] w fun e w' => e = .returned (.tuple #[.string (strOfNums (pfx n)), .int .i64 0]) ∧ Below w.heap.size w w' := by
  have hs : psize n = 1 := by unfold psize; (repeat' split) <;> omega
  have Hs := Lib.hid hs
  clear hs
  go_enter Tryd.func167, Tryd.ntmps167
  go_wp2_with (go_at_call 177; refine (rsize_any n _).mono ?_; rintro e w' ⟨rfl, rfl⟩; rw [Hs.out])
  go_loopw [0, 5, 6] (fun m v i wr => ∃ k : Nat, ∃ A1 c1, k ≤ 1 ∧ i = .int .i64 k ∧ m = .int .u64 (n / 256 ^ k) ∧ v = .slice A1 k c1 ∧ OwnL KB 5 (newB w) wr v (digs k n) ∧ Below w.heap.size w wr) (fun _ _ i _ => 1 - (intOf i).toNat)
  case atStart => exact ⟨0, some ⟨w.heap.size, 0, none⟩, 0, by omega, rfl, by simp, rfl, OwnL.empty _ _ _ (Nat.le_refl _), (Below.refl _ _).alloc (Nat.le_refl _) _⟩
  case round =>
    obtain ⟨k, A1, c1, hk, rfl, rfl, rfl, hown, hb⟩ := hrel
    have Hown := Lib.hid hown
    clear hown
    have hbs := hb.size
    by_cases hlt : k < 1
    · have hd0 : 0 ≤ n / 256 ^ k := Int.ediv_nonneg (by omega) (Int.pow_nonneg (by decide))
      have hd1 : n / 256 ^ k < 4611686018427387904 := by have := Int.ediv_le_self (256 ^ k) (show 0 ≤ n by omega); omega
      generalize hm : n / 256 ^ k = m at *
      have Hm := Lib.hid hm
      have hsl : SL KB (fun b => newB w b ∧ (Value.slice (some ⟨wr.heap.size, 0, none⟩) 1 1).ownBlock ≠ some b) wr A1 c1 (digs k n) := by
        exact (Hown.out.sl_of (digs_length k n)).mono fun b hb hl => ⟨hb, fun e => by simp [Value.ownBlock] at e; omega⟩
      have Hsl := Lib.hid hsl
      clear hsl
      clear hm
      go_wp2_with (at_builtin; refine wpList_extend KB _ rfl _ _ _ rfl 5 _ 1 Tryd.underlying120 info5 rfl (by decide) (by decide) (newB w) (.slice (some ⟨wr.heap.size, 0, none⟩) 1 1) [m % 256] (digs k n) rfl (OwnL.byte wr _ hbs) 1 rfl k (digs_length k n) A1 c1 rfl (Hsl.out.alloc _) (by simp [newB]; omega) (by omega) ?_; intro A3 c3 w2 hown2 hg2 hat2)
      go_roundw
      case rel =>
        refine ⟨k + 1, A3, c3, by omega, by go_num, ?_, by rw [Nat.add_comm], ?_, ?_⟩
        · rw [← Hm.out, Int.pow_succ, Int.ediv_ediv_of_nonneg (by exact_mod_cast Nat.zero_le _)]
        · rw [digs, Hm.out]; exact hown2
        · exact (hb.alloc hbs _).grown hg2 (by simp; omega) (fun g hg => by simp [Value.ownBlock] at hg; omega)
      case measure => simp [intOf]; omega
    · obtain rfl : k = 1 := by omega
      have hsl := Hown.out.sl_of (digs_length 1 n)
      have hc8 : 1 ≤ c1 := by have := hsl.1; rw [digs_length] at this; exact this
      obtain ⟨b, off, cs, rfl, hok, hbw, rfl, hc⟩ := hsl.at_ 0 (by rw [digs_length]; omega)
      have c0 := hc 0 _ rfl
      simp only [digs, List.getElem_cons_zero, KB, Nat.zero_mul, Nat.add_zero] at c0
      have hcvA : ∀ x0, (convert 120 9 (.slice (some ⟨wr.heap.size, 0, none⟩) 1 1)).run Tryd.prog (wr.alloc (.cells #[.int .u8 x0] 5)).drew = .ok (.string (strOfNums [x0])) (wr.alloc (.cells #[.int .u8 x0] 5)).drew := fun x0 => conv_lit wr.drew [x0] (by simp)
      have hcvB : ∀ (W : World) (o c : Nat), (convert 120 9 (.slice (some ⟨b, o, none⟩) 0 c)).run Tryd.prog W = .ok (.string (strOfNums [])) W := fun W o c =>
        run_convert_bytes_arg W 120 5 Tryd.underlying120 Tryd.underlying5 b o 0 c [] rfl (fun i hi => by omega) 9 Tryd.underlying9
      have z0 : ∀ x, (strOfNums [x]).size = 1 := fun x => strOfNums_size _
      have z1 : (strOfNums []).size = 0 := rfl
      clear hc hsl
      have hfin : strOfNums [n] ++ strOfNums [] = strOfNums (pfx n) := by
        rw [strOfNums_append, pfx1 h1]; rfl
      have hn : n / 256 ^ 0 % 256 = n := by simp only [Int.pow_zero, Int.ediv_one]; omega
      rw [hn] at c0
      clear hn
      by_cases hne : c1 = 1
      all_goals
        go_wp2
        go_region
        go_wp2
        go_ret2
        go_light
        refine ⟨?_, below_drewN' (below_alloc' hb _) 1⟩
        rw [← hfin]
        rfl

theorem rput_any (n : Int) (h0 : 0 ≤ n) (h1 : n < 4611686018427387904) (w : World) :
    Calls Tryd.prog 167 #[.int .u64 n] w fun e w' => e = .returned (.tuple #[.string (strOfNums (pfx n)), .int .i64 0]) ∧ Below w.heap.size w w' := by
  by_cases a : n < 64
  · exact rput1_any n h0 a w
  by_cases b : n < 16384
  · exact rput2_any n (by omega) b w
  by_cases c : n < 1073741824
  · exact rput4_any n (by omega) c w
  · exact rput8_any n (by omega) h1 w

end Go.Proofs.YthdnoljmiehegaaDoor
