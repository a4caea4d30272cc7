/- WHAT IS PROVED HERE: prefix: a number's bytes, as the program and as the reference lay them. -/
import Derived.Test.YthdnoljmiehegaaDoorRow
set_option linter.unusedVariables false
set_option linter.unusedSimpArgs false
namespace Go.Proofs.YthdnoljmiehegaaDoor
open Go.RowKit

/-- The table 'bits' stands in its variable. -/
def Bits (w : World) : Prop := ∃ t fr, w.heap[0]? = some (.cells #[.int .u64 6, .int .u64 14, .int .u64 30, .int .u64 62] t fr)
theorem Bits.below {w w' : World} (h : Bits w) (hb : Below w.heap.size w w') : Bits w' := by
  obtain ⟨t, fr, e⟩ := h
  have : 0 < w.heap.size := by
    rcases Nat.lt_or_ge 0 w.heap.size with hl | hl
    · exact hl
    · rw [Array.getElem?_eq_none hl] at e; cases e
  exact ⟨t, fr, (hb.block 0 this).trans e⟩

def spell (n : Int) : Int := if n < 64 then 0 else if n < 16384 then 1 else if n < 1073741824 then 2 else if n < 4611686018427387904 then 3 else 4

set_option maxRecDepth 100000 in
set_option maxHeartbeats 1000000 in
theorem spelling_any (n : Int) (h0 : 0 ≤ n) (h1 : n < 18446744073709551616) (w : World) (hG : Bits w) :
    Calls Tryd.prog 187 #[.int .u64 n] w fun e w' => e = .returned (.int .i64 (spell n)) ∧ w = w' := by
  obtain ⟨t, fr, hg⟩ := hG
  have i0 : ∀ w, (Instr.index 280 (.agg #[.int .u64 6, .int .u64 14, .int .u64 30, .int .u64 62]) (.int .i64 0)).run Tryd.prog w = .ok (.int .u64 6) w := fun _ => by kernel_rfl
  have i1 : ∀ w, (Instr.index 280 (.agg #[.int .u64 6, .int .u64 14, .int .u64 30, .int .u64 62]) (.int .i64 1)).run Tryd.prog w = .ok (.int .u64 14) w := fun _ => by kernel_rfl
  have i2 : ∀ w, (Instr.index 280 (.agg #[.int .u64 6, .int .u64 14, .int .u64 30, .int .u64 62]) (.int .i64 2)).run Tryd.prog w = .ok (.int .u64 30) w := fun _ => by kernel_rfl
  have i3 : ∀ w, (Instr.index 280 (.agg #[.int .u64 6, .int .u64 14, .int .u64 30, .int .u64 62]) (.int .i64 3)).run Tryd.prog w = .ok (.int .u64 62) w := fun _ => by kernel_rfl
  have Hg := Lib.hid hg
  clear hg
  go_enter Tryd.func187, Tryd.ntmps187
  go_wp2_with (refine wpList_load_row rfl 280 _ rfl 0 rfl t _ fr _ Hg.out Tryd.underlying280 rfl (by kernel_rfl) ?_)
  refine wp_loop_rounds 5 ?_
  rw [rounds_succ]
  go_wp2
  · (go_ret; refine ⟨ret_int ?_, rfl⟩; go_light; simp only [beq_iff_eq, beq_eq_false_iff_ne] at *; simp only [spell]; (repeat' split) <;> omega)
  rw [rounds_succ]
  go_wp2
  · (go_ret; refine ⟨ret_int ?_, rfl⟩; go_light; simp only [beq_iff_eq, beq_eq_false_iff_ne] at *; simp only [spell]; (repeat' split) <;> omega)
  rw [rounds_succ]
  go_wp2
  · (go_ret; refine ⟨ret_int ?_, rfl⟩; go_light; simp only [beq_iff_eq, beq_eq_false_iff_ne] at *; simp only [spell]; (repeat' split) <;> omega)
  rw [rounds_succ]
  go_wp2
  · (go_ret; refine ⟨ret_int ?_, rfl⟩; go_light; simp only [beq_iff_eq, beq_eq_false_iff_ne] at *; simp only [spell]; (repeat' split) <;> omega)
  rw [rounds_succ]
  go_wp2
  (go_ret; refine ⟨ret_int ?_, rfl⟩; go_light; simp only [beq_iff_eq, beq_eq_false_iff_ne] at *; simp only [spell]; (repeat' split) <;> omega)

theorem spell_bd (n : Int) : 0 ≤ spell n ∧ spell n ≤ 4 := by unfold spell; (repeat' split) <;> omega

/-- How many bytes. -/
def psize (n : Int) : Int := if n < 64 then 1 else if n < 16384 then 2 else if n < 1073741824 then 4 else if n < 4611686018427387904 then 8 else 0

set_option maxRecDepth 100000 in
theorem size_any (n : Int) (h0 : 0 ≤ n) (h1 : n < 18446744073709551616) (w : World) (hG : Bits w) :
    Calls Tryd.prog 186 #[.int .u64 n] w fun e w' => e = .returned (.int .i64 (psize n)) ∧ w = w' := by
  have hs := spell_bd n
  go_enter Tryd.func186, Tryd.ntmps186
  go_wp2_with (go_at_call 187; refine (spelling_any n h0 h1 _ hG).mono ?_; rintro e w' ⟨rfl, rfl⟩)
  all_goals
    go_ret
    refine ⟨ret_int ?_, rfl⟩
    go_light
    unfold psize
    (try unfold spell)
    (repeat' split) <;> first | omega | (simp [wrap64]; done)

theorem or64 (n c : Int) (i : Nat) (h0 : 0 ≤ n) (h1 : n < 2 ^ i) (h2 : 0 ≤ c) (h3 : c % 2 ^ i = 0) (h4 : c < 2 ^ 64) (h5 : n < 2 ^ 64) : bits .or .u64 n c = n + c := by
  have hk : ∀ n : Int, 0 ≤ n → n < 2 ^ 64 → IntKind.u64.wrap n = n := by
    intro n a b
    simp [IntKind.wrap, IntKind.bits, IntKind.signed]
    omega
  have e := bits_join .u64 64 (by decide) hk i c n h2 h3 h4 h0 h1 h5
  obtain ⟨a, rfl⟩ := Int.eq_ofNat_of_zero_le h0
  obtain ⟨b, rfl⟩ := Int.eq_ofNat_of_zero_le h2
  have ha : a < 2 ^ 64 := by exact_mod_cast h5
  have hb : b < 2 ^ 64 := by exact_mod_cast h4
  rw [(bits_nat .u64 64 (by decide) hk b a hb ha).2] at e
  rw [(bits_nat .u64 64 (by decide) hk a b ha hb).2, Nat.or_comm, e, Int.add_comm]

/-- '[]byte' of a new row as a string. -/
theorem conv_lit (w : World) (xs : List Int) (hl : xs.length ≤ 1000) : (convert 120 9 (.slice (some ⟨w.heap.size, 0, none⟩) xs.length xs.length)).run Tryd.prog (w.alloc (.cells (xs.map (Value.int .u8)).toArray 5)) = .ok (.string (strOfNums xs)) (w.alloc (.cells (xs.map (Value.int .u8)).toArray 5)) := by
  refine run_convert_bytes_arg _ 120 5 Tryd.underlying120 Tryd.underlying5 w.heap.size 0 xs.length xs.length xs rfl (fun i hi => ?_) 9 Tryd.underlying9
  rw [(Blk.new w 5 _).cell]
  simp [List.getElem?_eq_getElem hi]

/-- A number's bytes. -/
def pfx (n : Int) : List Int :=
  if n < 64 then [n]
  else if n < 16384 then [(n + 16384) / 256, (n + 16384) % 256]
  else if n < 1073741824 then [(n + 2147483648) / 16777216, (n + 2147483648) / 65536 % 256, (n + 2147483648) / 256 % 256, (n + 2147483648) % 256]
  else [(n + 13835058055282163712) / 72057594037927936, (n + 13835058055282163712) / 281474976710656 % 256, (n + 13835058055282163712) / 1099511627776 % 256, (n + 13835058055282163712) / 4294967296 % 256, (n + 13835058055282163712) / 16777216 % 256, (n + 13835058055282163712) / 65536 % 256, (n + 13835058055282163712) / 256 % 256, (n + 13835058055282163712) % 256]

theorem pfx1 {n : Int} (h1 : n < 64) : pfx n = [n] := by unfold pfx; rw [if_pos h1]
theorem pfx2 {n : Int} (h0 : 64 ≤ n) (h1 : n < 16384) : pfx n = [(n + 16384) / 256, (n + 16384) % 256] := by unfold pfx; rw [if_neg (by omega), if_pos h1]
theorem pfx4 {n : Int} (h0 : 16384 ≤ n) (h1 : n < 1073741824) : pfx n = [(n + 2147483648) / 16777216, (n + 2147483648) / 65536 % 256, (n + 2147483648) / 256 % 256, (n + 2147483648) % 256] := by unfold pfx; rw [if_neg (by omega), if_neg (by omega), if_pos h1]
theorem pfx8 {n : Int} (h0 : 1073741824 ≤ n) : pfx n = [(n + 13835058055282163712) / 72057594037927936, (n + 13835058055282163712) / 281474976710656 % 256, (n + 13835058055282163712) / 1099511627776 % 256, (n + 13835058055282163712) / 4294967296 % 256, (n + 13835058055282163712) / 16777216 % 256, (n + 13835058055282163712) / 65536 % 256, (n + 13835058055282163712) / 256 % 256, (n + 13835058055282163712) % 256] := by unfold pfx; rw [if_neg (by omega), if_neg (by omega), if_neg (by omega)]

set_option maxRecDepth 100000 in
set_option maxHeartbeats 1000000 in
theorem put1_any (n : Int) (h0 : 0 ≤ n) (h1 : n < 64) (w : World) (hG : Bits w) :
    Calls Tryd.prog 179 #[.int .u64 n] w fun e w' => e = .returned (.tuple #[.string (strOfNums (pfx n)), .int .i64 0]) ∧ Below w.heap.size w w' := by
  have hs : psize n = 1 := by unfold psize; (repeat' split) <;> omega
  have hp : spell n = 0 := by unfold spell; (repeat' split) <;> omega
  have Hs := Lib.hid hs
  have Hp := Lib.hid hp
  clear hs hp
  have hmk : ∀ w, (Instr.makeSlice 120 (.int .i64 1) (.int .i64 1)).run Tryd.prog w = .ok (.slice (some ⟨w.heap.size, 0, none⟩) 1 1) (w.alloc (.cells #[.int .u8 0] 5)) := fun _ => by kernel_rfl
  have hor := or64 n 0 6 (by omega) (by omega) (by omega) (by decide) (by decide) (by omega)
  have hcv := fun x0 => conv_lit w [x0] (by simp)
  simp only [List.length_cons, List.length_nil, List.map_cons, List.map_nil] at hcv
  go_enter Tryd.func179, Tryd.ntmps179
  go_wp2_with (first | (go_at_call 187; refine (spelling_any n (by omega) (by omega) _ hG).mono ?_; rintro e w' ⟨rfl, rfl⟩; rw [Hp.out]) | (go_at_call 186; refine (size_any n (by omega) (by omega) _ hG).mono ?_; rintro e w' ⟨rfl, rfl⟩; rw [Hs.out]))
  refine wp_loop_rounds 2 ?_
  iterate 2 (rw [rounds_succ]; go_wp2)
  go_ret2
  go_light
  refine ⟨?_, (Below.refl _ _).alloc (Nat.le_refl _) _⟩
  rw [pfx1 h1]
  rfl

set_option maxRecDepth 100000 in
set_option maxHeartbeats 1000000 in
theorem put2_any (n : Int) (h0 : 64 ≤ n) (h1 : n < 16384) (w : World) (hG : Bits w) :
    Calls Tryd.prog 179 #[.int .u64 n] w fun e w' => e = .returned (.tuple #[.string (strOfNums (pfx n)), .int .i64 0]) ∧ Below w.heap.size w w' := by
  have hs : psize n = 2 := by unfold psize; (repeat' split) <;> omega
  have hp : spell n = 1 := by unfold spell; (repeat' split) <;> omega
  have Hs := Lib.hid hs
  have Hp := Lib.hid hp
  clear hs hp
  have hmk : ∀ w, (Instr.makeSlice 120 (.int .i64 2) (.int .i64 2)).run Tryd.prog w = .ok (.slice (some ⟨w.heap.size, 0, none⟩) 2 2) (w.alloc (.cells #[.int .u8 0, .int .u8 0] 5)) := fun _ => by kernel_rfl
  have hor := or64 n 16384 14 (by omega) (by omega) (by omega) (by decide) (by decide) (by omega)
  have hcv := fun x0 x1 => conv_lit w [x0, x1] (by simp)
  simp only [List.length_cons, List.length_nil, List.map_cons, List.map_nil] at hcv
  go_enter Tryd.func179, Tryd.ntmps179
  go_wp2_with (first | (go_at_call 187; refine (spelling_any n (by omega) (by omega) _ hG).mono ?_; rintro e w' ⟨rfl, rfl⟩; rw [Hp.out]) | (go_at_call 186; refine (size_any n (by omega) (by omega) _ hG).mono ?_; rintro e w' ⟨rfl, rfl⟩; rw [Hs.out]))
  refine wp_loop_rounds 3 ?_
  iterate 3 (rw [rounds_succ]; go_wp2)
  go_ret2
  go_light
  refine ⟨?_, (Below.refl _ _).alloc (Nat.le_refl _) _⟩
  rw [pfx2 h0 h1]
  rfl

set_option maxRecDepth 100000 in
set_option maxHeartbeats 1000000 in
theorem put4_any (n : Int) (h0 : 16384 ≤ n) (h1 : n < 1073741824) (w : World) (hG : Bits w) :
    Calls Tryd.prog 179 #[.int .u64 n] w fun e w' => e = .returned (.tuple #[.string (strOfNums (pfx n)), .int .i64 0]) ∧ Below w.heap.size w w' := by
  have hs : psize n = 4 := by unfold psize; (repeat' split) <;> omega
  have hp : spell n = 2 := by unfold spell; (repeat' split) <;> omega
  have Hs := Lib.hid hs
  have Hp := Lib.hid hp
  clear hs hp
  have hmk : ∀ w, (Instr.makeSlice 120 (.int .i64 4) (.int .i64 4)).run Tryd.prog w = .ok (.slice (some ⟨w.heap.size, 0, none⟩) 4 4) (w.alloc (.cells #[.int .u8 0, .int .u8 0, .int .u8 0, .int .u8 0] 5)) := fun _ => by kernel_rfl
  have hor := or64 n 2147483648 30 (by omega) (by omega) (by omega) (by decide) (by decide) (by omega)
  have hcv := fun x0 x1 x2 x3 => conv_lit w [x0, x1, x2, x3] (by simp)
  simp only [List.length_cons, List.length_nil, List.map_cons, List.map_nil] at hcv
  go_enter Tryd.func179, Tryd.ntmps179
  go_wp2_with (first | (go_at_call 187; refine (spelling_any n (by omega) (by omega) _ hG).mono ?_; rintro e w' ⟨rfl, rfl⟩; rw [Hp.out]) | (go_at_call 186; refine (size_any n (by omega) (by omega) _ hG).mono ?_; rintro e w' ⟨rfl, rfl⟩; rw [Hs.out]))
  refine wp_loop_rounds 5 ?_
  iterate 5 (rw [rounds_succ]; go_wp2)
  go_ret2
  go_light
  refine ⟨?_, (Below.refl _ _).alloc (Nat.le_refl _) _⟩
  rw [pfx4 h0 h1]
  rfl

set_option maxRecDepth 100000 in
set_option maxHeartbeats 1000000 in
theorem put8_any (n : Int) (h0 : 1073741824 ≤ n) (h1 : n < 4611686018427387904) (w : World) (hG : Bits w) :
    Calls Tryd.prog 179 #[.int .u64 n] w fun e w' => e = .returned (.tuple #[.string (strOfNums (pfx n)), .int .i64 0]) ∧ Below w.heap.size w w' := by
  have hs : psize n = 8 := by unfold psize; (repeat' split) <;> omega
  have hp : spell n = 3 := by unfold spell; (repeat' split) <;> omega
  have Hs := Lib.hid hs
  have Hp := Lib.hid hp
  clear hs hp
  have hmk : ∀ w, (Instr.makeSlice 120 (.int .i64 8) (.int .i64 8)).run Tryd.prog w = .ok (.slice (some ⟨w.heap.size, 0, none⟩) 8 8) (w.alloc (.cells #[.int .u8 0, .int .u8 0, .int .u8 0, .int .u8 0, .int .u8 0, .int .u8 0, .int .u8 0, .int .u8 0] 5)) := fun _ => by kernel_rfl
  have hor := or64 n 13835058055282163712 62 (by omega) (by omega) (by omega) (by decide) (by decide) (by omega)
  have hcv := fun x0 x1 x2 x3 x4 x5 x6 x7 => conv_lit w [x0, x1, x2, x3, x4, x5, x6, x7] (by simp)
  simp only [List.length_cons, List.length_nil, List.map_cons, List.map_nil] at hcv
  go_enter Tryd.func179, Tryd.ntmps179
  go_wp2_with (first | (go_at_call 187; refine (spelling_any n (by omega) (by omega) _ hG).mono ?_; rintro e w' ⟨rfl, rfl⟩; rw [Hp.out]) | (go_at_call 186; refine (size_any n (by omega) (by omega) _ hG).mono ?_; rintro e w' ⟨rfl, rfl⟩; rw [Hs.out]))
  refine wp_loop_rounds 9 ?_
  iterate 9 (rw [rounds_succ]; go_wp2)
  go_ret2
  go_light
  refine ⟨?_, (Below.refl _ _).alloc (Nat.le_refl _) _⟩
  rw [pfx8 h0]
  rfl

theorem put_any (n : Int) (h0 : 0 ≤ n) (h1 : n < 4611686018427387904) (w : World) (hG : Bits w) :
    Calls Tryd.prog 179 #[.int .u64 n] w fun e w' => e = .returned (.tuple #[.string (strOfNums (pfx n)), .int .i64 0]) ∧ Below w.heap.size w w' := by
  by_cases a : n < 64
  · exact put1_any n h0 a w hG
  by_cases b : n < 16384
  · exact put2_any n (by omega) b w hG
  by_cases c : n < 1073741824
  · exact put4_any n (by omega) c w hG
  · exact put8_any n (by omega) h1 w hG

end Go.Proofs.YthdnoljmiehegaaDoor
