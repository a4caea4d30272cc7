/- WHAT IS PROVED HERE: the reference's bytes of numbers, texts, updates and rounds. -/
import Derived.Test.YthdnoljmiehegaaDoorZig
import Derived.Test.YthdnoljmiehegaaDoorRpfx
import Derived.Test.YthdnoljmiehegaaDoorVal3
set_option linter.unusedVariables false
set_option linter.unusedSimpArgs false
namespace Go.Proofs.YthdnoljmiehegaaDoor
open Go.RowKit

def bNum (n : Int) : ByteArray := strOfNums (pfx n)
def bText (s : ByteArray) : ByteArray := bNum s.size ++ s
def bNumIf (c : Prop) [Decidable c] (b : ByteArray) : ByteArray := if c then b else ByteArray.empty
def bUpd (u : Upd) : ByteArray :=
  if u.kind = 1 ∨ u.kind = 3 then bNum u.kind ++ bText u.key ++ bNum (zig u.n)
  else if u.kind = 2 ∨ u.kind = 4 then bNum u.kind ++ bText u.key ++ bText u.s
  else bNum u.kind ++ bText u.key
def bUpds : List Upd → ByteArray
  | [] => ByteArray.empty
  | u :: l => bUpd u ++ bUpds l
def bRnd (r : Rnd) : ByteArray := bNum r.o ++ bNum r.n ++ bNum r.us.length ++ bUpds r.us

theorem bNum_size (n : Int) : (bNum n).size ≤ 8 := by
  unfold bNum
  rw [strOfNums_size]
  unfold pfx
  (repeat' split) <;> simp
theorem bText_size (s : ByteArray) : (bText s).size ≤ 8 + s.size := by
  have := bNum_size s.size
  unfold bText
  rw [ByteArray.size_append]
  omega
theorem may_sizes {u : Upd} (h : u.may = 0) : u.key.size ≤ 16 ∧ 1 ≤ u.key.size ∧ u.s.size ≤ 32 ∧ 1 ≤ u.kind ∧ u.kind ≤ 5 ∧ -2305843009213693952 ≤ u.n ∧ u.n < 2305843009213693952 := by
  have hs := nil_or u.s
  have he : u.s.toList.isEmpty = false ↔ u.s.toList ≠ [] := by simp
  unfold Upd.may at h
  split at h
  · cases h
  split at h
  · split at h
    · cases h
    · split at h
      · cases h
      · rename_i h1 h2 h3 h4
        rw [he] at h3
        rcases hs with ⟨a, b⟩ | ⟨a, b⟩
        · omega
        · exact absurd a h3
  split at h
  · split at h
    · cases h
    · split at h
      · cases h
      · omega
  split at h
  · split at h
    · cases h
    · rename_i h1 h2 h3 h4 h5
      rw [he] at h5
      rcases hs with ⟨a, b⟩ | ⟨a, b⟩
      · omega
      · exact absurd (.inr a) h5
  · cases h
theorem bUpd_size {u : Upd} (h : u.may = 0) : (bUpd u).size ≤ 72 := by
  obtain ⟨h1, h2, h3, h4, h5, _⟩ := may_sizes h
  have a := bNum_size u.kind
  have b := bText_size u.key
  have c := bNum_size (zig u.n)
  have d := bText_size u.s
  unfold bUpd
  (repeat' split) <;> simp only [ByteArray.size_append] <;> omega
theorem bUpds_append (l m : List Upd) : bUpds (l ++ m) = bUpds l ++ bUpds m := by
  induction l with
  | nil => simp [bUpds]
  | cons u l ih => simp only [List.cons_append, bUpds, ih, ByteArray.append_assoc]
theorem mayAll_mem : ∀ {l : List Upd}, mayAll l = 0 → ∀ u ∈ l, u.may = 0
  | u :: l, h, v, hv => by
    unfold mayAll at h
    split at h
    · rcases List.mem_cons.1 hv with rfl | hv
      · assumption
      · exact mayAll_mem h v hv
    · exact absurd h (by assumption)
theorem bUpds_size : ∀ {l : List Upd}, (∀ u ∈ l, u.may = 0) → (bUpds l).size ≤ 72 * l.length
  | [], _ => by simp [bUpds]
  | u :: l, h => by
    have := bUpds_size fun v hv => h v (List.mem_cons_of_mem _ hv)
    have := bUpd_size (h u (List.mem_cons_self ..))
    simp only [bUpds, ByteArray.size_append, List.length_cons]
    omega

theorem rNum_any (n : Int) (h0 : 0 ≤ n) (h1 : n < 4611686018427387904) (w : World) :
    Calls Tryd.prog 148 #[.int .i64 n] w fun e w' => e = .returned (.tuple #[.string (bNum n), .bool true]) ∧ Below w.heap.size w w' := by
  go_enter Tryd.func148, Tryd.ntmps148
  go_wp2_with (go_at_call 167; refine (rput_any n h0 h1 _).mono ?_; rintro e w1 ⟨rfl, hb1⟩)
  go_ret2
  exact ⟨rfl, hb1⟩

theorem rText_any (s : ByteArray) (h1 : s.size ≤ 100000) (w : World) :
    Calls Tryd.prog 168 #[.string s] w fun e w' => e = .returned (.string (bText s)) ∧ Below w.heap.size w w' := by
  have hz := bNum_size s.size
  have hz0 : 0 ≤ (bNum s.size).size := Nat.zero_le _
  go_enter Tryd.func168, Tryd.ntmps168
  go_wp2_with (go_at_call 148; refine (rNum_any s.size (by omega) (by omega) _).mono ?_; rintro e w1 ⟨rfl, hb1⟩)
  go_ret
  exact ⟨rfl, hb1⟩

theorem rSigned_any (n : Int) (h0 : -2305843009213693952 ≤ n) (h1 : n < 2305843009213693952) (w : World) :
    Calls Tryd.prog 169 #[.int .i64 n] w fun e w' => e = .returned (.tuple #[.string (bNum (zig n)), .bool true]) ∧ Below w.heap.size w w' := by
  have hz : 0 ≤ zig n ∧ zig n < 4611686018427387904 := by unfold zig; split <;> omega
  go_enter Tryd.func169, Tryd.ntmps169
  go_wp2_with (first | (go_at_call 178; refine (rzig_any n h0 h1 _).mono ?_; rintro e w1 ⟨rfl, rfl⟩) | (go_at_call 167; refine (rput_any _ hz.1 hz.2 _).mono ?_; rintro e w1 ⟨rfl, hb1⟩))
  go_ret2
  exact ⟨rfl, hb1⟩

end Go.Proofs.YthdnoljmiehegaaDoor
