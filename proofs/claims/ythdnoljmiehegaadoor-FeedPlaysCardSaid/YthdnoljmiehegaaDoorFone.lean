/- WHAT IS PROVED HERE: the round that deletes k (one); plain facts on three of them, told to a link of two. -/
import Derived.Test.YthdnoljmiehegaaDoorFobj
set_option linter.unusedVariables false
set_option linter.unusedSimpArgs false
namespace Go.Proofs.YthdnoljmiehegaaDoor
open Go.RowKit

def oneU : Upd := ⟨⟨#[107]⟩, 5, 0, ByteArray.empty⟩
def oneR (n : Int) : Rnd := ⟨1, n, [oneU]⟩
set_option maxHeartbeats 1000000 in
theorem one_any (n : Int) (w : World) :
    Calls Tryd.prog 93 #[.int .i64 n] w fun e w' => ∃ g, e = .returned (.agg #[.int .i64 1, .int .i64 n, .slice (some ⟨g, 0, none⟩) 1 1]) ∧ SL KU (newB w) w' (some ⟨g, 0, none⟩) 1 [oneU] ∧ Below w.heap.size w w' := by
  go_enter Tryd.func93, Tryd.ntmps93
  go_wp2
  refine bodyPost_ret (v := .agg #[.int .i64 1, .int .i64 n, .slice (some ⟨w.heap.size + 1, 0, none⟩) 1 1]) (by simp [results, Tryd.results93, go_sem]) rfl ⟨_, rfl, ?_, ?_⟩
  · have hk := Blk.new (w.alloc (.cells #[.int .i64 1, .int .i64 n, .slice (some ⟨w.heap.size + 1, 0, none⟩) 1 1] 38)) 46 #[.string ⟨#[107]⟩, .int .i64 5, .int .i64 0, .string ⟨#[]⟩]
    rw [World.size_alloc] at hk
    refine ⟨Nat.le_refl _, by decide, fun _ => ⟨w.heap.size + 1, 0, #[.string ⟨#[107]⟩, .int .i64 5, .int .i64 0, .string ⟨#[]⟩].toList, rfl, ?_, hk.lt, ?_, fun j u hu => ?_⟩⟩
    · show w.heap.size ≤ w.heap.size + 1; omega
    · refine Enc.single (K := KU) (x := oneU) ?_
      show _ = _
      rfl
    · rw [hk.cell]; simpa using hu
  · exact ((Below.refl _ _).alloc (Nat.le_refl _) _).alloc (by simp) _

theorem oneU_may : oneU.may = 0 := by
  have hs : (oneU.key.size : Int) = 1 := rfl
  have he : oneU.s.toList.isEmpty = true := (toList_isEmpty _).2 rfl
  unfold Upd.may
  rw [hs, he]
  rfl
theorem oneR_may (n : Int) (h1 : 1 ≤ n) (h2 : n ≤ 1099511627776) : (oneR n).may = 0 := by
  have hb : inB n 1 1099511627776 = true := by simp [inB]; omega
  unfold Rnd.may
  rw [if_pos ⟨rfl, hb, rfl⟩]
  simp [oneR, mayAll, oneU_may]

def ones : Nat → Lg
  | 0 => Lg.new 1
  | n + 1 => (ones n).add (oneR (n + 1))
theorem ones_eq : ∀ n : Nat, n ≤ 3 → ones n = ⟨1, (List.range n).map fun i : Nat => oneR ((i : Int) + 1)⟩
  | 0, _ => rfl
  | n + 1, h => by
    have ih := ones_eq n (by omega)
    have hc : cnt 1 ((List.range n).map fun i : Nat => oneR ((i : Int) + 1)) = n := by
      unfold cnt
      rw [List.filter_eq_self.2 (by simp [oneR])]
      simp
    have he : (ones n).err (oneR (n + 1)) = 0 := by
      rw [ih]
      unfold Lg.err
      rw [if_neg (by rw [oneR_may _ (by omega) (by omega)]; simp), if_neg (by simp [oneR])]
      have e : (oneR ((n : Int) + 1)).o = 1 := rfl
      have e2 : (oneR ((n : Int) + 1)).n = n + 1 := rfl
      simp only [e, e2, hc]
      simp
    show (ones n).add _ = _
    unfold Lg.add
    rw [if_pos he, ih, List.range_succ]
    simp
theorem ones3 : (ones 3).l = [oneR 1, oneR 2, oneR 3] := by rw [ones_eq 3 (by omega)]; rfl

def k0 : LS := LS.anew 2 2 true 1
def b1 : ByteArray := bRnd (oneR 1)
def b2 : ByteArray := bRnd (oneR 2)
def b3 : ByteArray := bRnd (oneR 3)
def k1 : LS := k0.more [b1, b2]
def k2 : LS := { k1 with s := { k1.s with acked := 1 } }
def k3 : LS := k2.more [b3]
theorem awk1 : pumpGo ((ones 3).l.drop 0) k0 = (2, k1) := by
  rw [ones3, pumpGo_eq _ _ (SS.new_ok _ _) (by simp [k0, LS.anew, SS.new, clampI])]
  have : k0.room' = 2 := rfl
  rw [this]; rfl
theorem awk2 : k1.hear ⟨1, 0, 1, ByteArray.empty⟩ = k2 := by
  have : k1.epoch = 1 := rfl
  unfold LS.hear
  rw [if_neg (by rw [this]; simp), if_pos this]
  rfl
theorem k1_ok : k1.s.Ok := by
  have := more_ok (k := k0) ((ones 3).l.drop 0) (SS.new_ok _ _)
  rwa [awk1] at this
theorem k2_ok : k2.s.Ok := by
  have := SS.ack_ok k1_ok 1
  exact this
theorem awk3 : pumpGo ((ones 3).l.drop 2) k2 = (1, k3) := by
  rw [ones3, pumpGo_eq _ _ k2_ok (by simp [k2, k1, k0, LS.more, LS.anew, SS.new, clampI])]
  have : k2.room' = 1 := rfl
  rw [this]; rfl
theorem awk4 : k3.frames = [⟨1, 2, 0, b2⟩, ⟨1, 3, 0, b3⟩] := by
  have he : k3.epoch = 1 := rfl
  have hp : k3.ps = [⟨2, b2⟩, ⟨3, b3⟩] := rfl
  unfold LS.frames
  rw [if_neg (by rw [he]; simp), if_neg (by rw [hp]; simp), hp]
  rfl

end Go.Proofs.YthdnoljmiehegaaDoor
