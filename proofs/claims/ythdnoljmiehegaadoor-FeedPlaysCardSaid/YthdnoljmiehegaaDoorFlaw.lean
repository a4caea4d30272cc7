/- WHAT IS PROVED HERE: plain facts on the feed as data: how many rounds a pump tells, and what the link has then. -/
import Derived.Test.YthdnoljmiehegaaDoorFeed2
set_option linter.unusedVariables false
set_option linter.unusedSimpArgs false
namespace Go.Proofs.YthdnoljmiehegaaDoor
open Go.RowKit

def LS.more (k : LS) (m : List ByteArray) : LS := { k with s := { k.s with all := k.s.all ++ m } }
def LS.room' (k : LS) : Nat := (k.s.window - ((k.s.all.length : Int) - k.s.acked)).toNat
theorem LS.more_nil (k : LS) : k.more [] = k := by simp [LS.more]
theorem LS.more_more (k : LS) (a b : List ByteArray) : (k.more a).more b = k.more (a ++ b) := by simp [LS.more]
theorem LS.offer_more {k : LS} (d : ByteArray) (h : k.s.err = 0) : k.offer d = k.more [d] := by
  unfold LS.offer SS.offer LS.more
  rw [if_pos h]
theorem pumpGo_eq : ∀ (l : List Rnd) (k : LS), k.s.Ok → (k.s.all.length : Int) + l.length < k.s.last →
    pumpGo l k = (min l.length k.room', k.more ((l.take (min l.length k.room')).map bRnd))
  | [], k, _, _ => by simp [pumpGo, LS.more_nil]
  | r :: l, k, hok, hl => by
    have a1 := hok.a1; have a3 := hok.a3
    simp only [List.length_cons] at hl
    by_cases he : k.s.err = 0
    · have hr : k.s.window > (k.s.all.length : Int) - k.s.acked := by
        unfold SS.err at he
        split at he
        · omega
        · omega
      have hok2 : (k.offer (bRnd r)).s.Ok := SS.offer_ok hok _
      rw [LS.offer_more _ he] at hok2
      have hal : (k.more [bRnd r]).s.all.length = k.s.all.length + 1 := by simp [LS.more]
      have hrm : (k.more [bRnd r]).room' + 1 = k.room' := by
        unfold LS.room'
        rw [hal]
        show (k.s.window - (((k.s.all.length + 1 : Nat) : Int) - k.s.acked)).toNat + 1 = _
        omega
      have ih := pumpGo_eq l (k.more [bRnd r]) hok2 (by rw [hal]; show _ < k.s.last; omega)
      simp only [pumpGo]
      rw [if_pos he, LS.offer_more _ he, ih]
      have hmin : min (l.length + 1) k.room' = min l.length (k.more [bRnd r]).room' + 1 := by omega
      simp only [List.length_cons]
      rw [hmin, LS.more_more]
      simp
    · have hr : k.room' = 0 := by
        unfold SS.err at he
        unfold LS.room'
        split at he
        · omega
        · split at he
          · omega
          · exact absurd rfl he
      simp only [pumpGo]
      rw [if_neg he, hr]
      simp [LS.more_nil]
theorem more_ok {k : LS} (l : List Rnd) (hok : k.s.Ok) : (pumpGo l k).2.s.Ok := by
  induction l generalizing k with
  | nil => exact hok
  | cons r l ih =>
    simp only [pumpGo]
    split
    · exact ih (SS.offer_ok hok _)
    · exact hok
theorem pumpGo_len {k : LS} (l : List Rnd) : (pumpGo l k).1 ≤ l.length := by
  induction l generalizing k with
  | nil => exact Nat.le_refl _
  | cons r l ih =>
    simp only [pumpGo]
    split
    · have := @ih (k.offer (bRnd r)); simp; omega
    · simp
/-- What a pump adds is no more than a window. -/
theorem pumpGo_all {k : LS} (l : List Rnd) (hok : k.s.Ok) : (pumpGo l k).2.s.all.length ≤ k.s.all.length + 16 := by
  have h2 : (pumpGo l k).2.s.acked = k.s.acked ∧ (pumpGo l k).2.s.window = k.s.window := by
    clear hok
    induction l generalizing k with
    | nil => exact ⟨rfl, rfl⟩
    | cons r l ih =>
      simp only [pumpGo]
      split
      · have := @ih (k.offer (bRnd r))
        have e : (k.offer (bRnd r)).s.acked = k.s.acked ∧ (k.offer (bRnd r)).s.window = k.s.window := by
          unfold LS.offer SS.offer
          simp only
          split <;> exact ⟨rfl, rfl⟩
        exact ⟨this.1.trans e.1, this.2.trans e.2⟩
      · exact ⟨rfl, rfl⟩
  have h3 := more_ok l hok
  have := h3.a3; have := h3.w2; have := hok.a1
  rw [h2.1] at *
  omega

end Go.Proofs.YthdnoljmiehegaaDoor
