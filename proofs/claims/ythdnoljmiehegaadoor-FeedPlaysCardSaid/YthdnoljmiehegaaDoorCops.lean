/- WHAT IS PROVED HERE: 'copies' (client, model) hands back the same rounds, in new memory that nobody else holds. -/
import Derived.Test.YthdnoljmiehegaaDoorRow
import Derived.Test.YthdnoljmiehegaaDoorCopy
set_option linter.unusedVariables false
set_option linter.unusedSimpArgs false
namespace Go.Proofs.YthdnoljmiehegaaDoor
open Go.RowKit

/-- No update list of these rounds is longer than is played. -/
def Mod20 (l : List Rnd) : Prop := ∀ r ∈ l, r.us.length ≤ 1000

set_option maxRecDepth 100000 in
set_option maxHeartbeats 1000000 in
theorem copies_any (l : List Rnd) (A : Option Addr) (c : Nat) (w : World) (h : SL KR anyB w A c l) (hl : l.length ≤ 100000) (hm : Mod20 l) :
    Calls Tryd.prog 120 #[.slice A l.length c] w fun e w' => ∃ A' c', e = .returned (.slice A' l.length c') ∧ OwnL KR 38 (newB w) w' (.slice A' l.length c') l ∧ Below w.heap.size w w' := by
  have Hm := Lib.hid hm
  clear hm
  go_enter Tryd.func120, Tryd.ntmps120
  go_wp2
  go_loopw [3, 8] (fun v i wr => ∃ k : Nat, ∃ A1 c1, k ≤ l.length ∧ i = .int .i64 k ∧ v = .slice A1 k c1 ∧ OwnL KR 38 (newB w) wr v (l.take k) ∧ Below w.heap.size w wr) (fun _ i _ => l.length - (intOf i).toNat)
  case atStart => exact ⟨0, none, 0, Nat.zero_le _, rfl, rfl, OwnL.nil _ _ _ _, Below.refl _ _⟩
  case round =>
    obtain ⟨k, A1, c1, hk, rfl, rfl, hown, hb⟩ := hrel
    by_cases hlt : k < l.length
    · obtain ⟨b, off, A', c', rfl, _, hbw, d0, d1, d2, hsl⟩ := (h.below hb).rnd k hlt
      have hus : l[k].us.length ≤ 1000 := Hm.out _ (List.getElem_mem hlt)
      generalize hr : l[k] = r at d0 d1 d2 hsl hus
      have Hr := Lib.hid hr
      have Hown := Lib.hid hown
      clear hr hown
      have hbs := hb.size
      go_wp2_with (first
        | (go_at_call 105; refine (copy_any r A' c' _ (hsl.alloc _) (by omega)).mono ?_; rintro e w1 ⟨A2, c2, rfl, hsl2, hb1⟩)
        | (at_builtin; refine wpList_push KR _ rfl _ _ _ rfl 38 _ 40 Tryd.underlying30 info38 rfl (by decide) (by decide) (newB w) (.slice A1 k c1) (l.take k) rfl (((Hown.out.alloc _).below hb1).alloc _) k (by rw [List.length_take]; omega) w1.heap.size r 38 _ rfl (Blk.new w1 38 _) (el_of Hown.out hsl2 (by simp) (fun b hb => by simp only [newB, World.size_alloc] at hb ⊢; omega) _) (by have := hb1.size; simp only [newB, World.size_alloc] at this ⊢; omega) (by omega) ?_; intro A3 c3 w2 hown2 hg2 hat2))
      go_roundw
      case rel =>
        refine ⟨k + 1, A3, c3, by omega, by go_num, rfl, ?_, ?_⟩
        · rw [List.take_succ_eq_append_getElem hlt, Hr.out]; exact hown2
        · exact ((below_then' hb (box_then hb1)).alloc (by have := hb1.size; simp at this; omega) _).grown hg2 (by have := hb1.size; simp at this ⊢; omega) (fun g hg => Hown.out.ok_ g hg)
      case measure => simp [intOf]; omega
    · obtain rfl : k = l.length := by omega
      rw [List.take_length] at hown
      go_wp2
      go_ret
      exact ⟨A1, c1, rfl, hown, hb⟩

set_option maxRecDepth 100000 in
set_option maxHeartbeats 1000000 in
theorem mcopies_any (l : List Rnd) (A : Option Addr) (c : Nat) (w : World) (h : SL KR anyB w A c l) (hl : l.length ≤ 100000) (hm : Mod20 l) :
    Calls Tryd.prog 80 #[.slice A l.length c] w fun e w' => ∃ A' c', e = .returned (.slice A' l.length c') ∧ OwnL KR 38 (newB w) w' (.slice A' l.length c') l ∧ Below w.heap.size w w' := by
  have Hm := Lib.hid hm
  clear hm
  go_enter Tryd.func80, Tryd.ntmps80
  go_wp2
  go_loopw [3, 8] (fun v i wr => ∃ k : Nat, ∃ A1 c1, k ≤ l.length ∧ i = .int .i64 k ∧ v = .slice A1 k c1 ∧ OwnL KR 38 (newB w) wr v (l.take k) ∧ Below w.heap.size w wr) (fun _ i _ => l.length - (intOf i).toNat)
  case atStart => exact ⟨0, none, 0, Nat.zero_le _, rfl, rfl, OwnL.nil _ _ _ _, Below.refl _ _⟩
  case round =>
    obtain ⟨k, A1, c1, hk, rfl, rfl, hown, hb⟩ := hrel
    by_cases hlt : k < l.length
    · obtain ⟨b, off, A', c', rfl, _, hbw, d0, d1, d2, hsl⟩ := (h.below hb).rnd k hlt
      have hus : l[k].us.length ≤ 1000 := Hm.out _ (List.getElem_mem hlt)
      generalize hr : l[k] = r at d0 d1 d2 hsl hus
      have Hr := Lib.hid hr
      have Hown := Lib.hid hown
      clear hr hown
      have hbs := hb.size
      go_wp2_with (first
        | (go_at_call 105; refine (copy_any r A' c' _ (hsl.alloc _) (by omega)).mono ?_; rintro e w1 ⟨A2, c2, rfl, hsl2, hb1⟩)
        | (at_builtin; refine wpList_push KR _ rfl _ _ _ rfl 38 _ 40 Tryd.underlying30 info38 rfl (by decide) (by decide) (newB w) (.slice A1 k c1) (l.take k) rfl (((Hown.out.alloc _).below hb1).alloc _) k (by rw [List.length_take]; omega) w1.heap.size r 38 _ rfl (Blk.new w1 38 _) (el_of Hown.out hsl2 (by simp) (fun b hb => by simp only [newB, World.size_alloc] at hb ⊢; omega) _) (by have := hb1.size; simp only [newB, World.size_alloc] at this ⊢; omega) (by omega) ?_; intro A3 c3 w2 hown2 hg2 hat2))
      go_roundw
      case rel =>
        refine ⟨k + 1, A3, c3, by omega, by go_num, rfl, ?_, ?_⟩
        · rw [List.take_succ_eq_append_getElem hlt, Hr.out]; exact hown2
        · exact ((below_then' hb (box_then hb1)).alloc (by have := hb1.size; simp at this; omega) _).grown hg2 (by have := hb1.size; simp at this ⊢; omega) (fun g hg => Hown.out.ok_ g hg)
      case measure => simp [intOf]; omega
    · obtain rfl : k = l.length := by omega
      rw [List.take_length] at hown
      go_wp2
      go_ret
      exact ⟨A1, c1, rfl, hown, hb⟩

end Go.Proofs.YthdnoljmiehegaaDoor
