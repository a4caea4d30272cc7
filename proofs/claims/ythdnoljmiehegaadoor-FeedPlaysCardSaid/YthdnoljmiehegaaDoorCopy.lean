/- WHAT IS PROVED HERE: slices.Clone of updates and round.Copy hand back the same updates in new memory. -/
import Derived.Test.YthdnoljmiehegaaDoorBase
set_option linter.unusedVariables false
set_option linter.unusedSimpArgs false
namespace Go.Proofs.YthdnoljmiehegaaDoor
open Go.RowKit

set_option maxRecDepth 100000 in
set_option maxHeartbeats 400000 in
theorem clone_any (us : List Upd) (A : Option Addr) (c : Nat) (w : World) (h : SL KU anyB w A c us) (hb : us.length * 48 ≤ 140737488355328) :
    Calls Tryd.prog 138 #[.slice A us.length c] w fun e w' => ∃ A' c', e = .returned (.slice A' us.length c') ∧ SL KU (newB w) w' A' c' us ∧ Below w.heap.size w w' := by
  have he := fun w0 => Lib.run_eql_slice_nil (P := Tryd.prog) w0 36 46 A us.length c 0 0 Tryd.underlying36
  rcases A with _ | ad
  · have h0 : us.length = 0 := by
      rcases Nat.eq_zero_or_pos us.length with h0 | h0
      · exact h0
      · obtain ⟨_, _, _, e, _⟩ := h.2.2 h0; cases e
    obtain rfl := List.eq_nil_of_length_eq_zero h0
    clear he
    have he := fun w0 => Lib.run_eql_slice_nil (P := Tryd.prog) w0 36 46 none 0 c 0 0 Tryd.underlying36
    go_enter Tryd.func138, Tryd.ntmps138
    go_wp2
    go_ret
    exact ⟨none, 0, rfl, SL.nil _ _ _, Below.refl _ _⟩
  · obtain ⟨news, hsrc, henc⟩ := Src.of_sl (h.alloc (.cells #[] 46))
    go_enter Tryd.func138, Tryd.ntmps138
    have hown0 : Own (w.alloc (.cells #[] 46)) 46 4 (.slice (some ⟨w.heap.size, 0, none⟩) 0 0) 0 [] := ⟨rfl, .inr ⟨_, 0, 0, _, rfl, Blk.new _ _ _, Nat.le_refl _, Nat.zero_le _, by simp, rfl⟩⟩
    have Hown0 := Lib.hid hown0
    have Hsrc := Lib.hid hsrc
    have Henc := Lib.hid henc
    clear hown0 hsrc henc
    go_wp2_with (at_builtin; refine wpList_append_gen _ rfl _ _ _ rfl 46 _ 4 48 Tryd.underlying36 info46 rfl (by decide) (by decide) (.slice (some ⟨w.heap.size, 0, none⟩) 0 0) 0 [] rfl Hown0.out (some ad) us.length c news rfl Hsrc.out (by omega) ?_; intro v1 w1 hown hg hat)
    go_ret
    simp only [Nat.zero_add, List.nil_append] at hown
    have hB : Below w.heap.size w w1 := ((Below.refl _ _).alloc (Nat.le_refl _) _).grown hg (by simp) (by intro k hk; simp [Value.ownBlock] at hk; omega)
    have hblk : ∀ b, v1.ownBlock = some b → w.heap.size ≤ b := by
      intro b hb1
      rcases hat with e | e <;> rw [e] at hb1 <;> simp [Value.ownBlock] at hb1 <;> omega
    have henc' : Enc KU (newB w) w1 news us := Henc.out.flat KU.flat
    obtain ⟨A', c', rfl, hsl⟩ := Own.sl (K := KU) (ok := newB w) hown henc' hblk
    exact ⟨A', c', rfl, hsl, hB⟩

theorem copy_any (r : Rnd) (A : Option Addr) (c : Nat) (w : World) (h : SL KU anyB w A c r.us) (hb : r.us.length * 48 ≤ 140737488355328) :
    Calls Tryd.prog 105 #[.agg #[.int .i64 r.o, .int .i64 r.n, .slice A r.us.length c]] w fun e w' => ∃ A' c', e = .returned (.agg #[.int .i64 r.o, .int .i64 r.n, .slice A' r.us.length c']) ∧ SL KU (newB w) w' A' c' r.us ∧ Below w.heap.size w w' := by
  obtain ⟨o, n, us⟩ := r
  have Hb := Lib.hid hb
  clear hb
  go_enter Tryd.func105, Tryd.ntmps105
  go_wp2_with (go_at_call 138; refine (clone_any us A c _ ((h.alloc _).alloc _) Hb.out).mono ?_; rintro e w1 ⟨A', c', rfl, hsl, hb1⟩; obtain ⟨c0, f0, z0⟩ := (((Blk.new w 38 _).alloc _).below hb1).rules; obtain ⟨c1, f1, z1⟩ := ((Blk.new (w.alloc _) 38 _).below hb1).rules; simp only [World.size_alloc] at c1 f1 z1)
  refine bodyPost_ret (v := .agg #[.int .i64 o, .int .i64 n, .slice A' us.length c']) (by simp [results, Tryd.results105, go_sem, c1, z1]) rfl ⟨A', c', rfl, ?_, ?_⟩
  · refine ((((hsl.setCell ?_ _).setCell ?_ _).setCell ?_ _).setCell ?_ _).mono ?_
    all_goals (simp only [newB, World.size_alloc]; omega)
  · exact (((((((Below.refl _ _).alloc (Nat.le_refl _) _).alloc (by simp) _).trans (hb1.mono (by simp; omega))).setCell (by simp) _).setCell (by simp) _).setCell (by simp) _).setCell (by simp) _

end Go.Proofs.YthdnoljmiehegaaDoor
