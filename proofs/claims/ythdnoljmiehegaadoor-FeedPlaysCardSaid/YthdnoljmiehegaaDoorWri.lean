/- WHAT IS PROVED HERE: the Builder in a pack.Writer: its copy check, WriteString, String. -/
import Derived.Test.YthdnoljmiehegaaDoorRpfx
import Derived.Lib.Builder
import Derived.Lib.UnsafeStr
import Derived.Lib.AppendStr
set_option linter.unusedVariables false
set_option linter.unusedSimpArgs false
namespace Go.Proofs.YthdnoljmiehegaaDoor
open Go.RowKit

/-- A Writer in block g that holds the bytes bs and has nothing wrong; its buffer lies in block q (none: it has none). -/
def IsW (w : World) (g : Nat) (q : Option Nat) (bs : ByteArray) : Prop :=
  ∃ p v, Blk w g 229 #[p, v, .bool false] ∧ (p = .pointer none ∨ p = .pointer (some ⟨g, 0, none⟩)) ∧ w.ownsRow 0 5 1 v bs.size (Lib.strCells bs) ∧ v.ownBlock = q

/-- Where the kit's law on 'append(b, s...)' leaves the new row. -/
theorem str_lies {P : Program} (w : World) (t u ty e : TypeId) (i : TypeInfo) (ht : P.underlying t = some (.slice e)) (hu : P.underlying u = some .string) (hi : P.info? e = some i) (hz : i.zero = some (.int .u8 0))
    (hsize : i.size = 1) (hby : i.bytes = 1) (v : Value) (n : Nat) (xs : List Value) (hown : w.ownsRow 0 e 1 v n xs) (s : ByteArray) (hlen : n + s.size ≤ 1000000) :
    ∃ A c w', (Builtin.append_ #[t, u] ty #[v, .string s]).run P w = .ok (.slice A (n + s.size) c) w' ∧ w'.ownsRow 0 e 1 (.slice A (n + s.size) c) (n + s.size) (xs ++ Lib.strCells s) ∧ w.grownBy w' v.ownBlock ∧
      ∀ b, (Value.slice A (n + s.size) c).ownBlock = some b → v.ownBlock = some b ∨ b = w.heap.size := by
  obtain ⟨v', w', hr, h2, h3, h4⟩ := Lib.run_append_own_string (P := P) w 0 t u ty e i ht hu hi hz hsize hby v n xs hown s (by simp only [maxLen]; omega) (by omega) (Nat.zero_le _)
  have hsh : ∃ A c, v' = .slice A (n + s.size) c := by
    rcases h2.2 with ⟨rfl, h0⟩ | ⟨g, cap, cur, rfl, _⟩
    · exact ⟨none, 0, by rw [h0]⟩
    · exact ⟨_, cap, rfl⟩
  have hat : ∀ b, v'.ownBlock = some b → v.ownBlock = some b ∨ b = w.heap.size := by
    rcases hown.2 with ⟨rfl, rfl⟩ | ⟨g, cap, cur, rfl, hbg, hg, hnc, hcm, hcs, htake⟩
    · by_cases hm : s.size = 0
      · have := h4.2 ⟨rfl, hm⟩
        subst this
        intro b hb
        simp [Value.ownBlock] at hb
      · have hr' := run_append_nil_string (P := P) w t u ty e i (.int .u8 0) ht hu hi hz s (by omega) (by omega) (by rw [hby]; omega)
        rw [hr'] at hr
        injection hr with e1 e2
        subst e1
        intro b hb
        right
        simpa [Value.ownBlock] using hb.symm
    · by_cases hroom : n + s.size ≤ cap
      · have hr' := Lib.run_append_room_string (P := P) w t u ty e i ht hu hi hsize g n cap cur hg s hroom (by omega)
        rw [hr'] at hr
        injection hr with e1 e2
        subst e1
        intro b hb
        left
        simpa [Value.ownBlock] using hb
      · have holds : ∀ j u, xs[j]? = some u → w.cell? ((⟨g, 0, none⟩ : Addr).add j) = some u := hown.cells (g := g) rfl
        have hr' := Lib.run_append_grow_string (P := P) w t u ty e i (.int .u8 0) ht hu hi hz ⟨g, 0, none⟩ n cap xs (by rw [hsize]; exact hown.1) holds s (by omega) (by omega) (by rw [hby]; exact growslice_fits (by omega) (by omega))
        rw [hr'] at hr
        injection hr with e1 e2
        subst e1
        intro b hb
        right
        simpa [Value.ownBlock] using hb.symm
  obtain ⟨A, c, rfl⟩ := hsh
  exact ⟨A, c, w', hr, h2, h3, hat⟩
theorem wpList_str_lies {P : Program} (w : World) {ops : Array Oper} {rest : List Oper} {o : Oper} {a : Act} {Q : Exit → Act → World → Prop} (hgd : o.guard = none) (sl x : Operand) (t u : TypeId)
    (ho : o.op = .call { callee := .builtin .append, args := #[sl, x], argTypes := #[t, u] })
    (e : TypeId) (ht : P.underlying t = some (.slice e)) (hu : P.underlying u = some .string) (hinfo : (P.info? e).map (fun i => (i.zero, i.size, i.bytes)) = some (some (.int .u8 0), 1, 1))
    (v : Value) (n : Nat) (xs : List Value) (hs : a.eval sl = v) (hown : w.ownsRow 0 e 1 v n xs) (s : ByteArray) (hx : a.eval x = .string s) (hlen : n + s.size ≤ 1000000)
    (h : ∀ A c w', w'.ownsRow 0 e 1 (.slice A (n + s.size) c) (n + s.size) (xs ++ Lib.strCells s) → w.grownBy w' v.ownBlock → (∀ b, (Value.slice A (n + s.size) c).ownBlock = some b → v.ownBlock = some b ∨ b = w.heap.size) → wpList P ops Q rest (a.put o.dst (.slice A (n + s.size) c)) w') : wpList P ops Q (o :: rest) a w := by
  obtain ⟨i0, hi, hz0, hz1, hz2⟩ := info_parts hinfo
  refine wpList_plain hgd fun K hK => ?_
  obtain ⟨A, c, w', hr, h2, h3, h4⟩ := str_lies (P := P) w t u o.type e i0 ht hu hi hz0 hz1 hz2 v n xs hown s hlen
  unfold Oper.wp execOp
  simp only [ho, resolve, invoke, builtin, Sem.run_bind, Sem.run_pure, Result.andThen_ok, List.map_toArray, List.map_cons, List.map_nil, hs, hx, hr]
  exact hK _ _ (h A c w' h2 h3 h4)

/-- What a step on the Writer may change, and where its buffer may lie behind it. -/
def WS (g : Nat) (q : Option Nat) : Nat → Prop := fun b => b = g ∨ q = some b
def WQ (w : World) (q q' : Option Nat) : Prop := ∀ b, q' = some b → q = some b ∨ w.heap.size ≤ b

theorem size227 : ∃ j, Tryd.prog.info? 227 = some j ∧ j.size = 2 := by
  have h : (Tryd.prog.info? 227).map (·.size) = some 2 := by kernel_rfl
  obtain ⟨j, h1, h2⟩ := Option.map_eq_some_iff.1 h
  exact ⟨j, h1, h2⟩

set_option maxHeartbeats 1000000 in
set_option maxRecDepth 100000 in
theorem copyCheck_used (g : Nat) (w : World) (v f : Value) (hg : Blk w g 229 #[.pointer (some ⟨g, 0, none⟩), v, f]) :
    Calls Tryd.prog 188 #[.pointer (some ⟨g, 0, none⟩)] w fun e w' => e = .returned (.tuple #[]) ∧ w = w' := by
  obtain ⟨j, hj, _⟩ := size227
  obtain ⟨c0, f0, z0⟩ := hg.rules
  go_enter Tryd.func188, Tryd.ntmps188
  go_wp2
  rw [Lib.run_neq_ptr_same w _ Tryd.underlying225 hj]
  go_wp2
  go_end0
  exact ⟨rfl, rfl⟩

set_option maxHeartbeats 1000000 in
set_option maxRecDepth 100000 in
theorem copyCheck_fresh (g : Nat) (w : World) (v f : Value) (hg : Blk w g 229 #[.pointer none, v, f]) :
    Calls Tryd.prog 188 #[.pointer (some ⟨g, 0, none⟩)] w fun e w' => e = .returned (.tuple #[]) ∧ w' = w.setCell ⟨g, 0, none⟩ (.pointer (some ⟨g, 0, none⟩)) := by
  obtain ⟨j, hj, hjs⟩ := size227
  have hsh : w.shape? g = some (229, 3) := by
    have h := hg
    unfold Blk at h
    simp [World.shape?, h]
  obtain ⟨c0, f0, z0⟩ := hg.rules
  go_enter Tryd.func188, Tryd.ntmps188
  go_wp2
  rw [Lib.run_to_unsafe w ⟨g, 0, none⟩ Tryd.underlying225 Tryd.underlying281 hj (by rw [hjs]; decide) hsh (Nat.zero_lt_succ 2)]
  simp only [Result.andThen]
  rw [Oper.upon_value]
  go_wp2
  rw [run_callFunc_extern Tryd.func189 (by kernel_rfl) (by kernel_rfl) (by kernel_rfl) (e := Extern.AbiNoEscape.same) (by kernel_rfl)]
  rw [Lib.run_noEscape]
  simp only [Result.andThen]
  rw [Oper.upon_value]
  go_wp2
  rw [Lib.run_from_unsafe w ⟨g, 0, none⟩ Tryd.underlying281 Tryd.underlying225 hj hsh (by kernel_rfl)]
  simp only [Result.andThen]
  rw [Oper.upon_value]
  go_wp2
  go_end0
  exact ⟨rfl, rfl⟩

theorem row_other {w : World} {e : TypeId} {v : Value} {n : Nat} {xs : List Value} {g t : Nat} {cs : Array Value} (h : w.ownsRow 0 e 1 v n xs) (hg : Blk w g t cs) (hne : e ≠ t) (i : Nat) (u : Value) : (w.setCell ⟨g, i, none⟩ u).ownsRow 0 e 1 v n xs := by
  refine h.kept (row := some g) ⟨rfl, rfl, rfl, by simp, fun k _ hk => Below.heap_setCell _ _ _ _ (fun e => hk (by rw [e]))⟩ ?_
  right
  rcases h.2 with ⟨rfl, _⟩ | ⟨b, cap, cur, rfl, _, hh, _⟩
  · simp [Value.ownBlock]
  · intro he
    have : b = g := by simpa [Value.ownBlock] using he
    exact (Blk.ne (t := e) (t' := t) hh hg hne) this

theorem copyCheck_any (g : Nat) (q : Option Nat) (w : World) (bs : ByteArray) (h : IsW w g q bs) :
    Calls Tryd.prog 188 #[.pointer (some ⟨g, 0, none⟩)] w fun e w' => e = .returned (.tuple #[]) ∧ (∃ v, Blk w' g 229 #[.pointer (some ⟨g, 0, none⟩), v, .bool false] ∧ w'.ownsRow 0 5 1 v bs.size (Lib.strCells bs) ∧ v.ownBlock = q) ∧ Mod (WS g q) w w' ∧ w.heap.size = w'.heap.size := by
  obtain ⟨p, v, hg, hp, hown, hq⟩ := h
  rcases hp with rfl | rfl
  · refine (copyCheck_fresh g w v _ hg).mono ?_
    rintro e w' ⟨rfl, rfl⟩
    exact ⟨rfl, ⟨v, hg.set 0 _, row_other hown hg (by decide) _ _, hq⟩, (Mod.refl _ w).setCell (p := ⟨g, 0, none⟩) (.inl (.inl rfl)) _, by simp⟩
  · refine (copyCheck_used g w v _ hg).mono ?_
    rintro e w' ⟨rfl, rfl⟩
    exact ⟨rfl, ⟨v, hg, hown, hq⟩, Mod.refl _ _, rfl⟩

theorem strCells_append (a b : ByteArray) : Lib.strCells (a ++ b) = Lib.strCells a ++ Lib.strCells b := by simp [Lib.strCells]

set_option maxHeartbeats 1000000 in
set_option maxRecDepth 100000 in
theorem writeString_any (g : Nat) (q : Option Nat) (w : World) (bs s : ByteArray) (h : IsW w g q bs) (hlen : bs.size + s.size ≤ 100000) :
    Calls Tryd.prog 180 #[.pointer (some ⟨g, 0, none⟩), .string s] w fun e w' => e = .returned (.tuple #[.int .i64 s.size, .nilIface]) ∧ ∃ q', IsW w' g q' (bs ++ s) ∧ Mod (WS g q) w w' ∧ WQ w q q' := by
  go_enter Tryd.func180, Tryd.ntmps180
  go_wp2_with (go_at_call 188; refine (copyCheck_any g q _ bs h).mono ?_)
  rintro e w1 ⟨rfl, ⟨v, hg, hown, rfl⟩, hb1, hsz⟩
  obtain ⟨c0, f0, z0⟩ := hg.rules
  go_wp2_with (at_builtin; refine wpList_str_lies _ rfl _ _ 120 9 rfl 5 Tryd.underlying120 Tryd.underlying9 info5 v bs.size (Lib.strCells bs) rfl hown s rfl (by omega) ?_)
  intro A c w2 hown' hgrow hat
  have hne : v.ownBlock ≠ some g := by
    rcases hown.2 with ⟨rfl, _⟩ | ⟨b, cap, cur, rfl, _, hh, _⟩
    · simp [Value.ownBlock]
    · intro he
      have : b = g := by simpa [Value.ownBlock] using he
      exact (Blk.ne (t := 5) (t' := 229) hh hg (by decide)) this
  have hg2 : Blk w2 g 229 #[.pointer (some ⟨g, 0, none⟩), v, .bool false] := hg.grown hgrow (fun e => hne e.symm)
  clear c0 f0
  obtain ⟨c0, f0, z2⟩ := hg2.rules
  go_wp2
  go_ret2
  refine ⟨rfl, (Value.slice A (bs.size + s.size) c).ownBlock, ⟨_, _, hg2.set 1 _, .inr rfl, ?_, rfl⟩, ?_, ?_⟩
  · rw [ByteArray.size_append, strCells_append]
    exact row_other hown' hg2 (by decide) _ _
  · exact (hb1.grown hgrow (fun b hb => .inl (.inr hb))).setCell (p := ⟨g, 1, none⟩) (.inl (.inl rfl)) _
  · intro b hb
    rcases hat b hb with h1 | h1
    · exact .inl h1
    · exact .inr (by omega)

end Go.Proofs.YthdnoljmiehegaaDoor
