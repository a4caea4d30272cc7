/- WHAT IS PROVED HERE: arguments, as the form's reader reads them, are slices that read as plain lists. -/
import Derived.Test.YthdnoljmiehegaaDoorRow
import Derived.ChangeArms
import Derived.ChangeOld
import Derived.OpenShut
set_option linter.unusedVariables false
set_option linter.unusedSimpArgs false
namespace Go.Proofs.YthdnoljmiehegaaDoor
open Go.RowKit

def oldB (w : World) : Nat → Prop := fun b => b < w.heap.size

section
variable {H : Type} (enc : TypeId × Value → H) (P : Program) (w : World)
/-- Cells of type e, wherever they are read, read as an element of K of which Q holds. -/
def Opens {α : Type} (e : TypeId) (K : Kind α) (Q : α → Prop) : Prop :=
  ∀ fuel cs x, DataW.trod enc P w 0 (fun _ => true) true fuel e cs = some x → ∃ y, K.cs (oldB w) w y cs ∧ Q y
variable {enc P w}

theorem addAdd (a : Addr) (i j : Nat) : (a.add i).add j = a.add (i + j) := by
  unfold Addr.add
  by_cases hi : i = 0
  · subst hi; simp
  · by_cases hj : j = 0
    · subst hj; simp [hi]
    · simp [hi, hj, Nat.add_assoc]

theorem opens_run {α : Type} {K : Kind α} {Q : α → Prop} {e : TypeId} (hc : P.cellsOf e = K.sz) (ho : Opens enc P w e K Q) {a : Addr} {len n : Nat} {elems : List (DataW H × List MemPlace)} (hlen : elems.length = len)
    (hel : ∀ i, i < len → (w.cells? 0 (a.add (i * P.cellsOf e)) (P.cellsOf e)).bind (DataW.trod enc P w 0 (fun _ => true) true n e) = elems[i]?) :
    ∀ m, m ≤ len → ∃ (l : List α) (xs : List Value), l.length = m ∧ Enc K (oldB w) w xs l ∧ (∀ j u, xs[j]? = some u → w.cell? (a.add j) = some u) ∧ ∀ y ∈ l, Q y
  | 0, _ => ⟨[], [], rfl, rfl, by simp, by simp⟩
  | m + 1, hm => by
    obtain ⟨l, xs, h1, h2, h3, h4⟩ := opens_run hc ho hlen hel m (by omega)
    have hb := hel m (by omega)
    rw [List.getElem?_eq_getElem (by omega), Option.bind_eq_some_iff] at hb
    obtain ⟨cs, hcs, hy⟩ := hb
    obtain ⟨y, hy1, hy2⟩ := ho _ _ _ hy
    obtain ⟨_, hl, hcell⟩ := World.cells?_some hcs
    have hxl := h2.length
    refine ⟨l ++ [y], xs ++ cs, by simp [h1], h2.append (Enc.single hy1), fun j u hu => ?_, ?_⟩
    · rw [List.getElem?_append] at hu
      split at hu
      · exact h3 j u hu
      · have hj := (List.getElem?_eq_some_iff.1 hu).1
        have := hcell (j - xs.length) (by omega)
        rw [addAdd, hc] at this
        rw [hxl, h1] at this hu
        rw [show m * K.sz + (j - m * K.sz) = j from by rename_i hn; rw [hxl, h1] at hn; omega] at this
        rw [this, hu]
    · intro z hz
      rcases List.mem_append.1 hz with hz | hz
      · exact h4 z hz
      · obtain rfl := List.mem_singleton.1 hz; exact hy2

theorem opens_slice {α : Type} {K : Kind α} {Q : α → Prop} {t e : TypeId} (ht : P.underlying t = some (.slice e)) (hc : P.cellsOf e = K.sz) (hz : 0 < K.sz) (ho : Opens enc P w e K Q)
    {fuel : Nat} {cs : List Value} {x : DataW H × List MemPlace} (h : DataW.trod enc P w 0 (fun _ => true) true fuel t cs = some x) :
    ∃ A c, ∃ l : List α, cs = [.slice A l.length c] ∧ SL K (oldB w) w A c l ∧ ∀ y ∈ l, Q y := by
  rcases DataW.trod_slice ht h with ⟨rfl, _⟩ | ⟨a, len, cap, elems, rest, n, _, rfl, rfl, hb, hl, hm, hlen, hel, _, _⟩
  · exact ⟨none, 0, [], rfl, SL.nil _ _ _, by simp⟩
  · obtain ⟨l, xs, h1, h2, h3, h4⟩ := opens_run hc ho hlen hel len (Nat.le_refl _)
    subst h1
    refine ⟨some a, cap, l, rfl, ⟨hl, hm, fun hn => ?_⟩, h4⟩
    have hx : 0 < xs.length := by rw [h2.length]; exact Nat.mul_pos hn hz
    have h0 := h3 0 _ (List.getElem?_eq_getElem hx)
    obtain ⟨b, off, sp⟩ := a
    have hsp : sp = none := by
      cases sp with
      | none => rfl
      | some q =>
        exfalso
        simp [Addr.add, World.cell?] at h0
        split at h0 <;> simp_all
    subst hsp
    refine ⟨b, off, xs, rfl, ?_, ?_, h2, fun j u hu => ?_⟩
    · show b < w.heap.size
      simpa [Addr.add] using World.block_lt_of_cell? w _ h0
    · simpa [Addr.add] using World.block_lt_of_cell? w _ h0
    · have := h3 j u hu
      rwa [Addr.add_lit] at this
end


section
variable {H : Type} {enc : TypeId × Value → H} {w : World}
def Upd.Fit (u : Upd) : Prop := u.key.size ≤ maxLen ∧ u.s.size ≤ maxLen
theorem Tryd.c9 : Tryd.prog.cellsOf 9 = 1 := by kernel_rfl
theorem Tryd.c3 : Tryd.prog.cellsOf 3 = 1 := by kernel_rfl
theorem Tryd.c2 : Tryd.prog.cellsOf 2 = 1 := by kernel_rfl
theorem Tryd.c36 : Tryd.prog.cellsOf 36 = 1 := by kernel_rfl
theorem Tryd.c46 : Tryd.prog.cellsOf 46 = 4 := by kernel_rfl
theorem Tryd.c38 : Tryd.prog.cellsOf 38 = 3 := by kernel_rfl
theorem Tryd.c74 : Tryd.prog.cellsOf 74 = 4 := by kernel_rfl
def I64 (n : Int) : Prop := -9223372036854775808 ≤ n ∧ n ≤ 9223372036854775807
theorem I64.of {n : Int} (h : (Lit.int .i64 n).wf = true) : I64 n := by
  simp [Lit.wf, IntKind.min, IntKind.max, IntKind.signed, IntKind.bits] at h
  exact h
theorem read_str {n : Nat} {a : Value} {r : Option (DataW H × List MemPlace)} {y : DataW H × List MemPlace} (h : DataW.trod enc Tryd.prog w 0 (fun _ => true) true n 9 [a] = r) (hr : r = some y) : ∃ s, a = .string s ∧ s.size ≤ maxLen := by
  subst hr
  obtain ⟨s, h1, _, h2⟩ := DataW.trod_string Tryd.underlying9 h
  exact ⟨s, by simpa using h1, h2⟩
theorem read_i3 {n : Nat} {a : Value} {r : Option (DataW H × List MemPlace)} {y : DataW H × List MemPlace} (h : DataW.trod enc Tryd.prog w 0 (fun _ => true) true n 3 [a] = r) (hr : r = some y) : ∃ i, a = .int .i64 i ∧ I64 i := by
  subst hr
  obtain ⟨s, h1, _, h2⟩ := DataW.trod_int Tryd.underlying3 h
  exact ⟨s, by simpa using h1, I64.of h2⟩
theorem read_i2 {n : Nat} {a : Value} {r : Option (DataW H × List MemPlace)} {y : DataW H × List MemPlace} (h : DataW.trod enc Tryd.prog w 0 (fun _ => true) true n 2 [a] = r) (hr : r = some y) : ∃ i, a = .int .i64 i ∧ I64 i := by
  subst hr
  obtain ⟨s, h1, _, h2⟩ := DataW.trod_int Tryd.underlying2 h
  exact ⟨s, by simpa using h1, I64.of h2⟩
theorem nth_some {α : Type} {xs : List α} {i n : Nat} (h : xs.length = n) (hi : i < n) : ∃ y, xs[i]? = some y := ⟨_, List.getElem?_eq_getElem (by omega)⟩
theorem len4 : ∀ {cs : List Value}, cs.length = 4 → ∃ a b c d, cs = [a, b, c, d]
  | [a, b, c, d], _ => ⟨a, b, c, d, rfl⟩
theorem len3 : ∀ {cs : List Value}, cs.length = 3 → ∃ a b c, cs = [a, b, c]
  | [a, b, c], _ => ⟨a, b, c, rfl⟩
theorem len8 : ∀ {cs : List Value}, cs.length = 8 → ∃ a b c d e f g h, cs = [a, b, c, d, e, f, g, h]
  | [a, b, c, d, e, f, g, h], _ => ⟨a, b, c, d, e, f, g, h, rfl⟩
theorem opens_upd : Opens enc Tryd.prog w 46 KU Upd.Fit := by
  intro fuel cs x h
  obtain ⟨xs, n, _, _, hl, hxs, hf⟩ := DataW.trod_struct Tryd.underlying46 h
  rw [Tryd.c46] at hl
  obtain ⟨a, b, c, d, rfl⟩ := len4 hl
  have hxs' : xs.length = 4 := hxs
  have h0 : DataW.trod enc Tryd.prog w 0 (fun _ => true) true n 9 (([a, b, c, d].drop 0).take (Tryd.prog.cellsOf 9)) = xs[0]? := hf 0 _ rfl
  have h1 : DataW.trod enc Tryd.prog w 0 (fun _ => true) true n 3 (([a, b, c, d].drop 1).take (Tryd.prog.cellsOf 3)) = xs[1]? := hf 1 _ rfl
  have h2 : DataW.trod enc Tryd.prog w 0 (fun _ => true) true n 2 (([a, b, c, d].drop 2).take (Tryd.prog.cellsOf 2)) = xs[2]? := hf 2 _ rfl
  have h3 : DataW.trod enc Tryd.prog w 0 (fun _ => true) true n 9 (([a, b, c, d].drop 3).take (Tryd.prog.cellsOf 9)) = xs[3]? := hf 3 _ rfl
  simp only [Tryd.c9, Tryd.c3, Tryd.c2, List.drop_zero, List.take_succ_cons, List.take_zero, List.drop_succ_cons] at h0 h1 h2 h3
  obtain ⟨y0, e0⟩ := nth_some hxs' (i := 0) (by omega)
  obtain ⟨y1, e1⟩ := nth_some hxs' (i := 1) (by omega)
  obtain ⟨y2, e2⟩ := nth_some hxs' (i := 2) (by omega)
  obtain ⟨y3, e3⟩ := nth_some hxs' (i := 3) (by omega)
  obtain ⟨k, rfl, hk⟩ := read_str h0 e0
  obtain ⟨kd, rfl, hkd⟩ := read_i3 h1 e1
  obtain ⟨nn, rfl, hn⟩ := read_i2 h2 e2
  obtain ⟨s, rfl, hs⟩ := read_str h3 e3
  exact ⟨⟨k, kd, nn, s⟩, rfl, hk, hs⟩
def Rnd.Fit (r : Rnd) : Prop := I64 r.o ∧ I64 r.n
theorem opens_rnd : Opens enc Tryd.prog w 38 KR Rnd.Fit := by
  intro fuel cs x h
  obtain ⟨xs, n, _, _, hl, hxs, hf⟩ := DataW.trod_struct Tryd.underlying38 h
  rw [Tryd.c38] at hl
  obtain ⟨a, b, c, rfl⟩ := len3 hl
  have hxs' : xs.length = 3 := hxs
  have h0 : DataW.trod enc Tryd.prog w 0 (fun _ => true) true n 3 (([a, b, c].drop 0).take (Tryd.prog.cellsOf 3)) = xs[0]? := hf 0 _ rfl
  have h1 : DataW.trod enc Tryd.prog w 0 (fun _ => true) true n 3 (([a, b, c].drop 1).take (Tryd.prog.cellsOf 3)) = xs[1]? := hf 1 _ rfl
  have h2 : DataW.trod enc Tryd.prog w 0 (fun _ => true) true n 36 (([a, b, c].drop 2).take (Tryd.prog.cellsOf 36)) = xs[2]? := hf 2 _ rfl
  simp only [Tryd.c36, Tryd.c3, List.drop_zero, List.take_succ_cons, List.take_zero, List.drop_succ_cons] at h0 h1 h2
  obtain ⟨y0, e0⟩ := nth_some hxs' (i := 0) (by omega)
  obtain ⟨y1, e1⟩ := nth_some hxs' (i := 1) (by omega)
  obtain ⟨y2, e2⟩ := nth_some hxs' (i := 2) (by omega)
  obtain ⟨o, rfl, ho⟩ := read_i3 h0 e0
  obtain ⟨nn, rfl, hn⟩ := read_i3 h1 e1
  rw [e2] at h2
  obtain ⟨A, cc, us, h5, h6, _⟩ := opens_slice (K := KU) Tryd.underlying36 Tryd.c46 (by decide) opens_upd h2
  obtain rfl : c = _ := by simpa using h5
  exact ⟨⟨o, nn, us⟩, ⟨A, cc, rfl, h6⟩, ho, hn⟩
theorem opens_rnds {fuel : Nat} {cs : List Value} {x : DataW H × List MemPlace} (h : DataW.trod enc Tryd.prog w 0 (fun _ => true) true fuel 30 cs = some x) :
    ∃ A c, ∃ l : List Rnd, cs = [.slice A l.length c] ∧ SL KR (oldB w) w A c l ∧ ∀ r ∈ l, r.Fit :=
  opens_slice (K := KR) Tryd.underlying30 Tryd.c38 (by decide) opens_rnd h
end

end Go.Proofs.YthdnoljmiehegaaDoor
