/- WHAT IS PROVED HERE: the acts of the feed's law, and a pair of numbers, opened out of the arguments. -/
import Derived.Test.YthdnoljmiehegaaDoorShut
import Derived.Test.YthdnoljmiehegaaDoorFact
set_option linter.unusedVariables false
set_option linter.unusedSimpArgs false
namespace Go.Proofs.YthdnoljmiehegaaDoor
open Go.ChangeShapes Go.WideShapes Go.ChangeAt Go.RowKit

section
variable {H : Type} {enc : TypeId × Value → H} {w W : World}
theorem Tryd.c76 : Tryd.prog.cellsOf 76 = 8 := by kernel_rfl
theorem Tryd.c57 : Tryd.prog.cellsOf 57 = 2 := by kernel_rfl
set_option maxRecDepth 100000 in
theorem opens_frm : Opens enc Tryd.prog w 74 KF (fun _ => True) := by
  intro fuel cs x h
  obtain ⟨xs, n, _, _, hl, hxs, hf⟩ := DataW.trod_struct Tryd.underlying74 h
  rw [Tryd.c74] at hl
  obtain ⟨a, b, c, d, rfl⟩ := len4 hl
  have hxs' : xs.length = 4 := hxs
  have h0 : DataW.trod enc Tryd.prog w 0 (fun _ => true) true n 3 (([a, b, c, d].drop 0).take (Tryd.prog.cellsOf 3)) = xs[0]? := hf 0 _ rfl
  have h1 : DataW.trod enc Tryd.prog w 0 (fun _ => true) true n 3 (([a, b, c, d].drop 1).take (Tryd.prog.cellsOf 3)) = xs[1]? := hf 1 _ rfl
  have h2 : DataW.trod enc Tryd.prog w 0 (fun _ => true) true n 3 (([a, b, c, d].drop 2).take (Tryd.prog.cellsOf 3)) = xs[2]? := hf 2 _ rfl
  have h3 : DataW.trod enc Tryd.prog w 0 (fun _ => true) true n 9 (([a, b, c, d].drop 3).take (Tryd.prog.cellsOf 9)) = xs[3]? := hf 3 _ rfl
  simp only [Tryd.c9, Tryd.c3, List.drop_zero, List.take_succ_cons, List.take_zero, List.drop_succ_cons] at h0 h1 h2 h3
  obtain ⟨y0, e0⟩ := nth_some hxs' (i := 0) (by omega)
  obtain ⟨y1, e1⟩ := nth_some hxs' (i := 1) (by omega)
  obtain ⟨y2, e2⟩ := nth_some hxs' (i := 2) (by omega)
  obtain ⟨y3, e3⟩ := nth_some hxs' (i := 3) (by omega)
  obtain ⟨k, rfl, _⟩ := read_i3 h0 e0
  obtain ⟨kd, rfl, _⟩ := read_i3 h1 e1
  obtain ⟨nn, rfl, _⟩ := read_i3 h2 e2
  obtain ⟨s, rfl, _⟩ := read_str h3 e3
  exact ⟨⟨k, kd, nn, s⟩, rfl, trivial⟩
set_option maxRecDepth 100000 in
theorem opens_fact : Opens enc Tryd.prog w 76 KA (fun _ => True) := by
  intro fuel cs x h
  obtain ⟨xs, n, _, _, hl, hxs, hf⟩ := DataW.trod_struct Tryd.underlying76 h
  rw [Tryd.c76] at hl
  obtain ⟨a, b, c, d, e, f, g, i, rfl⟩ := len8 hl
  have hxs' : xs.length = 3 := hxs
  have h0 : DataW.trod enc Tryd.prog w 0 (fun _ => true) true n 3 (([a, b, c, d, e, f, g, i].drop 0).take (Tryd.prog.cellsOf 3)) = xs[0]? := hf 0 _ rfl
  have h1 : DataW.trod enc Tryd.prog w 0 (fun _ => true) true n 74 (([a, b, c, d, e, f, g, i].drop 1).take (Tryd.prog.cellsOf 74)) = xs[1]? := hf 1 _ rfl
  have h2 : DataW.trod enc Tryd.prog w 0 (fun _ => true) true n 38 (([a, b, c, d, e, f, g, i].drop 5).take (Tryd.prog.cellsOf 38)) = xs[2]? := hf 2 _ rfl
  simp only [Tryd.c3, Tryd.c74, Tryd.c38, List.drop_zero, List.take_succ_cons, List.take_zero, List.drop_succ_cons] at h0 h1 h2
  obtain ⟨y0, e0⟩ := nth_some hxs' (i := 0) (by omega)
  obtain ⟨y1, e1⟩ := nth_some hxs' (i := 1) (by omega)
  obtain ⟨y2, e2⟩ := nth_some hxs' (i := 2) (by omega)
  obtain ⟨kd, rfl, _⟩ := read_i3 h0 e0
  rw [e1] at h1
  rw [e2] at h2
  obtain ⟨fr, hfr, _⟩ := opens_frm _ _ _ h1
  obtain ⟨r, ⟨A, cc, hr, hsl⟩, _⟩ := opens_rnd _ _ _ h2
  have hfr' : [b, c, d, e] = [.int .i64 fr.epoch, .int .i64 fr.seq, .int .i64 fr.ack, .string fr.data] := hfr
  simp only [List.cons.injEq, and_true] at hfr' hr
  obtain ⟨rfl, rfl, rfl, rfl⟩ := hfr'
  obtain ⟨rfl, rfl, rfl⟩ := hr
  exact ⟨⟨kd, fr, r⟩, ⟨A, cc, rfl, hsl⟩, trivial⟩
set_option maxRecDepth 100000 in
theorem arg_facts {base : Nat} {v : Value} {d : DataW H} {p : List MemPlace} (hv : Value.okWide Tryd.prog W .any base 58 v) (h : DataW.Trod enc Tryd.prog W 0 (fun _ => true) true 58 v d p) :
    ∃ A c, ∃ l : List FAct, v = .slice A l.length c ∧ SL KA (oldB W) W A c l := by
  obtain ⟨a, len, cap, rfl⟩ := okWide_slice Tryd.underlying58 hv
  obtain ⟨fuel, hf⟩ := h
  obtain ⟨A, c, l, e, hs, _⟩ := opens_slice (K := KA) Tryd.underlying58 Tryd.c76 (by decide) opens_fact hf
  have e' : Value.slice a len cap = .slice A l.length c := by simpa [Value.cells] using e
  exact ⟨A, c, l, e', hs⟩
theorem len2 : ∀ {cs : List Value}, cs.length = 2 → ∃ a b, cs = [a, b]
  | [a, b], _ => ⟨a, b, rfl⟩
set_option maxRecDepth 100000 in
theorem arg_arr2 {base : Nat} {v : Value} {d : DataW H} {p : List MemPlace} (hv : Value.okWide Tryd.prog W .any base 57 v) (h : DataW.Trod enc Tryd.prog W 0 (fun _ => true) true 57 v d p) :
    ∃ a b : Int, v = .agg #[.int .i64 a, .int .i64 b] ∧ I64 a ∧ I64 b := by
  simp only [Value.okWide, Tryd.underlying57] at hv
  obtain ⟨cs, rfl, _, _⟩ := hv
  obtain ⟨fuel, hf⟩ := h
  obtain ⟨xs, m, _, _, hl, hxs, hel⟩ := DataW.trod_array Tryd.underlying57 hf
  have hce : (Value.agg cs).cells = cs := rfl
  rw [hce] at hl hel
  rw [Tryd.c57] at hl
  obtain ⟨a, b, hcs⟩ := len2 hl
  have h0 := hel 0 (by omega)
  have h1 := hel 1 (by omega)
  rw [Tryd.c3, hcs] at h0 h1
  simp only [Nat.zero_mul, Nat.one_mul, List.drop_zero, List.take_succ_cons, List.take_zero, List.drop_succ_cons] at h0 h1
  obtain ⟨y0, e0⟩ := nth_some hxs (i := 0) (by omega)
  obtain ⟨y1, e1⟩ := nth_some hxs (i := 1) (by omega)
  obtain ⟨x0, rfl, hx0⟩ := read_i3 h0 e0
  obtain ⟨x1, rfl, hx1⟩ := read_i3 h1 e1
  refine ⟨x0, x1, ?_, hx0, hx1⟩
  congr 1
  apply Array.toList_inj.1
  rw [hcs]
end

end Go.Proofs.YthdnoljmiehegaaDoor
