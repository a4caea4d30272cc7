/- WHAT IS SAID HERE: steps on an object that lies in several blocks; 'clear' on a row of one's own; slices with a bound capacity. -/
import Derived.Test.YthdnoljmiehegaaDoorRow
import Derived.Lib.SliceRun
set_option linter.unusedVariables false
set_option linter.unusedSimpArgs false
namespace Go.Proofs.YthdnoljmiehegaaDoor
open Go.RowKit

/-- A step on an object of the blocks F: it changes these alone, and it may take new ones. -/
structure Step (F : Nat → Prop) (w : World) (F' : Nat → Prop) (w' : World) : Prop where
  mod : Mod F w w'
  upg : ∀ b, F' b → F b ∨ w.heap.size ≤ b
theorem Step.refl (F : Nat → Prop) (w : World) : Step F w F w := ⟨Mod.refl F w, fun _ h => .inl h⟩
theorem Step.trans {F F' F'' : Nat → Prop} {a b c : World} (h : Step F a F' b) (k : Step F' b F'' c) : Step F a F'' c :=
  ⟨h.mod.trans' k.mod h.upg, fun i hi => (k.upg i hi).elim (h.upg i) (fun q => .inr (Nat.le_trans h.mod.size q))⟩
theorem Step.of_below {F : Nat → Prop} {w w' : World} (h : Below w.heap.size w w') : Step F w F w' := ⟨Mod.of_below h, fun _ h => .inl h⟩
theorem Step.below {F F' : Nat → Prop} {a b c : World} (h : Step F a F' b) (k : Below b.heap.size b c) : Step F a F' c := h.trans (Step.of_below k)
theorem Step.after {F F' : Nat → Prop} {a b c : World} (k : Below a.heap.size a b) (h : Step F b F' c) : Step F a F' c := (Step.of_below k).trans h

theorem Step.sub {G G' F : Nat → Prop} {w w' : World} (h : Step G w G' w') (hGF : ∀ b, G b → F b) {F' : Nat → Prop} (hF' : ∀ b, F' b → F b ∨ G' b) : Step F w F' w' :=
  ⟨h.mod.mono fun b _ hb => hGF b hb, fun b hb => (hF' b hb).elim .inl fun q => (h.upg b q).imp (hGF b) id⟩


/-- Zeros, as clear lays them. -/
theorem run_clear_gen {P : Program} (w : World) (t e ty : TypeId) (z : Value) (ht : P.underlying t = some (.slice e)) (hv : ∀ w, (zeroValue e).run P w = .ok z w) (h1 : ∀ n, ∀ u ∈ (Builtin.zeroCells z.cells n).toList, u.oneCell' = true) (b o n c : Nat) (hn : 0 < n)
    (d : Array Value) (hb : Blk w b e d) (hfit : o + n * z.cells.size ≤ d.size) :
    (Builtin.clear_ #[t] ty #[.slice (some ⟨b, o, none⟩) n c]).run P w = .ok (.tuple #[]) (w.setCells b o (Builtin.zeroCells z.cells n).toList) := by
  have hl : (Builtin.zeroCells z.cells n).toList.length = n * z.cells.size := by simp [size_zeroCells]
  have hst := run_storeCells_cells (P := P) b o (Builtin.zeroCells z.cells n).toList 0 w
    (fun j hj => by rw [hb.cell]; simp; omega) (fun j _ => hb.frozen _) (h1 n)
  simp only [Nat.add_zero] at hst
  obtain ⟨m, rfl⟩ : ∃ m, n = m + 1 := ⟨n - 1, by omega⟩
  simp [Builtin.clear_, run_underlying ht, hv, hst]

/-- The same row with its capacity cut to its length. -/
theorem Own.clip {w : World} {e : TypeId} {sz n c : Nat} {A : Option Addr} {xs : List Value} (h : Own w e sz (.slice A n c) n xs) : Own w e sz (.slice A n n) n xs := by
  refine ⟨h.1, ?_⟩
  rcases h.2 with ⟨h0, h1⟩ | ⟨b, o, cap, cur, hv, hg, h1, h2, h3, h4⟩
  · subst h1; cases h0; exact .inl ⟨rfl, rfl⟩
  · cases hv
    exact .inr ⟨b, o, n, cur, rfl, hg, Nat.le_refl _, by omega, by have : n * sz ≤ c * sz := Nat.mul_le_mul_right _ h1; omega, h4⟩
theorem OwnL.clip {α : Type} {K : Kind α} {e : TypeId} {ok : Nat → Prop} {w : World} {A : Option Addr} {n c : Nat} {l : List α} (h : OwnL K e ok w (.slice A n c) l) (hn : l.length = n) : OwnL K e ok w (.slice A n n) l := by
  subst hn
  obtain ⟨xs, h1, h2, h3⟩ := h
  cases A <;> exact ⟨xs, h1.clip, h2, h3⟩
/-- The row from its k-th element on. -/
theorem OwnL.tail {α : Type} {K : Kind α} {e : TypeId} {ok : Nat → Prop} {w : World} {b o n c : Nat} {l : List α} (h : OwnL K e ok w (.slice (some ⟨b, o, none⟩) n c) l) (hn : l.length = n) (k : Nat) (hk : k ≤ n) :
    OwnL K e ok w (.slice (some ⟨b, o + k * K.sz, none⟩) (n - k) (c - k)) (l.drop k) := by
  subst hn
  obtain ⟨xs, h1, h2, h3⟩ := h
  refine ⟨xs.drop (k * K.sz), ⟨?_, .inr ?_⟩, h2.drop k, h3⟩
  · rw [List.length_drop, List.length_drop, h1.1, Nat.sub_mul]
  · rcases h1.2 with ⟨h0, _⟩ | ⟨b', o', cap, cur, hv, hg, k1, k2, k3, k4⟩
    · cases h0
    · cases hv
      have hkc : k * K.sz ≤ c * K.sz := Nat.mul_le_mul_right _ (by omega)
      refine ⟨b, o + k * K.sz, c - k, cur, by rw [List.length_drop], hg, by rw [List.length_drop]; omega, by omega, by rw [Nat.sub_mul]; omega, ?_⟩
      rw [List.length_drop, ← k4, List.drop_take, List.drop_drop, Nat.sub_mul]

/-- A piece, and its kind. -/
structure Pc where
  seq : Int
  data : ByteArray
def KP : Kind Pc where
  sz := 2
  cs := fun _ _ p l => l = [.int .i64 p.seq, .string p.data]
  len := by rintro _ _ _ _ rfl; rfl
  one := by rintro _ _ _ _ rfl u hu; simp at hu; rcases hu with rfl | rfl <;> rfl
  keep := fun h _ _ => h
  mono := fun h _ => h
theorem KP.flat : Kind.Flat KP := fun h => h
theorem SL.pc {ok : Nat → Prop} {w : World} {A : Option Addr} {c : Nat} {l : List Pc} (h : SL KP ok w A c l) (k : Nat) (hk : k < l.length) :
    ∃ b off, A = some ⟨b, off, none⟩ ∧ ok b ∧ b < w.heap.size ∧ w.cell? ⟨b, off + k * 2, none⟩ = some (.int .i64 l[k].seq) ∧ w.cell? ⟨b, off + k * 2 + 1, none⟩ = some (.string l[k].data) := by
  obtain ⟨b, off, cs, e, h1, h2, h3, h4⟩ := h.at_ k hk
  obtain rfl : cs = _ := h3
  exact ⟨b, off, e, h1, h2, h4 0 _ rfl, h4 1 _ rfl⟩
theorem info182 : (Tryd.prog.info? 182).map (fun i => (i.zero, i.size, i.bytes)) = some (some (.agg #[.int .i64 0, .string ByteArray.empty]), 2, 24) := by kernel_rfl
theorem info9 : (Tryd.prog.info? 9).map (fun i => (i.zero, i.size, i.bytes)) = some (some (.string ByteArray.empty), 1, 16) := by kernel_rfl

/-! ### The sender as data -/
structure SS where
  window : Int
  last : Int
  all : List ByteArray
  acked : Nat
structure SS.Ok (s : SS) : Prop where
  w1 : 1 ≤ s.window
  w2 : s.window ≤ 16
  l1 : 0 ≤ s.last
  l2 : s.last ≤ 1125899906842624
  a1 : s.acked ≤ s.all.length
  a2 : (s.all.length : Int) ≤ s.last
  a3 : (s.all.length : Int) - s.acked ≤ s.window
def clampI (n lo hi : Int) : Int := if n < lo then lo else if hi < n then hi else n
def SS.new (window last : Int) : SS := ⟨clampI window 1 16, clampI last 0 1125899906842624, [], 0⟩
def SS.err (s : SS) : Int := if s.window ≤ (s.all.length : Int) - s.acked then 7 else if s.last ≤ s.all.length then 8 else 0
def SS.offer (s : SS) (d : ByteArray) : SS := if s.err = 0 then { s with all := s.all ++ [d] } else s
def SS.ack (s : SS) (n : Int) : SS := if (s.all.length : Int) < n ∨ n ≤ s.acked then s else { s with acked := n.toNat }
theorem SS.new_ok (window last : Int) : (SS.new window last).Ok := by
  constructor <;> simp only [SS.new, clampI, List.length_nil] <;> (repeat' split) <;> omega
theorem SS.offer_ok {s : SS} (h : s.Ok) (d : ByteArray) : (s.offer d).Ok := by
  unfold SS.offer
  split
  · rename_i he
    unfold SS.err at he
    have := h.w1; have := h.w2; have := h.l1; have := h.l2; have := h.a1; have := h.a2; have := h.a3
    split at he
    · omega
    split at he
    · omega
    constructor <;> simp only [List.length_append, List.length_cons, List.length_nil] <;> omega
  · exact h
theorem SS.ack_ok {s : SS} (h : s.Ok) (n : Int) : (s.ack n).Ok := by
  unfold SS.ack
  split
  · exact h
  · have := h.w1; have := h.w2; have := h.l1; have := h.l2; have := h.a1; have := h.a2; have := h.a3
    constructor <;> simp only <;> omega

/-- What isn't acknowledged, with its numbers. -/
def pcs : Nat → List ByteArray → List Pc
  | _, [] => []
  | a, d :: l => ⟨(a : Int) + 1, d⟩ :: pcs (a + 1) l
theorem pcs_length : ∀ (l : List ByteArray) (a : Nat), (pcs a l).length = l.length
  | [], _ => rfl
  | _ :: l, a => by simp [pcs, pcs_length l]
theorem pcs_append : ∀ (l m : List ByteArray) (a : Nat), pcs a (l ++ m) = pcs a l ++ pcs (a + l.length) m
  | [], m, a => by simp [pcs]
  | d :: l, m, a => by simp [pcs, pcs_append l m (a + 1), Nat.add_assoc, Nat.add_comm 1]
theorem pcs_drop : ∀ (k : Nat) (l : List ByteArray) (a : Nat), (pcs a l).drop k = pcs (a + k) (l.drop k)
  | 0, l, a => by simp
  | k + 1, [], a => by simp [pcs]
  | k + 1, d :: l, a => by simp [pcs, pcs_drop k l (a + 1), Nat.add_assoc, Nat.add_comm 1]
theorem pcs_get : ∀ (l : List ByteArray) (a k : Nat) (h : k < (pcs a l).length), (pcs a l)[k] = ⟨(a : Int) + k + 1, l[k]'(by rw [pcs_length] at h; exact h)⟩
  | d :: l, a, 0, _ => by simp [pcs]
  | d :: l, a, k + 1, h => by
    have := pcs_get l (a + 1) k (by simpa [pcs] using h)
    simp only [pcs, List.getElem_cons_succ, this]
    congr 1
    omega

end Go.Proofs.YthdnoljmiehegaaDoor
