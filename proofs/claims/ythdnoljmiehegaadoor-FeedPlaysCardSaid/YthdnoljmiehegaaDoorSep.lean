/- WHAT IS SAID HERE: several objects side by side, each in blocks of its own, all behind the blocks that a call found; a step of one leaves the others. -/
import Derived.Test.YthdnoljmiehegaaDoorObj
set_option linter.unusedVariables false
set_option linter.unusedSimpArgs false
namespace Go.Proofs.YthdnoljmiehegaaDoor
open Go.RowKit

abbrev Ob := World → (Nat → Prop) → Prop
/-- An object of the blocks F; it may read blocks below B besides. -/
structure Good (B : Nat) (O : Ob) : Prop where
  keep : ∀ {w w' : World} {F : Nat → Prop}, O w F → w.heap.size ≤ w'.heap.size → (∀ b, (F b ∨ b < B) → b < w.heap.size → w'.heap[b]? = w.heap[b]?) → O w' F
  lt : ∀ {w : World} {F : Nat → Prop}, O w F → ∀ b, F b → b < w.heap.size
def Goods (B : Nat) (l : List Ob) : Prop := ∀ O ∈ l, Good B O
theorem Goods.nil (B : Nat) : Goods B [] := fun _ h => by cases h
theorem Goods.cons {B : Nat} {O : Ob} {l : List Ob} (h : Good B O) (k : Goods B l) : Goods B (O :: l) := fun Q hQ => by
  rcases List.mem_cons.1 hQ with rfl | hQ
  · exact h
  · exact k Q hQ
theorem Goods.head {B : Nat} {O : Ob} {l : List Ob} (k : Goods B (O :: l)) : Good B O := k O (by simp)
theorem Goods.tail {B : Nat} {O : Ob} {l : List Ob} (k : Goods B (O :: l)) : Goods B l := fun Q hQ => k Q (by simp [hQ])

/-- Objects in blocks of their own, from B on. -/
def SepL (B : Nat) : List Ob → Ob
  | [], _, F => ∀ b, ¬ F b
  | O :: l, w, F => ∃ F1 F2, O w F1 ∧ (∀ b, F1 b → B ≤ b) ∧ SepL B l w F2 ∧ (∀ b, F1 b → ¬ F2 b) ∧ ∀ b, F b ↔ F1 b ∨ F2 b

theorem SepL.ge {B : Nat} : ∀ {l : List Ob} {w : World} {F : Nat → Prop}, SepL B l w F → ∀ b, F b → B ≤ b
  | [], _, _, h, b, hb => absurd hb (h b)
  | O :: l, w, F, ⟨F1, F2, h1, h5, h2, h3, h4⟩, b, hb => ((h4 b).1 hb).elim (h5 b) (SepL.ge h2 b)
theorem SepL.good {B : Nat} : ∀ {l : List Ob}, Goods B l → Good B (SepL B l)
  | [], _ => ⟨fun h _ _ => h, fun h b hb => absurd hb (h b)⟩
  | O :: l, g => by
    have gl := SepL.good g.tail
    refine ⟨fun {w w' F} h hs hk => ?_, fun {w F} h b hb => ?_⟩
    · obtain ⟨F1, F2, h1, h5, h2, h3, h4⟩ := h
      exact ⟨F1, F2, g.head.keep h1 hs fun b hb => hk b (hb.imp (fun q => (h4 b).2 (.inl q)) id), h5, gl.keep h2 hs fun b hb => hk b (hb.imp (fun q => (h4 b).2 (.inr q)) id), h3, h4⟩
    · obtain ⟨F1, F2, h1, h5, h2, h3, h4⟩ := h
      rcases (h4 b).1 hb with hb | hb
      · exact g.head.lt h1 b hb
      · exact gl.lt h2 b hb

theorem Good.below {B : Nat} {O : Ob} (g : Good B O) {w w' : World} {F : Nat → Prop} (h : O w F) (hb : Below w.heap.size w w') : O w' F := g.keep h hb.size fun b _ hl => hb.block b hl
theorem Good.mod {B : Nat} {O : Ob} (g : Good B O) {S : Nat → Prop} {w w' : World} {F : Nat → Prop} (h : O w F) (hm : Mod S w w') (hn : ∀ b, F b → ¬ S b) (hS : ∀ b, S b → B ≤ b) : O w' F :=
  g.keep h hm.size fun b hb hl => hm.block b hl (hb.elim (hn b) fun q hs => by have := hS b hs; omega)

/-- One of them makes a step. -/
theorem SepL.at_ {B : Nat} : ∀ {l : List Ob} {w : World} {F : Nat → Prop} (i : Nat) (O : Ob), l[i]? = some O → Goods B l → B ≤ w.heap.size → SepL B l w F →
    ∃ F1, O w F1 ∧ (∀ b, F1 b → F b) ∧ ∀ O' F1' w', O' w' F1' → Step F1 w F1' w' → ∃ F', SepL B (l.set i O') w' F' ∧ Step F w F' w'
  | [], w, F, i, O, hi, g, hB, h => by simp at hi
  | Q :: l, w, F, 0, O, hi, g, hB, h => by
    obtain rfl : Q = O := by simpa using hi
    obtain ⟨F1, F2, h1, h5, h2, h3, h4⟩ := h
    have gl := SepL.good g.tail
    refine ⟨F1, h1, fun b hb => (h4 b).2 (.inl hb), fun O' F1' w' k1 k2 => ?_⟩
    refine ⟨fun b => F1' b ∨ F2 b, ⟨F1', F2, k1, fun b hb => (k2.upg b hb).elim (h5 b) (fun q => Nat.le_trans hB q), gl.mod h2 k2.mod (fun b hb hb' => h3 b hb' hb) h5, fun b hb hb' => ?_, fun b => Iff.rfl⟩, k2.sub (fun b hb => (h4 b).2 (.inl hb)) fun b hb => ?_⟩
    · rcases k2.upg b hb with q | q
      · exact h3 b q hb'
      · exact absurd (gl.lt h2 b hb') (Nat.not_lt.2 q)
    · rcases hb with hb | hb
      · exact .inr hb
      · exact .inl ((h4 b).2 (.inr hb))
  | Q :: l, w, F, i + 1, O, hi, g, hB, h => by
    obtain ⟨F1, F2, h1, h5, h2, h3, h4⟩ := h
    have gl := SepL.good g.tail
    obtain ⟨F3, k1, k2, k3⟩ := SepL.at_ i O (by simpa using hi) g.tail hB h2
    refine ⟨F3, k1, fun b hb => (h4 b).2 (.inr (k2 b hb)), fun O' F1' w' q1 q2 => ?_⟩
    obtain ⟨F', r1, r2⟩ := k3 O' F1' w' q1 q2
    refine ⟨fun b => F1 b ∨ F' b, ⟨F1, F', g.head.mod h1 r2.mod (fun b hb hb' => h3 b hb hb') h2.ge, h5, r1, fun b hb hb' => ?_, fun b => Iff.rfl⟩, r2.sub (fun b hb => (h4 b).2 (.inr hb)) fun b hb => ?_⟩
    · rcases r2.upg b hb' with q | q
      · exact h3 b hb q
      · exact absurd (g.head.lt h1 b hb) (Nat.not_lt.2 q)
    · rcases hb with hb | hb
      · exact .inl ((h4 b).2 (.inl hb))
      · exact .inr hb
/-- A new one. -/
theorem SepL.push {B : Nat} {l : List Ob} {O : Ob} {w w' : World} {F F1 : Nat → Prop} (g : Goods B l) (hB : B ≤ w.heap.size) (h : SepL B l w F) (hO : O w' F1) (hn : ∀ b, F1 b → w.heap.size ≤ b) (hb : Below w.heap.size w w') :
    ∃ F', SepL B (O :: l) w' F' ∧ Step F w F' w' :=
  ⟨fun b => F1 b ∨ F b, ⟨F1, F, hO, fun b q => Nat.le_trans hB (hn b q), (SepL.good g).below h hb, fun b h1 h2 => absurd ((SepL.good g).lt h b h2) (Nat.not_lt.2 (hn b h1)), fun b => Iff.rfl⟩, ⟨Mod.of_below hb, fun b hb => hb.elim (fun q => .inr (hn b q)) .inl⟩⟩
/-- The first is forgotten. -/
theorem SepL.pop {B : Nat} {l : List Ob} {O : Ob} {w : World} {F : Nat → Prop} (h : SepL B (O :: l) w F) : ∃ F', SepL B l w F' ∧ Step F w F' w := by
  obtain ⟨F1, F2, h1, h5, h2, h3, h4⟩ := h
  exact ⟨F2, h2, Mod.refl _ _, fun b hb => .inl ((h4 b).2 (.inr hb))⟩
theorem SepL.nil (B : Nat) (w : World) : SepL B [] w (fun _ => False) := fun _ h => h

/-- A block known whole, as an object. -/
def BlkO (g : Nat) (t : TypeId) (cs : Array Value) : Ob := fun w F => Blk w g t cs ∧ ∀ b, F b ↔ b = g
theorem BlkO.good (B g : Nat) (t : TypeId) (cs : Array Value) : Good B (BlkO g t cs) :=
  ⟨fun {w w' F} h hs hk => ⟨(hk g (.inl ((h.2 g).2 rfl)) h.1.lt).trans h.1, h.2⟩, fun {w F} h b hb => by obtain rfl := (h.2 b).1 hb; exact h.1.lt⟩
theorem BlkO.of {w : World} {g : Nat} {t : TypeId} {cs : Array Value} (h : Blk w g t cs) : BlkO g t cs w (fun b => b = g) := ⟨h, fun _ => Iff.rfl⟩
theorem BlkO.set {w : World} {F : Nat → Prop} {g : Nat} {t : TypeId} {cs : Array Value} (h : BlkO g t cs w F) (i : Nat) (u : Value) : BlkO g t (cs.setIfInBounds i u) (w.setCell ⟨g, i, none⟩ u) F ∧ Step F w F (w.setCell ⟨g, i, none⟩ u) :=
  ⟨⟨h.1.set i u, h.2⟩, ⟨(Mod.refl F w).setCell (p := ⟨g, i, none⟩) (.inl ((h.2 g).2 rfl)) u, fun _ h => .inl h⟩⟩

/-- A call that began at w0 stands at w; its objects lie at B or behind it, and nothing below B was changed. -/
structure Sys (B : Nat) (l : List Ob) (w0 w : World) : Prop where
  ex : ∃ F, SepL B l w F
  good : Goods B l
  mod : Mod (fun b => B ≤ b) w0 w
  le : B ≤ w0.heap.size

section
variable {B : Nat} {l : List Ob} {w0 w w' : World}
theorem Sys.leW (h : Sys B l w0 w) : B ≤ w.heap.size := Nat.le_trans h.le h.mod.size
theorem Sys.at_ (h : Sys B l w0 w) (i : Nat) (O : Ob) (hi : l[i]? = some O) :
    ∃ F1, O w F1 ∧ (∀ b, F1 b → B ≤ b) ∧ ∀ O' F1' w', O' w' F1' → Good B O' → Step F1 w F1' w' → Sys B (l.set i O') w0 w' := by
  obtain ⟨F, h1⟩ := h.ex
  obtain ⟨F1, k1, k2, k3⟩ := h1.at_ i O hi h.good h.leW
  refine ⟨F1, k1, fun b hb => h1.ge b (k2 b hb), fun O' F1' w' q1 q2 q3 => ?_⟩
  obtain ⟨F', r1, r2⟩ := k3 O' F1' w' q1 q3
  refine ⟨⟨F', r1⟩, ?_, h.mod.trans' r2.mod (fun b hb => .inl (h1.ge b hb)), h.le⟩
  intro Q hQ
  rcases List.mem_or_eq_of_mem_set hQ with hQ | rfl
  · exact h.good Q hQ
  · exact q2
/-- An object that lies in a group. -/
theorem Sys.at2 (h : Sys B l w0 w) (i : Nat) (l' : List Ob) (hi : l[i]? = some (SepL B l')) (g' : Goods B l') (j : Nat) (O : Ob) (hj : l'[j]? = some O) :
    ∃ F1, O w F1 ∧ (∀ b, F1 b → B ≤ b) ∧ ∀ O' F1' w', O' w' F1' → Good B O' → Step F1 w F1' w' → Sys B (l.set i (SepL B (l'.set j O'))) w0 w' := by
  obtain ⟨F1, k1, k2, k3⟩ := h.at_ i _ hi
  obtain ⟨F2, q1, q2, q3⟩ := k1.at_ j O hj g' h.leW
  refine ⟨F2, q1, fun b hb => k2 b (q2 b hb), fun O' F1' w' r1 r2 r3 => ?_⟩
  obtain ⟨F', s1, s2⟩ := q3 O' F1' w' r1 r3
  refine k3 _ F' w' s1 (SepL.good ?_) s2
  intro Q hQ
  rcases List.mem_or_eq_of_mem_set hQ with hQ | rfl
  · exact g' Q hQ
  · exact r2
/-- What an object of it says of the world, nothing changed. -/
theorem Sys.get (h : Sys B l w0 w) (i : Nat) (O : Ob) (hi : l[i]? = some O) : ∃ F1, O w F1 ∧ (∀ b, F1 b → B ≤ b) := by
  obtain ⟨F1, h1, h2, _⟩ := h.at_ i O hi
  exact ⟨F1, h1, h2⟩
theorem Sys.push (h : Sys B l w0 w) {O : Ob} {F1 : Nat → Prop} (hO : O w' F1) (g : Good B O) (hn : ∀ b, F1 b → w.heap.size ≤ b) (hb : Below w.heap.size w w') : Sys B (O :: l) w0 w' := by
  obtain ⟨F, h1⟩ := h.ex
  obtain ⟨F', r1, r2⟩ := h1.push h.good h.leW hO hn hb
  exact ⟨⟨F', r1⟩, h.good.cons g, h.mod.trans' (r2.mod (F := F)) (fun b hb => .inl (h1.ge b hb)), h.le⟩
theorem Sys.pop {O : Ob} (h : Sys B (O :: l) w0 w) : Sys B l w0 w := by
  obtain ⟨F, h1⟩ := h.ex
  obtain ⟨F', r1, r2⟩ := h1.pop
  exact ⟨⟨F', r1⟩, h.good.tail, h.mod, h.le⟩
theorem Sys.below (h : Sys B l w0 w) (hb : Below w.heap.size w w') : Sys B l w0 w' := by
  obtain ⟨F, h1⟩ := h.ex
  exact ⟨⟨F, (SepL.good h.good).below h1 hb⟩, h.good, h.mod.below hb, h.le⟩
theorem Sys.drewN (h : Sys B l w0 w) (n : Nat) : Sys B l w0 (w.drewN n) := h.below ⟨rfl, rfl, rfl, Nat.le_refl _, fun _ _ => rfl⟩
theorem Sys.alloc (h : Sys B l w0 w) (o : Obj) : Sys B l w0 (w.alloc o) := h.below ((Below.refl _ _).alloc (Nat.le_refl _) _)
theorem Sys.blk (h : Sys B l w0 w) (i : Nat) {g : Nat} {t : TypeId} {cs : Array Value} (hi : l[i]? = some (BlkO g t cs)) : Blk w g t cs ∧ B ≤ g := by
  obtain ⟨F1, h1, h2⟩ := h.get i _ hi
  exact ⟨h1.1, h2 g ((h1.2 g).2 rfl)⟩
theorem Sys.setCell (h : Sys B l w0 w) (i : Nat) {g : Nat} {t : TypeId} {cs : Array Value} (hi : l[i]? = some (BlkO g t cs)) (j : Nat) (u : Value) : Sys B (l.set i (BlkO g t (cs.setIfInBounds j u))) w0 (w.setCell ⟨g, j, none⟩ u) := by
  obtain ⟨F1, h1, h2, h3⟩ := h.at_ i _ hi
  obtain ⟨k1, k2⟩ := h1.set j u
  exact h3 _ _ _ k1 (BlkO.good _ _ _ _) k2
/-- A new block known whole. -/
theorem Sys.box (h : Sys B l w0 w) (t : TypeId) (cs : Array Value) : Sys B (BlkO w.heap.size t cs :: l) w0 (w.alloc (.cells cs t)) :=
  h.push (BlkO.of (Blk.new w t cs)) (BlkO.good _ _ _ _) (fun b hb => Nat.le_of_eq hb.symm) ((Below.refl _ _).alloc (Nat.le_refl _) _)
theorem Sys.new (w : World) : Sys w.heap.size [] w w := ⟨⟨_, SepL.nil _ w⟩, Goods.nil _, Mod.refl _ _, Nat.le_refl _⟩
/-- Arguments stand. -/
theorem Sys.sl (h : Sys w0.heap.size l w0 w) {α : Type} {K : Kind α} {ok : Nat → Prop} {A : Option Addr} {c : Nat} {x : List α} (hs : SL K ok w0 A c x) : SL K ok w A c x :=
  hs.mod h.mod fun b _ hl hb => by omega
theorem Sys.end_ (h : Sys w0.heap.size l w0 w) : Below w0.heap.size w0 w := h.mod.to_below (Nat.le_refl _) fun _ h => h
end

end Go.Proofs.YthdnoljmiehegaaDoor
