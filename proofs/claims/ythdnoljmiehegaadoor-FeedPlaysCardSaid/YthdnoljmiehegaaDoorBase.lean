/- WHAT IS SAID HERE: the words that all walks of this seat share: updates and rounds as plain data, what a slice in memory reads as, which blocks a call may change, one law for append. No program is named but by its tables. -/
import Derived.Test.YthdnoljmiehegaaDoorRows
import Derived.WalkKit
import Derived.WalkSpells
import Derived.WalkLawsBesides
import Derived.Lib.Hide
import Derived.Outline
import Derived.Deep.Draws
import Derived.ArgAppend
import Derived.Maps.AppendAt
import Derived.Deep.LoopGhost
import Derived.Deep.QuietTactic
import Derived.BigQuiet
import Derived.Deep.Light
import Derived.Deep.RegionHeld3
import Derived.RegionTactic
set_option linter.unusedVariables false
set_option linter.unusedSimpArgs false
namespace Go.Proofs.YthdnoljmiehegaaDoor
open Go.RowKit

theorem ret_int {k : IntKind} {a b : Int} (h : a = b) : Ending.returned (.int k a) = .returned (.int k b) := by rw [h]
theorem ret_bool {a b : Bool} (h : a = b) : Ending.returned (.bool a) = .returned (.bool b) := by rw [h]
theorem ret_str {a b : ByteArray} (h : a = b) : Ending.returned (.string a) = .returned (.string b) := by rw [h]

/-! ### 1. Plain data -/
structure Upd where
  key : ByteArray
  kind : Int
  n : Int
  s : ByteArray
structure Rnd where
  o : Int
  n : Int
  us : List Upd
structure Frm where
  epoch : Int
  seq : Int
  ack : Int
  data : ByteArray

/-! ### 2. Frames: what a call may change -/
/-- Of the blocks that were there, those of S alone may have changed. -/
structure Mod (S : Nat → Prop) (w w' : World) : Prop where
  os : w'.os = w.os
  tape : w'.tape = w.tape
  output : w'.output = w.output
  size : w.heap.size ≤ w'.heap.size
  block : ∀ k, k < w.heap.size → ¬ S k → w'.heap[k]? = w.heap[k]?

section
variable {S S' : Nat → Prop} {a b c w w' : World}
theorem Mod.refl (S : Nat → Prop) (w : World) : Mod S w w := ⟨rfl, rfl, rfl, Nat.le_refl _, fun _ _ _ => rfl⟩
theorem Mod.trans (h : Mod S a b) (k : Mod S b c) : Mod S a c :=
  ⟨k.os.trans h.os, k.tape.trans h.tape, k.output.trans h.output, Nat.le_trans h.size k.size, fun i hi hs => (k.block i (Nat.lt_of_lt_of_le hi h.size) hs).trans (h.block i hi hs)⟩
/-- The second step may also change what the first has made. -/
theorem Mod.trans' (h : Mod S a b) (k : Mod S' b c) (hs : ∀ i, S' i → S i ∨ a.heap.size ≤ i) : Mod S a c :=
  ⟨k.os.trans h.os, k.tape.trans h.tape, k.output.trans h.output, Nat.le_trans h.size k.size, fun i hi hn => (k.block i (Nat.lt_of_lt_of_le hi h.size) (fun hp => (hs i hp).elim hn (fun q => absurd hi (Nat.not_lt.2 q)))).trans (h.block i hi hn)⟩
theorem Mod.mono (h : Mod S a b) (hs : ∀ i, i < a.heap.size → S i → S' i) : Mod S' a b := ⟨h.os, h.tape, h.output, h.size, fun i hi hn => h.block i hi (fun hp => hn (hs i hi hp))⟩
theorem Mod.alloc (h : Mod S a w) (o : Obj) : Mod S a (w.alloc o) := ⟨h.os, h.tape, h.output, Nat.le_trans h.size (by simp), fun i hi hn => (Below.heap_alloc _ _ _ (Nat.lt_of_lt_of_le hi h.size)).trans (h.block i hi hn)⟩
theorem Mod.drew (h : Mod S a w) : Mod S a w.drew := ⟨h.os, h.tape, h.output, h.size, h.block⟩
theorem Mod.drewN (h : Mod S a w) (n : Nat) : Mod S a (w.drewN n) := ⟨h.os, h.tape, h.output, h.size, h.block⟩
theorem Mod.setCell (h : Mod S a w) {p : Addr} (hp : S p.block ∨ a.heap.size ≤ p.block) (u : Value) : Mod S a (w.setCell p u) :=
  h.trans' (S' := fun i => i = p.block) ⟨rfl, rfl, rfl, by simp [World.setCell], fun k _ hn => Below.heap_setCell _ _ _ _ hn⟩ (fun _ e => e ▸ hp)
theorem Mod.grown (h : Mod S a w) {row : Option Nat} (hg : w.grownBy w' row) (hr : ∀ g, row = some g → S g ∨ a.heap.size ≤ g) : Mod S a w' :=
  h.trans' (S' := fun i => row = some i) ⟨hg.os, hg.tape, hg.output, hg.size, fun k hk hn => hg.block k hk (fun e => hn e.symm)⟩ hr
theorem Mod.below (h : Mod S a w) (hb : Below w.heap.size w w') : Mod S a w' :=
  h.trans ⟨hb.os, hb.tape, hb.output, hb.size, fun k hk _ => hb.block k hk⟩
theorem Mod.of_below (hb : Below w.heap.size w w') : Mod S w w' := (Mod.refl S w).below hb
theorem Mod.to_below (h : Mod S a w) {B : Nat} (hB : B ≤ a.heap.size) (hs : ∀ i, S i → B ≤ i) : Below B a w :=
  ⟨h.os, h.tape, h.output, h.size, fun k hk => h.block k (Nat.lt_of_lt_of_le hk hB) (fun hp => absurd (hs k hp) (Nat.not_le.2 hk))⟩
theorem Mod.cell (h : Mod S w w') {p : Addr} (hp : p.block < w.heap.size) (hn : ¬ S p.block) : w'.cell? p = w.cell? p := World.cell?_of_block (h.block _ hp hn)
theorem Mod.frozen (h : Mod S w w') {p : Addr} (hp : p.block < w.heap.size) (hn : ¬ S p.block) : w'.frozen? p = w.frozen? p := World.frozen?_of_block (h.block _ hp hn)
/-- Where nothing old may change. -/
theorem below_alloc' (h : Below a.heap.size a w) (o : Obj) : Below a.heap.size a (w.alloc o) := h.alloc h.size o
theorem below_then' (h : Below a.heap.size a b) (k : Below b.heap.size b c) : Below a.heap.size a c := h.trans (k.mono h.size)
theorem below_drewN' {B : Nat} (h : Below B a w) (n : Nat) : Below B a (w.drewN n) := ⟨h.os, h.tape, h.output, h.size, h.block⟩
end

/-! ### 3. Kinds: what cells read as -/
structure Kind (α : Type) where
  sz : Nat
  cs : (Nat → Prop) → World → α → List Value → Prop
  len : ∀ {ok w x l}, cs ok w x l → l.length = sz
  one : ∀ {ok w x l}, cs ok w x l → ∀ u ∈ l, u.oneCell' = true
  keep : ∀ {ok w w' x l}, cs ok w x l → w.heap.size ≤ w'.heap.size → (∀ b, ok b → b < w.heap.size → w'.heap[b]? = w.heap[b]?) → cs ok w' x l
  mono : ∀ {ok ok' : Nat → Prop} {w x l}, cs ok w x l → (∀ b, ok b → b < w.heap.size → ok' b) → cs ok' w x l

/-- The cells xs read, element by element, as l. -/
def Enc {α : Type} (K : Kind α) (ok : Nat → Prop) (w : World) : List Value → List α → Prop
  | xs, [] => xs = []
  | xs, x :: l => ∃ cs ys, xs = cs ++ ys ∧ K.cs ok w x cs ∧ Enc K ok w ys l

section
variable {α : Type} {K : Kind α} {ok ok' : Nat → Prop} {w w' : World}
theorem Enc.length : ∀ {l : List α} {xs : List Value}, Enc K ok w xs l → xs.length = l.length * K.sz
  | [], xs, h => by have : xs = [] := h; subst this; simp
  | x :: l, xs, ⟨cs, ys, e, h1, h2⟩ => by subst e; rw [List.length_append, K.len h1, Enc.length h2, List.length_cons, Nat.add_mul]; omega
theorem Enc.one : ∀ {l : List α} {xs : List Value}, Enc K ok w xs l → ∀ u ∈ xs, u.oneCell' = true
  | [], xs, h, u, hu => by have : xs = [] := h; subst this; cases hu
  | x :: l, xs, ⟨cs, ys, e, h1, h2⟩, u, hu => by
    subst e
    rcases List.mem_append.1 hu with h | h
    · exact K.one h1 u h
    · exact Enc.one h2 u h
theorem Enc.keep : ∀ {l : List α} {xs : List Value}, Enc K ok w xs l → w.heap.size ≤ w'.heap.size → (∀ b, ok b → b < w.heap.size → w'.heap[b]? = w.heap[b]?) → Enc K ok w' xs l
  | [], xs, h, _, _ => h
  | x :: l, xs, ⟨cs, ys, e, h1, h2⟩, hs, hk => ⟨cs, ys, e, K.keep h1 hs hk, Enc.keep h2 hs hk⟩
theorem Enc.mono : ∀ {l : List α} {xs : List Value}, Enc K ok w xs l → (∀ b, ok b → b < w.heap.size → ok' b) → Enc K ok' w xs l
  | [], xs, h, _ => h
  | x :: l, xs, ⟨cs, ys, e, h1, h2⟩, hk => ⟨cs, ys, e, K.mono h1 hk, Enc.mono h2 hk⟩
theorem Enc.append : ∀ {l m : List α} {xs ys : List Value}, Enc K ok w xs l → Enc K ok w ys m → Enc K ok w (xs ++ ys) (l ++ m)
  | [], m, xs, ys, h, k => by have : xs = [] := h; subst this; exact k
  | x :: l, m, xs, ys, ⟨cs, zs, e, h1, h2⟩, k => ⟨cs, zs ++ ys, by rw [e, List.append_assoc], h1, Enc.append h2 k⟩
theorem Enc.single {x : α} {cs : List Value} (h : K.cs ok w x cs) : Enc K ok w cs [x] := ⟨cs, [], by simp, h, rfl⟩
theorem Enc.drop : ∀ {l : List α} {xs : List Value} (k : Nat), Enc K ok w xs l → Enc K ok w (xs.drop (k * K.sz)) (l.drop k)
  | l, xs, 0, h => by simpa using h
  | [], xs, k + 1, h => by have : xs = [] := h; subst this; simpa using (show Enc K ok w [] [] from rfl)
  | x :: l, xs, k + 1, ⟨cs, ys, e, h1, h2⟩ => by
    subst e
    have := Enc.drop k h2
    have hc : (cs ++ ys).drop ((k + 1) * K.sz) = ys.drop (k * K.sz) := by
      rw [Nat.add_mul, Nat.one_mul, Nat.add_comm (k * K.sz), ← K.len h1, ← List.drop_drop, List.drop_left]
    rw [hc]
    exact this
theorem Enc.take : ∀ {l : List α} {xs : List Value} (k : Nat), Enc K ok w xs l → Enc K ok w (xs.take (k * K.sz)) (l.take k)
  | l, xs, 0, h => by simpa using (show Enc K ok w [] [] from rfl)
  | [], xs, k + 1, h => by have : xs = [] := h; subst this; simpa using (show Enc K ok w [] [] from rfl)
  | x :: l, xs, k + 1, ⟨cs, ys, e, h1, h2⟩ => by
    subst e
    refine ⟨cs, ys.take (k * K.sz), ?_, h1, Enc.take k h2⟩
    rw [Nat.add_mul, Nat.one_mul, Nat.add_comm (k * K.sz), ← K.len h1, List.take_length_add_append]
/-- Element k, its cells and where they stand. -/
theorem Enc.get : ∀ {l : List α} {xs : List Value} (k : Nat) (hk : k < l.length), Enc K ok w xs l → ∃ cs, K.cs ok w l[k] cs ∧ ∀ i u, cs[i]? = some u → xs[k * K.sz + i]? = some u
  | x :: l, xs, 0, _, ⟨cs, ys, e, h1, _⟩ => ⟨cs, h1, fun i u hu => by subst e; simp only [Nat.zero_mul, Nat.zero_add]; rw [List.getElem?_append_left (List.getElem?_eq_some_iff.1 hu).1]; exact hu⟩
  | x :: l, xs, k + 1, hk, ⟨cs, ys, e, h1, h2⟩ => by
    obtain ⟨ds, h3, h4⟩ := Enc.get k (by simpa using hk) h2
    refine ⟨ds, h3, fun i u hu => ?_⟩
    subst e
    rw [show (k + 1) * K.sz + i = cs.length + (k * K.sz + i) from by rw [K.len h1, Nat.add_mul]; omega, List.getElem?_append_right (by omega)]
    simpa using h4 i u hu
end

/-- The slice value '.slice A l.length c' reads as l; its memory lies in blocks of ok. -/
def SL {α : Type} (K : Kind α) (ok : Nat → Prop) (w : World) (A : Option Addr) (c : Nat) (l : List α) : Prop :=
  l.length ≤ c ∧ c ≤ maxLen ∧ (0 < l.length → ∃ b off xs, A = some ⟨b, off, none⟩ ∧ ok b ∧ b < w.heap.size ∧ Enc K ok w xs l ∧ ∀ j u, xs[j]? = some u → w.cell? ⟨b, off + j, none⟩ = some u)

def anyB : Nat → Prop := fun _ => True

section
variable {α : Type} {K : Kind α} {ok ok' : Nat → Prop} {w w' : World} {A : Option Addr} {c : Nat} {l : List α}
theorem SL.keep (h : SL K ok w A c l) (hs : w.heap.size ≤ w'.heap.size) (hk : ∀ b, ok b → b < w.heap.size → w'.heap[b]? = w.heap[b]?) : SL K ok w' A c l :=
  ⟨h.1, h.2.1, fun hn => by
    obtain ⟨b, off, xs, e, h1, h2, h3, h4⟩ := h.2.2 hn
    exact ⟨b, off, xs, e, h1, by omega, h3.keep hs hk, fun j u hu => (World.cell?_of_block (hk b h1 h2)).trans (h4 j u hu)⟩⟩
theorem SL.mono (h : SL K ok w A c l) (hk : ∀ b, ok b → b < w.heap.size → ok' b) : SL K ok' w A c l :=
  ⟨h.1, h.2.1, fun hn => by
    obtain ⟨b, off, xs, e, h1, h2, h3, h4⟩ := h.2.2 hn
    exact ⟨b, off, xs, e, hk b h1 h2, h2, h3.mono hk, h4⟩⟩
theorem SL.any (h : SL K ok w A c l) : SL K anyB w A c l := h.mono fun _ _ _ => trivial
theorem SL.below (h : SL K ok w A c l) (hb : Below w.heap.size w w') : SL K ok w' A c l := h.keep hb.size fun _ _ hlt => hb.block _ hlt
theorem SL.mod {S : Nat → Prop} (h : SL K ok w A c l) (hb : Mod S w w') (hd : ∀ b, ok b → b < w.heap.size → ¬ S b) : SL K ok w' A c l := h.keep hb.size fun b hok hlt => hb.block _ hlt (hd b hok hlt)
theorem SL.alloc (h : SL K ok w A c l) (o : Obj) : SL K ok (w.alloc o) A c l := h.keep (by simp) fun _ _ hlt => Below.heap_alloc _ _ _ hlt
theorem SL.drewN (h : SL K ok w A c l) (n : Nat) : SL K ok (w.drewN n) A c l := h.keep (Nat.le_refl _) fun _ _ _ => rfl
theorem SL.setCell (h : SL K ok w A c l) {p : Addr} (hp : ¬ ok p.block) (u : Value) : SL K ok (w.setCell p u) A c l := h.keep (by simp) fun b hok _ => Below.heap_setCell _ _ _ _ (fun e => hp (e ▸ hok))
theorem SL.nil (K : Kind α) (ok : Nat → Prop) (w : World) : SL K ok w none 0 [] := ⟨Nat.le_refl _, Nat.zero_le _, fun h => absurd h (Nat.lt_irrefl _)⟩
theorem SL.empty (K : Kind α) (ok : Nat → Prop) (w : World) (A : Option Addr) (c : Nat) (hc : c ≤ maxLen) : SL K ok w A c [] := ⟨Nat.zero_le _, hc, fun h => absurd h (Nat.lt_irrefl _)⟩
/-- Element k, cell by cell. -/
theorem SL.at_ (h : SL K ok w A c l) (k : Nat) (hk : k < l.length) : ∃ b off cs, A = some ⟨b, off, none⟩ ∧ ok b ∧ b < w.heap.size ∧ K.cs ok w l[k] cs ∧ ∀ i u, cs[i]? = some u → w.cell? ⟨b, off + k * K.sz + i, none⟩ = some u := by
  obtain ⟨b, off, xs, e, h1, h2, h3, h4⟩ := h.2.2 (by omega)
  obtain ⟨cs, h5, h6⟩ := h3.get k hk
  exact ⟨b, off, cs, e, h1, h2, h5, fun i u hu => by rw [Nat.add_assoc]; exact h4 _ _ (h6 i u hu)⟩
/-- l[k:], as the model lays it. -/
theorem SL.cut (h : SL K ok w A c l) (k : Nat) (hk : k ≤ l.length) (hz : 0 < K.sz) : SL K ok w (if c = k then A else A.map (·.add (k * K.sz))) (c - k) (l.drop k) := by
  refine ⟨by rw [List.length_drop]; have := h.1; omega, by have := h.2.1; omega, fun hn => ?_⟩
  rw [List.length_drop] at hn
  obtain ⟨b, off, xs, e, h1, h2, h3, h4⟩ := h.2.2 (by omega)
  have hc := h.1
  rw [if_neg (by omega)]
  subst e
  refine ⟨b, off + k * K.sz, xs.drop (k * K.sz), ?_, h1, h2, h3.drop k, fun j u hu => ?_⟩
  · simp only [Option.map_some, Option.some.injEq, Addr.add]
    split
    · rename_i h0; simp [h0]
    · rfl
  · rw [List.getElem?_drop] at hu
    rw [Nat.add_assoc]
    exact h4 _ _ hu
/-- l[:k]. -/
theorem SL.front (h : SL K ok w A c l) (k : Nat) (hk : k ≤ l.length) : SL K ok w A c (l.take k) := by
  refine ⟨by rw [List.length_take]; have := h.1; omega, h.2.1, fun hn => ?_⟩
  rw [List.length_take] at hn
  obtain ⟨b, off, xs, e, h1, h2, h3, h4⟩ := h.2.2 (by omega)
  refine ⟨b, off, xs.take (k * K.sz), e, h1, h2, h3.take k, fun j u hu => h4 j u ?_⟩
  rw [List.getElem?_take] at hu
  split at hu
  · exact hu
  · cases hu
end

/-- Updates, four cells each. -/
def KU : Kind Upd where
  sz := 4
  cs := fun _ _ u l => l = [.string u.key, .int .i64 u.kind, .int .i64 u.n, .string u.s]
  len := by rintro _ _ _ _ rfl; rfl
  one := by rintro _ _ _ _ rfl u hu; simp at hu; rcases hu with rfl | rfl | rfl | rfl <;> rfl
  keep := fun h _ _ => h
  mono := fun h _ => h
/-- Rounds, three cells each, the third a slice of updates. -/
def KR : Kind Rnd where
  sz := 3
  cs := fun ok w r l => ∃ A c, l = [.int .i64 r.o, .int .i64 r.n, .slice A r.us.length c] ∧ SL KU ok w A c r.us
  len := by rintro _ _ _ _ ⟨_, _, rfl, _⟩; rfl
  one := by rintro _ _ _ _ ⟨_, _, rfl, _⟩ u hu; simp at hu; rcases hu with rfl | rfl | rfl <;> rfl
  keep := fun ⟨A, c, e, h⟩ hs hk => ⟨A, c, e, h.keep hs hk⟩
  mono := fun ⟨A, c, e, h⟩ hk => ⟨A, c, e, h.mono hk⟩
/-- Frames, four cells each. -/
def KF : Kind Frm where
  sz := 4
  cs := fun _ _ f l => l = [.int .i64 f.epoch, .int .i64 f.seq, .int .i64 f.ack, .string f.data]
  len := by rintro _ _ _ _ rfl; rfl
  one := by rintro _ _ _ _ rfl u hu; simp at hu; rcases hu with rfl | rfl | rfl | rfl <;> rfl
  keep := fun h _ _ => h
  mono := fun h _ => h
/-- Strings. -/
def KS : Kind ByteArray where
  sz := 1
  cs := fun _ _ s l => l = [.string s]
  len := by rintro _ _ _ _ rfl; rfl
  one := by rintro _ _ _ _ rfl u hu; simp at hu; subst hu; rfl
  keep := fun h _ _ => h
  mono := fun h _ => h

/-- Kinds whose cells lead nowhere. -/
def Kind.Flat {α : Type} (K : Kind α) : Prop := ∀ {ok ok' : Nat → Prop} {w w' : World} {x : α} {l : List Value}, K.cs ok w x l → K.cs ok' w' x l
theorem KU.flat : Kind.Flat KU := fun h => h
theorem KF.flat : Kind.Flat KF := fun h => h
theorem KS.flat : Kind.Flat KS := fun h => h
theorem Enc.flat {α : Type} {K : Kind α} (hf : K.Flat) {ok ok' : Nat → Prop} {w w' : World} : ∀ {l : List α} {xs : List Value}, Enc K ok w xs l → Enc K ok' w' xs l
  | [], xs, h => h
  | x :: l, xs, ⟨cs, ys, e, h1, h2⟩ => ⟨cs, ys, e, hf h1, Enc.flat hf h2⟩

theorem SL.upd {ok : Nat → Prop} {w : World} {A : Option Addr} {c : Nat} {l : List Upd} (h : SL KU ok w A c l) (k : Nat) (hk : k < l.length) :
    ∃ b off, A = some ⟨b, off, none⟩ ∧ ok b ∧ b < w.heap.size ∧ w.cell? ⟨b, off + k * 4, none⟩ = some (.string l[k].key) ∧ w.cell? ⟨b, off + k * 4 + 1, none⟩ = some (.int .i64 l[k].kind) ∧ w.cell? ⟨b, off + k * 4 + 2, none⟩ = some (.int .i64 l[k].n) ∧ w.cell? ⟨b, off + k * 4 + 3, none⟩ = some (.string l[k].s) := by
  obtain ⟨b, off, cs, e, h1, h2, h3, h4⟩ := h.at_ k hk
  obtain rfl : cs = _ := h3
  exact ⟨b, off, e, h1, h2, h4 0 _ rfl, h4 1 _ rfl, h4 2 _ rfl, h4 3 _ rfl⟩
theorem SL.rnd {ok : Nat → Prop} {w : World} {A : Option Addr} {c : Nat} {l : List Rnd} (h : SL KR ok w A c l) (k : Nat) (hk : k < l.length) :
    ∃ b off A' c', A = some ⟨b, off, none⟩ ∧ ok b ∧ b < w.heap.size ∧ w.cell? ⟨b, off + k * 3, none⟩ = some (.int .i64 l[k].o) ∧ w.cell? ⟨b, off + k * 3 + 1, none⟩ = some (.int .i64 l[k].n) ∧ w.cell? ⟨b, off + k * 3 + 2, none⟩ = some (.slice A' l[k].us.length c') ∧ SL KU ok w A' c' l[k].us := by
  obtain ⟨b, off, cs, e, h1, h2, h3, h4⟩ := h.at_ k hk
  obtain ⟨A', c', rfl, h5⟩ := h3
  exact ⟨b, off, A', c', e, h1, h2, h4 0 _ rfl, h4 1 _ rfl, h4 2 _ rfl, h5⟩
theorem SL.frm {ok : Nat → Prop} {w : World} {A : Option Addr} {c : Nat} {l : List Frm} (h : SL KF ok w A c l) (k : Nat) (hk : k < l.length) :
    ∃ b off, A = some ⟨b, off, none⟩ ∧ ok b ∧ b < w.heap.size ∧ w.cell? ⟨b, off + k * 4, none⟩ = some (.int .i64 l[k].epoch) ∧ w.cell? ⟨b, off + k * 4 + 1, none⟩ = some (.int .i64 l[k].seq) ∧ w.cell? ⟨b, off + k * 4 + 2, none⟩ = some (.int .i64 l[k].ack) ∧ w.cell? ⟨b, off + k * 4 + 3, none⟩ = some (.string l[k].data) := by
  obtain ⟨b, off, cs, e, h1, h2, h3, h4⟩ := h.at_ k hk
  obtain rfl : cs = _ := h3
  exact ⟨b, off, e, h1, h2, h4 0 _ rfl, h4 1 _ rfl, h4 2 _ rfl, h4 3 _ rfl⟩
theorem SL.str {ok : Nat → Prop} {w : World} {A : Option Addr} {c : Nat} {l : List ByteArray} (h : SL KS ok w A c l) (k : Nat) (hk : k < l.length) :
    ∃ b off, A = some ⟨b, off, none⟩ ∧ ok b ∧ b < w.heap.size ∧ w.cell? ⟨b, off + k, none⟩ = some (.string l[k]) := by
  obtain ⟨b, off, cs, e, h1, h2, h3, h4⟩ := h.at_ k hk
  obtain rfl : cs = _ := h3
  exact ⟨b, off, e, h1, h2, by simpa [KS] using h4 0 _ rfl⟩

/-! ### 4. A block known whole -/
def Blk (w : World) (g : Nat) (t : TypeId) (cs : Array Value) : Prop := w.heap[g]? = some (.cells cs t (0, 0))
section
variable {w w' : World} {g : Nat} {t : TypeId} {cs : Array Value}
theorem Blk.lt (h : Blk w g t cs) : g < w.heap.size := by
  rcases Nat.lt_or_ge g w.heap.size with hl | hl
  · exact hl
  · exact absurd h (by unfold Blk; rw [Array.getElem?_eq_none hl]; simp)
theorem Blk.cell (h : Blk w g t cs) (i : Nat) : w.cell? ⟨g, i, none⟩ = cs[i]? := cell_of_row w g i cs t (0, 0) h
theorem Blk.frozen (h : Blk w g t cs) (i : Nat) : w.frozen? ⟨g, i, none⟩ = false := by unfold Blk at h; simp [World.frozen?, h]
theorem Blk.new (w : World) (t : TypeId) (cs : Array Value) : Blk (w.alloc (.cells cs t)) w.heap.size t cs := heap_alloc_new w _
theorem Blk.alloc (h : Blk w g t cs) (o : Obj) : Blk (w.alloc o) g t cs := (Below.heap_alloc w o g h.lt).trans h
theorem Blk.drewN (h : Blk w g t cs) (n : Nat) : Blk (w.drewN n) g t cs := h
theorem Blk.drew (h : Blk w g t cs) : Blk w.drew g t cs := h
theorem Blk.set (h : Blk w g t cs) (i : Nat) (u : Value) : Blk (w.setCell ⟨g, i, none⟩ u) g t (cs.setIfInBounds i u) := by
  unfold Blk at h ⊢
  simp [World.setCell, Array.getElem?_modify, h]
theorem Blk.off (h : Blk w g t cs) {p : Addr} (hp : g ≠ p.block) (u : Value) : Blk (w.setCell p u) g t cs := (Below.heap_setCell w p u g hp).trans h
theorem Blk.below (h : Blk w g t cs) (hb : Below w.heap.size w w') : Blk w' g t cs := (hb.block g h.lt).trans h
theorem Blk.mod {S : Nat → Prop} (h : Blk w g t cs) (hb : Mod S w w') (hn : ¬ S g) : Blk w' g t cs := (hb.block g h.lt hn).trans h
theorem Blk.grown {row : Option Nat} (h : Blk w g t cs) (hb : w.grownBy w' row) (hg : some g ≠ row) : Blk w' g t cs := (hb.block g h.lt hg).trans h
theorem Blk.same {cs' : Array Value} {t' : TypeId} (h : Blk w g t cs) (h' : Blk w g t' cs') : t = t' ∧ cs = cs' := by
  unfold Blk at h h'
  rw [h] at h'
  simp only [Option.some.injEq, Obj.cells.injEq, and_true] at h'
  exact ⟨h'.2, h'.1⟩
theorem Blk.ne {g' : Nat} {t' : TypeId} {cs' : Array Value} (h : Blk w g t cs) (h' : Blk w g' t' cs') (hne : t ≠ t') : g ≠ g' := by
  rintro rfl
  exact hne (h.same h').1
end

/-! ### 5. Rows that are appended to -/
/-- v holds n elements of sz cells, xs in all: it is nil, or it lies from cell o on in a block whose cells from there up to its capacity are its own to write. -/
def Own (w : World) (e : TypeId) (sz : Nat) (v : Value) (n : Nat) (xs : List Value) : Prop :=
  xs.length = n * sz ∧ ((v = .slice none 0 0 ∧ n = 0) ∨
    ∃ b o cap cur, v = .slice (some ⟨b, o, none⟩) n cap ∧ Blk w b e cur ∧ n ≤ cap ∧ cap ≤ maxLen ∧ o + cap * sz ≤ cur.size ∧ (cur.toList.drop o).take (n * sz) = xs)

section
variable {w w' : World} {e : TypeId} {sz n : Nat} {v : Value} {xs : List Value}
theorem Own.nil (w : World) (e : TypeId) (sz : Nat) : Own w e sz (.slice none 0 0) 0 [] := ⟨by simp, .inl ⟨rfl, rfl⟩⟩
theorem Own.of_row {base : Nat} (h : w.ownsRow base e sz v n xs) : Own w e sz v n xs := by
  refine ⟨h.1, ?_⟩
  rcases h.2 with h0 | ⟨g, cap, cur, hv, _, hg, h1, h2, h3, h4⟩
  · exact .inl h0
  · exact .inr ⟨g, 0, cap, cur, hv, hg, h1, h2, by omega, by simpa using h4⟩
theorem Own.shape (h : Own w e sz v n xs) : ∃ A c, v = .slice A n c ∧ n ≤ c ∧ c ≤ maxLen := by
  rcases h.2 with ⟨rfl, rfl⟩ | ⟨b, o, cap, cur, rfl, _, h1, h2, _⟩
  · exact ⟨none, 0, rfl, Nat.le_refl _, Nat.zero_le _⟩
  · exact ⟨_, cap, rfl, h1, h2⟩
theorem Own.lt (h : Own w e sz v n xs) : ∀ k, v.ownBlock = some k → k < w.heap.size := by
  intro k hk
  rcases h.2 with ⟨rfl, _⟩ | ⟨b, o, cap, cur, rfl, hg, _⟩
  · simp [Value.ownBlock] at hk
  · simp [Value.ownBlock] at hk
    subst hk
    exact hg.lt
/-- It lives on where its own block is as it was. -/
theorem Own.keep (h : Own w e sz v n xs) (hk : ∀ b, v.ownBlock = some b → b < w.heap.size → w'.heap[b]? = w.heap[b]?) : Own w' e sz v n xs := by
  refine ⟨h.1, ?_⟩
  rcases h.2 with h0 | ⟨b, o, cap, cur, rfl, hg, h1⟩
  · exact .inl h0
  · exact .inr ⟨b, o, cap, cur, rfl, (hk b rfl hg.lt).trans hg, h1⟩
theorem Own.alloc (h : Own w e sz v n xs) (o : Obj) : Own (w.alloc o) e sz v n xs := h.keep fun _ _ hl => Below.heap_alloc _ _ _ hl
theorem Own.drewN (h : Own w e sz v n xs) (k : Nat) : Own (w.drewN k) e sz v n xs := h.keep fun _ _ _ => rfl
theorem Own.drew (h : Own w e sz v n xs) : Own w.drew e sz v n xs := h.keep fun _ _ _ => rfl
theorem Own.below (h : Own w e sz v n xs) (hb : Below w.heap.size w w') : Own w' e sz v n xs := h.keep fun _ _ hl => hb.block _ hl
theorem Own.mod {S : Nat → Prop} (h : Own w e sz v n xs) (hb : Mod S w w') (hn : ∀ b, v.ownBlock = some b → ¬ S b) : Own w' e sz v n xs := h.keep fun b hv hl => hb.block _ hl (hn b hv)
theorem Own.grown {row : Option Nat} (h : Own w e sz v n xs) (hb : w.grownBy w' row) (hn : ∀ b, v.ownBlock = some b → some b ≠ row) : Own w' e sz v n xs := h.keep fun b hv hl => hb.block _ hl (hn b hv)
theorem Own.off (h : Own w e sz v n xs) {p : Addr} (hp : ∀ b, v.ownBlock = some b → b ≠ p.block) (u : Value) : Own (w.setCell p u) e sz v n xs := h.keep fun b hv _ => Below.heap_setCell _ _ _ _ (hp b hv)
/-- Rows of other elements lie in other blocks. -/
theorem Own.ne_blk {g : Nat} {t : TypeId} {cs : Array Value} (h : Own w e sz v n xs) (hg : Blk w g t cs) (hne : e ≠ t) : v.ownBlock ≠ some g := by
  rcases h.2 with ⟨rfl, _⟩ | ⟨b, o, cap, cur, rfl, hh, _⟩
  · simp [Value.ownBlock]
  · intro he
    have : b = g := by simpa [Value.ownBlock] using he
    exact hh.ne hg hne this
theorem Own.cells (h : Own w e sz v n xs) : ∀ b o c, v = .slice (some ⟨b, o, none⟩) n c → ∀ j u, xs[j]? = some u → w.cell? ⟨b, o + j, none⟩ = some u := by
  intro b o c hv j u hu
  rcases h.2 with ⟨h0, _⟩ | ⟨b', o', cap, cur, hv', hg, h1, h2, h3, h4⟩
  · rw [hv] at h0; cases h0
  · rw [hv] at hv'
    simp only [Value.slice.injEq, Option.some.injEq, Addr.mk.injEq, and_true, true_and] at hv'
    obtain ⟨⟨rfl, rfl⟩, rfl⟩ := hv'
    rw [hg.cell]
    rw [← h4, List.getElem?_take] at hu
    split at hu
    · rw [List.getElem?_drop] at hu; simpa using hu
    · cases hu
/-- It reads as what its cells read as. -/
theorem Own.sl {α : Type} {K : Kind α} {ok : Nat → Prop} {l : List α} (h : Own w e K.sz v l.length xs) (he : Enc K ok w xs l) (hok : ∀ b, v.ownBlock = some b → ok b) : ∃ A c, v = .slice A l.length c ∧ SL K ok w A c l := by
  rcases h.2 with ⟨rfl, hn⟩ | ⟨b, o, cap, cur, rfl, hg, h1, h2, h3, h4⟩
  · obtain rfl := List.eq_nil_of_length_eq_zero hn
    exact ⟨none, 0, rfl, SL.nil K ok w⟩
  · exact ⟨_, cap, rfl, h1, h2, fun _ => ⟨b, o, xs, rfl, hok b rfl, hg.lt, he, h.cells b o cap rfl⟩⟩
end

/-- What is appended: m elements, their cells news; nil let in. -/
def Src (w : World) (sz : Nat) (A : Option Addr) (m : Nat) (news : List Value) : Prop :=
  news.length = m * sz ∧ (∀ u ∈ news, u.oneCell' = true) ∧ (0 < m → ∃ b off, A = some ⟨b, off, none⟩ ∧ b < w.heap.size ∧ ∀ j u, news[j]? = some u → w.cell? ⟨b, off + j, none⟩ = some u)
theorem Src.of_sl {α : Type} {K : Kind α} {ok : Nat → Prop} {w : World} {A : Option Addr} {c : Nat} {l : List α} (h : SL K ok w A c l) : ∃ news, Src w K.sz A l.length news ∧ Enc K ok w news l := by
  rcases Nat.eq_zero_or_pos l.length with h0 | h0
  · obtain rfl := List.eq_nil_of_length_eq_zero h0
    exact ⟨[], ⟨by simp, by simp, fun h => absurd h (Nat.lt_irrefl _)⟩, rfl⟩
  · obtain ⟨b, off, xs, e, h1, h2, h3, h4⟩ := h.2.2 h0
    exact ⟨xs, ⟨h3.length, h3.one, fun _ => ⟨b, off, e, h2, h4⟩⟩, h3⟩
/-- One element that has just been laid in a block of its own. -/
theorem Src.one {w : World} {g : Nat} {t : TypeId} {cs : Array Value} {sz : Nat} (hg : Blk w g t cs) (hs : cs.size = sz) (h1 : ∀ u ∈ cs.toList, u.oneCell' = true) : Src w sz (some ⟨g, 0, none⟩) 1 cs.toList :=
  ⟨by simp [hs], h1, fun _ => ⟨g, 0, rfl, hg.lt, fun j u hu => by rw [hg.cell]; simpa using hu⟩⟩

def setAll (d : Array Value) : Nat → List Value → Array Value
  | _, [] => d
  | p, v :: r => setAll (d.setIfInBounds p v) (p + 1) r
theorem size_setAll : ∀ (vs : List Value) (p : Nat) (d : Array Value), (setAll d p vs).size = d.size
  | [], _, _ => rfl
  | v :: r, p, d => by rw [setAll, size_setAll r]; simp
theorem get_setAll : ∀ (vs : List Value) (p : Nat) (d : Array Value), p + vs.length ≤ d.size → ∀ i : Nat, (setAll d p vs)[i]? = if p ≤ i ∧ i < p + vs.length then vs[i - p]? else d[i]?
  | [], p, d, _, i => by
    rw [if_neg (by simp only [List.length_nil]; omega)]; rfl
  | v :: r, p, d, hs, i => by
    simp only [List.length_cons] at hs
    rw [setAll, get_setAll r (p + 1) (d.setIfInBounds p v) (by simp; omega) i]
    by_cases h1 : p + 1 ≤ i ∧ i < p + 1 + r.length
    · rw [if_pos h1, if_pos (by simp; omega), show i - p = (i - (p + 1)) + 1 from by omega, List.getElem?_cons_succ]
    · rw [if_neg h1]
      by_cases h2 : i = p
      · subst h2
        rw [if_pos (by simp)]
        simp [Array.getElem?_setIfInBounds, show i < d.size from by omega]
      · rw [if_neg (by simp; omega), Array.getElem?_setIfInBounds, if_neg (fun e => h2 e.symm)]
theorem Blk.setCells {e : TypeId} {b : Nat} : ∀ (vs : List Value) (p : Nat) (w : World) (d : Array Value), Blk w b e d → Blk (w.setCells b p vs) b e (setAll d p vs) ∧ w.grownBy (w.setCells b p vs) (some b)
  | [], p, w, d, h => ⟨h, World.grownBy.refl w _⟩
  | v :: r, p, w, d, h => by
    obtain ⟨h1, h2⟩ := Blk.setCells r (p + 1) (w.setCell ⟨b, p, none⟩ v) _ (h.set p v)
    refine ⟨h1, World.grownBy.trans (b := w.setCell ⟨b, p, none⟩ v) ⟨rfl, rfl, rfl, by simp, fun k _ hn => Below.heap_setCell _ _ _ _ (fun e => hn (by rw [e]))⟩ h2⟩

section
variable {P : Program} (w : World)
theorem run_append_gen (t ty e : TypeId) (i : TypeInfo) (z : Value) (size bytes : Nat) (ht : P.underlying t = some (.slice e)) (hi : P.info? e = some i) (hz : i.zero = some z)
    (hsize : i.size = size) (hby : i.bytes = bytes) (hzs : z.cells.size = size) (hsz : 0 < size)
    (v : Value) (n : Nat) (xs : List Value) (hown : Own w e size v n xs) (A : Option Addr) (m c : Nat) (news : List Value) (hsrc : Src w size A m news)
    (hbytes : (n + m) * bytes ≤ 140737488355328) (hb0 : 0 < bytes) :
    ∃ v' w', (Builtin.append_ #[t, t] ty #[v, .slice A m c]).run P w = .ok v' w' ∧ Own w' e size v' (n + m) (xs ++ news) ∧ w.grownBy w' v.ownBlock ∧
      (v'.ownBlock = v.ownBlock ∨ v'.ownBlock = some w.heap.size) := by
  have h63 : n + m ≤ maxLen := by
    have : n + m ≤ (n + m) * bytes := Nat.le_mul_of_pos_right _ hb0
    simp only [maxLen]; omega
  rcases Nat.eq_zero_or_pos m with h0 | h0
  · subst h0
    obtain rfl : news = [] := List.eq_nil_of_length_eq_zero (by simpa using hsrc.1)
    refine ⟨v, w, ?_, by simpa using hown, World.grownBy.refl w _, .inl rfl⟩
    have hr : (Builtin.firstCells i.size 0 (.slice A 0 c)).run P w = .ok #[] w := by
      cases A <;> simp [Builtin.firstCells, loadCells, loadCellsFrom]
    rcases hown.2 with ⟨rfl, rfl⟩ | ⟨b, o, cap, cur, rfl, _, hnc, _⟩
    · simp [Builtin.append_, run_underlying ht, sizeOf, typeInfo, hi, Builtin.lenOf, hr]
    · simp [Builtin.append_, run_underlying ht, sizeOf, typeInfo, hi, Builtin.lenOf, hr, hnc, storeCells]
  · obtain ⟨sb, so, rfl, _, hnews⟩ := hsrc.2.2 h0
    have hnews' : ∀ j u, news[j]? = some u → w.cell? ((⟨sb, so, none⟩ : Addr).add j) = some u := fun j u hu => by rw [Addr.add_lit]; exact hnews j u hu
    rcases hown.2 with ⟨rfl, rfl⟩ | ⟨b, o, cap, cur, rfl, hg, hnc, hcm, hcs, htake⟩
    · obtain rfl : xs = [] := List.eq_nil_of_length_eq_zero (by simpa using hown.1)
      obtain ⟨v', w', hrun, h2, h3, _, h5⟩ := run_append_own_at (P := P) w w.heap.size t ty e i z size bytes ht hi hz hsize hby hzs hsz (.slice none 0 0) 0 [] (World.ownsRow_nil w _ e size) ⟨sb, so, none⟩ m c news hsrc.1 hnews' hsrc.2.1 h63 hbytes (Nat.le_refl _)
      exact ⟨v', w', hrun, Own.of_row h2, h3, h5⟩
    · by_cases hroom : n + m ≤ cap
      · subst hsize
        have hm1 : (n + m) * i.size ≤ cap * i.size := Nat.mul_le_mul_right _ hroom
        rw [Nat.add_mul] at hm1
        have hfit : o + n * i.size + news.length ≤ cur.size := by rw [hsrc.1]; omega
        have hr := run_append_room_cells (P := P) w t ty e i ht hi b o n cap ⟨sb, so, none⟩ m c news hsrc.1 hnews' hsrc.2.1 hroom
          (fun j hj => by rw [hg.cell]; simp [Array.getElem?_eq_getElem (show o + n * i.size + j < cur.size by omega)]) (fun j _ => hg.frozen _)
        obtain ⟨hb1, hb2⟩ := Blk.setCells news (o + n * i.size) w cur hg
        refine ⟨_, _, hr, ⟨by rw [List.length_append, hown.1, hsrc.1, Nat.add_mul], .inr ⟨b, o, cap, _, rfl, hb1, hroom, hcm, by rw [size_setAll]; exact hcs, ?_⟩⟩, hb2, .inl rfl⟩
        apply List.ext_getElem?
        intro j
        rw [List.getElem?_take, List.getElem?_drop, Array.getElem?_toList, get_setAll news _ _ hfit, List.getElem?_append, hown.1]
        have hx : ∀ j, j < n * i.size → xs[j]? = cur[o + j]? := by
          intro j hj
          rw [← htake, List.getElem?_take, if_pos hj, List.getElem?_drop, Array.getElem?_toList]
        have hnl := hsrc.1
        by_cases hj : j < n * i.size
        · rw [if_pos (by rw [Nat.add_mul]; omega), if_neg (by omega), if_pos hj, hx j hj]
        · rw [if_neg hj]
          by_cases hj2 : j < (n + m) * i.size
          · rw [if_pos hj2, if_pos (by rw [Nat.add_mul] at hj2; omega)]
            congr 1
            omega
          · rw [if_neg hj2, List.getElem?_eq_none (by rw [Nat.add_mul] at hj2; omega)]
      · have holds : ∀ j u, xs[j]? = some u → w.cell? ((⟨b, o, none⟩ : Addr).add j) = some u := fun j u hu => by rw [Addr.add_lit]; exact hown.cells b o cap rfl j u hu
        subst hsize
        subst hby
        have hge := grownCap_ge w (n + m) cap e
        have hcm' : grownCap w (n + m) cap e ≤ maxLen := grownCap_le_maxLen w (n + m) cap e h63
        have hr := run_append_grow (P := P) w t ty e i z ht hi hz ⟨b, o, none⟩ n cap xs hown.1 holds ⟨sb, so, none⟩ m c news hsrc.1 hnews' (by omega) (by simp only [maxLen] at h63; omega) (growslice_fits (by omega) hbytes)
        refine ⟨_, _, hr, ⟨by rw [List.length_append, hown.1, hsrc.1, Nat.add_mul], .inr ⟨w.heap.size, 0, _, _, rfl, heap_alloc_new w.drew _, hge, hcm', ?_, ?_⟩⟩, ⟨rfl, rfl, rfl, by simp, fun k hk _ => Below.heap_alloc w.drew _ k hk⟩, .inr rfl⟩
        · simp only [Array.size_append, List.size_toArray, size_zeroCells, hzs, hown.1, hsrc.1, ← Nat.add_mul]
          rw [Nat.zero_add]
          exact Nat.mul_le_mul_right _ (by omega)
        · simp only [Array.toList_append, List.append_assoc, List.drop_zero]
          rw [← List.append_assoc]
          exact List.take_left' (by rw [List.length_append, hown.1, hsrc.1, Nat.add_mul])

/-- At the operation, for the walk. -/
theorem wp_append_gen {o : Oper} {a : Act} {K : Act → World → Prop} {Q : Exit → Act → World → Prop} (s x : Operand) (t : TypeId)
    (ho : o.op = .call { callee := .builtin .append, args := #[s, x], argTypes := #[t, t] })
    (e : TypeId) (z : Value) (size bytes : Nat) (ht : P.underlying t = some (.slice e)) (hinfo : (P.info? e).map (fun i => (i.zero, i.size, i.bytes)) = some (some z, size, bytes))
    (hzs : z.cells.size = size) (hsz : 0 < size) (hb0 : 0 < bytes)
    (v : Value) (n : Nat) (xs : List Value) (hs : a.eval s = v) (hown : Own w e size v n xs) (A : Option Addr) (m c : Nat) (news : List Value) (hx : a.eval x = .slice A m c) (hsrc : Src w size A m news)
    (hbytes : (n + m) * bytes ≤ 140737488355328)
    (h : ∀ v' w', Own w' e size v' (n + m) (xs ++ news) → w.grownBy w' v.ownBlock → (v'.ownBlock = v.ownBlock ∨ v'.ownBlock = some w.heap.size) → K (a.put o.dst v') w') : o.wp P a w K Q := by
  obtain ⟨i0, hi, hz0, hz1, hz2⟩ := info_parts hinfo
  obtain ⟨v', w', hr, h2, h3, h4⟩ := run_append_gen (P := P) w t o.type e i0 z size bytes ht hi hz0 hz1 hz2 hzs hsz v n xs hown A m c news hsrc hbytes hb0
  unfold Oper.wp execOp
  simp only [ho, resolve, invoke, builtin, Sem.run_bind, Sem.run_pure, Result.andThen_ok, List.map_toArray, List.map_cons, List.map_nil, hs, hx, hr]
  exact h v' w' h2 h3 h4
theorem wpList_append_gen {ops : Array Oper} {rest : List Oper} {o : Oper} {a : Act} {Q : Exit → Act → World → Prop} (hgd : o.guard = none) (s x : Operand) (t : TypeId)
    (ho : o.op = .call { callee := .builtin .append, args := #[s, x], argTypes := #[t, t] })
    (e : TypeId) (z : Value) (size bytes : Nat) (ht : P.underlying t = some (.slice e)) (hinfo : (P.info? e).map (fun i => (i.zero, i.size, i.bytes)) = some (some z, size, bytes))
    (hzs : z.cells.size = size) (hsz : 0 < size) (hb0 : 0 < bytes)
    (v : Value) (n : Nat) (xs : List Value) (hs : a.eval s = v) (hown : Own w e size v n xs) (A : Option Addr) (m c : Nat) (news : List Value) (hx : a.eval x = .slice A m c) (hsrc : Src w size A m news)
    (hbytes : (n + m) * bytes ≤ 140737488355328)
    (h : ∀ v' w', Own w' e size v' (n + m) (xs ++ news) → w.grownBy w' v.ownBlock → (v'.ownBlock = v.ownBlock ∨ v'.ownBlock = some w.heap.size) → wpList P ops Q rest (a.put o.dst v') w') :
    wpList P ops Q (o :: rest) a w :=
  wpList_plain hgd fun _ hK => wp_append_gen w s x t ho e z size bytes ht hinfo hzs hsz hb0 v n xs hs hown A m c news hx hsrc hbytes fun v' w' h2 h3 h4 => hK _ _ (h v' w' h2 h3 h4)
end

/-! ### 6. Small words -/
/-- A block known whole: three rules for the walk. -/
theorem Blk.rules {w : World} {g : Nat} {t : TypeId} {cs : Array Value} (h : Blk w g t cs) : (∀ i, w.cell? ⟨g, i, none⟩ = cs[i]?) ∧ (∀ i, w.frozen? ⟨g, i, none⟩ = false) ∧ g < w.heap.size := ⟨h.cell, h.frozen, h.lt⟩

/-- Behind a callee that leaves the old blocks alone: two rules for the walk. -/
theorem bcell {W w1 : World} (hb : Below W.heap.size W w1) : (∀ b o, b < W.heap.size → w1.cell? ⟨b, o, none⟩ = W.cell? ⟨b, o, none⟩) ∧ (∀ b o, b < W.heap.size → w1.frozen? ⟨b, o, none⟩ = W.frozen? ⟨b, o, none⟩) :=
  ⟨fun b o h => hb.cell (p := ⟨b, o, none⟩) h, fun b o h => hb.frozen (p := ⟨b, o, none⟩) h⟩

theorem info46 : (Tryd.prog.info? 46).map (fun i => (i.zero, i.size, i.bytes)) = some (some (.agg #[.string ByteArray.empty, .int .i64 0, .int .i64 0, .string ByteArray.empty]), 4, 48) := by kernel_rfl
theorem info38 : (Tryd.prog.info? 38).map (fun i => (i.zero, i.size, i.bytes)) = some (some (.agg #[.int .i64 0, .int .i64 0, .slice none 0 0]), 3, 40) := by kernel_rfl

/-- A slice in memory that has been made since w. -/
def newB (w : World) : Nat → Prop := fun b => w.heap.size ≤ b

/-- What a box that is laid, and then a callee that leaves all old blocks alone, leave. -/
theorem box_then {w w1 : World} {o : Obj} (hb : Below (w.alloc o).heap.size (w.alloc o) w1) : Below w.heap.size w w1 := ((Below.refl _ _).alloc (Nat.le_refl _) _).trans (hb.mono (by simp))

theorem Blk.belowD {W W' w1 : World} {g : Nat} {t : TypeId} {cs : Array Value} (h : Blk W g t cs) (hb : Below W'.heap.size W' w1) (e : W'.heap = W.heap := by rfl) : Blk w1 g t cs :=
  Blk.below (w := W') (show W'.heap[g]? = _ by rw [e]; exact h) hb
end Go.Proofs.YthdnoljmiehegaaDoor
