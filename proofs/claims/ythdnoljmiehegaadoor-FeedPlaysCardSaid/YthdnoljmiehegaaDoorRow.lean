/- WHAT IS SAID HERE: a slice that the code appends to, as a list of plain data: the law for one more element, and for another slice behind it. -/
import Derived.Test.YthdnoljmiehegaaDoorBase
import Derived.RegionTactic
set_option linter.unusedVariables false
set_option linter.unusedSimpArgs false
namespace Go.Proofs.YthdnoljmiehegaaDoor
open Go.RowKit

/-- v holds the list l in a row of its own; whatever l leads to lies in blocks of ok, none of them the row's. -/
def OwnL {α : Type} (K : Kind α) (e : TypeId) (ok : Nat → Prop) (w : World) (v : Value) (l : List α) : Prop :=
  ∃ xs, Own w e K.sz v l.length xs ∧ Enc K (fun b => ok b ∧ v.ownBlock ≠ some b) w xs l ∧ ∀ b, v.ownBlock = some b → ok b

section
variable {α : Type} {K : Kind α} {e : TypeId} {ok ok' : Nat → Prop} {w w' : World} {v : Value} {l : List α}
theorem OwnL.nil (K : Kind α) (e : TypeId) (ok : Nat → Prop) (w : World) : OwnL K e ok w (.slice none 0 0) [] := ⟨[], Own.nil w e K.sz, rfl, fun b h => by simp [Value.ownBlock] at h⟩
theorem OwnL.shape (h : OwnL K e ok w v l) : ∃ A c, v = .slice A l.length c ∧ l.length ≤ c ∧ c ≤ maxLen := h.choose_spec.1.shape
theorem OwnL.lt (h : OwnL K e ok w v l) : ∀ k, v.ownBlock = some k → k < w.heap.size := h.choose_spec.1.lt
theorem OwnL.ok_ (h : OwnL K e ok w v l) : ∀ b, v.ownBlock = some b → ok b := h.choose_spec.2.2
theorem OwnL.mono (h : OwnL K e ok w v l) (hk : ∀ b, ok b → b < w.heap.size → ok' b) : OwnL K e ok' w v l := by
  obtain ⟨xs, h1, h2, h3⟩ := h
  exact ⟨xs, h1, h2.mono fun b hb hl => ⟨hk b hb.1 hl, hb.2⟩, fun b hb => hk b (h3 b hb) (h1.lt b hb)⟩
theorem OwnL.keep (h : OwnL K e ok w v l) (hs : w.heap.size ≤ w'.heap.size) (hk : ∀ b, ok b → b < w.heap.size → w'.heap[b]? = w.heap[b]?) : OwnL K e ok w' v l := by
  obtain ⟨xs, h1, h2, h3⟩ := h
  exact ⟨xs, h1.keep fun b hb hl => hk b (h3 b hb) hl, h2.keep hs fun b hb hl => hk b hb.1 hl, h3⟩
theorem OwnL.mod {S : Nat → Prop} (h : OwnL K e ok w v l) (hb : Mod S w w') (hd : ∀ b, ok b → b < w.heap.size → ¬ S b) : OwnL K e ok w' v l := h.keep hb.size fun b hok hl => hb.block _ hl (hd b hok hl)
theorem OwnL.below (h : OwnL K e ok w v l) (hb : Below w.heap.size w w') : OwnL K e ok w' v l := h.keep hb.size fun b _ hl => hb.block _ hl
theorem OwnL.alloc (h : OwnL K e ok w v l) (o : Obj) : OwnL K e ok (w.alloc o) v l := h.keep (by simp) fun _ _ hl => Below.heap_alloc _ _ _ hl
theorem OwnL.drewN (h : OwnL K e ok w v l) (n : Nat) : OwnL K e ok (w.drewN n) v l := h.keep (Nat.le_refl _) fun _ _ _ => rfl
theorem OwnL.drew (h : OwnL K e ok w v l) : OwnL K e ok w.drew v l := h.keep (Nat.le_refl _) fun _ _ _ => rfl
theorem OwnL.setCell (h : OwnL K e ok w v l) {p : Addr} (hp : ¬ ok p.block) (u : Value) : OwnL K e ok (w.setCell p u) v l := h.keep (by simp) fun b hok _ => Below.heap_setCell _ _ _ _ (fun e => hp (e ▸ hok))
theorem OwnL.ne_blk {g : Nat} {t : TypeId} {cs : Array Value} (h : OwnL K e ok w v l) (hg : Blk w g t cs) (hne : e ≠ t) : v.ownBlock ≠ some g := h.choose_spec.1.ne_blk hg hne
/-- It reads as l. -/
theorem OwnL.sl (h : OwnL K e ok w v l) : ∃ A c, v = .slice A l.length c ∧ SL K ok w A c l := by
  obtain ⟨xs, h1, h2, h3⟩ := h
  exact h1.sl (h2.mono fun b hb _ => hb.1) h3
theorem OwnL.sl' {A : Option Addr} {c : Nat} (h : OwnL K e ok w (.slice A l.length c) l) : SL K ok w A c l := by
  obtain ⟨A', c', hv, hs⟩ := h.sl
  cases hv
  exact hs
/-- A block of its own, of no elements. -/
theorem OwnL.empty (K : Kind α) (e : TypeId) (w : World) (hok : ok w.heap.size) : OwnL K e ok (w.alloc (.cells #[] e)) (.slice (some ⟨w.heap.size, 0, none⟩) 0 0) [] :=
  ⟨[], ⟨by simp, .inr ⟨_, 0, 0, _, rfl, Blk.new _ _ _, Nat.le_refl _, Nat.zero_le _, by simp, by simp⟩⟩, rfl, fun b hb => by simp [Value.ownBlock] at hb; subst hb; exact hok⟩
/-- What an append leaves. -/
theorem OwnL.grow {xs news : List Value} {m : List α} {v' : Value} (h1 : Own w e K.sz v l.length xs) (h2 : Enc K (fun b => ok b ∧ v.ownBlock ≠ some b) w xs l) (h3 : ∀ b, v.ownBlock = some b → ok b)
    (hm : Enc K (fun b => ok b ∧ v.ownBlock ≠ some b) w news m) (hn : ok w.heap.size)
    (hown : Own w' e K.sz v' (l.length + m.length) (xs ++ news)) (hg : w.grownBy w' v.ownBlock) (hat : v'.ownBlock = v.ownBlock ∨ v'.ownBlock = some w.heap.size) : OwnL K e ok w' v' (l ++ m) := by
  refine ⟨xs ++ news, by rw [List.length_append]; exact hown, ?_, ?_⟩
  · have h4 := (h2.append hm).keep (w' := w') hg.size (fun b hb hl => hg.block b hl (fun e => hb.2 e.symm))
    have h5 : ∀ b, b < w.heap.size → v.ownBlock ≠ some b → v'.ownBlock ≠ some b := by
      intro b hl hne
      rcases hat with e | e <;> rw [e]
      · exact hne
      · intro h; simp at h; omega
    have h6 := (h2.append hm).mono (ok' := fun b => ok b ∧ v.ownBlock ≠ some b ∧ b < w.heap.size) (fun b hb hl => ⟨hb.1, hb.2, hl⟩)
    exact (h6.keep (w' := w') hg.size (fun b hb hl => hg.block b hl (fun e => hb.2.1 e.symm))).mono fun b hb _ => ⟨hb.1, h5 b hb.2.2 hb.2.1⟩
  · intro b hb
    rcases hat with e | e <;> rw [e] at hb
    · exact h3 b hb
    · simp at hb; subst hb; exact hn
end

section
variable {P : Program} {α : Type} (K : Kind α) (w : World)
/-- One element more, at the operation. -/
theorem wp_push {o : Oper} {a : Act} {N : Act → World → Prop} {Q : Exit → Act → World → Prop} (s x : Operand) (t : TypeId)
    (ho : o.op = .call { callee := .builtin .append, args := #[s, x], argTypes := #[t, t] })
    (e : TypeId) (z : Value) (bytes : Nat) (ht : P.underlying t = some (.slice e)) (hinfo : (P.info? e).map (fun i => (i.zero, i.size, i.bytes)) = some (some z, K.sz, bytes))
    (hzs : z.cells.size = K.sz) (hsz : 0 < K.sz) (hb0 : 0 < bytes) (ok : Nat → Prop)
    (v : Value) (l : List α) (hs : a.eval s = v) (hown : OwnL K e ok w v l) (n : Nat) (hlen : l.length = n) (g : Nat) (y : α) (t' : TypeId) (cs : Array Value) (hx : a.eval x = .slice (some ⟨g, 0, none⟩) 1 1) (hg : Blk w g t' cs)
    (hel : K.cs (fun b => ok b ∧ v.ownBlock ≠ some b) w y cs.toList) (hn : ok w.heap.size) (hbytes : (n + 1) * bytes ≤ 140737488355328)
    (h : ∀ A c w', OwnL K e ok w' (.slice A (n + 1) c) (l ++ [y]) → w.grownBy w' v.ownBlock → ((Value.slice A (n + 1) c).ownBlock = v.ownBlock ∨ (Value.slice A (n + 1) c).ownBlock = some w.heap.size) → N (a.put o.dst (.slice A (n + 1) c)) w') : o.wp P a w N Q := by
  subst hlen
  obtain ⟨xs, h1, h2, h3⟩ := hown
  have hsrc : Src w K.sz (some ⟨g, 0, none⟩) 1 cs.toList := Src.one hg (by have := K.len hel; simpa using this) (K.one hel)
  refine wp_append_gen w s x t ho e z K.sz bytes ht hinfo hzs hsz hb0 v l.length xs hs h1 _ 1 1 _ hx hsrc hbytes ?_
  intro v' w' hown' hg' hat
  have hL : OwnL K e ok w' v' (l ++ [y]) := OwnL.grow h1 h2 h3 (Enc.single hel) hn hown' hg' hat
  obtain ⟨A, c, rfl, _, _⟩ := hown'.shape
  exact h A c w' hL hg' hat
theorem wpList_push {ops : Array Oper} {rest : List Oper} {o : Oper} {a : Act} {Q : Exit → Act → World → Prop} (hgd : o.guard = none) (s x : Operand) (t : TypeId)
    (ho : o.op = .call { callee := .builtin .append, args := #[s, x], argTypes := #[t, t] })
    (e : TypeId) (z : Value) (bytes : Nat) (ht : P.underlying t = some (.slice e)) (hinfo : (P.info? e).map (fun i => (i.zero, i.size, i.bytes)) = some (some z, K.sz, bytes))
    (hzs : z.cells.size = K.sz) (hsz : 0 < K.sz) (hb0 : 0 < bytes) (ok : Nat → Prop)
    (v : Value) (l : List α) (hs : a.eval s = v) (hown : OwnL K e ok w v l) (n : Nat) (hlen : l.length = n) (g : Nat) (y : α) (t' : TypeId) (cs : Array Value) (hx : a.eval x = .slice (some ⟨g, 0, none⟩) 1 1) (hg : Blk w g t' cs)
    (hel : K.cs (fun b => ok b ∧ v.ownBlock ≠ some b) w y cs.toList) (hn : ok w.heap.size) (hbytes : (n + 1) * bytes ≤ 140737488355328)
    (h : ∀ A c w', OwnL K e ok w' (.slice A (n + 1) c) (l ++ [y]) → w.grownBy w' v.ownBlock → ((Value.slice A (n + 1) c).ownBlock = v.ownBlock ∨ (Value.slice A (n + 1) c).ownBlock = some w.heap.size) → wpList P ops Q rest (a.put o.dst (.slice A (n + 1) c)) w') :
    wpList P ops Q (o :: rest) a w :=
  wpList_plain hgd fun _ hK => wp_push K w s x t ho e z bytes ht hinfo hzs hsz hb0 ok v l hs hown n hlen g y t' cs hx hg hel hn hbytes fun A c w' h1 h2 h3 => hK _ _ (h A c w' h1 h2 h3)
/-- At a step of a region that draws its order. -/
theorem step_push {ops : Array Oper} {o : Oper} {a : Act} {N : Act → World → Prop} {Q : Exit → Act → World → Prop} {E : Prop} (hgd : o.guard = none) (s x : Operand) (t : TypeId)
    (ho : o.op = .call { callee := .builtin .append, args := #[s, x], argTypes := #[t, t] })
    (e : TypeId) (z : Value) (bytes : Nat) (ht : P.underlying t = some (.slice e)) (hinfo : (P.info? e).map (fun i => (i.zero, i.size, i.bytes)) = some (some z, K.sz, bytes))
    (hzs : z.cells.size = K.sz) (hsz : 0 < K.sz) (hb0 : 0 < bytes) (ok : Nat → Prop)
    (v : Value) (l : List α) (hs : a.eval s = v) (hown : OwnL K e ok w v l) (n : Nat) (hlen : l.length = n) (g : Nat) (y : α) (t' : TypeId) (cs : Array Value) (hx : a.eval x = .slice (some ⟨g, 0, none⟩) 1 1) (hg : Blk w g t' cs)
    (hel : K.cs (fun b => ok b ∧ v.ownBlock ≠ some b) w y cs.toList) (hn : ok w.heap.size) (hbytes : (n + 1) * bytes ≤ 140737488355328)
    (h : ∀ A c w', OwnL K e ok w' (.slice A (n + 1) c) (l ++ [y]) → w.grownBy w' v.ownBlock → ((Value.slice A (n + 1) c).ownBlock = v.ownBlock ∨ (Value.slice A (n + 1) c).ownBlock = some w.heap.size) → N (a.put o.dst (.slice A (n + 1) c)) w') :
    if Region.wanted o (yielded ops a.tmps) = true then Oper.wp P o a w N Q else E := by
  have hw : Region.wanted o (yielded ops a.tmps) = true := by simp [Region.wanted, hgd]
  rw [if_pos hw]
  exact wp_push K w s x t ho e z bytes ht hinfo hzs hsz hb0 ok v l hs hown n hlen g y t' cs hx hg hel hn hbytes h

/-- Another slice behind it, at the operation. -/
theorem wp_extend {o : Oper} {a : Act} {N : Act → World → Prop} {Q : Exit → Act → World → Prop} (s x : Operand) (t : TypeId)
    (ho : o.op = .call { callee := .builtin .append, args := #[s, x], argTypes := #[t, t] })
    (e : TypeId) (z : Value) (bytes : Nat) (ht : P.underlying t = some (.slice e)) (hinfo : (P.info? e).map (fun i => (i.zero, i.size, i.bytes)) = some (some z, K.sz, bytes))
    (hzs : z.cells.size = K.sz) (hsz : 0 < K.sz) (hb0 : 0 < bytes) (ok : Nat → Prop)
    (v : Value) (l m : List α) (hs : a.eval s = v) (hown : OwnL K e ok w v l) (n : Nat) (hlen : l.length = n) (q : Nat) (hq : m.length = q) (B : Option Addr) (d : Nat) (hx : a.eval x = .slice B q d)
    (hsl : SL K (fun b => ok b ∧ v.ownBlock ≠ some b) w B d m) (hn : ok w.heap.size) (hbytes : (n + q) * bytes ≤ 140737488355328)
    (h : ∀ A c w', OwnL K e ok w' (.slice A (n + q) c) (l ++ m) → w.grownBy w' v.ownBlock → ((Value.slice A (n + q) c).ownBlock = v.ownBlock ∨ (Value.slice A (n + q) c).ownBlock = some w.heap.size) → N (a.put o.dst (.slice A (n + q) c)) w') : o.wp P a w N Q := by
  subst hlen
  subst hq
  obtain ⟨xs, h1, h2, h3⟩ := hown
  obtain ⟨news, hsrc, henc⟩ := Src.of_sl hsl
  refine wp_append_gen w s x t ho e z K.sz bytes ht hinfo hzs hsz hb0 v l.length xs hs h1 _ m.length d _ hx hsrc hbytes ?_
  intro v' w' hown' hg' hat
  have hL : OwnL K e ok w' v' (l ++ m) := OwnL.grow h1 h2 h3 henc hn hown' hg' hat
  obtain ⟨A, c, rfl, _, _⟩ := hown'.shape
  exact h A c w' hL hg' hat
theorem wpList_extend {ops : Array Oper} {rest : List Oper} {o : Oper} {a : Act} {Q : Exit → Act → World → Prop} (hgd : o.guard = none) (s x : Operand) (t : TypeId)
    (ho : o.op = .call { callee := .builtin .append, args := #[s, x], argTypes := #[t, t] })
    (e : TypeId) (z : Value) (bytes : Nat) (ht : P.underlying t = some (.slice e)) (hinfo : (P.info? e).map (fun i => (i.zero, i.size, i.bytes)) = some (some z, K.sz, bytes))
    (hzs : z.cells.size = K.sz) (hsz : 0 < K.sz) (hb0 : 0 < bytes) (ok : Nat → Prop)
    (v : Value) (l m : List α) (hs : a.eval s = v) (hown : OwnL K e ok w v l) (n : Nat) (hlen : l.length = n) (q : Nat) (hq : m.length = q) (B : Option Addr) (d : Nat) (hx : a.eval x = .slice B q d)
    (hsl : SL K (fun b => ok b ∧ v.ownBlock ≠ some b) w B d m) (hn : ok w.heap.size) (hbytes : (n + q) * bytes ≤ 140737488355328)
    (h : ∀ A c w', OwnL K e ok w' (.slice A (n + q) c) (l ++ m) → w.grownBy w' v.ownBlock → ((Value.slice A (n + q) c).ownBlock = v.ownBlock ∨ (Value.slice A (n + q) c).ownBlock = some w.heap.size) → wpList P ops Q rest (a.put o.dst (.slice A (n + q) c)) w') :
    wpList P ops Q (o :: rest) a w :=
  wpList_plain hgd fun _ hK => wp_extend K w s x t ho e z bytes ht hinfo hzs hsz hb0 ok v l m hs hown n hlen q hq B d hx hsl hn hbytes fun A c w' h1 h2 h3 => hK _ _ (h A c w' h1 h2 h3)
theorem step_extend {ops : Array Oper} {o : Oper} {a : Act} {N : Act → World → Prop} {Q : Exit → Act → World → Prop} {E : Prop} (hgd : o.guard = none) (s x : Operand) (t : TypeId)
    (ho : o.op = .call { callee := .builtin .append, args := #[s, x], argTypes := #[t, t] })
    (e : TypeId) (z : Value) (bytes : Nat) (ht : P.underlying t = some (.slice e)) (hinfo : (P.info? e).map (fun i => (i.zero, i.size, i.bytes)) = some (some z, K.sz, bytes))
    (hzs : z.cells.size = K.sz) (hsz : 0 < K.sz) (hb0 : 0 < bytes) (ok : Nat → Prop)
    (v : Value) (l m : List α) (hs : a.eval s = v) (hown : OwnL K e ok w v l) (n : Nat) (hlen : l.length = n) (q : Nat) (hq : m.length = q) (B : Option Addr) (d : Nat) (hx : a.eval x = .slice B q d)
    (hsl : SL K (fun b => ok b ∧ v.ownBlock ≠ some b) w B d m) (hn : ok w.heap.size) (hbytes : (n + q) * bytes ≤ 140737488355328)
    (h : ∀ A c w', OwnL K e ok w' (.slice A (n + q) c) (l ++ m) → w.grownBy w' v.ownBlock → ((Value.slice A (n + q) c).ownBlock = v.ownBlock ∨ (Value.slice A (n + q) c).ownBlock = some w.heap.size) → N (a.put o.dst (.slice A (n + q) c)) w') :
    if Region.wanted o (yielded ops a.tmps) = true then Oper.wp P o a w N Q else E := by
  have hw : Region.wanted o (yielded ops a.tmps) = true := by simp [Region.wanted, hgd]
  rw [if_pos hw]
  exact wp_extend K w s x t ho e z bytes ht hinfo hzs hsz hb0 ok v l m hs hown n hlen q hq B d hx hsl hn hbytes h
end

/-- A round's cells, its updates in memory that was made behind v's. -/
theorem el_of {α : Type} {K : Kind α} {e : TypeId} {ok : Nat → Prop} {w0 W w1 : World} {v : Value} {l : List α} {r : Rnd} {A2 : Option Addr} {c2 : Nat} (h : OwnL K e ok w0 v l) (hsl : SL KU (newB W) w1 A2 c2 r.us)
    (hW : w0.heap.size ≤ W.heap.size) (hok : ∀ b, W.heap.size ≤ b → ok b) (o : Obj) : KR.cs (fun b => ok b ∧ v.ownBlock ≠ some b) (w1.alloc o) r (#[.int .i64 r.o, .int .i64 r.n, .slice A2 r.us.length c2] : Array Value).toList :=
  ⟨A2, c2, rfl, (hsl.alloc o).mono fun b hb _ => ⟨hok b hb, fun he => by have := h.lt b he; simp only [newB] at hb; omega⟩⟩

end Go.Proofs.YthdnoljmiehegaaDoor
