/- WHAT IS SAID HERE: a list of rounds added one by one; a row of rounds as an object. -/
import Derived.Test.YthdnoljmiehegaaDoorFawk
set_option linter.unusedVariables false
set_option linter.unusedSimpArgs false
namespace Go.Proofs.YthdnoljmiehegaaDoor
open Go.RowKit

def addAll (g : Lg) (l : List Rnd) : Lg := l.foldl Lg.add g
theorem addAll_take (g : Lg) (l : List Rnd) (k : Nat) (hk : k < l.length) : addAll g (l.take (k + 1)) = (addAll g (l.take k)).add l[k] := by
  unfold addAll
  rw [List.take_succ_eq_append_getElem hk, List.foldl_append]; rfl
theorem Lg.add_len (g : Lg) (r : Rnd) : (g.add r).l.length ≤ g.l.length + 1 := by
  unfold Lg.add
  split <;> simp
theorem addAll_len : ∀ (l : List Rnd) (g : Lg), (addAll g l).l.length ≤ g.l.length + l.length
  | [], g => by simp [addAll]
  | r :: l, g => by
    have h1 := addAll_len l (g.add r)
    have h2 := g.add_len r
    simp only [List.length_cons]
    show (addAll (g.add r) l).l.length ≤ _
    omega
/-- A row of one's own, as an object. -/
def rowO (v : Value) (l : List Rnd) : Ob := fun w F => OwnL KR 38 F w v l ∧ ∀ b, F b → b < w.heap.size
theorem rowO.good (B : Nat) (v : Value) (l : List Rnd) : Good B (rowO v l) :=
  ⟨fun {w w' F} h hs hk => ⟨h.1.keep hs fun b hb => hk b (.inl hb), fun b hb => Nat.lt_of_lt_of_le (h.2 b hb) hs⟩, fun {w F} h b hb => h.2 b hb⟩
theorem rowO.of {w w0 : World} {v : Value} {l : List Rnd} (h : OwnL KR 38 (newB w0) w v l) : rowO v l w (fun b => newB w0 b ∧ b < w.heap.size) :=
  ⟨h.mono fun b hb hl => ⟨hb, hl⟩, fun b hb => hb.2⟩


end Go.Proofs.YthdnoljmiehegaaDoor
