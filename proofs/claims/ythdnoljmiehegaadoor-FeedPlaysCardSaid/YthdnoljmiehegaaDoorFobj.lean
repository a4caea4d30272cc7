/- WHAT IS SAID HERE: a log, a feed and a link side by side: the program's, and the reference's. -/
import Derived.Test.YthdnoljmiehegaaDoorFlaw
import Derived.Test.YthdnoljmiehegaaDoorRlog
import Derived.Test.YthdnoljmiehegaaDoorRlnk
import Derived.Test.YthdnoljmiehegaaDoorSep
set_option linter.unusedVariables false
set_option linter.unusedSimpArgs false
namespace Go.Proofs.YthdnoljmiehegaaDoor
open Go.RowKit

def logO (p : Nat) (g : Lg) : Ob := fun w F => IsLog w p F g
def lnkO (p : Nat) (k : LS) : Ob := fun w F => IsLnk w p F k
def rlogO (p : Nat) (g : Lg) : Ob := fun w F => IsRLog w p F g
def rlnkO (p : Nat) (k : LS) : Ob := fun w F => IsRLnk w p F k
theorem logO.good (B p : Nat) (g : Lg) : Good B (logO p g) := ⟨fun h hs hk => IsLog.keep h hs fun b hb => hk b (.inl hb), fun h => IsLog.lt h⟩
theorem lnkO.good (B p : Nat) (k : LS) : Good B (lnkO p k) := ⟨fun h hs hk => IsLnk.keep h hs fun b hb => hk b (.inl hb), fun h => IsLnk.lt h⟩
theorem rlogO.good (B p : Nat) (g : Lg) : Good B (rlogO p g) := ⟨fun h hs hk => IsRLog.keep h hs fun b hb => hk b (.inl hb), fun h => h.choose_spec.choose_spec.2.2.2.2⟩
theorem rlnkO.good (B p : Nat) (k : LS) : Good B (rlnkO p k) := ⟨fun h hs hk => IsRLnk.keep h hs fun b hb => hk b (.inl hb), fun h => IsRLnk.lt h⟩
/-- The program's three. -/
def P3 (pl pf pk : Nat) (g : Lg) (a : Nat) (k : LS) : List Ob := [BlkO pf 159 #[.int .i64 a], lnkO pk k, logO pl g]
theorem P3.goods (B pl pf pk : Nat) (g : Lg) (a : Nat) (k : LS) : Goods B (P3 pl pf pk g a k) := (((Goods.nil B).cons (logO.good B pl g)).cons (lnkO.good B pk k)).cons (BlkO.good B pf 159 _)
/-- The reference's. -/
def R3 (pl pf pk : Nat) (g : Lg) (a : Nat) (k : LS) : List Ob := [BlkO pf 71 #[.int .i64 a], rlnkO pk k, rlogO pl g]
theorem R3.goods (B pl pf pk : Nat) (g : Lg) (a : Nat) (k : LS) : Goods B (R3 pl pf pk g a k) := (((Goods.nil B).cons (rlogO.good B pl g)).cons (rlnkO.good B pk k)).cons (BlkO.good B pf 71 _)

/-- Three objects made one behind the other. -/
theorem make3 {B : Nat} {w w1 w2 w3 : World} {L N M : Ob} {Fl Fk Ff : Nat → Prop} (hB : B ≤ w.heap.size) (gl : Good B L) (gk : Good B N) (gf : Good B M)
    (h1 : L w1 Fl) (n1 : ∀ b, Fl b → w.heap.size ≤ b) (b1 : Below w.heap.size w w1) (h2 : N w2 Fk) (n2 : ∀ b, Fk b → w1.heap.size ≤ b) (b2 : Below w1.heap.size w1 w2)
    (h3 : M w3 Ff) (n3 : ∀ b, Ff b → w2.heap.size ≤ b) (b3 : Below w2.heap.size w2 w3) : ∃ F, SepL B [M, N, L] w3 F ∧ ∀ b, F b → w.heap.size ≤ b := by
  obtain ⟨F1, s1, t1⟩ := (SepL.nil B w).push (Goods.nil B) hB h1 n1 b1
  have g1 : Goods B [L] := (Goods.nil B).cons gl
  obtain ⟨F2, s2, t2⟩ := s1.push g1 (Nat.le_trans hB b1.size) h2 n2 b2
  obtain ⟨F3, s3, t3⟩ := s2.push (g1.cons gk) (Nat.le_trans hB (Nat.le_trans b1.size b2.size)) h3 n3 b3
  refine ⟨F3, s3, fun b hb => ?_⟩
  rcases ((t1.trans t2).trans t3).upg b hb with q | q
  · exact q.elim
  · exact q

theorem pump_sep {B pl pf pk : Nat} {g : Lg} {a : Nat} {k : LS} {w : World} {F : Nat → Prop} (h : SepL B (P3 pl pf pk g a k) w F) (hG : Bits w) (h0 : 0 < B) (ha : a ≤ g.l.length) (hl : g.l.length + k.s.all.length ≤ 100000) :
    Calls Tryd.prog 38 #[ptr pf, ptr pl, ptr pk] w fun e w' => e = .returned (.int .i64 (pumpGo (g.l.drop a) k).1) ∧
      ∃ F', SepL B (P3 pl pf pk g (a + (pumpGo (g.l.drop a) k).1) (pumpGo (g.l.drop a) k).2) w' F' ∧ Step F w F' w' := by
  obtain ⟨Ff, F2, h2, g2, ⟨Fk, F3, h3, g3, ⟨Fl, F4, h1, g1, h4, d3, e3⟩, d2, e2⟩, d1, e1⟩ := h
  have eF4 : ∀ b, ¬ F4 b := h4
  have hpf : Ff pf := (h2.2 pf).2 rfl
  have q1 : ¬ Fl pf := fun q => d1 pf hpf ((e2 pf).2 (.inr ((e3 pf).2 (.inl q))))
  have q2 : ¬ Fk pf := fun q => d1 pf hpf ((e2 pf).2 (.inl q))
  have q3 : ∀ b, Fl b → ¬ Fk b := fun b hb q => d2 b q ((e3 b).2 (.inl hb))
  have q4 : pf ≠ 0 := by have := g2 pf hpf; omega
  have q5 : ¬ Fk 0 := fun q => by have := g3 0 q; omega
  have hB : B ≤ w.heap.size := by have := g2 pf hpf; have := h2.1.lt; omega
  refine (pump_any pf pl pk Fl Fk g a k w h2.1 h1 h3 hG q1 q2 q3 q4 q5 ha hl).mono ?_
  rintro e w' ⟨rfl, r1, Fk', r2, r3, r4⟩
  have hlt : ∀ b, Fl b → b < w.heap.size := fun b hb => IsLog.lt h1 b hb
  have hn : ∀ b, Fl b → ¬ (b = pf ∨ Fk b) := fun b hb q => q.elim (fun e => q1 (e ▸ hb)) (q3 b hb)
  refine ⟨rfl, fun b => b = pf ∨ (Fk' b ∨ Fl b), ⟨fun b => b = pf, fun b => Fk' b ∨ Fl b, ⟨r1, fun b => Iff.rfl⟩, ?_, ⟨Fk', Fl, r2, ?_, ⟨Fl, fun _ => False, ?_, g1, fun _ h => h, fun _ _ h => h, fun b => by simp⟩, ?_, fun b => Iff.rfl⟩, ?_, fun b => Iff.rfl⟩, ?_⟩
  · intro b hb; have hb' : b = pf := hb; subst hb'; exact g2 _ hpf
  · intro b hb
    rcases r4.upg b (.inr hb) with q | q
    · rcases q with q | q
      · subst q; exact g2 _ hpf
      · exact g3 b q
    · omega
  · exact IsLog.keep h1 r4.mod.size fun b hb hl => r4.mod.block b hl (hn b hb)
  · intro b hb' hb
    rcases r4.upg b (.inr hb') with q | q
    · exact hn b hb q
    · have := hlt b hb; omega
  · intro b hb hb'
    have e : b = pf := hb
    subst e
    exact hb'.elim r3 q1
  · have hFf : F pf := (e1 pf).2 (.inl hpf)
    have hFk : ∀ b, Fk b → F b := fun b hb => (e1 b).2 (.inr ((e2 b).2 (.inl hb)))
    have hFl : ∀ b, Fl b → F b := fun b hb => (e1 b).2 (.inr ((e2 b).2 (.inr ((e3 b).2 (.inl hb)))))
    refine r4.sub (fun b hb => hb.elim (fun e => e ▸ hFf) (hFk b)) fun b hb => ?_
    rcases hb with q | q | q
    · exact .inr (.inl q)
    · exact .inr (.inr q)
    · exact .inl (hFl b q)

end Go.Proofs.YthdnoljmiehegaaDoor
