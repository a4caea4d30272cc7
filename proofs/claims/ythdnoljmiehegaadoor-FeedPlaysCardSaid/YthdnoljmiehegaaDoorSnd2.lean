/- WHAT IS PROVED HERE: the program's sender: acknowledging, and the copy of its pieces. -/
import Derived.Test.YthdnoljmiehegaaDoorSnd
import Derived.Deep.Upon
import Derived.Laws.IdiomCopy
set_option linter.unusedVariables false
set_option linter.unusedSimpArgs false
namespace Go.Proofs.YthdnoljmiehegaaDoor
open Go.RowKit

theorem Blk.laid {g : Nat} {t : TypeId} : ∀ (vs : List Value) (o : Nat) (w : World) (cs : Array Value), Blk w g t cs → ∃ cs', Blk (w.setCells g o vs) g t cs' ∧ cs'.size = cs.size ∧ ∀ j, (j < o ∨ o + vs.length ≤ j) → cs'[j]? = cs[j]?
  | [], o, w, cs, h => ⟨cs, h, rfl, fun _ _ => rfl⟩
  | u :: vs, o, w, cs, h => by
    obtain ⟨cs', h1, h2, h3⟩ := Blk.laid vs (o + 1) (w.setCell ⟨g, o, none⟩ u) _ (h.set o u)
    refine ⟨cs', h1, by rw [h2]; simp, fun j hj => ?_⟩
    simp only [List.length_cons] at hj
    rw [h3 j (by omega), Array.getElem?_setIfInBounds_ne (by omega)]
theorem Mod.setCells {S : Nat → Prop} {g : Nat} (hg : S g) : ∀ (vs : List Value) (o : Nat) (a w : World), Mod S a w → Mod S a (w.setCells g o vs)
  | [], _, _, _, h => h
  | u :: vs, o, a, w, h => Mod.setCells hg vs (o + 1) a _ (h.setCell (p := ⟨g, o, none⟩) (.inl hg) u)
theorem size_setCells {g : Nat} : ∀ (vs : List Value) (o : Nat) (w : World), (w.setCells g o vs).heap.size = w.heap.size
  | [], _, _ => rfl
  | u :: vs, o, w => by rw [World.setCells, size_setCells vs]; simp

/-- The front of a row cleared: what is behind it stands. -/
theorem OwnL.cleared {α : Type} {K : Kind α} {e : TypeId} {ok : Nat → Prop} {w : World} {b o n c : Nat} {l : List α} (h : OwnL K e ok w (.slice (some ⟨b, o, none⟩) n c) l) (hn : l.length = n) (k : Nat) (hk : k ≤ n) (vs : List Value) (hvs : vs.length = k * K.sz) :
    OwnL K e ok (w.setCells b o vs) (.slice (if c = k then some ⟨b, o, none⟩ else some ⟨b, o + k * K.sz, none⟩) (n - k) (c - k)) (l.drop k) := by
  subst hn
  obtain ⟨xs, h1, h2, h3⟩ := h
  have hob : ∀ a : Nat, ∀ n' c' : Nat, (Value.slice (if c = k then some ⟨b, o, none⟩ else some ⟨b, a, none⟩) n' c').ownBlock = some b := by intro a n' c'; split <;> rfl
  have hen : Enc K (fun q => ok q ∧ (Value.slice (if c = k then some ⟨b, o, none⟩ else some ⟨b, o + k * K.sz, none⟩) (l.length - k) (c - k)).ownBlock ≠ some q) (w.setCells b o vs) (xs.drop (k * K.sz)) (l.drop k) := by
    refine (h2.drop k).keep (by rw [size_setCells]; exact Nat.le_refl _) (fun q hq hl => ?_) |>.mono fun q hq _ => ?_
    · exact World.heap_setCells_other w b o vs hl (fun e => hq.2 (by rw [e]; rfl))
    · rw [hob]; exact hq
  refine ⟨xs.drop (k * K.sz), ⟨?_, .inr ?_⟩, hen, fun q hq => ?_⟩
  · rw [List.length_drop, List.length_drop, h1.1, Nat.sub_mul]
  · rcases h1.2 with ⟨h0, _⟩ | ⟨b', o', cap, cur, hv, hg, k1, k2, k3, k4⟩
    · cases h0
    · cases hv
      obtain ⟨cur', g1, g2, g3⟩ := Blk.laid vs o w cur hg
      have hkc : k * K.sz ≤ c * K.sz := Nat.mul_le_mul_right _ (by omega)
      have hkn : k * K.sz ≤ l.length * K.sz := Nat.mul_le_mul_right _ (by omega)
      have hnc : l.length * K.sz ≤ c * K.sz := Nat.mul_le_mul_right _ (by omega)
      by_cases hck : c = k
      · rw [if_pos hck]
        have : l.length = k := by omega
        refine ⟨b, o, 0, cur', by simp [hck, this], g1, by simp [this], by omega, by omega, ?_⟩
        simp [this, h1.1]
      · rw [if_neg hck]
        refine ⟨b, o + k * K.sz, c - k, cur', by rw [List.length_drop], g1, by rw [List.length_drop]; omega, by omega, by rw [Nat.sub_mul]; omega, ?_⟩
        rw [List.length_drop, ← k4, List.drop_take, List.drop_drop, Nat.sub_mul]
        refine List.ext_getElem? fun j => ?_
        simp only [List.getElem?_take, List.getElem?_drop, Array.getElem?_toList]
        split
        · rw [g3 _ (by omega)]
        · rfl
  · rw [hob] at hq; exact h3 q hq

theorem add_flat (b o j : Nat) : (⟨b, o, none⟩ : Addr).add j = ⟨b, o + j, none⟩ := by
  unfold Addr.add
  split
  · simp_all
  · rfl
theorem add_block (a : Addr) (j : Nat) : (a.add j).block = a.block := by
  unfold Addr.add
  (repeat' split) <;> rfl
theorem clear_front {w : World} {A : Option Addr} {n c : Nat} {l : List Pc} (h : OwnL KP 182 anyB w (.slice A n c) l) (hn : l.length = n) (k : Nat) (hk : k ≤ n) :
    ∃ W', (∀ ty, (Builtin.clear_ #[179] ty #[.slice A k c]).run Tryd.prog w = .ok (.tuple #[]) W') ∧ OwnL KP 182 anyB W' (.slice (if c = k then A else A.map (·.add (k * 2))) (n - k) (c - k)) (l.drop k) ∧ Mod (fun b => (Value.slice A n c).ownBlock = some b) w W' := by
  rcases Nat.eq_zero_or_pos k with rfl | hk0
  · refine ⟨w, fun ty => ?_, ?_, Mod.refl _ _⟩
    · cases A <;> simp [Builtin.clear_, run_underlying Tryd.underlying179, go_sem]
    · have : (if c = 0 then A else A.map (·.add (0 * 2))) = A := by cases A <;> simp [Addr.add]
      rw [this]; exact h
  · obtain ⟨xs, h1, h2, h3⟩ := h
    rcases h1.2 with ⟨h0, hz⟩ | ⟨b, o, cap, cur, hv, hg, k1, k2, k3, k4⟩
    · omega
    · cases hv
      have hkc : k * 2 ≤ c * 2 := by omega
      have h2c : c * KP.sz = c * 2 := rfl
      refine ⟨_, fun ty => run_clear_gen w 179 182 ty (.agg #[.int .i64 0, .string ByteArray.empty]) Tryd.underlying179 (fun w => by simp [go_sem]; rfl) ?_ b o k c hk0 cur hg ?_, ?_, ?_⟩
      · intro n u hu
        simp only [Builtin.zeroCells, Array.toList_map, List.mem_map] at hu
        obtain ⟨i, _, rfl⟩ := hu
        have hz : (Value.agg #[.int .i64 0, .string ByteArray.empty]).cells = #[.int .i64 0, .string ByteArray.empty] := rfl
        rw [hz]
        have : i % 2 = 0 ∨ i % 2 = 1 := by omega
        rcases this with e | e <;> simp [e] <;> rfl
      · show o + k * 2 ≤ cur.size
        omega
      · have := OwnL.cleared ⟨xs, h1, h2, h3⟩ hn k hk (Builtin.zeroCells (Value.agg #[.int .i64 0, .string ByteArray.empty]).cells k).toList (by simp [size_zeroCells]; rfl)
        have hsz : KP.sz = 2 := rfl
        rw [hsz] at this
        show OwnL KP 182 anyB _ (.slice (if c = k then some ⟨b, o, none⟩ else some ((⟨b, o, none⟩ : Addr).add (k * 2))) _ _) _
        rw [add_flat]
        exact this
      · exact Mod.setCells (S := fun q => (Value.slice (some ⟨b, o, none⟩) l.length c).ownBlock = some q) (g := b) rfl _ _ _ _ (Mod.refl _ _)

theorem SS.ack_at {s : SS} {m : Int} {n k : Nat} (hok : s.Ok) (hn : s.all.length - s.acked = n) (hm : ¬ (s.all.length : Int) < m) (hk : k ≤ n) (h1 : k = 0 ∨ (s.acked : Int) + k ≤ m) (h2 : k = n ∨ m < s.acked + k + 1) : s.ack m = { s with acked := s.acked + k } := by
  have a1 := hok.a1
  unfold SS.ack
  split
  · have : k = 0 := by omega
    subst this; rfl
  · have : m.toNat = s.acked + k := by omega
    rw [this]

theorem snd_acked {w W w3 : World} {p : Nat} {F : Nat → Prop} {s : SS} {m : Int} {A A' : Option Addr} {n c k : Nat} (hok : s.Ok) (hs : s.ack m = { s with acked := s.acked + k })
    (hn : s.all.length - s.acked = n) (hk : k ≤ n) (hF : ∀ b, F b ↔ b = p ∨ (Value.slice A n c).ownBlock = some b) (hg : Blk w p 236 #[.int .i64 s.window, .int .i64 s.last, .int .i64 s.all.length, .slice A n c]) (hne : (Value.slice A n c).ownBlock ≠ some p)
    (ho : OwnL KP 182 anyB W (.slice (if c = k then A else A.map (·.add (k * 2))) (n - k) (c - k)) ((pcs s.acked (s.all.drop s.acked)).drop k))
    (hm : Mod (fun b => (Value.slice A n c).ownBlock = some b) w W) (hA : A' = if c = k then A else A.map (·.add (k * 2))) (h3 : w3 = W.setCell ⟨p, 3, none⟩ (.slice A' (n - k) (c - k))) :
    ∃ F', IsSnd w3 p F' (s.ack m) ∧ Step F w F' w3 := by
  subst hA
  have a1 := hok.a1
  have hl : (s.ack m).all.length - (s.ack m).acked = n - k := by rw [hs]; simp only; omega
  have hp : pcs (s.ack m).acked ((s.ack m).all.drop (s.ack m).acked) = (pcs s.acked (s.all.drop s.acked)).drop k := by
    rw [hs, pcs_drop]
    simp only [List.drop_drop]
  have hg' : Blk W p 236 _ := hg.mod hm hne
  refine ⟨fun b => b = p ∨ (Value.slice (if c = k then A else A.map (·.add (k * 2))) (n - k) (c - k)).ownBlock = some b, ⟨if c = k then A else A.map (·.add (k * 2)), c - k, ?_, ?_, SS.ack_ok hok m, ?_⟩, ⟨?_, ?_⟩⟩
  · rw [hl, h3]
    have := hg'.set 3 (.slice (if c = k then A else A.map (·.add (k * 2))) (n - k) (c - k))
    rw [hs]
    simpa using this
  · rw [hl, hp, h3]
    obtain ⟨xs, q1, q2, q3⟩ := ho
    exact ⟨xs, q1.off (fun b hb e => q1.ne_blk hg' (by decide) (by rw [hb, e])) _, q2.flat KP.flat, q3⟩
  · intro b; rw [hl]
  · rw [h3]
    exact Mod.setCell (hm.mono fun b hl hb => (hF b).2 (.inr hb)) (p := ⟨p, 3, none⟩) (.inl ((hF p).2 (.inl rfl))) _
  · intro b hb
    refine .inl ((hF b).2 (hb.imp id fun hb => ?_))
    rw [← hb]
    cases A with
    | none => by_cases hck : c = k <;> simp [hck, Value.ownBlock]
    | some a => by_cases hck : c = k <;> simp [hck, Value.ownBlock, add_block]

set_option maxRecDepth 100000 in
set_option maxHeartbeats 1000000 in
theorem sndAck_any (p : Nat) (F : Nat → Prop) (s : SS) (m : Int) (w : World) (h : IsSnd w p F s) :
    Calls Tryd.prog 100 #[.pointer (some ⟨p, 0, none⟩), .int .i64 m] w fun e w' => (∃ n, e = .returned (.int .i64 n)) ∧ ∃ F', IsSnd w' p F' (s.ack m) ∧ Step F w F' w' := by
  obtain ⟨A, c, hg, hown, hok, hF⟩ := h
  have a1 := hok.a1
  have a2 := hok.a2
  have a3 := hok.a3
  have w2 := hok.w2
  have l2 := hok.l2
  have hlen : (pcs s.acked (s.all.drop s.acked)).length = s.all.length - s.acked := pcs_len
  have hnc : s.all.length - s.acked ≤ c := by
    obtain ⟨A', c', h1, h2, _⟩ := hown.shape
    rw [hlen] at h1 h2
    cases h1
    exact h2
  by_cases e1 : (s.all.length : Int) < m
  · have hs : s.ack m = s := if_pos (.inl e1)
    have hself : IsSnd w p F s := ⟨A, c, hg, hown, hok, hF⟩
    have Hs := Lib.hid hs
    clear hs hown hF hlen
    obtain ⟨c0, f0, z0⟩ := hg.rules
    generalize s.all.length - s.acked = n at *
    go_enter Tryd.func100, Tryd.ntmps100
    go_wp2
    all_goals
      go_ret
      refine ⟨⟨0, rfl⟩, F, ?_, Step.refl _ _⟩
      rw [Hs.out]
      exact hself
  · have hsl : SL KP anyB w A c (pcs s.acked (s.all.drop s.acked)) := by
      have := hown
      rw [← hlen] at this
      exact this.sl'
    have Hown := Lib.hid hown
    have HF := Lib.hid hF
    clear hown hF
    obtain ⟨c0, f0, z0⟩ := hg.rules
    have hnb : s.all.length - s.acked ≤ 16 := by omega
    generalize hL : pcs s.acked (s.all.drop s.acked) = l at *
    generalize hn : s.all.length - s.acked = n at *
    go_enter Tryd.func100, Tryd.ntmps100
    go_wp2
    go_loopw [5] (fun i wr => ∃ k : Nat, k ≤ n ∧ i = .int .i64 k ∧ wr = w ∧ (k = 0 ∨ (s.acked : Int) + k ≤ m)) (fun i _ => n - (intOf i).toNat)
    case atStart => exact ⟨0, Nat.zero_le _, rfl, rfl, .inl rfl⟩
    case round =>
      obtain ⟨k, hk, rfl, rfl, hall⟩ := hrel
      obtain ⟨W, hclr, hoW, hmW⟩ := clear_front Hown.out hlen k hk
      have hne : (Value.slice A n c).ownBlock ≠ some p := Hown.out.ne_blk hg (by decide)
      obtain ⟨c1, f1, z1⟩ := (hg.mod hmW hne).rules
      have HoW := Lib.hid hoW
      have HmW := Lib.hid hmW
      have Hne := Lib.hid hne
      have Hck := Lib.hid (fun h2 => SS.ack_at hok hn (Int.not_lt.2 e1) hk hall h2)
      clear hoW hmW hne
      by_cases hkn : k < n
      · obtain ⟨b, off, rfl, _, hbw, d0, d1⟩ := hsl.pc k (by omega)
        have hseq : l[k].seq = s.acked + k + 1 := by
          subst hL
          rw [pcs_get]
        rw [hseq] at d0
        go_wp2
        · go_roundw
          case rel => exact ⟨k + 1, by omega, by go_num, trivial, .inr (by omega)⟩
          case measure => simp [intOf]; omega
        all_goals
          go_ret
          refine ⟨⟨k, rfl⟩, ?_⟩
          subst hL
          refine snd_acked hok (Hck.out (by omega)) hn hk HF.out hg Hne.out HoW.out HmW.out rfl ?_
          first
            | (rw [if_neg (by omega)]; done)
            | (rw [if_neg (by omega)]; simp [add_flat]; done)
            | (have hcz : c - k = 0 := by omega
               rw [if_pos (by omega), hcz]; done)
      · go_wp2
        all_goals
          go_ret
          refine ⟨⟨k, rfl⟩, ?_⟩
          subst hL
          refine snd_acked hok (Hck.out (by omega)) hn hk HF.out hg Hne.out HoW.out HmW.out rfl ?_
          first
            | (rw [if_neg (by omega)]; done)
            | (rw [if_neg (by omega)]; simp [add_flat]; done)
            | (have hcz : c - k = 0 := by omega
               rw [if_pos (by omega), hcz]; done)

theorem IsSnd.below {w w' : World} {p : Nat} {F : Nat → Prop} {s : SS} (h : IsSnd w p F s) (hb : Below w.heap.size w w') : IsSnd w' p F s := h.keep hb.size fun b _ hl => hb.block _ hl

set_option maxHeartbeats 1000000 in
theorem sndPieces_any (p : Nat) (F : Nat → Prop) (s : SS) (w : World) (h : IsSnd w p F s) :
    Calls Tryd.prog 109 #[.pointer (some ⟨p, 0, none⟩)] w fun e w' => (∃ v, e = .returned v ∧ OwnL KP 182 (fun b => w.heap.size ≤ b) w' v (pcs s.acked (s.all.drop s.acked))) ∧ Below w.heap.size w w' := by
  obtain ⟨A, c, hg, hown, hok, hF⟩ := h
  have a1 := hok.a1
  have a3 := hok.a3
  have w2 := hok.w2
  have hlen : (pcs s.acked (s.all.drop s.acked)).length = s.all.length - s.acked := pcs_len
  have hnb : s.all.length - s.acked ≤ 16 := by omega
  have hsl : SL KP anyB w A c (pcs s.acked (s.all.drop s.acked)) := by
    have := hown
    rw [← hlen] at this
    exact this.sl'
  clear hown hF
  obtain ⟨c0, f0, z0⟩ := hg.rules
  generalize pcs s.acked (s.all.drop s.acked) = l at *
  rw [← hlen] at hnb hg c0
  clear hlen
  obtain ⟨news, hsrc, henc⟩ := Src.of_sl (hsl.alloc (.cells #[] 182))
  have hown0 : Own (w.alloc (.cells #[] 182)) 182 2 (.slice (some ⟨w.heap.size, 0, none⟩) 0 0) 0 [] := ⟨rfl, .inr ⟨_, 0, 0, _, rfl, Blk.new _ _ _, Nat.le_refl _, Nat.zero_le _, by simp, rfl⟩⟩
  have Hown0 := Lib.hid hown0
  have Hsrc := Lib.hid hsrc
  have Henc := Lib.hid henc
  clear hown0 hsrc henc
  go_enter Tryd.func109, Tryd.ntmps109
  go_wp2_with (at_builtin; (refine wpList_append_gen _ rfl _ _ _ rfl 182 _ 2 24 Tryd.underlying179 info182 rfl (by decide) (by decide) (.slice (some ⟨w.heap.size, 0, none⟩) 0 0) 0 [] rfl Hown0.out A l.length c news rfl Hsrc.out (by omega) ?_); intro v1 w1 hown hg hat)
  go_ret
  simp only [Nat.zero_add, List.nil_append] at hown
  have hB : Below w.heap.size w w1 := ((Below.refl _ _).alloc (Nat.le_refl _) _).grown hg (by simp) (by intro k hk; simp [Value.ownBlock] at hk; omega)
  refine ⟨⟨v1, rfl, news, hown, Henc.out.flat KP.flat, ?_⟩, hB⟩
  intro b hb1
  show w.heap.size ≤ b
  rcases hat with e | e <;> rw [e] at hb1 <;> simp [Value.ownBlock] at hb1 <;> omega

end Go.Proofs.YthdnoljmiehegaaDoor
