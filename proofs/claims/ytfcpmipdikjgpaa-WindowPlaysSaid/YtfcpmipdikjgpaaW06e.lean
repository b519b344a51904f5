/-
  WindowPlays: the law's loop.
-/
import Derived.Test.YtfcpmipdikjgpaaW06d
namespace Go.Ev
open Go Go.Proofs

/-- Both windows and the law's own row, apart. -/
structure Both (h : H) (i j : Nat) (w m : Int) (ts all : List Int) (a a' : Option Addr) (st st' : Nat) (s : Option Addr) (sst : Nat) (seq : List Int) : Prop where
  W1 : Win h i w m ts a st
  W2 : Win h j w m all a' st'
  ne : i ≠ j
  d1 : ∀ x, a = some ⟨x, 0, none⟩ → x ≠ j
  d2 : ∀ y, a' = some ⟨y, 0, none⟩ → y ≠ i
  d3 : ∀ x y, a = some ⟨x, 0, none⟩ → a' = some ⟨y, 0, none⟩ → x ≠ y
  S : SlI h s sst seq
  s1 : ∀ q, s = some ⟨q, 0, none⟩ → q < h.next
  s0 : ∀ q, s = some ⟨q, 0, none⟩ → q ≠ i ∧ q ≠ j ∧ (∀ x, a = some ⟨x, 0, none⟩ → q ≠ x) ∧ (∀ x, a' = some ⟨x, 0, none⟩ → q ≠ x)
  wf : Wf h

theorem Wf.lt {h : H} (wf : Wf h) {k : Nat} {b : Blk} (hg : h.get k = some b) : k < h.next := by
  rcases Nat.lt_or_ge k h.next with hx | hx
  · exact hx
  · rw [wf k hx] at hg; cases hg

theorem Sl.move {h h' : H} {a : Option Addr} {st : Nat} {ts : List Int} (S : Sl h a st ts) (he : ∀ q, a = some ⟨q, 0, none⟩ → h'.get q = h.get q) : Sl h' a st ts := by
  rcases S with h1 | ⟨h1, q, ro, rfl, h3⟩
  · exact .inl h1
  · exact .inr ⟨h1, q, ro, rfl, by rw [he q rfl]; exact h3⟩
theorem SlI.move {h h' : H} {a : Option Addr} {st : Nat} {ts : List Int} (S : SlI h a st ts) (he : ∀ q, a = some ⟨q, 0, none⟩ → h'.get q = h.get q) : SlI h' a st ts := by
  rcases S with h1 | ⟨h1, q, ro, rfl, h3⟩
  · exact .inl h1
  · exact .inr ⟨h1, q, ro, rfl, by rw [he q rfl]; exact h3⟩
theorem Win.move {h h' : H} {i : Nat} {w m : Int} {ts : List Int} {a : Option Addr} {st : Nat} (W : Win h i w m ts a st) (hi : h'.get i = h.get i) (he : ∀ q, a = some ⟨q, 0, none⟩ → h'.get q = h.get q) :
    Win h' i w m ts a st :=
  ⟨by rw [hi]; exact W.1, W.2.1.move he, fun q hq => ⟨(W.2.2 q hq).1, by rw [he q hq]; exact (W.2.2 q hq).2⟩⟩

section
variable {R : Type} {r n : Nat} {h : H} {i j : Nat} {w m : Int} {ts all seq : List Int} {a a' s : Option Addr} {st st' sst : Nat}

theorem Sl.blk {h : H} {a : Option Addr} {st : Nat} {ts : List Int} (S : Sl h a st ts) : ∀ q, a = some ⟨q, 0, none⟩ → ∃ b, h.get q = some b := by
  intro q hq
  rcases S with ⟨_, h2, _⟩ | ⟨_, q', ro, rfl, h3⟩
  · rw [h2] at hq; cases hq
  · cases hq; exact ⟨_, h3⟩

/-- The program's window takes. -/
theorem Both.take1 (B : Both h i j w m ts all a a' st st' s sst seq) {ts' : List Int} {h' : H} (T : Takes h i w m a ts' h') :
    ∃ b bt, Both h' i j w m ts' all b a' bt st' s sst seq := by
  obtain ⟨⟨b, bt, W'⟩, wf', hn, old, fresh⟩ := T
  have hi := B.wf.lt B.W1.1
  have hj := B.wf.lt B.W2.1
  have keep : ∀ k, (∃ x, h.get k = some x) → k ≠ i → (∀ x, a = some ⟨x, 0, none⟩ → k ≠ x) → h'.get k = h.get k := fun k ⟨x, hx⟩ h1 h2 => old k (B.wf.lt hx) h1 h2
  refine ⟨b, bt, W', B.W2.move (keep j ⟨_, B.W2.1⟩ (fun e => B.ne e.symm) fun x hx e => B.d1 x hx e.symm) (fun q hq => keep q (B.W2.2.1.blk q hq) (B.d2 q hq) fun x hx e => B.d3 x q hx hq e.symm), B.ne, ?_, B.d2, ?_,
    B.S.move (fun q hq => old q (B.s1 q hq) (B.s0 q hq).1 (B.s0 q hq).2.2.1), fun q hq => Nat.lt_of_lt_of_le (B.s1 q hq) hn, ?_, wf'⟩
  · intro x hx e
    have := fresh b bt W' x hx
    omega
  · intro x y hx hy e
    have h1 := fresh b bt W' x hx
    obtain ⟨z, hz⟩ := B.W2.2.1.blk y hy
    have := B.wf.lt hz
    omega
  · intro q hq
    refine ⟨(B.s0 q hq).1, (B.s0 q hq).2.1, fun x hx e => ?_, (B.s0 q hq).2.2.2⟩
    have h1 := fresh b bt W' x hx
    have := B.s1 q hq
    omega

theorem Both.swap (B : Both h i j w m ts all a a' st st' s sst seq) : Both h j i w m all ts a' a st' st s sst seq :=
  ⟨B.W2, B.W1, fun e => B.ne e.symm, B.d2, B.d1, fun x y hx hy e => B.d3 y x hy hx e.symm, B.S, B.s1, fun q hq => ⟨(B.s0 q hq).2.1, (B.s0 q hq).1, (B.s0 q hq).2.2.2, (B.s0 q hq).2.2.1⟩, B.wf⟩

/-- The law's last look. -/
theorem tail (B : Both h i j w m ts all a a' st st' s sst seq) (I : Inv w m ts all) (hlen : all.length < 1000000) {X Y : H → Option R} :
    (callK (ev06 r (n + 2)) 15 [Value.pointer (some { block := i, off := 0 })] h fun v41 h42 => castTup v41 fun l43 => headK l43 fun v44 l45 => castI IntKind.i64 v44 fun n46 => headK l45 fun v47 l48 =>
      castBB v47
        (nilK l48 fun _ => optK (ldV P6 22 j 2 h42) fun v50 => castSl v50 fun _ o52 _ =>
          bif decide ((↑o52 : Int) > 0) then
            optK (ldV P6 22 j 2 h42) fun v54 => castSl v54 fun a55 o56 o57 => optK (ldV P6 22 j 2 h42) fun v58 => castSl v58 fun _ o60 _ =>
              indexAddrA P6 22 (Value.slice a55 o56 o57) (Value.int IntKind.i64 (IntKind.i64.wrap ((↑o60 : Int) - 1))) fun v62 => addrK v62 fun o63 o64 => optK (ldV P6 3 o63 o64 h42) fun v65 =>
                castI IntKind.i64 v65 fun n66 => bif n46 != n66 then X h42 else Y h42
          else X h42)
        (nilK l48 fun _ => optK (ldV P6 22 j 2 h42) fun v68 => castSl v68 fun _ o70 _ =>
          bif decide ((↑o70 : Int) > 0) then X h42 else bif n46 != 0 then X h42 else Y h42)) = Y h := by
  have hm := I.m0
  have hl := I.len
  have hl2 : Nat.min m.toNat all.length ≤ all.length := Nat.min_le_right _ _
  simp only [callK_mk (c15 B.W1 hm.1 (by omega)), castTup_mk, headK_mk, castI_mk, castBB_mk, nilK_mk, B.W2.l2, optK_mk, castSl_mk]
  by_cases hts : all = []
  · have hts' := I.nil_iff.2 hts
    simp [hts, hts']
  · have hts' : ts ≠ [] := fun e => hts (I.nil_iff.1 e)
    have h0 : 0 < all.length := List.length_pos_iff.2 hts
    have e : decide ((all.length : Int) > 0) = true := by simp; omega
    simp only [hts', decide_false, Bool.not_false, cond_true, e, if_false]
    rw [lastIdx hts hlen, B.W2.2.1.toI.index (by omega) (by omega)]
    have e2 : all.getD (((all.length - 1 : Nat) : Int)).toNat 0 = lastD all := by simp [lastD]
    rw [e2, I.last hts]
    simp

/-- One round. -/
theorem round (B : Both h i j w m ts all a a' st st' s sst seq) (I : Inv w m ts all) {k : Nat} (hk : k < seq.length) (hal : all.length ≤ k) (hseq : seq.length ≤ 200) (hr : 1000 ≤ r)
    (hi : ∀ t ∈ seq, i64 t) {nx : Env → H → Option R} {K : Exit → Env → H → Option R} :
    ∃ h' ts' all' b b' bt bt', Both h' i j w m ts' all' b b' bt bt' s sst seq ∧ Inv w m ts' all' ∧ all'.length ≤ k + 1 ∧
      evCode P6 (ev06 r (n + 5)) (dead06 3) r 0 (pc [1, 1, 1, 1, 1, 1, 1, 0, 1, 0, 0] (bd Try.f3))
        (E3_0 (.int .i64 m) (.bool false) (.pointer (some ⟨i, 0, none⟩)) (.pointer (some ⟨j, 0, none⟩)) (.slice s seq.length sst) (.int .i64 seq.length) (.int .i64 k)) h (loopK nx (dead06 3 0) K) =
      nx (E3_0 (.int .i64 m) (.bool false) (.pointer (some ⟨i, 0, none⟩)) (.pointer (some ⟨j, 0, none⟩)) (.slice s seq.length sst) (.int .i64 seq.length) (.int .i64 (k + 1 : Nat))) h' := by
  have hm := I.m0
  have hl := I.len
  have hl2 : Nat.min m.toNat all.length ≤ all.length := Nat.min_le_right _ _
  have hkl : decide ((k : Int) < (seq.length : Int)) = true := by simp; omega
  have hx : i64 (seq.getD k 0) := hi _ (by rw [getD_lt hk]; exact List.getElem_mem _)
  have wk : IntKind.i64.wrap ((k : Int) + 1) = ((k + 1 : Nat) : Int) := by rw [wrap_id (by omega) (by omega)]; omega
  rw [e3a]
  simp only [hkl, cond_true]
  rw [B.S.index (by omega) (by omega)]
  simp only [Int.toNat_natCast, wk]
  generalize seq.getD k 0 = now at hx
  have C7 := c7 (n := n + 1) (r := r) B.W1 hm.1 I.ordT I.w0 (by omega) (by omega) hx
  have C8 := c8 (n := n + 3) (r := r) B.W2 hm.1 I.ord I.w0 (by omega) (by omega) (now := now)
  have C9 := c9 (n := n + 4) (r := r) B.W2 I.ord I.w0 (by omega) (by omega) (now := now)
  have C10 := c10' (n := n + 2) (r := r) B.W1 hm.1 I.ordT (by omega) (by omega) hx
  have C11 := c11 (n := n + 1) (r := r) B.W1 hm.1 I.ordT (by omega) (by omega) hx
  have C12 := c12 (n := n + 4) (r := r) B.W2 (by omega) (now := now)
  obtain ⟨D1, D2, D3⟩ := c13 (n := n + 1) (r := r) B.W1 B.wf hm.1 I.ordT (by omega) (by omega) hx
  rw [I.asked, I.same] at C7 C11 D2 D3
  rw [I.asked] at D1
  rw [I.same] at C10
  cases ha : asked now all with
  | false =>
    obtain ⟨G1, _, _⟩ := c14 (n := n + 3) (r := r) B.W2 B.wf hm.1 I.ord I.w0 (by omega) (by omega) (now := now)
    rw [ha] at C7 C8 C11 C12
    simp only [if_true] at C7 C8
    simp only [Bool.false_and] at C11
    refine ⟨h, ts, all, a, a', st, st', B, I, by omega, ?_⟩
    simp only [callK_mk C7, callK_mk C8, callK_mk C9, callK_mk C10, callK_mk C11, callK_mk C12, callK_mk (D1 ha), callK_mk (G1 ha), castTup_mk, headK_mk, castI_mk, castBB_mk, nilK_mk, bne_self_eq_false, cond_false]
    exact tail (n := n + 3) B I (by omega)
  | true =>
    rw [ha] at C7 C8 C11 C12
    simp only [Bool.true_eq_false, if_false] at C7 C8
    simp only [Bool.true_and] at C11
    by_cases hc : (ccnt w now all : Int) < m
    · obtain ⟨h1, T1, E1⟩ := D3 ha hc
      obtain ⟨b, bt, B1⟩ := B.take1 T1
      obtain ⟨_, _, G3⟩ := c14 (n := n + 3) (r := r) B1.W2 B1.wf hm.1 I.ord I.w0 (by omega) (by omega) (now := now)
      obtain ⟨h2, T2, E2⟩ := G3 ha hc
      obtain ⟨b', bt', B2⟩ := B1.swap.take1 T2
      have I2 := I.grow ha hc
      refine ⟨h2, _, _, b, b', bt, bt', B2.swap, I2, by simp; omega, ?_⟩
      have hc' : decide ((ccnt w now all : Int) < m) = true := by simpa using hc
      rw [hc'] at C11
      rw [if_pos hc] at C7 C8
      simp only [callK_mk C7, callK_mk C8, callK_mk C9, callK_mk C10, callK_mk C11, callK_mk C12, callK_mk E1, callK_mk E2, castTup_mk, headK_mk, castI_mk, castBB_mk, nilK_mk, bne_self_eq_false, cond_false, cond_true, hc']
      exact tail (n := n + 3) B2.swap I2 (by simp; omega)
    · obtain ⟨_, G2, _⟩ := c14 (n := n + 3) (r := r) B.W2 B.wf hm.1 I.ord I.w0 (by omega) (by omega) (now := now)
      refine ⟨h, ts, all, a, a', st, st', B, I, by omega, ?_⟩
      have hc' : decide ((ccnt w now all : Int) < m) = false := by simpa using hc
      rw [hc'] at C11
      rw [if_neg hc] at C7 C8
      rw [(I.first hc).1] at C7
      simp only [callK_mk C7, callK_mk C8, callK_mk C9, callK_mk C10, callK_mk C11, callK_mk C12, callK_mk (D2 ha hc), callK_mk (G2 ha hc), castTup_mk, headK_mk, castI_mk, castBB_mk, nilK_mk, bne_self_eq_false, cond_false, cond_true, hc']
      exact tail (n := n + 3) B I (by omega)

/-- All rounds. -/
theorem loop3 (hseq : seq.length ≤ 200) (hr : 1000 ≤ r) (hi : ∀ t ∈ seq, i64 t) {K : Exit → Env → H → Option R} : ∀ (d k r' : Nat) (h : H) (ts all : List Int) (a a' : Option Addr) (st st' : Nat),
    k + d = seq.length → d < r' → Both h i j w m ts all a a' st st' s sst seq → Inv w m ts all → all.length ≤ k →
    ∃ h', evLoop (evCode P6 (ev06 r (n + 5)) (dead06 3) r 0 (pc [1, 1, 1, 1, 1, 1, 1, 0, 1, 0, 0] (bd Try.f3))) (dead06 3 0) r'
        (E3_0 (.int .i64 m) (.bool false) (.pointer (some ⟨i, 0, none⟩)) (.pointer (some ⟨j, 0, none⟩)) (.slice s seq.length sst) (.int .i64 seq.length) (.int .i64 k)) h K =
      K (.exit 0) (E3_0 (.int .i64 m) (.bool false) (.pointer (some ⟨i, 0, none⟩)) (.pointer (some ⟨j, 0, none⟩)) (.slice s seq.length sst) (.int .i64 seq.length) (.int .i64 seq.length)) h' := by
  intro d
  induction d with
  | zero =>
    intro k r' h ts all a a' st st' hk hr' B I hal
    obtain ⟨r', rfl⟩ : ∃ x, r' = x + 1 := ⟨r' - 1, by omega⟩
    have hkk : k = seq.length := by omega
    subst hkk
    refine ⟨h, ?_⟩
    rw [evLoop_succ, e3a]
    simp
  | succ d ih =>
    intro k r' h ts all a a' st st' hk hr' B I hal
    obtain ⟨r', rfl⟩ : ∃ x, r' = x + 1 := ⟨r' - 1, by omega⟩
    rw [evLoop_succ]
    obtain ⟨h', ts', all', b, b', bt, bt', B', I', hal', e⟩ := round (n := n) B I (k := k) (by omega) hal hseq hr hi (nx := fun env h => evLoop (evCode P6 (ev06 r (n + 5)) (dead06 3) r 0 (pc [1, 1, 1, 1, 1, 1, 1, 0, 1, 0, 0] (bd Try.f3))) (dead06 3 0) r' env h K) (K := K)
    rw [e]
    exact ih (k + 1) r' h' ts' all' b b' bt bt' (by omega) (by omega) B' I' hal'
end
end Go.Ev
