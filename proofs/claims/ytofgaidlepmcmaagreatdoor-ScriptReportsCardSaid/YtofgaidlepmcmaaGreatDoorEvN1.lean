/-
  Regions that draw: what the plan's check says.
-/
import Derived.Test.YtofgaidlepmcmaaGreatDoorEvM
namespace Go.Ev
open Go

section
variable {P : Program}

/-- Waits for, directly or through others. -/
def waits (b : List Nat) (x y : Nat) : Prop := (b.getD x 0).testBit y = true

structure Bits (ops : Array Oper) (b : List Nat) : Prop where
  sub : ∀ x o, ops[x]? = some o → ∀ y, waits b x y → ∃ e ∈ o.after, Region.binds .any e = true ∧ (e.on = y ∨ waits b e.on y)
  sup : ∀ x o, ops[x]? = some o → ∀ e ∈ o.after, Region.binds .any e = true → waits b x e.on
  acyc : ∀ x o, ops[x]? = some o → ∀ e ∈ o.after, Region.binds .any e = true → e.on < x

theorem fold_bit (b : List Nat) (y : Nat) : ∀ (l : List Edge) (s : Nat),
    (l.foldl (fun s e => bif Region.binds .any e then s ||| 2 ^ e.on ||| b.getD e.on 0 else s) s).testBit y = true ↔
      s.testBit y = true ∨ ∃ e ∈ l, Region.binds .any e = true ∧ (e.on = y ∨ waits b e.on y) := by
  intro l
  induction l with
  | nil => intro s; simp
  | cons e r ih =>
    intro s
    simp only [List.foldl_cons, ih]
    cases hb : Region.binds .any e with
    | false =>
      simp only [cond_false]
      constructor
      · rintro (h | ⟨e', h1, h2⟩)
        · exact .inl h
        · exact .inr ⟨e', List.mem_cons_of_mem _ h1, h2⟩
      · rintro (h | ⟨e', h1, h2, h3⟩)
        · exact .inl h
        · rcases List.mem_cons.1 h1 with rfl | h1
          · rw [hb] at h2; cases h2
          · exact .inr ⟨e', h1, h2, h3⟩
    | true =>
      simp only [cond_true, Nat.testBit_or, Bool.or_eq_true, Nat.testBit_two_pow, decide_eq_true_eq]
      constructor
      · rintro (((h | h) | h) | ⟨e', h1, h2⟩)
        · exact .inl h
        · exact .inr ⟨e, List.mem_cons_self .., hb, .inl h⟩
        · exact .inr ⟨e, List.mem_cons_self .., hb, .inr h⟩
        · exact .inr ⟨e', List.mem_cons_of_mem _ h1, h2⟩
      · rintro (h | ⟨e', h1, h2, h3⟩)
        · exact .inl (.inl (.inl h))
        · rcases List.mem_cons.1 h1 with rfl | h1
          · rcases h3 with h3 | h3
            · exact .inl (.inl (.inr h3))
            · exact .inl (.inr h3)
          · exact .inr ⟨e', h1, h2, h3⟩

theorem bitsOk_spec {ops : Array Oper} {b : List Nat} (h : bitsOk ops b = true) : Bits ops b := by
  have key : ∀ x o, ops[x]? = some o → b.getD x 0 = o.after.toList.foldl (fun s e => bif Region.binds .any e then s ||| 2 ^ e.on ||| b.getD e.on 0 else s) 0 ∧
      ∀ e ∈ o.after.toList, Region.binds .any e = true → e.on < x := by
    intro x o ho
    have hx : x < ops.size := (Array.getElem?_eq_some_iff.1 ho).1
    unfold bitsOk at h
    rw [List.all_eq_true] at h
    have h1 := h x (List.mem_range.2 hx)
    rw [ho] at h1
    simp only [Bool.and_eq_true, List.all_eq_true, Bool.or_eq_true, Bool.not_eq_true'] at h1
    refine ⟨Nat.eq_of_beq_eq_true h1.1, fun e he hb => ?_⟩
    rcases h1.2 e he with h2 | h2
    · rw [hb] at h2; cases h2
    · rw [Nat.blt_eq] at h2; exact h2
  refine ⟨fun x o ho y hw => ?_, fun x o ho e he hb => ?_, fun x o ho e he hb => (key x o ho).2 e (by simpa using he) hb⟩
  · unfold waits at hw
    rw [(key x o ho).1, fold_bit] at hw
    rcases hw with hw | ⟨e, h1, h2, h3⟩
    · simp at hw
    · exact ⟨e, by simpa using h1, h2, h3⟩
  · unfold waits
    rw [(key x o ho).1, fold_bit]
    exact .inr ⟨e, by simpa using he, hb, .inl rfl⟩

/-- The operation at a place of the plan. -/
def yp (pl : List (Nat × Nat)) (p : Nat) : Nat := (pl.getD p (0, 0)).1
def lop (pl : List (Nat × Nat)) (p : Nat) : Nat := (pl.getD p (0, 0)).2

/-- How many effects stand ahead of a place. -/
def effs (P : Program) (ops : Array Oper) (pl : List (Nat × Nat)) : Nat → Nat
  | 0 => 0
  | p + 1 => effs P ops pl p + (if isEff P ops (yp pl p) = true then 1 else 0)

structure PlanOK (P : Program) (ops : Array Oper) (b : List Nat) (pl : List (Nat × Nat)) : Prop where
  lt : ∀ p, p < pl.length → yp pl p < ops.size
  inj : ∀ p q, p < pl.length → q < pl.length → yp pl p = yp pl q → p = q
  cover : ∀ x, x < ops.size → ∃ p, p < pl.length ∧ yp pl p = x
  lin : ∀ p, p < pl.length → ∀ x, waits b (yp pl p) x → ∃ q, q < p ∧ yp pl q = x
  eff : ∀ p, p < pl.length → isEff P ops (yp pl p) = true → ∀ q, q < p → waits b (yp pl p) (yp pl q)
  look : ∀ p, p < pl.length → ∀ o, ops[yp pl p]? = some o → ∀ t ∈ o.looksAt ops, ∀ x, x < ops.size → dstOf ops x = some t → x ≠ yp pl p →
    ((∃ q, q < p ∧ yp pl q = x) ∧ waits b (yp pl p) x) ∨ ((¬ ∃ q, q < p ∧ yp pl q = x) ∧ waits b x (yp pl p))
  lo : ∀ p, p < pl.length → isEff P ops (yp pl p) = false → lop pl p = 0 ∨ ∃ q, q < p ∧ isEff P ops (yp pl q) = true ∧ effs P ops pl q + 1 = lop pl p ∧ waits b (yp pl p) (yp pl q)
  dst : ∀ x y t, dstOf ops x = some t → dstOf ops y = some t → x = y
  bits : Bits ops b

theorem dstOk_spec {ops : Array Oper} (h : dstOk ops = true) (x y : Nat) (t : Tmp) (hx : dstOf ops x = some t) (hy : dstOf ops y = some t) : x = y := by
  have hlt : ∀ x t, dstOf ops x = some t → x < ops.size := by
    intro x t hx
    unfold dstOf at hx
    cases ho : ops[x]? with
    | none => rw [ho] at hx; cases hx
    | some o => exact (Array.getElem?_eq_some_iff.1 ho).1
  have key : ∀ x y, dstOf ops x = some t → dstOf ops y = some t → ¬ y < x := by
    intro x y hx hy hlt2
    unfold dstOk at h
    rw [List.all_eq_true] at h
    have h1 := h x (List.mem_range.2 (hlt x t hx))
    rw [List.all_eq_true] at h1
    have h2 := h1 y (List.mem_range.2 hlt2)
    rw [hx, hy] at h2
    simp at h2
  have h1 := key x y hx hy
  have h2 := key y x hy hx
  omega

/-- What the walk over the plan's rest says, given what is ahead. -/
structure RestOK (P : Program) (ops : Array Oper) (b : List Nat) (pl : List (Nat × Nat)) (k : Nat) : Prop where
  lt : ∀ p, k ≤ p → p < pl.length → yp pl p < ops.size
  inj : ∀ p q, k ≤ p → p < pl.length → q < p → yp pl p ≠ yp pl q
  lin : ∀ p, k ≤ p → p < pl.length → ∀ x, waits b (yp pl p) x → ∃ q, q < p ∧ yp pl q = x
  eff : ∀ p, k ≤ p → p < pl.length → isEff P ops (yp pl p) = true → ∀ q, q < p → waits b (yp pl p) (yp pl q)
  look : ∀ p, k ≤ p → p < pl.length → ∀ o, ops[yp pl p]? = some o → ∀ t ∈ o.looksAt ops, ∀ x, x < ops.size → dstOf ops x = some t → x ≠ yp pl p →
    ((∃ q, q < p ∧ yp pl q = x) ∧ waits b (yp pl p) x) ∨ ((¬ ∃ q, q < p ∧ yp pl q = x) ∧ waits b x (yp pl p))
  lo : ∀ p, k ≤ p → p < pl.length → isEff P ops (yp pl p) = false → lop pl p = 0 ∨ ∃ q, q < p ∧ isEff P ops (yp pl q) = true ∧ effs P ops pl q + 1 = lop pl p ∧ waits b (yp pl p) (yp pl q)
  cover : ∀ x, x < ops.size → ∃ p, p < pl.length ∧ yp pl p = x

theorem goOk_spec {ops : Array Oper} {b : List Nat} {pl : List (Nat × Nat)} : ∀ (rest : List (Nat × Nat)) (k m : Nat) (el : List Nat),
    rest = pl.drop k → k ≤ pl.length → (∀ x, m.testBit x = true ↔ ∃ q, q < k ∧ yp pl q = x) →
    (∀ l e, el.reverse[l]? = some e → ∃ q, q < k ∧ isEff P ops (yp pl q) = true ∧ yp pl q = e ∧ effs P ops pl q = l) → el.length = effs P ops pl k →
    goOk P ops b m el rest = true → RestOK P ops b pl k := by
  intro rest
  induction rest with
  | nil =>
    intro k m el hr hk hm hel hlen h
    have hkl : k = pl.length := by
      have : (pl.drop k).length = 0 := by rw [← hr]; rfl
      simp at this; omega
    refine ⟨fun p a c => by omega, fun p q a c => by omega, fun p a c => by omega, fun p a c => by omega, fun p a c => by omega, fun p a c => by omega, fun x hx => ?_⟩
    simp only [goOk] at h
    have hme := Nat.eq_of_beq_eq_true h
    have : m.testBit x = true := by rw [hme, Nat.testBit_two_pow_sub_one]; simpa using hx
    obtain ⟨q, h1, h2⟩ := (hm x).1 this
    exact ⟨q, by omega, h2⟩
  | cons y rest ih =>
    intro k m el hr hk hm hel hlen h
    obtain ⟨y, lo⟩ := y
    have hklt : k < pl.length := by
      have : (pl.drop k).length = rest.length + 1 := by rw [← hr]; rfl
      simp at this; omega
    have hget : pl[k]? = some (y, lo) := by
      have h1 : (pl.drop k)[0]? = some (y, lo) := by rw [← hr]; rfl
      simpa using h1
    have hyp : yp pl k = y := by unfold yp; rw [List.getD_eq_getElem?_getD, hget]; rfl
    have hlop : lop pl k = lo := by unfold lop; rw [List.getD_eq_getElem?_getD, hget]; rfl
    have hrest : rest = pl.drop (k + 1) := by
      have : pl.drop (k + 1) = (pl.drop k).drop 1 := by rw [List.drop_drop]
      rw [this, ← hr]; rfl
    simp only [goOk, Bool.and_eq_true, Bool.not_eq_true'] at h
    obtain ⟨⟨⟨⟨h1, h2⟩, h3⟩, h4⟩, h5⟩ := h
    have hyl : y < ops.size := by rw [Nat.blt_eq] at h1; exact h1
    have hsub : ∀ x, waits b y x → m.testBit x = true := by
      intro x hx
      have h6 := Nat.eq_of_beq_eq_true h3
      unfold waits at hx
      rw [← h6, Nat.testBit_and, Bool.and_eq_true] at hx
      exact hx.2
    have hm' : ∀ x, (m ||| 2 ^ y).testBit x = true ↔ ∃ q, q < k + 1 ∧ yp pl q = x := by
      intro x
      rw [Nat.testBit_or, Bool.or_eq_true, hm, Nat.testBit_two_pow, decide_eq_true_eq]
      constructor
      · rintro (⟨q, a, c⟩ | e)
        · exact ⟨q, by omega, c⟩
        · exact ⟨k, by omega, by rw [hyp]; exact e⟩
      · rintro ⟨q, a, c⟩
        by_cases hq : q = k
        · subst hq; exact .inr (by rw [← c]; exact hyp.symm)
        · exact .inl ⟨q, by omega, c⟩
    have hnot : ¬ ∃ q, q < k ∧ yp pl q = y := by
      intro hc
      rw [(hm y).2 hc] at h2; cases h2
    have hlook : ∀ o, ops[yp pl k]? = some o → ∀ t ∈ o.looksAt ops, ∀ x, x < ops.size → dstOf ops x = some t → x ≠ yp pl k →
        ((∃ q, q < k ∧ yp pl q = x) ∧ waits b (yp pl k) x) ∨ ((¬ ∃ q, q < k ∧ yp pl q = x) ∧ waits b x (yp pl k)) := by
      intro o ho t ht x hx hd hne
      rw [hyp] at ho hne ⊢
      unfold lookOk at h4
      rw [ho] at h4
      simp only [List.all_eq_true] at h4
      have h7 := h4 t ht x (List.mem_range.2 hx)
      simp only [Bool.or_eq_true, Bool.not_eq_true'] at h7
      rcases h7 with (h7 | h7) | h7
      · exact absurd (Nat.eq_of_beq_eq_true h7) hne
      · simp [isOp, hd] at h7
      · cases hmx : m.testBit x with
        | true => rw [hmx] at h7; exact .inl ⟨(hm x).1 hmx, h7⟩
        | false =>
          rw [hmx] at h7
          exact .inr ⟨fun hc => (by rw [(hm x).2 hc] at hmx; cases hmx), h7⟩
    have step : ∀ (R : RestOK P ops b pl (k + 1)), (isEff P ops y = true → ∀ q, q < k → waits b y (yp pl q)) →
        (isEff P ops y = false → lo = 0 ∨ ∃ q, q < k ∧ isEff P ops (yp pl q) = true ∧ effs P ops pl q + 1 = lo ∧ waits b y (yp pl q)) → RestOK P ops b pl k := by
      intro R hE hL
      refine ⟨fun p a c => ?_, fun p q a c d => ?_, fun p a c x hx => ?_, fun p a c e q hq => ?_, fun p a c => ?_, fun p a c e => ?_, R.cover⟩
      · by_cases hp : p = k
        · subst hp; rw [hyp]; exact hyl
        · exact R.lt p (by omega) c
      · by_cases hp : p = k
        · subst hp; intro hc; exact hnot ⟨q, d, by rw [← hc]; exact hyp⟩
        · exact R.inj p q (by omega) c d
      · by_cases hp : p = k
        · subst hp; rw [hyp] at hx; exact (hm x).1 (hsub x hx)
        · exact R.lin p (by omega) c x hx
      · by_cases hp : p = k
        · subst hp; rw [hyp] at e ⊢; exact hE e q hq
        · exact R.eff p (by omega) c e q hq
      · by_cases hp : p = k
        · subst hp; exact hlook
        · exact R.look p (by omega) c
      · by_cases hp : p = k
        · subst hp; rw [hyp] at e ⊢; rw [hlop]; exact hL e
        · exact R.lo p (by omega) c e
    have heffs : effs P ops pl (k + 1) = effs P ops pl k + (if isEff P ops y = true then 1 else 0) := by simp only [effs, hyp]
    cases hE : isEff P ops y with
    | true =>
      rw [hE] at h5
      simp only [cond_true, Bool.and_eq_true] at h5
      obtain ⟨h6, h7⟩ := h5
      have hbm := Nat.eq_of_beq_eq_true h6
      have R := ih (k + 1) (m ||| 2 ^ y) (y :: el) hrest (by omega) hm' (fun l e hle => by
          rw [List.reverse_cons] at hle
          rcases Nat.lt_or_ge l el.reverse.length with hl | hl
          · rw [List.getElem?_append_left hl] at hle
            obtain ⟨q, a, c⟩ := hel l e hle
            exact ⟨q, by omega, c⟩
          · rw [List.getElem?_append_right hl] at hle
            have hl0 : l - el.reverse.length = 0 := by
              have := (List.getElem?_eq_some_iff.1 hle).1; simp at this; simp; omega
            rw [hl0] at hle
            simp only [List.getElem?_cons_zero, Option.some.injEq] at hle
            subst hle
            refine ⟨k, by omega, by rw [hyp]; exact hE, hyp, ?_⟩
            rw [← hlen]; simp at hl hl0; omega) (by rw [heffs, hE]; simp [hlen]) h7
      refine step R (fun _ q hq => ?_) (fun h => by rw [hE] at h; cases h)
      unfold waits
      rw [hbm]; exact (hm _).2 ⟨q, hq, rfl⟩
    | false =>
      rw [hE] at h5
      simp only [cond_false, Bool.and_eq_true] at h5
      obtain ⟨h6, h7⟩ := h5
      have R := ih (k + 1) (m ||| 2 ^ y) el hrest (by omega) hm' (fun l e hle => by
          obtain ⟨q, a, c⟩ := hel l e hle
          exact ⟨q, by omega, c⟩) (by rw [heffs, hE]; simp [hlen]) h7
      refine step R (fun h => by rw [hE] at h; cases h) (fun _ => ?_)
      cases lo with
      | zero => exact .inl rfl
      | succ l =>
        simp only at h6
        split at h6
        · rename_i e he
          obtain ⟨q, a, c, d, f⟩ := hel l e he
          exact .inr ⟨q, a, c, by omega, by rw [d]; exact h6⟩
        · cases h6

theorem drawOk_spec {ops : Array Oper} {b : List Nat} {pl : List (Nat × Nat)} (h : drawOk P ops b pl = true) : PlanOK P ops b pl := by
  unfold drawOk at h
  simp only [Bool.and_eq_true] at h
  obtain ⟨⟨h1, h2⟩, h3⟩ := h
  have R := goOk_spec (P := P) (ops := ops) (b := b) (pl := pl) pl 0 0 [] rfl (Nat.zero_le _) (fun x => by simp) (fun l e he => by simp at he) rfl h3
  refine ⟨fun p => R.lt p (Nat.zero_le _), fun p q hp hq he => ?_, R.cover, fun p => R.lin p (Nat.zero_le _), fun p => R.eff p (Nat.zero_le _),
    fun p => R.look p (Nat.zero_le _), fun p => R.lo p (Nat.zero_le _), dstOk_spec h2, bitsOk_spec h1⟩
  rcases Nat.lt_trichotomy p q with h | h | h
  · exact absurd he.symm (R.inj q p (Nat.zero_le _) hq h)
  · exact h
  · exact absurd he (R.inj p q (Nat.zero_le _) hp h)
end
end Go.Ev
