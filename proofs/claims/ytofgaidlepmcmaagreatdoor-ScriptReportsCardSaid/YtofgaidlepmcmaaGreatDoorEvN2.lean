/-
  Regions that draw: the walk in the plan's order, step by step.
-/
import Derived.Test.YtofgaidlepmcmaaGreatDoorEvN1
namespace Go.Ev
open Go

section
variable {R : Type} {P : Program}

theorem sameK_some {same : H → Bool} : ∀ {l : List H} {k : Unit → Option R} {r : R}, sameK same l k = some r → k () = some r ∧ ∀ h ∈ l, same h = true := by
  intro l
  induction l with
  | nil => intro k r h; exact ⟨h, fun h hm => by simp at hm⟩
  | cons h l ih =>
    intro k r hh
    simp only [sameK] at hh
    cases hs : same h with
    | false => rw [hs] at hh; cases hh
    | true =>
      rw [hs] at hh
      obtain ⟨h1, h2⟩ := ih hh
      refine ⟨h1, fun g hg => ?_⟩
      rcases List.mem_cons.1 hg with rfl | hg
      · exact hs
      · exact h2 g hg

/-- A state of the walk in the plan's order. -/
structure CS where
  env : Env
  h : H
  hist : List H

/-- One step of it. -/
structure StepR (P : Program) (base : Base) (ops : Array Oper) (y lo : Nat) (s s' : CS) (v : Value) (o : Oper) (b : Bool) : Prop where
  op : ops[y]? = some o
  env : s'.env = putE s.env o.dst v
  want : wantedE ops o s.env = some b
  no : b = false → v = .tuple #[] ∧ s'.h = s.h ∧ s'.hist = (if isEff P ops y = true then s.h :: s.hist else s.hist)
  pure : b = true → cls P o.op = .pure → PV P o s.env v ∧ s'.h = s.h ∧ s'.hist = s.hist
  load : b = true → cls P o.op = .load → s'.h = s.h ∧ s'.hist = s.hist ∧ ∃ h0 old, s.hist = h0 :: old ∧ Reads P o s.env h0 v ∧ ∀ hj ∈ old.take (old.length - lo), Reads P o s.env hj v
  fresh : b = true → cls P o.op = .fresh → ∃ cs mk, FV P o s.env cs mk ∧ v = mk s.h.next ∧ s'.h = s.h.new (.cells cs false) ∧ s'.hist = s.hist
  eff : b = true → cls P o.op = .eff → s'.hist = s'.h :: s.hist ∧ s.h.next ≤ s'.h.next ∧ ∀ ρ a w, Sim ρ base s.h w → ORel ρ s.env a.eval o.op.operands → EV P base o ρ s.h a w v s'.h

theorem isEff_iff {ops : Array Oper} {y : Nat} {o : Oper} (h : ops[y]? = some o) : isEff P ops y = true ↔ cls P o.op = .eff := by
  unfold isEff
  rw [h]
  simp only
  generalize cls P o.op = c
  cases c <;> simp

theorem evDraw_trace {base : Base} {call : CallF} (hcall : CallOK P base call) (hcn : CallNext call) (hnc : NoCount P) {ops : Array Oper} : ∀ (pl : List (Nat × Nat)) (env : Env) (h : H) (hist : List H)
    (K : Env → H → Option R) (r : R), evDraw P call ops pl env h hist K = some r →
    ∃ (S : Nat → CS) (V : Nat → Value) (O : Nat → Oper) (W : Nat → Bool), S 0 = ⟨env, h, hist⟩ ∧ K (S pl.length).env (S pl.length).h = some r ∧
      ∀ p, p < pl.length → StepR P base ops (yp pl p) (lop pl p) (S p) (S (p + 1)) (V p) (O p) (W p) := by
  intro pl
  induction pl with
  | nil =>
    intro env h hist K r hh
    exact ⟨fun _ => ⟨env, h, hist⟩, fun _ => undef, fun _ => default, fun _ => false, rfl, hh, fun p hp => by simp at hp⟩
  | cons y pl ih =>
    obtain ⟨i, lo⟩ := y
    intro env h hist K r hh
    have glue : ∀ (s1 : CS) (v : Value) (o : Oper) (b : Bool), StepR P base ops i lo ⟨env, h, hist⟩ s1 v o b → evDraw P call ops pl s1.env s1.h s1.hist K = some r →
        ∃ (S : Nat → CS) (V : Nat → Value) (O : Nat → Oper) (W : Nat → Bool), S 0 = ⟨env, h, hist⟩ ∧ K (S ((i, lo) :: pl).length).env (S ((i, lo) :: pl).length).h = some r ∧
          ∀ p, p < ((i, lo) :: pl).length → StepR P base ops (yp ((i, lo) :: pl) p) (lop ((i, lo) :: pl) p) (S p) (S (p + 1)) (V p) (O p) (W p) := by
      intro s1 v o b hst hrest
      obtain ⟨S, V, O, W, h1, h2, h3⟩ := ih s1.env s1.h s1.hist K r hrest
      have h1' : S 0 = s1 := h1
      refine ⟨fun p => match p with | 0 => ⟨env, h, hist⟩ | p + 1 => S p, fun p => match p with | 0 => v | p + 1 => V p, fun p => match p with | 0 => o | p + 1 => O p,
        fun p => match p with | 0 => b | p + 1 => W p, rfl, h2, fun p hp => ?_⟩
      cases p with
      | zero => show StepR P base ops i lo _ (S 0) v o b; rw [h1']; exact hst
      | succ p => exact h3 p (by simpa using hp)
    simp only [evDraw] at hh
    split at hh
    · cases hh
    · rename_i o ho
      obtain ⟨b, hw, hh⟩ := wantK_some hh
      cases b with
      | false =>
        simp only at hh
        have no : ∀ hist', hist' = (if isEff P ops i = true then h :: hist else hist) → StepR P base ops i lo ⟨env, h, hist⟩ ⟨putE env o.dst (.tuple #[]), h, hist'⟩ (.tuple #[]) o false := by
          intro hist' e
          exact ⟨ho, rfl, hw, fun _ => ⟨rfl, rfl, e⟩, fun h => (by cases h), fun h => (by cases h), fun h => (by cases h), fun h => (by cases h)⟩
        split at hh
        · rename_i hc
          exact glue ⟨putE env o.dst (.tuple #[]), h, h :: hist⟩ _ o false (no _ (by rw [if_pos ((isEff_iff ho).2 hc)])) hh
        · rename_i hc
          refine glue ⟨putE env o.dst (.tuple #[]), h, hist⟩ _ o false (no _ (by rw [if_neg]; intro hx; exact hc ((isEff_iff ho).1 hx))) hh
      | true =>
        simp only at hh
        split at hh
        · rename_i hc
          obtain ⟨v, h1, h2⟩ := evPure_sound hh
          exact glue ⟨putE env o.dst v, h, hist⟩ v o true ⟨ho, rfl, hw, fun h => (by cases h), fun _ _ => ⟨h2, rfl, rfl⟩, fun _ h => (by rw [hc] at h; cases h), fun _ h => (by rw [hc] at h; cases h),
            fun _ h => (by rw [hc] at h; cases h)⟩ h1
        · rename_i hc
          split at hh
          · cases hh
          · rename_i h0 old _
            obtain ⟨same, v, h4, h1, h2⟩ := evLoad_sound hh
            obtain ⟨h4, hall⟩ := sameK_some h4
            first
            | exact glue ⟨putE env o.dst v, h, h0 :: old⟩ v o true ⟨ho, rfl, hw, fun h => (by cases h), fun _ h => (by rw [hc] at h; cases h),
                fun _ _ => ⟨rfl, rfl, h0, old, rfl, h1, fun hj hm => h2 _ (hall _ hm)⟩, fun _ h => (by rw [hc] at h; cases h), fun _ h => (by rw [hc] at h; cases h)⟩ h4
        · rename_i hc
          obtain ⟨cs, mk, h1, h2⟩ := evFresh_sound hh
          exact glue ⟨putE env o.dst (mk h.next), h.new (.cells cs false), hist⟩ _ o true ⟨ho, rfl, hw, fun h => (by cases h), fun _ h => (by rw [hc] at h; cases h), fun _ h => (by rw [hc] at h; cases h),
            fun _ _ => ⟨cs, mk, h2, rfl, rfl, rfl⟩, fun _ h => (by rw [hc] at h; cases h)⟩ h1
        · rename_i hc
          obtain ⟨v, h', h1, h2, h3⟩ := evEff_sound hcall hcn hnc hh
          exact glue ⟨putE env o.dst v, h', h' :: hist⟩ v o true ⟨ho, rfl, hw, fun h => (by cases h), fun _ h => (by rw [hc] at h; cases h), fun _ h => (by rw [hc] at h; cases h), fun _ h => (by rw [hc] at h; cases h),
            fun _ _ => ⟨rfl, h2, h3⟩⟩ h1

/-- All of it. -/
structure Trace (P : Program) (base : Base) (ops : Array Oper) (b : List Nat) (pl : List (Nat × Nat)) (env : Env) (h : H) (S : Nat → CS) (V : Nat → Value) (O : Nat → Oper) (W : Nat → Bool) : Prop where
  plan : PlanOK P ops b pl
  start : S 0 = ⟨env, h, [h]⟩
  step : ∀ p, p < pl.length → StepR P base ops (yp pl p) (lop pl p) (S p) (S (p + 1)) (V p) (O p) (W p)

variable {base : Base} {ops : Array Oper} {b : List Nat} {pl : List (Nat × Nat)} {env : Env} {h : H} {S : Nat → CS} {V : Nat → Value} {O : Nat → Oper} {W : Nat → Bool}

/-- The memory behind the k-th effect. -/
def stg (pl : List (Nat × Nat)) (S : Nat → CS) (k : Nat) : H := ((S pl.length).hist.reverse).getD k ⟨0, .nil⟩

theorem Trace.histStep (T : Trace P base ops b pl env h S V O W) {p : Nat} (hp : p < pl.length) :
    (isEff P ops (yp pl p) = true → (S (p + 1)).hist = (S (p + 1)).h :: (S p).hist) ∧ (isEff P ops (yp pl p) = false → (S (p + 1)).hist = (S p).hist) := by
  have st := T.step p hp
  have iff := isEff_iff (P := P) st.op
  cases hb : W p with
  | false =>
    obtain ⟨_, h2, h3⟩ := st.no hb
    refine ⟨fun he => ?_, fun he => ?_⟩
    · rw [h3, if_pos he, h2]
    · rw [h3, if_neg (by rw [he]; simp)]
  | true =>
    refine ⟨fun he => (st.eff hb (iff.1 he)).1, fun he => ?_⟩
    cases hc : cls P (O p).op with
    | pure => exact (st.pure hb hc).2.2
    | load => exact (st.load hb hc).2.1
    | fresh => obtain ⟨_, _, _, _, _, h4⟩ := st.fresh hb hc; exact h4
    | eff => rw [iff.2 hc] at he; cases he

theorem Trace.hist_len (T : Trace P base ops b pl env h S V O W) : ∀ p, p ≤ pl.length → (S p).hist.length = effs P ops pl p + 1 := by
  intro p
  induction p with
  | zero => intro _; rw [T.start]; rfl
  | succ p ih =>
    intro hp
    have h1 := ih (by omega)
    obtain ⟨h2, h3⟩ := T.histStep (p := p) (by omega)
    simp only [effs]
    cases he : isEff P ops (yp pl p) with
    | true => rw [h2 he]; simp [h1]
    | false => rw [h3 he]; simp [h1]

theorem Trace.hist_suffix (T : Trace P base ops b pl env h S V O W) : ∀ n p, p + n ≤ pl.length → ∃ l, (S (p + n)).hist = l ++ (S p).hist := by
  intro n
  induction n with
  | zero => intro p _; exact ⟨[], rfl⟩
  | succ n ih =>
    intro p hp
    obtain ⟨l, hl⟩ := ih p (by omega)
    obtain ⟨h2, h3⟩ := T.histStep (p := p + n) (by omega)
    cases he : isEff P ops (yp pl (p + n)) with
    | true => exact ⟨(S (p + n + 1)).h :: l, by rw [← Nat.add_assoc, h2 he, hl]; rfl⟩
    | false => exact ⟨l, by rw [← Nat.add_assoc, h3 he, hl]⟩

theorem Trace.hist_get (T : Trace P base ops b pl env h S V O W) {p j : Nat} (hp : p ≤ pl.length) (hj : j ≤ effs P ops pl p) : (S p).hist.reverse[j]? = some (stg pl S j) := by
  obtain ⟨l, hl⟩ := T.hist_suffix (pl.length - p) p (by omega)
  rw [show p + (pl.length - p) = pl.length from by omega] at hl
  have hlen := T.hist_len p hp
  have hlt : j < (S p).hist.reverse.length := by simp; omega
  unfold stg
  rw [hl, List.reverse_append, List.getD_eq_getElem?_getD, List.getElem?_append_left hlt, List.getElem?_eq_getElem hlt]
  rfl

theorem Trace.stg_zero (T : Trace P base ops b pl env h S V O W) : stg pl S 0 = h := by
  have := T.hist_get (p := 0) (j := 0) (Nat.zero_le _) (Nat.zero_le _)
  rw [T.start] at this
  simpa using this.symm

theorem Trace.stg_eff (T : Trace P base ops b pl env h S V O W) {p : Nat} (hp : p < pl.length) (he : isEff P ops (yp pl p) = true) : stg pl S (effs P ops pl p + 1) = (S (p + 1)).h := by
  have h1 : effs P ops pl (p + 1) = effs P ops pl p + 1 := by simp only [effs, he, if_true]
  have := T.hist_get (p := p + 1) (j := effs P ops pl p + 1) (by omega) (by omega)
  have hlen := T.hist_len p (by omega)
  rw [(T.histStep hp).1 he, List.reverse_cons, List.getElem?_append_right (by simp; omega)] at this
  have e0 : effs P ops pl p + 1 - (S p).hist.reverse.length = 0 := by simp; omega
  rw [e0] at this
  simpa using this.symm

theorem Trace.hist_head (T : Trace P base ops b pl env h S V O W) {p : Nat} (hp : p ≤ pl.length) {h0 : H} {old : List H} (hh : (S p).hist = h0 :: old) :
    h0 = stg pl S (effs P ops pl p) ∧ ∀ lo j, lo ≤ j → j < effs P ops pl p → stg pl S j ∈ old.take (old.length - lo) := by
  have hlen := T.hist_len p hp
  rw [hh] at hlen
  simp only [List.length_cons] at hlen
  refine ⟨?_, fun lo j h1 h2 => ?_⟩
  · have := T.hist_get (p := p) (j := effs P ops pl p) hp (Nat.le_refl _)
    rw [hh, List.reverse_cons, List.getElem?_append_right (by simp; omega)] at this
    have e0 : effs P ops pl p - old.reverse.length = 0 := by simp; omega
    rw [e0] at this
    simpa using this
  · have := T.hist_get (p := p) (j := j) hp (by omega)
    rw [hh, List.reverse_cons, List.getElem?_append_left (by simp; omega), List.getElem?_reverse (by omega)] at this
    refine List.mem_of_getElem? (i := old.length - 1 - j) ?_
    rw [List.getElem?_take, if_pos (by omega)]
    exact this

theorem Trace.next_mono1 (T : Trace P base ops b pl env h S V O W) {p : Nat} (hp : p < pl.length) : (S p).h.next ≤ (S (p + 1)).h.next := by
  have st := T.step p hp
  cases hb : W p with
  | false => rw [(st.no hb).2.1]; exact Nat.le_refl _
  | true =>
    cases hc : cls P (O p).op with
    | pure => rw [(st.pure hb hc).2.1]; exact Nat.le_refl _
    | load => rw [(st.load hb hc).1]; exact Nat.le_refl _
    | fresh => obtain ⟨_, _, _, _, h3, _⟩ := st.fresh hb hc; rw [h3]; exact Nat.le_succ _
    | eff => exact (st.eff hb hc).2.1
theorem Trace.next_mono (T : Trace P base ops b pl env h S V O W) : ∀ n p, p + n ≤ pl.length → (S p).h.next ≤ (S (p + n)).h.next := by
  intro n
  induction n with
  | zero => intro p _; exact Nat.le_refl _
  | succ n ih => intro p hp; exact Nat.le_trans (ih p (by omega)) (T.next_mono1 (p := p + n) (by omega))

theorem Trace.stg_le (T : Trace P base ops b pl env h S V O W) : ∀ p, p ≤ pl.length → ∀ j, j ≤ effs P ops pl p → (stg pl S j).next ≤ (S p).h.next := by
  intro p
  induction p with
  | zero =>
    intro _ j hj
    have h0 : j = 0 := Nat.le_zero.1 hj
    rw [h0, T.stg_zero, T.start]
    exact Nat.le_refl _
  | succ p ih =>
    intro hp j hj
    simp only [effs] at hj
    cases he : isEff P ops (yp pl p) with
    | true =>
      rw [he] at hj
      simp only [if_true] at hj
      by_cases hjj : j = effs P ops pl p + 1
      · subst hjj; rw [T.stg_eff (by omega) he]; exact Nat.le_refl _
      · exact Nat.le_trans (ih (by omega) j (by omega)) (T.next_mono1 (by omega))
    | false =>
      rw [he] at hj
      exact Nat.le_trans (ih (by omega) j (by simpa using hj)) (T.next_mono1 (by omega))

theorem effs_mono {pl : List (Nat × Nat)} : ∀ n p, effs P ops pl p ≤ effs P ops pl (p + n) := by
  intro n
  induction n with
  | zero => intro p; exact Nat.le_refl _
  | succ n ih => intro p; exact Nat.le_trans (ih p) (by show _ ≤ effs P ops pl (p + n) + _; omega)

/-- Two effects of one number are one. -/
theorem eff_unique {pl : List (Nat × Nat)} {p q : Nat} (h1 : isEff P ops (yp pl p) = true) (h2 : isEff P ops (yp pl q) = true) (h : effs P ops pl p = effs P ops pl q) : p = q := by
  have key : ∀ p q, isEff P ops (yp pl p) = true → effs P ops pl p = effs P ops pl q → ¬ p < q := by
    intro p q h1 h hlt
    have := effs_mono (P := P) (ops := ops) (pl := pl) (q - (p + 1)) (p + 1)
    rw [show p + 1 + (q - (p + 1)) = q from by omega] at this
    have e : effs P ops pl (p + 1) = effs P ops pl p + 1 := by simp only [effs, h1, if_true]
    omega
  have a1 := key p q h1 h
  have a2 := key q p h2 h.symm
  omega

/-- An effect of each number ahead. -/
theorem eff_exists {pl : List (Nat × Nat)} : ∀ p j, j < effs P ops pl p → ∃ q, q < p ∧ isEff P ops (yp pl q) = true ∧ effs P ops pl q = j := by
  intro p
  induction p with
  | zero => intro j hj; simp [effs] at hj
  | succ p ih =>
    intro j hj
    simp only [effs] at hj
    cases he : isEff P ops (yp pl p) with
    | true =>
      rw [he] at hj
      simp only [if_true] at hj
      by_cases hjj : j = effs P ops pl p
      · exact ⟨p, by omega, he, hjj.symm⟩
      · obtain ⟨q, h1, h2⟩ := ih j (by omega); exact ⟨q, by omega, h2⟩
    | false =>
      rw [he] at hj
      obtain ⟨q, h1, h2⟩ := ih j (by simpa using hj); exact ⟨q, by omega, h2⟩

/-- What a slot holds ahead of a place. -/
theorem Trace.env_at (T : Trace P base ops b pl env h S V O W) : ∀ p, p ≤ pl.length → ∀ t v, nth (S p).env t = some v →
    (∃ q, q < p ∧ dstOf ops (yp pl q) = some t ∧ v = V q) ∨ ((∀ q, q < p → dstOf ops (yp pl q) ≠ some t) ∧ nth env t = some v) := by
  intro p
  induction p with
  | zero => intro _ t v hv; rw [T.start] at hv; exact .inr ⟨fun q hq => by omega, hv⟩
  | succ p ih =>
    intro hp t v hv
    have st := T.step p (by omega)
    have hd : dstOf ops (yp pl p) = (O p).dst := by unfold dstOf; rw [st.op]; rfl
    rw [st.env] at hv
    have old : nth (S p).env t = some v → dstOf ops (yp pl p) ≠ some t → (∃ q, q < p + 1 ∧ dstOf ops (yp pl q) = some t ∧ v = V q) ∨ ((∀ q, q < p + 1 → dstOf ops (yp pl q) ≠ some t) ∧ nth env t = some v) := fun h1 h2 => by
      rcases ih (by omega) t v h1 with ⟨q, a, c, d⟩ | ⟨a, c⟩
      · exact .inl ⟨q, by omega, c, d⟩
      · refine .inr ⟨fun q hq => ?_, c⟩
        by_cases hqp : q = p
        · subst hqp; exact h2
        · exact a q (by omega)
    cases hdst : (O p).dst with
    | none => rw [hdst] at hv; exact old hv (by rw [hd, hdst]; simp)
    | some d =>
      rw [hdst] at hv
      simp only [putE, nth_setN] at hv
      split at hv
      · rename_i hc
        cases hv
        exact .inl ⟨p, by omega, by rw [hd, hdst, hc.1], rfl⟩
      · rename_i hc
        refine old hv ?_
        rw [hd, hdst]
        intro e
        cases e
        exact hc ⟨rfl, nth_lt hv⟩
end
end Go.Ev
