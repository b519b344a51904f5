/-
  Regions that draw: one operation of any order.
-/
import Derived.Test.YtofgaidlepmcmaaGreatDoorEvN3
import Derived.Orders
namespace Go.Ev
open Go

section
variable {P : Program} {base : Base} {ops : Array Oper} {b : List Nat} {pl : List (Nat × Nat)} {env : Env} {h : H} {S : Nat → CS} {V : Nat → Value} {O : Nat → Oper} {W : Nat → Bool}

theorem Trace.env_len (T : Trace P base ops b pl env h S V O W) : ∀ p, p ≤ pl.length → (S p).env.length = env.length := by
  intro p
  induction p with
  | zero => intro _; rw [T.start]
  | succ p ih =>
    intro hp
    have st := T.step p (by omega)
    rw [st.env]
    cases (O p).dst with
    | none => exact ih (by omega)
    | some d => simp only [putE, length_setN]; exact ih (by omega)

theorem FreshP.ne {p : Nat} (T : Trace P base ops b pl env h S V O W) (hp : p < pl.length) (hf : FreshP P O W p) : (S (p + 1)).h.next = (S p).h.next + 1 := by
  obtain ⟨_, _, _, _, h3, _⟩ := (T.step p hp).fresh hf.1 hf.2
  rw [h3, H.next_new]
theorem FreshP.lt {p q : Nat} (T : Trace P base ops b pl env h S V O W) (hf : FreshP P O W p) (hlt : p < q) (hq : q ≤ pl.length) : (S p).h.next < (S q).h.next := by
  have h1 := hf.ne T (by omega)
  have h2 := T.next_mono (q - (p + 1)) (p + 1) (by omega)
  rw [show p + 1 + (q - (p + 1)) = q from by omega] at h2
  omega
theorem FreshP.notEff {p : Nat} (T : Trace P base ops b pl env h S V O W) (hp : p < pl.length) (hf : FreshP P O W p) : isEff P ops (yp pl p) = false := by
  cases he : isEff P ops (yp pl p) with
  | false => rfl
  | true => have := (isEff_iff (T.step p hp).op).1 he; rw [hf.2] at this; cases this
theorem Trace.mono (T : Trace P base ops b pl env h S V O W) {p q : Nat} (hlt : p ≤ q) (hq : q ≤ pl.length) : (S p).h.next ≤ (S q).h.next := by
  have h2 := T.next_mono (q - p) p (by omega)
  rw [show p + (q - p) = q from by omega] at h2
  exact h2

/-- Where a step stands. -/
structure At (P : Program) (ops : Array Oper) (b : List Nat) (pl : List (Nat × Nat)) (D : Nat → Prop) (p : Nat) : Prop where
  lt : p < pl.length
  not : ¬ D (yp pl p)
  all : ∀ x, waits b (yp pl p) x → D x
  closed : ∀ x, D x → ∀ z, waits b x z → D z

theorem At.prior (pok : PlanOK P ops b pl) {D : Nat → Prop} {p : Nat} (A : At P ops b pl D p) (he : isEff P ops (yp pl p) = true) : ∀ q, q < p → D (yp pl q) :=
  fun q hq => A.all _ (pok.eff p A.lt he q hq)

theorem effs_lt {p q : Nat} (h : isEff P ops (yp pl q) = true) (hlt : q < p) : effs P ops pl q < effs P ops pl p := by
  have h1 : effs P ops pl (q + 1) = effs P ops pl q + 1 := by simp only [effs, h, if_true]
  have h2 := effs_mono (P := P) (ops := ops) (pl := pl) (p - (q + 1)) (q + 1)
  rw [show q + 1 + (p - (q + 1)) = p from by omega] at h2
  omega

/-- The stage at which a step may come up. -/
theorem InvB.le_effs {ρ0 ρ : Rho} {w0 w : World} {D : Nat → Prop} {k p : Nat} (pok : PlanOK P ops b pl) (I : InvB P base ops pl h S O W ρ0 w0 D k ρ w) (A : At P ops b pl D p) :
    k ≤ effs P ops pl p := by
  rcases Nat.lt_or_ge (effs P ops pl p) k with hlt | hge
  · exfalso
    obtain ⟨q, h1, h2, h3⟩ := eff_exists (P := P) (ops := ops) (pl := pl) pl.length (effs P ops pl p) (Nat.lt_of_lt_of_le hlt I.kle)
    have hD := (I.eff q h1 h2).2 (by omega)
    rcases Nat.lt_trichotomy q p with hqp | hqp | hqp
    · have := effs_lt (P := P) (ops := ops) h2 hqp; omega
    · subst hqp; exact A.not hD
    · exact A.not (A.closed _ hD _ (pok.eff q h1 h2 p hqp))
  · exact hge
theorem InvB.eq_effs {ρ0 ρ : Rho} {w0 w : World} {D : Nat → Prop} {k p : Nat} (pok : PlanOK P ops b pl) (I : InvB P base ops pl h S O W ρ0 w0 D k ρ w) (A : At P ops b pl D p)
    (he : isEff P ops (yp pl p) = true) : effs P ops pl p = k := by
  have h1 := I.le_effs pok A
  rcases Nat.lt_or_ge k (effs P ops pl p) with hlt | hge
  · exfalso
    obtain ⟨q, h2, h3, h4⟩ := eff_exists (P := P) (ops := ops) (pl := pl) p k hlt
    have hD := A.prior pok he q h2
    have := (I.eff q (by have := A.lt; omega) h3).1 hD
    omega
  · omega

/-- What the step sees. -/
theorem relY (T : Trace P base ops b pl env h S V O W) {ρ0 ρ : Rho} {w0 w : World} {D : Nat → Prop} {k p : Nat} {a0 a : Act} (hdom : ∀ i x, ρ0 i = some x → i < h.next) (he0 : ERel ρ0 env a0.tmps)
    (IA : InvA ops pl S V a0 D ρ a) (I : InvB P base ops pl h S O W ρ0 w0 D k ρ w) (A : At P ops b pl D p) :
    ∀ t ∈ (O p).looksAt ops, ∀ v, nth (S p).env t = some v → ∃ v', a.tmps[t]? = some v' ∧ VR (ρ.lim (S p).h.next) v v' := by
  intro t ht v hv
  have st := T.step p A.lt
  have hts : t < a0.tmps.size := by
    have := nth_lt hv
    rw [T.env_len p (Nat.le_of_lt A.lt), he0.1] at this
    exact this
  rcases T.env_at p (Nat.le_of_lt A.lt) t v hv with ⟨q, h1, h2, rfl⟩ | ⟨h1, h2⟩
  · have hlt := T.plan.lt q (by have := A.lt; omega)
    have hne : yp pl q ≠ yp pl p := fun e => by have := T.plan.inj q p (by have := A.lt; omega) A.lt e; omega
    rcases T.plan.look p A.lt _ st.op t ht _ hlt h2 hne with ⟨_, h3⟩ | ⟨h3, _⟩
    · obtain ⟨v', h4, h5⟩ := IA.vals q (by have := A.lt; omega) (A.all _ h3) t h2 hts
      exact ⟨v', h4, h5.mono (Rho.lim_mono (.refl ρ) (T.mono (by omega) (Nat.le_of_lt A.lt)))⟩
    · exact absurd ⟨q, h1, rfl⟩ h3
  · obtain ⟨v', h3, h4⟩ := he0.2 t v h2
    refine ⟨v', ?_, h4.mono fun i x hi => ?_⟩
    · rw [IA.rest t fun q hq hD hd => ?_]; exact h3
      have hne : yp pl q ≠ yp pl p := fun e => A.not (by rw [← e]; exact hD)
      rcases T.plan.look p A.lt _ st.op t ht _ (T.plan.lt q hq) hd hne with ⟨⟨q', h5, h6⟩, _⟩ | ⟨_, h5⟩
      · exact h1 q' h5 (by rw [h6]; exact hd)
      · exact A.not (A.closed _ hD _ h5)
    · have h5 := I.post.le i x hi
      have h6 := (Rho.lim_some h5).2
      have h7 := hdom i x hi
      have h8 := T.mono (Nat.zero_le p) (Nat.le_of_lt A.lt)
      rw [T.start] at h8
      rw [Rho.lim_lt (Nat.lt_of_lt_of_le h7 h8)]
      exact h6

theorem wantedE_look {ρ : Rho} {o : Oper} {tmps : Array Value} {c : Bool} (h : wantedE ops o env = some c)
    (hr : ∀ t ∈ o.looksAt ops, ∀ v, nth env t = some v → ∃ v', tmps[t]? = some v' ∧ VR ρ v v') : Region.wanted o (yielded ops tmps) = c := by
  have key := hr
  unfold wantedE at h
  unfold Region.wanted
  split at h
  · rename_i hg
    rw [hg]
    cases h; rfl
  · rename_i j want hg
    rw [hg]
    simp only
    split at h
    · cases h
    · rename_i t ht
      have hdst : (ops[j]?).bind (·.dst) = some t := by
        cases ho : ops[j]? with
        | none => rw [ho] at ht; cases ht
        | some p => rw [ho] at ht; exact ht
      have hl : t ∈ o.looksAt ops := by
        unfold Oper.looksAt
        rw [hg]
        refine List.mem_append_right _ ?_
        simp only [hdst, Option.toList_some, List.mem_singleton]
      split at h
      · rename_i c hc
        obtain ⟨v', h1, h2⟩ := hr t hl _ hc
        cases h2
        have hy : yielded ops tmps j = some c := by unfold yielded; rw [hdst]; simp only [Option.bind_some, h1]
        rw [hy]
        cases h
        cases c <;> cases want <;> rfl
      · rename_i vs hc
        obtain ⟨v', h1, h2⟩ := hr t hl _ hc
        obtain ⟨vs', rfl, _⟩ := h2.tuple_inv
        have hy : yielded ops tmps j = none := by unfold yielded; rw [hdst]; simp only [Option.bind_some, h1]
        rw [hy]
        cases h
        cases want <;> rfl
      · cases h

theorem orel_look {ρ : Rho} {o : Oper} {a : Act} (hr : ∀ t ∈ o.looksAt ops, ∀ v, nth env t = some v → ∃ v', a.tmps[t]? = some v' ∧ VR ρ v v') : ORel ρ env a.eval o.op.operands := by
  intro x hx u hu
  cases x with
  | tmp t =>
    have hl : t ∈ o.looksAt ops := by
      unfold Oper.looksAt
      exact List.mem_append_left _ (List.mem_filterMap.2 ⟨.tmp t, by simpa using hx, rfl⟩)
    obtain ⟨u', h1, h2⟩ := hr t hl u hu
    have : a.eval (.tmp t) = u' := by simp [Act.eval, h1]
    rw [this]; exact h2
  | const v =>
    simp only [opnd] at hu
    cases hp : plainV 4 v with
    | false => rw [hp] at hu; cases hu
    | true => rw [hp] at hu; simp only [cond_true, Option.some.injEq] at hu; subst hu; exact plainV_refl hp
  | global g => simp [opnd] at hu
  | func f =>
    simp only [opnd, Option.some.injEq] at hu
    subst hu
    exact .func _ rfl (fun i x y hx => by simp at hx) rfl (fun i x y hx => by simp at hx)

variable {ρ0 ρ : Rho} {w0 w : World} {D : Nat → Prop} {k p : Nat}

/-- A step that leaves the memory as it is. -/
theorem InvB.more (T : Trace P base ops b pl env h S V O W) (I : InvB P base ops pl h S O W ρ0 w0 D k ρ w) (A : At P ops b pl D p)
    (he : isEff P ops (yp pl p) = false) (hf : ¬ FreshP P O W p) : InvB P base ops pl h S O W ρ0 w0 (fun x => D x ∨ x = yp pl p) k ρ w where
  kle := I.kle
  eff := fun q hq he' => by
    have hne : yp pl q ≠ yp pl p := fun e => by rw [e, he] at he'; cases he'
    rw [← I.eff q hq he']
    exact ⟨fun h => h.resolve_right hne, .inl⟩
  post := I.post
  dom := fun i x hi => (I.dom i x hi).imp id fun ⟨q, h1, h2, h3⟩ => ⟨q, h1, .inl h2, h3⟩
  pend := fun q hq hfq hD => I.pend q hq hfq (hD.resolve_right fun e => hf (by rw [← T.plan.inj q p hq A.lt e]; exact hfq))
  sep := fun q r hq hr hfq hfr hD hD' => I.sep q r hq hr hfq hfr (hD.resolve_right fun e => hf (by rw [← T.plan.inj q p hq A.lt e]; exact hfq))
    (hD'.resolve_right fun e => hf (by rw [← T.plan.inj r p hr A.lt e]; exact hfr))

/-- A block that waits is no block of the plan's walk up to there. -/
theorem InvB.apart (T : Trace P base ops b pl env h S V O W) (hbase : base ≤ w0.heap.size) (I : InvB P base ops pl h S O W ρ0 w0 D k ρ w) (A : At P ops b pl D p)
    (he : isEff P ops (yp pl p) = true) {q : Nat} (hq : q < pl.length) (hfq : FreshP P O W q) (hD : D (yp pl q)) (hle : (S p).h.next ≤ (S q).h.next) {bb o K : Nat} (hr : ρ (S q).h.next = some (bb, o, K)) :
    ∀ i x o' K', (S p).h.get i = some x → ρ.lim (S p).h.next i = some (bb, o', K') → False := by
  intro i x o' K' hi hri
  have hk := I.eq_effs T.plan A he
  obtain ⟨_, h2⟩ := I.adopt T hbase p (Nat.le_of_lt A.lt) hk (fun r hr _ => A.prior T.plan he r hr)
  have hst : (stg pl S k).next ≤ (S p).h.next := T.stg_le p (Nat.le_of_lt A.lt) k (by omega)
  obtain ⟨hlt, hri'⟩ := Rho.lim_some hri
  obtain ⟨cs, mk, _, _, hnew, _⟩ := (T.step q hq).fresh hfq.1 hfq.2
  rcases h2 i x hi with h3 | ⟨r, h3, h4, h5, h6⟩
  · obtain ⟨bb', C, e, q1, _, _, _, q5⟩ := I.pend q hq hfq hD (by omega) cs hnew
    rw [hr] at q1; cases q1
    exact q5 i x o' K' h3 (by rw [Rho.lim_lt (I.post.sim.get_next h3)]; exact hri')
  · subst h6
    have := I.sep q r hq (by have := A.lt; omega) hfq h4 hD (A.prior T.plan he r h3) (by omega) h5 _ _ _ _ _ hr hri'
    omega

/-- An effect that is not wanted. -/
theorem InvB.idle (T : Trace P base ops b pl env h S V O W) (hbase : base ≤ w0.heap.size) (I : InvB P base ops pl h S O W ρ0 w0 D k ρ w) (A : At P ops b pl D p)
    (he : isEff P ops (yp pl p) = true) (hW : W p = false) : InvB P base ops pl h S O W ρ0 w0 (fun x => D x ∨ x = yp pl p) (k + 1) ρ w := by
  have hk := I.eq_effs T.plan A he
  have st := T.step p A.lt
  have hsame := (st.no hW).2.1
  have hstg : stg pl S (k + 1) = (S p).h := by rw [← hk, T.stg_eff A.lt he, hsame]
  obtain ⟨h1, h2⟩ := I.adopt T hbase p (Nat.le_of_lt A.lt) hk (fun r hr _ => A.prior T.plan he r hr)
  have hst : (stg pl S k).next ≤ (S p).h.next := T.stg_le p (Nat.le_of_lt A.lt) k (by omega)
  have hnf : ¬ FreshP P O W p := fun hf => by rw [hf.1] at hW; cases hW
  have res : ∀ {q}, q < pl.length → FreshP P O W q → (D (yp pl q) ∨ yp pl q = yp pl p) → D (yp pl q) := fun hq hfq hD =>
    hD.resolve_right fun e => hnf (by rw [← T.plan.inj _ p hq A.lt e]; exact hfq)
  refine ⟨?_, fun q hq heq => ?_, by rw [hstg]; exact h1, fun i x hi => ?_, ?_, ?_⟩
  · have := effs_lt (P := P) (ops := ops) he A.lt; omega
  · by_cases e : q = p
    · subst e; exact ⟨fun _ => by omega, fun _ => .inr rfl⟩
    · have hne : effs P ops pl q ≠ k := fun e2 => e (eff_unique heq he (by omega))
      constructor
      · rintro (h3 | h3)
        · have := (I.eff q hq heq).1 h3; omega
        · exact absurd (T.plan.inj q p hq A.lt h3) e
      · intro h3; exact .inl ((I.eff q hq heq).2 (by omega))
  · rw [hstg]
    rcases I.dom i x hi with h3 | ⟨q, h3, h4, h5⟩
    · exact .inl (by omega)
    · exact .inr ⟨q, h3, .inl h4, h5⟩
  · intro q hq hfq hD hle cs hcs
    rw [hstg] at hle
    have hD' := res hq hfq hD
    obtain ⟨bb, C, e, q1, q2, q3, q4, _⟩ := I.pend q hq hfq hD' (by omega) cs hcs
    refine ⟨bb, C, e, q1, q2, q3, q4, ?_⟩
    rw [hstg]
    exact I.apart T hbase A he hq hfq hD' hle q1
  · intro q r hq hr hfq hfr hD hD' hle hle'
    rw [hstg] at hle hle'
    exact I.sep q r hq hr hfq hfr (res hq hfq hD) (res hr hfr hD') (by omega) (by omega)

/-- An effect. -/
def Rho.over (ρ : Rho) (n : Nat) (ρ' : Rho) : Rho := fun i => if i < n then ρ' i else ρ i
theorem Rho.over_lt {ρ ρ' : Rho} {n i : Nat} (h : i < n) : ρ.over n ρ' i = ρ' i := by simp [Rho.over, h]
theorem Rho.over_ge {ρ ρ' : Rho} {n i : Nat} (h : n ≤ i) : ρ.over n ρ' i = ρ i := by simp [Rho.over, Nat.not_lt.2 h]
theorem Rho.over_lim {ρ ρ' : Rho} {n : Nat} (h : ∀ i x, ρ' i = some x → i < n) : (ρ.over n ρ').lim n = ρ' := by
  funext i
  by_cases hi : i < n
  · rw [Rho.lim_lt hi, Rho.over_lt hi]
  · unfold Rho.lim
    rw [if_neg hi]
    cases e : ρ' i with
    | none => rfl
    | some x => exact absurd (h i x e) hi

theorem InvB.over_le (T : Trace P base ops b pl env h S V O W) (I : InvB P base ops pl h S O W ρ0 w0 D k ρ w) (A : At P ops b pl D p)
    (he : isEff P ops (yp pl p) = true) {ρ' : Rho} (hle : (ρ.lim (S p).h.next).le ρ') : ρ.le (ρ.over (S (p + 1)).h.next ρ') := by
  intro i x hi
  have hk := I.eq_effs T.plan A he
  have hst : (stg pl S k).next ≤ (S p).h.next := T.stg_le p (Nat.le_of_lt A.lt) k (by omega)
  by_cases h1 : i < (S (p + 1)).h.next
  · rw [Rho.over_lt h1]
    have h2 : i < (S p).h.next := by
      rcases I.dom i x hi with h3 | ⟨q, h3, h4, h5, rfl⟩
      · omega
      · rcases Nat.lt_trichotomy q p with hqp | hqp | hqp
        · exact h5.lt T hqp (Nat.le_of_lt A.lt)
        · subst hqp; exact absurd h4 A.not
        · have := T.mono (p := p + 1) (q := q) (by omega) (by omega); omega
    exact hle i x (by rw [Rho.lim_lt h2]; exact hi)
  · rw [Rho.over_ge (by omega)]; exact hi

theorem InvB.act (T : Trace P base ops b pl env h S V O W) (hbase : base ≤ w0.heap.size) (I : InvB P base ops pl h S O W ρ0 w0 D k ρ w) (A : At P ops b pl D p)
    (he : isEff P ops (yp pl p) = true) {ρ' : Rho} {w' : World} (hp : Post base (ρ.lim (S p).h.next) (S p).h w ρ' (S (p + 1)).h w') :
    InvB P base ops pl h S O W ρ0 w0 (fun x => D x ∨ x = yp pl p) (k + 1) (ρ.over (S (p + 1)).h.next ρ') w' := by
  have hk := I.eq_effs T.plan A he
  have hstg : stg pl S (k + 1) = (S (p + 1)).h := by rw [← hk, T.stg_eff A.lt he]
  obtain ⟨h1, h2⟩ := I.adopt T hbase p (Nat.le_of_lt A.lt) hk (fun r hr _ => A.prior T.plan he r hr)
  have hst : (stg pl S k).next ≤ (S p).h.next := T.stg_le p (Nat.le_of_lt A.lt) k (by omega)
  have hst1 : (S p).h.next ≤ (S (p + 1)).h.next := T.next_mono1 A.lt
  have hlim : (ρ.over (S (p + 1)).h.next ρ').lim (S (p + 1)).h.next = ρ' := Rho.over_lim hp.sim.dom
  have hole := I.over_le T A he hp.le
  have hnf : ¬ FreshP P O W p := fun hf => by have := hf.notEff T A.lt; rw [he] at this; cases this
  have res : ∀ {q}, q < pl.length → FreshP P O W q → (D (yp pl q) ∨ yp pl q = yp pl p) → D (yp pl q) := fun hq hfq hD =>
    hD.resolve_right fun e => hnf (by rw [← T.plan.inj _ p hq A.lt e]; exact hfq)
  refine ⟨?_, fun q hq heq => ?_, ?_, fun i x hi => ?_, ?_, ?_⟩
  · have := effs_lt (P := P) (ops := ops) he A.lt; omega
  · by_cases e : q = p
    · subst e; exact ⟨fun _ => by omega, fun _ => .inr rfl⟩
    · have hne : effs P ops pl q ≠ k := fun e2 => e (eff_unique heq he (by omega))
      constructor
      · rintro (h3 | h3)
        · have := (I.eff q hq heq).1 h3; omega
        · exact absurd (T.plan.inj q p hq A.lt h3) e
      · intro h3; exact .inl ((I.eff q hq heq).2 (by omega))
  · rw [hstg, hlim]; exact h1.trans hp
  · rw [hstg]
    by_cases hi1 : i < (S (p + 1)).h.next
    · exact .inl hi1
    · rw [Rho.over_ge (by omega)] at hi
      rcases I.dom i x hi with h3 | ⟨q, h3, h4, h5⟩
      · exact .inl (by omega)
      · exact .inr ⟨q, h3, .inl h4, h5⟩
  · intro q hq hfq hD hle cs hcs
    rw [hstg] at hle
    have hD' := res hq hfq hD
    obtain ⟨bb, C, e, q1, q2, q3, q4, _⟩ := I.pend q hq hfq hD' (by omega) cs hcs
    have hap := I.apart T hbase A he hq hfq hD' (by omega) q1
    have hbb : bb < w.heap.size := (Array.getElem?_eq_some_iff.1 q3).1
    refine ⟨bb, C, e, by rw [Rho.over_ge hle]; exact q1, q2, ?_, fun j v hj => ?_, ?_⟩
    · rw [hp.frame bb hbb fun i x o K hi _ hr => hap i x o K hi hr]; exact q3
    · obtain ⟨a1, v', a2, a3⟩ := q4 j v hj
      exact ⟨a1, v', a2, a3.mono (Rho.lim_mono hole (Nat.le_refl _))⟩
    · rw [hstg, hlim]
      intro i x o K hi hr
      rcases hp.own i x bb o K hi hr (Nat.le_trans hbase q2) with h3 | ⟨j, y, o', K', h3, h4, _⟩
      · omega
      · exact hap j y o' K' h3 h4
  · intro q r hq hr hfq hfr hD hD' hle hle' bb o K o' K' hq1 hr1
    rw [hstg] at hle hle'
    rw [Rho.over_ge hle] at hq1
    rw [Rho.over_ge hle'] at hr1
    exact I.sep q r hq hr hfq hfr (res hq hfq hD) (res hr hfr hD') (by omega) (by omega) _ _ _ _ _ hq1 hr1

/-- A new row. -/
theorem InvB.fresh (T : Trace P base ops b pl env h S V O W) (I : InvB P base ops pl h S O W ρ0 w0 D k ρ w) (A : At P ops b pl D p)
    (hf : FreshP P O W p) {cs : List Value} {C : Array Value} {e : TypeId} (hnew : (S (p + 1)).h = (S p).h.new (.cells cs false))
    (hcs : ∀ (j : Nat) v, cs[j]? = some v → v.oneCell' = true ∧ ∃ v', C[j]? = some v' ∧ VR (ρ.lim (S p).h.next) v v') :
    ρ.le (ρ.ins (S p).h.next (w.heap.size, 0, C.size)) ∧
    InvB P base ops pl h S O W ρ0 w0 (fun x => D x ∨ x = yp pl p) k (ρ.ins (S p).h.next (w.heap.size, 0, C.size)) (w.alloc (.cells C e)) := by
  have hke := I.le_effs T.plan A
  have hst : (stg pl S k).next ≤ (S p).h.next := T.stg_le p (Nat.le_of_lt A.lt) k hke
  have diff : ∀ q, q < pl.length → FreshP P O W q → (S q).h.next = (S p).h.next → q = p := by
    intro q hq hfq e
    rcases Nat.lt_trichotomy q p with hqp | hqp | hqp
    · have := hfq.lt T hqp (Nat.le_of_lt A.lt); omega
    · exact hqp
    · have := hf.lt T hqp (Nat.le_of_lt hq); omega
  have hnone : ρ (S p).h.next = none := by
    cases e : ρ (S p).h.next with
    | none => rfl
    | some x =>
      rcases I.dom _ _ e with h3 | ⟨q, h3, h4, h5, h6⟩
      · omega
      · have := diff q h3 h5 h6.symm
        subst this; exact absurd h4 A.not
  have hle : ρ.le (ρ.ins (S p).h.next (w.heap.size, 0, C.size)) := Rho.le_ins _ hnone
  have hlim : (ρ.ins (S p).h.next (w.heap.size, 0, C.size)).lim (stg pl S k).next = ρ.lim (stg pl S k).next := by
    funext i
    unfold Rho.lim
    split
    · rw [Rho.ins_other _ _ (by omega)]
    · rfl
  have old : ∀ bb, bb < w.heap.size → (w.alloc (.cells C e)).heap[bb]? = w.heap[bb]? := fun bb hb => RowKit.Below.heap_alloc w _ bb hb
  have hnpe : isEff P ops (yp pl p) = false := hf.notEff T A.lt
  refine ⟨hle, I.kle, fun q hq he' => ?_, ?_, fun i x hi => ?_, ?_, ?_⟩
  · have hne : yp pl q ≠ yp pl p := fun e => by rw [e, hnpe] at he'; cases he'
    rw [← I.eff q hq he']
    exact ⟨fun h => h.resolve_right hne, .inl⟩
  · rw [hlim]
    exact I.post.grow (by simp) old rfl rfl rfl
  · by_cases hi1 : i = (S p).h.next
    · exact .inr ⟨p, A.lt, .inr rfl, hf, hi1⟩
    · rw [Rho.ins_other _ _ hi1] at hi
      rcases I.dom i x hi with h3 | ⟨q, h3, h4, h5⟩
      · exact .inl h3
      · exact .inr ⟨q, h3, .inl h4, h5⟩
  · intro q hq hfq hD hle' cs' hcs'
    by_cases hqp : q = p
    · subst hqp
      have : cs' = cs := by
        have h1 := congrArg (fun g => H.get g (S q).h.next) (hnew.symm.trans hcs')
        simp only [H.get_new, if_true, Option.some.injEq, Blk.cells.injEq] at h1
        exact h1.1.symm
      subst this
      refine ⟨w.heap.size, C, e, Rho.ins_same _ _ _, I.post.size, ?_, fun j v hj => ?_, ?_⟩
      · show (w.heap.push _)[w.heap.size]? = _; simp
      · obtain ⟨a1, v', a2, a3⟩ := hcs j v hj
        exact ⟨a1, v', a2, a3.mono (Rho.lim_mono hle (Nat.le_refl _))⟩
      · rw [hlim]
        intro i x o K hi hr
        obtain ⟨b', o', K', obj, h3, h4, _⟩ := I.post.sim.blk i x hi
        rw [hr] at h3; cases h3
        have : w.heap.size < w.heap.size := (Array.getElem?_eq_some_iff.1 h4).1
        omega
    · have hne : (S q).h.next ≠ (S p).h.next := fun e => hqp (diff q hq hfq e)
      have hD' := hD.resolve_right fun e => hqp (T.plan.inj q p hq A.lt e)
      obtain ⟨bb, C', e', q1, q2, q3, q4, q5⟩ := I.pend q hq hfq hD' hle' cs' hcs'
      refine ⟨bb, C', e', by rw [Rho.ins_other _ _ hne]; exact q1, q2, by rw [old bb (Array.getElem?_eq_some_iff.1 q3).1]; exact q3, fun j v hj => ?_, by rw [hlim]; exact q5⟩
      obtain ⟨a1, v', a2, a3⟩ := q4 j v hj
      exact ⟨a1, v', a2, a3.mono (Rho.lim_mono hle (Nat.le_refl _))⟩
  · have bound : ∀ q, q < pl.length → FreshP P O W q → D (yp pl q) → (stg pl S k).next ≤ (S q).h.next → ∀ bb o K, ρ (S q).h.next = some (bb, o, K) → bb < w.heap.size := by
      intro q hq hfq hD hle' bb o K hr
      obtain ⟨cs', mk, _, _, hnew', _⟩ := (T.step q hq).fresh hfq.1 hfq.2
      obtain ⟨bb', C', e', q1, _, q3, _, _⟩ := I.pend q hq hfq hD hle' cs' hnew'
      rw [hr] at q1; cases q1
      exact (Array.getElem?_eq_some_iff.1 q3).1
    intro q r hq hr hfq hfr hD hD' hle1 hle2 bb o K o' K' hq1 hr1
    by_cases hqp : q = p <;> by_cases hrp : r = p
    · rw [hqp, hrp]
    · subst hqp
      rw [Rho.ins_same] at hq1; cases hq1
      rw [Rho.ins_other _ _ (fun e => hrp (diff r hr hfr e))] at hr1
      have := bound r hr hfr (hD'.resolve_right fun e => hrp (T.plan.inj r _ hr A.lt e)) hle2 _ _ _ hr1
      omega
    · subst hrp
      rw [Rho.ins_same] at hr1; cases hr1
      rw [Rho.ins_other _ _ (fun e => hqp (diff q hq hfq e))] at hq1
      have := bound q hq hfq (hD.resolve_right fun e => hqp (T.plan.inj q _ hq A.lt e)) hle1 _ _ _ hq1
      omega
    · rw [Rho.ins_other _ _ (fun e => hqp (diff q hq hfq e))] at hq1
      rw [Rho.ins_other _ _ (fun e => hrp (diff r hr hfr e))] at hr1
      exact I.sep q r hq hr hfq hfr (hD.resolve_right fun e => hqp (T.plan.inj q p hq A.lt e)) (hD'.resolve_right fun e => hrp (T.plan.inj r p hr A.lt e)) hle1 hle2 _ _ _ _ _ hq1 hr1
end
end Go.Ev
