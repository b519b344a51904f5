/-
  Environments; regions that do not draw.
-/
import Derived.Test.YtofgaidlepmcmaaGreatDoorEvL
namespace Go.Ev
open Go

section
variable {R : Type} {P : Program}

/-- What the environment tells of the frame's slots. -/
def ERel (ρ : Rho) (env : Env) (tmps : Array Value) : Prop :=
  env.length = tmps.size ∧ ∀ t v, nth env t = some v → ∃ v', tmps[t]? = some v' ∧ VR ρ v v'

theorem ERel.mono {ρ ρ' : Rho} (hle : ρ.le ρ') {env : Env} {tmps : Array Value} (h : ERel ρ env tmps) : ERel ρ' env tmps :=
  ⟨h.1, fun t v ht => let ⟨v', h1, h2⟩ := h.2 t v ht; ⟨v', h1, h2.mono hle⟩⟩

theorem nth_lt : ∀ {env : Env} {t : Nat} {v : Value}, nth env t = some v → t < env.length
  | [], _, _, h => by simp [nth] at h
  | _ :: _, 0, _, _ => by simp
  | _ :: r, n + 1, _, h => by have := nth_lt (env := r) (t := n) h; simp; omega
theorem nth_setN : ∀ (env : Env) (d t : Nat) (v : Value), nth (setN env d v) t = if t = d ∧ d < env.length then some v else nth env t
  | [], d, t, v => by simp [setN, nth]
  | x :: r, 0, 0, v => by simp [setN, nth]
  | x :: r, 0, t + 1, v => by simp [setN, nth]
  | x :: r, d + 1, 0, v => by simp [setN, nth]
  | x :: r, d + 1, t + 1, v => by simp only [setN, nth, nth_setN r d t v, List.length_cons]; simp
theorem length_setN : ∀ (env : Env) (d : Nat) (v : Value), (setN env d v).length = env.length
  | [], _, _ => rfl
  | _ :: _, 0, _ => rfl
  | _ :: r, d + 1, v => by simp [setN, length_setN r d v]
theorem nth_forget1 : ∀ (env : Env) (d t : Nat), nth (forget1 env d) t = if t = d then none else nth env t
  | [], d, t => by simp [forget1, nth]
  | x :: r, 0, 0 => by simp [forget1, nth]
  | x :: r, 0, t + 1 => by simp [forget1, nth]
  | x :: r, d + 1, 0 => by simp [forget1, nth]
  | x :: r, d + 1, t + 1 => by simp only [forget1, nth, nth_forget1 r d t]; simp
theorem length_forget1 : ∀ (env : Env) (d : Nat), (forget1 env d).length = env.length
  | [], _ => rfl
  | _ :: _, 0 => rfl
  | _ :: r, d + 1 => by simp [forget1, length_forget1 r d]
theorem nth_keepGo : ∀ (env : Env) (i : Nat) (l : List Nat) (t : Nat) (v : Value), nth (keepGo i l env) t = some v → nth env t = some v := by
  intro env
  induction env with
  | nil => intro i l t v h; cases l <;> simp [keepGo, nth] at h
  | cons x r ih =>
    intro i l t v h
    cases l with
    | nil =>
      simp only [keepGo] at h
      cases t with
      | zero => simp [nth] at h
      | succ t => exact ih _ _ _ _ h
    | cons k ks =>
      simp only [keepGo] at h
      cases hb : Nat.beq i k with
      | true =>
        rw [hb] at h
        cases t with
        | zero => exact h
        | succ t => exact ih _ _ _ _ h
      | false =>
        rw [hb] at h
        cases t with
        | zero => simp [nth] at h
        | succ t => exact ih _ _ _ _ h
theorem length_keepGo : ∀ (env : Env) (i : Nat) (l : List Nat), (keepGo i l env).length = env.length := by
  intro env
  induction env with
  | nil => intro i l; cases l <;> rfl
  | cons x r ih =>
    intro i l
    cases l with
    | nil => simp [keepGo, ih]
    | cons k ks => simp only [keepGo]; cases Nat.beq i k <;> simp [ih]
theorem ERel.forget {ρ : Rho} {tmps : Array Value} (d : Option (List Nat)) {env : Env} (h : ERel ρ env tmps) : ERel ρ (forget env d) tmps := by
  cases d with
  | none => exact h
  | some l => exact ⟨by rw [show Go.Ev.forget env (some l) = keepGo 0 l env from rfl, length_keepGo]; exact h.1, fun t v hv => h.2 t v (nth_keepGo env 0 l t v hv)⟩
theorem ERel.put {ρ : Rho} {env : Env} {a : Act} {v v' : Value} (h : ERel ρ env a.tmps) (hv : VR ρ v v') (dst : Option Tmp) : ERel ρ (putE env dst v) (a.put dst v').tmps := by
  cases dst with
  | none => exact h
  | some d =>
    simp only [putE, Act.put]
    refine ⟨by rw [length_setN]; simpa using h.1, fun t u ht => ?_⟩
    rw [nth_setN] at ht
    split at ht
    · rename_i hc
      obtain ⟨rfl, hlt⟩ := hc
      cases ht
      exact ⟨v', by rw [h.1] at hlt; simp [hlt], hv⟩
    · rename_i hc
      obtain ⟨u', h1, h2⟩ := h.2 t u ht
      have hlt := nth_lt ht
      refine ⟨u', ?_, h2⟩
      have hne : d ≠ t := by rintro rfl; exact hc ⟨rfl, hlt⟩
      rw [Array.getElem?_setIfInBounds_ne hne]; exact h1

theorem ERel.orel {ρ : Rho} {env : Env} {a : Act} (h : ERel ρ env a.tmps) (xs : Array Operand) : ORel ρ env a.eval xs := by
  intro x _ u hu
  cases x with
  | tmp t =>
    obtain ⟨u', h1, h2⟩ := h.2 t u hu
    have : a.eval (.tmp t) = u' := by simp [Act.eval, h1]
    rw [this]; exact h2
  | const v =>
    simp only [opnd] at hu
    cases hp : plainV 4 v with
    | false => rw [hp] at hu; cases hu
    | true => rw [hp] at hu; simp only [cond_true, Option.some.injEq] at hu; subst hu; exact plainV_refl hp
  | global g => simp [opnd] at hu
  | func f =>
    simp only [opnd, Option.some.injEq] at hu
    subst hu
    exact .func _ rfl (fun i x y hx => by simp at hx) rfl (fun i x y hx => by simp at hx)

theorem put_defers (a : Act) (dst : Option Tmp) (v : Value) : (a.put dst v).defers = a.defers := by cases dst <;> rfl

theorem evOp_sound {base : Base} {call : CallF} (hcall : CallOK P base call) (hcn : CallNext call) (hnc : NoCount P) {o : Oper} {env : Env} {h : H} {K : Value → H → Option R} {r : R}
    (hh : evOp P call o env h K = some r) : ∃ v h', K v h' = some r ∧ h.next ≤ h'.next ∧ ∀ ρ a w, Sim ρ base h w → ORel ρ env a.eval o.op.operands → EV P base o ρ h a w v h' := by
  unfold evOp at hh
  split at hh
  · obtain ⟨v, h1, h2⟩ := evPure_sound hh
    refine ⟨v, h, h1, Nat.le_refl _, fun ρ a w hs hr => ?_⟩
    obtain ⟨v', h3, h4⟩ := h2 ρ a.eval hr
    exact EV.of_run (h3 w) (.refl hs) h4
  · obtain ⟨same, v, h4, h1, _⟩ := evLoad_sound hh
    refine ⟨v, h, h4, Nat.le_refl _, fun ρ a w hs hr => ?_⟩
    obtain ⟨v', h5, h6⟩ := read_exec hs h1 hr
    exact EV.of_run h5 (.refl hs) h6
  · obtain ⟨cs, mk, h1, h2⟩ := evFresh_sound hh
    refine ⟨_, _, h1, Nat.le_succ _, fun ρ a w hs hr => ?_⟩
    obtain ⟨C, e, f, h3, h4, h5⟩ := h2 ρ a.eval hr
    exact EV.of_run (h3 w) (newRow_sim hs h4 (fun j _ _ hj => by simp at hj)) (h5 _ _ _ (Rho.ins_same _ _ _))
  · exact evEff_sound hcall hcn hnc hh

theorem wantedE_sound {ρ : Rho} {ops : Array Oper} {o : Oper} {env : Env} {tmps : Array Value} {b : Bool} (h : wantedE ops o env = some b)
    (hr : ∀ t v, nth env t = some v → ∃ v', tmps[t]? = some v' ∧ VR ρ v v') : Region.wanted o (yielded ops tmps) = b := by
  unfold wantedE at h
  unfold Region.wanted
  split at h
  · rename_i hg
    rw [hg]
    cases h; rfl
  · rename_i j want hg
    rw [hg]
    simp only
    split at h
    · cases h
    · rename_i t ht
      have hdst : (ops[j]?).bind (·.dst) = some t := by
        cases ho : ops[j]? with
        | none => rw [ho] at ht; cases ht
        | some p => rw [ho] at ht; exact ht
      split at h
      · rename_i c hc
        obtain ⟨v', h1, h2⟩ := hr t _ hc
        cases h2
        have hy : yielded ops tmps j = some c := by unfold yielded; rw [hdst]; simp only [Option.bind_some, h1]
        rw [hy]
        cases h
        cases c <;> cases want <;> rfl
      · rename_i vs hc
        obtain ⟨v', h1, h2⟩ := hr t _ hc
        obtain ⟨vs', rfl, _⟩ := h2.tuple_inv
        have hy : yielded ops tmps j = none := by unfold yielded; rw [hdst]; simp only [Option.bind_some, h1]
        rw [hy]
        cases h
        cases want <;> rfl
      · cases h

/-- What a piece of a body leaves. -/
def Leaves (base : Base) (ρ : Rho) (h : H) (a : Act) (w : World) (env' : Env) (h' : H) (Q : Act → World → Prop) : Prop :=
  ∀ ρ' a' w', Post base ρ h w ρ' h' w' → ERel ρ' env' a'.tmps → a'.defers = a.defers → Q a' w'

theorem evSeq_sound {base : Base} {call : CallF} (hcall : CallOK P base call) (hcn : CallNext call) (hnc : NoCount P) {ops : Array Oper} : ∀ (rest : List Oper) (k : Nat) {env : Env} {h : H} {K : Env → H → Option R} {r : R},
    (∀ i, rest[i]? = ops[k + i]?) → evSeq P call ops rest env h K = some r → ∃ env' h', K env' h' = some r ∧ h.next ≤ h'.next ∧ ∀ ρ a w Q, Sim ρ base h w → ERel ρ env a.tmps →
      Leaves base ρ h a w env' h' (Q .normal) → wpOps P ops Q (List.range' k rest.length) a w := by
  intro rest
  induction rest with
  | nil =>
    intro k env h K r _ hh
    refine ⟨env, h, hh, Nat.le_refl _, fun ρ a w Q hs he hl => ?_⟩
    exact hl ρ a w (.refl hs) he rfl
  | cons o rest ih =>
    intro k env h K r hops hh
    have ho : ops[k]? = some o := by have := hops 0; simpa using this.symm
    have hops' : ∀ i, rest[i]? = ops[k + 1 + i]? := fun i => by have := hops (i + 1); rw [show k + 1 + i = k + (i + 1) from by omega]; simpa using this
    simp only [evSeq] at hh
    obtain ⟨b, hw, hh⟩ := wantK_some hh
    cases b with
    | true =>
      simp only at hh
      obtain ⟨v, h1, hk, hnx, hop⟩ := evOp_sound hcall hcn hnc hh
      obtain ⟨env', h', h2, hnx2, h3⟩ := ih (k + 1) hops' hk
      refine ⟨env', h', h2, Nat.le_trans hnx hnx2, fun ρ a w Q hs he hl => ?_⟩
      simp only [List.length_cons, List.range'_succ, wpOps, ho]
      rw [wantedE_sound hw he.2]
      simp only [if_true]
      refine .inl (hop ρ a w hs (he.orel _) _ _ fun ρ' v' w' hp hv => ?_)
      refine h3 ρ' (a.put o.dst v') w' Q hp.sim ((he.mono hp.le).put hv o.dst) fun ρ2 a2 w2 hp2 he2 hd2 => ?_
      exact hl ρ2 a2 w2 (hp.trans hp2) he2 (by rw [hd2, put_defers])
    | false =>
      simp only at hh
      obtain ⟨env', h', h2, hnx2, h3⟩ := ih (k + 1) hops' hh
      refine ⟨env', h', h2, hnx2, fun ρ a w Q hs he hl => ?_⟩
      simp only [List.length_cons, List.range'_succ, wpOps, ho]
      rw [wantedE_sound hw he.2]
      simp only [Bool.false_eq_true, if_false]
      refine h3 ρ (a.put o.dst undef) w Q hs (he.put (.tuple' (.nil ρ)) o.dst) fun ρ2 a2 w2 hp2 he2 hd2 => ?_
      exact hl ρ2 a2 w2 hp2 he2 (by rw [hd2, put_defers])
end
end Go.Ev
