/-
  Bodies and calls.
-/
import Derived.Test.YtofgaidlepmcmaaGreatDoorEvN5
import Derived.Scope
namespace Go.Ev
open Go

section
variable {R : Type} {P : Program} {base : Base}

/-- What a piece of a body was shown to do. -/
def CodeOK (P : Program) (base : Base) (c : Code) (env : Env) (h : H) (x : Exit) (env' : Env) (h' : H) : Prop :=
  h.next ≤ h'.next ∧ ∀ ρ a w Q, Sim ρ base h w → ERel ρ env a.tmps → Leaves base ρ h a w env' h' (Q x) → c.wp P Q a w

theorem Leaves.trans {ρ ρ1 : Rho} {h h1 h2 : H} {a a1 : Act} {w w1 : World} {env' : Env} {Q : Act → World → Prop} (p : Post base ρ h w ρ1 h1 w1) (hd : a1.defers = a.defers)
    (hl : Leaves base ρ h a w env' h2 Q) : Leaves base ρ1 h1 a1 w1 env' h2 Q :=
  fun ρ' a' w' hp he hd' => hl ρ' a' w' (p.trans hp) he (hd'.trans hd)

theorem evLoop_sound {step : Env → H → (Exit → Env → H → Option R) → Option R} {c : Code} (hstep : ∀ env h (K : Exit → Env → H → Option R) r, step env h K = some r →
      ∃ x env' h', K x env' h' = some r ∧ CodeOK P base c env h x env' h') {d d' dr : Option (List Nat)} : ∀ (n : Nat) {env : Env} {h : H} {K : Exit → Env → H → Option R} {r : R}, evLoop step d d' dr n env h K = some r →
    ∃ x env' h', K x env' h' = some r ∧ CodeOK P base (.loop c) env h x env' h' := by
  have key : ∀ (n : Nat) {env : Env} {h : H} {K : Exit → Env → H → Option R} {r : R}, evLoop step d d' dr n env h K = some r →
      ∃ x env' h', K x env' h' = some r ∧ h.next ≤ h'.next ∧ ∀ ρ a w Q, Sim ρ base h w → ERel ρ env a.tmps → Leaves base ρ h a w env' h' (Q x) → Code.rounds P c Q n a w := by
    intro n
    induction n with
    | zero => intro env h K r hh; simp [evLoop] at hh
    | succ n ih =>
      intro env h K r hh
      simp only [evLoop, loopK] at hh
      obtain ⟨x, env1, h1, hk, hn1, hc1⟩ := hstep _ _ _ _ hh
      have done : ∀ d', x ≠ .normal → K x (forget env1 d') h1 = some r → ∃ x env' h', K x env' h' = some r ∧ h.next ≤ h'.next ∧ ∀ ρ a w Q, Sim ρ base h w → ERel ρ env a.tmps → Leaves base ρ h a w env' h' (Q x) → Code.rounds P c Q (n + 1) a w := by
        intro d' hx hk
        refine ⟨x, _, h1, hk, hn1, fun ρ a w Q hs he hl => ?_⟩
        rw [rounds_succ]
        refine hc1 ρ a w _ hs he fun ρ' a' w' hp he' hd => ?_
        have := hl ρ' a' w' hp (he'.forget d') hd
        cases x <;> first | exact absurd rfl hx | exact this
      cases x with
      | normal =>
        obtain ⟨x, env2, h2, hk2, hn2, hc2⟩ := ih hk
        refine ⟨x, env2, h2, hk2, Nat.le_trans hn1 hn2, fun ρ a w Q hs he hl => ?_⟩
        rw [rounds_succ]
        refine hc1 ρ a w _ hs he fun ρ' a' w' hp he' hd => ?_
        exact hc2 ρ' a' w' Q hp.sim (he'.forget d) (hl.trans hp hd)
      | exit j => exact done d' (by intro e; cases e) hk
      | goto j => exact done d' (by intro e; cases e) hk
      | ret => exact done dr (by intro e; cases e) hk
      | panic j => exact done d' (by intro e; cases e) hk
      | outgrown => exact done d' (by intro e; cases e) hk
  intro n env h K r hh
  obtain ⟨x, env', h', h1, h2, h3⟩ := key n hh
  exact ⟨x, env', h', h1, h2, fun ρ a w Q hs he hl => wp_loop_rounds n (h3 ρ a w Q hs he hl)⟩

theorem evRegion_sound {call : CallF} (hcall : CallOK P base call) (hcn : CallNext call) (hnc : NoCount P) (hm : P.follows .mixedOrders = true) {id : Nat} {ops : Array Oper} {draw : Bool} {env : Env} {h : H}
    {K : Env → H → Option R} {r : R} (hh : evRegion P call ops draw env h K = some r) : ∃ env' h', K env' h' = some r ∧ CodeOK P base (.region id ops draw) env h .normal env' h' := by
  cases draw with
  | false =>
    simp only [evRegion] at hh
    obtain ⟨env', h', h1, h2, h3⟩ := evSeq_sound hcall hcn hnc ops.toList 0 (fun i => by simp) hh
    refine ⟨env', h', h1, h2, fun ρ a w Q hs he hl => wp_region ?_⟩
    have := h3 ρ a w Q hs he hl
    rw [List.range_eq_range']
    simpa using this
  | true =>
    simp only [evRegion] at hh
    cases hd : drawOk P ops (bitsGo [] ops.toList) (plan P ops (bitsGo [] ops.toList)) with
    | false => rw [hd] at hh; cases hh
    | true =>
      rw [hd] at hh
      obtain ⟨env', h', h1, h2, h3⟩ := evDraw_sound hcall hcn hnc hd hh
      exact ⟨env', h', h1, h2, fun ρ a w Q hs he hl => wp_region_any hm (h3 ρ a w Q hs he hl)⟩

/-- What a piece that stands for itself promises. -/
def JmpOK (P : Program) (base : Base) (jmp : JmpF) : Prop := ∀ c b env h x env' h', jmp c b env h = some (x, env', h') → CodeOK P base b env h x env' h'

theorem evCode_sound {call : CallF} {jmp : JmpF} (hj : JmpOK P base jmp) (hcall : CallOK P base call) (hcn : CallNext call) (hnc : NoCount P) (hm : P.follows .mixedOrders = true) {dead : Nat → Option (List Nat)} {rounds : Nat} : ∀ (c : Code) (id : Nat) {env : Env} {h : H}
    {K : Exit → Env → H → Option R} {r : R}, evCode P call jmp dead rounds id c env h K = some r → ∃ x env' h', K x env' h' = some r ∧ CodeOK P base c env h x env' h' := by
  intro c
  induction c with
  | skip =>
    intro id env h K r hh
    exact ⟨.normal, env, h, hh, Nat.le_refl _, fun ρ a w Q hs he hl => wp_skip (hl ρ a w (.refl hs) he rfl)⟩
  | region rid ops draw =>
    intro id env h K r hh
    simp only [evCode] at hh
    obtain ⟨env', h', h1, h2⟩ := evRegion_sound hcall hcn hnc hm (id := rid) hh
    exact ⟨.normal, env', h', h1, h2⟩
  | seq a b iha ihb =>
    intro id env h K r hh
    simp only [evCode] at hh
    obtain ⟨x, env1, h1, hk, hn1, hc1⟩ := iha id hh
    simp only [seqK] at hk
    have done : x ≠ .normal → K x env1 h1 = some r → ∃ x env' h', K x env' h' = some r ∧ CodeOK P base (.seq a b) env h x env' h' := by
      intro hx hk
      refine ⟨x, env1, h1, hk, hn1, fun ρ a w Q hs he hl => wp_seq ?_⟩
      refine hc1 ρ a w _ hs he fun ρ' a' w' hp he' hd => ?_
      have := hl ρ' a' w' hp he' hd
      cases x <;> first | exact absurd rfl hx | exact this
    cases x with
    | normal =>
      have hb : ∃ x env2 h2, K x env2 h2 = some r ∧ ∃ l, CodeOK P base b (forget env1 l) h1 x env2 h2 := by
        simp only at hk
        generalize dead (key b) = d at hk
        cases d with
        | none => obtain ⟨x, env2, h2, q1, q2⟩ := ihb id hk; exact ⟨x, env2, h2, q1, none, q2⟩
        | some l =>
          simp only [join, jumpK] at hk
          split at hk
          · exact ⟨_, _, _, hk, some l, hj _ _ _ _ _ _ _ ‹_›⟩
          · cases hk
      obtain ⟨x, env2, h2, hk2, l, hn2, hc2⟩ := hb
      refine ⟨x, env2, h2, hk2, Nat.le_trans hn1 hn2, fun ρ a w Q hs he hl => wp_seq ?_⟩
      refine hc1 ρ a w _ hs he fun ρ' a' w' hp he' hd => ?_
      exact hc2 ρ' a' w' Q hp.sim (he'.forget _) (hl.trans hp hd)
    | exit j => exact done (by intro e; cases e) hk
    | goto j => exact done (by intro e; cases e) hk
    | ret => exact done (by intro e; cases e) hk
    | panic j => exact done (by intro e; cases e) hk
    | outgrown => exact done (by intro e; cases e) hk
  | cond x a b iha ihb =>
    intro id env h K r hh
    simp only [evCode] at hh
    obtain ⟨v, hv, h1⟩ := optK_some hh
    obtain ⟨t, rfl, h2⟩ := castB_some h1
    have ev : ∀ ρ (a : Act), ERel ρ env a.tmps → a.eval x = .bool t := fun ρ a he => by
      have := he.orel (a := a) #[x] x (by simp) _ hv
      generalize a.eval x = u at this
      cases this; rfl
    have e : known env x t = env := by
      cases x with
      | tmp k => exact setN_same hv
      | _ => rfl
    cases t with
    | true =>
      simp only [e] at h2
      obtain ⟨x, env1, h1, hk, hn1, hc1⟩ := iha id h2
      exact ⟨x, env1, h1, hk, hn1, fun ρ a w Q hs he hl => wp_cond (ev ρ a he) (hc1 ρ a w Q hs he hl)⟩
    | false =>
      simp only [e] at h2
      obtain ⟨x, env1, h1, hk, hn1, hc1⟩ := ihb id h2
      exact ⟨x, env1, h1, hk, hn1, fun ρ a w Q hs he hl => wp_cond (ev ρ a he) (hc1 ρ a w Q hs he hl)⟩
  | block j c ih =>
    intro id env h K r hh
    simp only [evCode] at hh
    obtain ⟨x, env1, h1, hk, hn1, hc1⟩ := ih j hh
    simp only [blockK] at hk
    have done : (∀ i, x ≠ .exit i) → K x env1 h1 = some r → ∃ x env' h', K x env' h' = some r ∧ CodeOK P base (.block j c) env h x env' h' := by
      intro hx hk
      refine ⟨x, env1, h1, hk, hn1, fun ρ a w Q hs he hl => wp_block ?_⟩
      refine hc1 ρ a w _ hs he fun ρ' a' w' hp he' hd => ?_
      have := hl ρ' a' w' hp he' hd
      cases x <;> first | exact absurd rfl (hx _) | exact this
    cases x with
    | exit i =>
      simp only at hk
      cases hij : Nat.beq i j with
      | true =>
        rw [hij] at hk
        have := Nat.eq_of_beq_eq_true hij
        subst this
        refine ⟨.normal, env1, h1, hk, hn1, fun ρ a w Q hs he hl => wp_block ?_⟩
        refine hc1 ρ a w _ hs he fun ρ' a' w' hp he' hd => ?_
        show Exit.inBlock i Q (.exit i) a' w'
        simp only [Exit.inBlock, if_true]
        exact hl ρ' a' w' hp he' hd
      | false =>
        rw [hij] at hk
        have := Nat.ne_of_beq_eq_false hij
        refine ⟨.exit i, env1, h1, hk, hn1, fun ρ a w Q hs he hl => wp_block ?_⟩
        refine hc1 ρ a w _ hs he fun ρ' a' w' hp he' hd => ?_
        show Exit.inBlock j Q (.exit i) a' w'
        simp only [Exit.inBlock, this, if_false]
        exact hl ρ' a' w' hp he' hd
    | normal => exact done (by intro i e; cases e) hk
    | goto j => exact done (by intro i e; cases e) hk
    | ret => exact done (by intro i e; cases e) hk
    | panic j => exact done (by intro i e; cases e) hk
    | outgrown => exact done (by intro i e; cases e) hk
  | loop c ih =>
    intro id env h K r hh
    simp only [evCode] at hh
    obtain ⟨x, env', h', h1, h2, h3⟩ := evLoop_sound (fun env h K r hh => ih id hh) rounds hh
    exact ⟨x, env', h', h1, h2, fun ρ a w Q hs he hl => h3 ρ a w Q hs (he.forget _) hl⟩
  | exit j =>
    intro id env h K r hh
    exact ⟨.exit j, env, h, hh, Nat.le_refl _, fun ρ a w Q hs he hl => wp_exit (hl ρ a w (.refl hs) he rfl)⟩
  | ret =>
    intro id env h K r hh
    exact ⟨.ret, env, h, hh, Nat.le_refl _, fun ρ a w Q hs he hl => wp_ret (hl ρ a w (.refl hs) he rfl)⟩
  | label l =>
    intro id env h K r hh
    exact ⟨.normal, env, h, hh, Nat.le_refl _, fun ρ a w Q hs he hl => wp_label (hl ρ a w (.refl hs) he rfl)⟩
  | scope c ih =>
    intro id env h K r hh
    simp only [evCode] at hh
    obtain ⟨x, env1, h1, hk, hn1, hc1⟩ := ih id hh
    simp only [scopeK] at hk
    have done : (∀ i, x ≠ .goto i) → K x env1 h1 = some r → ∃ x env' h', K x env' h' = some r ∧ CodeOK P base (.scope c) env h x env' h' := by
      intro hx hk
      refine ⟨x, env1, h1, hk, hn1, fun ρ a w Q hs he hl => wp_scope_straight ?_⟩
      refine hc1 ρ a w _ hs he fun ρ' a' w' hp he' hd => ?_
      have := hl ρ' a' w' hp he' hd
      cases x <;> first | exact absurd rfl (hx _) | exact this
    cases x with
    | goto j => cases hk
    | normal => exact done (by intro i e; cases e) hk
    | exit j => exact done (by intro i e; cases e) hk
    | ret => exact done (by intro i e; cases e) hk
    | panic j => exact done (by intro i e; cases e) hk
    | outgrown => exact done (by intro i e; cases e) hk
  | _ => intro id env h K r hh; simp [evCode] at hh

/-! ### calls -/

theorem resVals_sound {ρ : Rho} {env : Env} {h : H} {w : World} {tmps : Array Value} (hs : Sim ρ base h w) (he : ERel ρ env tmps) : ∀ {rs : List ResultVar} {vs : List Value}, resVals P env h rs = some vs →
    ∃ vs', VRs ρ vs vs' ∧ (rs.mapM fun (x : ResultVar) => (match x with | .tmp t => pure (tmps.getD t undef) | .cell a t => do loadVar t (← asAddr (tmps.getD a undef)) : Sem Value)).run P w = .ok vs' w := by
  intro rs
  induction rs with
  | nil => intro vs hh; simp only [resVals, Option.some.injEq] at hh; subst hh; exact ⟨[], .nil ρ, rfl⟩
  | cons x r ih =>
    intro vs hh
    cases x with
    | tmp t =>
      simp only [resVals] at hh
      split at hh
      · rename_i v hv
        split at hh
        · rename_i vs1 hvs
          cases hh
          obtain ⟨v', h1, h2⟩ := he.2 t v hv
          obtain ⟨vs', h3, h4⟩ := ih hvs
          refine ⟨v' :: vs', .cons h2 h3, ?_⟩
          have hd : tmps.getD t undef = v' := by rw [Array.getD_eq_getD_getElem?, h1]; rfl
          simp only [List.mapM_cons, Sem.run_bind, Sem.run_pure, Result.andThen_ok, hd, h4]
        · cases hh
      · cases hh
    | cell a t =>
      simp only [resVals] at hh
      split at hh
      · rename_i i o hv
        split at hh
        · rename_i v hl
          split at hh
          · rename_i vs1 hvs
            cases hh
            obtain ⟨p', h1, h2⟩ := he.2 a _ hv
            obtain ⟨q, v', rfl, h6, h7⟩ := ldV_exec hs hl h2
            obtain ⟨vs', h3, h4⟩ := ih hvs
            refine ⟨v' :: vs', .cons h7 h3, ?_⟩
            have hd : tmps.getD a undef = .pointer (some q) := by rw [Array.getD_eq_getD_getElem?, h1]; rfl
            have ha : (asAddr (.pointer (some q))).run P w = .ok q w := rfl
            simp only [List.mapM_cons, Sem.run_bind, Sem.run_pure, Result.andThen_ok, hd, ha, h6, h4]
          · cases hh
        · cases hh
      · cases hh

theorem resOne_sound {ρ : Rho} {vs vs' : List Value} (hv : VRs ρ vs vs') : VR ρ (resOne vs) (if h : vs'.toArray.size = 1 then vs'.toArray[0] else .tuple vs'.toArray) := by
  have hlen : vs.length = vs'.length := hv.1
  match vs, vs', hv, hlen with
  | [], [], hv, _ => exact .tuple' (.nil ρ)
  | [v], [v'], hv, _ => exact hv.2 0 v v' rfl rfl
  | v :: u :: r, v' :: u' :: r', hv, _ => exact .tuple' hv

theorem env0_rel {ρ : Rho} {args args' : List Value} (hv : VRs ρ args args') (n : Nat) : ERel ρ (env0 args n) (args'.toArray ++ Array.replicate (n - args'.toArray.size) undef) := by
  have hlen : args.length = args'.length := hv.1
  refine ⟨by simp [env0, hlen], fun t v ht => ?_⟩
  have nth_eq : ∀ (env : Env) (t : Nat), nth env t = (env[t]?).join := by
    intro env
    induction env with
    | nil => intro t; simp [nth]
    | cons x r ih => intro t; cases t <;> simp [nth, ih]
  rw [nth_eq] at ht
  unfold env0 at ht
  rw [List.getElem?_append] at ht
  split at ht
  · rename_i hlt
    simp only [List.length_map] at hlt
    simp only [List.getElem?_map] at ht
    cases ha : args[t]? with
    | none => rw [ha] at ht; simp at ht
    | some u =>
      rw [ha] at ht
      simp at ht
      subst ht
      have hlt' : t < args'.length := by omega
      have h1 := List.getElem?_eq_getElem hlt'
      have h2 := hv.2 t u _ ha h1
      refine ⟨args'[t], ?_, h2⟩
      rw [Array.getElem?_append_left (by simpa using hlt')]
      simp [hlt']
  · rw [List.getElem?_replicate] at ht
    split at ht <;> simp at ht

/-- What a piece that stands for a function's body promises. -/
def IntrOK (P : Program) (base : Base) (intr : FuncId → Option (List Value → H → Option (Value × H))) : Prop :=
  ∀ f g, intr f = some g → ∀ args h v h', g args h = some (v, h') → h.next ≤ h'.next ∧ ∀ ρ w args', Sim ρ base h w → VRs ρ args args' →
    Calls P f args'.toArray w fun e w' => ∃ ρ' v', e = .returned v' ∧ Post base ρ h w ρ' h' w' ∧ VR ρ' v v'

theorem evCall_sound (hnc : NoCount P) (hm : P.follows .mixedOrders = true) {dead : FuncId → Nat → Option (List Nat)} {intr : FuncId → Option (List Value → H → Option (Value × H))} (hi : IntrOK P base intr) {rounds : Nat} :
    ∀ n, CallOK P base (evCall P dead intr rounds n) ∧ CallNext (evCall P dead intr rounds n) ∧ ∀ f, JmpOK P base (evJmp P dead intr rounds n f) := by
  intro n
  induction n with
  | zero => exact ⟨fun f args h v h' hh => by simp [evCall, evAll] at hh, fun f args h v h' hh => by simp [evCall, evAll] at hh, fun f c b env h x env' h' hh => by simp [evJmp, evAll] at hh⟩
  | succ n ih =>
    obtain ⟨hcall, hcn, hj⟩ := ih
    have key : ∀ f args h v h', evCall P dead intr rounds (n + 1) f args h = some (v, h') → h.next ≤ h'.next ∧ ∀ ρ w args', Sim ρ base h w → VRs ρ args args' →
        Calls P f args'.toArray w fun e w' => ∃ ρ' v', e = .returned v' ∧ Post base ρ h w ρ' h' w' ∧ VR ρ' v v' := by
      intro f args h v h' hh
      simp only [evCall, evAll] at hh
      split at hh
      · rename_i g hg
        exact hi f g hg args h v h' hh
      · split at hh
        · cases hh
        · rename_i fn hf
          split at hh
          · cases hh
          · rename_i c hc
            unfold evBody at hh
            obtain ⟨x, env', h1, hk, hn1, hc1⟩ := evCode_sound (hj f) hcall hcn hnc hm c 0 hh
            simp only [finK] at hk
            have fin : ∀ y, (resK P env' h1 fn.results.toList fun vs => some (resOne vs, h1)) = some (v, h') → (y = .normal ∨ y = .ret) → x = y → h.next ≤ h'.next ∧ ∀ ρ w args', Sim ρ base h w → VRs ρ args args' →
                  Calls P f args'.toArray w fun e w' => ∃ ρ' v', e = .returned v' ∧ Post base ρ h w ρ' h' w' ∧ VR ρ' v v' := by
              intro y hk hy hxy
              subst hxy
              obtain ⟨vs, hvs, hk⟩ := resK_some P hk
              · simp only [Option.some.injEq, Prod.mk.injEq] at hk
                obtain ⟨rfl, rfl⟩ := hk
                refine ⟨hn1, fun ρ w args' hs hv => ?_⟩
                refine calls_of_wp hf hc ?_
                refine hc1 ρ _ w _ hs (env0_rel hv fn.ntmps) fun ρ' a' w' hp he hd => ?_
                obtain ⟨vs', h2, h3⟩ := resVals_sound hp.sim he hvs
                have hres : (results fn a'.tmps).run P w' = .ok (if h : vs'.toArray.size = 1 then vs'.toArray[0] else .tuple vs'.toArray) w' := by
                  unfold results
                  rw [Array.mapM_eq_mapM_toList]
                  simp only [Sem.run_bind, Sem.run_map]
                  erw [h3]
                  rfl
                rcases hy with rfl | rfl
                · exact ⟨hd, _, hres, ρ', _, rfl, hp, resOne_sound h2⟩
                · exact ⟨hd, _, hres, ρ', _, rfl, hp, resOne_sound h2⟩
            cases x with
            | normal => exact fin .normal hk (.inl rfl) rfl
            | ret => exact fin .ret hk (.inr rfl) rfl
            | exit j => cases hk
            | goto j => cases hk
            | panic j => cases hk
            | outgrown => cases hk
    refine ⟨fun f args h v h' hh => (key f args h v h' hh).2, fun f args h v h' hh => (key f args h v h' hh).1, fun f c b env h x env' h' hh => ?_⟩
    simp only [evJmp, evAll] at hh
    obtain ⟨y, env1, h1, hk, hn1, hc1⟩ := evCode_sound (hj f) hcall hcn hnc hm b c hh
    simp only [outK, Option.some.injEq, Prod.mk.injEq] at hk
    obtain ⟨rfl, rfl, rfl⟩ := hk
    exact ⟨hn1, fun ρ a w Q hs he hl => hc1 ρ a w Q hs he fun ρ' a' w' hp he' hd => hl ρ' a' w' hp (he'.forget _) hd⟩
end
end Go.Ev
