/-
  The pure operations, together.
-/
import Derived.Test.YtofgaidlepmcmaaGreatDoorEvG
namespace Go.Ev
open Go

section
variable {R : Type} {P : Program}

def nonNil : Value → Prop
  | .pointer none => False
  | .nilIface => False
  | .nilFunc => False
  | .func (.func _) _ _ => True
  | .func _ _ _ => False
  | _ => True
theorem nilC_sound {v : Value} {K : Value → Option R} {r : R} (h : nilC v K = some r) : K v = some r ∧ nonNil v := by
  unfold nilC at h
  cases v with
  | pointer a => cases a with
    | none => cases h
    | some a => exact ⟨h, trivial⟩
  | nilIface => cases h
  | nilFunc => cases h
  | func f a b => cases f with
    | func f => exact ⟨h, trivial⟩
    | _ => cases h
  | _ => exact ⟨h, trivial⟩

theorem VR.ptr_isNone {ρ : Rho} {p : Option Addr} {v' : Value} (h : VR ρ (.pointer p) v') : ∃ p', v' = .pointer p' ∧ p'.isNone = p.isNone := by
  cases h with
  | pnil => exact ⟨_, rfl, rfl⟩
  | ptr _ => exact ⟨_, rfl, rfl⟩
theorem VR.slice_isNone {ρ : Rho} {p : Option Addr} {n c : Nat} {v' : Value} (h : VR ρ (.slice p n c) v') : ∃ p' n' c', v' = .slice p' n' c' ∧ p'.isNone = p.isNone := by
  cases h with
  | snil => exact ⟨_, _, _, rfl, rfl⟩
  | slice _ _ _ => exact ⟨_, _, _, rfl, rfl⟩
  | sempty => exact ⟨_, _, _, rfl, rfl⟩

theorem isCmp_cases {op : BinOp} (h : isCmp op = true) : op = .eql ∨ op = .neq := by cases op <;> simp [isCmp] at h <;> simp

theorem equal_run {op : BinOp} {t : TypeId} {a b : Value} {q : Bool} (ho : isCmp op = true) (w : World) (h : (Op.equal t a b).run P w = .ok q w)
    (hb : ∀ s : Sem Value, binOp .eql t a b = s → s = (do pure (.bool (← Op.equal t a b)))) (hb2 : ∀ s : Sem Value, binOp .neq t a b = s → s = (do pure (.bool (!(← Op.equal t a b))))) :
    (binOp op t a b).run P w = .ok (.bool (cmpB op q)) w := by
  rcases isCmp_cases ho with rfl | rfl
  · rw [hb _ rfl]; simp [h, cmpB]
  · rw [hb2 _ rfl]; simp [h, cmpB]

theorem binO_sound {o : Oper} {op : BinOp} {xt yt : TypeId} {x y : Operand} {env : Env} {a b : Value} {K : Value → Option R} {r : R}
    (ho : o.op = .binOp op xt x y yt) (ha : opnd env x = some a) (hb : opnd env y = some b) (h : binO P op xt x y a b K = some r) :
    ∃ v, K v = some r ∧ PV P o env v := by
  have key : ∀ (v : Value) (f : Value → Value → Value → Prop), (∀ ρ a' b', VR ρ a a' → VR ρ b b' → ∃ v', (∀ w, (do eqGuard op xt x y a' b'; binOp op xt a' b' : Sem Value).run P w = .ok v' w) ∧ VR ρ v v') → PV P o env v := by
    intro v _ hk ρ ev hr
    have hr' : ORel ρ env ev #[x, y] := by simpa [ho, Op.operands] using hr
    obtain ⟨v', h1, h2⟩ := hk ρ (ev x) (ev y) (hr' x (by simp) a ha) (hr' y (by simp) b hb)
    refine ⟨v', fun w => ?_, h2⟩
    unfold execOp
    rw [ho]
    simp only [Sem.run_bind] at h1 ⊢
    rw [h1 w]
    rfl
  have key2 : ∀ (q : Bool) (h0 : isCmp op = true), (∀ ρ a' b', VR ρ a a' → VR ρ b b' → (∀ w, (eqGuard op xt x y a' b').run P w = .ok () w) ∧ (∀ w, (Op.equal xt a' b').run P w = .ok q w) ∧
      (binOp .eql xt a' b' = (do pure (.bool (← Op.equal xt a' b')))) ∧ binOp .neq xt a' b' = (do pure (.bool (!(← Op.equal xt a' b'))))) → PV P o env (.bool (cmpB op q)) := by
    intro q h0 hk
    refine key _ (fun _ _ _ => True) fun ρ a' b' h1 h2 => ?_
    obtain ⟨g, e, b1, b2⟩ := hk ρ a' b' h1 h2
    refine ⟨_, fun w => ?_, .bool _⟩
    simp only [Sem.run_bind]
    rw [g w]
    exact equal_run h0 w (e w) (fun s hs => by rw [← hs, b1]) (fun s hs => by rw [← hs, b2])
  have mx : Op.maxDepth = 9999 + 1 := rfl
  unfold binO at h
  cases hp : (plainV 4 a && plainV 4 b) with
  | true =>
    rw [hp] at h
    simp only [Bool.and_eq_true] at hp
    obtain ⟨v, h1, h2, h3⟩ := plK_some h
    refine ⟨v, h3, key v (fun _ _ _ => True) fun ρ a' b' q1 q2 => ?_⟩
    rw [plainV_eq hp.1 q1, plainV_eq hp.2 q2]
    exact ⟨v, pureSem_run h1, plainV_refl h2⟩
  | false =>
    rw [hp] at h
    simp only [cond_false] at h
    cases hc : isCmp op with
    | false => rw [hc] at h; cases h
    | true =>
      rw [hc] at h
      simp only [cond_true] at h
      split at h
      · rename_i e p hu
        refine ⟨_, h, key2 _ hc fun ρ a' b' q1 q2 => ?_⟩
        obtain ⟨p', rfl, hn⟩ := q1.ptr_isNone
        cases q2
        refine ⟨fun w => by unfold eqGuard; split <;> rfl, fun w => ?_, rfl, rfl⟩
        rw [Op.equal, mx, Op.equalIn]
        simp only [Sem.run_bind, underlying_run hu, Result.andThen_ok]
        cases p' <;> (rw [← hn]; rfl)
      · rename_i e q hq hu
        refine ⟨_, h, key2 _ hc fun ρ a' b' q1 q2 => ?_⟩
        obtain ⟨p', rfl, hn⟩ := q2.ptr_isNone
        cases q1
        refine ⟨fun w => by unfold eqGuard; split <;> rfl, fun w => ?_, rfl, rfl⟩
        rw [Op.equal, mx, Op.equalIn]
        simp only [Sem.run_bind, underlying_run hu, Result.andThen_ok]
        rw [← hn]; rfl
      · rename_i e i o1 j o2 hu
        split at h
        · rename_i m hsz
          cases hbq : (Nat.beq i j && Nat.beq o1 o2) with
          | false => rw [hbq] at h; cases h
          | true =>
            rw [hbq] at h
            simp only [Bool.and_eq_true] at hbq
            have e1 := Nat.eq_of_beq_eq_true hbq.1
            have e2 := Nat.eq_of_beq_eq_true hbq.2
            subst e1; subst e2
            refine ⟨_, h, key2 _ hc fun ρ a' b' q1 q2 => ?_⟩
            cases q1 with
            | ptr r1 =>
              cases q2 with
              | ptr r2 =>
                rw [r1] at r2; cases r2
                refine ⟨fun w => by unfold eqGuard; split <;> rfl, fun w => ?_, rfl, rfl⟩
                rw [Op.equal, mx, Op.equalIn]
                simp only [Sem.run_bind, underlying_run hu, Result.andThen_ok, sizeOf_run hsz]
                rw [if_pos (by omega)]
                simp [sameAddr]
        · cases h
      · rename_i e p n c hu
        refine ⟨_, h, key2 _ hc fun ρ a' b' q1 q2 => ?_⟩
        obtain ⟨p', n', c', rfl, hn⟩ := q1.slice_isNone
        obtain ⟨p2, n2, c2, rfl, hn2⟩ := q2.slice_isNone
        refine ⟨fun w => by unfold eqGuard; split <;> rfl, fun w => ?_, rfl, rfl⟩
        rw [Op.equal, mx, Op.equalIn]
        simp only [Sem.run_bind, underlying_run hu, Result.andThen_ok]
        cases p2 with
        | some _ => simp at hn2
        | none => cases p' <;> (rw [← hn]; rfl)
      · rename_i e q n c hq hu
        refine ⟨_, h, key2 _ hc fun ρ a' b' q1 q2 => ?_⟩
        obtain ⟨p', n', c', rfl, hn⟩ := q2.slice_isNone
        obtain ⟨p2, n2, c2, rfl, hn2⟩ := q1.slice_isNone
        refine ⟨fun w => by unfold eqGuard; split <;> rfl, fun w => ?_, rfl, rfl⟩
        rw [Op.equal, mx, Op.equalIn]
        simp only [Sem.run_bind, underlying_run hu, Result.andThen_ok]
        cases p2 with
        | some _ => simp at hn2
        | none => rw [← hn]; rfl
      · rename_i hu
        refine ⟨_, h, key2 _ hc fun ρ a' b' q1 q2 => ?_⟩
        cases q1; cases q2
        refine ⟨fun w => by unfold eqGuard; split <;> rfl, fun w => ?_, rfl, rfl⟩
        rw [Op.equal, mx, Op.equalIn]
        simp only [Sem.run_bind, underlying_run hu, Result.andThen_ok]
        rfl
      · rename_i hu
        refine ⟨_, h, key2 _ hc fun ρ a' b' q1 q2 => ?_⟩
        cases q1; cases q2
        refine ⟨fun w => by unfold eqGuard; split <;> rfl, fun w => ?_, rfl, rfl⟩
        rw [Op.equal, mx, Op.equalIn]
        simp only [Sem.run_bind, underlying_run hu, Result.andThen_ok]
        rfl
      · rename_i hu
        refine ⟨_, h, key2 _ hc fun ρ a' b' q1 q2 => ?_⟩
        cases q1; cases q2
        refine ⟨fun w => by unfold eqGuard; split <;> rfl, fun w => ?_, rfl, rfl⟩
        rw [Op.equal, mx, Op.equalIn]
        simp only [Sem.run_bind, underlying_run hu, Result.andThen_ok]
        rfl
      · rename_i hu
        refine ⟨_, h, key2 _ hc fun ρ a' b' q1 q2 => ?_⟩
        cases q1; cases q2
        refine ⟨fun w => by unfold eqGuard; split <;> rfl, fun w => ?_, rfl, rfl⟩
        rw [Op.equal, mx, Op.equalIn]
        simp only [Sem.run_bind, underlying_run hu, Result.andThen_ok]
        rfl
      · cases h

theorem binA_sound {o : Oper} {op : BinOp} {xt yt : TypeId} {x y : Operand} {env : Env} {a b : Value} {K : Value → Option R} {r : R}
    (ho : o.op = .binOp op xt x y yt) (ha : opnd env x = some a) (hb : opnd env y = some b) (h : binA P op xt x y a b K = some r) :
    ∃ v, K v = some r ∧ PV P o env v := by
  unfold binA at h
  split at h
  · rename_i s u
    obtain ⟨hl, h1⟩ := ifK_some h
    refine ⟨_, h1, fun ρ ev hr => ?_⟩
    have hr' : ORel ρ env ev #[x, y] := by simpa [ho, Op.operands] using hr
    have e1 := hr' x (by simp) _ ha
    have e2 := hr' y (by simp) _ hb
    refine ⟨.string (s ++ u), fun w => ?_, .string _⟩
    have e1' : ev x = .string s := by generalize ev x = a' at e1; cases e1; rfl
    have e2' : ev y = .string u := by generalize ev y = b' at e2; cases e2; rfl
    unfold execOp
    rw [ho]
    have g : (eqGuard .add xt x y (.string s) (.string u)).run P w = .ok () w := rfl
    have hm : ¬ (((s.size + u.size : Nat) : Int) > IntKind.i64.max) := by
      have : IntKind.i64.max = 9223372036854775807 := by decide
      omega
    have b : (binOp .add xt (.string s) (.string u)).run P w = .ok (.string (s ++ u)) w := by
      show (Op.stringOp .add s u).run P w = _
      unfold Op.stringOp
      simp only [if_neg hm]; rfl
    simp only [e1', e2', Sem.run_bind, g, Result.andThen_ok, b]
    rfl
  · exact binO_sound ho ha hb h

theorem assertA_sound {x : Operand} {xt ty : TypeId} {ok : Bool} {o : Oper} {env : Env} {v : Value} {K : Value → Option R} {r : R} (ho : o.op = .typeAssert x xt ty ok)
    (hx : opnd env x = some v) (h : assertA P ty ok v K = some r) : ∃ u, K u = some r ∧ PV P o env u := by
  have key : ∀ (u : Value), (∀ ρ v', VR ρ v v' → ∃ u', (∀ w, (Instr.typeAssert v' xt ty ok).run P w = .ok u' w) ∧ VR ρ u u') → PV P o env u := by
    intro u hk ρ ev hr
    have hr' : ORel ρ env ev #[x] := by simpa [ho, Op.operands] using hr
    obtain ⟨v', h1, h2⟩ := hk ρ (ev x) (hr' x (by simp) v hx)
    refine ⟨v', fun w => ?_, h2⟩
    unfold execOp
    rw [ho]
    simp only [Sem.run_bind, h1 w, Result.andThen_ok, Sem.run_pure]
  unfold assertA at h
  cases hi : isIfc (P.underlying ty) with
  | true => rw [hi] at h; cases h
  | false =>
    rw [hi] at h
    simp only [cond_false] at h
    obtain ⟨d, hu⟩ : ∃ d, P.underlying ty = some d := by
      cases hd : P.underlying ty with
      | none => rw [hd] at hi; simp [isIfc] at hi
      | some d => exact ⟨d, rfl⟩
    rw [hu] at hi
    have zr : ∀ z, zeroA P ty = some z → ∀ w, (zeroValue ty).run P w = .ok z w := fun z hz w => pureSem_run (pureSem_zeroValue hz) w
    split at h
    · rename_i t u
      cases ht : Nat.beq t ty with
      | true =>
        rw [ht] at h
        have e := Nat.eq_of_beq_eq_true ht
        subst e
        cases ok with
        | true =>
          refine ⟨_, h, key _ fun ρ v' hv => ?_⟩
          cases hv with
          | iface _ hu' =>
            rename_i u'
            refine ⟨.tuple #[u', .bool true], fun w => ?_, .tuple' (.cons hu' (.cons (.bool _) (.nil ρ)))⟩
            unfold Instr.typeAssert
            simp only [Sem.run_bind, underlying_run hu, Result.andThen_ok]
            cases d <;> first | (simp [isIfc] at hi; done) | simp
        | false =>
          refine ⟨_, h, key _ fun ρ v' hv => ?_⟩
          cases hv with
          | iface _ hu' =>
            rename_i u'
            refine ⟨u', fun w => ?_, hu'⟩
            unfold Instr.typeAssert
            simp only [Sem.run_bind, underlying_run hu, Result.andThen_ok]
            cases d <;> first | (simp [isIfc] at hi; done) | simp
      | false =>
        rw [ht] at h
        have hne : t ≠ ty := Nat.ne_of_beq_eq_false ht
        cases ok with
        | true =>
          obtain ⟨z, hz, h1⟩ := optK_some (show optK (zeroA P ty) _ = some r from h)
          refine ⟨_, h1, key _ fun ρ v' hv => ?_⟩
          cases hv with
          | iface _ hu' =>
            refine ⟨.tuple #[z, .bool false], fun w => ?_, .tuple' (.cons (plainV_refl (zeroA_spec hz).1) (.cons (.bool _) (.nil ρ)))⟩
            unfold Instr.typeAssert
            simp only [Sem.run_bind, underlying_run hu, Result.andThen_ok]
            cases d <;> first | (simp [isIfc] at hi; done) | simp [hne, zr z hz]
        | false => cases h
    · cases ok with
      | true =>
        obtain ⟨z, hz, h1⟩ := optK_some (show optK (zeroA P ty) _ = some r from h)
        refine ⟨_, h1, key _ fun ρ v' hv => ?_⟩
        cases hv
        refine ⟨.tuple #[z, .bool false], fun w => ?_, .tuple' (.cons (plainV_refl (zeroA_spec hz).1) (.cons (.bool _) (.nil ρ)))⟩
        unfold Instr.typeAssert
        simp only [Sem.run_bind, underlying_run hu, Result.andThen_ok]
        cases d <;> first | (simp [isIfc] at hi; done) | simp [zr z hz]
      | false => cases h
    · cases h

theorem evPure_sound {o : Oper} {env : Env} {K : Value → Option R} {r : R} (h : evPure P o env K = some r) : ∃ v, K v = some r ∧ PV P o env v := by
  unfold evPure at h
  split at h
  · rename_i x ho
    obtain ⟨v, hv, h1⟩ := optK_some h
    refine ⟨v, h1, fun ρ ev hr => ⟨ev x, fun w => ?_, (by simpa [ho, Op.operands] using hr : ORel ρ env ev #[x]) x (by simp) v hv⟩⟩
    unfold execOp; rw [ho]; rfl
  · rename_i x ho
    obtain ⟨v, hv, h1⟩ := optK_some h
    refine ⟨v, h1, fun ρ ev hr => ⟨ev x, fun w => ?_, (by simpa [ho, Op.operands] using hr : ORel ρ env ev #[x]) x (by simp) v hv⟩⟩
    unfold execOp; rw [ho]; rfl
  · rename_i c a b ho
    obtain ⟨vc, hvc, h1⟩ := optK_some h
    obtain ⟨t, ht, h2⟩ := castB_some h1
    obtain ⟨v, hv, h3⟩ := optK_some h2
    subst ht
    refine ⟨v, h3, fun ρ ev hr => ?_⟩
    have hr' : ORel ρ env ev #[c, a, b] := by simpa [ho, Op.operands] using hr
    have hc := hr' c (by simp) _ hvc
    have ec : ev c = .bool t := by cases hc' : ev c <;> rw [hc'] at hc <;> cases hc; rfl
    refine ⟨if t then ev a else ev b, fun w => ?_, ?_⟩
    · unfold execOp; rw [ho]; simp only [ec, asBool, Sem.run_bind, Sem.run_pure, Result.andThen_ok]
    · cases t with
      | true => exact hr' a (by simp) v hv
      | false => exact hr' b (by simp) v hv
  · rename_i t ps ho
    obtain ⟨z, hz, h1⟩ := optK_some h
    obtain ⟨l, hl, h2⟩ := optK_some h1
    cases hall : l.all (fun p => !isTup p.2) with
    | false => rw [hall] at h2; cases h2
    | true =>
      rw [hall] at h2
      obtain ⟨v, hv, h3⟩ := optK_some (show optK _ K = some r from h2)
      refine ⟨v, h3, fun ρ ev hr => ?_⟩
      have hp := parts_rel (ρ := ρ) (ev := ev) hl (fun x hx u hu => hr x (by simp only [ho, Op.operands]; simpa using hx) u hu)
      obtain ⟨v', h4, h5⟩ := build_rel hz hv hp (fun p hp => by have := List.all_eq_true.1 hall p hp; simpa using this)
      refine ⟨v', fun w => ?_, h5⟩
      unfold execOp; rw [ho]
      have e : (ps.map fun (x : Nat × Operand) => (x.1, ev x.2)) = (ps.toList.map fun p => (p.1, ev p.2)).toArray := by apply Array.ext'; simp
      simp only [Sem.run_bind]
      rw [show (Array.map (fun x => match x with | (i, x) => (i, ev x)) ps) = (ps.toList.map fun p => (p.1, ev p.2)).toArray from e]
      rw [pureSem_run h4 w]; rfl
  · rename_i x ho
    obtain ⟨v, hv, h1⟩ := optK_some h
    obtain ⟨h2, hn⟩ := nilC_sound h1
    refine ⟨v, h2, fun ρ ev hr => ?_⟩
    have hx := (by simpa [ho, Op.operands] using hr : ORel ρ env ev #[x]) x (by simp) v hv
    refine ⟨ev x, fun w => ?_, hx⟩
    simp only [execOp, ho]
    generalize ev x = y at hx ⊢
    cases hx <;> first | exact hn.elim | rfl | skip
    rename_i f _ _ _ _ _ _ _ _
    cases f <;> first | exact hn.elim | rfl
  · rename_i op xt x y yt ho
    obtain ⟨a, ha, h1⟩ := optK_some h
    obtain ⟨b, hb, h2⟩ := optK_some h1
    obtain ⟨v, h3, h4⟩ := binA_sound ho ha hb h2
    exact ⟨v, castT_some h3, h4⟩
  · rename_i op t x ho
    obtain ⟨a, ha, h1⟩ := optK_some h
    cases hp : plainV 4 a with
    | false => rw [hp] at h1; cases h1
    | true =>
      rw [hp] at h1
      obtain ⟨v, hv, hpv, h2⟩ := plK_some (show plK _ _ = some r from h1)
      refine ⟨v, castT_some h2, fun ρ ev hr => ⟨v, fun w => ?_, plainV_refl hpv⟩⟩
      have hx := plainV_eq hp ((by simpa [ho, Op.operands] using hr : ORel ρ env ev #[x]) x (by simp) a ha)
      unfold execOp; rw [ho]; simp only [hx]
      exact valRun hv w
  · rename_i s d x ho
    obtain ⟨a, ha, h1⟩ := optK_some h
    cases hp : plainV 4 a with
    | false => rw [hp] at h1; cases h1
    | true =>
      rw [hp] at h1
      obtain ⟨v, hv, hpv, h2⟩ := plK_some (show plK _ _ = some r from h1)
      refine ⟨v, h2, fun ρ ev hr => ⟨v, fun w => ?_, plainV_refl hpv⟩⟩
      have hx := plainV_eq hp ((by simpa [ho, Op.operands] using hr : ORel ρ env ev #[x]) x (by simp) a ha)
      unfold execOp; rw [ho]; simp only [hx]
      exact valRun hv w
  · rename_i t x ho
    obtain ⟨a, ha, h1⟩ := optK_some h
    obtain ⟨v, hv, h2⟩ := optK_some h1
    refine ⟨v, h2, fun ρ ev hr => ?_⟩
    have hx := (by simpa [ho, Op.operands] using hr : ORel ρ env ev #[x]) x (by simp) a ha
    have hv' : v = .iface t a ∧ pureSem P (Instr.makeInterface t (ev x)) = some (.iface t (ev x)) := by
      unfold Instr.makeInterface at hv ⊢
      rw [pureSem_bind, pureSem_underlying] at hv ⊢
      cases hu : P.underlying t with
      | none => rw [hu] at hv; cases hv
      | some d =>
        rw [hu] at hv
        simp only [Option.bind_some] at hv ⊢
        cases d <;> first | (simp [stuck, pureSem] at hv; done) | (refine ⟨?_, rfl⟩; have hv2 : some (Value.iface t a) = some v := hv; cases hv2; rfl)
    obtain ⟨rfl, h3⟩ := hv'
    refine ⟨_, fun w => ?_, .iface t hx⟩
    unfold execOp; rw [ho]
    exact valRun h3 w
  · rename_i f xs ys ho
    obtain ⟨a, ha, h1⟩ := optK_some h
    obtain ⟨b, hb, h2⟩ := optK_some h1
    refine ⟨_, h2, fun ρ ev hr => ?_⟩
    have hr' : ORel ρ env ev (xs ++ ys) := by simpa [ho, Op.operands] using hr
    have r1 := opnds_rel (ρ := ρ) (ev := ev) ha (fun x hx u hu => hr' x (by simp at hx ⊢; exact .inl hx) u hu)
    have r2 := opnds_rel (ρ := ρ) (ev := ev) hb (fun x hx u hu => hr' x (by simp at hx ⊢; exact .inr hx) u hu)
    refine ⟨.func f (xs.map ev) (ys.map ev), fun w => ?_, ?_⟩
    · unfold execOp; rw [ho]; rfl
    · refine .func f ?_ ?_ ?_ ?_
      · simpa using r1.1
      · intro i x y hx hy; exact r1.2 i x y (by simpa using hx) (by simpa using hy)
      · simpa using r2.1
      · intro i x y hx hy; exact r2.2 i x y (by simpa using hx) (by simpa using hy)
  · rename_i t x lo hi ho
    obtain ⟨v, hv, h1⟩ := optK_some h
    obtain ⟨l, hl, h2⟩ := optK_some h1
    obtain ⟨hh, hhh, h3⟩ := optK_some h2
    obtain ⟨u, h4, h5⟩ := sliceA_sound h3
    refine ⟨u, castT_some h4, fun ρ ev hr => ?_⟩
    have hr' : ORel ρ env ev (#[x] ++ lo.toArray ++ hi.toArray) := by simpa [ho, Op.operands] using hr
    obtain ⟨u', h6, h7⟩ := h5 ρ (ev x) (lo.map ev) (hi.map ev) (hr' x (by simp) v hv) (optO_rel hl fun y hy q hq => hr' y (by simp at hy ⊢; exact .inr (.inl hy)) q hq)
      (optO_rel hhh fun y hy q hq => hr' y (by simp at hy ⊢; exact .inr (.inr hy)) q hq)
    refine ⟨u', fun w => ?_, h7⟩
    unfold execOp; rw [ho]
    simp only [Sem.run_bind, Option.map_none, h6 w, Result.andThen_ok, Sem.run_pure]
  · rename_i s x f ho
    obtain ⟨v, hv, h1⟩ := optK_some h
    obtain ⟨u, h2, h3⟩ := fieldAddrA_sound h1
    refine ⟨u, h2, fun ρ ev hr => ?_⟩
    obtain ⟨u', h4, h5⟩ := h3 ρ (ev x) ((by simpa [ho, Op.operands] using hr : ORel ρ env ev #[x]) x (by simp) v hv)
    refine ⟨u', fun w => ?_, h5⟩
    unfold execOp; rw [ho]
    simp only [Sem.run_bind, h4 w, Result.andThen_ok, Sem.run_pure]
  · rename_i t x f ho
    obtain ⟨v, hv, h1⟩ := optK_some h
    obtain ⟨cs, hcs, h2⟩ := castA_some h1
    obtain ⟨u, hu, h3⟩ := optK_some h2
    subst hcs
    refine ⟨u, castT_some h3, fun ρ ev hr => ?_⟩
    obtain ⟨cs', e, h4, h5⟩ := ((by simpa [ho, Op.operands] using hr : ORel ρ env ev #[x]) x (by simp) _ hv).agg_inv
    obtain ⟨u', h6, h7⟩ := field_rel hu h4 h5
    refine ⟨u', fun w => ?_, h7⟩
    unfold execOp; rw [ho]; simp only [e]
    exact valRun h6 w
  · rename_i t x ix ho
    obtain ⟨v, hv, h1⟩ := optK_some h
    obtain ⟨i, hi, h2⟩ := optK_some h1
    obtain ⟨u, h3, h4⟩ := indexAddrA_sound h2
    refine ⟨u, h3, fun ρ ev hr => ?_⟩
    have hr' : ORel ρ env ev #[x, ix] := by simpa [ho, Op.operands] using hr
    obtain ⟨u', h5, h6⟩ := h4 ρ (ev x) (ev ix) (hr' x (by simp) v hv) (hr' ix (by simp) i hi)
    refine ⟨u', fun w => ?_, h6⟩
    unfold execOp; rw [ho]
    simp only [Sem.run_bind, h5 w, Result.andThen_ok, Sem.run_pure]
  · rename_i t x ix ho
    obtain ⟨v, hv, h1⟩ := optK_some h
    obtain ⟨i, hi, h2⟩ := optK_some h1
    obtain ⟨u, h3, h4⟩ := indexA_sound h2
    refine ⟨u, castT_some h3, fun ρ ev hr => ?_⟩
    have hr' : ORel ρ env ev #[x, ix] := by simpa [ho, Op.operands] using hr
    obtain ⟨u', h5, h6⟩ := h4 ρ (ev x) (ev ix) (hr' x (by simp) v hv) (hr' ix (by simp) i hi)
    refine ⟨u', fun w => ?_, h6⟩
    unfold execOp; rw [ho]
    simp only [Sem.run_bind, h5 w, Result.andThen_ok, Sem.run_pure]
  · rename_i t ix ho
    obtain ⟨v, hv, h1⟩ := optK_some h
    obtain ⟨vs, rfl, h1⟩ := castTup_some h1
    obtain ⟨u, hu, h2⟩ := optK_some h1
    refine ⟨u, castT_some h2, fun ρ ev hr => ?_⟩
    obtain ⟨vs', e, h4⟩ := ((by simpa [ho, Op.operands] using hr : ORel ρ env ev #[t]) t (by simp) _ hv).tuple_inv
    obtain ⟨u', h5, h6⟩ := h4.get (i := ix) (x := u) (by simpa using hu)
    refine ⟨u', fun w => ?_, h6⟩
    have h5' : vs'[ix]? = some u' := by simpa using h5
    unfold execOp; rw [ho]; simp only [e, Instr.extract, h5']
    rfl
  · rename_i x xt ty ok ho
    obtain ⟨v, hv, h1⟩ := optK_some h
    exact assertA_sound ho hv h1
  · rename_i b args argTypes ho
    obtain ⟨vs, hvs, h1⟩ := optK_some h
    have run : ∀ (ρ : Rho) ev, ORel ρ env ev o.op.operands → VRs ρ vs (args.toList.map ev) := fun ρ ev hr =>
      opnds_rel hvs (fun x hx u hu => hr x (by simp only [ho, Op.operands, Call.operands]; simpa using hx) u hu)
    unfold pureBuiltin at h1
    split at h1
    · rename_i v
      split at h1
      · rename_i t ht
        obtain ⟨n, h2, h3⟩ := lenA_sound h1
        refine ⟨_, h2, fun ρ ev hr => ⟨.int .i64 n, fun w => ?_, .int _ _⟩⟩
        have hv := run ρ ev hr
        match hm : args.toList.map ev, hv with
        | [], hv => have := hv.1; simp at this
        | v' :: _ :: _, hv => have := hv.1; simp at this
        | [v'], hv =>
          have e : args.map ev = #[v'] := by apply Array.ext'; simpa using hm
          unfold execOp; rw [ho]
          simp only [resolve, e, Sem.run_bind, Sem.run_pure, Result.andThen_ok, invoke, builtin]
          rw [h3 ρ v' argTypes o.type ht hv.head w]
          rfl
      · cases h1
    · cases hp : vs.all (plainV 4) with
      | false => rw [hp] at h1; cases h1
      | true =>
        rw [hp] at h1
        obtain ⟨v, hv, hpv, h2⟩ := plK_some (show plK _ _ = some r from h1)
        refine ⟨v, h2, fun ρ ev hr => ⟨v, fun w => ?_, plainV_refl hpv⟩⟩
        have hvs' := run ρ ev hr
        have e : args.map ev = vs.toArray := by
          apply Array.ext'
          simp only [Array.toList_map]
          apply List.ext_getElem?
          intro i
          cases hi : vs[i]? with
          | none => have := hvs'.1; rw [List.getElem?_eq_none_iff] at hi ⊢; omega
          | some u =>
            obtain ⟨u', h3, h4⟩ := hvs'.get hi
            rw [h3, plainV_eq (List.all_eq_true.1 hp u (List.mem_of_getElem? hi)) h4]
        unfold execOp; rw [ho]
        simp only [resolve, e, Sem.run_bind, Sem.run_pure, Result.andThen_ok, invoke, builtin]
        rw [pureSem_run hv w]
        rfl
    · cases hp : vs.all (plainV 4) with
      | false => rw [hp] at h1; cases h1
      | true =>
        rw [hp] at h1
        obtain ⟨v, hv, hpv, h2⟩ := plK_some (show plK _ _ = some r from h1)
        refine ⟨v, h2, fun ρ ev hr => ⟨v, fun w => ?_, plainV_refl hpv⟩⟩
        have hvs' := run ρ ev hr
        have e : args.map ev = vs.toArray := by
          apply Array.ext'
          simp only [Array.toList_map]
          apply List.ext_getElem?
          intro i
          cases hi : vs[i]? with
          | none => have := hvs'.1; rw [List.getElem?_eq_none_iff] at hi ⊢; omega
          | some u =>
            obtain ⟨u', h3, h4⟩ := hvs'.get hi
            rw [h3, plainV_eq (List.all_eq_true.1 hp u (List.mem_of_getElem? hi)) h4]
        unfold execOp; rw [ho]
        simp only [resolve, e, Sem.run_bind, Sem.run_pure, Result.andThen_ok, invoke, builtin]
        rw [pureSem_run hv w]
        rfl
    · cases h1
  · cases h
end
end Go.Ev
