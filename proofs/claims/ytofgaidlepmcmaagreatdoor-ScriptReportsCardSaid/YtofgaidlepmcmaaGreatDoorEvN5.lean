/-
  Regions that draw: every order.
-/
import Derived.Test.YtofgaidlepmcmaaGreatDoorEvN4
namespace Go.Ev
open Go

section
variable {R : Type} {P : Program} {base : Base} {ops : Array Oper} {b : List Nat} {pl : List (Nat × Nat)} {env : Env} {h : H} {S : Nat → CS} {V : Nat → Value} {O : Nat → Oper} {W : Nat → Bool}

/-- One operation, at its turn. -/
theorem op_any (T : Trace P base ops b pl env h S V O W) {ρ0 ρ : Rho} {w0 w : World} {D : Nat → Prop} {k p : Nat} {a0 a : Act} (hdom : ∀ i x, ρ0 i = some x → i < h.next) (he0 : ERel ρ0 env a0.tmps)
    (hbase : base ≤ w0.heap.size) (IA : InvA ops pl S V a0 D ρ a) (I : InvB P base ops pl h S O W ρ0 w0 D k ρ w) (A : At P ops b pl D p) {Q : Exit → Act → World → Prop} {K : Act → World → Prop}
    (hK : ∀ k' ρ' a' w', InvA ops pl S V a0 (fun x => D x ∨ x = yp pl p) ρ' a' → InvB P base ops pl h S O W ρ0 w0 (fun x => D x ∨ x = yp pl p) k' ρ' w' → K a' w') :
    wpOp P ops Q (yp pl p) K a w := by
  have st := T.step p A.lt
  have iff := isEff_iff (P := P) st.op
  have hrel := relY T hdom he0 IA I A
  have hw := wantedE_look st.want hrel
  have hor := orel_look (o := O p) hrel
  have hmono := T.next_mono1 A.lt
  unfold wpOp
  rw [st.op]
  simp only
  rw [hw]
  cases hb : W p with
  | false =>
    simp only [Bool.false_eq_true, if_false]
    have hv : VR (ρ.lim (S (p + 1)).h.next) (V p) undef := by rw [(st.no hb).1]; exact .tuple' (.nil _)
    have IA' := IA.step T.plan (.refl ρ) A.lt A.not st.op hv
    cases he : isEff P ops (yp pl p) with
    | true => exact hK (k + 1) ρ _ w IA' (I.idle T hbase A he hb)
    | false => exact hK k ρ _ w IA' (I.more T A he fun hf => by rw [hf.1] at hb; cases hb)
  | true =>
    simp only [if_true]
    refine .inl ?_
    cases hc : cls P (O p).op with
    | pure =>
      have he : isEff P ops (yp pl p) = false := by
        cases he : isEff P ops (yp pl p) with
        | false => rfl
        | true => rw [iff.1 he] at hc; cases hc
      obtain ⟨hpv, hsame, _⟩ := st.pure hb hc
      obtain ⟨v', h1, h2⟩ := hpv _ a.eval hor
      unfold Oper.wp
      rw [h1 w]
      refine hK k ρ _ w (IA.step T.plan (.refl ρ) A.lt A.not st.op ?_) (I.more T A he fun hf => by rw [hf.2] at hc; cases hc)
      rw [hsame]; exact h2
    | load =>
      have he : isEff P ops (yp pl p) = false := by
        cases he : isEff P ops (yp pl p) with
        | false => rfl
        | true => rw [iff.1 he] at hc; cases hc
      obtain ⟨hsame, _, g0, old, h3, h4, h5⟩ := st.load hb hc
      have hke := I.le_effs T.plan A
      obtain ⟨hh1, hh2⟩ := T.hist_head (Nat.le_of_lt A.lt) h3
      have hlo : lop pl p ≤ k := by
        rcases T.plan.lo p A.lt he with h6 | ⟨r, h6, h7, h8, h9⟩
        · omega
        · have := (I.eff r (by have := A.lt; omega) h7).1 (A.all _ h9); omega
      have hl : Reads P (O p) (S p).env (stg pl S k) (V p) := by
        by_cases hkk : k = effs P ops pl p
        · rw [hkk, ← hh1]; exact h4
        · exact h5 _ (hh2 _ k hlo (by omega))
      obtain ⟨v', h6, h7⟩ := read_exec I.post.sim hl (hl.lim hor fun i y hy => I.post.sim.get_next hy)
      unfold Oper.wp
      rw [h6]
      refine hK k ρ _ w (IA.step T.plan (.refl ρ) A.lt A.not st.op ?_) (I.more T A he fun hf => by rw [hf.2] at hc; cases hc)
      rw [hsame]
      exact h7.mono (Rho.lim_mono (.refl ρ) (T.stg_le p (Nat.le_of_lt A.lt) k hke))
    | fresh =>
      obtain ⟨cs, mk, h1, h2, h3, _⟩ := st.fresh hb hc
      obtain ⟨C, e, f, h4, h5, h6⟩ := h1 _ a.eval hor
      obtain ⟨hle, IB⟩ := I.fresh T A (e := e) ⟨hb, hc⟩ h3 h5
      unfold Oper.wp
      rw [h4 w]
      refine hK k _ _ _ (IA.step T.plan hle A.lt A.not st.op ?_) IB
      rw [h2]
      refine h6 _ _ _ ?_
      rw [Rho.lim_lt (by rw [h3, H.next_new]; omega), Rho.ins_same]
    | eff =>
      have he := iff.2 hc
      have hk := I.eq_effs T.plan A he
      obtain ⟨_, _, hev⟩ := st.eff hb hc
      obtain ⟨h1, _⟩ := I.adopt T hbase p (Nat.le_of_lt A.lt) hk (fun r hr _ => A.prior T.plan he r hr)
      refine hev _ a w h1.sim hor _ Q fun ρ' v' w' hp hv => ?_
      refine hK (k + 1) _ _ w' (IA.step T.plan (I.over_le T A he hp.le) A.lt A.not st.op ?_) (I.act T hbase A he hp)
      rw [Rho.over_lim hp.sim.dom]; exact hv

def listedD (listed : Array Bool) (x : Nat) : Prop := listed.getD x false = true

theorem any_sound (T : Trace P base ops b pl env h S V O W) {ρ0 : Rho} {w0 : World} {a0 : Act} (hdom : ∀ i x, ρ0 i = some x → i < h.next) (he0 : ERel ρ0 env a0.tmps)
    (hbase : base ≤ w0.heap.size) {Q : Exit → Act → World → Prop} (hl : Leaves base ρ0 h a0 w0 (S pl.length).env (S pl.length).h (Q .normal)) :
    ∀ (fuel : Nat) (l : List Nat) (listed : Array Bool) (ρ : Rho) (k : Nat) (a : Act) (w : World), l.length ≤ fuel → listed.size = ops.size →
      (∀ x, x < ops.size → listed.getD x false = false → x ∈ l) → (∀ x, listedD listed x → ∀ z, waits b x z → listedD listed z) →
      InvA ops pl S V a0 (listedD listed) ρ a → InvB P base ops pl h S O W ρ0 w0 (listedD listed) k ρ w → wpAny P .any ops Q fuel listed a w := by
  have bits := T.plan.bits
  have done : ∀ (listed : Array Bool) (ρ : Rho) (k : Nat) (a : Act) (w : World), listed.size = ops.size → 
      InvA ops pl S V a0 (listedD listed) ρ a → InvB P base ops pl h S O W ρ0 w0 (listedD listed) k ρ w → (∀ x, x < ops.size → listedD listed x) → Q .normal a w := by
    intro listed ρ k a w hsz IA I hall
    have hD : ∀ q, q < pl.length → listedD listed (yp pl q) := fun q hq => hall _ (T.plan.lt q hq)
    have hk : effs P ops pl pl.length = k := by
      have h1 := I.kle
      rcases Nat.lt_or_ge k (effs P ops pl pl.length) with hlt | hge
      · obtain ⟨q, h2, h3, h4⟩ := eff_exists (P := P) (ops := ops) (pl := pl) _ k hlt
        have := (I.eff q h2 h3).1 (hD q h2); omega
      · omega
    obtain ⟨h1, _⟩ := I.adopt T hbase pl.length (Nat.le_refl _) hk (fun q hq _ => hD q hq)
    refine hl _ a w h1 ⟨by rw [T.env_len _ (Nat.le_refl _), IA.size]; exact he0.1, fun t v hv => ?_⟩ IA.defers
    have hts : t < a0.tmps.size := by
      have := nth_lt hv
      rw [T.env_len _ (Nat.le_refl _), he0.1] at this
      exact this
    rcases T.env_at pl.length (Nat.le_refl _) t v hv with ⟨q, h2, h3, rfl⟩ | ⟨h2, h3⟩
    · obtain ⟨v', h4, h5⟩ := IA.vals q h2 (hD q h2) t h3 hts
      exact ⟨v', h4, h5.mono (Rho.lim_mono (.refl ρ) (T.mono (by omega) (Nat.le_refl _)))⟩
    · obtain ⟨v', h4, h5⟩ := he0.2 t v h3
      exact ⟨v', by rw [IA.rest t fun q hq _ => h2 q hq]; exact h4, h5.mono h1.le⟩
  have all : ∀ (listed : Array Bool), listed.size = ops.size → Region.ready .any ops listed = [] → ∀ n x, x < n → x < ops.size → listedD listed x := by
    intro listed hsz hr n
    induction n with
    | zero => intro x hx; omega
    | succ n ih =>
      intro x hx hxs
      cases hx1 : listed.getD x false with
      | true => exact hx1
      | false =>
        exfalso
        have hmem : x ∈ Region.ready .any ops listed := by
          rw [mem_ready]
          have hlt : x < listed.size := by omega
          refine ⟨by simpa [hlt] using hx1, ops[x], Array.getElem?_eq_getElem hxs, fun e he hb => ?_⟩
          have h1 := bits.acyc x _ (Array.getElem?_eq_getElem hxs) e he hb
          exact ih e.on (by omega) (by omega)
        rw [hr] at hmem; cases hmem
  intro fuel
  induction fuel with
  | zero =>
    intro l listed ρ k a w hlen hsz hl2 hcl IA I
    have hl0 : l = [] := by cases l with
      | nil => rfl
      | cons x r => simp at hlen
    have hall : ∀ x, x < ops.size → listedD listed x := by
      intro x hx
      cases hx1 : listed.getD x false with
      | true => exact hx1
      | false => have := hl2 x hx hx1; rw [hl0] at this; cases this
    refine ⟨?_, done listed ρ k a w hsz IA I hall⟩
    cases hr : Region.ready .any ops listed with
    | nil => rfl
    | cons x r =>
      have hm : x ∈ Region.ready .any ops listed := by rw [hr]; exact List.mem_cons_self ..
      obtain ⟨h1, o, ho, _⟩ := mem_ready.1 hm
      have hx := (Array.getElem?_eq_some_iff.1 ho).1
      have h2 := hall x hx
      unfold listedD at h2
      have hlt : x < listed.size := by omega
      simp [hlt] at h1 h2
      rw [h1] at h2; cases h2
  | succ fuel ih =>
    intro l listed ρ k a w hlen hsz hl2 hcl IA I
    refine ⟨fun hr => done listed ρ k a w hsz IA I fun x hx => all listed hsz hr _ x (Nat.lt_succ_self x) hx, fun y hy => ?_⟩
    obtain ⟨hun, o, ho, haf⟩ := mem_ready.1 hy
    have hys := (Array.getElem?_eq_some_iff.1 ho).1
    have hylt : y < listed.size := by omega
    have hunf : listed.getD y false = false := by simpa [hylt] using hun
    obtain ⟨p, hp, rfl⟩ := T.plan.cover y hys
    have A : At P ops b pl (listedD listed) p := by
      refine ⟨hp, fun hD => (by unfold listedD at hD; rw [hunf] at hD; cases hD), fun x hx => ?_, hcl⟩
      obtain ⟨e, h1, h2, h3⟩ := bits.sub _ o ho x hx
      have h4 : listedD listed e.on := haf e h1 h2
      rcases h3 with h3 | h3
      · rw [← h3]; exact h4
      · exact hcl _ h4 _ h3
    have hset : ∀ x, listedD (listed.setIfInBounds (yp pl p) true) x ↔ (listedD listed x ∨ x = yp pl p) := by
      intro x
      unfold listedD
      by_cases hx : x = yp pl p
      · subst hx; simp [hylt]
      · rw [getD_set_ne false (fun e => hx e.symm)]
        simp [hx]
    have hDe : listedD (listed.setIfInBounds (yp pl p) true) = fun x => listedD listed x ∨ x = yp pl p := by
      funext x; exact propext (hset x)
    refine op_any T hdom he0 hbase IA I A fun k' ρ' a' w' IA' I' => ?_
    refine ih (l.erase (yp pl p)) _ ρ' k' a' w' ?_ (by simpa using hsz) (fun x hx hx1 => ?_) (fun x hx z hz => ?_) (by rw [hDe]; exact IA') (by rw [hDe]; exact I')
    · have hm := hl2 _ hys hunf
      rw [List.length_erase_of_mem hm]; omega
    · have hne : x ≠ yp pl p := by
        rintro rfl
        simp [hylt] at hx1
      rw [getD_set_ne false (fun e => hne e.symm)] at hx1
      exact (List.mem_erase_of_ne hne).2 (hl2 x hx hx1)
    · rw [hset] at hx ⊢
      rcases hx with hx | rfl
      · exact .inl (hcl x hx z hz)
      · exact .inl (A.all z hz)

theorem evDraw_sound {call : CallF} (hcall : CallOK P base call) (hcn : CallNext call) (hnc : NoCount P) (hd : drawOk P ops b pl = true) {K : Env → H → Option R} {r : R}
    (hh : evDraw P call ops pl env h [h] K = some r) : ∃ env' h', K env' h' = some r ∧ h.next ≤ h'.next ∧ ∀ ρ a w Q, Sim ρ base h w → ERel ρ env a.tmps →
      Leaves base ρ h a w env' h' (Q .normal) → wpAny P .any ops Q ops.size (Array.replicate ops.size false) a { w with drawn := w.drawn + 1 } := by
  obtain ⟨S, V, O, W, h1, h2, h3⟩ := evDraw_trace hcall hcn hnc pl env h [h] K r hh
  have T : Trace P base ops b pl env h S V O W := ⟨drawOk_spec hd, h1, h3⟩
  have hnx := T.mono (Nat.zero_le pl.length) (Nat.le_refl _)
  rw [h1] at hnx
  refine ⟨_, _, h2, hnx, fun ρ a w Q hs he hl => ?_⟩
  have hpd : Post base ρ h w ρ h { w with drawn := w.drawn + 1 } := PostG.drew hs rfl rfl rfl rfl
  have none0 : ∀ x, ¬ listedD (Array.replicate ops.size false) x := by
    intro x hx
    unfold listedD at hx
    by_cases hxs : x < ops.size
    · simp [hxs] at hx
    · simp [Nat.not_lt.1 hxs] at hx
  refine any_sound T (ρ0 := ρ) (w0 := { w with drawn := w.drawn + 1 }) (a0 := a) hs.dom he hs.based (fun ρ' a' w' hp => hl ρ' a' w' (hpd.trans hp)) ops.size (List.range ops.size) _ ρ 0 a _ (by simp) (by simp)
    (fun x hx _ => List.mem_range.2 hx) (fun x hx => absurd hx (none0 x)) ⟨fun q _ hD => absurd hD (none0 _), rfl, fun _ _ => rfl, rfl⟩ ?_
  refine ⟨Nat.zero_le _, fun q _ _ => ⟨fun hD => absurd hD (none0 _), fun h => by omega⟩, ?_, fun i x hi => .inl (by rw [T.stg_zero]; exact hs.dom i x hi), fun q _ _ hD => absurd hD (none0 _), fun q _ _ _ _ _ hD => absurd hD (none0 _)⟩
  rw [T.stg_zero, Rho.lim_all hs.dom]
  exact PostG.refl hpd.sim
end
end Go.Ev
