/-
  Regions that draw: what holds whatever order is picked.
-/
import Derived.Test.YtofgaidlepmcmaaGreatDoorEvN2
namespace Go.Ev
open Go

theorem Rho.lim_mono {ρ ρ' : Rho} {n m : Nat} (hle : ρ.le ρ') (h : n ≤ m) : (ρ.lim n).le (ρ'.lim m) := by
  intro i x hx
  obtain ⟨h1, h2⟩ := Rho.lim_some hx
  rw [Rho.lim_lt (by omega)]
  exact hle i x h2
theorem Rho.lim_le {ρ : Rho} {n : Nat} : (ρ.lim n).le ρ := fun _ _ hx => (Rho.lim_some hx).2
theorem Rho.lim_ins {ρ : Rho} {n : Nat} {x : Nat × Nat × Nat} (h : ρ n = some x) : ρ.lim (n + 1) = (ρ.lim n).ins n x := by
  funext i
  unfold Rho.lim Rho.ins
  by_cases h1 : i = n
  · subst h1; simp [h]
  · by_cases h2 : i < n
    · simp [h1, h2, show i < n + 1 by omega]
    · simp [h1, h2, show ¬ i < n + 1 by omega]
theorem Rho.lim_all {ρ : Rho} {n : Nat} (h : ∀ i x, ρ i = some x → i < n) : ρ.lim n = ρ := by
  funext i
  unfold Rho.lim
  split
  · rfl
  · cases e : ρ i with
    | none => rfl
    | some x => exact absurd (h i x e) ‹_›

/-- A block that is there already gets a number. -/
theorem PostG.adopt {base : Base} {ρ0 ρ1 : Rho} {g0 : Nat → Option Blk} {nx0 : Nat} {w0 w : World} {h : H} {x : Blk} {bb K : Nat} {obj : Obj}
    (p : PostG base ρ0 g0 nx0 w0 ρ1 h.get h.next w) (hbase : base ≤ w0.heap.size) (hb : w0.heap.size ≤ bb) (hw : w.heap[bb]? = some obj) (hB : BlkR ρ1 base x bb 0 K obj)
    (hn : ∀ i y o K', h.get i = some y → ρ1 i = some (bb, o, K') → False) :
    PostG base ρ0 g0 nx0 w0 (ρ1.ins h.next (bb, 0, K)) (h.new x).get (h.new x).next w := by
  have hs := p.sim
  have hle : ρ1.le (ρ1.ins h.next (bb, 0, K)) := Rho.le_ins _ hs.fresh
  refine ⟨p.le.trans hle, ?_, by rw [H.next_new]; have := p.next; omega, p.size, p.os, p.tape, p.output, p.frame, ?_⟩
  · refine ⟨?_, hs.based, hs.still, ?_, ?_⟩
    · intro i y hi
      rw [H.next_new]
      by_cases e : i = h.next
      · omega
      · rw [Rho.ins_other _ _ e] at hi; have := hs.dom _ _ hi; omega
    · intro i y hi
      rw [H.get_new] at hi
      by_cases e : i = h.next
      · subst e
        simp only [if_true] at hi
        cases hi
        exact ⟨bb, 0, K, obj, Rho.ins_same _ _ _, hw, hB.mono hle⟩
      · simp only [e, if_false] at hi
        obtain ⟨b, o, K', ob, hr, hw', hb'⟩ := hs.blk i y hi
        exact ⟨b, o, K', ob, by rw [Rho.ins_other _ _ e]; exact hr, hw', hb'.mono hle⟩
    · intro i j y z b o K1 o' K2 hi hj hri hrj hbs
      rw [H.get_new] at hi hj
      by_cases ei : i = h.next <;> by_cases ej : j = h.next
      · rw [ei, ej]
      · subst ei
        rw [Rho.ins_same] at hri; cases hri
        rw [Rho.ins_other _ _ ej] at hrj
        simp only [ej, if_false] at hj
        exact (hn j z _ _ hj hrj).elim
      · subst ej
        rw [Rho.ins_same] at hrj; cases hrj
        rw [Rho.ins_other _ _ ei] at hri
        simp only [ei, if_false] at hi
        exact (hn i y _ _ hi hri).elim
      · rw [Rho.ins_other _ _ ei] at hri
        rw [Rho.ins_other _ _ ej] at hrj
        simp only [ei, if_false] at hi
        simp only [ej, if_false] at hj
        exact hs.apart i j y z b o K1 o' K2 hi hj hri hrj hbs
  · intro i y b o K' hi hr hbs
    rw [H.get_new] at hi
    by_cases e : i = h.next
    · subst e; rw [Rho.ins_same] at hr; cases hr; exact .inl hb
    · simp only [e, if_false] at hi
      rw [Rho.ins_other _ _ e] at hr
      exact p.own i y b o K' hi hr hbs

/-- The world grows by blocks that nobody knows. -/
theorem PostG.grow {base : Base} {ρ0 ρ1 : Rho} {g0 g : Nat → Option Blk} {nx0 nx : Nat} {w0 w w' : World} (p : PostG base ρ0 g0 nx0 w0 ρ1 g nx w)
    (hsz : w.heap.size ≤ w'.heap.size) (hold : ∀ b, b < w.heap.size → w'.heap[b]? = w.heap[b]?) (e1 : w'.os = w.os) (e2 : w'.tape = w.tape) (e3 : w'.output = w.output) :
    PostG base ρ0 g0 nx0 w0 ρ1 g nx w' where
  le := p.le
  sim := ⟨p.sim.dom, Nat.le_trans p.sim.based hsz, fun b hb => by rw [hold b (Nat.lt_of_lt_of_le hb p.sim.based)]; exact p.sim.still b hb, fun i x hi => by
    obtain ⟨b, o, K, obj, h1, h2, h3⟩ := p.sim.blk i x hi
    exact ⟨b, o, K, obj, h1, by rw [hold b (Array.getElem?_eq_some_iff.1 h2).1]; exact h2, h3⟩, p.sim.apart⟩
  next := p.next
  size := Nat.le_trans p.size hsz
  os := e1.trans p.os
  tape := e2.trans p.tape
  output := e3.trans p.output
  frame := fun b hb hn => by rw [hold b (Nat.lt_of_lt_of_le hb p.size)]; exact p.frame b hb hn
  own := p.own

section
variable {P : Program} {base : Base} {ops : Array Oper} {b : List Nat} {pl : List (Nat × Nat)} {env : Env} {h : H} {S : Nat → CS} {V : Nat → Value} {O : Nat → Oper} {W : Nat → Bool}

def FreshP (P : Program) (O : Nat → Oper) (W : Nat → Bool) (p : Nat) : Prop := W p = true ∧ cls P (O p).op = .fresh

/-- The slots. -/
structure InvA (ops : Array Oper) (pl : List (Nat × Nat)) (S : Nat → CS) (V : Nat → Value) (a0 : Act) (D : Nat → Prop) (ρ : Rho) (a : Act) : Prop where
  vals : ∀ p, p < pl.length → D (yp pl p) → ∀ t, dstOf ops (yp pl p) = some t → t < a0.tmps.size → ∃ v', a.tmps[t]? = some v' ∧ VR (ρ.lim (S (p + 1)).h.next) (V p) v'
  size : a.tmps.size = a0.tmps.size
  rest : ∀ t, (∀ p, p < pl.length → D (yp pl p) → dstOf ops (yp pl p) ≠ some t) → a.tmps[t]? = a0.tmps[t]?
  defers : a.defers = a0.defers

theorem InvA.step (pok : PlanOK P ops b pl) {a0 a : Act} {D : Nat → Prop} {ρ ρ' : Rho} (I : InvA ops pl S V a0 D ρ a) (hle : ρ.le ρ') {p : Nat} (hp : p < pl.length) (hD : ¬ D (yp pl p))
    {o : Oper} (ho : ops[yp pl p]? = some o) {v' : Value} (hv : VR (ρ'.lim (S (p + 1)).h.next) (V p) v') :
    InvA ops pl S V a0 (fun x => D x ∨ x = yp pl p) ρ' (a.put o.dst v') := by
  have hd : dstOf ops (yp pl p) = o.dst := by unfold dstOf; rw [ho]; rfl
  have other : ∀ t, o.dst ≠ some t → (a.put o.dst v').tmps[t]? = a.tmps[t]? := by
    intro t ht
    cases hq : o.dst with
    | none => rfl
    | some d =>
      simp only [Act.put]
      rw [Array.getElem?_setIfInBounds_ne]
      rintro rfl; exact ht hq
  refine ⟨fun q hq hDq t ht hts => ?_, ?_, fun t ht => ?_, by rw [put_defers]; exact I.defers⟩
  · rcases hDq with hDq | hDq
    · have hne : o.dst ≠ some t := by
        intro e
        rw [← hd] at e
        exact hD (by rw [← pok.dst _ _ t ht e]; exact hDq)
      obtain ⟨u, h1, h2⟩ := I.vals q hq hDq t ht hts
      exact ⟨u, by rw [other t hne]; exact h1, h2.mono (Rho.lim_mono hle (Nat.le_refl _))⟩
    · have e := pok.inj q p hq hp hDq
      subst e
      rw [hd] at ht
      refine ⟨v', ?_, hv⟩
      simp only [ht, Act.put]
      have : t < a.tmps.size := by rw [I.size]; exact hts
      simp [this]
  · cases hq : o.dst with
    | none => exact I.size
    | some d => simp only [Act.put]; simpa using I.size
  · have hne : o.dst ≠ some t := by rw [← hd]; exact ht p hp (.inr rfl)
    rw [other t hne]
    exact I.rest t fun q hq hDq => ht q hq (.inl hDq)

/-- The memory. -/
structure InvB (P : Program) (base : Base) (ops : Array Oper) (pl : List (Nat × Nat)) (h : H) (S : Nat → CS) (O : Nat → Oper) (W : Nat → Bool) (ρ0 : Rho) (w0 : World) (D : Nat → Prop) (k : Nat) (ρ : Rho) (w : World) : Prop where
  kle : k ≤ effs P ops pl pl.length
  eff : ∀ p, p < pl.length → isEff P ops (yp pl p) = true → (D (yp pl p) ↔ effs P ops pl p < k)
  post : PostG base ρ0 h.get h.next w0 (ρ.lim (stg pl S k).next) (stg pl S k).get (stg pl S k).next w
  dom : ∀ i x, ρ i = some x → i < (stg pl S k).next ∨ ∃ p, p < pl.length ∧ D (yp pl p) ∧ FreshP P O W p ∧ i = (S p).h.next
  pend : ∀ p, p < pl.length → FreshP P O W p → D (yp pl p) → (stg pl S k).next ≤ (S p).h.next → ∀ cs, (S (p + 1)).h = (S p).h.new (.cells cs false) →
    ∃ bb C e, ρ (S p).h.next = some (bb, 0, C.size) ∧ w0.heap.size ≤ bb ∧ w.heap[bb]? = some (.cells C e (0, 0)) ∧
      (∀ (j : Nat) v, cs[j]? = some v → v.oneCell' = true ∧ ∃ v', C[j]? = some v' ∧ VR (ρ.lim (S p).h.next) v v') ∧
      (∀ i x o K, (stg pl S k).get i = some x → ρ.lim (stg pl S k).next i = some (bb, o, K) → False)
  sep : ∀ p q, p < pl.length → q < pl.length → FreshP P O W p → FreshP P O W q → D (yp pl p) → D (yp pl q) → (stg pl S k).next ≤ (S p).h.next → (stg pl S k).next ≤ (S q).h.next →
    ∀ bb o K o' K', ρ (S p).h.next = some (bb, o, K) → ρ (S q).h.next = some (bb, o', K') → (S p).h.next = (S q).h.next

/-- Up to a place whose makers of rows have all come up, the memory of the plan's walk is there. -/
theorem InvB.adopt (T : Trace P base ops b pl env h S V O W) {ρ0 : Rho} {w0 : World} {D : Nat → Prop} {k : Nat} {ρ : Rho} {w : World} (hbase : base ≤ w0.heap.size)
    (I : InvB P base ops pl h S O W ρ0 w0 D k ρ w) : ∀ p, p ≤ pl.length → effs P ops pl p = k → (∀ q, q < p → FreshP P O W q → D (yp pl q)) →
    PostG base ρ0 h.get h.next w0 (ρ.lim (S p).h.next) (S p).h.get (S p).h.next w ∧
      ∀ i x, (S p).h.get i = some x → (stg pl S k).get i = some x ∨ ∃ q, q < p ∧ FreshP P O W q ∧ (stg pl S k).next ≤ (S q).h.next ∧ i = (S q).h.next := by
  intro p
  induction p with
  | zero =>
    intro _ hk _
    have hk0 : k = 0 := hk.symm
    have e1 : stg pl S k = (S 0).h := by rw [hk0, T.stg_zero, T.start]
    have := I.post
    rw [e1] at this
    exact ⟨this, fun i x hi => .inl (by rw [e1]; exact hi)⟩
  | succ p ih =>
    intro hp hk hf
    have hplt : p < pl.length := by omega
    have st := T.step p hplt
    have iff := isEff_iff (P := P) st.op
    cases he : isEff P ops (yp pl p) with
    | true =>
      have e2 : effs P ops pl (p + 1) = effs P ops pl p + 1 := by simp only [effs, he, if_true]
      have e1 : stg pl S k = (S (p + 1)).h := by rw [← hk, e2]; exact T.stg_eff hplt he
      have := I.post
      rw [e1] at this
      exact ⟨this, fun i x hi => .inl (by rw [e1]; exact hi)⟩
    | false =>
      have e2 : effs P ops pl (p + 1) = effs P ops pl p := by simp [effs, he]
      obtain ⟨h1, h2⟩ := ih (by omega) (by omega) (fun q hq => hf q (by omega))
      have up : ∀ i x, (S p).h.get i = some x → (stg pl S k).get i = some x ∨ ∃ q, q < p + 1 ∧ FreshP P O W q ∧ (stg pl S k).next ≤ (S q).h.next ∧ i = (S q).h.next := by
        intro i x hi
        rcases h2 i x hi with h3 | ⟨q, a1, a2⟩
        · exact .inl h3
        · exact .inr ⟨q, by omega, a2⟩
      by_cases hfr : FreshP P O W p
      · obtain ⟨cs, mk, _, _, hnew, _⟩ := st.fresh hfr.1 hfr.2
        have hle : (stg pl S k).next ≤ (S p).h.next := T.stg_le p (by omega) k (by omega)
        have hDp := hf p (by omega) hfr
        obtain ⟨bb, C, e, q1, q2, q3, q4, q5⟩ := I.pend p hplt hfr hDp hle cs hnew
        have hBlk : BlkR (ρ.lim (S p).h.next) base (.cells cs false) bb 0 C.size (.cells C e (0, 0)) := by
          refine ⟨fun j v hj => by rw [Nat.zero_add]; exact q4 j v hj, fun _ => ⟨Nat.le_trans hbase q2, rfl, ?_, fun j _ _ _ hj => by simp at hj⟩⟩
          rcases Nat.eq_zero_or_pos cs.length with h0 | h0
          · omega
          · obtain ⟨_, v', h5, _⟩ := q4 (cs.length - 1) cs[cs.length - 1] (List.getElem?_eq_getElem (by omega))
            have := (Array.getElem?_eq_some_iff.1 h5).1
            omega
        have := PostG.adopt h1 hbase q2 q3 hBlk (fun i y o K' hi hr => by
          obtain ⟨hi1, hi2⟩ := Rho.lim_some hr
          rcases h2 i y hi with h3 | ⟨q, a1, a2, a3, a4⟩
          · have hlt := I.post.sim.get_next h3
            exact q5 i y o K' h3 (by rw [Rho.lim_lt hlt]; exact hi2)
          · subst a4
            have := I.sep p q hplt (by omega) hfr a2 hDp (hf q (by omega) a2) hle a3 _ _ _ _ _ q1 hi2
            omega)
        rw [hnew, H.next_new, Rho.lim_ins q1]
        refine ⟨this, fun i x hi => ?_⟩
        rw [H.get_new] at hi
        split at hi
        · rename_i e1; exact .inr ⟨p, by omega, hfr, hle, e1⟩
        · exact up i x hi
      · have hsame : (S (p + 1)).h = (S p).h := by
          cases hb : W p with
          | false => exact (st.no hb).2.1
          | true =>
            cases hc : cls P (O p).op with
            | pure => exact (st.pure hb hc).2.1
            | load => exact (st.load hb hc).1
            | fresh => exact absurd ⟨hb, hc⟩ hfr
            | eff => rw [iff.2 hc] at he; cases he
        rw [hsame]
        exact ⟨h1, up⟩
end
end Go.Ev
