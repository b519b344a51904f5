/-
  Rows of their own, and loops over all things.
-/
import Derived.Test.YtofgaidlepmcmaaGreatDoorEvT
namespace Go.Ev
open Go
section
variable {P : Program} {R : Type} {α : Type} {e : α → List Value} {k : Nat} {h h' : H} {a : Option Addr} {st : Nat} {l : List α}
/-- A thing of a slice, taken into a row of its own. -/
theorem Sl.row (S : Sl e k h a st l) {t et : TypeId} (hu : P.underlying t = some (.slice et)) (hc : cellsOf P et = some k) (ha : aggT P et = some true) (h0 : 0 < k) {i : Nat} {x : α} (hx : l[i]? = some x) (hk : (e x).length = k)
    {zs : List Value} (hz : zs.length = k) (K : H → Option R) (kk : IntKind) :
    (indexAddrA P t (.slice a l.length st) (.int kk i) fun v0 => addrK v0 fun o1 o2 => optK (ldV P et o1 o2 h) fun v3 => castA v3 fun cs4 => ifK (cellsOf P et = some (Value.agg cs4).cells.size) (optK (stCells (h.new (.cells zs false)) h.1 0 (Value.agg cs4).cells.toList) K)) =
      K (h.new (.cells (e x) false)) := by
  obtain ⟨j, o, p, e1⟩ := S.at hu hc hx
  rw [e1]
  simp only [addrK_mk]
  rw [p.agg ha (by rw [hk]; exact hc) (by omega), optK_mk, castA_mk, ifK_pos (by rw [hc]; simp [Value.cells, hk])]
  have e2 : (Value.agg (e x).toArray).cells.toList = e x := by simp [Value.cells]
  rw [e2, st_new (by rw [hk, hz]), optK_mk]
/-- A thing of a slice as it is. -/
theorem Sl.aggr (S : Sl e k h a st l) {t et : TypeId} (hu : P.underlying t = some (.slice et)) (hc : cellsOf P et = some k) (ha : aggT P et = some true) (h0 : 0 < k) {i : Nat} {x : α} (hx : l[i]? = some x) (hk : (e x).length = k)
    (K : Value → Option R) (kk : IntKind) :
    (indexAddrA P t (.slice a l.length st) (.int kk i) fun v0 => addrK v0 fun o1 o2 => optK (ldV P et o1 o2 h) K) = K (.agg (e x).toArray) := by
  obtain ⟨j, o, p, e1⟩ := S.at hu hc hx
  rw [e1]
  simp only [addrK_mk]
  rw [p.agg ha (by rw [hk]; exact hc) (by omega), optK_mk]
/-- A cell of a thing of a slice. -/
theorem Sl.cell (S : Sl e k h a st l) {t et ct : TypeId} (hu : P.underlying t = some (.slice et)) (hc : cellsOf P et = some k) (ha : aggT P ct = some false) {i : Nat} {x : α} (hx : l[i]? = some x) {f : Nat} {y : Value} (hy : (e x)[f]? = some y) :
    ∃ j o, (∀ {R : Type} (K : Value → Option R) (kk : IntKind), indexAddrA P t (.slice a l.length st) (.int kk i) K = K (.pointer (some ⟨j, o, none⟩))) ∧ ldV P ct j (o + f) h = some y := by
  obtain ⟨j, o, p, e1⟩ := S.at hu hc hx
  exact ⟨j, o, e1, p.ld ha hy⟩

theorem all_step {p : α → Bool} {k : Nat} {x : α} (hx : l[k]? = some x) (h1 : (l.take k).all p = true) (h2 : p x = true) : (l.take (k + 1)).all p = true := by
  rw [List.take_add_one, hx, List.all_append, h1]; simp [h2]
theorem all_none {p : α → Bool} {k : Nat} {x : α} (hx : l[k]? = some x) (h2 : p x = false) : l.all p = false := by
  cases hc : l.all p with
  | false => rfl
  | true => have := List.all_eq_true.1 hc x (List.mem_of_getElem? hx); rw [h2] at this; cases this
theorem same_int {k : IntKind} {n : Int} {t i o : Nat} (e : ldV P t i o h = some (.int k n)) : sameLd P t i o (.int k n) h = true := by
  unfold sameLd; rw [e]; simp [eqV]
theorem same_sl {n s : Nat} {t i o : Nat} (S : Sl e k h' a st l) (e : ldV P t i o h = some (.slice a n s)) : sameLd P t i o (.slice a n s) h = true := by
  unfold sameLd; rw [e]
  have : eqA a a = true := by
    rcases S with ⟨_, rfl, _⟩ | ⟨_, j, o, rfl, _⟩
    · rfl
    · simp [eqA]
  simp [eqV, this]
end

/-- A new row, and what stays. -/
theorem new_row (h : H) (cs : List Value) : ∃ m, h.new (.cells cs false) = m ∧ Ext h m ∧ Has m h.next (.cells cs false) := ⟨_, rfl, (Ext.refl h).new _, Has.here _ _⟩


/-! ### loops over all -/
def allN (p : Nat → Bool) (N : Nat) : Bool := (List.range N).all p
theorem allN_no {p : Nat → Bool} {N k : Nat} (hk : k < N) (hp : p k = false) : allN p N = false := by
  unfold allN
  cases hc : (List.range N).all p with
  | false => rfl
  | true => have := List.all_eq_true.1 hc k (List.mem_range.2 hk); rw [hp] at this; cases this
theorem allN_yes {p : Nat → Bool} {N : Nat} (hp : ∀ k, k < N → p k = true) : allN p N = true := List.all_eq_true.2 fun k hk => hp k (List.mem_range.1 hk)
theorem allN_at {p : Nat → Bool} {N k : Nat} (h : allN p N = true) (hk : k < N) : p k = true := List.all_eq_true.1 h k (List.mem_range.2 hk)
theorem allN_congr {p q : Nat → Bool} {N : Nat} (h : ∀ k, k < N → p k = q k) : allN p N = allN q N := by
  unfold allN
  apply Bool.eq_iff_iff.2
  simp only [List.all_eq_true, List.mem_range]
  exact ⟨fun a k hk => by rw [← h k hk]; exact a k hk, fun a k hk => by rw [h k hk]; exact a k hk⟩
theorem allN_list {α : Type} {l : List α} {p : α → Bool} : (allN (fun k => (l[k]?).elim true p) l.length) = l.all p := by
  apply Bool.eq_iff_iff.2
  unfold allN
  simp only [List.all_eq_true, List.mem_range]
  constructor
  · intro a x hx
    obtain ⟨k, hk, rfl⟩ := List.mem_iff_getElem.1 hx
    have := a k hk
    rw [List.getElem?_eq_getElem hk] at this
    exact this
  · intro a k hk
    rw [List.getElem?_eq_getElem hk]
    exact a _ (List.getElem_mem hk)

section
variable {P : Program}
/-- A loop that ends at the first that isn't so. -/
theorem loop_all {call : CallF} {jmp : JmpF} {dead : Nat → Option (List Nat)} {rounds c : Nat} {code : Code} {d d' dr : Option (List Nat)} (N : Nat) (p : Nat → Bool) (J : H → Prop) (env : Nat → Env) {xT xF : Exit} {envT envF : Env} {h : H}
    (hstep : ∀ k hh, k < N → J hh → ∃ m, J m ∧ ((p k = true ∧ ∀ {R : Type} (nx : Env → H → Option R) (K : Exit → Env → H → Option R), evCode P call jmp dead rounds c code (env k) hh (loopK nx d d' dr K) = nx (env (k + 1)) m) ∨
      (p k = false ∧ ∀ {R : Type} (nx : Env → H → Option R) (K : Exit → Env → H → Option R), evCode P call jmp dead rounds c code (env k) hh (loopK nx d d' dr K) = K xF envF m)))
    (hend : ∀ hh, J hh → ∀ {R : Type} (nx : Env → H → Option R) (K : Exit → Env → H → Option R), evCode P call jmp dead rounds c code (env N) hh (loopK nx d d' dr K) = K xT envT hh) (h0 : J h) {r : Nat} (hr : N < r) :
    ∃ hh, J hh ∧ ((allN p N = true ∧ ∀ {R : Type} (K : Exit → Env → H → Option R), evLoop (evCode P call jmp dead rounds c code) d d' dr r (env 0) h K = K xT envT hh) ∨
      (allN p N = false ∧ ∀ {R : Type} (K : Exit → Env → H → Option R), evLoop (evCode P call jmp dead rounds c code) d d' dr r (env 0) h K = K xF envF hh)) := by
  obtain ⟨x, env', h', hq, e⟩ := loop_inv (P := P) (call := call) (jmp := jmp) (dead := dead) (rounds := rounds) (c := c) (code := code) (d := d) (d' := d') (dr := dr) (fun k e hh => e = env k ∧ J hh ∧ ∀ i, i < k → p i = true) N
    (fun x e hh => J hh ∧ ((allN p N = true ∧ x = xT ∧ e = envT) ∨ (allN p N = false ∧ x = xF ∧ e = envF)))
    (fun k e hh hk hI => by
      obtain ⟨rfl, hJ, hp⟩ := hI
      rcases Nat.lt_or_ge k N with hlt | hge
      · obtain ⟨m, hm, ⟨h1, h2⟩ | ⟨h1, h2⟩⟩ := hstep k hh hlt hJ
        · exact ⟨.on _ m, fun nx K => h2 nx K, hlt, rfl, hm, fun i hi => by rcases Nat.lt_or_ge i k with h3 | h3; exact hp i h3; have : i = k := by omega
                                                                            subst this; exact h1⟩
        · exact ⟨.off xF envF m, fun nx K => h2 nx K, hm, .inr ⟨allN_no hlt h1, rfl, rfl⟩⟩
      · have : k = N := by omega
        subst this
        exact ⟨.off xT envT hh, fun nx K => hend hh hJ nx K, hJ, .inl ⟨allN_yes hp, rfl, rfl⟩⟩)
    ⟨rfl, h0, fun i hi => by omega⟩ hr
  obtain ⟨hJ, ⟨h1, rfl, rfl⟩ | ⟨h1, rfl, rfl⟩⟩ := hq
  · exact ⟨h', hJ, .inl ⟨h1, fun K => e K⟩⟩
  · exact ⟨h', hJ, .inr ⟨h1, fun K => e K⟩⟩
/-- A loop that goes on to its end, with a state of its own. -/
theorem loop_run {call : CallF} {jmp : JmpF} {dead : Nat → Option (List Nat)} {rounds c : Nat} {code : Code} {d d' dr : Option (List Nat)} {σ : Type} (N : Nat) (I : Nat → σ → H → Prop) (env : Nat → σ → Env) {xT : Exit} {envT : σ → Env} {s0 : σ} {h : H}
    (hstep : ∀ k s hh, k < N → I k s hh → ∃ s' m, I (k + 1) s' m ∧ ∀ {R : Type} (nx : Env → H → Option R) (K : Exit → Env → H → Option R), evCode P call jmp dead rounds c code (env k s) hh (loopK nx d d' dr K) = nx (env (k + 1) s') m)
    (hend : ∀ s hh, I N s hh → ∀ {R : Type} (nx : Env → H → Option R) (K : Exit → Env → H → Option R), evCode P call jmp dead rounds c code (env N s) hh (loopK nx d d' dr K) = K xT (envT s) hh) (h0 : I 0 s0 h) {r : Nat} (hr : N < r) :
    ∃ s hh, I N s hh ∧ ∀ {R : Type} (K : Exit → Env → H → Option R), evLoop (evCode P call jmp dead rounds c code) d d' dr r (env 0 s0) h K = K xT (envT s) hh := by
  obtain ⟨x, env', h', ⟨s, hI, rfl, rfl⟩, e⟩ := loop_inv (P := P) (call := call) (jmp := jmp) (dead := dead) (rounds := rounds) (c := c) (code := code) (d := d) (d' := d') (dr := dr) (fun k e hh => ∃ s, I k s hh ∧ e = env k s) N
    (fun x e hh => ∃ s, I N s hh ∧ x = xT ∧ e = envT s)
    (fun k e hh hk hI => by
      obtain ⟨s, hI, rfl⟩ := hI
      rcases Nat.lt_or_ge k N with hlt | hge
      · obtain ⟨s', m, hm, h2⟩ := hstep k s hh hlt hI
        exact ⟨.on _ m, fun nx K => h2 nx K, hlt, s', hm, rfl⟩
      · have : k = N := by omega
        subst this
        exact ⟨.off xT (envT s) hh, fun nx K => hend s hh hI nx K, s, hI, rfl, rfl⟩)
    ⟨s0, h0, rfl⟩ hr
  exact ⟨s, h', hI, fun K => e K⟩
theorem GivesX.all {call : CallF} {jmp : JmpF} {dead : Nat → Option (List Nat)} {rounds c : Nat} {code : Code} {d d' dr : Option (List Nat)} (N : Nat) (p : Nat → Bool) (J : H → Prop) (env : Nat → Env) {xT xF : Exit} {envT envF : Env} {h : H}
    (hstep : ∀ k hh, k < N → J hh → ∃ m, J m ∧ ((p k = true ∧ ∀ {R : Type} (nx : Env → H → Option R) (K : Exit → Env → H → Option R), evCode P call jmp dead rounds c code (env k) hh (loopK nx d d' dr K) = nx (env (k + 1)) m) ∨
      (p k = false ∧ ∀ {R : Type} (nx : Env → H → Option R) (K : Exit → Env → H → Option R), evCode P call jmp dead rounds c code (env k) hh (loopK nx d d' dr K) = K xF envF m)))
    (hend : ∀ hh, J hh → ∀ {R : Type} (nx : Env → H → Option R) (K : Exit → Env → H → Option R), evCode P call jmp dead rounds c code (env N) hh (loopK nx d d' dr K) = K xT envT hh) (h0 : J h) {r : Nat} (hr : N < r)
    {K : Exit → Env → H → Option (Exit × Env × H)} {Q : Exit → Env → H → Prop} (k1 : ∀ hh, J hh → allN p N = true → GivesX (K xT envT hh) Q) (k2 : ∀ hh, J hh → allN p N = false → GivesX (K xF envF hh) Q) :
    GivesX (evLoop (evCode P call jmp dead rounds c code) d d' dr r (env 0) h K) Q := by
  obtain ⟨hh, hJ, ⟨h1, e⟩ | ⟨h1, e⟩⟩ := loop_all N p J env hstep hend h0 hr
  · rw [e]; exact k1 hh hJ h1
  · rw [e]; exact k2 hh hJ h1
theorem Gives.all {call : CallF} {jmp : JmpF} {dead : Nat → Option (List Nat)} {rounds c : Nat} {code : Code} {d d' dr : Option (List Nat)} (N : Nat) (p : Nat → Bool) (J : H → Prop) (env : Nat → Env) {xT xF : Exit} {envT envF : Env} {h : H}
    (hstep : ∀ k hh, k < N → J hh → ∃ m, J m ∧ ((p k = true ∧ ∀ {R : Type} (nx : Env → H → Option R) (K : Exit → Env → H → Option R), evCode P call jmp dead rounds c code (env k) hh (loopK nx d d' dr K) = nx (env (k + 1)) m) ∨
      (p k = false ∧ ∀ {R : Type} (nx : Env → H → Option R) (K : Exit → Env → H → Option R), evCode P call jmp dead rounds c code (env k) hh (loopK nx d d' dr K) = K xF envF m)))
    (hend : ∀ hh, J hh → ∀ {R : Type} (nx : Env → H → Option R) (K : Exit → Env → H → Option R), evCode P call jmp dead rounds c code (env N) hh (loopK nx d d' dr K) = K xT envT hh) (h0 : J h) {r : Nat} (hr : N < r)
    {K : Exit → Env → H → Option (Value × H)} {Q : Value → H → Prop} (k1 : ∀ hh, J hh → allN p N = true → Gives (K xT envT hh) Q) (k2 : ∀ hh, J hh → allN p N = false → Gives (K xF envF hh) Q) :
    Gives (evLoop (evCode P call jmp dead rounds c code) d d' dr r (env 0) h K) Q := by
  obtain ⟨hh, hJ, ⟨h1, e⟩ | ⟨h1, e⟩⟩ := loop_all N p J env hstep hend h0 hr
  · rw [e]; exact k1 hh hJ h1
  · rw [e]; exact k2 hh hJ h1
end

/-! ### a closed function that says 'true' -/
def trueI : List Value → H → Option (Value × H)
  | [], h => some (.bool true, h)
  | _, _ => none
/-- The world as it is. -/
def baseAt (w : World) : Base := ⟨w.heap.size, fun b => w.heap[b]?⟩
theorem sim_empty {w : World} : Sim (fun _ => none) (baseAt w) ⟨0, .nil⟩ w :=
  ⟨fun i x h => (by cases h), Nat.le_refl _, fun _ _ => rfl, fun i x hi => (by simp [H.get, Tr.get_nil] at hi), fun i j x y b o K o' K' hi => (by simp [H.get, Tr.get_nil] at hi)⟩
/-- What was run over no memory at all stands for a call anywhere. -/
theorem closed_ok {P : Program} {f : FuncId} {base : Base} {call : CallF} (hc : ∀ base', CallOK P base' call) (e : (call f [] ⟨0, .nil⟩).map (fun p => p.1) = some (.bool true)) : StandsFor P base f trueI := by
  intro args h v h' hg
  cases args with
  | cons a l => simp [trueI] at hg
  | nil =>
    simp only [trueI, Option.some.injEq, Prod.mk.injEq] at hg
    obtain ⟨rfl, rfl⟩ := hg
    refine ⟨Nat.le_refl _, fun ρ w args' hs hv => ?_⟩
    cases ec : call f [] ⟨0, .nil⟩ with
    | none => rw [ec] at e; cases e
    | some p =>
      obtain ⟨v, h1⟩ := p
      rw [ec] at e
      simp only [Option.map_some, Option.some.injEq] at e
      subst e
      have ha : args' = [] := by have := hv.1; simp at this; exact List.eq_nil_of_length_eq_zero this.symm
      subst ha
      refine (hc (baseAt w) f [] _ _ _ ec (fun _ => none) w [] sim_empty (.nil _)).mono fun x w' hx => ?_
      obtain ⟨ρ', v', rfl, hp, hv'⟩ := hx
      cases hv'
      have same : ∀ b, b < w.heap.size → w'.heap[b]? = w.heap[b]? := fun b hb => hp.frame b hb fun i x o K hi => (by simp [H.get, Tr.get_nil] at hi)
      have bd : base.n ≤ w.heap.size := hs.based
      refine ⟨ρ, .bool true, rfl, ⟨.refl ρ, ⟨hs.dom, Nat.le_trans hs.based hp.size, fun b hb => ?_, fun i x hi => ?_, hs.apart⟩, Nat.le_refl _, hp.size, hp.os, hp.tape, hp.output, fun b hb _ => same b hb, fun i x b o K hi hb _ => .inr ⟨i, x, o, K, hi, hb, id⟩⟩, .bool true⟩
      · rw [same b (Nat.lt_of_lt_of_le hb bd)]; exact hs.still b hb
      · obtain ⟨b, o, K, obj, h1, h2, h3⟩ := hs.blk i x hi
        exact ⟨b, o, K, obj, h1, by rw [same b (Array.getElem?_eq_some_iff.1 h2).1]; exact h2, h3⟩
end Go.Ev
