/-
  The pure operations: the model does what the evaluator does.
-/
import Derived.Test.YtofgaidlepmcmaaGreatDoorEvF
import Derived.Laws.Entries
namespace Go.Ev
open Go

section
variable {R : Type} {P : Program}

theorem pureSem_run {α : Type} {P : Program} {s : Sem α} {v : α} (h : pureSem P s = some v) (w : World) : s.run P w = .ok v w := by
  induction s with
  | pure a => simp [pureSem] at h; subst h; rfl
  | program k ih => exact ih P h
  | mark m k ih => exact ih h
  | _ => simp [pureSem] at h

theorem pureSem_bind {α β : Type} {P : Program} (x : Sem α) (f : α → Sem β) : pureSem P (x >>= f) = (pureSem P x).bind fun a => pureSem P (f a) := by
  show pureSem P (x.bind f) = _
  induction x with
  | pure a => rfl
  | program k ih => exact ih P
  | mark m k ih => exact ih
  | _ => rfl

theorem pureSem_pure {α : Type} {P : Program} (a : α) : pureSem P (Pure.pure a : Sem α) = some a := rfl
theorem pureSem_underlying {P : Program} (t : TypeId) : pureSem P (underlying t) = P.underlying t := by
  unfold underlying
  rw [pureSem_bind]
  show (some P).bind _ = _
  simp only [Option.bind_some]
  cases P.underlying t <;> rfl
theorem pureSem_typeInfo {P : Program} (t : TypeId) : pureSem P (typeInfo t) = P.info? t := by
  unfold typeInfo
  rw [pureSem_bind]
  show (some P).bind _ = _
  simp only [Option.bind_some]
  cases P.info? t <;> rfl
theorem pureSem_sizeOf {P : Program} (t : TypeId) : pureSem P (sizeOf t) = (P.info? t).map (·.size) := by
  unfold sizeOf
  rw [pureSem_bind, pureSem_typeInfo]
  cases P.info? t <;> rfl
theorem pureSem_isAgg {P : Program} (t : TypeId) : pureSem P (isAgg t) = (P.underlying t).map fun d => match d with | .struct _ => true | .array _ _ => true | _ => false := by
  unfold isAgg
  rw [pureSem_bind, pureSem_underlying]
  cases P.underlying t with
  | none => rfl
  | some d => cases d <;> rfl
theorem zeroA_spec {P : Program} {t : TypeId} {z : Value} (h : zeroA P t = some z) : plainV 4 z = true ∧ isTup z = false ∧ ∃ i, P.info? t = some i ∧ i.zero = some z := by
  unfold zeroA at h
  split at h
  · rename_i i hi
    split at h
    · rename_i z' hz
      cases hp : (plainV 4 z' && !isTup z') with
      | false => rw [hp] at h; cases h
      | true =>
        rw [hp] at h
        simp only [cond_true, Option.some.injEq] at h
        subst h
        simp only [Bool.and_eq_true, Bool.not_eq_true'] at hp
        exact ⟨hp.1, hp.2, i, hi, hz⟩
    · cases h
  · cases h
theorem pureSem_zeroValue {P : Program} {t : TypeId} {z : Value} (h : zeroA P t = some z) : pureSem P (zeroValue t) = some z := by
  obtain ⟨_, _, i, hi, hz⟩ := zeroA_spec h
  unfold zeroValue
  rw [pureSem_bind, pureSem_typeInfo, hi]
  show pureSem P (match i.zero with | some v => Pure.pure v | none => _) = _
  rw [hz]; rfl

/-! ### the evaluator's steps -/
theorem optK_some {α : Type} {x : Option α} {K : α → Option R} {r : R} (h : optK x K = some r) : ∃ v, x = some v ∧ K v = some r := by
  cases x with
  | none => cases h
  | some v => exact ⟨v, rfl, h⟩
theorem plK_some {x : Option Value} {K : Value → Option R} {r : R} (h : plK x K = some r) : ∃ v, x = some v ∧ plainV 4 v = true ∧ K v = some r := by
  cases x with
  | none => cases h
  | some v =>
    simp only [plK] at h
    cases hp : plainV 4 v with
    | false => rw [hp] at h; cases h
    | true => rw [hp] at h; exact ⟨v, rfl, hp, h⟩
theorem ifK_some {c : Prop} [Decidable c] {k : Option R} {r : R} (h : ifK c k = some r) : c ∧ k = some r := by
  unfold ifK at h
  split at h
  · exact ⟨‹_›, h⟩
  · cases h
theorem castI_some {k : IntKind} {v : Value} {K : Int → Option R} {r : R} (h : castI k v K = some r) : ∃ n, v = .int k n ∧ K n = some r := by
  unfold castI at h
  split at h
  · split at h
    · rename_i e; subst e; exact ⟨_, rfl, h⟩
    · cases h
  · cases h
theorem castB_some {v : Value} {K : Bool → Option R} {r : R} (h : castB v K = some r) : ∃ b, v = .bool b ∧ K b = some r := by
  unfold castB at h
  split at h
  · rename_i b
    cases b with
    | true => exact ⟨true, rfl, h⟩
    | false => exact ⟨false, rfl, h⟩
  · cases h
theorem castV_some {v : Value} {K : Bool → Option R} {r : R} (h : castV v K = some r) : ∃ b, v = .bool b ∧ K b = some r := by
  unfold castV at h
  split at h
  · exact ⟨_, rfl, h⟩
  · cases h
theorem castS_some {v : Value} {K : ByteArray → Option R} {r : R} (h : castS v K = some r) : ∃ s, v = .string s ∧ K s = some r := by
  unfold castS at h
  split at h
  · exact ⟨_, rfl, h⟩
  · cases h
theorem castP_some {v : Value} {K : Option Addr → Option R} {r : R} (h : castP v K = some r) : ∃ a, v = .pointer a ∧ K a = some r := by
  unfold castP at h
  split at h
  · exact ⟨_, rfl, h⟩
  · cases h
theorem castSl_some {v : Value} {K : Option Addr → Nat → Nat → Option R} {r : R} (h : castSl v K = some r) : ∃ a n c, v = .slice a n c ∧ K a n c = some r := by
  unfold castSl at h
  split at h
  · exact ⟨_, _, _, rfl, h⟩
  · cases h
theorem castA_some {v : Value} {K : Array Value → Option R} {r : R} (h : castA v K = some r) : ∃ cs, v = .agg cs ∧ K cs = some r := by
  unfold castA at h
  split at h
  · exact ⟨_, rfl, h⟩
  · cases h
theorem castD_some {d : TypeDesc} {v : Value} {K : Value → Option R} {r : R} (h : castD d v K = some r) : K v = some r := by
  unfold castD at h
  split at h
  · obtain ⟨_, e, h2⟩ := castI_some h; subst e; exact h2
  · obtain ⟨_, e, h2⟩ := castV_some h; subst e; exact h2
  · obtain ⟨_, e, h2⟩ := castS_some h; subst e; exact h2
  · obtain ⟨_, e, h2⟩ := castP_some h; subst e; exact h2
  · obtain ⟨_, _, _, e, h2⟩ := castSl_some h; subst e; exact h2
  · obtain ⟨_, e, h2⟩ := castA_some h; subst e; exact h2
  · obtain ⟨_, e, h2⟩ := castA_some h; subst e; exact h2
  · exact h
theorem castTup_some {v : Value} {K : List Value → Option R} {r : R} (h : castTup v K = some r) : ∃ vs, v = .tuple vs ∧ K vs.toList = some r := by
  unfold castTup at h
  split at h
  · exact ⟨_, rfl, h⟩
  · cases h
theorem castDs_some : ∀ {ds : List (Option TypeDesc)} {l : List Value} {K : List Value → Option R} {r : R}, castDs ds l K = some r → K l = some r := by
  intro ds
  induction ds with
  | nil =>
    intro l K r h
    simp only [castDs, nilK] at h
    split at h
    · exact h
    · cases h
  | cons d ds ih =>
    intro l K r h
    cases d with
    | none => simp [castDs] at h
    | some d =>
      simp only [castDs, headK] at h
      split at h
      · exact ih (K := fun r => K (_ :: r)) (castD_some h)
      · cases h
theorem castT_some {t : TypeId} {v : Value} {K : Value → Option R} {r : R} (h : castT P t v K = some r) : K v = some r := by
  unfold castT at h
  split at h
  · split at h
    · exact h
    · obtain ⟨vs, rfl, h2⟩ := castTup_some h
      have := castDs_some h2
      simpa using this
  · exact castD_some h
  · cases h
theorem addrK_some {v : Value} {K : Nat → Nat → Option R} {r : R} (h : addrK v K = some r) : ∃ i o, v = .pointer (some ⟨i, o, none⟩) ∧ K i o = some r := by
  unfold addrK at h
  split at h
  · exact ⟨_, _, rfl, h⟩
  · cases h

/-- The operands stand to each other. -/
def ORel (ρ : Rho) (env : Env) (ev : Operand → Value) (xs : Array Operand) : Prop := ∀ x ∈ xs, ∀ u, opnd env x = some u → VR ρ u (ev x)

theorem opnds_rel {ρ : Rho} {env : Env} {ev : Operand → Value} : ∀ {xs : List Operand} {vs : List Value}, opnds env xs = some vs →
    (∀ x ∈ xs, ∀ u, opnd env x = some u → VR ρ u (ev x)) → VRs ρ vs (xs.map ev) := by
  intro xs
  induction xs with
  | nil => intro vs h _; simp [opnds] at h; subst h; exact .nil ρ
  | cons x r ih =>
    intro vs h hr
    simp only [opnds] at h
    split at h
    · rename_i v hv
      split at h
      · rename_i vs' hvs
        cases h
        exact .cons (hr x (List.mem_cons_self ..) v hv) (ih hvs fun y hy => hr y (List.mem_cons_of_mem _ hy))
      · cases h
    · cases h

/-- Parts that stand to each other. -/
def PRel (ρ : Rho) (l l' : List (Nat × Value)) : Prop := l.map (·.1) = l'.map (·.1) ∧ VRs ρ (l.map (·.2)) (l'.map (·.2))

theorem parts_rel {ρ : Rho} {env : Env} {ev : Operand → Value} : ∀ {xs : List (Nat × Operand)} {vs : List (Nat × Value)}, parts env xs = some vs →
    (∀ x ∈ xs.map (·.2), ∀ u, opnd env x = some u → VR ρ u (ev x)) → PRel ρ vs (xs.map fun p => (p.1, ev p.2)) := by
  intro xs
  induction xs with
  | nil => intro vs h _; simp [parts] at h; subst h; exact ⟨rfl, .nil ρ⟩
  | cons x r ih =>
    intro vs h hr
    obtain ⟨i, x⟩ := x
    simp only [parts] at h
    split at h
    · rename_i v hv
      split at h
      · rename_i vs' hvs
        cases h
        obtain ⟨h1, h2⟩ := ih hvs fun y hy => hr y (by simp only [List.map_cons]; exact List.mem_cons_of_mem _ hy)
        exact ⟨by simp [h1], .cons (hr x (by simp) v hv) h2⟩
      · cases h
    · cases h

theorem foldl_set_rel {ρ : Rho} {off : Nat} : ∀ (n : Nat) (xs xs' : List Value) (k : Nat) (cs cs' : Array Value), VRs ρ xs xs' → VRs ρ cs.toList cs'.toList → xs.length = n →
    VRs ρ ((xs.zipIdx k).foldl (fun (cs : Array Value) (p : Value × Nat) => cs.setIfInBounds (off + p.2) p.1) cs).toList
      ((xs'.zipIdx k).foldl (fun (cs : Array Value) (p : Value × Nat) => cs.setIfInBounds (off + p.2) p.1) cs').toList := by
  intro n
  induction n with
  | zero =>
    intro xs xs' k cs cs' hx hc hn
    have h1 : xs = [] := by simpa using hn
    have h2 : xs' = [] := by have := hx.1; rw [h1] at this; simpa using this.symm
    subst h1; subst h2; exact hc
  | succ n ih =>
    intro xs xs' k cs cs' hx hc hn
    match xs, xs', hx with
    | [], _, _ => simp at hn
    | x :: r, [], hx => have := hx.1; simp at this
    | x :: r, x' :: r', hx =>
      simp only [List.zipIdx_cons, List.foldl_cons]
      refine ih r r' (k + 1) _ _ hx.tail ?_ (by simpa using hn)
      simp only [Array.toList_setIfInBounds]
      exact hc.set _ hx.head

theorem foldl_set_size (off : Nat) : ∀ (xs : List (Value × Nat)) (cs : Array Value),
    (xs.foldl (fun (cs : Array Value) (p : Value × Nat) => cs.setIfInBounds (off + p.2) p.1) cs).size = cs.size := by
  intro xs
  induction xs with
  | nil => intro cs; rfl
  | cons x r ih => intro cs; simp only [List.foldl_cons]; rw [ih]; simp

theorem foldl_set_one (off : Nat) : ∀ (xs : List (Value × Nat)) (cs : Array Value), (∀ p ∈ xs, p.1.oneCell' = true) → (∀ v ∈ cs.toList, v.oneCell' = true) →
    ∀ v ∈ (xs.foldl (fun (cs : Array Value) (p : Value × Nat) => cs.setIfInBounds (off + p.2) p.1) cs).toList, v.oneCell' = true := by
  intro xs
  induction xs with
  | nil => intro cs _ h; exact h
  | cons x r ih =>
    intro cs h1 h2
    simp only [List.foldl_cons]
    refine ih _ (fun p hp => h1 p (List.mem_cons_of_mem _ hp)) ?_
    intro v hv
    simp only [Array.toList_setIfInBounds] at hv
    rcases List.mem_or_eq_of_mem_set hv with hv | hv
    · exact h2 v hv
    · subst hv; exact h1 x (List.mem_cons_self ..)

theorem fill_rel {ρ : Rho} {place : Nat → Option (Nat × Nat)} : ∀ (n : Nat) (l l' : List (Nat × Value)) (cells cells' : Array Value) {cs : Array Value}, l.length = n →
    PRel ρ l l' → VRs ρ cells.toList cells'.toList → (∀ v ∈ cells.toList, v.oneCell' = true) → (∀ p ∈ l, isTup p.2 = false) → Instr.fill place cells l = some cs →
    ∃ cs', Instr.fill place cells' l' = some cs' ∧ VRs ρ cs.toList cs'.toList ∧ ∀ v ∈ cs.toList, v.oneCell' = true := by
  intro n
  induction n with
  | zero =>
    intro l l' cells cells' cs hn hp hc ho _ hf
    have h1 : l = [] := by simpa using hn
    have h2 : l' = [] := by have := hp.1; rw [h1] at this; simpa using this.symm
    subst h1; subst h2
    simp only [Instr.fill, Option.some.injEq] at hf
    subst hf
    exact ⟨cells', rfl, hc, ho⟩
  | succ n ih =>
    intro l l' cells cells' cs hn hp hc ho ht hf
    match l, l', hp with
    | [], _, _ => simp at hn
    | x :: r, [], hp => have := hp.1; simp at this
    | (i, v) :: r, (i', v') :: r', hp =>
      obtain ⟨h1, h2⟩ := hp
      simp only [List.map_cons, List.cons.injEq] at h1
      obtain ⟨rfl, h1⟩ := h1
      simp only [List.map_cons] at h2
      have hv := h2.head
      have hcell := hv.cells
      have hsz : v.cells.size = v'.cells.size := by simpa using hcell.1
      have hcs : cells.size = cells'.size := by simpa using hc.1
      simp only [Instr.fill] at hf ⊢
      cases hpl : place i with
      | none => rw [hpl] at hf; cases hf
      | some q =>
        obtain ⟨off, size⟩ := q
        rw [hpl] at hf
        simp only at hf ⊢
        rw [← hsz, ← hcs]
        split at hf
        · cases hf
        · rename_i hcond
          rw [if_neg hcond]
          refine ih r r' _ _ (by simpa using hn) ⟨h1, h2.tail⟩ ?_ ?_ (fun p hp => ht p (List.mem_cons_of_mem _ hp)) hf
          · have := foldl_set_rel (ρ := ρ) (off := off) _ v.cells.toList v'.cells.toList 0 cells cells' hcell hc rfl
            rw [← Array.foldl_toList, ← Array.foldl_toList, Array.toList_zipIdx, Array.toList_zipIdx]
            exact this
          · rw [← Array.foldl_toList, Array.toList_zipIdx]
            refine foldl_set_one off _ _ ?_ ho
            intro p hp
            have hm : p.1 ∈ v.cells.toList := by
              have := List.fst_mem_of_mem_zipIdx hp
              exact this
            exact hv.cells_one (ht (i, v) (List.mem_cons_self ..)) p.1 hm
end
end Go.Ev
