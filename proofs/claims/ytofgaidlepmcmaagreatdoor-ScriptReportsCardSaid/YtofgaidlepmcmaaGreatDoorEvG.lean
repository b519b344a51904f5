/-
  The pure operations, one by one.
-/
import Derived.Test.YtofgaidlepmcmaaGreatDoorEvE
namespace Go.Ev
open Go

section
variable {R : Type} {P : Program}

/-- What a pure operation comes to, in whatever world. -/
def PV (P : Program) (o : Oper) (env : Env) (v : Value) : Prop :=
  ∀ (ρ : Rho) (ev : Operand → Value), ORel ρ env ev o.op.operands → ∃ v', (∀ w, (execOp ev o).run P w = .ok (.value v') w) ∧ VR ρ v v'

theorem valRun {s : Sem Value} {v : Value} (h : pureSem P s = some v) (w : World) :
    ((do pure (.value (← s)) : Sem Next)).run P w = .ok (.value v) w := by
  simp only [Sem.run_bind, pureSem_run h w, Result.andThen_ok, Sem.run_pure]

theorem build_rel {ρ : Rho} {t : TypeId} {z v : Value} {l l' : List (Nat × Value)} (hz : zeroA P t = some z) (h : pureSem P (Instr.build t l.toArray) = some v)
    (hp : PRel ρ l l') (ht : ∀ p ∈ l, isTup p.2 = false) : ∃ v', pureSem P (Instr.build t l'.toArray) = some v' ∧ VR ρ v v' := by
  obtain ⟨hz1, hz2, _⟩ := zeroA_spec hz
  have hzr : VR ρ z z := plainV_refl hz1
  have fin : ∀ (place : Nat → Option (Nat × Nat)) cs, Instr.fill place z.cells l.toArray.toList = some cs →
      ∃ cs', Instr.fill place z.cells l'.toArray.toList = some cs' ∧ VR ρ (.agg cs) (.agg cs') := by
    intro place cs hf
    obtain ⟨cs', h1, h2, h3⟩ := fill_rel (ρ := ρ) (place := place) l.length l l' z.cells z.cells rfl hp hzr.cells (hzr.cells_one hz2) ht hf
    exact ⟨cs', h1, .agg' h2 h3⟩
  unfold Instr.build at h ⊢
  rw [pureSem_bind, pureSem_zeroValue hz] at h ⊢
  simp only [Option.bind_some] at h ⊢
  rw [pureSem_bind, pureSem_underlying] at h ⊢
  cases hu : P.underlying t with
  | none => rw [hu] at h; cases h
  | some d =>
    rw [hu] at h
    simp only [Option.bind_some] at h ⊢
    cases d with
    | struct fields =>
      simp only at h ⊢
      rw [pureSem_bind] at h ⊢
      cases hpl : pureSem P (fields.mapM fun f => do pure (f.offset, ← sizeOf f.type)) with
      | none => rw [hpl] at h; cases h
      | some places =>
        rw [hpl] at h
        simp only [Option.bind_some] at h ⊢
        cases hf : Instr.fill (places[·]?) z.cells l.toArray.toList with
        | none => rw [hf] at h; simp [stuck, pureSem] at h
        | some cs =>
          obtain ⟨cs', h1, h2⟩ := fin (places[·]?) cs hf
          rw [hf] at h
          rw [h1]
          have h' : some (Value.agg cs) = some v := h
          cases h'
          exact ⟨.agg cs', rfl, h2⟩
    | array n e =>
      simp only at h ⊢
      rw [pureSem_bind, pureSem_sizeOf] at h ⊢
      cases hs : (P.info? e).map (·.size) with
      | none => rw [hs] at h; cases h
      | some size =>
        rw [hs] at h
        simp only [Option.bind_some] at h ⊢
        cases hf : Instr.fill (fun i => some (i * size, size)) z.cells l.toArray.toList with
        | none => rw [hf] at h; simp [stuck, pureSem] at h
        | some cs =>
          obtain ⟨cs', h1, h2⟩ := fin (fun i => some (i * size, size)) cs hf
          rw [hf] at h
          rw [h1]
          have h' : some (Value.agg cs) = some v := h
          cases h'
          exact ⟨.agg cs', rfl, h2⟩
    | _ => simp [stuck, pureSem] at h

theorem part_rel {ρ : Rho} {t : TypeId} {v : Value} {cs cs' : Array Value} {off : Nat} (h : pureSem P (part t cs off) = some v) (hc : VRs ρ cs.toList cs'.toList)
    (ho : ∀ x ∈ cs.toList, x.oneCell' = true) : ∃ v', pureSem P (part t cs' off) = some v' ∧ VR ρ v v' := by
  unfold part at h ⊢
  rw [pureSem_bind] at h ⊢
  cases hb : pureSem P (isAgg t) with
  | none => rw [hb] at h; cases h
  | some b =>
    rw [hb] at h
    simp only [Option.bind_some] at h ⊢
    cases b with
    | true =>
      simp only [↓reduceIte] at h ⊢
      rw [pureSem_bind, pureSem_sizeOf] at h ⊢
      cases hs : (P.info? t).map (·.size) with
      | none => rw [hs] at h; cases h
      | some n =>
        rw [hs] at h
        have h' : some (Value.agg (cs.extract off (off + n))) = some v := h
        cases h'
        refine ⟨.agg (cs'.extract off (off + n)), rfl, .agg' ?_ ?_⟩
        · simp only [Array.toList_extract]
          simp only [List.extract_eq_take_drop]
          exact (hc.drop off).take _
        · intro x hx
          simp only [Array.toList_extract, List.extract_eq_take_drop] at hx
          exact ho x (List.mem_of_mem_drop (List.mem_of_mem_take hx))
    | false =>
      simp only [Bool.false_eq_true, ↓reduceIte] at h ⊢
      cases hg : cs[off]? with
      | none => rw [hg] at h; simp [stuck, pureSem] at h
      | some x =>
        rw [hg] at h
        have h' : some x = some v := h
        cases h'
        obtain ⟨x', h1, h2⟩ := hc.get (i := off) (x := v) (by simpa using hg)
        have h1' : cs'[off]? = some x' := by simpa using h1
        rw [h1']
        exact ⟨x', rfl, h2⟩

theorem sliceBound_run {w : World} {k : IntKind} {i : Int} {y : Nat} {c : BoundsCode} (h0 : 0 ≤ i) (h1 : i ≤ y) :
    (Instr.sliceBound (.int k i) y c).run P w = .ok i.toNat w := by
  unfold Instr.sliceBound
  simp only [Sem.run_bind, asIntOf, Sem.run_pure, Result.andThen_ok]
  rw [if_pos ⟨h0, h1⟩]; rfl

/-- The bounds of a slice expression that are in order. -/
theorem sliceBounds_run {w : World} {isSlice : Bool} {len cap : Nat} {lo hi : Option Value} {l h : Int}
    (hl : (lo = none ∧ l = 0) ∨ ∃ k, lo = some (.int k l)) (hh : (hi = none ∧ h = len) ∨ ∃ k, hi = some (.int k h))
    (h0 : 0 ≤ l) (h1 : l ≤ h) (h2 : h ≤ cap) : (Instr.sliceBounds isSlice len cap lo hi none).run P w = .ok (l.toNat, h.toNat, cap) w := by
  unfold Instr.sliceBounds
  rcases hh with ⟨rfl, rfl⟩ | ⟨kh, rfl⟩ <;> rcases hl with ⟨rfl, rfl⟩ | ⟨kl, rfl⟩ <;>
    simp only [Sem.run_bind, Sem.run_pure, Result.andThen_ok, Option.isSome_none, Bool.false_eq_true, ↓reduceIte, Int.toNat_natCast, Int.toNat_zero]
  · rw [sliceBound_run h0 (by omega)]; rfl
  · rw [sliceBound_run (by omega) h2]; rfl
  · rw [sliceBound_run (by omega) h2]
    simp only [Result.andThen_ok]
    rw [sliceBound_run h0 (by omega)]; rfl

theorem boundK_some {d : Int} {x : Option Value} {K : Int → Option R} {r : R} (h : boundK d x K = some r) :
    ∃ n, ((x = none ∧ n = d) ∨ ∃ k, x = some (.int k n)) ∧ K n = some r := by
  unfold boundK at h
  split at h
  · exact ⟨d, .inl ⟨rfl, rfl⟩, h⟩
  · exact ⟨_, .inr ⟨_, rfl⟩, h⟩
  · cases h

/-- Optional operands that stand to each other. -/
def OptR (ρ : Rho) (x x' : Option Value) : Prop :=
  match x, x' with
  | none, none => True
  | some v, some v' => VR ρ v v'
  | _, _ => False
theorem OptR.bound {ρ : Rho} {x x' : Option Value} {d n : Int} (h : OptR ρ x x') (hx : (x = none ∧ n = d) ∨ ∃ k, x = some (.int k n)) : (x' = none ∧ n = d) ∨ ∃ k, x' = some (.int k n) := by
  rcases hx with ⟨rfl, rfl⟩ | ⟨k, rfl⟩
  · cases x' with
    | none => exact .inl ⟨rfl, rfl⟩
    | some v => exact h.elim
  · cases x' with
    | none => exact h.elim
    | some v => cases h; exact .inr ⟨k, rfl⟩
theorem optO_rel {ρ : Rho} {env : Env} {ev : Operand → Value} {x : Option Operand} {v : Option Value} (h : optO env x = some v)
    (hr : ∀ y ∈ x.toArray, ∀ u, opnd env y = some u → VR ρ u (ev y)) : OptR ρ v (x.map ev) := by
  unfold optO at h
  split at h
  · cases h; exact trivial
  · split at h
    · cases h; exact hr _ (by simp) _ ‹_›
    · cases h

theorem underlying_run {t : TypeId} {d : TypeDesc} (h : P.underlying t = some d) (w : World) : (underlying t).run P w = .ok d w := run_underlying h w
theorem sizeOf_run {t : TypeId} {n : Nat} (h : cellsOf P t = some n) (w : World) : (sizeOf t).run P w = .ok n w :=
  pureSem_run (by rw [pureSem_sizeOf]; exact h) w

theorem sliceA_sound {t : TypeId} {v : Value} {lo hi : Option Value} {K : Value → Option R} {r : R} (h : sliceA P t v lo hi K = some r) :
    ∃ u, K u = some r ∧ ∀ (ρ : Rho) v' lo' hi', VR ρ v v' → OptR ρ lo lo' → OptR ρ hi hi' → ∃ u', (∀ w, (Instr.sliceAt t v' lo' hi' none).run P w = .ok u' w) ∧ VR ρ u u' := by
  unfold sliceA at h
  split at h
  · rename_i hu
    obtain ⟨s, hv0, h2⟩ := castS_some h
    obtain ⟨l, hl, h3⟩ := boundK_some h2
    obtain ⟨hh, hhh, h4⟩ := boundK_some h3
    obtain ⟨⟨c0, c1, c2⟩, h5⟩ := ifK_some h4
    subst hv0
    refine ⟨_, h5, fun ρ v' lo' hi' hv hlo hhi => ?_⟩
    cases hv
    refine ⟨.string (s.extract l.toNat hh.toNat), fun w => ?_, .string _⟩
    unfold Instr.sliceAt Instr.slice
    simp only [Sem.run_bind, underlying_run hu, Result.andThen_ok, Option.isSome_none, Bool.false_eq_true, ↓reduceIte]
    rw [sliceBounds_run (hlo.bound hl) (hhi.bound hhh) c0 c1 c2]
    rfl
  · rename_i e hu
    have at_ : ∀ v' lo' hi' w, (Instr.sliceAt t v' lo' hi' none).run P w = (Instr.slice t v' lo' hi' none).run P w := by
      intro v' lo' hi' w
      unfold Instr.sliceAt
      simp only [Sem.run_bind, underlying_run hu, Result.andThen_ok]
    split at h
    · obtain ⟨l, hl, h3⟩ := boundK_some h
      obtain ⟨hh, hhh, h4⟩ := boundK_some h3
      obtain ⟨⟨c0, c1⟩, h5⟩ := ifK_some h4
      obtain ⟨sz, hsz, h6⟩ := optK_some h5
      subst c0; subst c1
      refine ⟨_, h6, fun ρ v' lo' hi' hv hlo hhi => ?_⟩
      cases hv
      refine ⟨.slice none 0 0, fun w => ?_, .snil⟩
      rw [at_]
      unfold Instr.slice
      simp only [Sem.run_bind, underlying_run hu, Result.andThen_ok]
      rw [sliceBounds_run (hlo.bound hl) (hhi.bound hhh) (Int.le_refl _) (Int.le_refl _) (by simp)]
      simp [sizeOf_run hsz]
    · rename_i i o n st
      obtain ⟨l, hl, h3⟩ := boundK_some h
      obtain ⟨hh, hhh, h4⟩ := boundK_some h3
      obtain ⟨⟨c0, c1, c2⟩, h5⟩ := ifK_some h4
      obtain ⟨sz, hsz, h6⟩ := optK_some h5
      obtain ⟨c3, h7⟩ := ifK_some h6
      subst c3
      refine ⟨_, h7, fun ρ v' lo' hi' hv hlo hhi => ?_⟩
      cases hv with
      | slice hr hlen hK =>
        rename_i b c Kk cap
        have hb := fun w => sliceBounds_run (P := P) (w := w) (isSlice := true) (cap := cap) (hlo.bound hl) (hhi.bound hhh) c0 c1 (by omega)
        have run : ∀ w, (Instr.sliceAt t (.slice (some ⟨b, c + o, none⟩) n cap) lo' hi' none).run P w =
            .ok (.slice (if cap = l.toNat then some ⟨b, c + o, none⟩ else some ⟨b, c + o + l.toNat * sz, none⟩) (hh.toNat - l.toNat) (cap - l.toNat)) w := by
          intro w
          rw [at_]
          unfold Instr.slice
          simp only [Sem.run_bind, underlying_run hu, Result.andThen_ok]
          rw [hb w]
          simp only [Result.andThen_ok, sizeOf_run hsz, Option.map_some, add_plain, Sem.run_pure]
        have e1 : (hh - l).toNat = hh.toNat - l.toNat := by omega
        by_cases hcap : cap = l.toNat
        · refine ⟨_, run, ?_⟩
          rw [if_pos hcap, e1]
          have e2 : hh.toNat - l.toNat = 0 := by omega
          have e3 : cap - l.toNat = 0 := by omega
          rw [e2, e3]
          exact .sempty
        · refine ⟨_, run, ?_⟩
          rw [if_neg hcap, e1, Nat.add_assoc]
          refine .slice hr (by omega) ?_
          have e4 : l.toNat + (cap - l.toNat) = cap := by omega
          have e5 : l.toNat * sz + (cap - l.toNat) * sz = cap * sz := by rw [← Nat.add_mul, e4]
          omega
      | sempty =>
        rename_i a
        have hb := fun w => sliceBounds_run (P := P) (w := w) (isSlice := true) (len := 0) (cap := 0) (hlo.bound hl) (hhi.bound hhh) c0 c1 (by simpa using c2)
        have hl0 : l = 0 := by omega
        have hh0 : hh = 0 := by omega
        subst hl0; subst hh0
        refine ⟨.slice (some a) 0 0, fun w => ?_, ?_⟩
        · rw [at_]
          unfold Instr.slice
          simp only [Sem.run_bind, underlying_run hu, Result.andThen_ok]
          rw [hb w]
          simp [sizeOf_run hsz]
        · exact .sempty
    · cases h
  · cases h

theorem asIntOf_run (k : IntKind) (n : Int) (w : World) : (asIntOf (.int k n)).run P w = .ok (k, n) w := rfl

theorem indexAddrA_sound {t : TypeId} {v ix : Value} {K : Value → Option R} {r : R} (h : indexAddrA P t v ix K = some r) :
    ∃ u, K u = some r ∧ ∀ (ρ : Rho) v' ix', VR ρ v v' → VR ρ ix ix' → ∃ u', (∀ w, (Instr.indexAt t v' ix').run P w = .ok u' w) ∧ VR ρ u u' := by
  unfold indexAddrA at h
  split at h
  · rename_i k n
    split at h
    · rename_i e hu
      split at h
      · rename_i i o len st
        obtain ⟨sz, hsz, h1⟩ := optK_some h
        obtain ⟨c0, h2⟩ := ifK_some h1
        obtain ⟨⟨c1, c2⟩, h3⟩ := ifK_some h2
        subst c0
        refine ⟨_, h3, fun ρ v' ix' hv hi => ?_⟩
        cases hi
        cases hv with
        | slice hr hlen hK =>
          rename_i b c Kk cap
          refine ⟨.pointer (some ⟨b, c + (o + n.toNat * sz), none⟩), fun w => ?_, .ptr hr⟩
          unfold Instr.indexAt
          simp only [Sem.run_bind, asIntOf_run, underlying_run hu, Result.andThen_ok, Sem.run_pure]
          rw [if_pos ⟨c1, c2⟩]
          simp only [Sem.run_bind, sizeOf_run hsz, Result.andThen_ok, add_plain, Sem.run_pure, Nat.add_assoc]
        | sempty => omega
      · cases h
    · rename_i len e hu
      obtain ⟨sz, hsz, h1⟩ := optK_some h
      obtain ⟨i, o, hv0, h2⟩ := addrK_some h1
      obtain ⟨⟨c1, c2⟩, h3⟩ := ifK_some h2
      subst hv0
      refine ⟨_, h3, fun ρ v' ix' hv hi => ?_⟩
      cases hi
      cases hv with
      | ptr hr =>
        rename_i b c Kk
        refine ⟨.pointer (some ⟨b, c + (o + n.toNat * sz), none⟩), fun w => ?_, .ptr hr⟩
        unfold Instr.indexAt
        simp only [Sem.run_bind, asIntOf_run, underlying_run hu, Result.andThen_ok, Sem.run_pure, Instr.sureAddr]
        rw [if_pos ⟨c1, c2⟩]
        simp only [Sem.run_bind, sizeOf_run hsz, Result.andThen_ok, add_plain, Sem.run_pure, Nat.add_assoc]
    · cases h
  · cases h

theorem indexA_sound {t : TypeId} {v ix : Value} {K : Value → Option R} {r : R} (h : indexA P t v ix K = some r) :
    ∃ u, K u = some r ∧ ∀ (ρ : Rho) v' ix', VR ρ v v' → VR ρ ix ix' → ∃ u', (∀ w, (Instr.index t v' ix').run P w = .ok u' w) ∧ VR ρ u u' := by
  unfold indexA at h
  split at h
  · rename_i k n
    split at h
    · rename_i hu
      obtain ⟨s, hv0, h1⟩ := castS_some h
      unfold idxS at h1
      split at h1
      · rename_i b hb
        subst hv0
        refine ⟨_, h1, fun ρ v' ix' hv hi => ?_⟩
        cases hi; cases hv
        refine ⟨_, fun w => ?_, .int _ _⟩
        unfold Instr.index
        simp only [Sem.run_bind, asIntOf_run, underlying_run hu, Result.andThen_ok]
        rw [hb]; rfl
      · cases h1
    · rename_i len e hu
      obtain ⟨cs, hv0, h1⟩ := castA_some h
      obtain ⟨⟨c1, c2⟩, h2⟩ := ifK_some h1
      obtain ⟨sz, hsz, h3⟩ := optK_some h2
      obtain ⟨u, hpart, h4⟩ := optK_some h3
      subst hv0
      refine ⟨u, h4, fun ρ v' ix' hv hi => ?_⟩
      cases hi
      obtain ⟨cs', rfl, hcs, ho⟩ := hv.agg_inv
      obtain ⟨u', h5, h6⟩ := part_rel hpart hcs ho
      refine ⟨u', fun w => ?_, h6⟩
      unfold Instr.index
      simp only [Sem.run_bind, asIntOf_run, underlying_run hu, Result.andThen_ok]
      rw [if_pos ⟨c1, c2⟩]
      simp only [Sem.run_bind, sizeOf_run hsz, Result.andThen_ok]
      exact pureSem_run h5 w
    · cases h
  · cases h

theorem fieldAddrA_sound {s : TypeId} {v : Value} {f : Nat} {K : Value → Option R} {r : R} (h : fieldAddrA P s v f K = some r) :
    ∃ u, K u = some r ∧ ∀ (ρ : Rho) v', VR ρ v v' → ∃ u', (∀ w, (Instr.fieldAt s v' f).run P w = .ok u' w) ∧ VR ρ u u' := by
  unfold fieldAddrA at h
  split at h
  · rename_i fs hu
    split at h
    · rename_i fl hf
      split at h
      · rename_i m hc
        obtain ⟨i, o, hv0, h1⟩ := addrK_some h
        subst hv0
        refine ⟨_, h1, fun ρ v' hv => ?_⟩
        cases hv with
        | ptr hr =>
          rename_i b c Kk
          refine ⟨.pointer (some ⟨b, c + (o + fl.offset), none⟩), fun w => ?_, .ptr hr⟩
          unfold Instr.fieldAt
          simp only [Sem.run_bind, underlying_run hu, Result.andThen_ok]
          rw [hf]
          simp only [Sem.run_bind, Instr.sureAddr, Sem.run_pure, Result.andThen_ok, fieldPlace, sizeOf_run hc]
          rw [if_neg (by omega)]
          simp only [Sem.run_pure, Result.andThen_ok, add_plain, Nat.add_assoc]
      · cases h
    · cases h
  · cases h

theorem field_rel {ρ : Rho} {t : TypeId} {f : Nat} {u : Value} {cs cs' : Array Value} (h : pureSem P (Instr.field t (.agg cs) f) = some u) (hc : VRs ρ cs.toList cs'.toList)
    (ho : ∀ x ∈ cs.toList, x.oneCell' = true) : ∃ u', pureSem P (Instr.field t (.agg cs') f) = some u' ∧ VR ρ u u' := by
  unfold Instr.field at h ⊢
  rw [pureSem_bind, pureSem_underlying] at h ⊢
  cases hu : P.underlying t with
  | none => rw [hu] at h; cases h
  | some d =>
    rw [hu] at h
    simp only [Option.bind_some] at h ⊢
    cases d with
    | struct fields =>
      simp only at h ⊢
      cases hf : fields[f]? with
      | none => rw [hf] at h; simp [stuck, pureSem] at h
      | some fl =>
        rw [hf] at h
        simp only at h ⊢
        rw [pureSem_bind] at h ⊢
        have h1 : pureSem P (part fl.type cs fl.offset) = some u := h
        obtain ⟨u', h2, h3⟩ := part_rel h1 hc ho
        exact ⟨u', h2, h3⟩
    | _ => simp [stuck, pureSem] at h

theorem lenA_sound {t : TypeId} {v : Value} {K : Value → Option R} {r : R} (h : lenA P t v K = some r) :
    ∃ n : Int, K (.int .i64 n) = some r ∧ ∀ (ρ : Rho) v' (ts : Array TypeId) ty, ts[0]? = some t → VR ρ v v' → ∀ w, (Builtin.len_ ts ty #[v']).run P w = .ok (.int .i64 n) w := by
  unfold lenA at h
  split at h
  · rename_i hu
    obtain ⟨s, hv0, h1⟩ := castS_some h
    subst hv0
    refine ⟨_, h1, fun ρ v' ts ty ht hv w => ?_⟩
    cases hv
    unfold Builtin.len_
    simp only [ht, List.size_toArray, List.length_cons, List.length_nil, Nat.lt_add_one, getElem?_pos, List.getElem_toArray, List.getElem_cons_zero, Sem.run_bind, underlying_run hu, Result.andThen_ok]
    rfl
  · rename_i e hu
    obtain ⟨a, n, c, hv0, h1⟩ := castSl_some h
    subst hv0
    refine ⟨_, h1, fun ρ v' ts ty ht hv w => ?_⟩
    cases hv <;> (
      unfold Builtin.len_
      simp only [ht, List.size_toArray, List.length_cons, List.length_nil, Nat.lt_add_one, getElem?_pos, List.getElem_toArray, List.getElem_cons_zero, Sem.run_bind, underlying_run hu, Result.andThen_ok]
      rfl)
  · rename_i n e hu
    refine ⟨_, h, fun ρ v' ts ty ht hv w => ?_⟩
    unfold Builtin.len_
    simp only [ht, List.size_toArray, List.length_cons, List.length_nil, Nat.lt_add_one, getElem?_pos, List.getElem_toArray, List.getElem_cons_zero, Sem.run_bind, underlying_run hu, Result.andThen_ok]
    rfl
  · cases h
end
end Go.Ev
