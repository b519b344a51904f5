/-
  Operations that read, operations that make a row.
-/
import Derived.Test.YtfcpmipdikjgpaaEvH
namespace Go.Ev
open Go

section
variable {R : Type} {P : Program}

theorem sureAddr_run (a : Addr) (w : World) : (Instr.sureAddr (.pointer (some a))).run P w = .ok a w := rfl

theorem isAgg_run {t : TypeId} {b : Bool} (h : aggT P t = some b) (w : World) : (isAgg t).run P w = .ok b w := by
  unfold aggT at h
  unfold isAgg
  split at h
  · rename_i hu; cases h; simp only [Sem.run_bind, underlying_run hu, Result.andThen_ok]; rfl
  · rename_i hu; cases h; simp only [Sem.run_bind, underlying_run hu, Result.andThen_ok]; rfl
  · rename_i d hn1 hn2 hu
    cases h
    simp only [Sem.run_bind, underlying_run hu, Result.andThen_ok]
    cases d <;> first | exact absurd rfl (hn1 _) | exact absurd rfl (hn2 _ _) | rfl
  · cases h

theorem ldV_exec {ρ : Rho} {base : Nat} {h : H} {w : World} {t : TypeId} {i o : Nat} {v a' : Value} (hs : Sim ρ base h w) (hl : ldV P t i o h = some v)
    (ha : VR ρ (.pointer (some ⟨i, o, none⟩)) a') : ∃ p v', a' = .pointer (some p) ∧ (loadVar t p).run P w = .ok v' w ∧ VR ρ v v' := by
  cases ha with
  | ptr hr =>
    rename_i b c K
    unfold ldV at hl
    split at hl
    · rename_i hagg
      split at hl
      · rename_i n hn
        split at hl
        · rename_i l hc
          cases hl
          obtain ⟨b', c', K', vs', hr', hlen, hcell, hv, ho⟩ := ldCells_sim hs hc
          rw [hr] at hr'; cases hr'
          refine ⟨_, .agg vs'.toArray, rfl, ?_, .agg' (by simpa using hv) (by simpa using ho)⟩
          unfold loadVar
          simp only [Sem.run_bind, isAgg_run hagg, Result.andThen_ok, ↓reduceIte, sizeOf_run hn]
          rw [← hlen, loadCells_run vs' hcell]
          rfl
        · cases hl
      · cases hl
    · rename_i hagg
      obtain ⟨b', c', K', v', hr', hcell, hv, _⟩ := ldCell_sim hs hl
      rw [hr] at hr'; cases hr'
      refine ⟨_, v', rfl, ?_, hv⟩
      unfold loadVar
      simp only [Sem.run_bind, isAgg_run hagg, Result.andThen_ok, Bool.false_eq_true, ↓reduceIte, run_load, hcell]
    · cases hl

theorem evLoad_sound {o : Oper} {env : Env} {h : H} {K : Nat → Nat → TypeId → Value → Option R} {r : R} (hh : evLoad P o env h K = some r) :
    ∃ i p t v x, o.op = .load t x ∧ opnd env x = some (.pointer (some ⟨i, p, none⟩)) ∧ ldV P t i p h = some v ∧ K i p t v = some r := by
  unfold evLoad at hh
  split at hh
  · rename_i t x ho
    obtain ⟨av, hav, h1⟩ := optK_some hh
    obtain ⟨i, p, he, h2⟩ := addrK_some h1
    obtain ⟨v, hv, h3⟩ := optK_some h2
    subst he
    exact ⟨i, p, t, v, x, ho, hav, hv, castT_some h3⟩
  · cases hh

theorem load_exec {ρ : Rho} {base : Nat} {h : H} {w : World} {o : Oper} {t : TypeId} {x : Operand} {i p : Nat} {v : Value} {ev : Operand → Value} (hs : Sim ρ base h w) (ho : o.op = .load t x)
    (hl : ldV P t i p h = some v) (ha : VR ρ (.pointer (some ⟨i, p, none⟩)) (ev x)) : ∃ v', (execOp ev o).run P w = .ok (.value v') w ∧ VR ρ v v' := by
  obtain ⟨q, v', e, h1, h2⟩ := ldV_exec hs hl ha
  refine ⟨v', ?_, h2⟩
  unfold execOp; rw [ho]
  simp only [e, Instr.loadAt, Sem.run_bind, sureAddr_run, Result.andThen_ok, h1, Sem.run_pure]

/-- What an operation that makes a row comes to. -/
def FV (P : Program) (o : Oper) (env : Env) (cs : List Value) (mk : Nat → Value) : Prop :=
  ∀ (ρ : Rho) (ev : Operand → Value), ORel ρ env ev o.op.operands → ∃ (C : Array Value) (e : TypeId) (f : Nat → Value),
    (∀ w, (execOp ev o).run P w = .ok (.value (f w.heap.size)) (w.alloc (.cells C e))) ∧
    (∀ (j : Nat) v, cs[j]? = some v → v.oneCell' = true ∧ ∃ v', C[j]? = some v' ∧ VR ρ v v') ∧
    ∀ (ρ' : Rho) i b, ρ' i = some (b, 0, C.size) → VR ρ' (mk i) (f b)

theorem newRow_run (e : TypeId) (C : Array Value) (w : World) : (newRow e C).run P w = .ok ⟨w.heap.size, 0, none⟩ (w.alloc (.cells C e)) := rfl

theorem rel_cells {ρ : Rho} {v v' : Value} (h : VR ρ v v') (ht : isTup v = false) : ∀ (j : Nat) u, v.cells.toList[j]? = some u → u.oneCell' = true ∧ ∃ u', v'.cells[j]? = some u' ∧ VR ρ u u' := by
  intro j u hj
  obtain ⟨u', h1, h2⟩ := h.cells.get hj
  exact ⟨h.cells_one ht u (List.mem_of_getElem? hj), u', by simpa using h1, h2⟩

theorem range_map_get {z : Array Value} {n j : Nat} (hj : j < n) (hz : 0 < z.size) : ((Array.range n).map (z[· % z.size]!))[j]? = z[j % z.size]? := by
  have hlt : j % z.size < z.size := Nat.mod_lt _ hz
  simp [hj, hlt]

theorem flatten_replicate_get {α : Type} (xs : List α) : ∀ (n j : Nat), j < n * xs.length → (List.replicate n xs).flatten[j]? = xs[j % xs.length]? := by
  intro n
  induction n with
  | zero => intro j h; omega
  | succ n ih =>
    intro j h
    rw [List.replicate_succ, List.flatten_cons]
    rcases Nat.lt_or_ge j xs.length with hj | hj
    · rw [List.getElem?_append_left hj, Nat.mod_eq_of_lt hj]
    · rw [List.getElem?_append_right hj, ih (j - xs.length) (by rw [Nat.succ_mul] at h; omega)]
      rw [Nat.mod_eq_sub_mod hj]

theorem evFresh_sound {o : Oper} {env : Env} {K : List Value → (Nat → Value) → Option R} {r : R} (h : evFresh P o env K = some r) :
    ∃ cs mk, K cs mk = some r ∧ FV P o env cs mk := by
  unfold evFresh at h
  split at h
  · rename_i t ho
    obtain ⟨z, hz, h1⟩ := optK_some h
    obtain ⟨z1, z2, _⟩ := zeroA_spec hz
    refine ⟨_, _, h1, fun ρ ev hr => ⟨z.cells, t, fun b => .pointer (some ⟨b, 0, none⟩), fun w => ?_, rel_cells (plainV_refl z1) z2, fun ρ' i b hb => ?_⟩⟩
    · unfold execOp; rw [ho]
      simp only [Instr.alloc, Sem.run_bind, pureSem_run (pureSem_zeroValue hz), Result.andThen_ok, newVar, newRow_run, Sem.run_pure]
    · have := VR.ptr (o := 0) hb; simpa using this
  · rename_i t x ho
    obtain ⟨v, hv, h1⟩ := optK_some h
    cases ht : isTup v with
    | true => rw [ht] at h1; cases h1
    | false =>
      rw [ht] at h1
      refine ⟨_, _, h1, fun ρ ev hr => ?_⟩
      have hx := (by simpa [ho, Op.operands] using hr : ORel ρ env ev #[x]) x (by simp) v hv
      refine ⟨(ev x).cells, t, fun b => .pointer (some ⟨b, 0, none⟩), fun w => ?_, rel_cells hx ht, fun ρ' i b hb => ?_⟩
      · unfold execOp; rw [ho]
        simp only [Instr.box, Sem.run_bind, newVar, newRow_run, Result.andThen_ok, Sem.run_pure]
      · have := VR.ptr (o := 0) hb; simpa using this
  · rename_i t len ps ho
    obtain ⟨l, hl, h1⟩ := optK_some h
    cases hall : l.all (fun p => !isTup p.2) with
    | false => rw [hall] at h1; cases h1
    | true =>
      rw [hall] at h1
      simp only [cond_true] at h1
      split at h1
      · rename_i e hu
        split at h1
        · rename_i inf hi
          obtain ⟨z, hz, h2⟩ := optK_some h1
          cases hc : (Nat.ble (len * inf.size) 1000000 && Nat.beq z.cells.size inf.size) with
          | false => rw [hc] at h2; cases h2
          | true =>
            rw [hc] at h2
            simp only [cond_true] at h2
            simp only [Bool.and_eq_true] at hc
            have c1 := Nat.le_of_ble_eq_true hc.1
            have c2 := Nat.eq_of_beq_eq_true hc.2
            obtain ⟨z1, z2, _⟩ := zeroA_spec hz
            split at h2
            · rename_i cs hf
              refine ⟨_, _, h2, fun ρ ev hr => ?_⟩
              have hp := parts_rel (ρ := ρ) (ev := ev) hl (fun x hx u hu => hr x (by simp only [ho, Op.operands]; simpa using hx) u hu)
              have hz0 : ∀ v ∈ ((Array.range (len * inf.size)).map (z.cells[· % z.cells.size]!)).toList, v ∈ z.cells.toList := by
                intro v hv
                simp only [Array.toList_map, Array.toList_range, List.mem_map, List.mem_range] at hv
                obtain ⟨k, hk, rfl⟩ := hv
                have : 0 < inf.size := by
                  rcases Nat.eq_zero_or_pos inf.size with h0 | h0
                  · rw [h0] at hk; omega
                  · exact h0
                have hlt : k % z.cells.size < z.cells.size := Nat.mod_lt _ (by omega)
                rw [getElem!_pos z.cells (k % z.cells.size) hlt]
                simp
              have hzr : VRs ρ ((Array.range (len * inf.size)).map (z.cells[· % z.cells.size]!)).toList ((Array.range (len * inf.size)).map (z.cells[· % z.cells.size]!)).toList := by
                refine ⟨rfl, fun i x y hx hy => ?_⟩
                rw [hx] at hy; cases hy
                have hm := hz0 x (List.mem_of_getElem? hx)
                obtain ⟨k, hk⟩ := List.getElem?_of_mem hm
                exact ((plainV_refl (ρ := ρ) z1).cells).2 k x x hk hk
              obtain ⟨cs', h4, h5, h6⟩ := fill_rel (ρ := ρ) (place := fun j => some (j * inf.size, inf.size)) l.length l _ _ _ rfl hp hzr
                (fun v hv => (plainV_refl (ρ := ρ) z1).cells_one z2 v (hz0 v hv)) (fun p hp => by have := List.all_eq_true.1 hall p hp; simpa using this) hf
              have hcsz : cs.size = len * inf.size := by
                have : ∀ (place : Nat → Option (Nat × Nat)) (l : List (Nat × Value)) (c c2 : Array Value), Instr.fill place c l = some c2 → c2.size = c.size := by
                  intro place l
                  induction l with
                  | nil => intro c c2 h; simp only [Instr.fill, Option.some.injEq] at h; rw [h]
                  | cons x r ih =>
                    intro c c2 h
                    obtain ⟨i, v⟩ := x
                    simp only [Instr.fill] at h
                    split at h
                    · cases h
                    · split at h
                      · cases h
                      · rw [ih _ _ h, ← Array.foldl_toList]; exact foldl_set_size _ _ _
                rw [this _ _ _ _ hf]; simp
              have hcsz' : cs'.size = len * inf.size := by have := h5.1; simp at this; omega
              refine ⟨cs', e, fun b => .slice (some ⟨b, 0, none⟩) len len, fun w => ?_, fun j v hj => ?_, fun ρ' i b hb => ?_⟩
              · unfold execOp; rw [ho]
                have e1 : (Array.map (fun (x : Nat × Operand) => match x with | (i, x) => (i, ev x)) ps) = (ps.toList.map fun p => (p.1, ev p.2)).toArray := by apply Array.ext'; simp
                have hsz : (sizeOf e).run P w = .ok inf.size w := sizeOf_run (by unfold cellsOf; rw [hi]; rfl) w
                simp only [Instr.buildSlice, Sem.run_bind, underlying_run hu, Result.andThen_ok, hsz]
                rw [if_neg (by omega)]
                rw [e1]
                by_cases h0 : len * inf.size = 0
                · simp only [h0, ↓reduceIte, Sem.run_bind, Sem.run_pure, Result.andThen_ok]
                  rw [h0] at h4
                  rw [show (Array.range 0).map (fun x => (#[] : Array Value)[x % (#[] : Array Value).size]!) = (Array.range 0).map (z.cells[· % z.cells.size]!) from by simp]
                  rw [h4]
                  rfl
                · rw [if_neg h0]
                  simp only [Sem.run_bind, pureSem_run (pureSem_zeroValue hz), Result.andThen_ok, Sem.run_pure]
                  rw [h4]
                  rfl
              · obtain ⟨v', h7, h8⟩ := h5.get hj
                exact ⟨h6 v (List.mem_of_getElem? hj), v', by simpa using h7, h8⟩
              · have := VR.slice (o := 0) (st := inf.size) hb (Nat.le_refl len) (by omega)
                simpa using this
            · cases h2
        · cases h1
      · cases h1
  · rename_i t len cap ho
    obtain ⟨lv, hlv, h1⟩ := optK_some h
    obtain ⟨cv, hcv, h2⟩ := optK_some h1
    split at h2
    · rename_i k1 l k2 c
      split at h2
      · rename_i e hu
        split at h2
        · rename_i inf hi
          obtain ⟨z, hz, h3⟩ := optK_some h2
          obtain ⟨z1, z2, _⟩ := zeroA_spec hz
          cases hc : Nat.beq z.cells.size inf.size with
          | false => rw [hc] at h3; cases h3
          | true =>
            rw [hc] at h3
            have c2 := Nat.eq_of_beq_eq_true hc
            obtain ⟨⟨c3, c4, c5, c6⟩, h4⟩ := ifK_some (show ifK _ _ = some r from h3)
            refine ⟨_, _, h4, fun ρ ev hr => ?_⟩
            have hr' : ORel ρ env ev #[len, cap] := by simpa [ho, Op.operands] using hr
            have e1 : ev len = .int k1 l := by have := hr' len (by simp) _ hlv; cases hq : ev len <;> rw [hq] at this <;> cases this; rfl
            have e2 : ev cap = .int k2 c := by have := hr' cap (by simp) _ hcv; cases hq : ev cap <;> rw [hq] at this <;> cases this; rfl
            refine ⟨(Array.range (c.toNat * inf.size)).map (z.cells[· % z.cells.size]!), e, fun b => .slice (some ⟨b, 0, none⟩) l.toNat c.toNat, fun w => ?_, fun j v hj => ?_, fun ρ' i b hb => ?_⟩
            · unfold execOp; rw [ho]
              have hsz : (sizeOf e).run P w = .ok inf.size w := sizeOf_run (by unfold cellsOf; rw [hi]; rfl) w
              have hti : (typeInfo e).run P w = .ok inf w := pureSem_run (by rw [pureSem_typeInfo, hi]) w
              have w1 : IntKind.i64.wrap l = l := by simp [IntKind.wrap, IntKind.bits, IntKind.signed]; omega
              have w2 : IntKind.i64.wrap c = c := by simp [IntKind.wrap, IntKind.bits, IntKind.signed]; omega
              have w3 : (inf.bytes : Int) * c ≤ 1000000 * 1000000 := by
                have a1 : (inf.bytes : Int) * c ≤ inf.bytes * 1000000 := Int.mul_le_mul_of_nonneg_left c5 (by omega)
                omega
              simp only [Instr.makeSlice, Sem.run_bind, underlying_run hu, Result.andThen_ok, e1, e2, asInt, asIntOf_run, Sem.run_pure, hti, w1, w2]
              rw [if_neg (by simp; omega)]
              simp only [run_askRoom, Result.andThen_ok, hsz, Sem.run_bind]
              by_cases h0 : c.toNat * inf.size = 0
              · simp only [h0, ↓reduceIte, Sem.run_bind, Sem.run_pure, Result.andThen_ok]
                rw [show (Array.range 0).map (fun x => (#[] : Array Value)[x % (#[] : Array Value).size]!) = (Array.range 0).map (z.cells[· % z.cells.size]!) from by simp]
                rfl
              · rw [if_neg h0]
                simp only [Sem.run_bind, pureSem_run (pureSem_zeroValue hz), Result.andThen_ok, Sem.run_pure, newRow_run]
            · have hlen : z.cells.toList.length = inf.size := by simpa using c2
              have hj2 : j < l.toNat * inf.size := by
                have := (List.getElem?_eq_some_iff.1 hj).1
                simp at this; rw [c2] at this; exact this
              have hpos : 0 < inf.size := by
                rcases Nat.eq_zero_or_pos inf.size with h0 | h0
                · rw [h0] at hj2; omega
                · exact h0
              rw [flatten_replicate_get _ _ _ (by rw [hlen]; exact hj2), hlen] at hj
              have hle : l.toNat * inf.size ≤ c.toNat * inf.size := Nat.mul_le_mul_right _ (by omega)
              rw [range_map_get (by omega) (by omega), c2]
              obtain ⟨q1, u', q2, q3⟩ := rel_cells (plainV_refl (ρ := ρ) z1) z2 _ _ hj
              exact ⟨q1, u', q2, q3⟩
            · have := VR.slice (o := 0) (st := inf.size) (len := l.toNat) (cap := c.toNat) hb (by omega) (by simp)
              simpa using this
        · cases h2
      · cases h2
    · cases h2
  · cases h
end
end Go.Ev
