/-
  Operations that read, operations that make a row.
-/
import Derived.Test.YtofgaidlepmcmaaGreatDoorEvH
import Derived.Laws.BytesString
namespace Go.Ev
open Go

def Rho.lim (ρ : Rho) (n : Nat) : Rho := fun i => if i < n then ρ i else none
theorem Rho.lim_lt {ρ : Rho} {n i : Nat} (h : i < n) : ρ.lim n i = ρ i := by simp [Rho.lim, h]
theorem Rho.lim_some {ρ : Rho} {n i : Nat} {x : Nat × Nat × Nat} (h : ρ.lim n i = some x) : i < n ∧ ρ i = some x := by
  unfold Rho.lim at h
  split at h
  · exact ⟨‹_›, h⟩
  · cases h

section
variable {R : Type} {P : Program}

theorem sureAddr_run (a : Addr) (w : World) : (Instr.sureAddr (.pointer (some a))).run P w = .ok a w := rfl

theorem isAgg_run {t : TypeId} {b : Bool} (h : aggT P t = some b) (w : World) : (isAgg t).run P w = .ok b w := by
  unfold aggT at h
  unfold isAgg
  split at h
  · rename_i hu; cases h; simp only [Sem.run_bind, underlying_run hu, Result.andThen_ok]; rfl
  · rename_i hu; cases h; simp only [Sem.run_bind, underlying_run hu, Result.andThen_ok]; rfl
  · rename_i d hn1 hn2 hu
    cases h
    simp only [Sem.run_bind, underlying_run hu, Result.andThen_ok]
    cases d <;> first | exact absurd rfl (hn1 _) | exact absurd rfl (hn2 _ _) | rfl
  · cases h

theorem ldV_exec {ρ : Rho} {base : Base} {h : H} {w : World} {t : TypeId} {i o : Nat} {v a' : Value} (hs : Sim ρ base h w) (hl : ldV P t i o h = some v)
    (ha : VR ρ (.pointer (some ⟨i, o, none⟩)) a') : ∃ p v', a' = .pointer (some p) ∧ (loadVar t p).run P w = .ok v' w ∧ VR ρ v v' := by
  cases ha with
  | ptr hr =>
    rename_i b c K
    unfold ldV at hl
    split at hl
    · rename_i hagg
      split at hl
      · rename_i n hn
        split at hl
        · rename_i l hc
          cases hl
          obtain ⟨b', c', K', vs', hr', hlen, hcell, hv, ho⟩ := ldCells_sim hs hc
          rw [hr] at hr'; cases hr'
          refine ⟨_, .agg vs'.toArray, rfl, ?_, .agg' (by simpa using hv) (by simpa using ho)⟩
          unfold loadVar
          simp only [Sem.run_bind, isAgg_run hagg, Result.andThen_ok, ↓reduceIte, sizeOf_run hn]
          rw [← hlen, loadCells_run vs' hcell]
          rfl
        · cases hl
      · cases hl
    · rename_i hagg
      obtain ⟨b', c', K', v', hr', hcell, hv, _⟩ := ldCell_sim hs hl
      rw [hr] at hr'; cases hr'
      refine ⟨_, v', rfl, ?_, hv⟩
      unfold loadVar
      simp only [Sem.run_bind, isAgg_run hagg, Result.andThen_ok, Bool.false_eq_true, ↓reduceIte, run_load, hcell]
    · cases hl

theorem bytesA_ints {ρ : Rho} : ∀ (l l' : List Value) (acc s : ByteArray), VRs ρ l l' → bytesA l acc = some s →
    ∃ ns : List Int, l' = ns.map (Value.int .u8) ∧ s = ns.foldl (fun r n => r.push (UInt8.ofNat n.toNat)) acc := by
  intro l
  induction l with
  | nil =>
    intro l' acc s hr hb
    match l', hr with
    | [], _ => simp only [bytesA, Option.some.injEq] at hb; exact ⟨[], rfl, hb.symm⟩
    | _ :: _, hr => have := hr.1; simp at this
  | cons x r ih =>
    intro l' acc s hr hb
    match l', hr with
    | [], hr => have := hr.1; simp at this
    | x' :: r', hr =>
      cases x with
      | int k n =>
        cases k with
        | u8 =>
          have hx := hr.head
          cases hx
          obtain ⟨ns, h1, h2⟩ := ih r' _ s hr.tail hb
          exact ⟨n :: ns, by simp [h1], by simp [h2]⟩
        | _ => simp [bytesA] at hb
      | _ => simp [bytesA] at hb

theorem strOf_exec {ρ : Rho} {base : Base} {h : H} {w : World} {v v' : Value} {s : ByteArray} (hs : Sim ρ base h w) (hh : strOf h v = some s) (hv : VR ρ v v') :
    (Conv.bytesToString v').run P w = .ok (.string s) w := by
  unfold strOf at hh
  split at hh
  · cases hv; cases hh; rfl
  · rename_i i o n
    split at hh
    · rename_i l hl
      obtain ⟨b, c, K, vs', hr, hlen, hcell, hvs, ho⟩ := ldCells_sim hs hl
      obtain ⟨ns, h1, h2⟩ := bytesA_ints l vs' .empty s hvs hh
      subst h2
      cases hv with
      | slice hr2 hle hK =>
        rw [hr] at hr2; cases hr2
        have hlc := loadCells_run (P := P) (w := w) (b := b) (k := c + o) vs' hcell
        rw [hlen, h1] at hlc
        exact run_bytesToString w _ n _ ns hlc
      | sempty =>
        rename_i a
        have h0 : ns = [] := by
          have : (ns.map (Value.int .u8)).length = 0 := by rw [← h1]; exact hlen
          simpa using this
        subst h0
        exact run_bytesToString w a 0 0 [] rfl
    · cases hh
  · cases hh

theorem eqA_spec {a b : Option Addr} (h : eqA a b = true) : a = b := by
  unfold eqA at h
  split at h
  · rfl
  · rename_i a b
    simp only [Bool.and_eq_true] at h
    obtain ⟨⟨h1, h2⟩, h3⟩ := h
    have e1 := Nat.eq_of_beq_eq_true h1
    have e2 := Nat.eq_of_beq_eq_true h2
    obtain ⟨b1, o1, s1⟩ := a
    obtain ⟨b2, o2, s2⟩ := b
    simp only at e1 e2 h3
    subst e1; subst e2
    cases s1 <;> cases s2 <;> first | rfl | cases h3
  · cases h

theorem eqV_spec : ∀ (d : Nat) (v u : Value), eqV d v u = true → v = u := by
  intro d
  induction d with
  | zero => intro v u h; simp [eqV] at h
  | succ d ih =>
    intro v u h
    have lists : ∀ xs ys : List Value, eqV.eqVs d xs ys = true → xs = ys := by
      intro xs
      induction xs with
      | nil => intro ys h; cases ys with
        | nil => rfl
        | cons y r => simp [eqV.eqVs] at h
      | cons x r ihx =>
        intro ys h
        cases ys with
        | nil => simp [eqV.eqVs] at h
        | cons y s =>
          simp only [eqV.eqVs, Bool.and_eq_true] at h
          rw [ih x y h.1, ihx s h.2]
    unfold eqV at h
    split at h
    · have : ‹Bool› = ‹Bool› := rfl
      simp at h; rw [h]
    · simp only [Bool.and_eq_true, decide_eq_true_eq] at h; rw [h.1, h.2]
    · rename_i a b
      have h1 := of_decide_eq_true h
      obtain ⟨⟨x⟩⟩ := a
      obtain ⟨⟨y⟩⟩ := b
      simp only at h1
      rw [h1]
    · rw [eqA_spec h]
    · simp only [Bool.and_eq_true] at h
      rw [eqA_spec h.1.1, Nat.eq_of_beq_eq_true h.1.2, Nat.eq_of_beq_eq_true h.2]
    · rfl
    · rw [Nat.eq_of_beq_eq_true h]
    · rfl
    · rfl
    · simp only [Bool.and_eq_true] at h
      rw [Nat.eq_of_beq_eq_true h.1, ih _ _ h.2]
    · have := lists _ _ h
      rename_i xs ys
      have : xs = ys := by apply Array.ext'; exact this
      rw [this]
    · cases h

theorem sameLd_spec {t : TypeId} {i p : Nat} {v : Value} {h : H} (hh : sameLd P t i p v h = true) : ldV P t i p h = some v := by
  unfold sameLd at hh
  split at hh
  · rename_i u hu; rw [hu, eqV_spec 6 _ _ hh]
  · cases hh

/-- What an operation reads. -/
def Reads (P : Program) (o : Oper) (env : Env) (h : H) (v : Value) : Prop :=
  (∃ t x i p, o.op = .load t x ∧ opnd env x = some (.pointer (some ⟨i, p, none⟩)) ∧ ldV P t i p h = some v) ∨
  (∃ s d x u str e, o.op = .convert s d x ∧ P.underlying s = some (.slice e) ∧ P.underlying d = some .string ∧ P.underlying e = some (.int .u8) ∧ opnd env x = some u ∧ strOf h u = some str ∧ v = .string str)

theorem evLoad_sound {o : Oper} {env : Env} {h : H} {K : (H → Bool) → Value → Option R} {r : R} (hh : evLoad P o env h K = some r) :
    ∃ same v, K same v = some r ∧ Reads P o env h v ∧ ∀ h', same h' = true → Reads P o env h' v := by
  unfold evLoad at hh
  split at hh
  · rename_i t x ho
    obtain ⟨av, hav, h1⟩ := optK_some hh
    obtain ⟨i, p, he, h2⟩ := addrK_some h1
    obtain ⟨v, hv, h3⟩ := optK_some h2
    subst he
    exact ⟨_, v, castT_some (K := fun v => K (sameLd P t i p v) v) h3, .inl ⟨t, x, i, p, ho, hav, hv⟩, fun h' hs => .inl ⟨t, x, i, p, ho, hav, sameLd_spec hs⟩⟩
  · rename_i s d x ho
    obtain ⟨u, hu, h1⟩ := optK_some hh
    cases hc : isStrConv P s d with
    | false => rw [hc] at h1; cases h1
    | true =>
      rw [hc] at h1
      obtain ⟨str, hs, h2⟩ := optK_some (show optK _ _ = some r from h1)
      unfold isStrConv at hc
      split at hc
      · rename_i e e1 e2
        split at hc
        · rename_i e3
          refine ⟨_, _, h2, .inr ⟨s, d, x, u, str, e, ho, e1, e2, e3, hu, hs, rfl⟩, fun h' hs' => .inr ⟨s, d, x, u, str, e, ho, e1, e2, e3, hu, ?_, rfl⟩⟩
          unfold sameStr at hs'
          split at hs'
          · rename_i t ht
            rw [ht]
            have : t.data.toList = str.data.toList := of_decide_eq_true hs'
            congr 1
            cases t; cases str
            simp at this
            rw [ByteArray.mk.injEq]
            exact this
          · cases hs'
        · cases hc
      · cases hc
  · cases hh

theorem read_exec {ρ : Rho} {base : Base} {h : H} {w : World} {o : Oper} {env : Env} {v : Value} {ev : Operand → Value} (hs : Sim ρ base h w) (hr : Reads P o env h v) (ho : ORel ρ env ev o.op.operands) :
    ∃ v', (execOp ev o).run P w = .ok (.value v') w ∧ VR ρ v v' := by
  rcases hr with ⟨t, x, i, p, e, hx, hl⟩ | ⟨s, d, x, u, str, et, e, e1, e2, e3, hx, hl, rfl⟩
  · have ha := (by simpa [e, Op.operands] using ho : ORel ρ env ev #[x]) x (by simp) _ hx
    obtain ⟨q, v', eq, h1, h2⟩ := ldV_exec hs hl ha
    refine ⟨v', ?_, h2⟩
    unfold execOp; rw [e]
    simp only [eq, Instr.loadAt, Sem.run_bind, sureAddr_run, Result.andThen_ok, h1, Sem.run_pure]
  · have hx := (by simpa [e, Op.operands] using ho : ORel ρ env ev #[x]) x (by simp) _ hx
    have h3 := strOf_exec (P := P) hs hl hx
    refine ⟨.string str, ?_, .string _⟩
    unfold execOp; rw [e]
    have hconv : (convert s d (ev x)).run P w = .ok (.string str) w := by
      unfold convert
      simp only [Sem.run_bind, underlying_run e1, underlying_run e2, Result.andThen_ok]
      have hsl : ∃ q1 q2 q3, ev x = .slice q1 q2 q3 := by
        generalize ev x = x' at hx
        unfold strOf at hl
        split at hl
        · cases hx; exact ⟨_, _, _, rfl⟩
        · cases hx <;> exact ⟨_, _, _, rfl⟩
        · cases hl
      obtain ⟨q1, q2, q3, hq⟩ := hsl
      rw [hq] at h3 ⊢
      simp only [Sem.run_bind, underlying_run e3, Result.andThen_ok]
      exact h3
    simp only [Sem.run_bind, hconv, Result.andThen_ok, Sem.run_pure]

/-- What is read lies in blocks that are there. -/
theorem Reads.lim {ρ : Rho} {n : Nat} {h : H} {o : Oper} {env : Env} {v : Value} {ev : Operand → Value} (hr : Reads P o env h v) (ho : ORel (ρ.lim n) env ev o.op.operands) (hg : ∀ i y, h.get i = some y → i < h.next) :
    ORel (ρ.lim h.next) env ev o.op.operands := by
  rcases hr with ⟨t, x, i, p, e, hx, hl⟩ | ⟨s, d, x, u, str, et, e, e1, e2, e3, hx, hl, _⟩
  · have e' : o.op.operands = #[x] := by rw [e]; rfl
    rw [e'] at ho ⊢
    intro y hy w hw
    have hyx : y = x := by simpa using hy
    subst hyx
    rw [hx] at hw; cases hw
    have h6 := ho y (by simp) _ hx
    have hlt : i < h.next := by
      cases hgi : h.get i with
      | some b => exact hg i b hgi
      | none => unfold ldV ldCells ldCell at hl; rw [hgi] at hl; simp at hl; split at hl <;> first | (split at hl <;> cases hl) | cases hl
    generalize ev y = z at h6
    cases h6 with
    | ptr hr => exact .ptr (by rw [Rho.lim_lt hlt]; exact (Rho.lim_some hr).2)
  · have e' : o.op.operands = #[x] := by rw [e]; rfl
    rw [e'] at ho ⊢
    intro y hy w hw
    have hyx : y = x := by simpa using hy
    subst hyx
    rw [hx] at hw; cases hw
    have h6 := ho y (by simp) _ hx
    unfold strOf at hl
    split at hl
    · generalize ev y = z at h6
      cases h6; exact .snil
    · rename_i i o n
      split at hl
      · rename_i l hl2
        have hlt : i < h.next := by
          cases hgi : h.get i with
          | some b => exact hg i b hgi
          | none => unfold ldCells at hl2; rw [hgi] at hl2; cases hl2
        generalize ev y = z at h6
        cases h6 with
        | slice hr q1 q2 => exact .slice (by rw [Rho.lim_lt hlt]; exact (Rho.lim_some hr).2) q1 q2
        | sempty => exact .sempty
      · cases hl
    · cases hl

/-- What an operation that makes a row comes to. -/
def FV (P : Program) (o : Oper) (env : Env) (cs : List Value) (mk : Nat → Value) : Prop :=
  ∀ (ρ : Rho) (ev : Operand → Value), ORel ρ env ev o.op.operands → ∃ (C : Array Value) (e : TypeId) (f : Nat → Value),
    (∀ w, (execOp ev o).run P w = .ok (.value (f w.heap.size)) (w.alloc (.cells C e))) ∧
    (∀ (j : Nat) v, cs[j]? = some v → v.oneCell' = true ∧ ∃ v', C[j]? = some v' ∧ VR ρ v v') ∧
    ∀ (ρ' : Rho) i b, ρ' i = some (b, 0, C.size) → VR ρ' (mk i) (f b)

theorem newRow_run (e : TypeId) (C : Array Value) (w : World) : (newRow e C).run P w = .ok ⟨w.heap.size, 0, none⟩ (w.alloc (.cells C e)) := rfl

theorem rel_cells {ρ : Rho} {v v' : Value} (h : VR ρ v v') (ht : isTup v = false) : ∀ (j : Nat) u, v.cells.toList[j]? = some u → u.oneCell' = true ∧ ∃ u', v'.cells[j]? = some u' ∧ VR ρ u u' := by
  intro j u hj
  obtain ⟨u', h1, h2⟩ := h.cells.get hj
  exact ⟨h.cells_one ht u (List.mem_of_getElem? hj), u', by simpa using h1, h2⟩

theorem range_map_get {z : Array Value} {n j : Nat} (hj : j < n) (hz : 0 < z.size) : ((Array.range n).map (z[· % z.size]!))[j]? = z[j % z.size]? := by
  have hlt : j % z.size < z.size := Nat.mod_lt _ hz
  simp [hj, hlt]

theorem flatten_replicate_get {α : Type} (xs : List α) : ∀ (n j : Nat), j < n * xs.length → (List.replicate n xs).flatten[j]? = xs[j % xs.length]? := by
  intro n
  induction n with
  | zero => intro j h; omega
  | succ n ih =>
    intro j h
    rw [List.replicate_succ, List.flatten_cons]
    rcases Nat.lt_or_ge j xs.length with hj | hj
    · rw [List.getElem?_append_left hj, Nat.mod_eq_of_lt hj]
    · rw [List.getElem?_append_right hj, ih (j - xs.length) (by rw [Nat.succ_mul] at h; omega)]
      rw [Nat.mod_eq_sub_mod hj]

theorem foldl_all : ∀ (xs : List Value) (k : Nat) (cs : Array Value), cs.size = k + xs.length →
    ((xs.zipIdx k).foldl (fun (cs : Array Value) (p : Value × Nat) => cs.setIfInBounds (0 + p.2) p.1) cs).toList = cs.toList.take k ++ xs := by
  intro xs
  induction xs with
  | nil => intro k cs h; simp at h; simp [← h, List.take_of_length_le]
  | cons x r ih =>
    intro k cs h
    simp only [List.length_cons] at h
    simp only [List.zipIdx_cons, List.foldl_cons]
    rw [ih (k + 1) _ (by simp; omega)]
    simp only [Array.toList_setIfInBounds, Nat.zero_add]
    have hl : k < cs.toList.length := by simp; omega
    rw [List.take_succ_eq_append_getElem (by simpa using hl), List.take_set]
    simp
    rw [List.set_eq_of_length_le (by simp; omega)]
theorem fill_one {size : Nat} {zs v : Array Value} {x : Value} (hz : zs.size = 1 * size) (hx : x.cells = v) (hv : v.size = size) :
    Instr.fill (fun j => some (j * size, size)) zs [(0, x)] = some v := by
  simp only [Instr.fill, hx]
  rw [if_neg (by simp; omega)]
  congr 1
  apply Array.ext'
  rw [← Array.foldl_toList, Array.toList_zipIdx]
  have := foldl_all v.toList 0 zs (by simp; omega)
  simpa using this

theorem evFresh_old {o : Oper} {env : Env} {K : List Value → (Nat → Value) → Option R} {r : R} (h : evFresh P o env K = some r) : evFreshO P o env K = some r := by
  unfold evFresh at h
  split at h
  · rename_i t len ps ho
    split at h
    · rename_i x h1
      have h2 : len = 1 ∧ ps.toList = [(0, x)] := by
        unfold one at h1
        split at h1
        · rename_i e; cases h1; exact ⟨rfl, e⟩
        · cases h1
      obtain ⟨rfl, hps⟩ := h2
      obtain ⟨v, hv, h3⟩ := optK_some h
      cases ht : isTup v with
      | true => rw [ht] at h3; cases h3
      | false =>
        rw [ht] at h3
        simp only [cond_false] at h3
        unfold evFreshO
        rw [ho]
        simp only [hps, parts, hv, optK, List.all_cons, List.all_nil, ht, Bool.not_false, Bool.and_true, cond_true]
        split at h3
        · rename_i e hu
          split at h3
          · rename_i i hi
            obtain ⟨z, hz, h4⟩ := optK_some h3
            cases hc : (Nat.ble i.size 1000000 && Nat.beq z.cells.size i.size) with
            | false => rw [hc] at h4; cases h4
            | true =>
              rw [hc] at h4
              obtain ⟨h5, h6⟩ := ifK_some (show ifK _ _ = some r from h4)
              simp only [hu, hi, hz, Nat.one_mul, hc, cond_true]
              have hf := fill_one (size := i.size) (zs := (Array.range i.size).map (z.cells[· % z.cells.size]!)) (v := v.cells) (x := v) (by simp) rfl h5
              rw [hf]
              exact h6
          · cases h3
        · cases h3
    · exact h
  · exact h

theorem evFresh_sound {o : Oper} {env : Env} {K : List Value → (Nat → Value) → Option R} {r : R} (h : evFresh P o env K = some r) :
    ∃ cs mk, K cs mk = some r ∧ FV P o env cs mk := by
  replace h := evFresh_old h
  unfold evFreshO at h
  split at h
  · rename_i t ho
    obtain ⟨z, hz, h1⟩ := optK_some h
    obtain ⟨z1, z2, _⟩ := zeroA_spec hz
    refine ⟨_, _, h1, fun ρ ev hr => ⟨z.cells, t, fun b => .pointer (some ⟨b, 0, none⟩), fun w => ?_, rel_cells (plainV_refl z1) z2, fun ρ' i b hb => ?_⟩⟩
    · unfold execOp; rw [ho]
      simp only [Instr.alloc, Sem.run_bind, pureSem_run (pureSem_zeroValue hz), Result.andThen_ok, newVar, newRow_run, Sem.run_pure]
    · have := VR.ptr (o := 0) hb; simpa using this
  · rename_i t x ho
    obtain ⟨v, hv, h1⟩ := optK_some h
    cases ht : isTup v with
    | true => rw [ht] at h1; cases h1
    | false =>
      rw [ht] at h1
      refine ⟨_, _, h1, fun ρ ev hr => ?_⟩
      have hx := (by simpa [ho, Op.operands] using hr : ORel ρ env ev #[x]) x (by simp) v hv
      refine ⟨(ev x).cells, t, fun b => .pointer (some ⟨b, 0, none⟩), fun w => ?_, rel_cells hx ht, fun ρ' i b hb => ?_⟩
      · unfold execOp; rw [ho]
        simp only [Instr.box, Sem.run_bind, newVar, newRow_run, Result.andThen_ok, Sem.run_pure]
      · have := VR.ptr (o := 0) hb; simpa using this
  · rename_i t len ps ho
    obtain ⟨l, hl, h1⟩ := optK_some h
    cases hall : l.all (fun p => !isTup p.2) with
    | false => rw [hall] at h1; cases h1
    | true =>
      rw [hall] at h1
      simp only [cond_true] at h1
      split at h1
      · rename_i e hu
        split at h1
        · rename_i inf hi
          obtain ⟨z, hz, h2⟩ := optK_some h1
          cases hc : (Nat.ble (len * inf.size) 1000000 && Nat.beq z.cells.size inf.size) with
          | false => rw [hc] at h2; cases h2
          | true =>
            rw [hc] at h2
            simp only [cond_true] at h2
            simp only [Bool.and_eq_true] at hc
            have c1 := Nat.le_of_ble_eq_true hc.1
            have c2 := Nat.eq_of_beq_eq_true hc.2
            obtain ⟨z1, z2, _⟩ := zeroA_spec hz
            split at h2
            · rename_i cs hf
              refine ⟨_, _, h2, fun ρ ev hr => ?_⟩
              have hp := parts_rel (ρ := ρ) (ev := ev) hl (fun x hx u hu => hr x (by simp only [ho, Op.operands]; simpa using hx) u hu)
              have hz0 : ∀ v ∈ ((Array.range (len * inf.size)).map (z.cells[· % z.cells.size]!)).toList, v ∈ z.cells.toList := by
                intro v hv
                simp only [Array.toList_map, Array.toList_range, List.mem_map, List.mem_range] at hv
                obtain ⟨k, hk, rfl⟩ := hv
                have : 0 < inf.size := by
                  rcases Nat.eq_zero_or_pos inf.size with h0 | h0
                  · rw [h0] at hk; omega
                  · exact h0
                have hlt : k % z.cells.size < z.cells.size := Nat.mod_lt _ (by omega)
                rw [getElem!_pos z.cells (k % z.cells.size) hlt]
                simp
              have hzr : VRs ρ ((Array.range (len * inf.size)).map (z.cells[· % z.cells.size]!)).toList ((Array.range (len * inf.size)).map (z.cells[· % z.cells.size]!)).toList := by
                refine ⟨rfl, fun i x y hx hy => ?_⟩
                rw [hx] at hy; cases hy
                have hm := hz0 x (List.mem_of_getElem? hx)
                obtain ⟨k, hk⟩ := List.getElem?_of_mem hm
                exact ((plainV_refl (ρ := ρ) z1).cells).2 k x x hk hk
              obtain ⟨cs', h4, h5, h6⟩ := fill_rel (ρ := ρ) (place := fun j => some (j * inf.size, inf.size)) l.length l _ _ _ rfl hp hzr
                (fun v hv => (plainV_refl (ρ := ρ) z1).cells_one z2 v (hz0 v hv)) (fun p hp => by have := List.all_eq_true.1 hall p hp; simpa using this) hf
              have hcsz : cs.size = len * inf.size := by
                have : ∀ (place : Nat → Option (Nat × Nat)) (l : List (Nat × Value)) (c c2 : Array Value), Instr.fill place c l = some c2 → c2.size = c.size := by
                  intro place l
                  induction l with
                  | nil => intro c c2 h; simp only [Instr.fill, Option.some.injEq] at h; rw [h]
                  | cons x r ih =>
                    intro c c2 h
                    obtain ⟨i, v⟩ := x
                    simp only [Instr.fill] at h
                    split at h
                    · cases h
                    · split at h
                      · cases h
                      · rw [ih _ _ h, ← Array.foldl_toList]; exact foldl_set_size _ _ _
                rw [this _ _ _ _ hf]; simp
              have hcsz' : cs'.size = len * inf.size := by have := h5.1; simp at this; omega
              refine ⟨cs', e, fun b => .slice (some ⟨b, 0, none⟩) len len, fun w => ?_, fun j v hj => ?_, fun ρ' i b hb => ?_⟩
              · unfold execOp; rw [ho]
                have e1 : (Array.map (fun (x : Nat × Operand) => match x with | (i, x) => (i, ev x)) ps) = (ps.toList.map fun p => (p.1, ev p.2)).toArray := by apply Array.ext'; simp
                have hsz : (sizeOf e).run P w = .ok inf.size w := sizeOf_run (by unfold cellsOf; rw [hi]; rfl) w
                simp only [Instr.buildSlice, Sem.run_bind, underlying_run hu, Result.andThen_ok, hsz]
                rw [if_neg (by omega)]
                rw [e1]
                by_cases h0 : len * inf.size = 0
                · simp only [h0, ↓reduceIte, Sem.run_bind, Sem.run_pure, Result.andThen_ok]
                  rw [h0] at h4
                  rw [show (Array.range 0).map (fun x => (#[] : Array Value)[x % (#[] : Array Value).size]!) = (Array.range 0).map (z.cells[· % z.cells.size]!) from by simp]
                  rw [h4]
                  rfl
                · rw [if_neg h0]
                  simp only [Sem.run_bind, pureSem_run (pureSem_zeroValue hz), Result.andThen_ok, Sem.run_pure]
                  rw [h4]
                  rfl
              · obtain ⟨v', h7, h8⟩ := h5.get hj
                exact ⟨h6 v (List.mem_of_getElem? hj), v', by simpa using h7, h8⟩
              · have := VR.slice (o := 0) (st := inf.size) hb (Nat.le_refl len) (by omega)
                simpa using this
            · cases h2
        · cases h1
      · cases h1
  · rename_i t len cap ho
    obtain ⟨lv, hlv, h1⟩ := optK_some h
    obtain ⟨cv, hcv, h2⟩ := optK_some h1
    split at h2
    · rename_i k1 l k2 c
      split at h2
      · rename_i e hu
        split at h2
        · rename_i inf hi
          obtain ⟨z, hz, h3⟩ := optK_some h2
          obtain ⟨z1, z2, _⟩ := zeroA_spec hz
          cases hc : Nat.beq z.cells.size inf.size with
          | false => rw [hc] at h3; cases h3
          | true =>
            rw [hc] at h3
            have c2 := Nat.eq_of_beq_eq_true hc
            obtain ⟨⟨c3, c4, c5, c6⟩, h4⟩ := ifK_some (show ifK _ _ = some r from h3)
            refine ⟨_, _, h4, fun ρ ev hr => ?_⟩
            have hr' : ORel ρ env ev #[len, cap] := by simpa [ho, Op.operands] using hr
            have e1 : ev len = .int k1 l := by have := hr' len (by simp) _ hlv; cases hq : ev len <;> rw [hq] at this <;> cases this; rfl
            have e2 : ev cap = .int k2 c := by have := hr' cap (by simp) _ hcv; cases hq : ev cap <;> rw [hq] at this <;> cases this; rfl
            refine ⟨(Array.range (c.toNat * inf.size)).map (z.cells[· % z.cells.size]!), e, fun b => .slice (some ⟨b, 0, none⟩) l.toNat c.toNat, fun w => ?_, fun j v hj => ?_, fun ρ' i b hb => ?_⟩
            · unfold execOp; rw [ho]
              have hsz : (sizeOf e).run P w = .ok inf.size w := sizeOf_run (by unfold cellsOf; rw [hi]; rfl) w
              have hti : (typeInfo e).run P w = .ok inf w := pureSem_run (by rw [pureSem_typeInfo, hi]) w
              have w1 : IntKind.i64.wrap l = l := by simp [IntKind.wrap, IntKind.bits, IntKind.signed]; omega
              have w2 : IntKind.i64.wrap c = c := by simp [IntKind.wrap, IntKind.bits, IntKind.signed]; omega
              have w3 : (inf.bytes : Int) * c ≤ 1000000 * 1000000 := by
                have a1 : (inf.bytes : Int) * c ≤ inf.bytes * 1000000 := Int.mul_le_mul_of_nonneg_left c5 (by omega)
                omega
              simp only [Instr.makeSlice, Sem.run_bind, underlying_run hu, Result.andThen_ok, e1, e2, asInt, asIntOf_run, Sem.run_pure, hti, w1, w2]
              rw [if_neg (by simp; omega)]
              simp only [run_askRoom, Result.andThen_ok, hsz, Sem.run_bind]
              by_cases h0 : c.toNat * inf.size = 0
              · simp only [h0, ↓reduceIte, Sem.run_bind, Sem.run_pure, Result.andThen_ok]
                rw [show (Array.range 0).map (fun x => (#[] : Array Value)[x % (#[] : Array Value).size]!) = (Array.range 0).map (z.cells[· % z.cells.size]!) from by simp]
                rfl
              · rw [if_neg h0]
                simp only [Sem.run_bind, pureSem_run (pureSem_zeroValue hz), Result.andThen_ok, Sem.run_pure, newRow_run]
            · have hlen : z.cells.toList.length = inf.size := by simpa using c2
              have hj2 : j < l.toNat * inf.size := by
                have := (List.getElem?_eq_some_iff.1 hj).1
                simp at this; rw [c2] at this; exact this
              have hpos : 0 < inf.size := by
                rcases Nat.eq_zero_or_pos inf.size with h0 | h0
                · rw [h0] at hj2; omega
                · exact h0
              rw [flatten_replicate_get _ _ _ (by rw [hlen]; exact hj2), hlen] at hj
              have hle : l.toNat * inf.size ≤ c.toNat * inf.size := Nat.mul_le_mul_right _ (by omega)
              rw [range_map_get (by omega) (by omega), c2]
              obtain ⟨q1, u', q2, q3⟩ := rel_cells (plainV_refl (ρ := ρ) z1) z2 _ _ hj
              exact ⟨q1, u', q2, q3⟩
            · have := VR.slice (o := 0) (st := inf.size) (len := l.toNat) (cap := c.toNat) hb (by omega) (by simp)
              simpa using this
        · cases h2
      · cases h2
    · cases h2
  · cases h
end
end Go.Ev
