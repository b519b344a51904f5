/-
  Operations that turn memory, together.
-/
import Derived.Test.YtofgaidlepmcmaaGreatDoorEvJ
import Derived.Laws.BytesString
import Derived.MapKept
namespace Go.Ev
open Go

section
variable {R : Type} {P : Program}

theorem copy_exec {argTypes : Array TypeId} {d x : Value} {h : H} {K : Value → H → Option R} {r : R}
    (hh : copyA P argTypes d x h K = some r) : ∃ v h', K v h' = some r ∧ h.next ≤ h'.next ∧ ∀ {ρ : Rho} {base : Base} {w : World} {ty : TypeId} {d' x' : Value}, Sim ρ base h w → VR ρ d d' → VR ρ x x' →
      ∃ ρ' v' w', (Builtin.copy_ argTypes ty #[d', x']).run P w = .ok v' w' ∧ Post base ρ h w ρ' h' w' ∧ VR ρ' v v' := by
  unfold copyA at hh
  split at hh
  · rename_i dt xt hargs
    have hat : argTypes = #[dt, xt] := by apply Array.ext'; simpa using hargs
    subst hat
    split at hh
    · rename_i e hu
      split at hh
      · rename_i sz hsz
        obtain ⟨m, new, h3, hsrc⟩ := srcCells_sound (P := P) hh
        have start : ∀ (w : World) (ty : TypeId) (bs : Option Addr) (n c : Nat) (x' : Value) (cells : Array Value), (Builtin.lenOf x').run P w = .ok m w →
            (Builtin.firstCells sz (Nat.min m n) x').run P w = .ok cells w → (Builtin.copy_ #[dt, xt] ty #[.slice bs n c, x']).run P w =
              (do (match bs with | some a => storeCells a cells.toList | none => pure ()); pure (goInt (Nat.min m n : Nat)) : Sem Value).run P w := by
          intro w ty bs n c x' cells h1 h2
          have hs := sizeOf_run hsz w
          cases bs <;> simp [Builtin.copy_, underlying_run hu, h1, hs, h2]
        split at h3
        · refine ⟨_, _, h3, Nat.le_refl _, fun {ρ base w ty d' x'} hs hd hx => ?_⟩
          cases hd
          obtain ⟨q1, q2, q3⟩ := hsrc ρ base w hs
          obtain ⟨r1, new', r2, r3, _⟩ := q3 w x' hs hx
          refine ⟨ρ, .int .i64 0, w, ?_, .refl hs, .int _ _⟩
          rw [start w ty none 0 0 x' _ r1 (r3 _ (Nat.min_le_left _ _))]
          simp [goInt]
        · rename_i i o n c
          obtain ⟨c1, h4⟩ := ifK_some h3
          obtain ⟨h', hst, h5⟩ := optK_some h4
          subst c1
          refine ⟨_, _, h5, Nat.le_of_eq (stCells_next hst).symm, fun {ρ base w ty d' x'} hs hd hx => ?_⟩
          obtain ⟨q1, q2, q3⟩ := hsrc ρ base w hs
          obtain ⟨r1, new', r2, r3, _⟩ := q3 w x' hs hx
          have r4 := r3 (Nat.min m n) (Nat.min_le_left _ _)
          obtain ⟨b, cc, K, w', hr, hrun, hpost⟩ := stCells_sim (P := P) hs hst (r2.take _) (fun v hv => q2 v (List.mem_of_mem_take hv))
          cases hd with
          | slice hr2 hle hK =>
            rw [hr] at hr2; cases hr2
            refine ⟨ρ, .int .i64 (Nat.min m n : Nat), w', ?_, hpost, .int _ _⟩
            rw [start w ty _ n _ x' _ r1 r4]
            simp only [Sem.run_bind]
            rw [hrun]
            rfl
          | sempty =>
            rename_i a
            have e0 : Nat.min m 0 = 0 := Nat.min_zero m
            have hw' : w' = w := by
              rw [e0] at hrun
              simp only [Nat.zero_mul, List.take_zero] at hrun
              have : (storeCells ⟨b, cc + o, none⟩ []).run P w = .ok () w := rfl
              rw [this] at hrun
              injection hrun with _ h6
              exact h6.symm
            subst hw'
            refine ⟨ρ, .int .i64 (Nat.min m 0 : Nat), w', ?_, hpost, .int _ _⟩
            rw [start w' ty (some a) 0 0 x' _ r1 r4]
            simp [e0, goInt, storeCells]
        · cases h3
      · cases hh
    · cases hh
  · cases hh

/-! ### maps -/

theorem keyOk_plain {kt : Option TypeDesc} {k : Value} (h : keyOk kt k = true) : plainV 4 k = true := by
  unfold keyOk at h
  split at h
  · rfl
  · rfl
  · cases h

theorem sameNow_eq {d : TypeDesc} {k x : Value} (hk : keyOk (some d) k = true) (hx : keyOk (some d) x = true) : Instr.sameNow d k x = some (keyEq k x) := by
  unfold keyOk at hk
  split at hk
  · rename_i s heq
    cases heq
    unfold keyOk at hx
    split at hx
    · rename_i heq2; rfl
    · cases ‹some TypeDesc.string = some (TypeDesc.int _)›
    · cases hx
  · rename_i kk k' n heq
    cases heq
    have e1 : k' = kk := of_decide_eq_true hk
    subst e1
    unfold keyOk at hx
    split at hx
    · cases ‹some (TypeDesc.int _) = some TypeDesc.string›
    · rename_i heq2
      cases heq2
      have e2 := of_decide_eq_true hx
      subst e2
      simp [Instr.sameNow, keyEq]
      rfl
    · cases hx
  · cases hk

theorem findNow_rel {ρ : Rho} {d : TypeDesc} {k : Value} (hk : keyOk (some d) k = true) : ∀ (es : List (Value × Value)) (l : List MapEntry) (i0 : Nat) (f : Option Value),
    es.length = l.length → (∀ (i : Nat) e m, es[i]? = some e → l[i]? = some m → m.key = e.1 ∧ VR ρ e.2 m.val ∧ plainV 4 e.1 = true) → mfind (some d) k es = some f →
    match f with
    | none => Instr.findNow d k l i0 = some none
    | some v => ∃ i v', Instr.findNow d k l i0 = some (some (i0 + i, v')) ∧ VR ρ v v' ∧ ∃ m, l[i]? = some m ∧ keyEq k m.key = true := by
  intro es
  induction es with
  | nil =>
    intro l i0 f hl _ hf
    have : l = [] := by simpa using hl.symm
    subst this
    simp only [mfind, Option.some.injEq] at hf
    subst hf
    rfl
  | cons e r ih =>
    intro l i0 f hl hr hf
    match l with
    | [] => simp at hl
    | m :: l' =>
      obtain ⟨x, v⟩ := e
      obtain ⟨h1, h2, _⟩ := hr 0 (x, v) m rfl rfl
      simp only at h1 h2
      simp only [mfind] at hf
      cases hx : keyOk (some d) x with
      | false => rw [hx] at hf; cases hf
      | true =>
        rw [hx] at hf
        simp only [cond_true] at hf
        have hsn := sameNow_eq hk hx
        rw [← h1] at hsn
        cases hq : keyEq k x with
        | true =>
          rw [hq] at hf
          simp only [cond_true, Option.some.injEq] at hf
          subst hf
          refine ⟨0, m.val, ?_, h2, m, rfl, by rw [h1]; exact hq⟩
          simp only [Instr.findNow, hsn]
          rw [h1, hq]; rfl
        | false =>
          rw [hq] at hf
          simp only [cond_false] at hf
          have := ih l' (i0 + 1) f (by simpa using hl) (fun i e m he hm => hr (i + 1) e m (by simpa using he) (by simpa using hm)) hf
          have hstep : Instr.findNow d k (m :: l') i0 = Instr.findNow d k l' (i0 + 1) := by
            simp only [Instr.findNow, hsn]
            rw [h1, hq]
          cases f with
          | none => rw [hstep]; exact this
          | some u =>
            obtain ⟨i, v', q1, q2, m2, q3, q4⟩ := this
            exact ⟨i + 1, v', by rw [hstep, q1]; congr 3; omega, q2, m2, by simpa using q3, q4⟩

theorem checkKey_run {kt : TypeId} {d : TypeDesc} {k : Value} (hu : P.underlying kt = some d) (hk : keyOk (some d) k = true) (emp : Bool) (w : World) :
    (Instr.checkKey emp 10000 kt k).run P w = .ok () w := by
  rw [show (10000 : Nat) = 9999 + 1 from rfl, Instr.checkKey]
  simp only [Sem.run_bind, underlying_run hu, Result.andThen_ok]
  unfold keyOk at hk
  split at hk
  · cases ‹some _ = some _›; rfl
  · cases ‹some _ = some _›; rfl
  · cases hk

theorem findKey_run {kt : TypeId} {d : TypeDesc} {k : Value} {es : List MapEntry} {f : Option (Nat × Value)} (hu : P.underlying kt = some d) (hf : Instr.findNow d k es 0 = some f) (w : World) :
    (Instr.findKey kt k es).run P w = .ok f w := by
  unfold Instr.findKey
  simp only [Sem.run_bind, underlying_run hu, Result.andThen_ok]
  rw [hf]; rfl

theorem mset_none {d : Option TypeDesc} {k v : Value} : ∀ {es es' : List (Value × Value)}, mfind d k es = some none → mset d k v es = some es' → es' = es ++ [(k, v)] := by
  intro es
  induction es with
  | nil => intro es' _ h; simp only [mset, Option.some.injEq] at h; exact h.symm
  | cons e r ih =>
    intro es' h1 h2
    obtain ⟨x, u⟩ := e
    simp only [mfind] at h1
    simp only [mset] at h2
    cases hx : keyOk d x with
    | false => rw [hx] at h1; cases h1
    | true =>
      rw [hx] at h1 h2
      simp only [cond_true] at h1 h2
      cases hq : keyEq k x with
      | true => rw [hq] at h1; cases h1
      | false =>
        rw [hq] at h1 h2
        simp only [cond_false] at h1 h2
        split at h2
        · rename_i l hl
          cases h2
          rw [ih h1 hl]; rfl
        · cases h2

theorem mset_some {d : TypeDesc} {k v : Value} : ∀ {es es' : List (Value × Value)} (l : List MapEntry) (i0 : Nat) (ρ : Rho), keyOk (some d) k = true → es.length = l.length →
    (∀ (i : Nat) e m, es[i]? = some e → l[i]? = some m → m.key = e.1 ∧ VR ρ e.2 m.val ∧ plainV 4 e.1 = true) → ∀ u, mfind (some d) k es = some (some u) → mset (some d) k v es = some es' →
    ∃ i v' m, Instr.findNow d k l i0 = some (some (i0 + i, v')) ∧ l[i]? = some m ∧ keyEq k m.key = true ∧ es' = es.set i (k, v) := by
  intro es
  induction es with
  | nil => intro es' l i0 ρ _ _ _ u h _; simp [mfind] at h
  | cons e r ih =>
    intro es' l i0 ρ hk hl hr u h1 h2
    match l with
    | [] => simp at hl
    | m :: l' =>
      obtain ⟨x, y⟩ := e
      obtain ⟨q1, q2, _⟩ := hr 0 (x, y) m rfl rfl
      simp only at q1 q2
      simp only [mfind] at h1
      simp only [mset] at h2
      cases hx : keyOk (some d) x with
      | false => rw [hx] at h1; cases h1
      | true =>
        rw [hx] at h1 h2
        simp only [cond_true] at h1 h2
        have hsn := sameNow_eq hk hx
        rw [← q1] at hsn
        cases hq : keyEq k x with
        | true =>
          rw [hq] at h1 h2
          simp only [cond_true, Option.some.injEq] at h1 h2
          subst h2
          refine ⟨0, m.val, m, ?_, rfl, by rw [q1]; exact hq, rfl⟩
          simp only [Instr.findNow, hsn]
          rw [q1, hq]; rfl
        | false =>
          rw [hq] at h1 h2
          simp only [cond_false] at h1 h2
          split at h2
          · rename_i l2 hl2
            cases h2
            obtain ⟨i, v', m2, q3, q4, q5, q6⟩ := ih l' (i0 + 1) ρ hk (by simpa using hl) (fun i e m he hm => hr (i + 1) e m (by simpa using he) (by simpa using hm)) u h1 hl2
            refine ⟨i + 1, v', m2, ?_, by simpa using q4, q5, by rw [q6]; rfl⟩
            have hstep : Instr.findNow d k (m :: l') i0 = Instr.findNow d k l' (i0 + 1) := by
              simp only [Instr.findNow, hsn]
              rw [q1, hq]
            rw [hstep, q3]; congr 3; omega
          · cases h2

theorem mset_mfind {d : Option TypeDesc} {k v : Value} : ∀ {es es' : List (Value × Value)}, mset d k v es = some es' → ∃ f, mfind d k es = some f := by
  intro es
  induction es with
  | nil => intro es' _; exact ⟨none, rfl⟩
  | cons e r ih =>
    intro es' h
    obtain ⟨x, u⟩ := e
    simp only [mset] at h
    simp only [mfind]
    cases hx : keyOk d x with
    | false => rw [hx] at h; cases h
    | true =>
      rw [hx] at h
      simp only [cond_true] at h ⊢
      cases hq : keyEq k x with
      | true => exact ⟨_, rfl⟩
      | false =>
        rw [hq] at h
        simp only [cond_false] at h ⊢
        split at h
        · rename_i l hl; exact ih hl
        · cases h

theorem keyEq_sameBits {k x : Value} (h : keyEq k x = true) : Instr.sameBits 10000 x k = true := by
  unfold keyEq at h
  split at h
  · rename_i a b
    have : a = b := (MapKept.bytes_beq a b).1 h
    subst this
    show (a == a) = true
    exact h
  · simp only [Bool.and_eq_true, decide_eq_true_eq] at h
    obtain ⟨rfl, rfl⟩ := h
    simp [Instr.sameBits]
  · cases h

theorem map_obj {ρ : Rho} {base : Base} {h : H} {w : World} {i : Nat} {es : List (Value × Value)} (hs : Sim ρ base h w) (hi : h.get i = some (.map es)) :
    ∃ b c K l clock, ρ i = some (b, c, K) ∧ w.heap[b]? = some (.map l clock) ∧ base ≤ b ∧ MapR ρ es l := by
  obtain ⟨b, o, K, obj, hr, hw, hB⟩ := hs.blk i _ hi
  cases obj with
  | map l clock => exact ⟨b, o, K, l, clock, hr, hw, hB.1, hB.2⟩
  | _ => exact hB.elim

theorem getObj_run {w : World} {b : Nat} {o : Obj} (h : w.heap[b]? = some o) (hc : ∀ c e fr, o ≠ .cells c e fr) : (getObj b).run P w = .ok o w := by
  unfold getObj
  simp only [Sem.run, h]

theorem setObj_run {w : World} {b : Nat} {o o' : Obj} (h : w.heap[b]? = some o) (hc : ∀ c e fr, o ≠ .cells c e fr) :
    (setObj b o').run P w = .ok () { w with heap := w.heap.setIfInBounds b o' } ∧ OneBlock w { w with heap := w.heap.setIfInBounds b o' } b o' := by
  have hlt : b < w.heap.size := (Array.getElem?_eq_some_iff.1 h).1
  refine ⟨?_, rfl, rfl, rfl, by simp, by simp [hlt], fun k hk => by simp [Ne.symm hk]⟩
  unfold setObj
  simp only [Sem.run, h]

theorem map_update {ρ : Rho} {es es' : List (Value × Value)} {l : Array MapEntry} {d : TypeDesc} {k x x' : Value} {clock : Nat} (hm : MapR ρ es l) (hk : keyOk (some d) k = true)
    (hs : mset (some d) k x es = some es') (hx : VR ρ x x') :
    ∃ f, Instr.findNow d k l.toList 0 = some f ∧ match f with
      | none => MapR ρ es' (l.push { key := k, val := x', born := clock })
      | some (i, _) => Instr.sameBits 10000 (((l[i]?).map (·.key)).getD k) k = true ∧ MapR ρ es' (l.modify i fun e => { e with key := k, val := x' }) := by
  obtain ⟨hlen, hrel⟩ := hm
  have hrel' : ∀ (i : Nat) e m, es[i]? = some e → l.toList[i]? = some m → m.key = e.1 ∧ VR ρ e.2 m.val ∧ plainV 4 e.1 = true :=
    fun i e m he hm => hrel i e m he (by simpa using hm)
  obtain ⟨f, hf⟩ := mset_mfind hs
  cases f with
  | none =>
    have h1 := findNow_rel hk es l.toList 0 none (by simpa using hlen) hrel' hf
    refine ⟨none, h1, ?_⟩
    have h2 := mset_none hf hs
    subst h2
    refine ⟨by simp [hlen], fun i e m he hm => ?_⟩
    rw [Array.getElem?_push] at hm
    split at hm
    · rename_i hi
      cases hm
      rw [List.getElem?_append_right (by omega)] at he
      have : i - es.length = 0 := by omega
      rw [this] at he
      simp at he
      subst he
      exact ⟨rfl, hx, keyOk_plain hk⟩
    · have hlt := (Array.getElem?_eq_some_iff.1 hm).1
      rw [List.getElem?_append_left (by omega)] at he
      exact hrel i e m he hm
  | some u =>
    obtain ⟨i, v', m, h1, h2, h3, h4⟩ := mset_some l.toList 0 ρ hk (by simpa using hlen) hrel' u hf hs
    rw [Nat.zero_add] at h1
    refine ⟨some (i, v'), h1, ?_, ?_⟩
    · have : l[i]? = some m := by simpa using h2
      rw [this]
      exact keyEq_sameBits h3
    · subst h4
      refine ⟨by simp [hlen], fun j e m2 he hm2 => ?_⟩
      rw [Array.getElem?_modify] at hm2
      rw [List.getElem?_set] at he
      by_cases hj : i = j
      · subst hj
        simp only [if_true] at he hm2
        have hmi : l[i]? = some m := by simpa using h2
        rw [hmi] at hm2
        simp only [Option.map_some, Option.some.injEq] at hm2
        subst hm2
        split at he
        · cases he; exact ⟨rfl, hx, keyOk_plain hk⟩
        · cases he
      · simp only [hj, if_false] at he hm2
        exact hrel j e m2 he hm2

theorem mapUpdate_exec {ρ : Rho} {base : Base} {h : H} {w : World} {t kt et : TypeId} {d : TypeDesc} {i : Nat} {k x x' m' : Value} {es es' : List (Value × Value)}
    (hs : Sim ρ base h w) (ht : P.underlying t = some (.map kt et)) (hd : P.underlying kt = some d) (hk : keyOk (some d) k = true) (hi : h.get i = some (.map es))
    (hset : mset (some d) k x es = some es') (hm : VR ρ (.map (some i)) m') (hx : VR ρ x x') :
    ∃ w', (Instr.mapUpdate t m' k x').run P w = .ok () w' ∧ Post base ρ h w ρ (h.put i (.map es')) w' := by
  cases hm with
  | map hr =>
    rename_i b c K
    obtain ⟨b2, c2, K2, l, clock, hr2, hw, hbase, hmr⟩ := map_obj hs hi
    rw [hr] at hr2; cases hr2
    have hg := getObj_run (P := P) hw (fun _ _ _ => by simp)
    obtain ⟨f, hf, hres⟩ := map_update (clock := clock) hmr hk hset hx
    have hfk := findKey_run hd hf w
    cases f with
    | none =>
      obtain ⟨h1, h2⟩ := setObj_run (P := P) (o' := .map (l.push { key := k, val := x', born := clock }) (clock + 1)) hw (fun _ _ _ => by simp)
      refine ⟨_, ?_, PostG.write hs hi rfl hr h2 ⟨hbase, hres⟩⟩
      unfold Instr.mapUpdate
      simp only [Sem.run_bind, underlying_run ht, Result.andThen_ok, hg, checkKey_run hd hk, hfk]
      exact h1
    | some f =>
      obtain ⟨j, v'⟩ := f
      obtain ⟨hb, hres⟩ := hres
      obtain ⟨h1, h2⟩ := setObj_run (P := P) (o' := .map (l.modify j fun e => { e with key := k, val := x' }) clock) hw (fun _ _ _ => by simp)
      refine ⟨_, ?_, PostG.write hs hi rfl hr h2 ⟨hbase, hres⟩⟩
      unfold Instr.mapUpdate
      simp only [Sem.run_bind, underlying_run ht, Result.andThen_ok, hg, checkKey_run hd hk, hfk]
      unfold Instr.keyThatStays
      rw [if_pos hb]
      simp only [Sem.run_pure, Result.andThen_ok]
      exact h1

theorem lookup_exec {ρ : Rho} {base : Base} {h : H} {w : World} {t kt et : TypeId} {d : TypeDesc} {k m m' : Value} {ok : Bool} {es : List (Value × Value)} {f : Option Value}
    (hs : Sim ρ base h w) (ht : P.underlying t = some (.map kt et)) (hd : P.underlying kt = some d) (hk : keyOk (some d) k = true)
    (hes : (match m with
          | .map none => some []
          | .map (some i) => match h.get i with
            | some (.map es) => some es
            | _ => none
          | _ => none) = some es)
    (hf : mfind (some d) k es = some f) (hm : VR ρ m m') (z : Value) (hz : f = none → zeroA P et = some z) :
    ∃ v', (Instr.lookup t m' k ok).run P w = .ok (if ok then .tuple #[v', .bool f.isSome] else v') w ∧ VR ρ (f.getD z) v' := by
  have main : ∀ (l : Array MapEntry), MapR ρ es l → ∃ v' q, (do
      Instr.checkKey l.isEmpty 10000 kt k
      let (v, ok') ← match ← Instr.findKey kt k l.toList with
        | some (_, v) => pure (v, true)
        | none => pure (← zeroValue et, false)
      pure (if ok then .tuple #[v, .bool ok'] else v) : Sem Value).run P w = .ok (if ok then .tuple #[v', .bool q] else v') w ∧ VR ρ (f.getD z) v' ∧ q = f.isSome := by
    intro l hmr
    have h1 := findNow_rel hk es l.toList 0 f (by simpa using hmr.1) (fun i e m he hm => hmr.2 i e m he (by simpa using hm)) hf
    cases f with
    | none =>
      have hfk := findKey_run hd h1 w
      have hzz := hz rfl
      refine ⟨z, false, ?_, plainV_refl (zeroA_spec hzz).1, rfl⟩
      simp only [Sem.run_bind, checkKey_run hd hk, Result.andThen_ok, hfk, pureSem_run (pureSem_zeroValue hzz), Sem.run_pure]
    | some v =>
      obtain ⟨i, v', h2, h3, _⟩ := h1
      have hfk := findKey_run hd h2 w
      refine ⟨v', true, ?_, h3, rfl⟩
      simp only [Sem.run_bind, checkKey_run hd hk, Result.andThen_ok, hfk, Sem.run_pure]
  split at hes
  · cases hes
    cases hm
    obtain ⟨v', q, h1, h2, rfl⟩ := main #[] ⟨rfl, fun i e m he => by simp at he⟩
    refine ⟨v', ?_, h2⟩
    unfold Instr.lookup
    simp only [Sem.run_bind, underlying_run ht, Result.andThen_ok, Sem.run_pure]
    simp only [Sem.run_bind] at h1
    exact h1
  · rename_i i
    split at hes
    · rename_i es2 hi
      cases hes
      cases hm with
      | map hr =>
        rename_i b c K
        obtain ⟨b2, c2, K2, l, clock, hr2, hw, hbase, hmr⟩ := map_obj hs hi
        rw [hr] at hr2; cases hr2
        have hg := getObj_run (P := P) hw (fun _ _ _ => by simp)
        obtain ⟨v', q, h1, h2, rfl⟩ := main l hmr
        refine ⟨v', ?_, h2⟩
        unfold Instr.lookup
        simp only [Sem.run_bind, underlying_run ht, Result.andThen_ok, hg, Sem.run_pure]
        simp only [Sem.run_bind] at h1
        exact h1
    · cases hes
  · cases hes
end
end Go.Ev
