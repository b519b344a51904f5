/-
  Calls, and all effects.
-/
import Derived.Test.YtofgaidlepmcmaaGreatDoorEvK
namespace Go.Ev
open Go

section
variable {R : Type} {P : Program}

/-- What a call table promises. -/
def CallOK (P : Program) (base : Base) (call : CallF) : Prop :=
  ∀ f args h v h', call f args h = some (v, h') → ∀ ρ w args', Sim ρ base h w → VRs ρ args args' →
    Calls P f args'.toArray w fun e w' => ∃ ρ' v', e = .returned v' ∧ Post base ρ h w ρ' h' w' ∧ VR ρ' v v'
/-- Numbers are never given back. -/
def CallNext (call : CallF) : Prop := ∀ f args h v h', call f args h = some (v, h') → h.next ≤ h'.next

/-- No function of the program counts goroutines. -/
def NoCount (P : Program) : Prop := ∀ (f : Nat) fn, P.funcs[f]? = some fn → (fn.name == "runtime.NumGoroutine") = false

theorem callK_some {call : CallF} {f : FuncId} {args : List Value} {h : H} {K : Value → H → Option R} {r : R} (hh : callK call f args h K = some r) :
    ∃ v h', call f args h = some (v, h') ∧ K v h' = some r := by
  unfold callK at hh
  split at hh
  · exact ⟨_, _, ‹_›, hh⟩
  · cases hh

theorem upon_enter_of {base : Base} {o : Oper} {ρ : Rho} {h : H} {a : Act} {w : World} {v : Value} {h' : H} {f : FuncId} {args' : Array Value}
    (hr : (execOp a.eval o).run P w = .ok (.enter f args') w)
    (hc : Calls P f args' w fun e w' => ∃ ρ' v', e = .returned v' ∧ Post base ρ h w ρ' h' w' ∧ VR ρ' v v') : EV P base o ρ h a w v h' := by
  intro next Q hn
  unfold Oper.wp
  rw [hr]
  refine Calls.mono hc fun e w' he => ?_
  obtain ⟨ρ', v', rfl, hp, hv⟩ := he
  exact hn ρ' v' w' hp hv

theorem doCall_sound {base : Base} {call : CallF} (hcall : CallOK P base call) (hcn : CallNext call) (hnc : NoCount P) {t : TypeId} {g : FuncId} {args : List Value} {h : H} {K : Value → H → Option R} {r : R}
    (hh : doCall P call t g args h K = some r) : ∃ v h', K v h' = some r ∧ h.next ≤ h'.next ∧ ∀ (o : Oper) (ρ : Rho) (a : Act) (w : World) (args' : List Value), Sim ρ base h w → VRs ρ args args' →
      execOp a.eval o = callFunc g args'.toArray → EV P base o ρ h a w v h' := by
  unfold doCall at hh
  cases hb : hasBody P g with
  | true =>
    rw [hb] at hh
    simp only [cond_true] at hh
    obtain ⟨v, h', h1, h2⟩ := callK_some hh
    refine ⟨v, h', castT_some h2, hcn _ _ _ _ _ h1, fun o ρ a w args' hs hv he => ?_⟩
    unfold hasBody at hb
    split at hb
    · rename_i fn hf
      refine upon_enter_of (f := g) (args' := args'.toArray) ?_ (hcall g args h v h' h1 ρ w args' hs hv)
      rw [he]
      unfold callFunc
      simp only [Sem.run_bind, run_program, Result.andThen_ok]
      rw [hf]
      simp only [hnc g fn hf, Bool.false_eq_true, ↓reduceIte]
      have : fn.body.isNone = false := by cases hq : fn.body <;> simp_all
      simp only [this, Bool.false_eq_true, ↓reduceIte, Sem.run_pure]
    · cases hb
  | false =>
    rw [hb] at hh
    simp only [cond_false] at hh
    split at hh
    · rename_i fn hf
      split at hh
      · rename_i e hfn hfind
        cases hp : args.all (plainV 4) with
        | false => rw [hp] at hh; cases hh
        | true =>
          rw [hp] at hh
          obtain ⟨v, hv, h1⟩ := optK_some (show optK _ _ = some r from hh)
          cases hpv : plainV 4 v with
          | false => rw [hpv] at h1; cases h1
          | true =>
            rw [hpv] at h1
            refine ⟨v, h, castT_some (K := fun v => K v h) (show (castT P t v fun v => K v h) = some r from h1), Nat.le_refl _, fun o ρ a w args' hs hva he => ?_⟩
            have hae : args' = args := by
              apply List.ext_getElem?
              intro i
              cases hi : args[i]? with
              | none => have := hva.1; rw [List.getElem?_eq_none_iff] at hi ⊢; omega
              | some u =>
                obtain ⟨u', h3, h4⟩ := hva.get hi
                rw [h3, plainV_eq (List.all_eq_true.1 hp u (List.mem_of_getElem? hi)) h4]
            subst hae
            refine EV.of_run (v' := v) (w' := w) ?_ (.refl hs) (plainV_refl hpv)
            rw [he]
            unfold callFunc
            simp only [Sem.run_bind, run_program, Result.andThen_ok]
            rw [hf]
            simp only [hnc g fn hf, Bool.false_eq_true, ↓reduceIte]
            have hbn : fn.body.isNone = true := by
              unfold hasBody at hb
              rw [hf] at hb
              cases hq : fn.body <;> simp_all
            simp only [hbn, ↓reduceIte, Sem.run_bind, run_mark, Result.andThen_ok, hfn, hfind, pureSem_run hv w, Sem.run_pure]
      · cases hh
    · cases hh

theorem iter_obj {ρ : Rho} {base : Base} {h : H} {w : World} {i : Nat} {s : ByteArray} {p : Nat} (hs : Sim ρ base h w) (hi : h.get i = some (.iter s p)) :
    ∃ b K, ρ i = some (b, 0, K) ∧ w.heap[b]? = some (.stringIter s p) ∧ base ≤ b := by
  obtain ⟨b, o, K, obj, hr, hw, hB⟩ := hs.blk i _ hi
  cases obj with
  | stringIter s' p' =>
    obtain ⟨h1, rfl, rfl, rfl⟩ := hB
    exact ⟨b, K, hr, hw, h1⟩
  | _ => exact hB.elim

theorem freeze_alloc (w : World) (C : Array Value) (e : TypeId) : (w.alloc (.cells C e)).freeze ⟨w.heap.size, C.size, none⟩ 1 = w.alloc (.cells C e (C.size, C.size + 1)) := by
  unfold World.freeze
  rw [if_neg (by omega)]
  show ({ w with heap := (w.heap.push (.cells C e)).modify w.heap.size _ } : World) = { w with heap := w.heap.push (.cells C e (C.size, C.size + 1)) }
  congr 1
  apply Array.ext
  · simp
  · intro i h1 h2
    simp only [Array.getElem_modify, Array.getElem_push]
    simp only [Array.size_modify, Array.size_push] at h1
    by_cases hi : i < w.heap.size
    · simp [hi, show ¬ w.heap.size = i by omega]
    · have : i = w.heap.size := by omega
      subst this
      simp

theorem stringToBytes_exec {ρ : Rho} {base : Base} {h : H} {w : World} {e : TypeId} {s : ByteArray} (hs : Sim ρ base h w) :
    ∃ ρ' v' w', (Conv.stringToBytes e s).run P w = .ok v' w' ∧ Post base ρ h w ρ' (h.new (.cells (s.data.toList.map fun b => .int .u8 b.toNat) false)) w' ∧
      VR ρ' (.slice (some ⟨h.next, 0, none⟩) s.size 1) v' := by
  let cap := grownCap w s.size 0 e
  have hcap : s.size ≤ cap := by show s.size ≤ s.size + _ % _; omega
  let C : Array Value := (s.data.map fun b => Value.int .u8 b.toNat) ++ Array.replicate (cap - s.size) (.int .u8 0)
  have hC : C.size = cap := by
    have : s.data.size = s.size := rfl
    simp [C, this]; omega
  have run : (Conv.stringToBytes e s).run P w = .ok (.slice (some ⟨w.heap.size, 0, none⟩) s.size cap) (w.drew.alloc (.cells C e (C.size, C.size + 1))) := by
    unfold Conv.stringToBytes
    simp only [Sem.run_bind, run_choose, Question.forced, Bool.false_eq_true, ↓reduceIte, Result.andThen_ok, newRow_run]
    have e1 : (Question.appendCap s.size 0 e).cut (w.tape w.drawn (.appendCap s.size 0 e)) = cap := rfl
    rw [e1]
    have hsh : ∀ (w : World), (w.alloc (.cells C e)).shape? w.heap.size = some (e, C.size) := by
      intro w
      unfold World.shape?
      rw [show (w.alloc (.cells C e)).heap[w.heap.size]? = some (.cells C e) from by show (w.heap.push _)[w.heap.size]? = _; simp]
    unfold markStringish
    simp only [Sem.run_bind, run_shape]
    have hsh2 : (w.drew.alloc (.cells C e)).shape? w.heap.size = some (e, C.size) := hsh w.drew
    change ((Result.ok ((w.drew.alloc (.cells C e)).shape? w.heap.size) (w.drew.alloc (.cells C e))).andThen _).andThen _ = _
    rw [hsh2]
    simp only [Result.andThen_ok, run_freeze]
    have hfa := freeze_alloc w.drew C e
    change Result.ok _ ((w.drew.alloc (.cells C e)).freeze ⟨w.drew.heap.size, C.size, none⟩ 1) = _
    rw [hfa]
  have hp := newRow_sim (w := w.drew) (e := e) (fr := (C.size, C.size + 1)) (C := C) (cs := s.data.toList.map fun b => .int .u8 b.toNat) (hs.drew rfl)
    (fun j v hj => by
      obtain ⟨b, _, rfl⟩ := List.mem_map.1 (List.mem_of_getElem? hj)
      refine ⟨rfl, _, ?_, .int _ _⟩
      have hlt := (List.getElem?_eq_some_iff.1 hj).1
      simp at hlt
      rw [Array.getElem?_append_left (by simpa using hlt)]
      simpa using hj)
    (fun j h1 h2 _ => by simp at h2; omega)
  refine ⟨_, _, _, run, (PostG.drew (w' := w.drew) hs rfl rfl rfl rfl).trans hp, ?_⟩
  have := VR.slice (ρ := ρ.ins h.next (w.drew.heap.size, 0, C.size)) (i := h.next) (o := 0) (st := 1) (len := s.size) (cap := cap) (Rho.ins_same _ _ _) hcap (by omega)
  simpa using this

theorem zero_no_slice {t : TypeId} {z : Value} (hz : zeroA P t = some z) {i o n st : Nat} (hm : Value.slice (some ⟨i, o, none⟩) n st ∈ z.cells.toList) : False := by
  obtain ⟨h1, h2, _⟩ := zeroA_spec hz
  cases z with
  | agg cs =>
    have h3 : (cs.toList.all fun c => c.oneCell' && plainV 3 c) = true := h1
    have h4 := List.all_eq_true.1 h3 _ hm
    simp [plainV] at h4
  | slice a n' c' =>
    have h3 : Value.slice (some ⟨i, o, none⟩) n st = .slice a n' c' := by simpa [Value.cells] using hm
    cases h3
    simp [plainV] at h1
  | _ => simp [Value.cells] at hm
theorem evEff_sound {base : Base} {call : CallF} (hcall : CallOK P base call) (hcn : CallNext call) (hnc : NoCount P) {o : Oper} {env : Env} {h : H} {K : Value → H → Option R} {r : R}
    (hh : evEff P call o env h K = some r) : ∃ v h', K v h' = some r ∧ h.next ≤ h'.next ∧ ∀ ρ a w, Sim ρ base h w → ORel ρ env a.eval o.op.operands → EV P base o ρ h a w v h' := by
  unfold evEff at hh
  split at hh
  · rename_i t ad x ho
    obtain ⟨av, hav, h1⟩ := optK_some hh
    obtain ⟨v, hv, h2⟩ := optK_some h1
    obtain ⟨i, p, he, h3⟩ := addrK_some h2
    subst he
    cases ht : isTup v with
    | true => rw [ht] at h3; cases h3
    | false =>
      rw [ht] at h3
      obtain ⟨c1, h4⟩ := ifK_some (show ifK _ _ = some r from h3)
      obtain ⟨h', hst, h5⟩ := optK_some h4
      refine ⟨_, _, h5, Nat.le_of_eq (stCells_next hst).symm, fun ρ a w hs hr => ?_⟩
      have hr' : ORel ρ env a.eval #[ad, x] := by simpa [ho, Op.operands] using hr
      have ha := hr' ad (by simp) _ hav
      have hx := hr' x (by simp) v hv
      obtain ⟨b, c, K0, w', hrr, hrun, hp⟩ := stCells_sim (P := P) hs hst hx.cells (hx.cells_one ht)
      generalize ea : a.eval ad = a' at ha
      cases ha with
      | ptr hr2 =>
        rw [hrr] at hr2; cases hr2
        refine EV.of_skip (w' := w') ?_ hp
        unfold execOp; rw [ho]
        simp only [ea, Instr.storeAt, Sem.run_bind, sureAddr_run, Result.andThen_ok, storeVar, sizeOf_run c1]
        have hsz : (a.eval x).cells.size = v.cells.size := by have := hx.cells.1; simpa using this.symm
        rw [if_neg (by simp [hsz])]
        rw [hrun]
        rfl
  · rename_i s d x ho
    obtain ⟨v, hv, h1⟩ := optK_some hh
    split at h1
    · rename_i e hus hud
      split at h1
      · rename_i hue
        obtain ⟨str, hstr, h2⟩ := optK_some h1
        refine ⟨_, _, h2, by first | exact Nat.le_refl _ | exact Nat.le_succ _, fun ρ a w hs hr => ?_⟩
        have hx := (by simpa [ho, Op.operands] using hr : ORel ρ env a.eval #[x]) x (by simp) v hv
        have h3 := strOf_exec (P := P) hs hstr hx
        refine EV.of_run (v' := .string str) (w' := w) ?_ (.refl hs) (.string _)
        unfold execOp; rw [ho]
        have hconv : (convert s d (a.eval x)).run P w = .ok (.string str) w := by
          unfold convert
          simp only [Sem.run_bind, underlying_run hus, underlying_run hud, Result.andThen_ok]
          have hsl : ∃ q1 q2 q3, a.eval x = .slice q1 q2 q3 := by
            generalize a.eval x = x' at hx
            unfold strOf at hstr
            split at hstr
            · cases hx; exact ⟨_, _, _, rfl⟩
            · obtain ⟨q1, q2, e, _⟩ := hx.slice_inv; exact ⟨_, _, _, e⟩
            · cases hstr
          obtain ⟨q1, q2, q3, hq⟩ := hsl
          rw [hq] at h3 ⊢
          simp only [Sem.run_bind, underlying_run hue, Result.andThen_ok]
          exact h3
        simp only [Sem.run_bind, hconv, Result.andThen_ok, Sem.run_pure]
      · cases h1
    · rename_i e hus hud
      split at h1
      · rename_i str hue
        obtain ⟨c1, h2⟩ := ifK_some h1
        refine ⟨_, _, h2, by first | exact Nat.le_refl _ | exact Nat.le_succ _, fun ρ a w hs hr => ?_⟩
        have hx := (by simpa [ho, Op.operands] using hr : ORel ρ env a.eval #[x]) x (by simp) _ hv
        generalize ea : a.eval x = x' at hx
        cases hx
        obtain ⟨ρ', v', w', h3, h4, h5⟩ := stringToBytes_exec (P := P) (e := e) (s := str) hs
        refine EV.of_run (v' := v') (w' := w') ?_ h4 h5
        unfold execOp; rw [ho]
        simp only [ea, convert, Sem.run_bind, underlying_run hus, underlying_run hud, underlying_run hue, Result.andThen_ok, h3, Sem.run_pure]
      · cases h1
    · cases h1
  · rename_i args argTypes ho
    obtain ⟨vs, hvs, h1⟩ := optK_some hh
    split at h1
    · rename_i s x
      obtain ⟨v, h', h2, hnx, h3⟩ := append_exec h1
      refine ⟨v, h', castT_some (K := fun v => K v h') h2, hnx, fun ρ a w hs hr => ?_⟩
      have hv := opnds_rel (ρ := ρ) (ev := a.eval) hvs (fun y hy u hu => hr y (by simp only [ho, Op.operands, Call.operands]; simpa using hy) u hu)
      match hm : args.toList.map a.eval, hv with
      | [], hv => have := hv.1; simp at this
      | [_], hv => have := hv.1; simp at this
      | _ :: _ :: _ :: _, hv => have := hv.1; simp at this
      | [s', x'], hv =>
        obtain ⟨ρ', v', w', h4, h5, h6⟩ := h3 (ty := o.type) hs hv.head hv.tail.head
        refine EV.of_run (v' := v') (w' := w') ?_ h5 h6
        have e : args.map a.eval = #[s', x'] := by apply Array.ext'; simpa using hm
        unfold execOp; rw [ho]
        simp only [resolve, e, Sem.run_bind, Sem.run_pure, Result.andThen_ok, invoke, builtin, h4]
    · cases h1
  · rename_i args argTypes ho
    obtain ⟨vs, hvs, h1⟩ := optK_some hh
    split at h1
    · rename_i s x
      obtain ⟨v, h', h2, hnx, h3⟩ := copy_exec h1
      refine ⟨v, h', castT_some (K := fun v => K v h') h2, hnx, fun ρ a w hs hr => ?_⟩
      have hv := opnds_rel (ρ := ρ) (ev := a.eval) hvs (fun y hy u hu => hr y (by simp only [ho, Op.operands, Call.operands]; simpa using hy) u hu)
      match hm : args.toList.map a.eval, hv with
      | [], hv => have := hv.1; simp at this
      | [_], hv => have := hv.1; simp at this
      | _ :: _ :: _ :: _, hv => have := hv.1; simp at this
      | [s', x'], hv =>
        obtain ⟨ρ', v', w', h4, h5, h6⟩ := h3 (ty := o.type) hs hv.head hv.tail.head
        refine EV.of_run (v' := v') (w' := w') ?_ h5 h6
        have e : args.map a.eval = #[s', x'] := by apply Array.ext'; simpa using hm
        unfold execOp; rw [ho]
        simp only [resolve, e, Sem.run_bind, Sem.run_pure, Result.andThen_ok, invoke, builtin, h4]
    · cases h1
  · rename_i f args ats ho
    obtain ⟨fv, hfv, h1⟩ := optK_some hh
    obtain ⟨vs, hvs, h2⟩ := optK_some h1
    unfold callVK at h2
    split at h2
    · rename_i g first captured
      obtain ⟨v, h', h3', hnx, h4⟩ := doCall_sound hcall hcn hnc h2
      have h3 := castT_some h3'
      refine ⟨v, h', h3, hnx, fun ρ a w hs hr => ?_⟩
      have hops : o.op.operands = #[f] ++ args := by rw [ho]; rfl
      have hv := opnds_rel (ρ := ρ) (ev := a.eval) hvs (fun y hy u hu => hr y (by rw [hops]; simp; exact .inr (by simpa using hy)) u hu)
      have hf := hr f (by rw [hops]; simp) _ hfv
      obtain ⟨first', captured', ef, r1, r2⟩ := hf.func_inv
      refine h4 o ρ a w (first'.toList ++ args.toList.map a.eval ++ captured'.toList) hs ((r1.append hv).append r2) ?_
      unfold execOp; rw [ho]
      simp only [resolve, ef, Deferred.ofValue, pure_bind, invoke]
      congr 1
      apply Array.ext'
      simp
    · cases h2
  · rename_i t x ho
    obtain ⟨v, hv, h1⟩ := optK_some hh
    split at h1
    · rename_i s hu
      refine ⟨_, _, h1, by first | exact Nat.le_refl _ | exact Nat.le_succ _, fun ρ a w hs hr => ?_⟩
      have hx := (by simpa [ho, Op.operands] using hr : ORel ρ env a.eval #[x]) x (by simp) _ hv
      generalize ea : a.eval x = x' at hx
      cases hx
      have hp := PostG.alloc hs (.iter s 0) 0 (.stringIter s 0) ⟨hs.based, rfl, rfl, rfl⟩
      refine EV.of_run (v' := .pointer (some ⟨w.heap.size, 0, none⟩)) (w' := w.alloc (.stringIter s 0)) ?_ hp ?_
      · unfold execOp; rw [ho]
        simp only [ea, Instr.range, Sem.run_bind, underlying_run hu, Result.andThen_ok, Sem.run_pure, run_newObj]
        rfl
      · have := VR.ptr (ρ := ρ.ins h.next (w.heap.size, 0, 0)) (i := h.next) (o := 0) (Rho.ins_same _ _ _)
        simpa using this
    · cases h1
  · rename_i it ho
    obtain ⟨v, hv, h1⟩ := optK_some hh
    obtain ⟨i, p, he, h2⟩ := addrK_some h1
    obtain ⟨hp0, h3⟩ := ifK_some h2
    subst he; subst hp0
    unfold nextK at h3
    split at h3
    · rename_i s pos hi
      have pre : ∀ (ρ : Rho) (a : Act) (w : World), Sim ρ base h w → ORel ρ env a.eval o.op.operands → ∃ b K0, ρ i = some (b, 0, K0) ∧ w.heap[b]? = some (.stringIter s pos) ∧ base ≤ b ∧ a.eval it = .pointer (some ⟨b, 0, none⟩) := by
        intro ρ a w hs hr
        have hx := (by simpa [ho, Op.operands] using hr : ORel ρ env a.eval #[it]) it (by simp) _ hv
        obtain ⟨b, K0, hr1, hw, hb⟩ := iter_obj hs hi
        generalize ea : a.eval it = x' at hx
        cases hx with
        | ptr hr2 => rw [hr1] at hr2; cases hr2; exact ⟨b, K0, hr1, hw, hb, by simp⟩
      split at h3
      · rename_i hlt
        refine ⟨_, _, h3, by first | exact Nat.le_refl _ | exact Nat.le_succ _, fun ρ a w hs hr => ?_⟩
        obtain ⟨b, K0, hr1, hw, hb, ea⟩ := pre ρ a w hs hr
        have hg := getObj_run (P := P) hw (fun _ _ _ => by simp)
        obtain ⟨q1, q2⟩ := setObj_run (P := P) (o' := .stringIter s (pos + (Utf8.decode s pos).2)) hw (fun _ _ _ => by simp)
        refine EV.of_run (v' := .tuple #[.bool true, .int .i64 pos, .int .i32 (Utf8.decode s pos).1]) ?_ (PostG.write hs hi rfl hr1 q2 ⟨hb, rfl, rfl, rfl⟩)
          (.tuple' (.cons (.bool _) (.cons (.int _ _) (.cons (.int _ _) (.nil ρ)))))
        unfold execOp; rw [ho]
        simp only [ea, Instr.next, Sem.run_bind, hg, Result.andThen_ok]
        rw [if_pos hlt]
        simp only [Sem.run_bind, q1, Result.andThen_ok]
        rfl
      · rename_i hlt
        refine ⟨_, _, h3, by first | exact Nat.le_refl _ | exact Nat.le_succ _, fun ρ a w hs hr => ?_⟩
        obtain ⟨b, K0, hr1, hw, hb, ea⟩ := pre ρ a w hs hr
        have hg := getObj_run (P := P) hw (fun _ _ _ => by simp)
        refine EV.of_run (v' := .tuple #[.bool false]) (w' := w) ?_ (.refl hs) (.tuple' (.cons (.bool _) (.nil ρ)))
        unfold execOp; rw [ho]
        simp only [ea, Instr.next, Sem.run_bind, hg, Result.andThen_ok]
        rw [if_neg hlt]
        rfl
    · cases h3
  · rename_i t ho
    refine ⟨_, _, hh, by first | exact Nat.le_refl _ | exact Nat.le_succ _, fun ρ a w hs hr => ?_⟩
    have hp := PostG.alloc hs (.map []) 0 (.map #[] 0) ⟨hs.based, rfl, fun i e m he => by simp at he⟩
    refine EV.of_run (v' := .map (some w.heap.size)) (w' := w.alloc (.map #[] 0)) ?_ hp (.map (Rho.ins_same _ _ _))
    unfold execOp; rw [ho]
    rfl
  · rename_i t m k x ho
    obtain ⟨mv, hmv, h1⟩ := optK_some hh
    obtain ⟨kv, hkv, h2⟩ := optK_some h1
    obtain ⟨xv, hxv, h3⟩ := optK_some h2
    split at h3
    · rename_i kt et i ht
      cases hk : keyOk (P.underlying kt) kv with
      | false => rw [hk] at h3; cases h3
      | true =>
        rw [hk] at h3
        simp only [cond_true] at h3
        split at h3
        · rename_i es hi
          obtain ⟨es', hset, h4⟩ := optK_some h3
          refine ⟨_, _, h4, by first | exact Nat.le_refl _ | exact Nat.le_succ _, fun ρ a w hs hr => ?_⟩
          have hr' : ORel ρ env a.eval #[m, k, x] := by simpa [ho, Op.operands] using hr
          obtain ⟨d, hd⟩ : ∃ d, P.underlying kt = some d := by
            cases hq : P.underlying kt with
            | none => rw [hq] at hk; simp [keyOk] at hk
            | some d => exact ⟨d, rfl⟩
          rw [hd] at hk hset
          have hkk := plainV_eq (keyOk_plain hk) (hr' k (by simp) kv hkv)
          obtain ⟨w', q1, q2⟩ := mapUpdate_exec (P := P) hs ht hd hk hi hset (hr' m (by simp) _ hmv) (hr' x (by simp) xv hxv)
          refine EV.of_skip (w' := w') ?_ q2
          unfold execOp; rw [ho]
          simp only [hkk, Sem.run_bind, q1, Result.andThen_ok, Sem.run_pure]
        · cases h3
    · cases h3
  · rename_i t m k ok ho
    obtain ⟨mv, hmv, h1⟩ := optK_some hh
    obtain ⟨kv, hkv, h2⟩ := optK_some h1
    split at h2
    · rename_i kt et ht
      cases hk : keyOk (P.underlying kt) kv with
      | false => rw [hk] at h2; cases h2
      | true =>
        rw [hk] at h2
        simp only [cond_true] at h2
        split at h2
        · rename_i es hes
          obtain ⟨f, hf, h3⟩ := optK_some h2
          obtain ⟨d, hd⟩ : ∃ d, P.underlying kt = some d := by
            cases hq : P.underlying kt with
            | none => rw [hq] at hk; simp [keyOk] at hk
            | some d => exact ⟨d, rfl⟩
          rw [hd] at hk hf
          have run : ∀ z, (f = none → zeroA P et = some z) → ∀ (ρ : Rho) (a : Act) (w : World), Sim ρ base h w → ORel ρ env a.eval o.op.operands →
              ∃ v', (execOp a.eval o).run P w = .ok (.value (if ok then .tuple #[v', .bool f.isSome] else v')) w ∧ VR ρ (f.getD z) v' := by
            intro z hz ρ a w hs hr
            have hr' : ORel ρ env a.eval #[m, k] := by simpa [ho, Op.operands] using hr
            have hkk := plainV_eq (keyOk_plain hk) (hr' k (by simp) kv hkv)
            obtain ⟨v', q1, q2⟩ := lookup_exec (P := P) (ok := ok) hs ht hd hk hes hf (hr' m (by simp) mv hmv) z hz
            refine ⟨v', ?_, q2⟩
            unfold execOp; rw [ho]
            simp only [hkk, Sem.run_bind, q1, Result.andThen_ok, Sem.run_pure]
          cases f with
          | some v =>
            simp only at h3
            cases ok with
            | true =>
              refine ⟨_, _, h3, by first | exact Nat.le_refl _ | exact Nat.le_succ _, fun ρ a w hs hr => ?_⟩
              obtain ⟨v', q1, q2⟩ := run v (fun h => by cases h) ρ a w hs hr
              exact EV.of_run q1 (.refl hs) (.tuple' (.cons q2 (.cons (.bool _) (.nil ρ))))
            | false =>
              refine ⟨_, _, castT_some (K := fun v => K v h) (show (castT P o.type v fun v => K v h) = some r from h3), Nat.le_refl _, fun ρ a w hs hr => ?_⟩
              obtain ⟨v', q1, q2⟩ := run v (fun h => by cases h) ρ a w hs hr
              exact EV.of_run q1 (.refl hs) q2
          | none =>
            simp only at h3
            obtain ⟨z, hz, h4⟩ := optK_some h3
            cases ok with
            | true =>
              refine ⟨_, _, (show K (.tuple #[z, .bool false]) h = some r from h4), Nat.le_refl _, fun ρ a w hs hr => ?_⟩
              obtain ⟨v', q1, q2⟩ := run z (fun _ => hz) ρ a w hs hr
              exact EV.of_run q1 (.refl hs) (.tuple' (.cons q2 (.cons (.bool _) (.nil ρ))))
            | false =>
              refine ⟨_, _, castT_some (K := fun v => K v h) (show (castT P o.type z fun v => K v h) = some r from h4), Nat.le_refl _, fun ρ a w hs hr => ?_⟩
              obtain ⟨v', q1, q2⟩ := run z (fun _ => hz) ρ a w hs hr
              exact EV.of_run q1 (.refl hs) q2
        · cases h2
    · cases h2
  · rename_i t ho
    cases hb : isBld P t with
    | false => rw [hb] at hh; cases hh
    | true =>
      rw [hb] at hh
      obtain ⟨z, hz, h1⟩ := optK_some (show optK _ _ = some r from hh)
      obtain ⟨z1, z2, _⟩ := zeroA_spec hz
      refine ⟨_, _, h1, Nat.le_succ _, fun ρ a w hs hr => ?_⟩
      have hp := PostG.alloc hs (.typed t z.cells.toList true) z.cells.size (.cells z.cells t (0, 0)) ⟨fun j v hj => by
        obtain ⟨q1, v', q2, q3⟩ := rel_cells (ρ := ρ) (plainV_refl z1) z2 j v hj
        refine ⟨q1, v', q2, q3, fun i o n st e => ?_⟩
        subst e
        have hm : Value.slice (some ⟨i, o, none⟩) n st ∈ z.cells.toList := List.mem_of_getElem? hj
        exact absurd (zero_no_slice hz hm) id, hs.based, rfl, by simp, rfl, rfl, rfl, fun _ => by simp⟩
      refine EV.of_run (v' := .pointer (some ⟨w.heap.size, 0, none⟩)) (w' := w.alloc (.cells z.cells t)) ?_ hp ?_
      · unfold execOp; rw [ho]
        simp only [Instr.alloc, Sem.run_bind, pureSem_run (pureSem_zeroValue hz), Result.andThen_ok, newVar, newRow_run, Sem.run_pure]
      · have := VR.ptr (ρ := ρ.ins h.next (w.heap.size, 0, z.cells.size)) (i := h.next) (o := 0) (Rho.ins_same _ _ _)
        simpa using this
  · cases hh
end
end Go.Ev
