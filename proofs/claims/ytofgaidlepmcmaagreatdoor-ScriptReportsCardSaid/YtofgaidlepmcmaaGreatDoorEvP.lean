/-
  Short names for what the evaluator comes to over arguments that are variables; laws to rewrite with.
-/
import Derived.Test.YtofgaidlepmcmaaGreatDoorEvO
namespace Go.Ev
open Go

section
variable {R : Type} (P : Program)

/-- Cast to a Bool, the two ways told apart. -/
def castBB (v : Value) (T F : Option R) : Option R :=
  match v with
  | .bool b => match b with
    | true => T
    | false => F
  | _ => none

/-- A piece of a body, by the way to it. -/
def pc : List Nat → Code → Code
  | [], c => c
  | 0 :: r, .seq a _ => pc r a
  | 1 :: r, .seq _ b => pc r b
  | 0 :: r, .cond _ a _ => pc r a
  | 1 :: r, .cond _ _ b => pc r b
  | 0 :: r, .block _ a => pc r a
  | 0 :: r, .loop a => pc r a
  | 0 :: r, .scope a => pc r a
  | _, _ => .skip
/-- A function's body. -/
def bd (fn : Func) : Code :=
  match fn.body with
  | some c => c
  | none => .skip

theorem optK_mk {α : Type} {v : α} {K : α → Option R} : optK (some v) K = K v := rfl
theorem castI_mk {k : IntKind} {n : Int} {K : Int → Option R} : castI k (.int k n) K = K n := by simp [castI]
theorem castB_mk {b : Bool} {K : Bool → Option R} : castB (.bool b) K = K b := by cases b <;> rfl
theorem castV_mk {b : Bool} {K : Bool → Option R} : castV (.bool b) K = K b := rfl
theorem castBB_mk {b : Bool} {T F : Option R} : castBB (.bool b) T F = bif b then T else F := by cases b <;> rfl
theorem castS_mk {s : ByteArray} {K : ByteArray → Option R} : castS (.string s) K = K s := rfl
theorem castSl_mk {a : Option Addr} {n c : Nat} {K : Option Addr → Nat → Nat → Option R} : castSl (.slice a n c) K = K a n c := rfl
theorem castP_mk {a : Option Addr} {K : Option Addr → Option R} : castP (.pointer a) K = K a := rfl
theorem castA_mk {a : Array Value} {K : Array Value → Option R} : castA (.agg a) K = K a := rfl
theorem addrK_mk {i o : Nat} {K : Nat → Nat → Option R} : addrK (.pointer (some ⟨i, o, none⟩)) K = K i o := rfl
theorem callK_mk {call : CallF} {f : FuncId} {args : List Value} {h h' : H} {v : Value} {K : Value → H → Option R} (e : call f args h = some (v, h')) : callK call f args h K = K v h' := by
  unfold callK; rw [e]
theorem ifK_true {k : Option R} : ifK True k = k := rfl
theorem ifK_pos {c : Prop} [Decidable c] {k : Option R} (h : c) : ifK c k = k := if_pos h

theorem evLoop_succ {step : Env → H → (Exit → Env → H → Option R) → Option R} {d d' dr : Option (List Nat)} {n : Nat} {env : Env} {h : H} {K : Exit → Env → H → Option R} :
    evLoop step d d' dr (n + 1) env h K = step env h (loopK (fun env h => evLoop step d d' dr n env h K) d d' dr K) := rfl
theorem seqK_normal {b : Env → H → Option R} {K : Exit → Env → H → Option R} {env : Env} {h : H} : seqK b K .normal env h = b env h := rfl
theorem seqK_ret {b : Env → H → Option R} {K : Exit → Env → H → Option R} {env : Env} {h : H} : seqK b K .ret env h = K .ret env h := rfl
theorem seqK_exit {b : Env → H → Option R} {K : Exit → Env → H → Option R} {env : Env} {h : H} {i : Nat} : seqK b K (.exit i) env h = K (.exit i) env h := rfl
theorem loopK_normal {b : Env → H → Option R} {d d' dr : Option (List Nat)} {K : Exit → Env → H → Option R} {env : Env} {h : H} : loopK b d d' dr K .normal env h = b (forget env d) h := rfl
theorem loopK_ret {b : Env → H → Option R} {d d' dr : Option (List Nat)} {K : Exit → Env → H → Option R} {env : Env} {h : H} : loopK b d d' dr K .ret env h = K .ret (forget env dr) h := rfl
theorem loopK_exit {b : Env → H → Option R} {d d' dr : Option (List Nat)} {K : Exit → Env → H → Option R} {env : Env} {h : H} {i : Nat} : loopK b d d' dr K (.exit i) env h = K (.exit i) (forget env d') h := rfl

variable {P}
theorem jumpK_mk {o : Option (Exit × Env × H)} {x : Exit} {env : Env} {h : H} {K : Exit → Env → H → Option R} (e : o = some (x, env, h)) : jumpK o K = K x env h := by subst e; rfl
/-! ### memory -/
theorem ldV_cell {t : TypeId} {i o : Nat} {h : H} {c : List Value} {ro : Bool} (ha : aggT P t = some false) (hg : h.get i = some (.cells c ro)) : ldV P t i o h = c[o]? := by
  unfold ldV ldCell; rw [ha]; simp only [hg]

theorem castTup_mk {vs : Array Value} {K : List Value → Option R} : castTup (.tuple vs) K = K vs.toList := rfl
theorem headK_mk {v : Value} {l : List Value} {K : Value → List Value → Option R} : headK (v :: l) K = K v l := rfl
theorem nilK_mk {K : Unit → Option R} : nilK [] K = K () := rfl
theorem blockK_exit {id : Nat} {K : Exit → Env → H → Option R} {env : Env} {h : H} : blockK id K (.exit id) env h = K .normal env h := by simp [blockK]
theorem blockK_other {id j : Nat} {K : Exit → Env → H → Option R} {env : Env} {h : H} (hj : Nat.beq j id = false) : blockK id K (.exit j) env h = K (.exit j) env h := by simp only [blockK, hj, cond_false]
theorem blockK_normal {id : Nat} {K : Exit → Env → H → Option R} {env : Env} {h : H} : blockK id K .normal env h = K .normal env h := rfl
theorem blockK_ret {id : Nat} {K : Exit → Env → H → Option R} {env : Env} {h : H} : blockK id K .ret env h = K .ret env h := rfl

theorem ldCells_of {i o n : Nat} {h : H} {c : List Value} {ro : Bool} (hg : h.get i = some (.cells c ro)) (hl : o + n ≤ c.length) : ldCells h i o n = some ((c.drop o).take n) := by
  unfold ldCells; rw [hg]; simp only [Nat.ble_eq_true_of_le hl, cond_true]
theorem stCells_of {i o : Nat} {vs : List Value} {h : H} {c : List Value} (hg : h.get i = some (.cells c false)) (hl : o + vs.length ≤ c.length) : stCells h i o vs = some (h.put i (.cells (setRange c o vs) false)) := by
  unfold stCells; rw [hg]; simp only [Nat.ble_eq_true_of_le hl, cond_true]

/-- What an append's types say. -/
def appOk (P : Program) (argTypes : Array TypeId) (sz bytes : Nat) : Bool :=
  match argTypes.toList with
  | [st, xt] =>
    match P.underlying st, P.underlying xt with
    | some (.slice e), some xd =>
      match P.info? e, zeroA P e with
      | some inf, some z => decide (z.cells.size = inf.size ∧ 1 ≤ inf.bytes ∧ isSeq xd = true) && Nat.beq inf.size sz && Nat.beq inf.bytes bytes
      | _, _ => false
    | _, _ => false
  | _ => false

theorem appendA_of {ts : Array TypeId} {sz bytes : Nat} (hok : appOk P ts sz bytes = true) {s x : Value} {h : H} {K : Value → H → Option R} {m : Nat} {new : List Value}
    (hsrc : ∀ (R' : Type) (K' : Nat → List Value → Option R'), srcCells h sz x K' = K' (m + 1) new) :
    (s = .slice none 0 0 → (m + 1) * bytes ≤ 35184372088832 → appendA P ts s x h K = K (.slice (some ⟨h.next, 0, none⟩) (m + 1) sz) (h.new (.cells new false))) ∧
    (∀ i o n c, s = .slice (some ⟨i, o, none⟩) n sz → h.get i = some (.cells c false) → o + n * sz ≤ c.length → (n + (m + 1)) * bytes ≤ 35184372088832 →
      appendA P ts s x h K = K (.slice (some ⟨h.next, 0, none⟩) (n + (m + 1)) sz) ((h.del i).new (.cells ((c.drop o).take (n * sz) ++ new) false))) := by
  unfold appOk at hok
  split at hok
  · rename_i st xt hts
    split at hok
    · rename_i e xd h1 h2
      split at hok
      · rename_i inf z h3 h4
        simp only [Bool.and_eq_true, decide_eq_true_eq] at hok
        obtain ⟨⟨h5, h6⟩, h7⟩ := hok
        have h6 := Nat.eq_of_beq_eq_true h6
        have h7 := Nat.eq_of_beq_eq_true h7
        subst h6; subst h7
        refine ⟨fun hs hb => ?_, fun i o n c hs hg hl hb => ?_⟩
        · subst hs
          unfold appendA
          rw [hts]
          simp only [h1, h2, h3, h4, optK_mk, ifK_pos h5, hsrc]
          exact ifK_pos hb
        · subst hs
          unfold appendA
          rw [hts]
          simp only [h1, h2, h3, h4, optK_mk, ifK_pos h5, hsrc, ifK_true, ldCells_of hg hl, hg]
          exact ifK_pos hb
      · cases hok
    · cases hok
  · cases hok
theorem srcCells_slice {i o n sz : Nat} {h : H} {c : List Value} {ro : Bool} (hg : h.get i = some (.cells c ro)) (hl : o + n * sz ≤ c.length) {K : Nat → List Value → Option R} :
    srcCells h sz (.slice (some ⟨i, o, none⟩) n sz) K = K n ((c.drop o).take (n * sz)) := by
  cases n with
  | zero => simp [srcCells]
  | succ n => simp only [srcCells, ifK_true, ldCells_of hg hl, optK_mk]

theorem sliceA_of {t e : TypeId} {st : Nat} (hu : P.underlying t = some (.slice e)) (hc : cellsOf P e = some st) {i o n : Nat} {lo hi : Option Value} {K : Value → Option R} :
    sliceA P t (.slice (some ⟨i, o, none⟩) n st) lo hi K = boundK 0 lo fun l => boundK n hi fun h => ifK (0 ≤ l ∧ l ≤ h ∧ h ≤ n) (K (.slice (some ⟨i, o + l.toNat * st, none⟩) (h - l).toNat st)) := by
  simp only [sliceA, hu, hc, optK_mk, ifK_true]

theorem copyA_of {ts : Array TypeId} {dt xt e : TypeId} {sz : Nat} (hts : ts.toList = [dt, xt]) (hu : P.underlying dt = some (.slice e)) (hc : cellsOf P e = some sz) {x : Value} {h : H} {m : Nat} {new : List Value}
    (hsrc : ∀ (R' : Type) (K' : Nat → List Value → Option R'), srcCells h sz x K' = K' m new) {i o n : Nat} {K : Value → H → Option R} :
    copyA P ts (.slice (some ⟨i, o, none⟩) n sz) x h K = optK (stCells h i o (new.take (Nat.min m n * sz))) fun h' => K (.int .i64 (Nat.min m n : Nat)) h' := by
  simp only [copyA, hts, hu, hc, hsrc, ifK_true]

/-- One more cell. -/
theorem appendA_one {ts : Array TypeId} {bytes : Nat} (hok : appOk P ts 1 bytes = true) {h : H} {K : Value → H → Option R} {j : Nat} {v : Value} {ro : Bool} (hj : h.get j = some (.cells [v] ro)) (hby : bytes ≤ 1000) :
    (appendA P ts (.slice none 0 0) (.slice (some ⟨j, 0, none⟩) 1 1) h K = K (.slice (some ⟨h.next, 0, none⟩) 1 1) (h.new (.cells [v] false))) ∧
    (∀ i o n c, h.get i = some (.cells c false) → o + n ≤ c.length → n < 10000000000 →
      appendA P ts (.slice (some ⟨i, o, none⟩) n 1) (.slice (some ⟨j, 0, none⟩) 1 1) h K = K (.slice (some ⟨h.next, 0, none⟩) (n + 1) 1) ((h.del i).new (.cells ((c.drop o).take n ++ [v]) false))) := by
  have hsrc : ∀ (R' : Type) (K' : Nat → List Value → Option R'), srcCells h 1 (.slice (some ⟨j, 0, none⟩) 1 1) K' = K' (0 + 1) [v] := fun R' K' => by
    rw [srcCells_slice hj (by simp)]; rfl
  refine ⟨?_, fun i o n c hg hl hn => ?_⟩
  · obtain ⟨h1, _⟩ := appendA_of (K := K) (s := .slice none 0 0) hok hsrc
    exact h1 rfl (by omega)
  · obtain ⟨_, h2⟩ := appendA_of (K := K) (s := .slice (some ⟨i, o, none⟩) n 1) hok hsrc
    have := h2 i o n c rfl hg (by omega) (by
      have : (n + (0 + 1)) * bytes ≤ (n + 1) * 1000 := Nat.mul_le_mul (by omega) hby
      omega)
    simpa using this

end
end Go.Ev
