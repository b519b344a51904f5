/-
  ScriptReports: the row's closed facts, who goes.
-/
import Derived.Test.YtofgaidlepmcmaaGreatDoorCards
import Derived.Test.YtofgaidlepmcmaaGreatDoorTie
import Derived.ProofKit
import Derived.JoinedCond
import Derived.KernelRfl
namespace Go.Proofs.YtofgaidlepmcmaaGreatDoor
open Go.ChangeShapes Go.WideShapes Go.ChangeAt Go.RowKit
set_option linter.unusedVariables false

theorem still : Tryz.prog.funcs.all (fun fn => !fn.goes) = true := by kernel_rfl
theorem goes_none {P : Program} (h : P.funcs.all (fun fn => !fn.goes) = true) (f : FuncId) : P.goes f = false := by
  have hf : ∀ g : Nat, (P.funcs[g]?).any Func.goes = false := by
    intro g
    cases hg : P.funcs[g]? with
    | none => rfl
    | some fn =>
      have := Array.all_eq_true_iff_forall_mem.1 h fn (Array.mem_of_getElem? hg)
      simpa using this
  have hall : P.funcs.any Func.goes = false := by
    rw [Array.any_eq_false]
    intro i hi
    have := hf i
    rw [Array.getElem?_eq_getElem hi] at this
    simpa using this
  unfold Program.goes
  rw [hall, Bool.and_false, Bool.or_false]
  have e : (fun g : Nat => (P.funcs[g]?).any Func.goes) = fun _ => false := funext hf
  rw [e]
  induction P.closure f with
  | nil => rfl
  | cons a l ih => simp
theorem goes : false = Rows.scriptReportsRow.goesBy Tryz.pinned.checked.prog := by
  have h : ∀ f, Tryz.pinned.checked.prog.goes f = false := fun f => goes_none (P := Tryz.prog) still f
  unfold OpenClaim.goesBy Program.goesAt Program.goesFrom
  have e : Tryz.pinned.checked.prog.goes = fun _ => false := funext h
  rw [e]
  cases Tryz.pinned.checked.prog.funcNamed Rows.scriptReportsRow.func <;> rfl
end Go.Proofs.YtofgaidlepmcmaaGreatDoor
