/-
  ScriptReports: the row's closed facts, the other half.
-/
import Derived.Test.YtofgaidlepmcmaaGreatDoorCards
import Derived.Test.YtofgaidlepmcmaaGreatDoorTie
import Derived.ProofKit
import Derived.JoinedCond
import Derived.KernelRfl
import Derived.Test.YtofgaidlepmcmaaGreatDoorFa31
namespace Go.Proofs.YtofgaidlepmcmaaGreatDoor
open Go.ChangeShapes Go.WideShapes Go.ChangeAt Go.RowKit
set_option linter.unusedVariables false

theorem c_recurses : (Rows.scriptReportsRow.recurses == Tryz.prog.recurses 3) = true := by kernel_rfl
theorem c_named : (Rows.scriptReportsRow.named == Tryz.prog.varsNamed 3) = true := by kernel_rfl
theorem c_plainKeys : (Rows.scriptReportsRow.plainKeys == Tryz.prog.plainKeys) = true := by kernel_rfl
theorem and_mk {a b : Bool} (h1 : a = true) (h2 : b = true) : (a && b) = true := by rw [h1, h2]; rfl
set_option maxHeartbeats 4000000 in
theorem closed : joinedFacts Tryz.prog 3 Tryz.f3 (OpenSpec.ofChange Rows.scriptReportsSpec).bare Rows.scriptReportsRow = true := by
  unfold joinedFacts
  refine and_mk (and_mk (and_mk (and_mk (and_mk (and_mk (and_mk (and_mk (and_mk (and_mk (and_mk (and_mk (and_mk (and_mk (and_mk (and_mk (and_mk (and_mk (and_mk (and_mk (and_mk (and_mk (and_mk (and_mk (and_mk (and_mk (and_mk (and_mk (and_mk (and_mk (and_mk ?c1 ?c2) ?c3) ?c4) ?c5) ?c6) ?c7) ?c8) ?c9) ?c10) ?c11) ?c12) ?c13) ?c14) ?c15) ?c16) ?c17) ?c18) ?c19) ?c20) ?c21) ?c22) ?c23) ?c24) ?c25) ?c26) ?c27) ?c28) ?c29) ?c30) ?c31) ?c32
  case c1 => as_aux_lemma => kernel_rfl
  case c2 => exact laidOut
  case c3 => exact rowed
  case c4 => as_aux_lemma => kernel_rfl
  case c5 => as_aux_lemma => kernel_rfl
  case c6 => as_aux_lemma => kernel_rfl
  case c7 => as_aux_lemma => kernel_rfl
  case c8 => as_aux_lemma => kernel_rfl
  case c9 => as_aux_lemma => kernel_rfl
  case c10 => exact c_inPlace
  case c11 => exact c_unfollowed
  case c12 => exact c_recurses
  case c13 => exact c_named
  case c14 => as_aux_lemma => kernel_rfl
  case c15 => as_aux_lemma => kernel_rfl
  case c16 => as_aux_lemma => kernel_rfl
  case c17 => as_aux_lemma => kernel_rfl
  case c18 => as_aux_lemma => kernel_rfl
  case c19 => as_aux_lemma => kernel_rfl
  case c20 => as_aux_lemma => kernel_rfl
  case c21 => as_aux_lemma => kernel_rfl
  case c22 => as_aux_lemma => kernel_rfl
  case c23 => exact c_plainKeys
  case c24 => as_aux_lemma => kernel_rfl
  case c25 => as_aux_lemma => kernel_rfl
  case c26 => as_aux_lemma => kernel_rfl
  case c27 => as_aux_lemma => kernel_rfl
  case c28 => as_aux_lemma => kernel_rfl
  case c29 => as_aux_lemma => kernel_rfl
  case c30 => as_aux_lemma => kernel_rfl
  case c31 => as_aux_lemma => kernel_rfl
  case c32 => as_aux_lemma => kernel_rfl
end Go.Proofs.YtofgaidlepmcmaaGreatDoor
