/-
  ScriptReports: awake, run by the kernel over no memory.
-/
import Derived.KernelRfl
import Derived.Test.YtofgaidlepmcmaaGreatDoorQ31
import Derived.Test.YtofgaidlepmcmaaGreatDoorD31
set_option linter.unusedVariables false
namespace Go.Ev
open Go Go.Proofs
def intrA : FuncId → Option (List Value → H → Option (Value × H))
  | 11 => some (writeI 48 5)
  | 12 => some itoaI
  | 16 => some (textI 48 5)
  | 26 => some joinI
  | 32 => some wordsI
  | 115 => some splitI
  | _ => none
set_option maxRecDepth 1000000 in
theorem awake31 : (evCall Tryz.prog (fun _ _ => none) intrA 1000 60 4 [] ⟨0, .nil⟩).map (fun p => p.1) = some (.bool true) := by kernel_rfl
end Go.Ev
