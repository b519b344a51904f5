/-
  PhaseReads: what the functions come to.
-/
import Derived.Test.YtopplgmooidhhaaDoorEvQ
import Derived.Test.YtopplgmooidhhaaDoorEvR
import Derived.KernelRfl
import Derived.Test.YtopplgmooidhhaaDoorProg
set_option linter.unusedVariables false
namespace Go.Ev
open Go Go.Proofs
def intr37 : FuncId → Option (List Value → H → Option (Value × H))
  | 16 => some splitI
  | 20 => some itoaI
  | 21 => some joinI
  | 23 => some digitsI
  | _ => none
def dead37 : FuncId → Nat → Option (List Nat)
  | 3, 11 => some [0, 1]
  | 3, 21 => some [1, 9, 10]
  | 3, 1000002 => some [4]
  | 5, 0 => some [4, 11, 12, 13]
  | 5, 2 => some [4]
  | 5, 1000002 => some [2, 3]
  | 6, 0 => some [0, 4, 5, 6]
  | 6, 2 => some [4]
  | 6, 15 => some [0, 4, 5, 6]
  | 6, 39 => some [0, 4, 5, 6, 7]
  | 6, 45 => some [0, 4, 6, 7, 8]
  | 6, 1000002 => some [2, 3]
  | 6, 2000015 => some [0, 4, 5, 6]
  | 6, 2000039 => some [0, 4, 5, 6]
  | 6, 2000045 => some [0, 4, 5, 6]
  | 7, 0 => some [5, 13, 14, 15]
  | 7, 2 => some [5]
  | 8, 0 => some [0, 1, 5]
  | 8, 2 => some []
  | 8, 1000002 => some [4]
  | 9, 0 => some [3, 6, 7, 8]
  | 9, 2 => some [3]
  | 10, 0 => some [0, 3]
  | 10, 2 => some []
  | 10, 7 => some [0]
  | 10, 17 => some [0, 3]
  | 10, 1000002 => some [2]
  | 10, 2000017 => some [0, 3]
  | 11, 0 => some [0, 3, 4, 5]
  | 11, 2 => some [4]
  | 11, 17 => some [0, 3, 4, 5]
  | 11, 2000017 => some [0, 3, 4, 5]
  | 17, 0 => some [0, 2, 4, 12]
  | 17, 2 => some [0, 2, 4]
  | 18, 0 => some [0, 16, 17, 18]
  | 18, 2 => some []
  | 18, 7 => some [0]
  | 18, 17 => some [0, 3, 4, 16, 17, 18]
  | 18, 1000002 => some [2]
  | 18, 2000017 => some [0, 16, 17, 18]
  | 19, 0 => some [0, 3, 4]
  | 19, 2 => some [3]
  | 19, 7 => some [0]
  | 19, 19 => some [0, 3, 4]
  | 19, 1000002 => some [2]
  | 19, 2000019 => some [0, 3, 4]
  | 28, 0 => some [4, 21]
  | 28, 2 => some [4]
  | 28, 7 => some [0]
  | 28, 19 => some [4, 6, 21]
  | 28, 1000002 => some [2, 3]
  | 28, 2000019 => some [4, 21]
  | 30, 0 => some [2, 3, 4, 5, 6, 7]
  | 30, 2 => some [2, 3, 4, 5]
  | 30, 19 => some [2, 3, 4, 5, 6, 7]
  | 30, 2000019 => some [2, 3, 4, 5, 6, 7]
  | 31, 0 => some [0, 2, 3, 4]
  | 31, 2 => some [0, 2, 4]
  | 31, 9 => some [0, 2, 3]
  | 31, 1000002 => some [2]
  | 32, 0 => some [1, 4, 5]
  | 32, 2 => some [1, 4]
  | 42, 0 => some [0, 1, 5, 6, 7]
  | 42, 2 => some [5]
  | 42, 4000004 => some [0, 1, 5, 6, 7]
  | 42, 6000004 => some [0, 1, 5, 6, 7]
  | 43, 0 => some [0, 1, 5]
  | 43, 2 => some []
  | 43, 1000002 => some [4]
  | 44, 0 => some [0, 1, 5, 6, 7]
  | 44, 2 => some [5]
  | 53, 0 => some [0, 3]
  | 53, 2 => some [0, 3]
  | 53, 4000004 => some [0, 3]
  | 53, 6000004 => some [0, 3]
  | _, _ => none
def E3_11 (v0 v1 : Value) : Env := [some v0, some v1, none, none, none, none, none, none, none, none, none, none, none, none, none, none, none, none, none, none, none, none, none, none, none, none, none, none, none, none, none, none, none, none, none, none, none, none, none, none, none, none, none, none, none, none, none, none, none, none, none, none, none, none, none, none, none, none, none, none, none, none, none, none, none]
def E3_21 (v1 v9 v10 : Value) : Env := [none, some v1, none, none, none, none, none, none, none, some v9, some v10, none, none, none, none, none, none, none, none, none, none, none, none, none, none, none, none, none, none, none, none, none, none, none, none, none, none, none, none, none, none, none, none, none, none, none, none, none, none, none, none, none, none, none, none, none, none, none, none, none, none, none, none, none, none]
def E3_r (v4 : Value) : Env := [none, none, none, none, some v4, none, none, none, none, none, none, none, none, none, none, none, none, none, none, none, none, none, none, none, none, none, none, none, none, none, none, none, none, none, none, none, none, none, none, none, none, none, none, none, none, none, none, none, none, none, none, none, none, none, none, none, none, none, none, none, none, none, none, none, none]
def E5_0 (v4 v11 v12 v13 : Value) : Env := [none, none, none, none, some v4, none, none, none, none, none, none, some v11, some v12, some v13, none, none, none, none, none, none, none, none, none, none, none, none, none, none, none, none, none, none, none, none, none]
def E5_2 (v4 : Value) : Env := [none, none, none, none, some v4, none, none, none, none, none, none, none, none, none, none, none, none, none, none, none, none, none, none, none, none, none, none, none, none, none, none, none, none, none, none]
def E5_r (v2 v3 : Value) : Env := [none, none, some v2, some v3, none, none, none, none, none, none, none, none, none, none, none, none, none, none, none, none, none, none, none, none, none, none, none, none, none, none, none, none, none, none, none]
def E6_0 (v0 v4 v5 v6 : Value) : Env := [some v0, none, none, none, some v4, some v5, some v6, none, none, none, none, none, none, none, none, none, none, none, none, none, none, none, none, none, none, none, none, none, none, none, none, none, none, none, none, none, none, none, none, none, none, none, none, none, none, none, none, none, none, none, none, none, none, none, none, none, none, none, none, none, none, none, none]
def E6_2 (v4 : Value) : Env := [none, none, none, none, some v4, none, none, none, none, none, none, none, none, none, none, none, none, none, none, none, none, none, none, none, none, none, none, none, none, none, none, none, none, none, none, none, none, none, none, none, none, none, none, none, none, none, none, none, none, none, none, none, none, none, none, none, none, none, none, none, none, none, none]
def E6_39 (v0 v4 v5 v6 v7 : Value) : Env := [some v0, none, none, none, some v4, some v5, some v6, some v7, none, none, none, none, none, none, none, none, none, none, none, none, none, none, none, none, none, none, none, none, none, none, none, none, none, none, none, none, none, none, none, none, none, none, none, none, none, none, none, none, none, none, none, none, none, none, none, none, none, none, none, none, none, none, none]
def E6_45 (v0 v4 v6 v7 v8 : Value) : Env := [some v0, none, none, none, some v4, none, some v6, some v7, some v8, none, none, none, none, none, none, none, none, none, none, none, none, none, none, none, none, none, none, none, none, none, none, none, none, none, none, none, none, none, none, none, none, none, none, none, none, none, none, none, none, none, none, none, none, none, none, none, none, none, none, none, none, none, none]
def E6_r (v2 v3 : Value) : Env := [none, none, some v2, some v3, none, none, none, none, none, none, none, none, none, none, none, none, none, none, none, none, none, none, none, none, none, none, none, none, none, none, none, none, none, none, none, none, none, none, none, none, none, none, none, none, none, none, none, none, none, none, none, none, none, none, none, none, none, none, none, none, none, none, none]
def E7_0 (v5 v13 v14 v15 : Value) : Env := [none, none, none, none, none, some v5, none, none, none, none, none, none, none, some v13, some v14, some v15, none, none, none, none, none, none, none, none, none, none, none, none, none, none, none, none, none, none, none]
def E7_2 (v5 : Value) : Env := [none, none, none, none, none, some v5, none, none, none, none, none, none, none, none, none, none, none, none, none, none, none, none, none, none, none, none, none, none, none, none, none, none, none, none, none]
def E8_0 (v0 v1 v5 : Value) : Env := [some v0, some v1, none, none, none, some v5, none, none, none, none, none, none, none, none, none, none, none, none, none, none, none, none, none, none, none, none]
def E8_2 : Env := [none, none, none, none, none, none, none, none, none, none, none, none, none, none, none, none, none, none, none, none, none, none, none, none, none, none]
def E8_r (v4 : Value) : Env := [none, none, none, none, some v4, none, none, none, none, none, none, none, none, none, none, none, none, none, none, none, none, none, none, none, none, none]
def E9_0 (v3 v6 v7 v8 : Value) : Env := [none, none, none, some v3, none, none, some v6, some v7, some v8, none, none, none, none, none, none, none, none, none]
def E9_2 (v3 : Value) : Env := [none, none, none, some v3, none, none, none, none, none, none, none, none, none, none, none, none, none, none]
def E10_0 (v0 v3 : Value) : Env := [some v0, none, none, some v3, none, none, none, none, none, none, none, none, none, none, none, none, none, none, none, none, none, none, none, none, none, none, none, none, none, none, none, none, none, none, none, none, none, none, none, none, none, none, none, none, none, none, none, none, none, none, none, none, none, none, none, none, none, none, none, none, none, none, none, none, none, none, none, none, none, none, none]
def E10_2 : Env := [none, none, none, none, none, none, none, none, none, none, none, none, none, none, none, none, none, none, none, none, none, none, none, none, none, none, none, none, none, none, none, none, none, none, none, none, none, none, none, none, none, none, none, none, none, none, none, none, none, none, none, none, none, none, none, none, none, none, none, none, none, none, none, none, none, none, none, none, none, none, none]
def E10_7 (v0 : Value) : Env := [some v0, none, none, none, none, none, none, none, none, none, none, none, none, none, none, none, none, none, none, none, none, none, none, none, none, none, none, none, none, none, none, none, none, none, none, none, none, none, none, none, none, none, none, none, none, none, none, none, none, none, none, none, none, none, none, none, none, none, none, none, none, none, none, none, none, none, none, none, none, none, none]
def E10_r (v2 : Value) : Env := [none, none, some v2, none, none, none, none, none, none, none, none, none, none, none, none, none, none, none, none, none, none, none, none, none, none, none, none, none, none, none, none, none, none, none, none, none, none, none, none, none, none, none, none, none, none, none, none, none, none, none, none, none, none, none, none, none, none, none, none, none, none, none, none, none, none, none, none, none, none, none, none]
def E11_0 (v0 v3 v4 v5 : Value) : Env := [some v0, none, none, some v3, some v4, some v5, none, none, none, none, none, none, none, none, none, none, none, none, none, none, none, none, none, none, none, none, none, none, none, none, none, none, none, none, none, none, none, none, none]
def E11_2 (v4 : Value) : Env := [none, none, none, none, some v4, none, none, none, none, none, none, none, none, none, none, none, none, none, none, none, none, none, none, none, none, none, none, none, none, none, none, none, none, none, none, none, none, none, none]
def E17_0 (v0 v2 v4 v12 : Value) : Env := [some v0, none, some v2, none, some v4, none, none, none, none, none, none, none, some v12, none, none, none, none, none, none, none, none, none, none, none, none, none, none, none, none, none, none, none, none, none, none, none, none, none, none]
def E17_2 (v0 v2 v4 : Value) : Env := [some v0, none, some v2, none, some v4, none, none, none, none, none, none, none, none, none, none, none, none, none, none, none, none, none, none, none, none, none, none, none, none, none, none, none, none, none, none, none, none, none, none]
def E18_0 (v0 v16 v17 v18 : Value) : Env := [some v0, none, none, none, none, none, none, none, none, none, none, none, none, none, none, none, some v16, some v17, some v18, none, none, none, none, none, none, none, none, none, none, none, none, none, none, none, none, none, none, none, none, none, none, none, none, none, none, none, none, none, none, none, none, none, none, none, none, none, none, none]
def E18_2 : Env := [none, none, none, none, none, none, none, none, none, none, none, none, none, none, none, none, none, none, none, none, none, none, none, none, none, none, none, none, none, none, none, none, none, none, none, none, none, none, none, none, none, none, none, none, none, none, none, none, none, none, none, none, none, none, none, none, none, none]
def E18_7 (v0 : Value) : Env := [some v0, none, none, none, none, none, none, none, none, none, none, none, none, none, none, none, none, none, none, none, none, none, none, none, none, none, none, none, none, none, none, none, none, none, none, none, none, none, none, none, none, none, none, none, none, none, none, none, none, none, none, none, none, none, none, none, none, none]
def E18_17 (v0 v3 v4 v16 v17 v18 : Value) : Env := [some v0, none, none, some v3, some v4, none, none, none, none, none, none, none, none, none, none, none, some v16, some v17, some v18, none, none, none, none, none, none, none, none, none, none, none, none, none, none, none, none, none, none, none, none, none, none, none, none, none, none, none, none, none, none, none, none, none, none, none, none, none, none, none]
def E18_r (v2 : Value) : Env := [none, none, some v2, none, none, none, none, none, none, none, none, none, none, none, none, none, none, none, none, none, none, none, none, none, none, none, none, none, none, none, none, none, none, none, none, none, none, none, none, none, none, none, none, none, none, none, none, none, none, none, none, none, none, none, none, none, none, none]
def E19_0 (v0 v3 v4 : Value) : Env := [some v0, none, none, some v3, some v4, none, none, none, none, none, none, none, none, none, none, none, none, none, none, none, none, none, none, none, none, none, none, none, none, none, none, none, none, none, none, none, none, none, none, none, none, none, none, none, none, none, none, none, none, none, none, none, none, none, none, none, none, none, none, none]
def E19_2 (v3 : Value) : Env := [none, none, none, some v3, none, none, none, none, none, none, none, none, none, none, none, none, none, none, none, none, none, none, none, none, none, none, none, none, none, none, none, none, none, none, none, none, none, none, none, none, none, none, none, none, none, none, none, none, none, none, none, none, none, none, none, none, none, none, none, none]
def E19_7 (v0 : Value) : Env := [some v0, none, none, none, none, none, none, none, none, none, none, none, none, none, none, none, none, none, none, none, none, none, none, none, none, none, none, none, none, none, none, none, none, none, none, none, none, none, none, none, none, none, none, none, none, none, none, none, none, none, none, none, none, none, none, none, none, none, none, none]
def E19_r (v2 : Value) : Env := [none, none, some v2, none, none, none, none, none, none, none, none, none, none, none, none, none, none, none, none, none, none, none, none, none, none, none, none, none, none, none, none, none, none, none, none, none, none, none, none, none, none, none, none, none, none, none, none, none, none, none, none, none, none, none, none, none, none, none, none, none]
def E28_0 (v4 v21 : Value) : Env := [none, none, none, none, some v4, none, none, none, none, none, none, none, none, none, none, none, none, none, none, none, none, some v21, none, none, none, none, none, none, none, none, none, none, none, none, none, none, none, none, none, none, none, none, none, none]
def E28_2 (v4 : Value) : Env := [none, none, none, none, some v4, none, none, none, none, none, none, none, none, none, none, none, none, none, none, none, none, none, none, none, none, none, none, none, none, none, none, none, none, none, none, none, none, none, none, none, none, none, none, none]
def E28_7 (v0 : Value) : Env := [some v0, none, none, none, none, none, none, none, none, none, none, none, none, none, none, none, none, none, none, none, none, none, none, none, none, none, none, none, none, none, none, none, none, none, none, none, none, none, none, none, none, none, none, none]
def E28_19 (v4 v6 v21 : Value) : Env := [none, none, none, none, some v4, none, some v6, none, none, none, none, none, none, none, none, none, none, none, none, none, none, some v21, none, none, none, none, none, none, none, none, none, none, none, none, none, none, none, none, none, none, none, none, none, none]
def E28_r (v2 v3 : Value) : Env := [none, none, some v2, some v3, none, none, none, none, none, none, none, none, none, none, none, none, none, none, none, none, none, none, none, none, none, none, none, none, none, none, none, none, none, none, none, none, none, none, none, none, none, none, none, none]
def E30_0 (v2 v3 v4 v5 v6 v7 : Value) : Env := [none, none, some v2, some v3, some v4, some v5, some v6, some v7, none, none, none, none, none, none, none, none, none, none, none, none, none, none, none, none, none, none, none, none, none, none, none, none, none, none, none, none, none, none, none, none, none, none, none, none]
def E30_2 (v2 v3 v4 v5 : Value) : Env := [none, none, some v2, some v3, some v4, some v5, none, none, none, none, none, none, none, none, none, none, none, none, none, none, none, none, none, none, none, none, none, none, none, none, none, none, none, none, none, none, none, none, none, none, none, none, none, none]
def E31_0 (v0 v2 v3 v4 : Value) : Env := [some v0, none, some v2, some v3, some v4, none, none, none, none, none, none, none, none, none, none, none, none, none, none, none, none, none, none, none, none]
def E31_2 (v0 v2 v4 : Value) : Env := [some v0, none, some v2, none, some v4, none, none, none, none, none, none, none, none, none, none, none, none, none, none, none, none, none, none, none, none]
def E31_9 (v0 v2 v3 : Value) : Env := [some v0, none, some v2, some v3, none, none, none, none, none, none, none, none, none, none, none, none, none, none, none, none, none, none, none, none, none]
def E31_r (v2 : Value) : Env := [none, none, some v2, none, none, none, none, none, none, none, none, none, none, none, none, none, none, none, none, none, none, none, none, none, none]
def E32_0 (v1 v4 v5 : Value) : Env := [none, some v1, none, none, some v4, some v5, none, none, none, none, none, none, none, none, none, none, none, none, none, none, none, none, none, none, none, none, none, none, none, none, none, none, none, none, none, none, none, none]
def E32_2 (v1 v4 : Value) : Env := [none, some v1, none, none, some v4, none, none, none, none, none, none, none, none, none, none, none, none, none, none, none, none, none, none, none, none, none, none, none, none, none, none, none, none, none, none, none, none, none]
def E42_0 (v0 v1 v5 v6 v7 : Value) : Env := [some v0, some v1, none, none, none, some v5, some v6, some v7, none, none, none, none, none, none, none, none, none, none, none, none, none, none, none, none, none, none, none, none, none, none, none, none, none, none, none, none, none, none, none, none, none, none, none, none, none, none, none, none, none, none, none]
def E42_2 (v5 : Value) : Env := [none, none, none, none, none, some v5, none, none, none, none, none, none, none, none, none, none, none, none, none, none, none, none, none, none, none, none, none, none, none, none, none, none, none, none, none, none, none, none, none, none, none, none, none, none, none, none, none, none, none, none, none]
def E43_0 (v0 v1 v5 : Value) : Env := [some v0, some v1, none, none, none, some v5, none, none, none, none, none, none, none, none, none, none, none, none, none, none, none, none, none, none, none, none]
def E43_2 : Env := [none, none, none, none, none, none, none, none, none, none, none, none, none, none, none, none, none, none, none, none, none, none, none, none, none, none]
def E43_r (v4 : Value) : Env := [none, none, none, none, some v4, none, none, none, none, none, none, none, none, none, none, none, none, none, none, none, none, none, none, none, none, none]
def E44_0 (v0 v1 v5 v6 v7 : Value) : Env := [some v0, some v1, none, none, none, some v5, some v6, some v7, none, none, none, none, none, none, none, none, none, none, none, none, none, none, none, none, none, none, none, none, none, none, none, none, none, none, none, none, none, none, none, none, none, none, none, none, none, none, none, none, none, none]
def E44_2 (v5 : Value) : Env := [none, none, none, none, none, some v5, none, none, none, none, none, none, none, none, none, none, none, none, none, none, none, none, none, none, none, none, none, none, none, none, none, none, none, none, none, none, none, none, none, none, none, none, none, none, none, none, none, none, none, none]
def E53_0 (v0 v3 : Value) : Env := [some v0, none, none, some v3, none, none, none, none, none, none, none, none, none, none, none, none, none, none, none, none, none]
noncomputable abbrev P37 := Tryd.prog
noncomputable abbrev ev37 (r n : Nat) : CallF := evCall P37 dead37 intr37 r n
noncomputable abbrev jmp37 (r n : Nat) : FuncId → JmpF := evJmp P37 dead37 intr37 r n

theorem e3 (r n : Nat) (h : H) (a0 : ByteArray) (a1 : Option Addr) (a1n : Nat) (a1s : Nat) : ev37 r (n + 1) 3 [.string a0, .slice a1 a1n a1s] h =
  callK (ev37 r n) 4 [] h fun v0 h1 =>
    castV v0 fun b2 =>
      bif !b2 then some (Value.bool false, h1)
      else
        bif decide ((↑a0.size : Int) > 1000) then some (Value.bool true, h1)
        else
          bif decide ((↑a1n : Int) > 100) then some (Value.bool true, h1)
          else jumpK (jmp37 r n 3 0 (pc [1, 1, 1] (bd Tryd.f3)) (E3_11 (Value.string a0) (Value.slice a1 a1n a1s)) h1) (finK P37 [ResultVar.tmp 4]) := by kernel_rfl

theorem e3_11c (r n : Nat) (h : H) (x0 : ByteArray) (x1 : Option Addr) (x1n : Nat) (x1s : Nat) : jmp37 r (n + 1) 3 0 (pc [1, 1, 1] (bd Tryd.f3)) (E3_11 (.string x0) (.slice x1 x1n x1s)) h =
  callK (ev37 r n) 5 [Value.string x0] h fun v0 h1 =>
    castTup v0 fun l2 =>
      headK l2 fun v3 l4 =>
        castSl v3 fun a5 o6 o7 =>
          headK l4 fun v8 l9 =>
            castI IntKind.i64 v8 fun n10 =>
              nilK l9 fun _ =>
                callK (ev37 r n) 6 [Value.string x0] h1 fun v12 h13 =>
                  castTup v12 fun l14 =>
                    headK l14 fun v15 l16 =>
                      castSl v15 fun a17 o18 o19 =>
                        headK l16 fun v20 l21 =>
                          castI IntKind.i64 v20 fun n22 =>
                            nilK l21 fun _ =>
                              callK (ev37 r n) 7 [Value.slice x1 x1n x1s] h13 fun v24 h25 =>
                                castTup v24 fun l26 =>
                                  headK l26 fun v27 l28 =>
                                    castS v27 fun s29 =>
                                      headK l28 fun v30 l31 =>
                                        castI IntKind.i64 v30 fun n32 =>
                                          nilK l31 fun _ =>
                                            bif n10 != n22 then some (Exit.ret, E3_r (Value.bool false), h25)
                                            else
                                              callK (ev37 r n) 9 [Value.slice a5 o6 o7] h25 fun v34 h35 =>
                                                castSl v34 fun a36 o37 o38 =>
                                                  callK (ev37 r n) 8 [Value.slice a36 o37 o38, Value.slice a17 o18 o19] h35 fun v39 h40 =>
                                                    castV v39 fun b41 =>
                                                      bif !b41 then some (Exit.ret, E3_r (Value.bool false), h40)
                                                      else
                                                        jumpK
                                                          (jmp37 r n 3 0 (pc [1, 1, 1, 1, 1, 1, 1] (bd Tryd.f3))
                                                            (E3_21 (Value.slice x1 x1n x1s) (Value.string s29) (Value.int IntKind.i64 n32)) h40)
                                                          (outK (dead37 3) (key (pc [1, 1, 1] (bd Tryd.f3)))) := by kernel_rfl

theorem e3_11r (h : H) (x4 : Bool) : (finK P37 [.tmp 4]) .ret (E3_r (.bool x4)) h =
  some (Value.bool x4, h) := by kernel_rfl

theorem e3_21c (r n : Nat) (h : H) (x1 : Option Addr) (x1n : Nat) (x1s : Nat) (x9 : ByteArray) (x10 : Int) : jmp37 r (n + 1) 3 0 (pc [1, 1, 1, 1, 1, 1, 1] (bd Tryd.f3)) (E3_21 (.slice x1 x1n x1s) (.string x9) (.int .i64 x10)) h =
  callK (ev37 r n) 9 [Value.slice x1 x1n x1s] h fun v0 h1 =>
    castSl v0 fun a2 o3 o4 =>
      callK (ev37 r n) 10 [Value.slice a2 o3 o4] h1 fun v5 h6 =>
        castV v5 fun b7 =>
          bif !b7 then bif x10 == 370 then some (Exit.ret, E3_r (Value.bool (x9.toList == (txt []).toList)), h6) else some (Exit.ret, E3_r (Value.bool false), h6)
          else
            bif x10 == 0 then
              callK (ev37 r n) 9 [Value.slice x1 x1n x1s] h6 fun v8 h9 =>
                castSl v8 fun a10 o11 o12 =>
                  callK (ev37 r n) 11 [Value.slice a10 o11 o12] h9 fun v13 h14 => castS v13 fun s15 => some (Exit.ret, E3_r (Value.bool (x9.toList == s15.toList)), h14)
            else some (Exit.ret, E3_r (Value.bool false), h6) := by kernel_rfl

theorem e3_21r (h : H) (x4 : Bool) : (outK (dead37 3) (key (pc [1, 1, 1] (bd Tryd.f3)))) .ret (E3_r (.bool x4)) h =
  some (Exit.ret, E3_r (Value.bool x4), h) := by kernel_rfl

theorem e5 (r n : Nat) (h : H) (a0 : ByteArray) : ev37 r (n + 1) 5 [.string a0] h =
  callK (ev37 r n) 16 [Value.string a0, Value.string (txt [32])] h fun v0 h1 =>
    castSl v0 fun a2 o3 o4 =>
      evLoop (evCode P37 (ev37 r n) (jmp37 r n 5) (dead37 5) r 0 (pc [1, 1, 0, 1, 0, 0] (bd Tryd.f5))) (dead37 5 (4 * 0)) (dead37 5 (4 * 0 + 2))
        (dead37 5 1000002) r (E5_0 (Value.slice none 0 0) (Value.slice a2 o3 o4) (Value.int IntKind.i64 (↑o3 : Int)) (Value.int IntKind.i64 0)) h1
        (blockK 0
          (seqK (after P37 (ev37 r n) (jmp37 r n 5) (dead37 5) r 0 (pc [1, 1, 1] (bd Tryd.f5)) (finK P37 [ResultVar.tmp 2, ResultVar.tmp 3]))
            (finK P37 [ResultVar.tmp 2, ResultVar.tmp 3]))) := by kernel_rfl

theorem e5_0 (r n : Nat) (h : H) {R : Type} (x4 : Option Addr) (x4n : Nat) (x4s : Nat) (x11 : Option Addr) (x11n : Nat) (x11s : Nat) (x12 : Int) (x13 : Int) (nx : Env → H → Option R) (K : Exit → Env → H → Option R) : evCode P37 (ev37 r n) (jmp37 r n 5) (dead37 5) r 0 (pc [1, 1, 0, 1, 0, 0] (bd Tryd.f5)) (E5_0 (.slice x4 x4n x4s) (.slice x11 x11n x11s) (.int .i64 x12) (.int .i64 x13)) h (loopK nx (dead37 5 (4 * 0)) (dead37 5 (4 * 0 + 2)) (dead37 5 1000002) K) =
  bif decide (x13 < x12) then
    indexAddrA P37 44 (Value.slice x11 x11n x11s) (Value.int IntKind.i64 x13) fun v0 =>
      addrK v0 fun o1 o2 =>
        optK (ldV P37 9 o1 o2 h) fun v3 =>
          castS v3 fun s4 =>
            callK (ev37 r n) 17 [Value.string s4] h fun v5 h6 =>
              castTup v5 fun l7 =>
                headK l7 fun v8 l9 =>
                  castA v8 fun cs10 =>
                    headK l9 fun v11 l12 =>
                      castV v11 fun b13 =>
                        nilK l12 fun _ =>
                          ifK (cellsOf P37 47 = some (Value.agg cs10).cells.size)
                            (optK (stCells (h6.new (Blk.cells [Value.int IntKind.i64 0, Value.int IntKind.i64 0] false)) h6.1 0 (Value.agg cs10).cells.toList) fun h15 =>
                              bif !b13 then K Exit.ret (E5_r (Value.slice none 0 0) (Value.int IntKind.i64 112)) h15
                              else
                                optK (ldV P37 47 h6.1 0 h15) fun v16 =>
                                  castA v16 fun cs17 =>
                                    ifK ((Value.agg cs17).cells.size = 2)
                                      (appendA P37 { toList := [22, 22] } (Value.slice x4 x4n x4s) (Value.slice (some { block := h15.1, off := 0 }) 1 2)
                                        (h15.new (Blk.cells (Value.agg cs17).cells.toList false)) fun v18 h19 =>
                                        castSl v18 fun a20 o21 o22 =>
                                          nx (E5_0 (Value.slice a20 o21 o22) (Value.slice x11 x11n x11s) (Value.int IntKind.i64 x12) (Value.int IntKind.i64 (IntKind.i64.wrap (x13 + 1)))) h19))
  else K (Exit.exit 0) (E5_2 (Value.slice x4 x4n x4s)) h := by kernel_rfl

theorem e5_0x0 (r n : Nat) (h : H) (x4 : Option Addr) (x4n : Nat) (x4s : Nat) : (blockK 0 (seqK (after P37 (ev37 r n) (jmp37 r n 5) (dead37 5) r 0 (pc [1, 1, 1] (bd Tryd.f5)) (finK P37 [.tmp 2, .tmp 3])) (finK P37 [.tmp 2, .tmp 3]))) (.exit 0) (E5_2 (.slice x4 x4n x4s)) h =
  callK (ev37 r n) 18 [Value.slice x4 x4n x4s] h fun v0 h1 =>
    castI IntKind.i64 v0 fun n2 =>
      bif n2 != 0 then some (Value.tuple { toList := [Value.slice none 0 0, Value.int IntKind.i64 n2] }, h1) else some (Value.tuple { toList := [Value.slice x4 x4n x4s, Value.int IntKind.i64 0] }, h1) := by kernel_rfl

theorem e5_0r (r n : Nat) (h : H) (x2 : Option Addr) (x2n : Nat) (x2s : Nat) (x3 : Int) : (blockK 0 (seqK (after P37 (ev37 r n) (jmp37 r n 5) (dead37 5) r 0 (pc [1, 1, 1] (bd Tryd.f5)) (finK P37 [.tmp 2, .tmp 3])) (finK P37 [.tmp 2, .tmp 3]))) .ret (E5_r (.slice x2 x2n x2s) (.int .i64 x3)) h =
  some (Value.tuple { toList := [Value.slice x2 x2n x2s, Value.int IntKind.i64 x3] }, h) := by kernel_rfl

theorem e6 (r n : Nat) (h : H) (a0 : ByteArray) : ev37 r (n + 1) 6 [.string a0] h =
  evLoop (evCode P37 (ev37 r n) (jmp37 r n 6) (dead37 6) r 0 (pc [1, 1, 1, 0, 1, 0, 0] (bd Tryd.f6))) (dead37 6 (4 * 0)) (dead37 6 (4 * 0 + 2))
    (dead37 6 1000002) r (E6_0 (Value.string a0) (Value.slice none 0 0) (Value.int IntKind.i64 0) (Value.int IntKind.i64 0)) h
    (blockK 0
      (seqK (after P37 (ev37 r n) (jmp37 r n 6) (dead37 6) r 0 (pc [1, 1, 1, 1] (bd Tryd.f6)) (finK P37 [ResultVar.tmp 2, ResultVar.tmp 3]))
        (finK P37 [ResultVar.tmp 2, ResultVar.tmp 3]))) := by kernel_rfl

theorem e6_0 (r n : Nat) (h : H) {R : Type} (x0 : ByteArray) (x4 : Option Addr) (x4n : Nat) (x4s : Nat) (x5 : Int) (x6 : Int) (nx : Env → H → Option R) (K : Exit → Env → H → Option R) : evCode P37 (ev37 r n) (jmp37 r n 6) (dead37 6) r 0 (pc [1, 1, 1, 0, 1, 0, 0] (bd Tryd.f6)) (E6_0 (.string x0) (.slice x4 x4n x4s) (.int .i64 x5) (.int .i64 x6)) h (loopK nx (dead37 6 (4 * 0)) (dead37 6 (4 * 0 + 2)) (dead37 6 1000002) K) =
  bif decide (x6 ≤ (↑x0.size : Int)) then
    bif decide (x6 < (↑x0.size : Int)) then
      idxS x0 x6 fun v0 =>
        bif v0 != 32 then nx (E6_0 (Value.string x0) (Value.slice x4 x4n x4s) (Value.int IntKind.i64 x5) (Value.int IntKind.i64 (IntKind.i64.wrap (x6 + 1)))) h
        else
          jumpK (jmp37 r n 6 1 (pc [1, 1, 1, 0, 1, 0, 0, 1, 0, 0, 1] (bd Tryd.f6)) (E6_0 (Value.string x0) (Value.slice x4 x4n x4s) (Value.int IntKind.i64 x5) (Value.int IntKind.i64 x6)) h)
            (blockK 1
              (seqK (after P37 (ev37 r n) (jmp37 r n 6) (dead37 6) r 0 (pc [1, 1, 1, 0, 1, 0, 0, 1, 1] (bd Tryd.f6)) (loopK nx (dead37 6 (4 * 0)) (dead37 6 (4 * 0 + 2)) (dead37 6 1000002) K))
                (loopK nx (dead37 6 (4 * 0)) (dead37 6 (4 * 0 + 2)) (dead37 6 1000002) K)))
    else
      jumpK (jmp37 r n 6 1 (pc [1, 1, 1, 0, 1, 0, 0, 1, 0, 0, 1] (bd Tryd.f6)) (E6_0 (Value.string x0) (Value.slice x4 x4n x4s) (Value.int IntKind.i64 x5) (Value.int IntKind.i64 x6)) h)
        (blockK 1
          (seqK (after P37 (ev37 r n) (jmp37 r n 6) (dead37 6) r 0 (pc [1, 1, 1, 0, 1, 0, 0, 1, 1] (bd Tryd.f6)) (loopK nx (dead37 6 (4 * 0)) (dead37 6 (4 * 0 + 2)) (dead37 6 1000002) K))
            (loopK nx (dead37 6 (4 * 0)) (dead37 6 (4 * 0 + 2)) (dead37 6 1000002) K)))
  else K (Exit.exit 0) (E6_2 (Value.slice x4 x4n x4s)) h := by kernel_rfl

theorem e6_0x0 (r n : Nat) (h : H) (x4 : Option Addr) (x4n : Nat) (x4s : Nat) : (blockK 0 (seqK (after P37 (ev37 r n) (jmp37 r n 6) (dead37 6) r 0 (pc [1, 1, 1, 1] (bd Tryd.f6)) (finK P37 [.tmp 2, .tmp 3])) (finK P37 [.tmp 2, .tmp 3]))) (.exit 0) (E6_2 (.slice x4 x4n x4s)) h =
  callK (ev37 r n) 10 [Value.slice x4 x4n x4s] h fun v0 h1 =>
    castV v0 fun b2 =>
      bif !b2 then some (Value.tuple { toList := [Value.slice none 0 0, Value.int IntKind.i64 370] }, h1) else some (Value.tuple { toList := [Value.slice x4 x4n x4s, Value.int IntKind.i64 0] }, h1) := by kernel_rfl

theorem e6_0r (r n : Nat) (h : H) (x2 : Option Addr) (x2n : Nat) (x2s : Nat) (x3 : Int) : (blockK 0 (seqK (after P37 (ev37 r n) (jmp37 r n 6) (dead37 6) r 0 (pc [1, 1, 1, 1] (bd Tryd.f6)) (finK P37 [.tmp 2, .tmp 3])) (finK P37 [.tmp 2, .tmp 3]))) .ret (E6_r (.slice x2 x2n x2s) (.int .i64 x3)) h =
  some (Value.tuple { toList := [Value.slice x2 x2n x2s, Value.int IntKind.i64 x3] }, h) := by kernel_rfl

theorem e6_15c (r n : Nat) (h : H) (x0 : ByteArray) (x4 : Option Addr) (x4n : Nat) (x4s : Nat) (x5 : Int) (x6 : Int) : jmp37 r (n + 1) 6 1 (pc [1, 1, 1, 0, 1, 0, 0, 1, 0, 0, 1] (bd Tryd.f6)) (E6_0 (.string x0) (.slice x4 x4n x4s) (.int .i64 x5) (.int .i64 x6)) h =
  bif x6 == x5 then some (Exit.ret, E6_r (Value.slice none 0 0) (Value.int IntKind.i64 112), h)
  else
    idxS x0 x5 fun v0 =>
      bif v0 == 99 then
        jumpK
          (jmp37 r n 6 1 (pc [1, 1, 1, 0, 1, 0, 0, 1, 0, 0, 1, 1, 1, 1] (bd Tryd.f6))
            (E6_39 (Value.string x0) (Value.slice x4 x4n x4s) (Value.int IntKind.i64 x5) (Value.int IntKind.i64 x6) (Value.int IntKind.i64 1)) h)
          (outK (dead37 6) (key (pc [1, 1, 1, 0, 1, 0, 0, 1, 0, 0, 1] (bd Tryd.f6))))
      else
        bif v0 == 111 then
          jumpK
            (jmp37 r n 6 1 (pc [1, 1, 1, 0, 1, 0, 0, 1, 0, 0, 1, 1, 1, 1] (bd Tryd.f6))
              (E6_39 (Value.string x0) (Value.slice x4 x4n x4s) (Value.int IntKind.i64 x5) (Value.int IntKind.i64 x6) (Value.int IntKind.i64 2)) h)
            (outK (dead37 6) (key (pc [1, 1, 1, 0, 1, 0, 0, 1, 0, 0, 1] (bd Tryd.f6))))
        else
          bif v0 == 116 then
            jumpK
              (jmp37 r n 6 1 (pc [1, 1, 1, 0, 1, 0, 0, 1, 0, 0, 1, 1, 1, 1] (bd Tryd.f6))
                (E6_39 (Value.string x0) (Value.slice x4 x4n x4s) (Value.int IntKind.i64 x5) (Value.int IntKind.i64 x6) (Value.int IntKind.i64 3)) h)
              (outK (dead37 6) (key (pc [1, 1, 1, 0, 1, 0, 0, 1, 0, 0, 1] (bd Tryd.f6))))
          else
            bif v0 == 101 then
              jumpK
                (jmp37 r n 6 1 (pc [1, 1, 1, 0, 1, 0, 0, 1, 0, 0, 1, 1, 1, 1] (bd Tryd.f6))
                  (E6_39 (Value.string x0) (Value.slice x4 x4n x4s) (Value.int IntKind.i64 x5) (Value.int IntKind.i64 x6) (Value.int IntKind.i64 4)) h)
                (outK (dead37 6) (key (pc [1, 1, 1, 0, 1, 0, 0, 1, 0, 0, 1] (bd Tryd.f6))))
            else
              jumpK
                (jmp37 r n 6 1 (pc [1, 1, 1, 0, 1, 0, 0, 1, 0, 0, 1, 1, 1, 1] (bd Tryd.f6))
                  (E6_39 (Value.string x0) (Value.slice x4 x4n x4s) (Value.int IntKind.i64 x5) (Value.int IntKind.i64 x6) (Value.int IntKind.i64 0)) h)
                (outK (dead37 6) (key (pc [1, 1, 1, 0, 1, 0, 0, 1, 0, 0, 1] (bd Tryd.f6)))) := by kernel_rfl

theorem e6_15n (r n : Nat) (h : H) {R : Type} (x0 : ByteArray) (x4 : Option Addr) (x4n : Nat) (x4s : Nat) (x5 : Int) (x6 : Int) (nx : Env → H → Option R) (K : Exit → Env → H → Option R) : (blockK 1 (seqK (after P37 (ev37 r n) (jmp37 r n 6) (dead37 6) r 0 (pc [1, 1, 1, 0, 1, 0, 0, 1, 1] (bd Tryd.f6)) (loopK nx (dead37 6 (4 * 0)) (dead37 6 (4 * 0 + 2)) (dead37 6 1000002) K)) (loopK nx (dead37 6 (4 * 0)) (dead37 6 (4 * 0 + 2)) (dead37 6 1000002) K))) .normal (E6_0 (.string x0) (.slice x4 x4n x4s) (.int .i64 x5) (.int .i64 x6)) h =
  nx (E6_0 (Value.string x0) (Value.slice x4 x4n x4s) (Value.int IntKind.i64 x5) (Value.int IntKind.i64 (IntKind.i64.wrap (x6 + 1)))) h := by kernel_rfl

theorem e6_15r (r n : Nat) (h : H) {R : Type} (x2 : Option Addr) (x2n : Nat) (x2s : Nat) (x3 : Int) (nx : Env → H → Option R) (K : Exit → Env → H → Option R) : (blockK 1 (seqK (after P37 (ev37 r n) (jmp37 r n 6) (dead37 6) r 0 (pc [1, 1, 1, 0, 1, 0, 0, 1, 1] (bd Tryd.f6)) (loopK nx (dead37 6 (4 * 0)) (dead37 6 (4 * 0 + 2)) (dead37 6 1000002) K)) (loopK nx (dead37 6 (4 * 0)) (dead37 6 (4 * 0 + 2)) (dead37 6 1000002) K))) .ret (E6_r (.slice x2 x2n x2s) (.int .i64 x3)) h =
  K Exit.ret (E6_r (Value.slice x2 x2n x2s) (Value.int IntKind.i64 x3)) h := by kernel_rfl

theorem e6_39c (r n : Nat) (h : H) (x0 : ByteArray) (x4 : Option Addr) (x4n : Nat) (x4s : Nat) (x5 : Int) (x6 : Int) (x7 : Int) : jmp37 r (n + 1) 6 1 (pc [1, 1, 1, 0, 1, 0, 0, 1, 0, 0, 1, 1, 1, 1] (bd Tryd.f6)) (E6_39 (.string x0) (.slice x4 x4n x4s) (.int .i64 x5) (.int .i64 x6) (.int .i64 x7)) h =
  sliceA P37 9 (Value.string x0) (some (Value.int IntKind.i64 (IntKind.i64.wrap (x5 + 1)))) (some (Value.int IntKind.i64 x6)) fun v0 =>
    castS v0 fun s1 =>
      callK (ev37 r n) 19 [Value.string s1] h fun v2 h3 =>
        castI IntKind.i64 v2 fun n4 =>
          bif x7 == 0 then some (Exit.ret, E6_r (Value.slice none 0 0) (Value.int IntKind.i64 112), h3)
          else
            bif decide (n4 < 0) then some (Exit.ret, E6_r (Value.slice none 0 0) (Value.int IntKind.i64 112), h3)
            else
              jumpK
                (jmp37 r n 6 1 (pc [1, 1, 1, 0, 1, 0, 0, 1, 0, 0, 1, 1, 1, 1, 1, 1] (bd Tryd.f6))
                  (E6_45 (Value.string x0) (Value.slice x4 x4n x4s) (Value.int IntKind.i64 x6) (Value.int IntKind.i64 x7) (Value.int IntKind.i64 n4)) h3)
                (outK (dead37 6) (key (pc [1, 1, 1, 0, 1, 0, 0, 1, 0, 0, 1, 1, 1, 1] (bd Tryd.f6)))) := by kernel_rfl

theorem e6_39n (h : H) (x0 : ByteArray) (x4 : Option Addr) (x4n : Nat) (x4s : Nat) (x5 : Int) (x6 : Int) : (outK (dead37 6) (key (pc [1, 1, 1, 0, 1, 0, 0, 1, 0, 0, 1] (bd Tryd.f6)))) .normal (E6_0 (.string x0) (.slice x4 x4n x4s) (.int .i64 x5) (.int .i64 x6)) h =
  some (Exit.normal, E6_0 (Value.string x0) (Value.slice x4 x4n x4s) (Value.int IntKind.i64 x5) (Value.int IntKind.i64 x6), h) := by kernel_rfl

theorem e6_39r (h : H) (x2 : Option Addr) (x2n : Nat) (x2s : Nat) (x3 : Int) : (outK (dead37 6) (key (pc [1, 1, 1, 0, 1, 0, 0, 1, 0, 0, 1] (bd Tryd.f6)))) .ret (E6_r (.slice x2 x2n x2s) (.int .i64 x3)) h =
  some (Exit.ret, E6_r (Value.slice x2 x2n x2s) (Value.int IntKind.i64 x3), h) := by kernel_rfl

theorem e6_45c (r n : Nat) (h : H) (x0 : ByteArray) (x4 : Option Addr) (x4n : Nat) (x4s : Nat) (x6 : Int) (x7 : Int) (x8 : Int) : jmp37 r (n + 1) 6 1 (pc [1, 1, 1, 0, 1, 0, 0, 1, 0, 0, 1, 1, 1, 1, 1, 1] (bd Tryd.f6)) (E6_45 (.string x0) (.slice x4 x4n x4s) (.int .i64 x6) (.int .i64 x7) (.int .i64 x8)) h =
  appendA P37 { toList := [27, 27] } (Value.slice x4 x4n x4s) (Value.slice (some { block := h.1, off := 0 }) 1 2) (h.new (Blk.cells [Value.int IntKind.i64 x8, Value.int IntKind.i64 x7] false))
    fun v0 h1 => castSl v0 fun a2 o3 o4 => some (Exit.normal, E6_0 (Value.string x0) (Value.slice a2 o3 o4) (Value.int IntKind.i64 (IntKind.i64.wrap (x6 + 1))) (Value.int IntKind.i64 x6), h1) := by kernel_rfl

theorem e6_45n (h : H) (x0 : ByteArray) (x4 : Option Addr) (x4n : Nat) (x4s : Nat) (x5 : Int) (x6 : Int) : (outK (dead37 6) (key (pc [1, 1, 1, 0, 1, 0, 0, 1, 0, 0, 1, 1, 1, 1] (bd Tryd.f6)))) .normal (E6_0 (.string x0) (.slice x4 x4n x4s) (.int .i64 x5) (.int .i64 x6)) h =
  some (Exit.normal, E6_0 (Value.string x0) (Value.slice x4 x4n x4s) (Value.int IntKind.i64 x5) (Value.int IntKind.i64 x6), h) := by kernel_rfl

theorem e7 (r n : Nat) (h : H) (a0 : Option Addr) (a0n : Nat) (a0s : Nat) : ev37 r (n + 1) 7 [.slice a0 a0n a0s] h =
  callK (ev37 r n) 18 [Value.slice a0 a0n a0s] h fun v0 h1 =>
    castI IntKind.i64 v0 fun n2 =>
      bif n2 != 0 then some (Value.tuple { toList := [Value.string (txt []), Value.int IntKind.i64 n2] }, h1)
      else
        evLoop (evCode P37 (ev37 r n) (jmp37 r n 7) (dead37 7) r 0 (pc [1, 1, 1, 0, 1, 0, 0] (bd Tryd.f7))) (dead37 7 (4 * 0)) (dead37 7 (4 * 0 + 2))
          (dead37 7 1000002) r (E7_0 (Value.slice none 0 0) (Value.slice a0 a0n a0s) (Value.int IntKind.i64 (↑a0n : Int)) (Value.int IntKind.i64 0)) h1
          (blockK 0
            (seqK (after P37 (ev37 r n) (jmp37 r n 7) (dead37 7) r 0 (pc [1, 1, 1, 1] (bd Tryd.f7)) (finK P37 [ResultVar.tmp 2, ResultVar.tmp 3]))
              (finK P37 [ResultVar.tmp 2, ResultVar.tmp 3]))) := by kernel_rfl

theorem e7_0 (r n : Nat) (h : H) {R : Type} (x5 : Option Addr) (x5n : Nat) (x5s : Nat) (x13 : Option Addr) (x13n : Nat) (x13s : Nat) (x14 : Int) (x15 : Int) (nx : Env → H → Option R) (K : Exit → Env → H → Option R) : evCode P37 (ev37 r n) (jmp37 r n 7) (dead37 7) r 0 (pc [1, 1, 1, 0, 1, 0, 0] (bd Tryd.f7)) (E7_0 (.slice x5 x5n x5s) (.slice x13 x13n x13s) (.int .i64 x14) (.int .i64 x15)) h (loopK nx (dead37 7 (4 * 0)) (dead37 7 (4 * 0 + 2)) (dead37 7 1000002) K) =
  bif decide (x15 < x14) then
    indexAddrA P37 22 (Value.slice x13 x13n x13s) (Value.int IntKind.i64 x15) fun v0 =>
      addrK v0 fun o1 o2 =>
        optK (ldV P37 47 o1 o2 h) fun v3 =>
          castA v3 fun cs4 =>
            ifK (cellsOf P37 47 = some (Value.agg cs4).cells.size)
              (optK (stCells (h.new (Blk.cells [Value.int IntKind.i64 0, Value.int IntKind.i64 0] false)) h.1 0 (Value.agg cs4).cells.toList) fun h5 =>
                optK (ldV P37 3 h.1 0 h5) fun v6 =>
                  castI IntKind.i64 v6 fun n7 =>
                    callK (ev37 r n) 20 [Value.int IntKind.i64 n7] h5 fun v8 h9 =>
                      castS v8 fun s10 =>
                        optK (ldV P37 3 h.1 1 h9) fun v11 =>
                          castI IntKind.i64 v11 fun n12 =>
                            bif sameLd P37 3 h.1 1 (Value.int IntKind.i64 n12) h5 then
                              optK (ldV P37 3 h.1 1 h9) fun v13 =>
                                castI IntKind.i64 v13 fun n14 =>
                                  bif sameLd P37 3 h.1 1 (Value.int IntKind.i64 n14) h5 then
                                    sliceA P37 9 (Value.string (txt [99, 111, 116, 101])) (some (Value.int IntKind.i64 (IntKind.i64.wrap (n12 - 1))))
                                      (some (Value.int IntKind.i64 n14)) fun v15 =>
                                      castS v15 fun s16 =>
                                        ifK (s16.size + s10.size ≤ 9223372036854775807)
                                          (appendA P37 { toList := [44, 44] } (Value.slice x5 x5n x5s) (Value.slice (some { block := h9.1, off := 0 }) 1 1)
                                            (h9.new (Blk.cells [Value.string { data := { toList := s16.data.toList ++ s10.data.toList } }] false)) fun v17 h18 =>
                                            castSl v17 fun a19 o20 o21 =>
                                              nx (E7_0 (Value.slice a19 o20 o21) (Value.slice x13 x13n x13s) (Value.int IntKind.i64 x14) (Value.int IntKind.i64 (IntKind.i64.wrap (x15 + 1)))) h18)
                                  else none
                            else none)
  else K (Exit.exit 0) (E7_2 (Value.slice x5 x5n x5s)) h := by kernel_rfl

theorem e7_0x0 (r n : Nat) (h : H) (x5 : Option Addr) (x5n : Nat) (x5s : Nat) : (blockK 0 (seqK (after P37 (ev37 r n) (jmp37 r n 7) (dead37 7) r 0 (pc [1, 1, 1, 1] (bd Tryd.f7)) (finK P37 [.tmp 2, .tmp 3])) (finK P37 [.tmp 2, .tmp 3]))) (.exit 0) (E7_2 (.slice x5 x5n x5s)) h =
  callK (ev37 r n) 21 [Value.slice x5 x5n x5s, Value.string (txt [32])] h fun v0 h1 =>
    castS v0 fun s2 => some (Value.tuple { toList := [Value.string s2, Value.int IntKind.i64 0] }, h1) := by kernel_rfl

theorem e8 (r n : Nat) (h : H) (a0 : Option Addr) (a0n : Nat) (a0s : Nat) (a1 : Option Addr) (a1n : Nat) (a1s : Nat) : ev37 r (n + 1) 8 [.slice a0 a0n a0s, .slice a1 a1n a1s] h =
  bif (↑a0n : Int) != (↑a1n : Int) then some (Value.bool false, h)
  else
    evLoop (evCode P37 (ev37 r n) (jmp37 r n 8) (dead37 8) r 0 (pc [1, 1, 0, 1, 0, 0] (bd Tryd.f8))) (dead37 8 (4 * 0)) (dead37 8 (4 * 0 + 2))
      (dead37 8 1000002) r (E8_0 (Value.slice a0 a0n a0s) (Value.slice a1 a1n a1s) (Value.int IntKind.i64 0)) h
      (blockK 0
        (seqK (after P37 (ev37 r n) (jmp37 r n 8) (dead37 8) r 0 (pc [1, 1, 1] (bd Tryd.f8)) (finK P37 [ResultVar.tmp 4])) (finK P37 [ResultVar.tmp 4]))) := by kernel_rfl

theorem e8_0 (r n : Nat) (h : H) {R : Type} (x0 : Option Addr) (x0n : Nat) (x0s : Nat) (x1 : Option Addr) (x1n : Nat) (x1s : Nat) (x5 : Int) (nx : Env → H → Option R) (K : Exit → Env → H → Option R) : evCode P37 (ev37 r n) (jmp37 r n 8) (dead37 8) r 0 (pc [1, 1, 0, 1, 0, 0] (bd Tryd.f8)) (E8_0 (.slice x0 x0n x0s) (.slice x1 x1n x1s) (.int .i64 x5)) h (loopK nx (dead37 8 (4 * 0)) (dead37 8 (4 * 0 + 2)) (dead37 8 1000002) K) =
  bif decide (x5 < (↑x0n : Int)) then
    indexAddrA P37 27 (Value.slice x0 x0n x0s) (Value.int IntKind.i64 x5) fun v0 =>
      addrK v0 fun o1 o2 =>
        optK (ldV P37 52 o1 o2 h) fun v3 =>
          castA v3 fun cs4 =>
            indexAddrA P37 27 (Value.slice x1 x1n x1s) (Value.int IntKind.i64 x5) fun v5 =>
              addrK v5 fun o6 o7 =>
                optK (ldV P37 52 o6 o7 h) fun v8 =>
                  castA v8 fun cs9 =>
                    binA P37 BinOp.neq 52 (Operand.tmp 20) (Operand.tmp 24) (Value.agg cs4) (Value.agg cs9) fun v10 =>
                      castV v10 fun b11 =>
                        bif b11 then K Exit.ret (E8_r (Value.bool false)) h else nx (E8_0 (Value.slice x0 x0n x0s) (Value.slice x1 x1n x1s) (Value.int IntKind.i64 (IntKind.i64.wrap (x5 + 1)))) h
  else K (Exit.exit 0) E8_2 h := by kernel_rfl

theorem e8_0x0 (r n : Nat) (h : H) : (blockK 0 (seqK (after P37 (ev37 r n) (jmp37 r n 8) (dead37 8) r 0 (pc [1, 1, 1] (bd Tryd.f8)) (finK P37 [.tmp 4])) (finK P37 [.tmp 4]))) (.exit 0) (E8_2) h =
  some (Value.bool true, h) := by kernel_rfl

theorem e8_0r (r n : Nat) (h : H) (x4 : Bool) : (blockK 0 (seqK (after P37 (ev37 r n) (jmp37 r n 8) (dead37 8) r 0 (pc [1, 1, 1] (bd Tryd.f8)) (finK P37 [.tmp 4])) (finK P37 [.tmp 4]))) .ret (E8_r (.bool x4)) h =
  some (Value.bool x4, h) := by kernel_rfl

theorem e9 (r n : Nat) (h : H) (a0 : Option Addr) (a0n : Nat) (a0s : Nat) : ev37 r (n + 1) 9 [.slice a0 a0n a0s] h =
  evLoop (evCode P37 (ev37 r n) (jmp37 r n 9) (dead37 9) r 0 (pc [1, 1, 0, 1, 0, 0] (bd Tryd.f9))) (dead37 9 (4 * 0)) (dead37 9 (4 * 0 + 2))
    (dead37 9 1000002) r (E9_0 (Value.slice none 0 0) (Value.slice a0 a0n a0s) (Value.int IntKind.i64 (↑a0n : Int)) (Value.int IntKind.i64 0)) h
    (blockK 0
      (seqK (after P37 (ev37 r n) (jmp37 r n 9) (dead37 9) r 0 (pc [1, 1, 1] (bd Tryd.f9)) (finK P37 [ResultVar.tmp 2])) (finK P37 [ResultVar.tmp 2]))) := by kernel_rfl

theorem e9_0 (r n : Nat) (h : H) {R : Type} (x3 : Option Addr) (x3n : Nat) (x3s : Nat) (x6 : Option Addr) (x6n : Nat) (x6s : Nat) (x7 : Int) (x8 : Int) (nx : Env → H → Option R) (K : Exit → Env → H → Option R) : evCode P37 (ev37 r n) (jmp37 r n 9) (dead37 9) r 0 (pc [1, 1, 0, 1, 0, 0] (bd Tryd.f9)) (E9_0 (.slice x3 x3n x3s) (.slice x6 x6n x6s) (.int .i64 x7) (.int .i64 x8)) h (loopK nx (dead37 9 (4 * 0)) (dead37 9 (4 * 0 + 2)) (dead37 9 1000002) K) =
  bif decide (x8 < x7) then
    indexAddrA P37 22 (Value.slice x6 x6n x6s) (Value.int IntKind.i64 x8) fun v0 =>
      addrK v0 fun o1 o2 =>
        optK (ldV P37 47 o1 o2 h) fun v3 =>
          castA v3 fun cs4 =>
            ifK (cellsOf P37 47 = some (Value.agg cs4).cells.size)
              (optK (stCells (h.new (Blk.cells [Value.int IntKind.i64 0, Value.int IntKind.i64 0] false)) h.1 0 (Value.agg cs4).cells.toList) fun h5 =>
                optK (ldV P37 47 h.1 0 h5) fun v6 =>
                  castA v6 fun cs7 =>
                    ifK ((Value.agg cs7).cells.size = 2)
                      (appendA P37 { toList := [27, 27] } (Value.slice x3 x3n x3s) (Value.slice (some { block := h5.1, off := 0 }) 1 2) (h5.new (Blk.cells (Value.agg cs7).cells.toList false))
                        fun v8 h9 =>
                        castSl v8 fun a10 o11 o12 => nx (E9_0 (Value.slice a10 o11 o12) (Value.slice x6 x6n x6s) (Value.int IntKind.i64 x7) (Value.int IntKind.i64 (IntKind.i64.wrap (x8 + 1)))) h9))
  else K (Exit.exit 0) (E9_2 (Value.slice x3 x3n x3s)) h := by kernel_rfl

theorem e9_0x0 (r n : Nat) (h : H) (x3 : Option Addr) (x3n : Nat) (x3s : Nat) : (blockK 0 (seqK (after P37 (ev37 r n) (jmp37 r n 9) (dead37 9) r 0 (pc [1, 1, 1] (bd Tryd.f9)) (finK P37 [.tmp 2])) (finK P37 [.tmp 2]))) (.exit 0) (E9_2 (.slice x3 x3n x3s)) h =
  some (Value.slice x3 x3n x3s, h) := by kernel_rfl

theorem e10 (r n : Nat) (h : H) (a0 : Option Addr) (a0n : Nat) (a0s : Nat) : ev37 r (n + 1) 10 [.slice a0 a0n a0s] h =
  bif decide ((↑a0n : Int) < 1) then some (Value.bool false, h)
  else
    bif decide ((↑a0n : Int) > 32) then some (Value.bool false, h)
    else
      indexAddrA P37 27 (Value.slice a0 a0n a0s) (Value.int IntKind.i64 0) fun v0 =>
        addrK v0 fun o1 o2 =>
          optK (ldV P37 3 o1 (o2 + 0) h) fun v3 =>
            castI IntKind.i64 v3 fun n4 =>
              bif n4 != 0 then some (Value.bool false, h) else jumpK (jmp37 r n 10 0 (pc [1, 1] (bd Tryd.f10)) (E10_7 (Value.slice a0 a0n a0s)) h) (finK P37 [ResultVar.tmp 2]) := by kernel_rfl

theorem e10_7c (r n : Nat) (h : H) (x0 : Option Addr) (x0n : Nat) (x0s : Nat) : jmp37 r (n + 1) 10 0 (pc [1, 1] (bd Tryd.f10)) (E10_7 (.slice x0 x0n x0s)) h =
  evLoop (evCode P37 (ev37 r n) (jmp37 r n 10) (dead37 10) r 0 (pc [1, 1, 0, 1, 0, 0] (bd Tryd.f10))) (dead37 10 (4 * 0)) (dead37 10 (4 * 0 + 2))
    (dead37 10 1000002) r (E10_0 (Value.slice x0 x0n x0s) (Value.int IntKind.i64 0)) h
    (blockK 0
      (seqK (after P37 (ev37 r n) (jmp37 r n 10) (dead37 10) r 0 (pc [1, 1, 1] (bd Tryd.f10)) (outK (dead37 10) (key (pc [1, 1] (bd Tryd.f10)))))
        (outK (dead37 10) (key (pc [1, 1] (bd Tryd.f10)))))) := by kernel_rfl

theorem e10_7r (h : H) (x2 : Bool) : (finK P37 [.tmp 2]) .ret (E10_r (.bool x2)) h =
  some (Value.bool x2, h) := by kernel_rfl

theorem e10_0 (r n : Nat) (h : H) {R : Type} (x0 : Option Addr) (x0n : Nat) (x0s : Nat) (x3 : Int) (nx : Env → H → Option R) (K : Exit → Env → H → Option R) : evCode P37 (ev37 r n) (jmp37 r n 10) (dead37 10) r 0 (pc [1, 1, 0, 1, 0, 0] (bd Tryd.f10)) (E10_0 (.slice x0 x0n x0s) (.int .i64 x3)) h (loopK nx (dead37 10 (4 * 0)) (dead37 10 (4 * 0 + 2)) (dead37 10 1000002) K) =
  bif decide (x3 < (↑x0n : Int)) then
    indexAddrA P37 27 (Value.slice x0 x0n x0s) (Value.int IntKind.i64 x3) fun v0 =>
      addrK v0 fun o1 o2 =>
        optK (ldV P37 3 o1 (o2 + 1) h) fun v3 =>
          castI IntKind.i64 v3 fun n4 =>
            callK (ev37 r n) 22 [Value.int IntKind.i64 n4, Value.int IntKind.i64 1, Value.int IntKind.i64 4] h fun v5 h6 =>
              castV v5 fun b7 =>
                bif !b7 then K Exit.ret (E10_r (Value.bool false)) h6
                else
                  indexAddrA P37 27 (Value.slice x0 x0n x0s) (Value.int IntKind.i64 x3) fun v8 =>
                    addrK v8 fun o9 o10 =>
                      optK (ldV P37 3 o9 (o10 + 0) h6) fun v11 =>
                        castI IntKind.i64 v11 fun n12 =>
                          callK (ev37 r n) 22 [Value.int IntKind.i64 n12, Value.int IntKind.i64 0, Value.int IntKind.i64 1099511627776] h6 fun v13 h14 =>
                            castV v13 fun b15 =>
                              bif !b15 then K Exit.ret (E10_r (Value.bool false)) h14
                              else
                                jumpK (jmp37 r n 10 1 (pc [1, 1, 0, 1, 0, 0, 1, 0, 0, 1] (bd Tryd.f10)) (E10_0 (Value.slice x0 x0n x0s) (Value.int IntKind.i64 x3)) h14)
                                  (blockK 1
                                    (seqK
                                      (after P37 (ev37 r n) (jmp37 r n 10) (dead37 10) r 0 (pc [1, 1, 0, 1, 0, 0, 1, 1] (bd Tryd.f10))
                                        (loopK nx (dead37 10 (4 * 0)) (dead37 10 (4 * 0 + 2)) (dead37 10 1000002) K))
                                      (loopK nx (dead37 10 (4 * 0)) (dead37 10 (4 * 0 + 2)) (dead37 10 1000002) K)))
  else K (Exit.exit 0) E10_2 h := by kernel_rfl

theorem e10_0x0 (r n : Nat) (h : H) : (blockK 0 (seqK (after P37 (ev37 r n) (jmp37 r n 10) (dead37 10) r 0 (pc [1, 1, 1] (bd Tryd.f10)) (outK (dead37 10) (key (pc [1, 1] (bd Tryd.f10))))) (outK (dead37 10) (key (pc [1, 1] (bd Tryd.f10)))))) (.exit 0) (E10_2) h =
  some (Exit.ret, E10_r (Value.bool true), h) := by kernel_rfl

theorem e10_0r (r n : Nat) (h : H) (x2 : Bool) : (blockK 0 (seqK (after P37 (ev37 r n) (jmp37 r n 10) (dead37 10) r 0 (pc [1, 1, 1] (bd Tryd.f10)) (outK (dead37 10) (key (pc [1, 1] (bd Tryd.f10))))) (outK (dead37 10) (key (pc [1, 1] (bd Tryd.f10)))))) .ret (E10_r (.bool x2)) h =
  some (Exit.ret, E10_r (Value.bool x2), h) := by kernel_rfl

theorem e10_17c (r n : Nat) (h : H) (x0 : Option Addr) (x0n : Nat) (x0s : Nat) (x3 : Int) : jmp37 r (n + 1) 10 1 (pc [1, 1, 0, 1, 0, 0, 1, 0, 0, 1] (bd Tryd.f10)) (E10_0 (.slice x0 x0n x0s) (.int .i64 x3)) h =
  bif decide (x3 > 0) then
    indexAddrA P37 27 (Value.slice x0 x0n x0s) (Value.int IntKind.i64 x3) fun v0 =>
      addrK v0 fun o1 o2 =>
        optK (ldV P37 3 o1 (o2 + 0) h) fun v3 =>
          castI IntKind.i64 v3 fun n4 =>
            indexAddrA P37 27 (Value.slice x0 x0n x0s) (Value.int IntKind.i64 (IntKind.i64.wrap (x3 - 1))) fun v5 =>
              addrK v5 fun o6 o7 =>
                optK (ldV P37 3 o6 (o7 + 0) h) fun v8 =>
                  castI IntKind.i64 v8 fun n9 =>
                    bif decide (n4 ≤ n9) then some (Exit.ret, E10_r (Value.bool false), h)
                    else
                      indexAddrA P37 27 (Value.slice x0 x0n x0s) (Value.int IntKind.i64 x3) fun v10 =>
                        addrK v10 fun o11 o12 =>
                          optK (ldV P37 3 o11 (o12 + 1) h) fun v13 =>
                            castI IntKind.i64 v13 fun n14 =>
                              indexAddrA P37 27 (Value.slice x0 x0n x0s) (Value.int IntKind.i64 (IntKind.i64.wrap (x3 - 1))) fun v15 =>
                                addrK v15 fun o16 o17 =>
                                  optK (ldV P37 3 o16 (o17 + 1) h) fun v18 =>
                                    castI IntKind.i64 v18 fun n19 =>
                                      bif n14 == n19 then some (Exit.ret, E10_r (Value.bool false), h) else some (Exit.normal, E10_0 (Value.slice x0 x0n x0s) (Value.int IntKind.i64 x3), h)
  else some (Exit.normal, E10_0 (Value.slice x0 x0n x0s) (Value.int IntKind.i64 x3), h) := by kernel_rfl

theorem e10_17n (r n : Nat) (h : H) {R : Type} (x0 : Option Addr) (x0n : Nat) (x0s : Nat) (x3 : Int) (nx : Env → H → Option R) (K : Exit → Env → H → Option R) : (blockK 1 (seqK (after P37 (ev37 r n) (jmp37 r n 10) (dead37 10) r 0 (pc [1, 1, 0, 1, 0, 0, 1, 1] (bd Tryd.f10)) (loopK nx (dead37 10 (4 * 0)) (dead37 10 (4 * 0 + 2)) (dead37 10 1000002) K)) (loopK nx (dead37 10 (4 * 0)) (dead37 10 (4 * 0 + 2)) (dead37 10 1000002) K))) .normal (E10_0 (.slice x0 x0n x0s) (.int .i64 x3)) h =
  nx (E10_0 (Value.slice x0 x0n x0s) (Value.int IntKind.i64 (IntKind.i64.wrap (x3 + 1)))) h := by kernel_rfl

theorem e10_17r (r n : Nat) (h : H) {R : Type} (x2 : Bool) (nx : Env → H → Option R) (K : Exit → Env → H → Option R) : (blockK 1 (seqK (after P37 (ev37 r n) (jmp37 r n 10) (dead37 10) r 0 (pc [1, 1, 0, 1, 0, 0, 1, 1] (bd Tryd.f10)) (loopK nx (dead37 10 (4 * 0)) (dead37 10 (4 * 0 + 2)) (dead37 10 1000002) K)) (loopK nx (dead37 10 (4 * 0)) (dead37 10 (4 * 0 + 2)) (dead37 10 1000002) K))) .ret (E10_r (.bool x2)) h =
  K Exit.ret (E10_r (Value.bool x2)) h := by kernel_rfl

theorem e11 (r n : Nat) (h : H) (a0 : Option Addr) (a0n : Nat) (a0s : Nat) : ev37 r (n + 1) 11 [.slice a0 a0n a0s] h =
  evLoop (evCode P37 (ev37 r n) (jmp37 r n 11) (dead37 11) r 0 (pc [1, 1, 1, 0, 1, 0, 0] (bd Tryd.f11))) (dead37 11 (4 * 0)) (dead37 11 (4 * 0 + 2))
    (dead37 11 1000002) r (E11_0 (Value.slice a0 a0n a0s) (Value.string (txt [99, 111, 116, 101])) (Value.string (txt [])) (Value.int IntKind.i64 0)) h
    (blockK 0
      (seqK (after P37 (ev37 r n) (jmp37 r n 11) (dead37 11) r 0 (pc [1, 1, 1, 1] (bd Tryd.f11)) (finK P37 [ResultVar.tmp 2]))
        (finK P37 [ResultVar.tmp 2]))) := by kernel_rfl

theorem e11_0 (r n : Nat) (h : H) {R : Type} (x0 : Option Addr) (x0n : Nat) (x0s : Nat) (x3 : ByteArray) (x4 : ByteArray) (x5 : Int) (nx : Env → H → Option R) (K : Exit → Env → H → Option R) : evCode P37 (ev37 r n) (jmp37 r n 11) (dead37 11) r 0 (pc [1, 1, 1, 0, 1, 0, 0] (bd Tryd.f11)) (E11_0 (.slice x0 x0n x0s) (.string x3) (.string x4) (.int .i64 x5)) h (loopK nx (dead37 11 (4 * 0)) (dead37 11 (4 * 0 + 2)) (dead37 11 1000002) K) =
  bif decide (x5 < (↑x0n : Int)) then
    bif decide (x5 > 0) then
      ifK (x4.size + 1 ≤ 9223372036854775807)
        (jumpK
          (jmp37 r n 11 1 (pc [1, 1, 1, 0, 1, 0, 0, 1, 0, 0, 1] (bd Tryd.f11))
            (E11_0 (Value.slice x0 x0n x0s) (Value.string x3) (Value.string { data := { toList := x4.data.toList ++ [32] } }) (Value.int IntKind.i64 x5)) h)
          (blockK 1
            (seqK (after P37 (ev37 r n) (jmp37 r n 11) (dead37 11) r 0 (pc [1, 1, 1, 0, 1, 0, 0, 1, 1] (bd Tryd.f11)) (loopK nx (dead37 11 (4 * 0)) (dead37 11 (4 * 0 + 2)) (dead37 11 1000002) K))
              (loopK nx (dead37 11 (4 * 0)) (dead37 11 (4 * 0 + 2)) (dead37 11 1000002) K))))
    else
      jumpK (jmp37 r n 11 1 (pc [1, 1, 1, 0, 1, 0, 0, 1, 0, 0, 1] (bd Tryd.f11)) (E11_0 (Value.slice x0 x0n x0s) (Value.string x3) (Value.string x4) (Value.int IntKind.i64 x5)) h)
        (blockK 1
          (seqK (after P37 (ev37 r n) (jmp37 r n 11) (dead37 11) r 0 (pc [1, 1, 1, 0, 1, 0, 0, 1, 1] (bd Tryd.f11)) (loopK nx (dead37 11 (4 * 0)) (dead37 11 (4 * 0 + 2)) (dead37 11 1000002) K))
            (loopK nx (dead37 11 (4 * 0)) (dead37 11 (4 * 0 + 2)) (dead37 11 1000002) K)))
  else K (Exit.exit 0) (E11_2 (Value.string x4)) h := by kernel_rfl

theorem e11_0x0 (r n : Nat) (h : H) (x4 : ByteArray) : (blockK 0 (seqK (after P37 (ev37 r n) (jmp37 r n 11) (dead37 11) r 0 (pc [1, 1, 1, 1] (bd Tryd.f11)) (finK P37 [.tmp 2])) (finK P37 [.tmp 2]))) (.exit 0) (E11_2 (.string x4)) h =
  some (Value.string x4, h) := by kernel_rfl

theorem e11_17c (r n : Nat) (h : H) (x0 : Option Addr) (x0n : Nat) (x0s : Nat) (x3 : ByteArray) (x4 : ByteArray) (x5 : Int) : jmp37 r (n + 1) 11 1 (pc [1, 1, 1, 0, 1, 0, 0, 1, 0, 0, 1] (bd Tryd.f11)) (E11_0 (.slice x0 x0n x0s) (.string x3) (.string x4) (.int .i64 x5)) h =
  indexAddrA P37 27 (Value.slice x0 x0n x0s) (Value.int IntKind.i64 x5) fun v0 =>
    addrK v0 fun o1 o2 =>
      optK (ldV P37 3 o1 (o2 + 0) h) fun v3 =>
        castI IntKind.i64 v3 fun n4 =>
          callK (ev37 r n) 23 [Value.int IntKind.i64 n4] h fun v5 h6 =>
            castS v5 fun s7 =>
              indexAddrA P37 27 (Value.slice x0 x0n x0s) (Value.int IntKind.i64 x5) fun v8 =>
                addrK v8 fun o9 o10 =>
                  optK (ldV P37 3 o9 (o10 + 1) h6) fun v11 =>
                    castI IntKind.i64 v11 fun n12 =>
                      bif sameLd P37 3 o9 (o10 + 1) (Value.int IntKind.i64 n12) h then
                        indexAddrA P37 27 (Value.slice x0 x0n x0s) (Value.int IntKind.i64 x5) fun v13 =>
                          addrK v13 fun o14 o15 =>
                            optK (ldV P37 3 o14 (o15 + 1) h6) fun v16 =>
                              castI IntKind.i64 v16 fun n17 =>
                                bif sameLd P37 3 o14 (o15 + 1) (Value.int IntKind.i64 n17) h then
                                  sliceA P37 9 (Value.string x3) (some (Value.int IntKind.i64 (IntKind.i64.wrap (n12 - 1)))) (some (Value.int IntKind.i64 n17)) fun v18 =>
                                    castS v18 fun s19 =>
                                      ifK (s19.size + s7.size ≤ 9223372036854775807)
                                        (ifK (x4.size + (s19 ++ s7).size ≤ 9223372036854775807)
                                          (some
                                            (Exit.normal,
                                              E11_0 (Value.slice x0 x0n x0s) (Value.string x3) (Value.string { data := { toList := x4.data.toList ++ (s19 ++ s7).data.toList } })
                                                (Value.int IntKind.i64 x5),
                                              h6)))
                                else none
                      else none := by kernel_rfl

theorem e11_17n (r n : Nat) (h : H) {R : Type} (x0 : Option Addr) (x0n : Nat) (x0s : Nat) (x3 : ByteArray) (x4 : ByteArray) (x5 : Int) (nx : Env → H → Option R) (K : Exit → Env → H → Option R) : (blockK 1 (seqK (after P37 (ev37 r n) (jmp37 r n 11) (dead37 11) r 0 (pc [1, 1, 1, 0, 1, 0, 0, 1, 1] (bd Tryd.f11)) (loopK nx (dead37 11 (4 * 0)) (dead37 11 (4 * 0 + 2)) (dead37 11 1000002) K)) (loopK nx (dead37 11 (4 * 0)) (dead37 11 (4 * 0 + 2)) (dead37 11 1000002) K))) .normal (E11_0 (.slice x0 x0n x0s) (.string x3) (.string x4) (.int .i64 x5)) h =
  nx (E11_0 (Value.slice x0 x0n x0s) (Value.string x3) (Value.string x4) (Value.int IntKind.i64 (IntKind.i64.wrap (x5 + 1)))) h := by kernel_rfl

theorem e17 (r n : Nat) (h : H) (a0 : ByteArray) : ev37 r (n + 1) 17 [.string a0] h =
  bif a0.toList == (txt []).toList then
    optK (stCells (h.new (Blk.cells [Value.int IntKind.i64 0, Value.int IntKind.i64 0] false)) h.1 0 [Value.int IntKind.i64 0, Value.int IntKind.i64 0]) fun h0 =>
      optK (ldV P37 47 h.1 0 h0) fun v1 => some (Value.tuple { toList := [v1, Value.bool false] }, h0)
  else
    evLoop (evCode P37 (ev37 r n) (jmp37 r n 17) (dead37 17) r 0 (pc [1, 1, 1, 0, 1, 0, 0] (bd Tryd.f17))) (dead37 17 (4 * 0)) (dead37 17 (4 * 0 + 2))
      (dead37 17 1000002) r (E17_0 (Value.string a0) (Value.pointer (some { block := h.1, off := 0 })) (Value.int IntKind.i64 0) (Value.pointer (some { block := h.1 + 1, off := 0 })))
      ((h.new (Blk.cells [Value.int IntKind.i64 0, Value.int IntKind.i64 0] false)).new (Blk.iter (txt [99, 111, 116, 101]) 0))
      (blockK 0
        (seqK (after P37 (ev37 r n) (jmp37 r n 17) (dead37 17) r 0 (pc [1, 1, 1, 1] (bd Tryd.f17)) (finK P37 [ResultVar.cell 2 47, ResultVar.tmp 3]))
          (finK P37 [ResultVar.cell 2 47, ResultVar.tmp 3]))) := by kernel_rfl

theorem e17_0 (r n : Nat) (h : H) {R : Type} (x0 : ByteArray) (x2 : Nat) (x4 : Int) (x12 : Nat) (nx : Env → H → Option R) (K : Exit → Env → H → Option R) : evCode P37 (ev37 r n) (jmp37 r n 17) (dead37 17) r 0 (pc [1, 1, 1, 0, 1, 0, 0] (bd Tryd.f17)) (E17_0 (.string x0) (.pointer (some ⟨x2, 0, none⟩)) (.int .i64 x4) (.pointer (some ⟨x12, 0, none⟩))) h (loopK nx (dead37 17 (4 * 0)) (dead37 17 (4 * 0 + 2)) (dead37 17 1000002) K) =
  nextK h x12
    (fun o0 n1 h2 =>
      idxS x0 0 fun v3 =>
        bif IntKind.i32.wrap v3 == n1 then
          nx (E17_0 (Value.string x0) (Value.pointer (some { block := x2, off := 0 })) (Value.int IntKind.i64 (IntKind.i64.wrap ((↑o0 : Int) + 1))) (Value.pointer (some { block := x12, off := 0 }))) h2
        else nx (E17_0 (Value.string x0) (Value.pointer (some { block := x2, off := 0 })) (Value.int IntKind.i64 x4) (Value.pointer (some { block := x12, off := 0 }))) h2)
    (K (Exit.exit 0) (E17_2 (Value.string x0) (Value.pointer (some { block := x2, off := 0 })) (Value.int IntKind.i64 x4)) h) := by kernel_rfl

theorem e17_0x0 (r n : Nat) (h : H) (x0 : ByteArray) (x2 : Nat) (x4 : Int) : (blockK 0 (seqK (after P37 (ev37 r n) (jmp37 r n 17) (dead37 17) r 0 (pc [1, 1, 1, 1] (bd Tryd.f17)) (finK P37 [.cell 2 47, .tmp 3])) (finK P37 [.cell 2 47, .tmp 3]))) (.exit 0) (E17_2 (.string x0) (.pointer (some ⟨x2, 0, none⟩)) (.int .i64 x4)) h =
  sliceA P37 9 (Value.string x0) (some (Value.int IntKind.i64 1)) none fun v0 =>
    castS v0 fun s1 =>
      callK (ev37 r n) 28 [Value.string s1] h fun v2 h3 =>
        castTup v2 fun l4 =>
          headK l4 fun v5 l6 =>
            castI IntKind.i64 v5 fun n7 =>
              headK l6 fun v8 l9 =>
                castI IntKind.i64 v8 fun n10 =>
                  nilK l9 fun _ =>
                    bif decide (x4 > 0) then
                      optK (stCells h3 x2 0 [Value.int IntKind.i64 n7, Value.int IntKind.i64 x4]) fun h12 =>
                        optK (ldV P37 47 x2 0 h12) fun v13 => some (Value.tuple { toList := [v13, Value.bool (n10 == 0)] }, h12)
                    else
                      optK (stCells h3 x2 0 [Value.int IntKind.i64 n7, Value.int IntKind.i64 x4]) fun h14 =>
                        optK (ldV P37 47 x2 0 h14) fun v15 => some (Value.tuple { toList := [v15, Value.bool false] }, h14) := by kernel_rfl

theorem e18 (r n : Nat) (h : H) (a0 : Option Addr) (a0n : Nat) (a0s : Nat) : ev37 r (n + 1) 18 [.slice a0 a0n a0s] h =
  callK (ev37 r n) 26 [Value.int IntKind.i64 (↑a0n : Int), Value.int IntKind.i64 1, Value.int IntKind.i64 32] h fun v0 h1 =>
    castV v0 fun b2 =>
      bif !b2 then some (Value.int IntKind.i64 370, h1)
      else
        indexAddrA P37 22 (Value.slice a0 a0n a0s) (Value.int IntKind.i64 0) fun v3 =>
          addrK v3 fun o4 o5 =>
            optK (ldV P37 3 o4 (o5 + 0) h1) fun v6 =>
              castI IntKind.i64 v6 fun n7 =>
                bif n7 != 0 then some (Value.int IntKind.i64 370, h1)
                else jumpK (jmp37 r n 18 0 (pc [1, 1] (bd Tryd.f18)) (E18_7 (Value.slice a0 a0n a0s)) h1) (finK P37 [ResultVar.tmp 2]) := by kernel_rfl

theorem e18_7c (r n : Nat) (h : H) (x0 : Option Addr) (x0n : Nat) (x0s : Nat) : jmp37 r (n + 1) 18 0 (pc [1, 1] (bd Tryd.f18)) (E18_7 (.slice x0 x0n x0s)) h =
  evLoop (evCode P37 (ev37 r n) (jmp37 r n 18) (dead37 18) r 0 (pc [1, 1, 0, 1, 0, 0] (bd Tryd.f18))) (dead37 18 (4 * 0)) (dead37 18 (4 * 0 + 2))
    (dead37 18 1000002) r (E18_0 (Value.slice x0 x0n x0s) (Value.slice x0 x0n x0s) (Value.int IntKind.i64 (↑x0n : Int)) (Value.int IntKind.i64 0)) h
    (blockK 0
      (seqK (after P37 (ev37 r n) (jmp37 r n 18) (dead37 18) r 0 (pc [1, 1, 1] (bd Tryd.f18)) (outK (dead37 18) (key (pc [1, 1] (bd Tryd.f18)))))
        (outK (dead37 18) (key (pc [1, 1] (bd Tryd.f18)))))) := by kernel_rfl

theorem e18_7r (h : H) (x2 : Int) : (finK P37 [.tmp 2]) .ret (E18_r (.int .i64 x2)) h =
  some (Value.int IntKind.i64 x2, h) := by kernel_rfl

theorem e18_0 (r n : Nat) (h : H) {R : Type} (x0 : Option Addr) (x0n : Nat) (x0s : Nat) (x16 : Option Addr) (x16n : Nat) (x16s : Nat) (x17 : Int) (x18 : Int) (nx : Env → H → Option R) (K : Exit → Env → H → Option R) : evCode P37 (ev37 r n) (jmp37 r n 18) (dead37 18) r 0 (pc [1, 1, 0, 1, 0, 0] (bd Tryd.f18)) (E18_0 (.slice x0 x0n x0s) (.slice x16 x16n x16s) (.int .i64 x17) (.int .i64 x18)) h (loopK nx (dead37 18 (4 * 0)) (dead37 18 (4 * 0 + 2)) (dead37 18 1000002) K) =
  bif decide (x18 < x17) then
    indexAddrA P37 22 (Value.slice x16 x16n x16s) (Value.int IntKind.i64 x18) fun v0 =>
      addrK v0 fun o1 o2 =>
        optK (ldV P37 47 o1 o2 h) fun v3 =>
          castA v3 fun cs4 =>
            ifK (cellsOf P37 47 = some (Value.agg cs4).cells.size)
              (optK (stCells (h.new (Blk.cells [Value.int IntKind.i64 0, Value.int IntKind.i64 0] false)) h.1 0 (Value.agg cs4).cells.toList) fun h5 =>
                optK (ldV P37 3 h.1 1 h5) fun v6 =>
                  castI IntKind.i64 v6 fun n7 =>
                    callK (ev37 r n) 26 [Value.int IntKind.i64 n7, Value.int IntKind.i64 1, Value.int IntKind.i64 4] h5 fun v8 h9 =>
                      castV v8 fun b10 =>
                        bif !b10 then K Exit.ret (E18_r (Value.int IntKind.i64 370)) h9
                        else
                          optK (ldV P37 3 h.1 0 h9) fun v11 =>
                            castI IntKind.i64 v11 fun n12 =>
                              callK (ev37 r n) 26 [Value.int IntKind.i64 n12, Value.int IntKind.i64 0, Value.int IntKind.i64 1099511627776] h9 fun v13 h14 =>
                                castV v13 fun b15 =>
                                  bif !b15 then K Exit.ret (E18_r (Value.int IntKind.i64 370)) h14
                                  else
                                    jumpK
                                      (jmp37 r n 18 1 (pc [1, 1, 0, 1, 0, 0, 1, 1, 0, 0, 1, 1] (bd Tryd.f18))
                                        (E18_17 (Value.slice x0 x0n x0s) (Value.int IntKind.i64 x18) (Value.pointer (some { block := h.1, off := 0 })) (Value.slice x16 x16n x16s)
                                          (Value.int IntKind.i64 x17) (Value.int IntKind.i64 x18))
                                        h14)
                                      (blockK 1
                                        (seqK
                                          (after P37 (ev37 r n) (jmp37 r n 18) (dead37 18) r 0 (pc [1, 1, 0, 1, 0, 0, 1, 1, 1] (bd Tryd.f18))
                                            (loopK nx (dead37 18 (4 * 0)) (dead37 18 (4 * 0 + 2)) (dead37 18 1000002) K))
                                          (loopK nx (dead37 18 (4 * 0)) (dead37 18 (4 * 0 + 2)) (dead37 18 1000002) K))))
  else K (Exit.exit 0) E18_2 h := by kernel_rfl

theorem e18_0x0 (r n : Nat) (h : H) : (blockK 0 (seqK (after P37 (ev37 r n) (jmp37 r n 18) (dead37 18) r 0 (pc [1, 1, 1] (bd Tryd.f18)) (outK (dead37 18) (key (pc [1, 1] (bd Tryd.f18))))) (outK (dead37 18) (key (pc [1, 1] (bd Tryd.f18)))))) (.exit 0) (E18_2) h =
  some (Exit.ret, E18_r (Value.int IntKind.i64 0), h) := by kernel_rfl

theorem e18_0r (r n : Nat) (h : H) (x2 : Int) : (blockK 0 (seqK (after P37 (ev37 r n) (jmp37 r n 18) (dead37 18) r 0 (pc [1, 1, 1] (bd Tryd.f18)) (outK (dead37 18) (key (pc [1, 1] (bd Tryd.f18))))) (outK (dead37 18) (key (pc [1, 1] (bd Tryd.f18)))))) .ret (E18_r (.int .i64 x2)) h =
  some (Exit.ret, E18_r (Value.int IntKind.i64 x2), h) := by kernel_rfl

theorem e18_17c (r n : Nat) (h : H) (x0 : Option Addr) (x0n : Nat) (x0s : Nat) (x3 : Int) (x4 : Nat) (x16 : Option Addr) (x16n : Nat) (x16s : Nat) (x17 : Int) (x18 : Int) : jmp37 r (n + 1) 18 1 (pc [1, 1, 0, 1, 0, 0, 1, 1, 0, 0, 1, 1] (bd Tryd.f18)) (E18_17 (.slice x0 x0n x0s) (.int .i64 x3) (.pointer (some ⟨x4, 0, none⟩)) (.slice x16 x16n x16s) (.int .i64 x17) (.int .i64 x18)) h =
  bif decide (x3 > 0) then
    indexAddrA P37 22 (Value.slice x0 x0n x0s) (Value.int IntKind.i64 (IntKind.i64.wrap (x3 - 1))) fun v0 =>
      addrK v0 fun o1 o2 =>
        optK (ldV P37 3 o1 (o2 + 0) h) fun v3 =>
          castI IntKind.i64 v3 fun n4 =>
            optK (ldV P37 3 x4 0 h) fun v5 =>
              castI IntKind.i64 v5 fun n6 =>
                bif decide (n4 ≥ n6) then some (Exit.ret, E18_r (Value.int IntKind.i64 370), h)
                else
                  indexAddrA P37 22 (Value.slice x0 x0n x0s) (Value.int IntKind.i64 (IntKind.i64.wrap (x3 - 1))) fun v7 =>
                    addrK v7 fun o8 o9 =>
                      optK (ldV P37 3 o8 (o9 + 1) h) fun v10 =>
                        castI IntKind.i64 v10 fun n11 =>
                          optK (ldV P37 3 x4 1 h) fun v12 =>
                            castI IntKind.i64 v12 fun n13 =>
                              bif n11 == n13 then some (Exit.ret, E18_r (Value.int IntKind.i64 370), h)
                              else some (Exit.normal, E18_0 (Value.slice x0 x0n x0s) (Value.slice x16 x16n x16s) (Value.int IntKind.i64 x17) (Value.int IntKind.i64 x18), h)
  else some (Exit.normal, E18_0 (Value.slice x0 x0n x0s) (Value.slice x16 x16n x16s) (Value.int IntKind.i64 x17) (Value.int IntKind.i64 x18), h) := by kernel_rfl

theorem e18_17n (r n : Nat) (h : H) {R : Type} (x0 : Option Addr) (x0n : Nat) (x0s : Nat) (x16 : Option Addr) (x16n : Nat) (x16s : Nat) (x17 : Int) (x18 : Int) (nx : Env → H → Option R) (K : Exit → Env → H → Option R) : (blockK 1 (seqK (after P37 (ev37 r n) (jmp37 r n 18) (dead37 18) r 0 (pc [1, 1, 0, 1, 0, 0, 1, 1, 1] (bd Tryd.f18)) (loopK nx (dead37 18 (4 * 0)) (dead37 18 (4 * 0 + 2)) (dead37 18 1000002) K)) (loopK nx (dead37 18 (4 * 0)) (dead37 18 (4 * 0 + 2)) (dead37 18 1000002) K))) .normal (E18_0 (.slice x0 x0n x0s) (.slice x16 x16n x16s) (.int .i64 x17) (.int .i64 x18)) h =
  nx (E18_0 (Value.slice x0 x0n x0s) (Value.slice x16 x16n x16s) (Value.int IntKind.i64 x17) (Value.int IntKind.i64 (IntKind.i64.wrap (x18 + 1)))) h := by kernel_rfl

theorem e18_17r (r n : Nat) (h : H) {R : Type} (x2 : Int) (nx : Env → H → Option R) (K : Exit → Env → H → Option R) : (blockK 1 (seqK (after P37 (ev37 r n) (jmp37 r n 18) (dead37 18) r 0 (pc [1, 1, 0, 1, 0, 0, 1, 1, 1] (bd Tryd.f18)) (loopK nx (dead37 18 (4 * 0)) (dead37 18 (4 * 0 + 2)) (dead37 18 1000002) K)) (loopK nx (dead37 18 (4 * 0)) (dead37 18 (4 * 0 + 2)) (dead37 18 1000002) K))) .ret (E18_r (.int .i64 x2)) h =
  K Exit.ret (E18_r (Value.int IntKind.i64 x2)) h := by kernel_rfl

theorem e19 (r n : Nat) (h : H) (a0 : ByteArray) : ev37 r (n + 1) 19 [.string a0] h =
  bif decide ((↑a0.size : Int) < 1) then some (Value.int IntKind.i64 (-1), h)
  else
    bif decide ((↑a0.size : Int) > 19) then some (Value.int IntKind.i64 (-1), h)
    else
      bif decide ((↑a0.size : Int) > 1) then
        idxS a0 0 fun v0 =>
          bif v0 == 48 then some (Value.int IntKind.i64 (-1), h) else jumpK (jmp37 r n 19 0 (pc [1, 1] (bd Tryd.f19)) (E19_7 (Value.string a0)) h) (finK P37 [ResultVar.tmp 2])
      else jumpK (jmp37 r n 19 0 (pc [1, 1] (bd Tryd.f19)) (E19_7 (Value.string a0)) h) (finK P37 [ResultVar.tmp 2]) := by kernel_rfl

theorem e19_7c (r n : Nat) (h : H) (x0 : ByteArray) : jmp37 r (n + 1) 19 0 (pc [1, 1] (bd Tryd.f19)) (E19_7 (.string x0)) h =
  optK (stCells (h.new (Blk.cells [Value.bool false, Value.slice none 0 0] false)) h.1 0 [Value.bool false, Value.slice none 0 0]) fun h0 =>
    evLoop (evCode P37 (ev37 r n) (jmp37 r n 19) (dead37 19) r 0 (pc [1, 1, 1, 0, 1, 0, 0] (bd Tryd.f19))) (dead37 19 (4 * 0)) (dead37 19 (4 * 0 + 2))
      (dead37 19 1000002) r (E19_0 (Value.string x0) (Value.pointer (some { block := h.1, off := 0 })) (Value.int IntKind.i64 0)) h0
      (blockK 0
        (seqK (after P37 (ev37 r n) (jmp37 r n 19) (dead37 19) r 0 (pc [1, 1, 1, 1] (bd Tryd.f19)) (outK (dead37 19) (key (pc [1, 1] (bd Tryd.f19)))))
          (outK (dead37 19) (key (pc [1, 1] (bd Tryd.f19)))))) := by kernel_rfl

theorem e19_7r (h : H) (x2 : Int) : (finK P37 [.tmp 2]) .ret (E19_r (.int .i64 x2)) h =
  some (Value.int IntKind.i64 x2, h) := by kernel_rfl

theorem e19_0 (r n : Nat) (h : H) {R : Type} (x0 : ByteArray) (x3 : Nat) (x4 : Int) (nx : Env → H → Option R) (K : Exit → Env → H → Option R) : evCode P37 (ev37 r n) (jmp37 r n 19) (dead37 19) r 0 (pc [1, 1, 1, 0, 1, 0, 0] (bd Tryd.f19)) (E19_0 (.string x0) (.pointer (some ⟨x3, 0, none⟩)) (.int .i64 x4)) h (loopK nx (dead37 19 (4 * 0)) (dead37 19 (4 * 0 + 2)) (dead37 19 1000002) K) =
  bif decide (x4 < (↑x0.size : Int)) then
    idxS x0 x4 fun v0 =>
      bif decide (v0 < 48) then K Exit.ret (E19_r (Value.int IntKind.i64 (-1))) h
      else
        idxS x0 x4 fun v1 =>
          bif decide (v1 > 57) then K Exit.ret (E19_r (Value.int IntKind.i64 (-1))) h
          else
            jumpK (jmp37 r n 19 1 (pc [1, 1, 1, 0, 1, 0, 0, 1, 0, 0, 1] (bd Tryd.f19)) (E19_0 (Value.string x0) (Value.pointer (some { block := x3, off := 0 })) (Value.int IntKind.i64 x4)) h)
              (blockK 1
                (seqK (after P37 (ev37 r n) (jmp37 r n 19) (dead37 19) r 0 (pc [1, 1, 1, 0, 1, 0, 0, 1, 1] (bd Tryd.f19)) (loopK nx (dead37 19 (4 * 0)) (dead37 19 (4 * 0 + 2)) (dead37 19 1000002) K))
                  (loopK nx (dead37 19 (4 * 0)) (dead37 19 (4 * 0 + 2)) (dead37 19 1000002) K)))
  else K (Exit.exit 0) (E19_2 (Value.pointer (some { block := x3, off := 0 }))) h := by kernel_rfl

theorem e19_0x0 (r n : Nat) (h : H) (x3 : Nat) : (blockK 0 (seqK (after P37 (ev37 r n) (jmp37 r n 19) (dead37 19) r 0 (pc [1, 1, 1, 1] (bd Tryd.f19)) (outK (dead37 19) (key (pc [1, 1] (bd Tryd.f19))))) (outK (dead37 19) (key (pc [1, 1] (bd Tryd.f19)))))) (.exit 0) (E19_2 (.pointer (some ⟨x3, 0, none⟩))) h =
  optK (ldV P37 62 x3 0 h) fun v0 =>
    castA v0 fun cs1 =>
      callK (ev37 r n) 32 [Value.agg cs1] h fun v2 h3 =>
        castTup v2 fun l4 =>
          headK l4 fun v5 l6 =>
            castI IntKind.i64 v5 fun n7 =>
              headK l6 fun v8 l9 =>
                castV v8 fun b10 => nilK l9 fun _ => bif !b10 then some (Exit.ret, E19_r (Value.int IntKind.i64 (-1)), h3) else some (Exit.ret, E19_r (Value.int IntKind.i64 n7), h3) := by kernel_rfl

theorem e19_0r (r n : Nat) (h : H) (x2 : Int) : (blockK 0 (seqK (after P37 (ev37 r n) (jmp37 r n 19) (dead37 19) r 0 (pc [1, 1, 1, 1] (bd Tryd.f19)) (outK (dead37 19) (key (pc [1, 1] (bd Tryd.f19))))) (outK (dead37 19) (key (pc [1, 1] (bd Tryd.f19)))))) .ret (E19_r (.int .i64 x2)) h =
  some (Exit.ret, E19_r (Value.int IntKind.i64 x2), h) := by kernel_rfl

theorem e19_19c (r n : Nat) (h : H) (x0 : ByteArray) (x3 : Nat) (x4 : Int) : jmp37 r (n + 1) 19 1 (pc [1, 1, 1, 0, 1, 0, 0, 1, 0, 0, 1] (bd Tryd.f19)) (E19_0 (.string x0) (.pointer (some ⟨x3, 0, none⟩)) (.int .i64 x4)) h =
  callK (ev37 r n) 31 [Value.int IntKind.i64 10] h fun v0 h1 =>
    castA v0 fun cs2 =>
      optK (ldV P37 62 x3 0 h1) fun v3 =>
        castA v3 fun cs4 =>
          bif sameLd P37 62 x3 0 (Value.agg cs4) h then
            callK (ev37 r n) 30 [Value.agg cs4, Value.agg cs2] h1 fun v5 h6 =>
              castA v5 fun cs7 =>
                idxS x0 x4 fun v8 =>
                  callK (ev37 r n) 31 [Value.int IntKind.i64 (IntKind.i64.wrap (IntKind.u8.wrap (v8 - 48)))] h6 fun v9 h10 =>
                    castA v9 fun cs11 =>
                      callK (ev37 r n) 29 [Value.agg cs7, Value.agg cs11] h10 fun v12 h13 =>
                        castA v12 fun cs14 =>
                          ifK (cellsOf P37 62 = some (Value.agg cs14).cells.size)
                            (optK (stCells h13 x3 0 (Value.agg cs14).cells.toList) fun h15 =>
                              some (Exit.normal, E19_0 (Value.string x0) (Value.pointer (some { block := x3, off := 0 })) (Value.int IntKind.i64 x4), h15))
          else none := by kernel_rfl

theorem e19_19n (r n : Nat) (h : H) {R : Type} (x0 : ByteArray) (x3 : Nat) (x4 : Int) (nx : Env → H → Option R) (K : Exit → Env → H → Option R) : (blockK 1 (seqK (after P37 (ev37 r n) (jmp37 r n 19) (dead37 19) r 0 (pc [1, 1, 1, 0, 1, 0, 0, 1, 1] (bd Tryd.f19)) (loopK nx (dead37 19 (4 * 0)) (dead37 19 (4 * 0 + 2)) (dead37 19 1000002) K)) (loopK nx (dead37 19 (4 * 0)) (dead37 19 (4 * 0 + 2)) (dead37 19 1000002) K))) .normal (E19_0 (.string x0) (.pointer (some ⟨x3, 0, none⟩)) (.int .i64 x4)) h =
  nx (E19_0 (Value.string x0) (Value.pointer (some { block := x3, off := 0 })) (Value.int IntKind.i64 (IntKind.i64.wrap (x4 + 1)))) h := by kernel_rfl

theorem e22 (r n : Nat) (h : H) (a0 : Int) (a1 : Int) (a2 : Int) : ev37 r (n + 1) 22 [.int .i64 a0, .int .i64 a1, .int .i64 a2] h =
  bif decide (a0 ≥ a1) then some (Value.bool (decide (a0 ≤ a2)), h) else some (Value.bool false, h) := by kernel_rfl

theorem e26 (r n : Nat) (h : H) (a0 : Int) (a1 : Int) (a2 : Int) : ev37 r (n + 1) 26 [.int .i64 a0, .int .i64 a1, .int .i64 a2] h =
  bif decide (a0 ≥ a1) then some (Value.bool (decide (a0 ≤ a2)), h) else some (Value.bool false, h) := by kernel_rfl

theorem e28 (r n : Nat) (h : H) (a0 : ByteArray) : ev37 r (n + 1) 28 [.string a0] h =
  bif a0.toList == (txt []).toList then some (Value.tuple { toList := [Value.int IntKind.i64 0, Value.int IntKind.i64 112] }, h)
  else
    idxS a0 0 fun v0 =>
      bif v0 == 48 then
        bif decide ((↑a0.size : Int) > 1) then some (Value.tuple { toList := [Value.int IntKind.i64 0, Value.int IntKind.i64 112] }, h)
        else jumpK (jmp37 r n 28 0 (pc [1, 1] (bd Tryd.f28)) (E28_7 (Value.string a0)) h) (finK P37 [ResultVar.tmp 2, ResultVar.tmp 3])
      else jumpK (jmp37 r n 28 0 (pc [1, 1] (bd Tryd.f28)) (E28_7 (Value.string a0)) h) (finK P37 [ResultVar.tmp 2, ResultVar.tmp 3]) := by kernel_rfl

theorem e28_7c (r n : Nat) (h : H) (x0 : ByteArray) : jmp37 r (n + 1) 28 0 (pc [1, 1] (bd Tryd.f28)) (E28_7 (.string x0)) h =
  evLoop (evCode P37 (ev37 r n) (jmp37 r n 28) (dead37 28) r 0 (pc [1, 1, 1, 0, 1, 0, 0] (bd Tryd.f28))) (dead37 28 (4 * 0)) (dead37 28 (4 * 0 + 2))
    (dead37 28 1000002) r (E28_0 (Value.int IntKind.i64 0) (Value.pointer (some { block := h.1, off := 0 }))) (h.new (Blk.iter x0 0))
    (blockK 0
      (seqK (after P37 (ev37 r n) (jmp37 r n 28) (dead37 28) r 0 (pc [1, 1, 1, 1] (bd Tryd.f28)) (outK (dead37 28) (key (pc [1, 1] (bd Tryd.f28)))))
        (outK (dead37 28) (key (pc [1, 1] (bd Tryd.f28)))))) := by kernel_rfl

theorem e28_7r (h : H) (x2 : Int) (x3 : Int) : (finK P37 [.tmp 2, .tmp 3]) .ret (E28_r (.int .i64 x2) (.int .i64 x3)) h =
  some (Value.tuple { toList := [Value.int IntKind.i64 x2, Value.int IntKind.i64 x3] }, h) := by kernel_rfl

theorem e28_0 (r n : Nat) (h : H) {R : Type} (x4 : Int) (x21 : Nat) (nx : Env → H → Option R) (K : Exit → Env → H → Option R) : evCode P37 (ev37 r n) (jmp37 r n 28) (dead37 28) r 0 (pc [1, 1, 1, 0, 1, 0, 0] (bd Tryd.f28)) (E28_0 (.int .i64 x4) (.pointer (some ⟨x21, 0, none⟩))) h (loopK nx (dead37 28 (4 * 0)) (dead37 28 (4 * 0 + 2)) (dead37 28 1000002) K) =
  nextK h x21
    (fun _ n1 h2 =>
      bif decide (n1 < 48) then K Exit.ret (E28_r (Value.int IntKind.i64 0) (Value.int IntKind.i64 112)) h2
      else
        bif decide (n1 > 57) then K Exit.ret (E28_r (Value.int IntKind.i64 0) (Value.int IntKind.i64 112)) h2
        else
          jumpK
            (jmp37 r n 28 1 (pc [1, 1, 1, 0, 1, 0, 0, 1, 1, 0, 1, 1] (bd Tryd.f28)) (E28_19 (Value.int IntKind.i64 x4) (Value.int IntKind.i32 n1) (Value.pointer (some { block := x21, off := 0 }))) h2)
            (blockK 1 (loopK nx (dead37 28 (4 * 0)) (dead37 28 (4 * 0 + 2)) (dead37 28 1000002) K)))
    (K (Exit.exit 0) (E28_2 (Value.int IntKind.i64 x4)) h) := by kernel_rfl

theorem e28_0x0 (r n : Nat) (h : H) (x4 : Int) : (blockK 0 (seqK (after P37 (ev37 r n) (jmp37 r n 28) (dead37 28) r 0 (pc [1, 1, 1, 1] (bd Tryd.f28)) (outK (dead37 28) (key (pc [1, 1] (bd Tryd.f28))))) (outK (dead37 28) (key (pc [1, 1] (bd Tryd.f28)))))) (.exit 0) (E28_2 (.int .i64 x4)) h =
  some (Exit.ret, E28_r (Value.int IntKind.i64 x4) (Value.int IntKind.i64 0), h) := by kernel_rfl

theorem e28_0r (r n : Nat) (h : H) (x2 : Int) (x3 : Int) : (blockK 0 (seqK (after P37 (ev37 r n) (jmp37 r n 28) (dead37 28) r 0 (pc [1, 1, 1, 1] (bd Tryd.f28)) (outK (dead37 28) (key (pc [1, 1] (bd Tryd.f28))))) (outK (dead37 28) (key (pc [1, 1] (bd Tryd.f28)))))) .ret (E28_r (.int .i64 x2) (.int .i64 x3)) h =
  some (Exit.ret, E28_r (Value.int IntKind.i64 x2) (Value.int IntKind.i64 x3), h) := by kernel_rfl

theorem e28_19c (r n : Nat) (h : H) (x4 : Int) (x6 : Int) (x21 : Nat) : jmp37 r (n + 1) 28 1 (pc [1, 1, 1, 0, 1, 0, 0, 1, 1, 0, 1, 1] (bd Tryd.f28)) (E28_19 (.int .i64 x4) (.int .i32 x6) (.pointer (some ⟨x21, 0, none⟩))) h =
  bif decide (x4 > IntKind.i64.wrap ((IntKind.i64.wrap (9223372036854775807 - IntKind.i64.wrap (IntKind.i32.wrap (x6 - 48)))).tdiv 10)) then
    some (Exit.ret, E28_r (Value.int IntKind.i64 0) (Value.int IntKind.i64 112), h)
  else
    some (Exit.normal, E28_0 (Value.int IntKind.i64 (IntKind.i64.wrap (IntKind.i64.wrap (10 * x4) + IntKind.i64.wrap (IntKind.i32.wrap (x6 - 48))))) (Value.pointer (some { block := x21, off := 0 })), h) := by kernel_rfl

theorem e28_19n (h : H) {R : Type} (x4 : Int) (x21 : Nat) (nx : Env → H → Option R) (K : Exit → Env → H → Option R) : (blockK 1 (loopK nx (dead37 28 (4 * 0)) (dead37 28 (4 * 0 + 2)) (dead37 28 1000002) K)) .normal (E28_0 (.int .i64 x4) (.pointer (some ⟨x21, 0, none⟩))) h =
  nx (E28_0 (Value.int IntKind.i64 x4) (Value.pointer (some { block := x21, off := 0 }))) h := by kernel_rfl

theorem e28_19r (h : H) {R : Type} (x2 : Int) (x3 : Int) (nx : Env → H → Option R) (K : Exit → Env → H → Option R) : (blockK 1 (loopK nx (dead37 28 (4 * 0)) (dead37 28 (4 * 0 + 2)) (dead37 28 1000002) K)) .ret (E28_r (.int .i64 x2) (.int .i64 x3)) h =
  K Exit.ret (E28_r (Value.int IntKind.i64 x2) (Value.int IntKind.i64 x3)) h := by kernel_rfl

theorem e29 (r n : Nat) (h : H) (a0_0 : Bool) (a0_1 : Option Addr) (a0_1n : Nat) (a0_1s : Nat) (a1_0 : Bool) (a1_1 : Option Addr) (a1_1n : Nat) (a1_1s : Nat) : ev37 r (n + 1) 29 [.agg #[.bool a0_0, .slice a0_1 a0_1n a0_1s], .agg #[.bool a1_0, .slice a1_1 a1_1n a1_1s]] h =
  optK
    (ldV P37 4 h.1 0
      (((h.new (Blk.cells [Value.bool a0_0, Value.slice a0_1 a0_1n a0_1s] false)).new (Blk.cells [Value.bool a1_0, Value.slice a1_1 a1_1n a1_1s] false)).new
        (Blk.cells [Value.bool false, Value.slice none 0 0] false)))
    fun v0 =>
    castV v0 fun b1 =>
      optK
        (ldV P37 4 (h.1 + 1) 0
          (((h.new (Blk.cells [Value.bool a0_0, Value.slice a0_1 a0_1n a0_1s] false)).new (Blk.cells [Value.bool a1_0, Value.slice a1_1 a1_1n a1_1s] false)).new
            (Blk.cells [Value.bool false, Value.slice none 0 0] false)))
        fun v2 =>
        castV v2 fun b3 =>
          bif b1 == b3 then
            optK
              (ldV P37 60 h.1 1
                (((h.new (Blk.cells [Value.bool a0_0, Value.slice a0_1 a0_1n a0_1s] false)).new (Blk.cells [Value.bool a1_0, Value.slice a1_1 a1_1n a1_1s] false)).new
                  (Blk.cells [Value.bool false, Value.slice none 0 0] false)))
              fun v4 =>
              castSl v4 fun a5 o6 o7 =>
                optK
                  (ldV P37 60 (h.1 + 1) 1
                    (((h.new (Blk.cells [Value.bool a0_0, Value.slice a0_1 a0_1n a0_1s] false)).new (Blk.cells [Value.bool a1_0, Value.slice a1_1 a1_1n a1_1s] false)).new
                      (Blk.cells [Value.bool false, Value.slice none 0 0] false)))
                  fun v8 =>
                  castSl v8 fun a9 o10 o11 =>
                    callK (ev37 r n) 42 [Value.slice a5 o6 o7, Value.slice a9 o10 o11]
                      (((h.new (Blk.cells [Value.bool a0_0, Value.slice a0_1 a0_1n a0_1s] false)).new (Blk.cells [Value.bool a1_0, Value.slice a1_1 a1_1n a1_1s] false)).new
                        (Blk.cells [Value.bool false, Value.slice none 0 0] false))
                      fun v12 h13 =>
                      castSl v12 fun a14 o15 o16 =>
                        optK (ldV P37 4 h.1 0 h13) fun v17 =>
                          castV v17 fun b18 =>
                            bif
                                sameLd P37 4 h.1 0 (Value.bool b18)
                                  (((h.new (Blk.cells (Value.agg #[Value.bool a0_0, Value.slice a0_1 a0_1n a0_1s]).cells.toList false)).new
                                        (Blk.cells (Value.agg #[Value.bool a1_0, Value.slice a1_1 a1_1n a1_1s]).cells.toList false)).new
                                    (Blk.cells (Value.agg #[Value.bool false, Value.slice none 0 0]).cells.toList false)) then
                              optK (stCells h13 (h.1 + 1 + 1) 0 [Value.bool b18, Value.slice a14 o15 o16]) fun h19 => optK (ldV P37 62 (h.1 + 1 + 1) 0 h19) fun v20 => some (v20, h19)
                            else none
          else
            optK
              (ldV P37 60 h.1 1
                (((h.new (Blk.cells [Value.bool a0_0, Value.slice a0_1 a0_1n a0_1s] false)).new (Blk.cells [Value.bool a1_0, Value.slice a1_1 a1_1n a1_1s] false)).new
                  (Blk.cells [Value.bool false, Value.slice none 0 0] false)))
              fun v21 =>
              castSl v21 fun a22 o23 o24 =>
                optK
                  (ldV P37 60 (h.1 + 1) 1
                    (((h.new (Blk.cells [Value.bool a0_0, Value.slice a0_1 a0_1n a0_1s] false)).new (Blk.cells [Value.bool a1_0, Value.slice a1_1 a1_1n a1_1s] false)).new
                      (Blk.cells [Value.bool false, Value.slice none 0 0] false)))
                  fun v25 =>
                  castSl v25 fun a26 o27 o28 =>
                    callK (ev37 r n) 43 [Value.slice a22 o23 o24, Value.slice a26 o27 o28]
                      (((h.new (Blk.cells [Value.bool a0_0, Value.slice a0_1 a0_1n a0_1s] false)).new (Blk.cells [Value.bool a1_0, Value.slice a1_1 a1_1n a1_1s] false)).new
                        (Blk.cells [Value.bool false, Value.slice none 0 0] false))
                      fun v29 h30 =>
                      castI IntKind.i64 v29 fun n31 =>
                        bif decide (n31 < 0) then
                          optK (ldV P37 60 (h.1 + 1) 1 h30) fun v32 =>
                            castSl v32 fun a33 o34 o35 =>
                              optK (ldV P37 60 h.1 1 h30) fun v36 =>
                                castSl v36 fun a37 o38 o39 =>
                                  callK (ev37 r n) 44 [Value.slice a33 o34 o35, Value.slice a37 o38 o39] h30 fun v40 h41 =>
                                    castSl v40 fun a42 o43 o44 =>
                                      optK (ldV P37 4 (h.1 + 1) 0 h41) fun v45 =>
                                        castV v45 fun b46 =>
                                          bif sameLd P37 4 (h.1 + 1) 0 (Value.bool b46) h30 then
                                            optK (stCells h41 (h.1 + 1 + 1) 0 [Value.bool b46, Value.slice a42 o43 o44]) fun h47 => optK (ldV P37 62 (h.1 + 1 + 1) 0 h47) fun v48 => some (v48, h47)
                                          else none
                        else
                          optK (ldV P37 60 h.1 1 h30) fun v49 =>
                            castSl v49 fun a50 o51 o52 =>
                              optK (ldV P37 60 (h.1 + 1) 1 h30) fun v53 =>
                                castSl v53 fun a54 o55 o56 =>
                                  callK (ev37 r n) 44 [Value.slice a50 o51 o52, Value.slice a54 o55 o56] h30 fun v57 h58 =>
                                    castSl v57 fun a59 o60 o61 =>
                                      optK (ldV P37 4 h.1 0 h58) fun v62 =>
                                        castV v62 fun b63 =>
                                          bif b63 then
                                            optK (stCells h58 (h.1 + 1 + 1) 0 [Value.bool (decide ((↑o60 : Int) > 0)), Value.slice a59 o60 o61]) fun h64 =>
                                              optK (ldV P37 62 (h.1 + 1 + 1) 0 h64) fun v65 => some (v65, h64)
                                          else optK (stCells h58 (h.1 + 1 + 1) 0 [Value.bool false, Value.slice a59 o60 o61]) fun h66 => optK (ldV P37 62 (h.1 + 1 + 1) 0 h66) fun v67 => some (v67, h66) := by kernel_rfl

theorem e30 (r n : Nat) (h : H) (a0_0 : Bool) (a0_1 : Option Addr) (a0_1n : Nat) (a0_1s : Nat) (a1_0 : Bool) (a1_1 : Option Addr) (a1_1n : Nat) (a1_1s : Nat) : ev37 r (n + 1) 30 [.agg #[.bool a0_0, .slice a0_1 a0_1n a0_1s], .agg #[.bool a1_0, .slice a1_1 a1_1n a1_1s]] h =
  optK
    (ldV P37 60 h.1 1
      (((h.new (Blk.cells [Value.bool a0_0, Value.slice a0_1 a0_1n a0_1s] false)).new (Blk.cells [Value.bool a1_0, Value.slice a1_1 a1_1n a1_1s] false)).new
        (Blk.cells [Value.bool false, Value.slice none 0 0] false)))
    fun v0 =>
    castSl v0 fun a1 o2 o3 =>
      appendA P37 { toList := [60, 60] } (Value.slice none 0 0) (Value.slice a1 o2 o3)
        (((h.new (Blk.cells [Value.bool a0_0, Value.slice a0_1 a0_1n a0_1s] false)).new (Blk.cells [Value.bool a1_0, Value.slice a1_1 a1_1n a1_1s] false)).new
          (Blk.cells [Value.bool false, Value.slice none 0 0] false))
        fun v4 h5 =>
        castSl v4 fun a6 o7 o8 =>
          evLoop (evCode P37 (ev37 r n) (jmp37 r n 30) (dead37 30) r 0 (pc [1, 1, 1, 1, 0, 1, 0, 0] (bd Tryd.f30))) (dead37 30 (4 * 0))
            (dead37 30 (4 * 0 + 2)) (dead37 30 1000002) r
            (E30_0 (Value.pointer (some { block := h.1, off := 0 })) (Value.pointer (some { block := h.1 + 1, off := 0 })) (Value.pointer (some { block := h.1 + 1 + 1, off := 0 }))
              (Value.slice none 0 0) (Value.slice a6 o7 o8) (Value.int IntKind.i64 0))
            h5
            (blockK 0
              (seqK (after P37 (ev37 r n) (jmp37 r n 30) (dead37 30) r 0 (pc [1, 1, 1, 1, 1] (bd Tryd.f30)) (finK P37 [ResultVar.cell 4 62]))
                (finK P37 [ResultVar.cell 4 62]))) := by kernel_rfl

theorem e30_0 (r n : Nat) (h : H) {R : Type} (x2 : Nat) (x3 : Nat) (x4 : Nat) (x5 : Option Addr) (x5n : Nat) (x5s : Nat) (x6 : Option Addr) (x6n : Nat) (x6s : Nat) (x7 : Int) (nx : Env → H → Option R) (K : Exit → Env → H → Option R) : evCode P37 (ev37 r n) (jmp37 r n 30) (dead37 30) r 0 (pc [1, 1, 1, 1, 0, 1, 0, 0] (bd Tryd.f30)) (E30_0 (.pointer (some ⟨x2, 0, none⟩)) (.pointer (some ⟨x3, 0, none⟩)) (.pointer (some ⟨x4, 0, none⟩)) (.slice x5 x5n x5s) (.slice x6 x6n x6s) (.int .i64 x7)) h (loopK nx (dead37 30 (4 * 0)) (dead37 30 (4 * 0 + 2)) (dead37 30 1000002) K) =
  optK (ldV P37 60 x3 1 h) fun v0 =>
    castSl v0 fun _ o2 _ =>
      bif decide (x7 < (↑o2 : Int)) then
        optK (ldV P37 60 x3 1 h) fun v4 =>
          castSl v4 fun a5 o6 o7 =>
            indexAddrA P37 60 (Value.slice a5 o6 o7) (Value.int IntKind.i64 x7) fun v8 =>
              addrK v8 fun o9 o10 =>
                optK (ldV P37 4 o9 o10 h) fun v11 =>
                  castV v11 fun b12 =>
                    bif b12 then
                      callK (ev37 r n) 42 [Value.slice x5 x5n x5s, Value.slice x6 x6n x6s] h fun v13 h14 =>
                        castSl v13 fun a15 o16 o17 =>
                          jumpK
                            (jmp37 r n 30 1 (pc [1, 1, 1, 1, 0, 1, 0, 0, 1, 0, 0, 1] (bd Tryd.f30))
                              (E30_0 (Value.pointer (some { block := x2, off := 0 })) (Value.pointer (some { block := x3, off := 0 })) (Value.pointer (some { block := x4, off := 0 }))
                                (Value.slice a15 o16 o17) (Value.slice x6 x6n x6s) (Value.int IntKind.i64 x7))
                              h14)
                            (blockK 1
                              (seqK
                                (after P37 (ev37 r n) (jmp37 r n 30) (dead37 30) r 0 (pc [1, 1, 1, 1, 0, 1, 0, 0, 1, 1] (bd Tryd.f30))
                                  (loopK nx (dead37 30 (4 * 0)) (dead37 30 (4 * 0 + 2)) (dead37 30 1000002) K))
                                (loopK nx (dead37 30 (4 * 0)) (dead37 30 (4 * 0 + 2)) (dead37 30 1000002) K)))
                    else
                      jumpK
                        (jmp37 r n 30 1 (pc [1, 1, 1, 1, 0, 1, 0, 0, 1, 0, 0, 1] (bd Tryd.f30))
                          (E30_0 (Value.pointer (some { block := x2, off := 0 })) (Value.pointer (some { block := x3, off := 0 })) (Value.pointer (some { block := x4, off := 0 }))
                            (Value.slice x5 x5n x5s) (Value.slice x6 x6n x6s) (Value.int IntKind.i64 x7))
                          h)
                        (blockK 1
                          (seqK
                            (after P37 (ev37 r n) (jmp37 r n 30) (dead37 30) r 0 (pc [1, 1, 1, 1, 0, 1, 0, 0, 1, 1] (bd Tryd.f30))
                              (loopK nx (dead37 30 (4 * 0)) (dead37 30 (4 * 0 + 2)) (dead37 30 1000002) K))
                            (loopK nx (dead37 30 (4 * 0)) (dead37 30 (4 * 0 + 2)) (dead37 30 1000002) K)))
      else
        K (Exit.exit 0)
          (E30_2 (Value.pointer (some { block := x2, off := 0 })) (Value.pointer (some { block := x3, off := 0 })) (Value.pointer (some { block := x4, off := 0 })) (Value.slice x5 x5n x5s)) h := by kernel_rfl

theorem e30_0x0 (r n : Nat) (h : H) (x2 : Nat) (x3 : Nat) (x4 : Nat) (x5 : Option Addr) (x5n : Nat) (x5s : Nat) : (blockK 0 (seqK (after P37 (ev37 r n) (jmp37 r n 30) (dead37 30) r 0 (pc [1, 1, 1, 1, 1] (bd Tryd.f30)) (finK P37 [.cell 4 62])) (finK P37 [.cell 4 62]))) (.exit 0) (E30_2 (.pointer (some ⟨x2, 0, none⟩)) (.pointer (some ⟨x3, 0, none⟩)) (.pointer (some ⟨x4, 0, none⟩)) (.slice x5 x5n x5s)) h =
  optK (ldV P37 4 x2 0 h) fun v0 =>
    castV v0 fun b1 =>
      optK (ldV P37 4 x3 0 h) fun v2 =>
        castV v2 fun b3 =>
          bif !b1 == b3 then optK (stCells h x4 0 [Value.bool (decide ((↑x5n : Int) > 0)), Value.slice x5 x5n x5s]) fun h4 => optK (ldV P37 62 x4 0 h4) fun v5 => some (v5, h4)
          else optK (stCells h x4 0 [Value.bool false, Value.slice x5 x5n x5s]) fun h6 => optK (ldV P37 62 x4 0 h6) fun v7 => some (v7, h6) := by kernel_rfl

theorem e30_19c (r n : Nat) (h : H) (x2 : Nat) (x3 : Nat) (x4 : Nat) (x5 : Option Addr) (x5n : Nat) (x5s : Nat) (x6 : Option Addr) (x6n : Nat) (x6s : Nat) (x7 : Int) : jmp37 r (n + 1) 30 1 (pc [1, 1, 1, 1, 0, 1, 0, 0, 1, 0, 0, 1] (bd Tryd.f30)) (E30_0 (.pointer (some ⟨x2, 0, none⟩)) (.pointer (some ⟨x3, 0, none⟩)) (.pointer (some ⟨x4, 0, none⟩)) (.slice x5 x5n x5s) (.slice x6 x6n x6s) (.int .i64 x7)) h =
  appendA P37 { toList := [60, 60] } (Value.slice (some { block := h.1, off := 0 }) 1 1) (Value.slice x6 x6n x6s) (h.new (Blk.cells [Value.bool false] false)) fun v0 h1 =>
    castSl v0 fun a2 o3 o4 =>
      some
        (Exit.normal,
          E30_0 (Value.pointer (some { block := x2, off := 0 })) (Value.pointer (some { block := x3, off := 0 })) (Value.pointer (some { block := x4, off := 0 })) (Value.slice x5 x5n x5s)
            (Value.slice a2 o3 o4) (Value.int IntKind.i64 x7),
          h1) := by kernel_rfl

theorem e30_19n (r n : Nat) (h : H) {R : Type} (x2 : Nat) (x3 : Nat) (x4 : Nat) (x5 : Option Addr) (x5n : Nat) (x5s : Nat) (x6 : Option Addr) (x6n : Nat) (x6s : Nat) (x7 : Int) (nx : Env → H → Option R) (K : Exit → Env → H → Option R) : (blockK 1 (seqK (after P37 (ev37 r n) (jmp37 r n 30) (dead37 30) r 0 (pc [1, 1, 1, 1, 0, 1, 0, 0, 1, 1] (bd Tryd.f30)) (loopK nx (dead37 30 (4 * 0)) (dead37 30 (4 * 0 + 2)) (dead37 30 1000002) K)) (loopK nx (dead37 30 (4 * 0)) (dead37 30 (4 * 0 + 2)) (dead37 30 1000002) K))) .normal (E30_0 (.pointer (some ⟨x2, 0, none⟩)) (.pointer (some ⟨x3, 0, none⟩)) (.pointer (some ⟨x4, 0, none⟩)) (.slice x5 x5n x5s) (.slice x6 x6n x6s) (.int .i64 x7)) h =
  nx
    (E30_0 (Value.pointer (some { block := x2, off := 0 })) (Value.pointer (some { block := x3, off := 0 })) (Value.pointer (some { block := x4, off := 0 })) (Value.slice x5 x5n x5s)
      (Value.slice x6 x6n x6s) (Value.int IntKind.i64 (IntKind.i64.wrap (x7 + 1))))
    h := by kernel_rfl

theorem e31 (r n : Nat) (h : H) (a0 : Int) : ev37 r (n + 1) 31 [.int .i64 a0] h =
  bif decide (a0 < 0) then
    jumpK
      (jmp37 r n 31 0 (pc [1, 1, 1] (bd Tryd.f31))
        (E31_9 (Value.int IntKind.i64 a0) (Value.pointer (some { block := h.1, off := 0 })) (Value.int IntKind.u64 (IntKind.u64.wrap (0 - IntKind.u64.wrap a0))))
        (h.new (Blk.cells [Value.bool false, Value.slice none 0 0] false)))
      (finK P37 [ResultVar.cell 2 62])
  else
    jumpK
      (jmp37 r n 31 0 (pc [1, 1, 1] (bd Tryd.f31))
        (E31_9 (Value.int IntKind.i64 a0) (Value.pointer (some { block := h.1, off := 0 })) (Value.int IntKind.u64 (IntKind.u64.wrap a0)))
        (h.new (Blk.cells [Value.bool false, Value.slice none 0 0] false)))
      (finK P37 [ResultVar.cell 2 62]) := by kernel_rfl

theorem e31_9c (r n : Nat) (h : H) (x0 : Int) (x2 : Nat) (x3 : Int) : jmp37 r (n + 1) 31 0 (pc [1, 1, 1] (bd Tryd.f31)) (E31_9 (.int .i64 x0) (.pointer (some ⟨x2, 0, none⟩)) (.int .u64 x3)) h =
  evLoop (evCode P37 (ev37 r n) (jmp37 r n 31) (dead37 31) r 0 (pc [1, 1, 1, 1, 0, 0, 0] (bd Tryd.f31))) (dead37 31 (4 * 0)) (dead37 31 (4 * 0 + 2))
    (dead37 31 1000002) r (E31_0 (Value.int IntKind.i64 x0) (Value.pointer (some { block := x2, off := 0 })) (Value.int IntKind.u64 x3) (Value.slice none 0 0)) h
    (blockK 0
      (seqK (after P37 (ev37 r n) (jmp37 r n 31) (dead37 31) r 0 (pc [1, 1, 1, 1, 1] (bd Tryd.f31)) (outK (dead37 31) (key (pc [1, 1, 1] (bd Tryd.f31)))))
        (outK (dead37 31) (key (pc [1, 1, 1] (bd Tryd.f31)))))) := by kernel_rfl

theorem e31_9r (h : H) (x2 : Nat) : (finK P37 [.cell 2 62]) .ret (E31_r (.pointer (some ⟨x2, 0, none⟩))) h =
  optK (ldV P37 62 x2 0 h) fun v0 => some (v0, h) := by kernel_rfl

theorem e31_0 (r n : Nat) (h : H) {R : Type} (x0 : Int) (x2 : Nat) (x3 : Int) (x4 : Option Addr) (x4n : Nat) (x4s : Nat) (nx : Env → H → Option R) (K : Exit → Env → H → Option R) : evCode P37 (ev37 r n) (jmp37 r n 31) (dead37 31) r 0 (pc [1, 1, 1, 1, 0, 0, 0] (bd Tryd.f31)) (E31_0 (.int .i64 x0) (.pointer (some ⟨x2, 0, none⟩)) (.int .u64 x3) (.slice x4 x4n x4s)) h (loopK nx (dead37 31 (4 * 0)) (dead37 31 (4 * 0 + 2)) (dead37 31 1000002) K) =
  bif decide (x3 > 0) then
    appendA P37 { toList := [60, 60] } (Value.slice x4 x4n x4s) (Value.slice (some { block := h.1, off := 0 }) 1 1) (h.new (Blk.cells [Value.bool (x3.tmod 2 == 1)] false)) fun v0 h1 =>
      castSl v0 fun a2 o3 o4 => nx (E31_0 (Value.int IntKind.i64 x0) (Value.pointer (some { block := x2, off := 0 })) (Value.int IntKind.u64 (IntKind.u64.wrap (x3.tdiv 2))) (Value.slice a2 o3 o4)) h1
  else K (Exit.exit 0) (E31_2 (Value.int IntKind.i64 x0) (Value.pointer (some { block := x2, off := 0 })) (Value.slice x4 x4n x4s)) h := by kernel_rfl

theorem e31_0x0 (r n : Nat) (h : H) (x0 : Int) (x2 : Nat) (x4 : Option Addr) (x4n : Nat) (x4s : Nat) : (blockK 0 (seqK (after P37 (ev37 r n) (jmp37 r n 31) (dead37 31) r 0 (pc [1, 1, 1, 1, 1] (bd Tryd.f31)) (outK (dead37 31) (key (pc [1, 1, 1] (bd Tryd.f31))))) (outK (dead37 31) (key (pc [1, 1, 1] (bd Tryd.f31)))))) (.exit 0) (E31_2 (.int .i64 x0) (.pointer (some ⟨x2, 0, none⟩)) (.slice x4 x4n x4s)) h =
  optK (stCells h x2 0 [Value.bool (decide (x0 < 0)), Value.slice x4 x4n x4s]) fun h0 => some (Exit.ret, E31_r (Value.pointer (some { block := x2, off := 0 })), h0) := by kernel_rfl

theorem e32 (r n : Nat) (h : H) (a0_0 : Bool) (a0_1 : Option Addr) (a0_1n : Nat) (a0_1s : Nat) : ev37 r (n + 1) 32 [.agg #[.bool a0_0, .slice a0_1 a0_1n a0_1s]] h =
  optK (ldV P37 60 h.1 1 (h.new (Blk.cells [Value.bool a0_0, Value.slice a0_1 a0_1n a0_1s] false))) fun v0 =>
    castSl v0 fun _ o2 _ =>
      bif decide ((↑o2 : Int) > 64) then some (Value.tuple { toList := [Value.int IntKind.i64 0, Value.bool false] }, h.new (Blk.cells [Value.bool a0_0, Value.slice a0_1 a0_1n a0_1s] false))
      else
        optK (ldV P37 60 h.1 1 (h.new (Blk.cells [Value.bool a0_0, Value.slice a0_1 a0_1n a0_1s] false))) fun v4 =>
          castSl v4 fun _ o6 _ =>
            evLoop (evCode P37 (ev37 r n) (jmp37 r n 32) (dead37 32) r 0 (pc [1, 1, 1, 0, 1, 0, 0] (bd Tryd.f32))) (dead37 32 (4 * 0))
              (dead37 32 (4 * 0 + 2)) (dead37 32 1000002) r
              (E32_0 (Value.pointer (some { block := h.1, off := 0 })) (Value.int IntKind.u64 0) (Value.int IntKind.i64 (IntKind.i64.wrap ((↑o6 : Int) - 1))))
              (h.new (Blk.cells [Value.bool a0_0, Value.slice a0_1 a0_1n a0_1s] false))
              (blockK 0
                (seqK (after P37 (ev37 r n) (jmp37 r n 32) (dead37 32) r 0 (pc [1, 1, 1, 1] (bd Tryd.f32)) (finK P37 [ResultVar.tmp 2, ResultVar.tmp 3]))
                  (finK P37 [ResultVar.tmp 2, ResultVar.tmp 3]))) := by kernel_rfl

theorem e32_0 (r n : Nat) (h : H) {R : Type} (x1 : Nat) (x4 : Int) (x5 : Int) (nx : Env → H → Option R) (K : Exit → Env → H → Option R) : evCode P37 (ev37 r n) (jmp37 r n 32) (dead37 32) r 0 (pc [1, 1, 1, 0, 1, 0, 0] (bd Tryd.f32)) (E32_0 (.pointer (some ⟨x1, 0, none⟩)) (.int .u64 x4) (.int .i64 x5)) h (loopK nx (dead37 32 (4 * 0)) (dead37 32 (4 * 0 + 2)) (dead37 32 1000002) K) =
  bif decide (x5 ≥ 0) then
    optK (ldV P37 60 x1 1 h) fun v0 =>
      castSl v0 fun a1 o2 o3 =>
        indexAddrA P37 60 (Value.slice a1 o2 o3) (Value.int IntKind.i64 x5) fun v4 =>
          addrK v4 fun o5 o6 =>
            optK (ldV P37 4 o5 o6 h) fun v7 =>
              castV v7 fun b8 =>
                bif b8 then
                  nx
                    (E32_0 (Value.pointer (some { block := x1, off := 0 })) (Value.int IntKind.u64 (IntKind.u64.wrap (IntKind.u64.wrap (2 * x4) + 1)))
                      (Value.int IntKind.i64 (IntKind.i64.wrap (x5 - 1))))
                    h
                else nx (E32_0 (Value.pointer (some { block := x1, off := 0 })) (Value.int IntKind.u64 (IntKind.u64.wrap (2 * x4))) (Value.int IntKind.i64 (IntKind.i64.wrap (x5 - 1)))) h
  else K (Exit.exit 0) (E32_2 (Value.pointer (some { block := x1, off := 0 })) (Value.int IntKind.u64 x4)) h := by kernel_rfl

theorem e32_0x0 (r n : Nat) (h : H) (x1 : Nat) (x4 : Int) : (blockK 0 (seqK (after P37 (ev37 r n) (jmp37 r n 32) (dead37 32) r 0 (pc [1, 1, 1, 1] (bd Tryd.f32)) (finK P37 [.tmp 2, .tmp 3])) (finK P37 [.tmp 2, .tmp 3]))) (.exit 0) (E32_2 (.pointer (some ⟨x1, 0, none⟩)) (.int .u64 x4)) h =
  optK (ldV P37 4 x1 0 h) fun v0 =>
    castV v0 fun b1 =>
      bif b1 then some (Value.tuple { toList := [Value.int IntKind.i64 (IntKind.i64.wrap (IntKind.u64.wrap (0 - x4))), Value.bool (decide (x4 ≤ 9223372036854775808))] }, h)
      else some (Value.tuple { toList := [Value.int IntKind.i64 (IntKind.i64.wrap x4), Value.bool (decide (x4 < 9223372036854775808))] }, h) := by kernel_rfl

theorem e42 (r n : Nat) (h : H) (a0 : Option Addr) (a0n : Nat) (a0s : Nat) (a1 : Option Addr) (a1n : Nat) (a1s : Nat) : ev37 r (n + 1) 42 [.slice a0 a0n a0s, .slice a1 a1n a1s] h =
  evLoop (evCode P37 (ev37 r n) (jmp37 r n 42) (dead37 42) r 0 (pc [1, 1, 1, 0, 1, 0, 0] (bd Tryd.f42))) (dead37 42 (4 * 0)) (dead37 42 (4 * 0 + 2))
    (dead37 42 1000002) r (E42_0 (Value.slice a0 a0n a0s) (Value.slice a1 a1n a1s) (Value.slice none 0 0) (Value.bool false) (Value.int IntKind.i64 0)) h
    (blockK 0
      (seqK (after P37 (ev37 r n) (jmp37 r n 42) (dead37 42) r 0 (pc [1, 1, 1, 1] (bd Tryd.f42)) (finK P37 [ResultVar.tmp 4]))
        (finK P37 [ResultVar.tmp 4]))) := by kernel_rfl

theorem e42_0 (r n : Nat) (h : H) {R : Type} (x0 : Option Addr) (x0n : Nat) (x0s : Nat) (x1 : Option Addr) (x1n : Nat) (x1s : Nat) (x5 : Option Addr) (x5n : Nat) (x5s : Nat) (x6 : Bool) (x7 : Int) (nx : Env → H → Option R) (K : Exit → Env → H → Option R) : evCode P37 (ev37 r n) (jmp37 r n 42) (dead37 42) r 0 (pc [1, 1, 1, 0, 1, 0, 0] (bd Tryd.f42)) (E42_0 (.slice x0 x0n x0s) (.slice x1 x1n x1s) (.slice x5 x5n x5s) (.bool x6) (.int .i64 x7)) h (loopK nx (dead37 42 (4 * 0)) (dead37 42 (4 * 0 + 2)) (dead37 42 1000002) K) =
  bif decide (x7 < if (↑x1n : Int) > (↑x0n : Int) then (↑x1n : Int) else (↑x0n : Int)) then
    jumpK (jmp37 r n 42 0 (pc [1, 1, 1, 0, 1, 0, 0, 1] (bd Tryd.f42)) (E42_0 (Value.slice x0 x0n x0s) (Value.slice x1 x1n x1s) (Value.slice x5 x5n x5s) (Value.bool x6) (Value.int IntKind.i64 x7)) h)
      (loopK nx (dead37 42 (4 * 0)) (dead37 42 (4 * 0 + 2)) (dead37 42 1000002) K)
  else
    bif x6 then
      jumpK (jmp37 r n 42 0 (pc [1, 1, 1, 0, 1, 0, 0, 1] (bd Tryd.f42)) (E42_0 (Value.slice x0 x0n x0s) (Value.slice x1 x1n x1s) (Value.slice x5 x5n x5s) (Value.bool x6) (Value.int IntKind.i64 x7)) h)
        (loopK nx (dead37 42 (4 * 0)) (dead37 42 (4 * 0 + 2)) (dead37 42 1000002) K)
    else K (Exit.exit 0) (E42_2 (Value.slice x5 x5n x5s)) h := by kernel_rfl

theorem e42_0x0 (r n : Nat) (h : H) (x5 : Option Addr) (x5n : Nat) (x5s : Nat) : (blockK 0 (seqK (after P37 (ev37 r n) (jmp37 r n 42) (dead37 42) r 0 (pc [1, 1, 1, 1] (bd Tryd.f42)) (finK P37 [.tmp 4])) (finK P37 [.tmp 4]))) (.exit 0) (E42_2 (.slice x5 x5n x5s)) h =
  callK (ev37 r n) 53 [Value.slice x5 x5n x5s] h fun v0 h1 => castSl v0 fun a2 o3 o4 => some (Value.slice a2 o3 o4, h1) := by kernel_rfl

theorem e42_4000004c (r n : Nat) (h : H) (x0 : Option Addr) (x0n : Nat) (x0s : Nat) (x1 : Option Addr) (x1n : Nat) (x1s : Nat) (x5 : Option Addr) (x5n : Nat) (x5s : Nat) (x6 : Bool) (x7 : Int) : jmp37 r (n + 1) 42 0 (pc [1, 1, 1, 0, 1, 0, 0, 1] (bd Tryd.f42)) (E42_0 (.slice x0 x0n x0s) (.slice x1 x1n x1s) (.slice x5 x5n x5s) (.bool x6) (.int .i64 x7)) h =
  callK (ev37 r n) 52 [Value.slice x0 x0n x0s, Value.int IntKind.i64 x7] h fun v0 h1 =>
    castV v0 fun b2 =>
      callK (ev37 r n) 52 [Value.slice x1 x1n x1s, Value.int IntKind.i64 x7] h1 fun v3 h4 =>
        castV v3 fun b5 =>
          appendA P37 { toList := [60, 60] } (Value.slice x5 x5n x5s) (Value.slice (some { block := h4.1, off := 0 }) 1 1) (h4.new (Blk.cells [Value.bool !(!b2 == b5) == x6] false)) fun v6 h7 =>
            castSl v6 fun a8 o9 o10 =>
              bif b2 then
                bif b5 then some (Exit.normal, E42_0 (Value.slice x0 x0n x0s) (Value.slice x1 x1n x1s) (Value.slice a8 o9 o10) (Value.bool true) (Value.int IntKind.i64 (IntKind.i64.wrap (x7 + 1))), h7)
                else
                  bif x6 then
                    bif b2 then
                      some (Exit.normal, E42_0 (Value.slice x0 x0n x0s) (Value.slice x1 x1n x1s) (Value.slice a8 o9 o10) (Value.bool true) (Value.int IntKind.i64 (IntKind.i64.wrap (x7 + 1))), h7)
                    else some (Exit.normal, E42_0 (Value.slice x0 x0n x0s) (Value.slice x1 x1n x1s) (Value.slice a8 o9 o10) (Value.bool b5) (Value.int IntKind.i64 (IntKind.i64.wrap (x7 + 1))), h7)
                  else some (Exit.normal, E42_0 (Value.slice x0 x0n x0s) (Value.slice x1 x1n x1s) (Value.slice a8 o9 o10) (Value.bool false) (Value.int IntKind.i64 (IntKind.i64.wrap (x7 + 1))), h7)
              else
                bif x6 then
                  bif b2 then
                    some (Exit.normal, E42_0 (Value.slice x0 x0n x0s) (Value.slice x1 x1n x1s) (Value.slice a8 o9 o10) (Value.bool true) (Value.int IntKind.i64 (IntKind.i64.wrap (x7 + 1))), h7)
                  else some (Exit.normal, E42_0 (Value.slice x0 x0n x0s) (Value.slice x1 x1n x1s) (Value.slice a8 o9 o10) (Value.bool b5) (Value.int IntKind.i64 (IntKind.i64.wrap (x7 + 1))), h7)
                else some (Exit.normal, E42_0 (Value.slice x0 x0n x0s) (Value.slice x1 x1n x1s) (Value.slice a8 o9 o10) (Value.bool false) (Value.int IntKind.i64 (IntKind.i64.wrap (x7 + 1))), h7) := by kernel_rfl

theorem e42_4000004n (h : H) {R : Type} (x0 : Option Addr) (x0n : Nat) (x0s : Nat) (x1 : Option Addr) (x1n : Nat) (x1s : Nat) (x5 : Option Addr) (x5n : Nat) (x5s : Nat) (x6 : Bool) (x7 : Int) (nx : Env → H → Option R) (K : Exit → Env → H → Option R) : (loopK nx (dead37 42 (4 * 0)) (dead37 42 (4 * 0 + 2)) (dead37 42 1000002) K) .normal (E42_0 (.slice x0 x0n x0s) (.slice x1 x1n x1s) (.slice x5 x5n x5s) (.bool x6) (.int .i64 x7)) h =
  nx (E42_0 (Value.slice x0 x0n x0s) (Value.slice x1 x1n x1s) (Value.slice x5 x5n x5s) (Value.bool x6) (Value.int IntKind.i64 x7)) h := by kernel_rfl

theorem e43 (r n : Nat) (h : H) (a0 : Option Addr) (a0n : Nat) (a0s : Nat) (a1 : Option Addr) (a1n : Nat) (a1s : Nat) : ev37 r (n + 1) 43 [.slice a0 a0n a0s, .slice a1 a1n a1s] h =
  evLoop (evCode P37 (ev37 r n) (jmp37 r n 43) (dead37 43) r 0 (pc [1, 0, 1, 0, 0] (bd Tryd.f43))) (dead37 43 (4 * 0)) (dead37 43 (4 * 0 + 2))
    (dead37 43 1000002) r (E43_0 (Value.slice a0 a0n a0s) (Value.slice a1 a1n a1s) (Value.int IntKind.i64 (IntKind.i64.wrap ((if (↑a1n : Int) > (↑a0n : Int) then (↑a1n : Int) else (↑a0n : Int)) - 1))))
    h
    (blockK 0
      (seqK (after P37 (ev37 r n) (jmp37 r n 43) (dead37 43) r 0 (pc [1, 1] (bd Tryd.f43)) (finK P37 [ResultVar.tmp 4])) (finK P37 [ResultVar.tmp 4]))) := by kernel_rfl

theorem e43_0 (r n : Nat) (h : H) {R : Type} (x0 : Option Addr) (x0n : Nat) (x0s : Nat) (x1 : Option Addr) (x1n : Nat) (x1s : Nat) (x5 : Int) (nx : Env → H → Option R) (K : Exit → Env → H → Option R) : evCode P37 (ev37 r n) (jmp37 r n 43) (dead37 43) r 0 (pc [1, 0, 1, 0, 0] (bd Tryd.f43)) (E43_0 (.slice x0 x0n x0s) (.slice x1 x1n x1s) (.int .i64 x5)) h (loopK nx (dead37 43 (4 * 0)) (dead37 43 (4 * 0 + 2)) (dead37 43 1000002) K) =
  bif decide (x5 ≥ 0) then
    callK (ev37 r n) 52 [Value.slice x0 x0n x0s, Value.int IntKind.i64 x5] h fun v0 h1 =>
      castV v0 fun b2 =>
        callK (ev37 r n) 52 [Value.slice x1 x1n x1s, Value.int IntKind.i64 x5] h1 fun v3 h4 =>
          castV v3 fun b5 =>
            bif !b2 == b5 then
              callK (ev37 r n) 52 [Value.slice x0 x0n x0s, Value.int IntKind.i64 x5] h4 fun v6 h7 =>
                castV v6 fun b8 => bif b8 then K Exit.ret (E43_r (Value.int IntKind.i64 1)) h7 else K Exit.ret (E43_r (Value.int IntKind.i64 (-1))) h7
            else nx (E43_0 (Value.slice x0 x0n x0s) (Value.slice x1 x1n x1s) (Value.int IntKind.i64 (IntKind.i64.wrap (x5 - 1)))) h4
  else K (Exit.exit 0) E43_2 h := by kernel_rfl

theorem e43_0x0 (r n : Nat) (h : H) : (blockK 0 (seqK (after P37 (ev37 r n) (jmp37 r n 43) (dead37 43) r 0 (pc [1, 1] (bd Tryd.f43)) (finK P37 [.tmp 4])) (finK P37 [.tmp 4]))) (.exit 0) (E43_2) h =
  some (Value.int IntKind.i64 0, h) := by kernel_rfl

theorem e43_0r (r n : Nat) (h : H) (x4 : Int) : (blockK 0 (seqK (after P37 (ev37 r n) (jmp37 r n 43) (dead37 43) r 0 (pc [1, 1] (bd Tryd.f43)) (finK P37 [.tmp 4])) (finK P37 [.tmp 4]))) .ret (E43_r (.int .i64 x4)) h =
  some (Value.int IntKind.i64 x4, h) := by kernel_rfl

theorem e44 (r n : Nat) (h : H) (a0 : Option Addr) (a0n : Nat) (a0s : Nat) (a1 : Option Addr) (a1n : Nat) (a1s : Nat) : ev37 r (n + 1) 44 [.slice a0 a0n a0s, .slice a1 a1n a1s] h =
  evLoop (evCode P37 (ev37 r n) (jmp37 r n 44) (dead37 44) r 0 (pc [1, 1, 1, 0, 1, 0, 0] (bd Tryd.f44))) (dead37 44 (4 * 0)) (dead37 44 (4 * 0 + 2))
    (dead37 44 1000002) r (E44_0 (Value.slice a0 a0n a0s) (Value.slice a1 a1n a1s) (Value.slice none 0 0) (Value.bool false) (Value.int IntKind.i64 0)) h
    (blockK 0
      (seqK (after P37 (ev37 r n) (jmp37 r n 44) (dead37 44) r 0 (pc [1, 1, 1, 1] (bd Tryd.f44)) (finK P37 [ResultVar.tmp 4]))
        (finK P37 [ResultVar.tmp 4]))) := by kernel_rfl

theorem e44_0 (r n : Nat) (h : H) {R : Type} (x0 : Option Addr) (x0n : Nat) (x0s : Nat) (x1 : Option Addr) (x1n : Nat) (x1s : Nat) (x5 : Option Addr) (x5n : Nat) (x5s : Nat) (x6 : Bool) (x7 : Int) (nx : Env → H → Option R) (K : Exit → Env → H → Option R) : evCode P37 (ev37 r n) (jmp37 r n 44) (dead37 44) r 0 (pc [1, 1, 1, 0, 1, 0, 0] (bd Tryd.f44)) (E44_0 (.slice x0 x0n x0s) (.slice x1 x1n x1s) (.slice x5 x5n x5s) (.bool x6) (.int .i64 x7)) h (loopK nx (dead37 44 (4 * 0)) (dead37 44 (4 * 0 + 2)) (dead37 44 1000002) K) =
  bif decide (x7 < (↑x0n : Int)) then
    indexAddrA P37 60 (Value.slice x0 x0n x0s) (Value.int IntKind.i64 x7) fun v0 =>
      addrK v0 fun o1 o2 =>
        optK (ldV P37 4 o1 o2 h) fun v3 =>
          castV v3 fun b4 =>
            callK (ev37 r n) 52 [Value.slice x1 x1n x1s, Value.int IntKind.i64 x7] h fun v5 h6 =>
              castV v5 fun b7 =>
                appendA P37 { toList := [60, 60] } (Value.slice x5 x5n x5s) (Value.slice (some { block := h6.1, off := 0 }) 1 1) (h6.new (Blk.cells [Value.bool !(!b4 == b7) == x6] false)) fun v8 h9 =>
                  castSl v8 fun a10 o11 o12 =>
                    bif !b4 then
                      bif b7 then nx (E44_0 (Value.slice x0 x0n x0s) (Value.slice x1 x1n x1s) (Value.slice a10 o11 o12) (Value.bool true) (Value.int IntKind.i64 (IntKind.i64.wrap (x7 + 1)))) h9
                      else
                        bif x6 then nx (E44_0 (Value.slice x0 x0n x0s) (Value.slice x1 x1n x1s) (Value.slice a10 o11 o12) (Value.bool true) (Value.int IntKind.i64 (IntKind.i64.wrap (x7 + 1)))) h9
                        else
                          bif b4 then
                            bif b7 then nx (E44_0 (Value.slice x0 x0n x0s) (Value.slice x1 x1n x1s) (Value.slice a10 o11 o12) (Value.bool x6) (Value.int IntKind.i64 (IntKind.i64.wrap (x7 + 1)))) h9
                            else nx (E44_0 (Value.slice x0 x0n x0s) (Value.slice x1 x1n x1s) (Value.slice a10 o11 o12) (Value.bool false) (Value.int IntKind.i64 (IntKind.i64.wrap (x7 + 1)))) h9
                          else nx (E44_0 (Value.slice x0 x0n x0s) (Value.slice x1 x1n x1s) (Value.slice a10 o11 o12) (Value.bool false) (Value.int IntKind.i64 (IntKind.i64.wrap (x7 + 1)))) h9
                    else
                      bif b4 then
                        bif b7 then nx (E44_0 (Value.slice x0 x0n x0s) (Value.slice x1 x1n x1s) (Value.slice a10 o11 o12) (Value.bool x6) (Value.int IntKind.i64 (IntKind.i64.wrap (x7 + 1)))) h9
                        else nx (E44_0 (Value.slice x0 x0n x0s) (Value.slice x1 x1n x1s) (Value.slice a10 o11 o12) (Value.bool false) (Value.int IntKind.i64 (IntKind.i64.wrap (x7 + 1)))) h9
                      else nx (E44_0 (Value.slice x0 x0n x0s) (Value.slice x1 x1n x1s) (Value.slice a10 o11 o12) (Value.bool false) (Value.int IntKind.i64 (IntKind.i64.wrap (x7 + 1)))) h9
  else K (Exit.exit 0) (E44_2 (Value.slice x5 x5n x5s)) h := by kernel_rfl

theorem e44_0x0 (r n : Nat) (h : H) (x5 : Option Addr) (x5n : Nat) (x5s : Nat) : (blockK 0 (seqK (after P37 (ev37 r n) (jmp37 r n 44) (dead37 44) r 0 (pc [1, 1, 1, 1] (bd Tryd.f44)) (finK P37 [.tmp 4])) (finK P37 [.tmp 4]))) (.exit 0) (E44_2 (.slice x5 x5n x5s)) h =
  callK (ev37 r n) 53 [Value.slice x5 x5n x5s] h fun v0 h1 => castSl v0 fun a2 o3 o4 => some (Value.slice a2 o3 o4, h1) := by kernel_rfl

theorem e52 (r n : Nat) (h : H) (a0 : Option Addr) (a0n : Nat) (a0s : Nat) (a1 : Int) : ev37 r (n + 1) 52 [.slice a0 a0n a0s, .int .i64 a1] h =
  bif decide (a1 < (↑a0n : Int)) then
    indexAddrA P37 60 (Value.slice a0 a0n a0s) (Value.int IntKind.i64 a1) fun v0 => addrK v0 fun o1 o2 => optK (ldV P37 4 o1 o2 h) fun v3 => castV v3 fun b4 => some (Value.bool b4, h)
  else some (Value.bool false, h) := by kernel_rfl

theorem e53 (r n : Nat) (h : H) (a0 : Option Addr) (a0n : Nat) (a0s : Nat) : ev37 r (n + 1) 53 [.slice a0 a0n a0s] h =
  evLoop (evCode P37 (ev37 r n) (jmp37 r n 53) (dead37 53) r 0 (pc [1, 1, 0, 0, 0] (bd Tryd.f53))) (dead37 53 (4 * 0)) (dead37 53 (4 * 0 + 2))
    (dead37 53 1000002) r (E53_0 (Value.slice a0 a0n a0s) (Value.int IntKind.i64 (↑a0n : Int))) h
    (blockK 0
      (seqK (after P37 (ev37 r n) (jmp37 r n 53) (dead37 53) r 0 (pc [1, 1, 1] (bd Tryd.f53)) (finK P37 [ResultVar.tmp 2])) (finK P37 [ResultVar.tmp 2]))) := by kernel_rfl

theorem e53_0 (r n : Nat) (h : H) {R : Type} (x0 : Option Addr) (x0n : Nat) (x0s : Nat) (x3 : Int) (nx : Env → H → Option R) (K : Exit → Env → H → Option R) : evCode P37 (ev37 r n) (jmp37 r n 53) (dead37 53) r 0 (pc [1, 1, 0, 0, 0] (bd Tryd.f53)) (E53_0 (.slice x0 x0n x0s) (.int .i64 x3)) h (loopK nx (dead37 53 (4 * 0)) (dead37 53 (4 * 0 + 2)) (dead37 53 1000002) K) =
  bif decide (x3 > 0) then
    indexAddrA P37 60 (Value.slice x0 x0n x0s) (Value.int IntKind.i64 (IntKind.i64.wrap (x3 - 1))) fun v0 =>
      addrK v0 fun o1 o2 =>
        optK (ldV P37 4 o1 o2 h) fun v3 =>
          castV v3 fun b4 =>
            bif !b4 then
              jumpK (jmp37 r n 53 0 (pc [1, 1, 0, 0, 0, 1] (bd Tryd.f53)) (E53_0 (Value.slice x0 x0n x0s) (Value.int IntKind.i64 x3)) h)
                (loopK nx (dead37 53 (4 * 0)) (dead37 53 (4 * 0 + 2)) (dead37 53 1000002) K)
            else K (Exit.exit 0) (E53_0 (Value.slice x0 x0n x0s) (Value.int IntKind.i64 x3)) h
  else K (Exit.exit 0) (E53_0 (Value.slice x0 x0n x0s) (Value.int IntKind.i64 x3)) h := by kernel_rfl

theorem e53_0x0 (r n : Nat) (h : H) (x0 : Option Addr) (x0n : Nat) (x0s : Nat) (x3 : Int) : (blockK 0 (seqK (after P37 (ev37 r n) (jmp37 r n 53) (dead37 53) r 0 (pc [1, 1, 1] (bd Tryd.f53)) (finK P37 [.tmp 2])) (finK P37 [.tmp 2]))) (.exit 0) (E53_0 (.slice x0 x0n x0s) (.int .i64 x3)) h =
  sliceA P37 60 (Value.slice x0 x0n x0s) none (some (Value.int IntKind.i64 x3)) fun v0 => castSl v0 fun a1 o2 o3 => some (Value.slice a1 o2 o3, h) := by kernel_rfl

theorem e53_4000004c (r n : Nat) (h : H) (x0 : Option Addr) (x0n : Nat) (x0s : Nat) (x3 : Int) : jmp37 r (n + 1) 53 0 (pc [1, 1, 0, 0, 0, 1] (bd Tryd.f53)) (E53_0 (.slice x0 x0n x0s) (.int .i64 x3)) h =
  some (Exit.normal, E53_0 (Value.slice x0 x0n x0s) (Value.int IntKind.i64 (IntKind.i64.wrap (x3 - 1))), h) := by kernel_rfl

theorem e53_4000004n (h : H) {R : Type} (x0 : Option Addr) (x0n : Nat) (x0s : Nat) (x3 : Int) (nx : Env → H → Option R) (K : Exit → Env → H → Option R) : (loopK nx (dead37 53 (4 * 0)) (dead37 53 (4 * 0 + 2)) (dead37 53 1000002) K) .normal (E53_0 (.slice x0 x0n x0s) (.int .i64 x3)) h =
  nx (E53_0 (Value.slice x0 x0n x0s) (Value.int IntKind.i64 x3)) h := by kernel_rfl

end Go.Ev
