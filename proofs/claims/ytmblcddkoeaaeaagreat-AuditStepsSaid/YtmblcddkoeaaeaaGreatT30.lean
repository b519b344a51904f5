/-
  Audit: what the functions come to.
-/
import Derived.Test.YtmblcddkoeaaeaaGreatEvU
import Derived.KernelRfl
import Derived.Test.YtmblcddkoeaaeaaGreatProg
set_option linter.unusedVariables false
namespace Go.Ev
open Go Go.Proofs
def intr30 : FuncId → Option (List Value → H → Option (Value × H))
  | 5 => some trueI
  | _ => none
def dead30 : FuncId → Nat → Option (List Nat)
  | 3, 3 => some [2, 3, 4]
  | 3, 11 => some [2, 3, 4]
  | 3, 1000002 => some [6]
  | 4, 3 => some [3, 4, 5]
  | 4, 11 => some [3, 4, 5]
  | 4, 1000002 => some [6]
  | 6, 0 => some [1, 26, 27, 28]
  | 6, 2 => some [1]
  | 6, 3 => some [1]
  | 6, 7 => some [1]
  | 6, 8 => some [1, 38, 39, 40]
  | 6, 10 => some [1]
  | 6, 16 => some [50, 51, 52]
  | 6, 18 => some []
  | 6, 1000002 => some [2]
  | 7, 0 => some [1, 6, 7, 8]
  | 7, 2 => some [1]
  | 7, 3 => some [1]
  | 7, 1000002 => some [2]
  | 8, 3 => some [2, 3]
  | 8, 1000002 => some [4]
  | 9, 0 => some [2, 3, 5]
  | 9, 2 => some [2, 3]
  | 9, 3 => some [2, 3]
  | 9, 8 => some [2, 3, 5, 6]
  | 9, 10 => some [2, 3, 5]
  | 9, 16 => some [2, 3, 7]
  | 9, 18 => some []
  | 9, 1000002 => some [4]
  | 10, 0 => some [1, 2, 3, 24, 25, 26]
  | 10, 2 => some [1, 2, 3]
  | 10, 3 => some [1, 2]
  | 10, 8 => some [1, 2, 3, 38, 39, 40]
  | 10, 10 => some [1, 2, 3]
  | 10, 16 => some [2, 3, 52, 53, 54]
  | 10, 18 => some [2, 3]
  | 10, 1000002 => some [2]
  | 11, 0 => some [2, 3, 23, 24, 25]
  | 11, 2 => some [2, 3]
  | 11, 3 => some [1, 2]
  | 11, 8 => some [2, 3, 6, 23, 24, 25, 63, 64, 65]
  | 11, 10 => some [2, 3, 6, 23, 24, 25]
  | 11, 1000002 => some [2]
  | 14, 3 => some [3, 4, 5]
  | 14, 1000002 => some [6]
  | 15, 0 => some [4, 5, 8]
  | 15, 2 => some [4, 5]
  | 15, 3 => some [3, 4, 5]
  | 15, 8 => some [4, 5, 9]
  | 15, 9 => some [4, 5, 7]
  | 15, 10 => some []
  | 15, 16 => some [4, 5, 9, 10]
  | 15, 18 => some [4, 5, 9]
  | 15, 1000002 => some [6]
  | 19, 0 => some [2, 7, 8, 9]
  | 19, 2 => some []
  | 19, 3 => some [1, 2]
  | 19, 1000002 => some [4]
  | 20, 3 => some [1]
  | 20, 9 => some [3]
  | 20, 1000002 => some [2]
  | 21, 0 => some [1, 7, 8, 9]
  | 21, 2 => some []
  | 21, 3 => some [1]
  | 21, 1000002 => some [2]
  | 22, 0 => some [11, 12, 13]
  | 22, 2 => some []
  | 22, 3 => some [1]
  | 22, 8 => some [11, 12, 13, 18, 19, 20]
  | 22, 10 => some [11, 12, 13]
  | 22, 1000002 => some [2]
  | 23, 0 => some [11, 12, 13]
  | 23, 2 => some []
  | 23, 3 => some [1]
  | 23, 8 => some [4, 5, 6, 11, 12, 13, 18, 19, 20]
  | 23, 10 => some [4, 5, 6, 11, 12, 13]
  | 23, 1000002 => some [2]
  | 24, 0 => some [9, 10, 11]
  | 24, 2 => some []
  | 24, 3 => some [1]
  | 24, 1000002 => some [2]
  | 25, 0 => some [1, 7, 8, 9]
  | 25, 2 => some []
  | 25, 3 => some [1]
  | 25, 1000002 => some [2]
  | 26, 0 => some [1, 7, 8, 9]
  | 26, 2 => some []
  | 26, 3 => some [1]
  | 26, 1000002 => some [2]
  | 27, 0 => some [1, 13, 14, 15]
  | 27, 2 => some []
  | 27, 3 => some [1]
  | 27, 8 => some [1, 3, 4, 5, 13, 14, 15, 22, 23, 24]
  | 27, 10 => some [1, 3, 4, 5, 13, 14, 15]
  | 27, 16 => some [1, 3, 4, 5, 8, 13, 14, 15, 55, 56, 57]
  | 27, 18 => some [1, 3, 4, 5, 8, 13, 14, 15]
  | 27, 1000002 => some [2]
  | 28, 3 => some [2, 3]
  | 28, 7 => some [3]
  | 28, 1000002 => some [4]
  | 29, 3 => some [2, 3, 4, 5]
  | 29, 4 => some [5, 9]
  | 29, 6 => some []
  | 29, 12 => some [5, 10, 11, 12]
  | 29, 14 => some [5, 10, 11]
  | 29, 49 => some [5]
  | 29, 1000002 => some [8]
  | 30, 0 => some [2, 3, 4, 7, 8, 9]
  | 30, 2 => some [2, 3, 4, 7, 8]
  | 30, 3 => some [2, 3, 4]
  | 30, 15 => some [2, 3, 4, 7, 8, 9]
  | 30, 1000002 => some [6]
  | 30, 2000015 => some [2, 3, 4, 7, 8, 9]
  | 31, 0 => some [2, 7, 8, 9]
  | 31, 2 => some []
  | 31, 1000002 => some [4]
  | 32, 0 => some [1, 7, 8, 9]
  | 32, 2 => some [1]
  | 32, 1000002 => some [2]
  | 33, 0 => some [1, 16, 17, 18]
  | 33, 2 => some []
  | 33, 1000002 => some [2]
  | 34, 0 => some [1, 9, 10, 11]
  | 34, 2 => some []
  | 34, 13 => some [1, 3, 4, 5, 6, 9, 10, 11]
  | 34, 1000002 => some [2]
  | 34, 2000013 => some [1, 9, 10, 11]
  | 35, 0 => some [1, 9, 10, 11]
  | 35, 2 => some []
  | 35, 13 => some [1, 4, 5, 6, 9, 10, 11]
  | 35, 1000002 => some [2]
  | 35, 2000013 => some [1, 9, 10, 11]
  | 36, 3 => some [2, 3, 4, 5]
  | 36, 19 => some [2, 4, 5]
  | 36, 21 => some [4, 5, 9, 10]
  | 36, 1000002 => some [8]
  | 52, 0 => some [0, 7, 8, 9]
  | 52, 2 => some []
  | 52, 1000002 => some [4]
  | 53, 0 => some [1, 8, 9, 10]
  | 53, 2 => some []
  | 53, 3 => some [1, 2]
  | 53, 1000002 => some [4]
  | 54, 3 => some [1]
  | 54, 17 => some [1, 4]
  | 54, 1000002 => some [2, 3]
  | 56, 0 => some [4, 7, 8, 9]
  | 56, 2 => some [4]
  | 57, 0 => some [0, 3]
  | 57, 2 => some []
  | 57, 1000002 => some [2]
  | 58, 0 => some [0, 1, 5]
  | 58, 2 => some []
  | 58, 1000002 => some [4]
  | 59, 0 => some [1, 3, 4]
  | 59, 2 => some [3]
  | 59, 3 => some [1]
  | 59, 1000002 => some [2]
  | 60, 3 => some [1]
  | 60, 17 => some [1, 4]
  | 60, 23 => some [1, 3]
  | 60, 1000002 => some [2]
  | 60, 2000017 => some [1, 3]
  | 63, 0 => some [0, 2, 3, 4]
  | 63, 2 => some [0, 2, 4]
  | 63, 9 => some [0, 2, 3]
  | 63, 1000002 => some [2]
  | 64, 0 => some [0, 2, 3, 4]
  | 64, 2 => some [2, 3]
  | 65, 0 => some [3, 95, 96, 97]
  | 65, 2 => some []
  | 65, 3 => some [2, 3]
  | 65, 7 => some [2, 3]
  | 65, 11 => some [2, 3]
  | 65, 1000002 => some [4]
  | 66, 0 => some [2, 3, 5]
  | 66, 2 => some []
  | 66, 3 => some [2, 3]
  | 66, 7 => some [2, 3]
  | 66, 11 => some [2, 3]
  | 66, 1000002 => some [4]
  | 89, 3 => some [1, 2, 4]
  | 89, 1000002 => some [4]
  | 90, 3 => some [2, 3]
  | 90, 1000002 => some [4]
  | 91, 3 => some [2, 3, 4]
  | 91, 1000002 => some [4]
  | 92, 3 => some [1, 2]
  | 92, 9 => some [1, 2, 6]
  | 92, 13 => some [1, 2]
  | 92, 1000002 => some [4, 5]
  | 94, 0 => some [1, 4, 5]
  | 94, 2 => some [1, 4]
  | 112, 3 => some [1, 2, 4]
  | 112, 1000002 => some [4]
  | 115, 0 => some [0, 1, 5, 6, 7]
  | 115, 2 => some [5]
  | 115, 4000004 => some [0, 1, 5, 6, 7]
  | 115, 6000004 => some [0, 1, 5, 6, 7]
  | 116, 0 => some [0, 1, 5]
  | 116, 2 => some []
  | 116, 1000002 => some [4]
  | 117, 0 => some [0, 1, 5, 6, 7]
  | 117, 2 => some [5]
  | 127, 0 => some [0, 3]
  | 127, 2 => some [0, 3]
  | 127, 4000004 => some [0, 3]
  | 127, 6000004 => some [0, 3]
  | _, _ => none
def E3_3 (v2 v3 v4 : Value) : Env := [none, none, some v2, some v3, some v4, none, none, none, none, none, none, none, none, none, none, none, none, none, none, none, none, none, none, none, none, none, none, none, none, none, none, none, none]
def E3_r (v6 : Value) : Env := [none, none, none, none, none, none, some v6, none, none, none, none, none, none, none, none, none, none, none, none, none, none, none, none, none, none, none, none, none, none, none, none, none, none]
def E4_3 (v3 v4 v5 : Value) : Env := [none, none, none, some v3, some v4, some v5, none, none, none, none, none, none, none, none, none, none, none, none, none, none, none, none, none, none, none, none, none, none, none, none, none, none, none, none, none, none, none, none, none, none, none, none, none, none]
def E4_r (v6 : Value) : Env := [none, none, none, none, none, none, some v6, none, none, none, none, none, none, none, none, none, none, none, none, none, none, none, none, none, none, none, none, none, none, none, none, none, none, none, none, none, none, none, none, none, none, none, none, none]
def E6_0 (v1 v26 v27 v28 : Value) : Env := [none, some v1, none, none, none, none, none, none, none, none, none, none, none, none, none, none, none, none, none, none, none, none, none, none, none, none, some v26, some v27, some v28, none, none, none, none, none, none, none, none, none, none, none, none, none, none, none, none, none, none, none, none, none, none, none, none, none, none, none, none, none, none, none, none]
def E6_2 (v1 : Value) : Env := [none, some v1, none, none, none, none, none, none, none, none, none, none, none, none, none, none, none, none, none, none, none, none, none, none, none, none, none, none, none, none, none, none, none, none, none, none, none, none, none, none, none, none, none, none, none, none, none, none, none, none, none, none, none, none, none, none, none, none, none, none, none]
def E6_8 (v1 v38 v39 v40 : Value) : Env := [none, some v1, none, none, none, none, none, none, none, none, none, none, none, none, none, none, none, none, none, none, none, none, none, none, none, none, none, none, none, none, none, none, none, none, none, none, none, none, some v38, some v39, some v40, none, none, none, none, none, none, none, none, none, none, none, none, none, none, none, none, none, none, none, none]
def E6_16 (v50 v51 v52 : Value) : Env := [none, none, none, none, none, none, none, none, none, none, none, none, none, none, none, none, none, none, none, none, none, none, none, none, none, none, none, none, none, none, none, none, none, none, none, none, none, none, none, none, none, none, none, none, none, none, none, none, none, none, some v50, some v51, some v52, none, none, none, none, none, none, none, none]
def E6_18 : Env := [none, none, none, none, none, none, none, none, none, none, none, none, none, none, none, none, none, none, none, none, none, none, none, none, none, none, none, none, none, none, none, none, none, none, none, none, none, none, none, none, none, none, none, none, none, none, none, none, none, none, none, none, none, none, none, none, none, none, none, none, none]
def E6_r (v2 : Value) : Env := [none, none, some v2, none, none, none, none, none, none, none, none, none, none, none, none, none, none, none, none, none, none, none, none, none, none, none, none, none, none, none, none, none, none, none, none, none, none, none, none, none, none, none, none, none, none, none, none, none, none, none, none, none, none, none, none, none, none, none, none, none, none]
def E7_0 (v1 v6 v7 v8 : Value) : Env := [none, some v1, none, none, none, none, some v6, some v7, some v8, none, none, none, none, none, none, none, none, none, none, none, none, none, none, none, none, none, none, none, none, none, none, none, none, none, none, none, none, none, none, none, none, none, none, none, none, none, none, none, none, none, none, none, none, none, none, none, none, none, none, none, none, none, none]
def E7_2 (v1 : Value) : Env := [none, some v1, none, none, none, none, none, none, none, none, none, none, none, none, none, none, none, none, none, none, none, none, none, none, none, none, none, none, none, none, none, none, none, none, none, none, none, none, none, none, none, none, none, none, none, none, none, none, none, none, none, none, none, none, none, none, none, none, none, none, none, none, none]
def E7_r (v2 : Value) : Env := [none, none, some v2, none, none, none, none, none, none, none, none, none, none, none, none, none, none, none, none, none, none, none, none, none, none, none, none, none, none, none, none, none, none, none, none, none, none, none, none, none, none, none, none, none, none, none, none, none, none, none, none, none, none, none, none, none, none, none, none, none, none, none, none]
def E8_3 (v2 v3 : Value) : Env := [none, none, some v2, some v3, none, none, none, none, none, none]
def E8_r (v4 : Value) : Env := [none, none, none, none, some v4, none, none, none, none, none]
def E9_0 (v2 v3 v5 : Value) : Env := [none, none, some v2, some v3, none, some v5, none, none, none, none, none, none, none, none, none, none, none, none, none, none, none, none, none, none, none, none, none, none, none, none, none, none, none, none, none, none, none, none, none, none, none, none, none, none, none, none, none, none, none, none]
def E9_2 (v2 v3 : Value) : Env := [none, none, some v2, some v3, none, none, none, none, none, none, none, none, none, none, none, none, none, none, none, none, none, none, none, none, none, none, none, none, none, none, none, none, none, none, none, none, none, none, none, none, none, none, none, none, none, none, none, none, none, none]
def E9_8 (v2 v3 v5 v6 : Value) : Env := [none, none, some v2, some v3, none, some v5, some v6, none, none, none, none, none, none, none, none, none, none, none, none, none, none, none, none, none, none, none, none, none, none, none, none, none, none, none, none, none, none, none, none, none, none, none, none, none, none, none, none, none, none, none]
def E9_16 (v2 v3 v7 : Value) : Env := [none, none, some v2, some v3, none, none, none, some v7, none, none, none, none, none, none, none, none, none, none, none, none, none, none, none, none, none, none, none, none, none, none, none, none, none, none, none, none, none, none, none, none, none, none, none, none, none, none, none, none, none, none]
def E9_18 : Env := [none, none, none, none, none, none, none, none, none, none, none, none, none, none, none, none, none, none, none, none, none, none, none, none, none, none, none, none, none, none, none, none, none, none, none, none, none, none, none, none, none, none, none, none, none, none, none, none, none, none]
def E9_r (v4 : Value) : Env := [none, none, none, none, some v4, none, none, none, none, none, none, none, none, none, none, none, none, none, none, none, none, none, none, none, none, none, none, none, none, none, none, none, none, none, none, none, none, none, none, none, none, none, none, none, none, none, none, none, none, none]
def E10_0 (v1 v2 v3 v24 v25 v26 : Value) : Env := [none, some v1, some v2, some v3, none, none, none, none, none, none, none, none, none, none, none, none, none, none, none, none, none, none, none, none, some v24, some v25, some v26, none, none, none, none, none, none, none, none, none, none, none, none, none, none, none, none, none, none, none, none, none, none, none, none, none, none, none, none, none, none, none, none, none, none, none, none, none, none, none]
def E10_2 (v1 v2 v3 : Value) : Env := [none, some v1, some v2, some v3, none, none, none, none, none, none, none, none, none, none, none, none, none, none, none, none, none, none, none, none, none, none, none, none, none, none, none, none, none, none, none, none, none, none, none, none, none, none, none, none, none, none, none, none, none, none, none, none, none, none, none, none, none, none, none, none, none, none, none, none, none, none]
def E10_3 (v1 v2 : Value) : Env := [none, some v1, some v2, none, none, none, none, none, none, none, none, none, none, none, none, none, none, none, none, none, none, none, none, none, none, none, none, none, none, none, none, none, none, none, none, none, none, none, none, none, none, none, none, none, none, none, none, none, none, none, none, none, none, none, none, none, none, none, none, none, none, none, none, none, none, none]
def E10_8 (v1 v2 v3 v38 v39 v40 : Value) : Env := [none, some v1, some v2, some v3, none, none, none, none, none, none, none, none, none, none, none, none, none, none, none, none, none, none, none, none, none, none, none, none, none, none, none, none, none, none, none, none, none, none, some v38, some v39, some v40, none, none, none, none, none, none, none, none, none, none, none, none, none, none, none, none, none, none, none, none, none, none, none, none, none]
def E10_16 (v2 v3 v52 v53 v54 : Value) : Env := [none, none, some v2, some v3, none, none, none, none, none, none, none, none, none, none, none, none, none, none, none, none, none, none, none, none, none, none, none, none, none, none, none, none, none, none, none, none, none, none, none, none, none, none, none, none, none, none, none, none, none, none, none, none, some v52, some v53, some v54, none, none, none, none, none, none, none, none, none, none, none]
def E10_18 (v2 v3 : Value) : Env := [none, none, some v2, some v3, none, none, none, none, none, none, none, none, none, none, none, none, none, none, none, none, none, none, none, none, none, none, none, none, none, none, none, none, none, none, none, none, none, none, none, none, none, none, none, none, none, none, none, none, none, none, none, none, none, none, none, none, none, none, none, none, none, none, none, none, none, none]
def E10_r (v2 : Value) : Env := [none, none, some v2, none, none, none, none, none, none, none, none, none, none, none, none, none, none, none, none, none, none, none, none, none, none, none, none, none, none, none, none, none, none, none, none, none, none, none, none, none, none, none, none, none, none, none, none, none, none, none, none, none, none, none, none, none, none, none, none, none, none, none, none, none, none, none]
def E11_0 (v2 v3 v23 v24 v25 : Value) : Env := [none, none, some v2, some v3, none, none, none, none, none, none, none, none, none, none, none, none, none, none, none, none, none, none, none, some v23, some v24, some v25, none, none, none, none, none, none, none, none, none, none, none, none, none, none, none, none, none, none, none, none, none, none, none, none, none, none, none, none, none, none, none, none, none, none, none, none, none, none, none, none, none, none, none, none, none, none, none, none, none, none, none, none, none, none, none, none, none, none]
def E11_2 (v2 v3 : Value) : Env := [none, none, some v2, some v3, none, none, none, none, none, none, none, none, none, none, none, none, none, none, none, none, none, none, none, none, none, none, none, none, none, none, none, none, none, none, none, none, none, none, none, none, none, none, none, none, none, none, none, none, none, none, none, none, none, none, none, none, none, none, none, none, none, none, none, none, none, none, none, none, none, none, none, none, none, none, none, none, none, none, none, none, none, none, none, none]
def E11_3 (v1 v2 : Value) : Env := [none, some v1, some v2, none, none, none, none, none, none, none, none, none, none, none, none, none, none, none, none, none, none, none, none, none, none, none, none, none, none, none, none, none, none, none, none, none, none, none, none, none, none, none, none, none, none, none, none, none, none, none, none, none, none, none, none, none, none, none, none, none, none, none, none, none, none, none, none, none, none, none, none, none, none, none, none, none, none, none, none, none, none, none, none, none]
def E11_8 (v2 v3 v6 v23 v24 v25 v63 v64 v65 : Value) : Env := [none, none, some v2, some v3, none, none, some v6, none, none, none, none, none, none, none, none, none, none, none, none, none, none, none, none, some v23, some v24, some v25, none, none, none, none, none, none, none, none, none, none, none, none, none, none, none, none, none, none, none, none, none, none, none, none, none, none, none, none, none, none, none, none, none, none, none, none, none, some v63, some v64, some v65, none, none, none, none, none, none, none, none, none, none, none, none, none, none, none, none, none, none]
def E11_10 (v2 v3 v6 v23 v24 v25 : Value) : Env := [none, none, some v2, some v3, none, none, some v6, none, none, none, none, none, none, none, none, none, none, none, none, none, none, none, none, some v23, some v24, some v25, none, none, none, none, none, none, none, none, none, none, none, none, none, none, none, none, none, none, none, none, none, none, none, none, none, none, none, none, none, none, none, none, none, none, none, none, none, none, none, none, none, none, none, none, none, none, none, none, none, none, none, none, none, none, none, none, none, none]
def E11_r (v2 : Value) : Env := [none, none, some v2, none, none, none, none, none, none, none, none, none, none, none, none, none, none, none, none, none, none, none, none, none, none, none, none, none, none, none, none, none, none, none, none, none, none, none, none, none, none, none, none, none, none, none, none, none, none, none, none, none, none, none, none, none, none, none, none, none, none, none, none, none, none, none, none, none, none, none, none, none, none, none, none, none, none, none, none, none, none, none, none, none]
def E14_3 (v3 v4 v5 : Value) : Env := [none, none, none, some v3, some v4, some v5, none, none, none, none, none, none, none, none, none, none, none, none, none, none, none, none, none, none, none, none, none, none, none, none, none]
def E14_r (v6 : Value) : Env := [none, none, none, none, none, none, some v6, none, none, none, none, none, none, none, none, none, none, none, none, none, none, none, none, none, none, none, none, none, none, none, none]
def E15_0 (v4 v5 v8 : Value) : Env := [none, none, none, none, some v4, some v5, none, none, some v8, none, none, none, none, none, none, none, none, none, none, none, none, none, none, none, none, none, none, none, none, none, none, none, none, none, none, none, none, none, none, none, none, none, none, none, none, none, none, none, none, none, none, none, none, none, none, none, none, none, none, none, none, none, none, none, none, none, none, none, none, none]
def E15_2 (v4 v5 : Value) : Env := [none, none, none, none, some v4, some v5, none, none, none, none, none, none, none, none, none, none, none, none, none, none, none, none, none, none, none, none, none, none, none, none, none, none, none, none, none, none, none, none, none, none, none, none, none, none, none, none, none, none, none, none, none, none, none, none, none, none, none, none, none, none, none, none, none, none, none, none, none, none, none, none]
def E15_3 (v3 v4 v5 : Value) : Env := [none, none, none, some v3, some v4, some v5, none, none, none, none, none, none, none, none, none, none, none, none, none, none, none, none, none, none, none, none, none, none, none, none, none, none, none, none, none, none, none, none, none, none, none, none, none, none, none, none, none, none, none, none, none, none, none, none, none, none, none, none, none, none, none, none, none, none, none, none, none, none, none, none]
def E15_8 (v4 v5 v9 : Value) : Env := [none, none, none, none, some v4, some v5, none, none, none, some v9, none, none, none, none, none, none, none, none, none, none, none, none, none, none, none, none, none, none, none, none, none, none, none, none, none, none, none, none, none, none, none, none, none, none, none, none, none, none, none, none, none, none, none, none, none, none, none, none, none, none, none, none, none, none, none, none, none, none, none, none]
def E15_9 (v4 v5 v7 : Value) : Env := [none, none, none, none, some v4, some v5, none, some v7, none, none, none, none, none, none, none, none, none, none, none, none, none, none, none, none, none, none, none, none, none, none, none, none, none, none, none, none, none, none, none, none, none, none, none, none, none, none, none, none, none, none, none, none, none, none, none, none, none, none, none, none, none, none, none, none, none, none, none, none, none, none]
def E15_10 : Env := [none, none, none, none, none, none, none, none, none, none, none, none, none, none, none, none, none, none, none, none, none, none, none, none, none, none, none, none, none, none, none, none, none, none, none, none, none, none, none, none, none, none, none, none, none, none, none, none, none, none, none, none, none, none, none, none, none, none, none, none, none, none, none, none, none, none, none, none, none, none]
def E15_16 (v4 v5 v9 v10 : Value) : Env := [none, none, none, none, some v4, some v5, none, none, none, some v9, some v10, none, none, none, none, none, none, none, none, none, none, none, none, none, none, none, none, none, none, none, none, none, none, none, none, none, none, none, none, none, none, none, none, none, none, none, none, none, none, none, none, none, none, none, none, none, none, none, none, none, none, none, none, none, none, none, none, none, none, none]
def E15_r (v6 : Value) : Env := [none, none, none, none, none, none, some v6, none, none, none, none, none, none, none, none, none, none, none, none, none, none, none, none, none, none, none, none, none, none, none, none, none, none, none, none, none, none, none, none, none, none, none, none, none, none, none, none, none, none, none, none, none, none, none, none, none, none, none, none, none, none, none, none, none, none, none, none, none, none, none]
def E19_0 (v2 v7 v8 v9 : Value) : Env := [none, none, some v2, none, none, none, none, some v7, some v8, some v9, none, none, none, none, none, none, none, none, none, none, none]
def E19_2 : Env := [none, none, none, none, none, none, none, none, none, none, none, none, none, none, none, none, none, none, none, none, none]
def E19_3 (v1 v2 : Value) : Env := [none, some v1, some v2, none, none, none, none, none, none, none, none, none, none, none, none, none, none, none, none, none, none]
def E19_r (v4 : Value) : Env := [none, none, none, none, some v4, none, none, none, none, none, none, none, none, none, none, none, none, none, none, none, none]
def E20_3 (v1 : Value) : Env := [none, some v1, none, none, none, none, none, none, none, none, none, none, none, none, none, none, none, none, none, none, none, none, none, none, none, none, none, none, none, none, none, none, none, none, none, none, none, none, none, none, none, none, none, none, none, none, none, none, none, none, none, none, none, none, none, none, none, none, none, none, none, none, none, none, none, none, none, none, none, none, none, none, none, none, none, none, none, none, none]
def E20_9 (v3 : Value) : Env := [none, none, none, some v3, none, none, none, none, none, none, none, none, none, none, none, none, none, none, none, none, none, none, none, none, none, none, none, none, none, none, none, none, none, none, none, none, none, none, none, none, none, none, none, none, none, none, none, none, none, none, none, none, none, none, none, none, none, none, none, none, none, none, none, none, none, none, none, none, none, none, none, none, none, none, none, none, none, none, none]
def E20_r (v2 : Value) : Env := [none, none, some v2, none, none, none, none, none, none, none, none, none, none, none, none, none, none, none, none, none, none, none, none, none, none, none, none, none, none, none, none, none, none, none, none, none, none, none, none, none, none, none, none, none, none, none, none, none, none, none, none, none, none, none, none, none, none, none, none, none, none, none, none, none, none, none, none, none, none, none, none, none, none, none, none, none, none, none, none]
def E21_0 (v1 v7 v8 v9 : Value) : Env := [none, some v1, none, none, none, none, none, some v7, some v8, some v9, none, none, none, none, none, none, none, none, none, none, none, none, none, none, none, none, none, none, none, none, none, none, none, none, none, none, none, none, none, none, none, none, none, none, none, none, none, none, none, none, none, none, none, none, none, none, none, none]
def E21_2 : Env := [none, none, none, none, none, none, none, none, none, none, none, none, none, none, none, none, none, none, none, none, none, none, none, none, none, none, none, none, none, none, none, none, none, none, none, none, none, none, none, none, none, none, none, none, none, none, none, none, none, none, none, none, none, none, none, none, none, none]
def E21_3 (v1 : Value) : Env := [none, some v1, none, none, none, none, none, none, none, none, none, none, none, none, none, none, none, none, none, none, none, none, none, none, none, none, none, none, none, none, none, none, none, none, none, none, none, none, none, none, none, none, none, none, none, none, none, none, none, none, none, none, none, none, none, none, none, none]
def E21_r (v2 : Value) : Env := [none, none, some v2, none, none, none, none, none, none, none, none, none, none, none, none, none, none, none, none, none, none, none, none, none, none, none, none, none, none, none, none, none, none, none, none, none, none, none, none, none, none, none, none, none, none, none, none, none, none, none, none, none, none, none, none, none, none, none]
def E22_0 (v11 v12 v13 : Value) : Env := [none, none, none, none, none, none, none, none, none, none, none, some v11, some v12, some v13, none, none, none, none, none, none, none, none, none, none, none, none, none, none, none, none, none, none, none, none, none, none, none, none, none]
def E22_2 : Env := [none, none, none, none, none, none, none, none, none, none, none, none, none, none, none, none, none, none, none, none, none, none, none, none, none, none, none, none, none, none, none, none, none, none, none, none, none, none, none]
def E22_3 (v1 : Value) : Env := [none, some v1, none, none, none, none, none, none, none, none, none, none, none, none, none, none, none, none, none, none, none, none, none, none, none, none, none, none, none, none, none, none, none, none, none, none, none, none, none]
def E22_8 (v11 v12 v13 v18 v19 v20 : Value) : Env := [none, none, none, none, none, none, none, none, none, none, none, some v11, some v12, some v13, none, none, none, none, some v18, some v19, some v20, none, none, none, none, none, none, none, none, none, none, none, none, none, none, none, none, none, none]
def E22_r (v2 : Value) : Env := [none, none, some v2, none, none, none, none, none, none, none, none, none, none, none, none, none, none, none, none, none, none, none, none, none, none, none, none, none, none, none, none, none, none, none, none, none, none, none, none]
def E23_0 (v11 v12 v13 : Value) : Env := [none, none, none, none, none, none, none, none, none, none, none, some v11, some v12, some v13, none, none, none, none, none, none, none, none, none, none, none, none, none, none, none, none, none, none, none, none, none, none, none, none, none, none, none, none, none, none, none, none, none, none]
def E23_2 : Env := [none, none, none, none, none, none, none, none, none, none, none, none, none, none, none, none, none, none, none, none, none, none, none, none, none, none, none, none, none, none, none, none, none, none, none, none, none, none, none, none, none, none, none, none, none, none, none, none]
def E23_3 (v1 : Value) : Env := [none, some v1, none, none, none, none, none, none, none, none, none, none, none, none, none, none, none, none, none, none, none, none, none, none, none, none, none, none, none, none, none, none, none, none, none, none, none, none, none, none, none, none, none, none, none, none, none, none]
def E23_8 (v4 v5 v6 v11 v12 v13 v18 v19 v20 : Value) : Env := [none, none, none, none, some v4, some v5, some v6, none, none, none, none, some v11, some v12, some v13, none, none, none, none, some v18, some v19, some v20, none, none, none, none, none, none, none, none, none, none, none, none, none, none, none, none, none, none, none, none, none, none, none, none, none, none, none]
def E23_10 (v4 v5 v6 v11 v12 v13 : Value) : Env := [none, none, none, none, some v4, some v5, some v6, none, none, none, none, some v11, some v12, some v13, none, none, none, none, none, none, none, none, none, none, none, none, none, none, none, none, none, none, none, none, none, none, none, none, none, none, none, none, none, none, none, none, none, none]
def E23_r (v2 : Value) : Env := [none, none, some v2, none, none, none, none, none, none, none, none, none, none, none, none, none, none, none, none, none, none, none, none, none, none, none, none, none, none, none, none, none, none, none, none, none, none, none, none, none, none, none, none, none, none, none, none, none]
def E24_0 (v9 v10 v11 : Value) : Env := [none, none, none, none, none, none, none, none, none, some v9, some v10, some v11, none, none, none, none, none, none, none, none, none, none, none, none, none, none, none, none, none, none, none, none, none, none, none]
def E24_2 : Env := [none, none, none, none, none, none, none, none, none, none, none, none, none, none, none, none, none, none, none, none, none, none, none, none, none, none, none, none, none, none, none, none, none, none, none]
def E24_3 (v1 : Value) : Env := [none, some v1, none, none, none, none, none, none, none, none, none, none, none, none, none, none, none, none, none, none, none, none, none, none, none, none, none, none, none, none, none, none, none, none, none]
def E24_r (v2 : Value) : Env := [none, none, some v2, none, none, none, none, none, none, none, none, none, none, none, none, none, none, none, none, none, none, none, none, none, none, none, none, none, none, none, none, none, none, none, none]
def E25_0 (v1 v7 v8 v9 : Value) : Env := [none, some v1, none, none, none, none, none, some v7, some v8, some v9, none, none, none, none, none, none, none, none, none, none, none, none, none, none, none, none, none, none, none, none, none, none, none, none, none, none, none, none, none, none, none, none, none, none, none, none, none]
def E25_2 : Env := [none, none, none, none, none, none, none, none, none, none, none, none, none, none, none, none, none, none, none, none, none, none, none, none, none, none, none, none, none, none, none, none, none, none, none, none, none, none, none, none, none, none, none, none, none, none, none]
def E25_3 (v1 : Value) : Env := [none, some v1, none, none, none, none, none, none, none, none, none, none, none, none, none, none, none, none, none, none, none, none, none, none, none, none, none, none, none, none, none, none, none, none, none, none, none, none, none, none, none, none, none, none, none, none, none]
def E25_r (v2 : Value) : Env := [none, none, some v2, none, none, none, none, none, none, none, none, none, none, none, none, none, none, none, none, none, none, none, none, none, none, none, none, none, none, none, none, none, none, none, none, none, none, none, none, none, none, none, none, none, none, none, none]
def E26_0 (v1 v7 v8 v9 : Value) : Env := [none, some v1, none, none, none, none, none, some v7, some v8, some v9, none, none, none, none, none, none, none, none, none, none, none, none, none, none, none, none, none, none, none, none, none, none, none, none, none, none]
def E26_2 : Env := [none, none, none, none, none, none, none, none, none, none, none, none, none, none, none, none, none, none, none, none, none, none, none, none, none, none, none, none, none, none, none, none, none, none, none, none]
def E26_3 (v1 : Value) : Env := [none, some v1, none, none, none, none, none, none, none, none, none, none, none, none, none, none, none, none, none, none, none, none, none, none, none, none, none, none, none, none, none, none, none, none, none, none]
def E26_r (v2 : Value) : Env := [none, none, some v2, none, none, none, none, none, none, none, none, none, none, none, none, none, none, none, none, none, none, none, none, none, none, none, none, none, none, none, none, none, none, none, none, none]
def E27_0 (v1 v13 v14 v15 : Value) : Env := [none, some v1, none, none, none, none, none, none, none, none, none, none, none, some v13, some v14, some v15, none, none, none, none, none, none, none, none, none, none, none, none, none, none, none, none, none, none, none, none, none, none, none, none, none, none, none, none, none, none, none, none, none, none, none, none, none, none, none, none, none, none, none, none, none, none, none, none, none, none, none, none, none, none, none, none, none, none, none, none, none, none, none, none, none, none, none, none, none, none, none, none, none, none, none, none, none, none, none, none, none, none, none, none, none, none, none, none, none, none, none, none, none, none, none]
def E27_2 : Env := [none, none, none, none, none, none, none, none, none, none, none, none, none, none, none, none, none, none, none, none, none, none, none, none, none, none, none, none, none, none, none, none, none, none, none, none, none, none, none, none, none, none, none, none, none, none, none, none, none, none, none, none, none, none, none, none, none, none, none, none, none, none, none, none, none, none, none, none, none, none, none, none, none, none, none, none, none, none, none, none, none, none, none, none, none, none, none, none, none, none, none, none, none, none, none, none, none, none, none, none, none, none, none, none, none, none, none, none, none, none, none]
def E27_3 (v1 : Value) : Env := [none, some v1, none, none, none, none, none, none, none, none, none, none, none, none, none, none, none, none, none, none, none, none, none, none, none, none, none, none, none, none, none, none, none, none, none, none, none, none, none, none, none, none, none, none, none, none, none, none, none, none, none, none, none, none, none, none, none, none, none, none, none, none, none, none, none, none, none, none, none, none, none, none, none, none, none, none, none, none, none, none, none, none, none, none, none, none, none, none, none, none, none, none, none, none, none, none, none, none, none, none, none, none, none, none, none, none, none, none, none, none, none]
def E27_8 (v1 v3 v4 v5 v13 v14 v15 v22 v23 v24 : Value) : Env := [none, some v1, none, some v3, some v4, some v5, none, none, none, none, none, none, none, some v13, some v14, some v15, none, none, none, none, none, none, some v22, some v23, some v24, none, none, none, none, none, none, none, none, none, none, none, none, none, none, none, none, none, none, none, none, none, none, none, none, none, none, none, none, none, none, none, none, none, none, none, none, none, none, none, none, none, none, none, none, none, none, none, none, none, none, none, none, none, none, none, none, none, none, none, none, none, none, none, none, none, none, none, none, none, none, none, none, none, none, none, none, none, none, none, none, none, none, none, none, none, none]
def E27_10 (v1 v3 v4 v5 v13 v14 v15 : Value) : Env := [none, some v1, none, some v3, some v4, some v5, none, none, none, none, none, none, none, some v13, some v14, some v15, none, none, none, none, none, none, none, none, none, none, none, none, none, none, none, none, none, none, none, none, none, none, none, none, none, none, none, none, none, none, none, none, none, none, none, none, none, none, none, none, none, none, none, none, none, none, none, none, none, none, none, none, none, none, none, none, none, none, none, none, none, none, none, none, none, none, none, none, none, none, none, none, none, none, none, none, none, none, none, none, none, none, none, none, none, none, none, none, none, none, none, none, none, none, none]
def E27_16 (v1 v3 v4 v5 v8 v13 v14 v15 v55 v56 v57 : Value) : Env := [none, some v1, none, some v3, some v4, some v5, none, none, some v8, none, none, none, none, some v13, some v14, some v15, none, none, none, none, none, none, none, none, none, none, none, none, none, none, none, none, none, none, none, none, none, none, none, none, none, none, none, none, none, none, none, none, none, none, none, none, none, none, none, some v55, some v56, some v57, none, none, none, none, none, none, none, none, none, none, none, none, none, none, none, none, none, none, none, none, none, none, none, none, none, none, none, none, none, none, none, none, none, none, none, none, none, none, none, none, none, none, none, none, none, none, none, none, none, none, none, none, none]
def E27_18 (v1 v3 v4 v5 v8 v13 v14 v15 : Value) : Env := [none, some v1, none, some v3, some v4, some v5, none, none, some v8, none, none, none, none, some v13, some v14, some v15, none, none, none, none, none, none, none, none, none, none, none, none, none, none, none, none, none, none, none, none, none, none, none, none, none, none, none, none, none, none, none, none, none, none, none, none, none, none, none, none, none, none, none, none, none, none, none, none, none, none, none, none, none, none, none, none, none, none, none, none, none, none, none, none, none, none, none, none, none, none, none, none, none, none, none, none, none, none, none, none, none, none, none, none, none, none, none, none, none, none, none, none, none, none, none]
def E27_r (v2 : Value) : Env := [none, none, some v2, none, none, none, none, none, none, none, none, none, none, none, none, none, none, none, none, none, none, none, none, none, none, none, none, none, none, none, none, none, none, none, none, none, none, none, none, none, none, none, none, none, none, none, none, none, none, none, none, none, none, none, none, none, none, none, none, none, none, none, none, none, none, none, none, none, none, none, none, none, none, none, none, none, none, none, none, none, none, none, none, none, none, none, none, none, none, none, none, none, none, none, none, none, none, none, none, none, none, none, none, none, none, none, none, none, none, none, none]
def E28_3 (v2 v3 : Value) : Env := [none, none, some v2, some v3, none, none, none, none, none, none, none, none, none, none, none, none, none, none, none, none, none, none, none, none, none, none, none, none, none, none, none, none, none, none, none, none, none, none, none, none, none, none, none, none, none, none, none, none, none, none, none, none, none, none, none, none, none, none, none, none, none, none, none, none, none, none, none, none, none, none, none, none, none, none, none, none, none, none, none]
def E28_7 (v3 : Value) : Env := [none, none, none, some v3, none, none, none, none, none, none, none, none, none, none, none, none, none, none, none, none, none, none, none, none, none, none, none, none, none, none, none, none, none, none, none, none, none, none, none, none, none, none, none, none, none, none, none, none, none, none, none, none, none, none, none, none, none, none, none, none, none, none, none, none, none, none, none, none, none, none, none, none, none, none, none, none, none, none, none]
def E28_r (v4 : Value) : Env := [none, none, none, none, some v4, none, none, none, none, none, none, none, none, none, none, none, none, none, none, none, none, none, none, none, none, none, none, none, none, none, none, none, none, none, none, none, none, none, none, none, none, none, none, none, none, none, none, none, none, none, none, none, none, none, none, none, none, none, none, none, none, none, none, none, none, none, none, none, none, none, none, none, none, none, none, none, none, none, none]
def E29_3 (v2 v3 v4 v5 : Value) : Env := [none, none, some v2, some v3, some v4, some v5, none, none, none, none, none, none, none, none, none, none, none, none, none, none, none, none, none, none, none, none, none, none, none, none, none, none, none, none, none, none, none, none, none, none, none, none, none, none, none, none, none, none, none, none, none, none, none, none, none, none, none, none, none, none, none, none, none, none, none, none, none, none, none, none, none, none, none, none, none, none, none, none, none, none, none, none, none, none, none, none, none, none, none, none, none, none, none, none, none, none, none, none, none, none, none, none, none, none, none, none, none, none, none, none, none, none, none, none, none, none, none, none, none, none, none, none, none, none, none, none, none, none, none, none, none, none, none, none, none, none, none, none, none, none, none, none, none, none, none, none, none, none, none, none, none, none, none, none, none, none, none, none, none, none, none, none, none, none, none, none, none, none, none, none, none, none, none, none, none, none, none]
def E29_4 (v5 v9 : Value) : Env := [none, none, none, none, none, some v5, none, none, none, some v9, none, none, none, none, none, none, none, none, none, none, none, none, none, none, none, none, none, none, none, none, none, none, none, none, none, none, none, none, none, none, none, none, none, none, none, none, none, none, none, none, none, none, none, none, none, none, none, none, none, none, none, none, none, none, none, none, none, none, none, none, none, none, none, none, none, none, none, none, none, none, none, none, none, none, none, none, none, none, none, none, none, none, none, none, none, none, none, none, none, none, none, none, none, none, none, none, none, none, none, none, none, none, none, none, none, none, none, none, none, none, none, none, none, none, none, none, none, none, none, none, none, none, none, none, none, none, none, none, none, none, none, none, none, none, none, none, none, none, none, none, none, none, none, none, none, none, none, none, none, none, none, none, none, none, none, none, none, none, none, none, none, none, none, none, none, none, none]
def E29_6 : Env := [none, none, none, none, none, none, none, none, none, none, none, none, none, none, none, none, none, none, none, none, none, none, none, none, none, none, none, none, none, none, none, none, none, none, none, none, none, none, none, none, none, none, none, none, none, none, none, none, none, none, none, none, none, none, none, none, none, none, none, none, none, none, none, none, none, none, none, none, none, none, none, none, none, none, none, none, none, none, none, none, none, none, none, none, none, none, none, none, none, none, none, none, none, none, none, none, none, none, none, none, none, none, none, none, none, none, none, none, none, none, none, none, none, none, none, none, none, none, none, none, none, none, none, none, none, none, none, none, none, none, none, none, none, none, none, none, none, none, none, none, none, none, none, none, none, none, none, none, none, none, none, none, none, none, none, none, none, none, none, none, none, none, none, none, none, none, none, none, none, none, none, none, none, none, none, none, none]
def E29_12 (v5 v10 v11 v12 : Value) : Env := [none, none, none, none, none, some v5, none, none, none, none, some v10, some v11, some v12, none, none, none, none, none, none, none, none, none, none, none, none, none, none, none, none, none, none, none, none, none, none, none, none, none, none, none, none, none, none, none, none, none, none, none, none, none, none, none, none, none, none, none, none, none, none, none, none, none, none, none, none, none, none, none, none, none, none, none, none, none, none, none, none, none, none, none, none, none, none, none, none, none, none, none, none, none, none, none, none, none, none, none, none, none, none, none, none, none, none, none, none, none, none, none, none, none, none, none, none, none, none, none, none, none, none, none, none, none, none, none, none, none, none, none, none, none, none, none, none, none, none, none, none, none, none, none, none, none, none, none, none, none, none, none, none, none, none, none, none, none, none, none, none, none, none, none, none, none, none, none, none, none, none, none, none, none, none, none, none, none, none, none, none]
def E29_14 (v5 v10 v11 : Value) : Env := [none, none, none, none, none, some v5, none, none, none, none, some v10, some v11, none, none, none, none, none, none, none, none, none, none, none, none, none, none, none, none, none, none, none, none, none, none, none, none, none, none, none, none, none, none, none, none, none, none, none, none, none, none, none, none, none, none, none, none, none, none, none, none, none, none, none, none, none, none, none, none, none, none, none, none, none, none, none, none, none, none, none, none, none, none, none, none, none, none, none, none, none, none, none, none, none, none, none, none, none, none, none, none, none, none, none, none, none, none, none, none, none, none, none, none, none, none, none, none, none, none, none, none, none, none, none, none, none, none, none, none, none, none, none, none, none, none, none, none, none, none, none, none, none, none, none, none, none, none, none, none, none, none, none, none, none, none, none, none, none, none, none, none, none, none, none, none, none, none, none, none, none, none, none, none, none, none, none, none, none]
def E29_49 (v5 : Value) : Env := [none, none, none, none, none, some v5, none, none, none, none, none, none, none, none, none, none, none, none, none, none, none, none, none, none, none, none, none, none, none, none, none, none, none, none, none, none, none, none, none, none, none, none, none, none, none, none, none, none, none, none, none, none, none, none, none, none, none, none, none, none, none, none, none, none, none, none, none, none, none, none, none, none, none, none, none, none, none, none, none, none, none, none, none, none, none, none, none, none, none, none, none, none, none, none, none, none, none, none, none, none, none, none, none, none, none, none, none, none, none, none, none, none, none, none, none, none, none, none, none, none, none, none, none, none, none, none, none, none, none, none, none, none, none, none, none, none, none, none, none, none, none, none, none, none, none, none, none, none, none, none, none, none, none, none, none, none, none, none, none, none, none, none, none, none, none, none, none, none, none, none, none, none, none, none, none, none, none]
def E29_r (v8 : Value) : Env := [none, none, none, none, none, none, none, none, some v8, none, none, none, none, none, none, none, none, none, none, none, none, none, none, none, none, none, none, none, none, none, none, none, none, none, none, none, none, none, none, none, none, none, none, none, none, none, none, none, none, none, none, none, none, none, none, none, none, none, none, none, none, none, none, none, none, none, none, none, none, none, none, none, none, none, none, none, none, none, none, none, none, none, none, none, none, none, none, none, none, none, none, none, none, none, none, none, none, none, none, none, none, none, none, none, none, none, none, none, none, none, none, none, none, none, none, none, none, none, none, none, none, none, none, none, none, none, none, none, none, none, none, none, none, none, none, none, none, none, none, none, none, none, none, none, none, none, none, none, none, none, none, none, none, none, none, none, none, none, none, none, none, none, none, none, none, none, none, none, none, none, none, none, none, none, none, none, none]
def E30_0 (v2 v3 v4 v7 v8 v9 : Value) : Env := [none, none, some v2, some v3, some v4, none, none, some v7, some v8, some v9, none, none, none, none, none, none, none, none, none, none, none, none, none, none, none, none, none, none, none, none, none, none, none, none, none, none, none, none, none, none, none, none, none, none, none, none, none, none, none, none, none, none, none, none, none, none, none, none, none, none, none, none, none, none, none, none, none, none, none, none, none, none, none, none, none, none, none, none, none, none, none, none, none, none, none, none, none, none, none, none, none, none, none, none, none, none, none, none, none, none, none, none, none]
def E30_2 (v2 v3 v4 v7 v8 : Value) : Env := [none, none, some v2, some v3, some v4, none, none, some v7, some v8, none, none, none, none, none, none, none, none, none, none, none, none, none, none, none, none, none, none, none, none, none, none, none, none, none, none, none, none, none, none, none, none, none, none, none, none, none, none, none, none, none, none, none, none, none, none, none, none, none, none, none, none, none, none, none, none, none, none, none, none, none, none, none, none, none, none, none, none, none, none, none, none, none, none, none, none, none, none, none, none, none, none, none, none, none, none, none, none, none, none, none, none, none, none]
def E30_3 (v2 v3 v4 : Value) : Env := [none, none, some v2, some v3, some v4, none, none, none, none, none, none, none, none, none, none, none, none, none, none, none, none, none, none, none, none, none, none, none, none, none, none, none, none, none, none, none, none, none, none, none, none, none, none, none, none, none, none, none, none, none, none, none, none, none, none, none, none, none, none, none, none, none, none, none, none, none, none, none, none, none, none, none, none, none, none, none, none, none, none, none, none, none, none, none, none, none, none, none, none, none, none, none, none, none, none, none, none, none, none, none, none, none, none]
def E30_r (v6 : Value) : Env := [none, none, none, none, none, none, some v6, none, none, none, none, none, none, none, none, none, none, none, none, none, none, none, none, none, none, none, none, none, none, none, none, none, none, none, none, none, none, none, none, none, none, none, none, none, none, none, none, none, none, none, none, none, none, none, none, none, none, none, none, none, none, none, none, none, none, none, none, none, none, none, none, none, none, none, none, none, none, none, none, none, none, none, none, none, none, none, none, none, none, none, none, none, none, none, none, none, none, none, none, none, none, none, none]
def E31_0 (v2 v7 v8 v9 : Value) : Env := [none, none, some v2, none, none, none, none, some v7, some v8, some v9, none, none, none, none, none, none, none, none, none, none, none]
def E31_2 : Env := [none, none, none, none, none, none, none, none, none, none, none, none, none, none, none, none, none, none, none, none, none]
def E31_r (v4 : Value) : Env := [none, none, none, none, some v4, none, none, none, none, none, none, none, none, none, none, none, none, none, none, none, none]
def E32_0 (v1 v7 v8 v9 : Value) : Env := [none, some v1, none, none, none, none, none, some v7, some v8, some v9, none, none, none, none, none, none, none, none, none, none, none, none, none, none, none, none, none, none, none, none]
def E32_2 (v1 : Value) : Env := [none, some v1, none, none, none, none, none, none, none, none, none, none, none, none, none, none, none, none, none, none, none, none, none, none, none, none, none, none, none, none]
def E32_r (v2 : Value) : Env := [none, none, some v2, none, none, none, none, none, none, none, none, none, none, none, none, none, none, none, none, none, none, none, none, none, none, none, none, none, none, none]
def E33_0 (v1 v16 v17 v18 : Value) : Env := [none, some v1, none, none, none, none, none, none, none, none, none, none, none, none, none, none, some v16, some v17, some v18, none, none, none, none, none, none, none, none, none, none, none, none, none, none]
def E33_2 : Env := [none, none, none, none, none, none, none, none, none, none, none, none, none, none, none, none, none, none, none, none, none, none, none, none, none, none, none, none, none, none, none, none, none]
def E33_r (v2 : Value) : Env := [none, none, some v2, none, none, none, none, none, none, none, none, none, none, none, none, none, none, none, none, none, none, none, none, none, none, none, none, none, none, none, none, none, none]
def E34_0 (v1 v9 v10 v11 : Value) : Env := [none, some v1, none, none, none, none, none, none, none, some v9, some v10, some v11, none, none, none, none, none, none, none, none, none, none, none, none, none, none, none, none, none, none, none, none, none, none, none, none, none, none, none, none, none, none, none, none, none, none, none, none, none, none, none, none, none, none, none, none, none, none, none, none, none, none, none, none, none, none, none, none, none, none, none, none, none, none, none]
def E34_2 : Env := [none, none, none, none, none, none, none, none, none, none, none, none, none, none, none, none, none, none, none, none, none, none, none, none, none, none, none, none, none, none, none, none, none, none, none, none, none, none, none, none, none, none, none, none, none, none, none, none, none, none, none, none, none, none, none, none, none, none, none, none, none, none, none, none, none, none, none, none, none, none, none, none, none, none, none]
def E34_13 (v1 v3 v4 v5 v6 v9 v10 v11 : Value) : Env := [none, some v1, none, some v3, some v4, some v5, some v6, none, none, some v9, some v10, some v11, none, none, none, none, none, none, none, none, none, none, none, none, none, none, none, none, none, none, none, none, none, none, none, none, none, none, none, none, none, none, none, none, none, none, none, none, none, none, none, none, none, none, none, none, none, none, none, none, none, none, none, none, none, none, none, none, none, none, none, none, none, none, none]
def E34_r (v2 : Value) : Env := [none, none, some v2, none, none, none, none, none, none, none, none, none, none, none, none, none, none, none, none, none, none, none, none, none, none, none, none, none, none, none, none, none, none, none, none, none, none, none, none, none, none, none, none, none, none, none, none, none, none, none, none, none, none, none, none, none, none, none, none, none, none, none, none, none, none, none, none, none, none, none, none, none, none, none, none]
def E35_0 (v1 v9 v10 v11 : Value) : Env := [none, some v1, none, none, none, none, none, none, none, some v9, some v10, some v11, none, none, none, none, none, none, none, none, none, none, none, none, none, none, none, none, none, none, none, none, none, none, none, none, none, none, none, none, none, none, none, none, none, none, none, none, none, none, none, none, none, none, none, none]
def E35_2 : Env := [none, none, none, none, none, none, none, none, none, none, none, none, none, none, none, none, none, none, none, none, none, none, none, none, none, none, none, none, none, none, none, none, none, none, none, none, none, none, none, none, none, none, none, none, none, none, none, none, none, none, none, none, none, none, none, none]
def E35_13 (v1 v4 v5 v6 v9 v10 v11 : Value) : Env := [none, some v1, none, none, some v4, some v5, some v6, none, none, some v9, some v10, some v11, none, none, none, none, none, none, none, none, none, none, none, none, none, none, none, none, none, none, none, none, none, none, none, none, none, none, none, none, none, none, none, none, none, none, none, none, none, none, none, none, none, none, none, none]
def E35_r (v2 : Value) : Env := [none, none, some v2, none, none, none, none, none, none, none, none, none, none, none, none, none, none, none, none, none, none, none, none, none, none, none, none, none, none, none, none, none, none, none, none, none, none, none, none, none, none, none, none, none, none, none, none, none, none, none, none, none, none, none, none, none]
def E36_3 (v2 v3 v4 v5 : Value) : Env := [none, none, some v2, some v3, some v4, some v5, none, none, none, none, none, none, none, none, none, none, none, none, none, none, none, none, none, none, none, none, none, none, none, none, none, none, none, none, none, none, none, none, none, none, none, none, none, none, none, none, none, none, none, none, none, none, none, none, none, none, none, none, none, none, none, none, none, none, none, none, none, none, none, none, none, none, none, none, none, none, none, none, none, none, none, none, none, none, none, none, none, none, none, none, none, none, none, none, none, none, none, none, none, none, none, none, none, none]
def E36_19 (v2 v4 v5 : Value) : Env := [none, none, some v2, none, some v4, some v5, none, none, none, none, none, none, none, none, none, none, none, none, none, none, none, none, none, none, none, none, none, none, none, none, none, none, none, none, none, none, none, none, none, none, none, none, none, none, none, none, none, none, none, none, none, none, none, none, none, none, none, none, none, none, none, none, none, none, none, none, none, none, none, none, none, none, none, none, none, none, none, none, none, none, none, none, none, none, none, none, none, none, none, none, none, none, none, none, none, none, none, none, none, none, none, none, none, none]
def E36_21 (v4 v5 v9 v10 : Value) : Env := [none, none, none, none, some v4, some v5, none, none, none, some v9, some v10, none, none, none, none, none, none, none, none, none, none, none, none, none, none, none, none, none, none, none, none, none, none, none, none, none, none, none, none, none, none, none, none, none, none, none, none, none, none, none, none, none, none, none, none, none, none, none, none, none, none, none, none, none, none, none, none, none, none, none, none, none, none, none, none, none, none, none, none, none, none, none, none, none, none, none, none, none, none, none, none, none, none, none, none, none, none, none, none, none, none, none, none, none]
def E36_r (v8 : Value) : Env := [none, none, none, none, none, none, none, none, some v8, none, none, none, none, none, none, none, none, none, none, none, none, none, none, none, none, none, none, none, none, none, none, none, none, none, none, none, none, none, none, none, none, none, none, none, none, none, none, none, none, none, none, none, none, none, none, none, none, none, none, none, none, none, none, none, none, none, none, none, none, none, none, none, none, none, none, none, none, none, none, none, none, none, none, none, none, none, none, none, none, none, none, none, none, none, none, none, none, none, none, none, none, none, none, none]
def E52_0 (v0 v7 v8 v9 : Value) : Env := [some v0, none, none, none, none, none, none, some v7, some v8, some v9, none, none, none, none, none, none, none]
def E52_2 : Env := [none, none, none, none, none, none, none, none, none, none, none, none, none, none, none, none, none]
def E52_r (v4 : Value) : Env := [none, none, none, none, some v4, none, none, none, none, none, none, none, none, none, none, none, none]
def E53_0 (v1 v8 v9 v10 : Value) : Env := [none, some v1, none, none, none, none, none, none, some v8, some v9, some v10, none, none, none, none, none, none, none, none, none, none]
def E53_2 : Env := [none, none, none, none, none, none, none, none, none, none, none, none, none, none, none, none, none, none, none, none, none]
def E53_3 (v1 v2 : Value) : Env := [none, some v1, some v2, none, none, none, none, none, none, none, none, none, none, none, none, none, none, none, none, none, none]
def E53_r (v4 : Value) : Env := [none, none, none, none, some v4, none, none, none, none, none, none, none, none, none, none, none, none, none, none, none, none]
def E54_3 (v1 : Value) : Env := [none, some v1, none, none, none, none, none, none, none, none, none, none, none, none, none, none, none, none, none, none, none, none, none, none, none, none, none, none, none]
def E54_17 (v1 v4 : Value) : Env := [none, some v1, none, none, some v4, none, none, none, none, none, none, none, none, none, none, none, none, none, none, none, none, none, none, none, none, none, none, none, none]
def E54_r (v2 v3 : Value) : Env := [none, none, some v2, some v3, none, none, none, none, none, none, none, none, none, none, none, none, none, none, none, none, none, none, none, none, none, none, none, none, none]
def E56_0 (v4 v7 v8 v9 : Value) : Env := [none, none, none, none, some v4, none, none, some v7, some v8, some v9, none, none, none, none, none, none, none, none, none, none, none, none, none, none, none, none, none, none, none, none, none, none, none, none, none, none, none, none, none]
def E56_2 (v4 : Value) : Env := [none, none, none, none, some v4, none, none, none, none, none, none, none, none, none, none, none, none, none, none, none, none, none, none, none, none, none, none, none, none, none, none, none, none, none, none, none, none, none, none]
def E57_0 (v0 v3 : Value) : Env := [some v0, none, none, some v3, none, none, none, none, none, none, none, none, none, none, none]
def E57_2 : Env := [none, none, none, none, none, none, none, none, none, none, none, none, none, none, none]
def E57_r (v2 : Value) : Env := [none, none, some v2, none, none, none, none, none, none, none, none, none, none, none, none]
def E58_0 (v0 v1 v5 : Value) : Env := [some v0, some v1, none, none, none, some v5, none, none, none, none, none, none, none, none, none, none, none, none, none]
def E58_2 : Env := [none, none, none, none, none, none, none, none, none, none, none, none, none, none, none, none, none, none, none]
def E58_r (v4 : Value) : Env := [none, none, none, none, some v4, none, none, none, none, none, none, none, none, none, none, none, none, none, none]
def E59_0 (v1 v3 v4 : Value) : Env := [none, some v1, none, some v3, some v4, none, none, none, none, none, none, none, none, none, none, none, none, none, none, none, none, none]
def E59_2 (v3 : Value) : Env := [none, none, none, some v3, none, none, none, none, none, none, none, none, none, none, none, none, none, none, none, none, none, none]
def E59_3 (v1 : Value) : Env := [none, some v1, none, none, none, none, none, none, none, none, none, none, none, none, none, none, none, none, none, none, none, none]
def E59_r (v2 : Value) : Env := [none, none, some v2, none, none, none, none, none, none, none, none, none, none, none, none, none, none, none, none, none, none, none]
def E60_3 (v1 : Value) : Env := [none, some v1, none, none, none, none, none, none, none, none, none, none, none, none, none, none, none, none, none, none, none, none, none, none, none, none, none, none, none, none, none, none, none, none, none, none]
def E60_17 (v1 v4 : Value) : Env := [none, some v1, none, none, some v4, none, none, none, none, none, none, none, none, none, none, none, none, none, none, none, none, none, none, none, none, none, none, none, none, none, none, none, none, none, none, none]
def E60_23 (v1 v3 : Value) : Env := [none, some v1, none, some v3, none, none, none, none, none, none, none, none, none, none, none, none, none, none, none, none, none, none, none, none, none, none, none, none, none, none, none, none, none, none, none, none]
def E60_r (v2 : Value) : Env := [none, none, some v2, none, none, none, none, none, none, none, none, none, none, none, none, none, none, none, none, none, none, none, none, none, none, none, none, none, none, none, none, none, none, none, none, none]
def E63_0 (v0 v2 v3 v4 : Value) : Env := [some v0, none, some v2, some v3, some v4, none, none, none, none, none, none, none, none, none, none, none, none, none, none, none, none, none, none, none, none]
def E63_2 (v0 v2 v4 : Value) : Env := [some v0, none, some v2, none, some v4, none, none, none, none, none, none, none, none, none, none, none, none, none, none, none, none, none, none, none, none]
def E63_9 (v0 v2 v3 : Value) : Env := [some v0, none, some v2, some v3, none, none, none, none, none, none, none, none, none, none, none, none, none, none, none, none, none, none, none, none, none]
def E63_r (v2 : Value) : Env := [none, none, some v2, none, none, none, none, none, none, none, none, none, none, none, none, none, none, none, none, none, none, none, none, none, none]
def E64_0 (v0 v2 v3 v4 : Value) : Env := [some v0, none, some v2, some v3, some v4, none, none, none, none, none, none, none, none, none, none, none, none, none, none, none]
def E64_2 (v2 v3 : Value) : Env := [none, none, some v2, some v3, none, none, none, none, none, none, none, none, none, none, none, none, none, none, none, none]
def E65_0 (v3 v95 v96 v97 : Value) : Env := [none, none, none, some v3, none, none, none, none, none, none, none, none, none, none, none, none, none, none, none, none, none, none, none, none, none, none, none, none, none, none, none, none, none, none, none, none, none, none, none, none, none, none, none, none, none, none, none, none, none, none, none, none, none, none, none, none, none, none, none, none, none, none, none, none, none, none, none, none, none, none, none, none, none, none, none, none, none, none, none, none, none, none, none, none, none, none, none, none, none, none, none, none, none, none, none, some v95, some v96, some v97, none, none, none, none, none, none, none, none, none, none, none, none, none, none, none, none, none, none, none, none, none, none, none, none, none, none, none, none, none]
def E65_2 : Env := [none, none, none, none, none, none, none, none, none, none, none, none, none, none, none, none, none, none, none, none, none, none, none, none, none, none, none, none, none, none, none, none, none, none, none, none, none, none, none, none, none, none, none, none, none, none, none, none, none, none, none, none, none, none, none, none, none, none, none, none, none, none, none, none, none, none, none, none, none, none, none, none, none, none, none, none, none, none, none, none, none, none, none, none, none, none, none, none, none, none, none, none, none, none, none, none, none, none, none, none, none, none, none, none, none, none, none, none, none, none, none, none, none, none, none, none, none, none, none, none, none, none, none, none, none, none, none]
def E65_3 (v2 v3 : Value) : Env := [none, none, some v2, some v3, none, none, none, none, none, none, none, none, none, none, none, none, none, none, none, none, none, none, none, none, none, none, none, none, none, none, none, none, none, none, none, none, none, none, none, none, none, none, none, none, none, none, none, none, none, none, none, none, none, none, none, none, none, none, none, none, none, none, none, none, none, none, none, none, none, none, none, none, none, none, none, none, none, none, none, none, none, none, none, none, none, none, none, none, none, none, none, none, none, none, none, none, none, none, none, none, none, none, none, none, none, none, none, none, none, none, none, none, none, none, none, none, none, none, none, none, none, none, none, none, none, none, none]
def E65_r (v4 : Value) : Env := [none, none, none, none, some v4, none, none, none, none, none, none, none, none, none, none, none, none, none, none, none, none, none, none, none, none, none, none, none, none, none, none, none, none, none, none, none, none, none, none, none, none, none, none, none, none, none, none, none, none, none, none, none, none, none, none, none, none, none, none, none, none, none, none, none, none, none, none, none, none, none, none, none, none, none, none, none, none, none, none, none, none, none, none, none, none, none, none, none, none, none, none, none, none, none, none, none, none, none, none, none, none, none, none, none, none, none, none, none, none, none, none, none, none, none, none, none, none, none, none, none, none, none, none, none, none, none, none]
def E66_0 (v2 v3 v5 : Value) : Env := [none, none, some v2, some v3, none, some v5, none, none, none, none, none, none, none, none, none, none, none, none, none, none, none, none, none, none, none, none, none, none, none, none, none, none, none, none, none, none, none, none, none, none, none, none, none, none, none, none, none, none, none, none, none, none, none, none, none, none, none, none, none, none, none, none, none, none, none, none, none, none, none, none, none, none, none, none, none, none, none, none, none, none, none, none, none, none, none, none, none, none, none, none, none, none, none, none, none, none, none, none, none, none, none, none, none, none, none, none, none, none, none, none, none, none, none, none, none, none, none, none, none, none, none, none, none, none, none, none, none, none, none, none]
def E66_2 : Env := [none, none, none, none, none, none, none, none, none, none, none, none, none, none, none, none, none, none, none, none, none, none, none, none, none, none, none, none, none, none, none, none, none, none, none, none, none, none, none, none, none, none, none, none, none, none, none, none, none, none, none, none, none, none, none, none, none, none, none, none, none, none, none, none, none, none, none, none, none, none, none, none, none, none, none, none, none, none, none, none, none, none, none, none, none, none, none, none, none, none, none, none, none, none, none, none, none, none, none, none, none, none, none, none, none, none, none, none, none, none, none, none, none, none, none, none, none, none, none, none, none, none, none, none, none, none, none, none, none, none]
def E66_3 (v2 v3 : Value) : Env := [none, none, some v2, some v3, none, none, none, none, none, none, none, none, none, none, none, none, none, none, none, none, none, none, none, none, none, none, none, none, none, none, none, none, none, none, none, none, none, none, none, none, none, none, none, none, none, none, none, none, none, none, none, none, none, none, none, none, none, none, none, none, none, none, none, none, none, none, none, none, none, none, none, none, none, none, none, none, none, none, none, none, none, none, none, none, none, none, none, none, none, none, none, none, none, none, none, none, none, none, none, none, none, none, none, none, none, none, none, none, none, none, none, none, none, none, none, none, none, none, none, none, none, none, none, none, none, none, none, none, none, none]
def E66_r (v4 : Value) : Env := [none, none, none, none, some v4, none, none, none, none, none, none, none, none, none, none, none, none, none, none, none, none, none, none, none, none, none, none, none, none, none, none, none, none, none, none, none, none, none, none, none, none, none, none, none, none, none, none, none, none, none, none, none, none, none, none, none, none, none, none, none, none, none, none, none, none, none, none, none, none, none, none, none, none, none, none, none, none, none, none, none, none, none, none, none, none, none, none, none, none, none, none, none, none, none, none, none, none, none, none, none, none, none, none, none, none, none, none, none, none, none, none, none, none, none, none, none, none, none, none, none, none, none, none, none, none, none, none, none, none, none]
def E89_3 (v1 v2 v4 : Value) : Env := [none, some v1, some v2, none, some v4, none, none, none, none, none, none, none, none, none, none, none, none, none, none, none, none, none, none, none, none, none, none, none, none, none]
def E89_r (v4 : Value) : Env := [none, none, none, none, some v4, none, none, none, none, none, none, none, none, none, none, none, none, none, none, none, none, none, none, none, none, none, none, none, none, none]
def E90_3 (v2 v3 : Value) : Env := [none, none, some v2, some v3, none, none, none, none, none, none, none, none, none, none, none, none, none, none, none, none, none, none, none, none]
def E90_r (v4 : Value) : Env := [none, none, none, none, some v4, none, none, none, none, none, none, none, none, none, none, none, none, none, none, none, none, none, none, none]
def E91_3 (v2 v3 v4 : Value) : Env := [none, none, some v2, some v3, some v4, none, none, none, none, none, none, none, none, none, none, none, none, none, none, none, none, none, none, none]
def E91_r (v4 : Value) : Env := [none, none, none, none, some v4, none, none, none, none, none, none, none, none, none, none, none, none, none, none, none, none, none, none, none]
def E92_3 (v1 v2 : Value) : Env := [none, some v1, some v2, none, none, none, none, none, none, none, none, none, none, none, none, none, none, none, none, none, none, none, none, none, none]
def E92_9 (v1 v2 v6 : Value) : Env := [none, some v1, some v2, none, none, none, some v6, none, none, none, none, none, none, none, none, none, none, none, none, none, none, none, none, none, none]
def E92_r (v4 v5 : Value) : Env := [none, none, none, none, some v4, some v5, none, none, none, none, none, none, none, none, none, none, none, none, none, none, none, none, none, none, none]
def E94_0 (v1 v4 v5 : Value) : Env := [none, some v1, none, none, some v4, some v5, none, none, none, none, none, none, none, none, none, none, none, none, none, none, none, none, none, none, none, none, none, none, none, none, none, none, none, none, none, none, none, none]
def E94_2 (v1 v4 : Value) : Env := [none, some v1, none, none, some v4, none, none, none, none, none, none, none, none, none, none, none, none, none, none, none, none, none, none, none, none, none, none, none, none, none, none, none, none, none, none, none, none, none]
def E112_3 (v1 v2 v4 : Value) : Env := [none, some v1, some v2, none, some v4, none, none, none, none, none, none, none, none, none, none, none, none, none, none, none]
def E112_r (v4 : Value) : Env := [none, none, none, none, some v4, none, none, none, none, none, none, none, none, none, none, none, none, none, none, none]
def E115_0 (v0 v1 v5 v6 v7 : Value) : Env := [some v0, some v1, none, none, none, some v5, some v6, some v7, none, none, none, none, none, none, none, none, none, none, none, none, none, none, none, none, none, none, none, none, none, none, none, none, none, none, none, none, none, none, none, none, none, none, none, none, none, none, none, none, none, none, none]
def E115_2 (v5 : Value) : Env := [none, none, none, none, none, some v5, none, none, none, none, none, none, none, none, none, none, none, none, none, none, none, none, none, none, none, none, none, none, none, none, none, none, none, none, none, none, none, none, none, none, none, none, none, none, none, none, none, none, none, none, none]
def E116_0 (v0 v1 v5 : Value) : Env := [some v0, some v1, none, none, none, some v5, none, none, none, none, none, none, none, none, none, none, none, none, none, none, none, none, none, none, none, none]
def E116_2 : Env := [none, none, none, none, none, none, none, none, none, none, none, none, none, none, none, none, none, none, none, none, none, none, none, none, none, none]
def E116_r (v4 : Value) : Env := [none, none, none, none, some v4, none, none, none, none, none, none, none, none, none, none, none, none, none, none, none, none, none, none, none, none, none]
def E117_0 (v0 v1 v5 v6 v7 : Value) : Env := [some v0, some v1, none, none, none, some v5, some v6, some v7, none, none, none, none, none, none, none, none, none, none, none, none, none, none, none, none, none, none, none, none, none, none, none, none, none, none, none, none, none, none, none, none, none, none, none, none, none, none, none, none, none, none]
def E117_2 (v5 : Value) : Env := [none, none, none, none, none, some v5, none, none, none, none, none, none, none, none, none, none, none, none, none, none, none, none, none, none, none, none, none, none, none, none, none, none, none, none, none, none, none, none, none, none, none, none, none, none, none, none, none, none, none, none]
def E127_0 (v0 v3 : Value) : Env := [some v0, none, none, some v3, none, none, none, none, none, none, none, none, none, none, none, none, none, none, none, none, none]
noncomputable abbrev P30 := Tryz.prog
noncomputable abbrev ev30 (r n : Nat) : CallF := evCall P30 dead30 intr30 r n
noncomputable abbrev jmp30 (r n : Nat) : FuncId → JmpF := evJmp P30 dead30 intr30 r n

theorem e3 (r n : Nat) (h : H) (a0_0 : Option Addr) (a0_0n : Nat) (a0_0s : Nat) (a0_1 : Option Addr) (a0_1n : Nat) (a0_1s : Nat) (a0_2 : Option Addr) (a0_2n : Nat) (a0_2s : Nat) (a0_3 : Int) (a0_4 : Int) (a0_5 : Int) (a0_6 : Int) (a0_7 : Int) (a0_8 : Int) (a1_0 : Int) (a1_1 : Bool) (a1_2 : Option Addr) (a1_2n : Nat) (a1_2s : Nat) (a1_3 : Option Addr) (a1_3n : Nat) (a1_3s : Nat) (a1_4 : Option Addr) (a1_4n : Nat) (a1_4s : Nat) (a1_5 : Option Addr) (a1_5n : Nat) (a1_5s : Nat) (a1_6 : Option Addr) (a1_6n : Nat) (a1_6s : Nat) (a2 : Int) : ev30 r (n + 1) 3 [.agg #[.slice a0_0 a0_0n a0_0s, .slice a0_1 a0_1n a0_1s, .slice a0_2 a0_2n a0_2s, .int .i64 a0_3, .int .i64 a0_4, .int .i64 a0_5, .int .i64 a0_6, .int .i64 a0_7, .int .i64 a0_8], .agg #[.int .i64 a1_0, .bool a1_1, .slice a1_2 a1_2n a1_2s, .slice a1_3 a1_3n a1_3s, .slice a1_4 a1_4n a1_4s, .slice a1_5 a1_5n a1_5s, .slice a1_6 a1_6n a1_6s], .int .i64 a2] h =
  jumpK
    (jmp30 r n 3 0 (pc [1] (bd Tryz.f3)) (E3_3 (Value.int IntKind.i64 a2) (Value.pointer (some { block := h.1, off := 0 })) (Value.pointer (some { block := h.1 + 1, off := 0 })))
      ((h.new
            (Blk.cells
              [Value.slice a0_0 a0_0n a0_0s, Value.slice a0_1 a0_1n a0_1s, Value.slice a0_2 a0_2n a0_2s, Value.int IntKind.i64 a0_3, Value.int IntKind.i64 a0_4, Value.int IntKind.i64 a0_5,
                Value.int IntKind.i64 a0_6, Value.int IntKind.i64 a0_7, Value.int IntKind.i64 a0_8]
              false)).new
        (Blk.cells
          [Value.int IntKind.i64 a1_0, Value.bool a1_1, Value.slice a1_2 a1_2n a1_2s, Value.slice a1_3 a1_3n a1_3s, Value.slice a1_4 a1_4n a1_4s, Value.slice a1_5 a1_5n a1_5s,
            Value.slice a1_6 a1_6n a1_6s]
          false)))
    (finK P30 [ResultVar.tmp 6]) := by kernel_rfl

theorem e3_3c (r n : Nat) (h : H) (x2 : Int) (x3 : Nat) (x4 : Nat) : jmp30 r (n + 1) 3 0 (pc [1] (bd Tryz.f3)) (E3_3 (.int .i64 x2) (.pointer (some ⟨x3, 0, none⟩)) (.pointer (some ⟨x4, 0, none⟩))) h =
  callK (ev30 r n) 5 [] h fun v0 h1 =>
    castV v0 fun b2 =>
      bif !b2 then some (Exit.ret, E3_r (Value.bool false), h1)
      else
        optK (ldV P30 26 x3 0 h1) fun v3 =>
          castA v3 fun cs4 =>
            callK (ev30 r n) 6 [Value.agg cs4] h1 fun v5 h6 =>
              castV v5 fun b7 =>
                bif !b7 then some (Exit.ret, E3_r (Value.bool true), h6)
                else
                  optK (ldV P30 30 x4 0 h6) fun v8 =>
                    castA v8 fun cs9 =>
                      callK (ev30 r n) 7 [Value.agg cs9] h6 fun v10 h11 =>
                        castV v10 fun b12 =>
                          bif !b12 then some (Exit.ret, E3_r (Value.bool true), h11)
                          else
                            jumpK
                              (jmp30 r n 3 0 (pc [1, 1, 1] (bd Tryz.f3))
                                (E3_3 (Value.int IntKind.i64 x2) (Value.pointer (some { block := x3, off := 0 })) (Value.pointer (some { block := x4, off := 0 }))) h11)
                              (outK (dead30 3) (key (pc [1] (bd Tryz.f3)))) := by kernel_rfl

theorem e3_3r (h : H) (x6 : Bool) : (finK P30 [.tmp 6]) .ret (E3_r (.bool x6)) h =
  some (Value.bool x6, h) := by kernel_rfl

theorem e3_11c (r n : Nat) (h : H) (x2 : Int) (x3 : Nat) (x4 : Nat) : jmp30 r (n + 1) 3 0 (pc [1, 1, 1] (bd Tryz.f3)) (E3_3 (.int .i64 x2) (.pointer (some ⟨x3, 0, none⟩)) (.pointer (some ⟨x4, 0, none⟩))) h =
  optK (ldV P30 26 x3 0 h) fun v0 =>
    castA v0 fun cs1 =>
      optK (ldV P30 30 x4 0 h) fun v2 =>
        castA v2 fun cs3 =>
          callK (ev30 r n) 8 [Value.agg cs1, Value.agg cs3] h fun v4 h5 =>
            castI IntKind.i64 v4 fun n6 =>
              optK (ldV P30 26 x3 0 h5) fun v7 =>
                castA v7 fun cs8 =>
                  bif sameLd P30 26 x3 0 (Value.agg cs8) h then
                    callK (ev30 r n) 10 [Value.agg cs8] h5 fun v9 h10 =>
                      castA v9 fun cs11 =>
                        optK (ldV P30 30 x4 0 h10) fun v12 =>
                          castA v12 fun cs13 =>
                            bif sameLd P30 30 x4 0 (Value.agg cs13) h5 then
                              bif sameLd P30 30 x4 0 (Value.agg cs13) h then
                                callK (ev30 r n) 11 [Value.agg cs13] h10 fun v14 h15 =>
                                  castA v14 fun cs16 =>
                                    callK (ev30 r n) 9 [Value.agg cs11, Value.agg cs16] h15 fun v17 h18 =>
                                      castI IntKind.i64 v17 fun n19 =>
                                        bif n6 == n19 then
                                          callK (ev30 r n) 12 [Value.int IntKind.i64 x2] h18 fun v20 h21 =>
                                            castS v20 fun s22 =>
                                              callK (ev30 r n) 13 [Value.int IntKind.i64 x2] h21 fun v23 h24 =>
                                                castS v23 fun s25 => some (Exit.ret, E3_r (Value.bool (s22.toList == s25.toList)), h24)
                                        else some (Exit.ret, E3_r (Value.bool false), h18)
                              else none
                            else none
                  else none := by kernel_rfl

theorem e3_11r (h : H) (x6 : Bool) : (outK (dead30 3) (key (pc [1] (bd Tryz.f3)))) .ret (E3_r (.bool x6)) h =
  some (Exit.ret, E3_r (Value.bool x6), h) := by kernel_rfl

theorem e4 (r n : Nat) (h : H) (a0_0 : Option Addr) (a0_0n : Nat) (a0_0s : Nat) (a0_1 : Option Addr) (a0_1n : Nat) (a0_1s : Nat) (a0_2 : Option Addr) (a0_2n : Nat) (a0_2s : Nat) (a0_3 : Int) (a0_4 : Int) (a0_5 : Int) (a0_6 : Int) (a0_7 : Int) (a0_8 : Int) (a1_0 : Int) (a1_1 : Bool) (a1_2 : Option Addr) (a1_2n : Nat) (a1_2s : Nat) (a1_3 : Option Addr) (a1_3n : Nat) (a1_3s : Nat) (a1_4 : Option Addr) (a1_4n : Nat) (a1_4s : Nat) (a1_5 : Option Addr) (a1_5n : Nat) (a1_5s : Nat) (a1_6 : Option Addr) (a1_6n : Nat) (a1_6s : Nat) (a2_0 : Int) (a2_1 : Bool) (a2_2 : Option Addr) (a2_2n : Nat) (a2_2s : Nat) (a2_3 : Option Addr) (a2_3n : Nat) (a2_3s : Nat) (a2_4 : Option Addr) (a2_4n : Nat) (a2_4s : Nat) (a2_5 : Option Addr) (a2_5n : Nat) (a2_5s : Nat) (a2_6 : Option Addr) (a2_6n : Nat) (a2_6s : Nat) : ev30 r (n + 1) 4 [.agg #[.slice a0_0 a0_0n a0_0s, .slice a0_1 a0_1n a0_1s, .slice a0_2 a0_2n a0_2s, .int .i64 a0_3, .int .i64 a0_4, .int .i64 a0_5, .int .i64 a0_6, .int .i64 a0_7, .int .i64 a0_8], .agg #[.int .i64 a1_0, .bool a1_1, .slice a1_2 a1_2n a1_2s, .slice a1_3 a1_3n a1_3s, .slice a1_4 a1_4n a1_4s, .slice a1_5 a1_5n a1_5s, .slice a1_6 a1_6n a1_6s], .agg #[.int .i64 a2_0, .bool a2_1, .slice a2_2 a2_2n a2_2s, .slice a2_3 a2_3n a2_3s, .slice a2_4 a2_4n a2_4s, .slice a2_5 a2_5n a2_5s, .slice a2_6 a2_6n a2_6s]] h =
  jumpK
    (jmp30 r n 4 0 (pc [1] (bd Tryz.f4))
      (E4_3 (Value.pointer (some { block := h.1, off := 0 })) (Value.pointer (some { block := h.1 + 1, off := 0 })) (Value.pointer (some { block := h.1 + 1 + 1, off := 0 })))
      (((h.new
                (Blk.cells
                  [Value.slice a0_0 a0_0n a0_0s, Value.slice a0_1 a0_1n a0_1s, Value.slice a0_2 a0_2n a0_2s, Value.int IntKind.i64 a0_3, Value.int IntKind.i64 a0_4, Value.int IntKind.i64 a0_5,
                    Value.int IntKind.i64 a0_6, Value.int IntKind.i64 a0_7, Value.int IntKind.i64 a0_8]
                  false)).new
            (Blk.cells
              [Value.int IntKind.i64 a1_0, Value.bool a1_1, Value.slice a1_2 a1_2n a1_2s, Value.slice a1_3 a1_3n a1_3s, Value.slice a1_4 a1_4n a1_4s, Value.slice a1_5 a1_5n a1_5s,
                Value.slice a1_6 a1_6n a1_6s]
              false)).new
        (Blk.cells
          [Value.int IntKind.i64 a2_0, Value.bool a2_1, Value.slice a2_2 a2_2n a2_2s, Value.slice a2_3 a2_3n a2_3s, Value.slice a2_4 a2_4n a2_4s, Value.slice a2_5 a2_5n a2_5s,
            Value.slice a2_6 a2_6n a2_6s]
          false)))
    (finK P30 [ResultVar.tmp 6]) := by kernel_rfl

theorem e4_3c (r n : Nat) (h : H) (x3 : Nat) (x4 : Nat) (x5 : Nat) : jmp30 r (n + 1) 4 0 (pc [1] (bd Tryz.f4)) (E4_3 (.pointer (some ⟨x3, 0, none⟩)) (.pointer (some ⟨x4, 0, none⟩)) (.pointer (some ⟨x5, 0, none⟩))) h =
  callK (ev30 r n) 5 [] h fun v0 h1 =>
    castV v0 fun b2 =>
      bif !b2 then some (Exit.ret, E4_r (Value.bool false), h1)
      else
        optK (ldV P30 26 x3 0 h1) fun v3 =>
          castA v3 fun cs4 =>
            callK (ev30 r n) 6 [Value.agg cs4] h1 fun v5 h6 =>
              castV v5 fun b7 =>
                bif !b7 then some (Exit.ret, E4_r (Value.bool true), h6)
                else
                  optK (ldV P30 30 x4 0 h6) fun v8 =>
                    castA v8 fun cs9 =>
                      callK (ev30 r n) 7 [Value.agg cs9] h6 fun v10 h11 =>
                        castV v10 fun b12 =>
                          bif !b12 then some (Exit.ret, E4_r (Value.bool true), h11)
                          else
                            optK (ldV P30 30 x5 0 h11) fun v13 =>
                              castA v13 fun cs14 =>
                                callK (ev30 r n) 7 [Value.agg cs14] h11 fun v15 h16 =>
                                  castV v15 fun b17 =>
                                    bif !b17 then some (Exit.ret, E4_r (Value.bool true), h16)
                                    else
                                      jumpK
                                        (jmp30 r n 4 0 (pc [1, 1, 1] (bd Tryz.f4))
                                          (E4_3 (Value.pointer (some { block := x3, off := 0 })) (Value.pointer (some { block := x4, off := 0 })) (Value.pointer (some { block := x5, off := 0 }))) h16)
                                        (outK (dead30 4) (key (pc [1] (bd Tryz.f4)))) := by kernel_rfl

theorem e4_3r (h : H) (x6 : Bool) : (finK P30 [.tmp 6]) .ret (E4_r (.bool x6)) h =
  some (Value.bool x6, h) := by kernel_rfl

theorem e4_11c (r n : Nat) (h : H) (x3 : Nat) (x4 : Nat) (x5 : Nat) : jmp30 r (n + 1) 4 0 (pc [1, 1, 1] (bd Tryz.f4)) (E4_3 (.pointer (some ⟨x3, 0, none⟩)) (.pointer (some ⟨x4, 0, none⟩)) (.pointer (some ⟨x5, 0, none⟩))) h =
  optK (ldV P30 26 x3 0 h) fun v0 =>
    castA v0 fun cs1 =>
      optK (ldV P30 30 x4 0 h) fun v2 =>
        castA v2 fun cs3 =>
          optK (ldV P30 30 x5 0 h) fun v4 =>
            castA v4 fun cs5 =>
              callK (ev30 r n) 14 [Value.agg cs1, Value.agg cs3, Value.agg cs5] h fun v6 h7 =>
                castI IntKind.i64 v6 fun n8 =>
                  optK (ldV P30 26 x3 0 h7) fun v9 =>
                    castA v9 fun cs10 =>
                      bif sameLd P30 26 x3 0 (Value.agg cs10) h then
                        callK (ev30 r n) 10 [Value.agg cs10] h7 fun v11 h12 =>
                          castA v11 fun cs13 =>
                            optK (ldV P30 30 x4 0 h12) fun v14 =>
                              castA v14 fun cs15 =>
                                bif sameLd P30 30 x4 0 (Value.agg cs15) h7 then
                                  bif sameLd P30 30 x4 0 (Value.agg cs15) h then
                                    callK (ev30 r n) 11 [Value.agg cs15] h12 fun v16 h17 =>
                                      castA v16 fun cs18 =>
                                        optK (ldV P30 30 x5 0 h17) fun v19 =>
                                          castA v19 fun cs20 =>
                                            bif sameLd P30 30 x5 0 (Value.agg cs20) h12 then
                                              bif sameLd P30 30 x5 0 (Value.agg cs20) h7 then
                                                bif sameLd P30 30 x5 0 (Value.agg cs20) h then
                                                  callK (ev30 r n) 11 [Value.agg cs20] h17 fun v21 h22 =>
                                                    castA v21 fun cs23 =>
                                                      callK (ev30 r n) 15 [Value.agg cs13, Value.agg cs18, Value.agg cs23] h22 fun v24 h25 =>
                                                        castI IntKind.i64 v24 fun n26 =>
                                                          bif n8 == n26 then
                                                            optK (ldV P30 26 x3 0 h25) fun v27 =>
                                                              castA v27 fun cs28 =>
                                                                optK (ldV P30 30 x4 0 h25) fun v29 =>
                                                                  castA v29 fun cs30 =>
                                                                    optK (ldV P30 30 x4 0 h25) fun v31 =>
                                                                      castA v31 fun cs32 =>
                                                                        callK (ev30 r n) 14 [Value.agg cs28, Value.agg cs30, Value.agg cs32] h25 fun v33 h34 =>
                                                                          castI IntKind.i64 v33 fun n35 =>
                                                                            optK (ldV P30 26 x3 0 h34) fun v36 =>
                                                                              castA v36 fun cs37 =>
                                                                                bif sameLd P30 26 x3 0 (Value.agg cs37) h25 then
                                                                                  optK (ldV P30 30 x4 0 h34) fun v38 =>
                                                                                    castA v38 fun cs39 =>
                                                                                      bif sameLd P30 30 x4 0 (Value.agg cs39) h25 then
                                                                                        callK (ev30 r n) 8 [Value.agg cs37, Value.agg cs39] h34 fun v40 h41 =>
                                                                                          castI IntKind.i64 v40 fun n42 => some (Exit.ret, E4_r (Value.bool (n35 == n42)), h41)
                                                                                      else none
                                                                                else none
                                                          else some (Exit.ret, E4_r (Value.bool false), h25)
                                                else none
                                              else none
                                            else none
                                  else none
                                else none
                      else none := by kernel_rfl

theorem e4_11r (h : H) (x6 : Bool) : (outK (dead30 4) (key (pc [1] (bd Tryz.f4)))) .ret (E4_r (.bool x6)) h =
  some (Exit.ret, E4_r (Value.bool x6), h) := by kernel_rfl

theorem e6 (r n : Nat) (h : H) (a0_0 : Option Addr) (a0_0n : Nat) (a0_0s : Nat) (a0_1 : Option Addr) (a0_1n : Nat) (a0_1s : Nat) (a0_2 : Option Addr) (a0_2n : Nat) (a0_2s : Nat) (a0_3 : Int) (a0_4 : Int) (a0_5 : Int) (a0_6 : Int) (a0_7 : Int) (a0_8 : Int) : ev30 r (n + 1) 6 [.agg #[.slice a0_0 a0_0n a0_0s, .slice a0_1 a0_1n a0_1s, .slice a0_2 a0_2n a0_2s, .int .i64 a0_3, .int .i64 a0_4, .int .i64 a0_5, .int .i64 a0_6, .int .i64 a0_7, .int .i64 a0_8]] h =
  jumpK
    (jmp30 r n 6 0 (pc [1] (bd Tryz.f6)) (E6_2 (Value.pointer (some { block := h.1, off := 0 })))
      (h.new
        (Blk.cells
          [Value.slice a0_0 a0_0n a0_0s, Value.slice a0_1 a0_1n a0_1s, Value.slice a0_2 a0_2n a0_2s, Value.int IntKind.i64 a0_3, Value.int IntKind.i64 a0_4, Value.int IntKind.i64 a0_5,
            Value.int IntKind.i64 a0_6, Value.int IntKind.i64 a0_7, Value.int IntKind.i64 a0_8]
          false)))
    (finK P30 [ResultVar.tmp 2]) := by kernel_rfl

theorem e6_3c (r n : Nat) (h : H) (x1 : Nat) : jmp30 r (n + 1) 6 0 (pc [1] (bd Tryz.f6)) (E6_2 (.pointer (some ⟨x1, 0, none⟩))) h =
  optK (ldV P30 22 x1 0 h) fun v0 =>
    castSl v0 fun _ o2 _ =>
      bif decide ((↑o2 : Int) > 20) then some (Exit.ret, E6_r (Value.bool false), h)
      else
        optK (ldV P30 23 x1 1 h) fun v4 =>
          castSl v4 fun _ o6 _ =>
            bif decide ((↑o6 : Int) > 20) then some (Exit.ret, E6_r (Value.bool false), h)
            else
              optK (ldV P30 24 x1 2 h) fun v8 =>
                castSl v8 fun _ o10 _ =>
                  bif decide ((↑o10 : Int) > 20) then some (Exit.ret, E6_r (Value.bool false), h)
                  else jumpK (jmp30 r n 6 0 (pc [1, 1] (bd Tryz.f6)) (E6_2 (Value.pointer (some { block := x1, off := 0 }))) h) (outK (dead30 6) (key (pc [1] (bd Tryz.f6)))) := by kernel_rfl

theorem e6_3r (h : H) (x2 : Bool) : (finK P30 [.tmp 2]) .ret (E6_r (.bool x2)) h =
  some (Value.bool x2, h) := by kernel_rfl

theorem e6_7c (r n : Nat) (h : H) (x1 : Nat) : jmp30 r (n + 1) 6 0 (pc [1, 1] (bd Tryz.f6)) (E6_2 (.pointer (some ⟨x1, 0, none⟩))) h =
  optK (ldV P30 22 x1 0 h) fun v0 =>
    castSl v0 fun a1 o2 o3 =>
      evLoop (evCode P30 (ev30 r n) (jmp30 r n 6) (dead30 6) r 0 (pc [1, 1, 0, 1, 0, 0] (bd Tryz.f6))) (dead30 6 (4 * 0)) (dead30 6 (4 * 0 + 2))
        (dead30 6 1000002) r (E6_0 (Value.pointer (some { block := x1, off := 0 })) (Value.slice a1 o2 o3) (Value.int IntKind.i64 (↑o2 : Int)) (Value.int IntKind.i64 0)) h
        (blockK 0
          (seqK (after P30 (ev30 r n) (jmp30 r n 6) (dead30 6) r 0 (pc [1, 1, 1] (bd Tryz.f6)) (outK (dead30 6) (key (pc [1, 1] (bd Tryz.f6)))))
            (outK (dead30 6) (key (pc [1, 1] (bd Tryz.f6)))))) := by kernel_rfl

theorem e6_7r (h : H) (x2 : Bool) : (outK (dead30 6) (key (pc [1] (bd Tryz.f6)))) .ret (E6_r (.bool x2)) h =
  some (Exit.ret, E6_r (Value.bool x2), h) := by kernel_rfl

theorem e6_0 (r n : Nat) (h : H) {R : Type} (x1 : Nat) (x26 : Option Addr) (x26n : Nat) (x26s : Nat) (x27 : Int) (x28 : Int) (nx : Env → H → Option R) (K : Exit → Env → H → Option R) : evCode P30 (ev30 r n) (jmp30 r n 6) (dead30 6) r 0 (pc [1, 1, 0, 1, 0, 0] (bd Tryz.f6)) (E6_0 (.pointer (some ⟨x1, 0, none⟩)) (.slice x26 x26n x26s) (.int .i64 x27) (.int .i64 x28)) h (loopK nx (dead30 6 (4 * 0)) (dead30 6 (4 * 0 + 2)) (dead30 6 1000002) K) =
  bif decide (x28 < x27) then
    indexAddrA P30 22 (Value.slice x26 x26n x26s) (Value.int IntKind.i64 x28) fun v0 =>
      addrK v0 fun o1 o2 =>
        optK (ldV P30 58 o1 o2 h) fun v3 =>
          castA v3 fun cs4 =>
            ifK (cellsOf P30 58 = some (Value.agg cs4).cells.size)
              (optK (stCells (h.new (Blk.cells [Value.string (txt []), Value.int IntKind.i64 0] false)) h.1 0 (Value.agg cs4).cells.toList) fun h5 =>
                optK (ldV P30 9 h.1 0 h5) fun v6 =>
                  castS v6 fun s7 =>
                    bif decide ((↑s7.size : Int) > 100) then K Exit.ret (E6_r (Value.bool false)) h5
                    else nx (E6_0 (Value.pointer (some { block := x1, off := 0 })) (Value.slice x26 x26n x26s) (Value.int IntKind.i64 x27) (Value.int IntKind.i64 (IntKind.i64.wrap (x28 + 1)))) h5)
  else K (Exit.exit 0) (E6_2 (Value.pointer (some { block := x1, off := 0 }))) h := by kernel_rfl

theorem e6_0x0 (r n : Nat) (h : H) (x1 : Nat) : (blockK 0 (seqK (after P30 (ev30 r n) (jmp30 r n 6) (dead30 6) r 0 (pc [1, 1, 1] (bd Tryz.f6)) (outK (dead30 6) (key (pc [1, 1] (bd Tryz.f6))))) (outK (dead30 6) (key (pc [1, 1] (bd Tryz.f6)))))) (.exit 0) (E6_2 (.pointer (some ⟨x1, 0, none⟩))) h =
  optK (ldV P30 23 x1 1 h) fun v0 =>
    castSl v0 fun a1 o2 o3 =>
      evLoop (evCode P30 (ev30 r n) (jmp30 r n 6) (dead30 6) r 2 (pc [1, 1, 1, 0, 1, 0, 0] (bd Tryz.f6))) (dead30 6 (4 * 2)) (dead30 6 (4 * 2 + 2)) (dead30 6 1000002) r
        (E6_8 (Value.pointer (some { block := x1, off := 0 })) (Value.slice a1 o2 o3) (Value.int IntKind.i64 (↑o2 : Int)) (Value.int IntKind.i64 0)) h
        (blockK 2
          (seqK (after P30 (ev30 r n) (jmp30 r n 6) (dead30 6) r 0 (pc [1, 1, 1, 1] (bd Tryz.f6)) (outK (dead30 6) (key (pc [1, 1] (bd Tryz.f6))))) (outK (dead30 6) (key (pc [1, 1] (bd Tryz.f6)))))) := by kernel_rfl

theorem e6_0r (r n : Nat) (h : H) (x2 : Bool) : (blockK 0 (seqK (after P30 (ev30 r n) (jmp30 r n 6) (dead30 6) r 0 (pc [1, 1, 1] (bd Tryz.f6)) (outK (dead30 6) (key (pc [1, 1] (bd Tryz.f6))))) (outK (dead30 6) (key (pc [1, 1] (bd Tryz.f6)))))) .ret (E6_r (.bool x2)) h =
  some (Exit.ret, E6_r (Value.bool x2), h) := by kernel_rfl

theorem e6_8 (r n : Nat) (h : H) {R : Type} (x1 : Nat) (x38 : Option Addr) (x38n : Nat) (x38s : Nat) (x39 : Int) (x40 : Int) (nx : Env → H → Option R) (K : Exit → Env → H → Option R) : evCode P30 (ev30 r n) (jmp30 r n 6) (dead30 6) r 2 (pc [1, 1, 1, 0, 1, 0, 0] (bd Tryz.f6)) (E6_8 (.pointer (some ⟨x1, 0, none⟩)) (.slice x38 x38n x38s) (.int .i64 x39) (.int .i64 x40)) h (loopK nx (dead30 6 (4 * 2)) (dead30 6 (4 * 2 + 2)) (dead30 6 1000002) K) =
  bif decide (x40 < x39) then
    indexAddrA P30 23 (Value.slice x38 x38n x38s) (Value.int IntKind.i64 x40) fun v0 =>
      addrK v0 fun o1 o2 =>
        optK (ldV P30 60 o1 o2 h) fun v3 =>
          castA v3 fun cs4 =>
            ifK (cellsOf P30 60 = some (Value.agg cs4).cells.size)
              (optK
                (stCells
                  (h.new
                    (Blk.cells
                      [Value.string (txt []), Value.int IntKind.i64 0, Value.int IntKind.i64 0, Value.int IntKind.i64 0, Value.int IntKind.i64 0, Value.int IntKind.i64 0,
                        Value.int IntKind.i64 0]
                      false))
                  h.1 0 (Value.agg cs4).cells.toList)
                fun h5 =>
                optK (ldV P30 9 h.1 0 h5) fun v6 =>
                  castS v6 fun s7 =>
                    bif decide ((↑s7.size : Int) > 100) then K Exit.ret (E6_r (Value.bool false)) h5
                    else nx (E6_8 (Value.pointer (some { block := x1, off := 0 })) (Value.slice x38 x38n x38s) (Value.int IntKind.i64 x39) (Value.int IntKind.i64 (IntKind.i64.wrap (x40 + 1)))) h5)
  else K (Exit.exit 2) (E6_2 (Value.pointer (some { block := x1, off := 0 }))) h := by kernel_rfl

theorem e6_8x2 (r n : Nat) (h : H) (x1 : Nat) : (blockK 2 (seqK (after P30 (ev30 r n) (jmp30 r n 6) (dead30 6) r 0 (pc [1, 1, 1, 1] (bd Tryz.f6)) (outK (dead30 6) (key (pc [1, 1] (bd Tryz.f6))))) (outK (dead30 6) (key (pc [1, 1] (bd Tryz.f6)))))) (.exit 2) (E6_2 (.pointer (some ⟨x1, 0, none⟩))) h =
  optK (ldV P30 24 x1 2 h) fun v0 =>
    castSl v0 fun a1 o2 o3 =>
      evLoop (evCode P30 (ev30 r n) (jmp30 r n 6) (dead30 6) r 4 (pc [1, 1, 1, 1, 0, 1, 0, 0] (bd Tryz.f6))) (dead30 6 (4 * 4)) (dead30 6 (4 * 4 + 2)) (dead30 6 1000002) r
        (E6_16 (Value.slice a1 o2 o3) (Value.int IntKind.i64 (↑o2 : Int)) (Value.int IntKind.i64 0)) h
        (blockK 4
          (seqK (after P30 (ev30 r n) (jmp30 r n 6) (dead30 6) r 0 (pc [1, 1, 1, 1, 1] (bd Tryz.f6)) (outK (dead30 6) (key (pc [1, 1] (bd Tryz.f6))))) (outK (dead30 6) (key (pc [1, 1] (bd Tryz.f6)))))) := by kernel_rfl

theorem e6_8r (r n : Nat) (h : H) (x2 : Bool) : (blockK 2 (seqK (after P30 (ev30 r n) (jmp30 r n 6) (dead30 6) r 0 (pc [1, 1, 1, 1] (bd Tryz.f6)) (outK (dead30 6) (key (pc [1, 1] (bd Tryz.f6))))) (outK (dead30 6) (key (pc [1, 1] (bd Tryz.f6)))))) .ret (E6_r (.bool x2)) h =
  some (Exit.ret, E6_r (Value.bool x2), h) := by kernel_rfl

theorem e6_16 (r n : Nat) (h : H) {R : Type} (x50 : Option Addr) (x50n : Nat) (x50s : Nat) (x51 : Int) (x52 : Int) (nx : Env → H → Option R) (K : Exit → Env → H → Option R) : evCode P30 (ev30 r n) (jmp30 r n 6) (dead30 6) r 4 (pc [1, 1, 1, 1, 0, 1, 0, 0] (bd Tryz.f6)) (E6_16 (.slice x50 x50n x50s) (.int .i64 x51) (.int .i64 x52)) h (loopK nx (dead30 6 (4 * 4)) (dead30 6 (4 * 4 + 2)) (dead30 6 1000002) K) =
  bif decide (x52 < x51) then
    indexAddrA P30 24 (Value.slice x50 x50n x50s) (Value.int IntKind.i64 x52) fun v0 =>
      addrK v0 fun o1 o2 =>
        optK (ldV P30 62 o1 o2 h) fun v3 =>
          castA v3 fun cs4 =>
            ifK (cellsOf P30 62 = some (Value.agg cs4).cells.size)
              (optK
                (stCells (h.new (Blk.cells [Value.string (txt []), Value.int IntKind.i64 0, Value.int IntKind.i64 0, Value.int IntKind.i64 0, Value.bool false] false)) h.1 0
                  (Value.agg cs4).cells.toList)
                fun h5 =>
                optK (ldV P30 9 h.1 0 h5) fun v6 =>
                  castS v6 fun s7 =>
                    bif decide ((↑s7.size : Int) > 100) then K Exit.ret (E6_r (Value.bool false)) h5
                    else nx (E6_16 (Value.slice x50 x50n x50s) (Value.int IntKind.i64 x51) (Value.int IntKind.i64 (IntKind.i64.wrap (x52 + 1)))) h5)
  else K (Exit.exit 4) E6_18 h := by kernel_rfl

theorem e6_16x4 (r n : Nat) (h : H) : (blockK 4 (seqK (after P30 (ev30 r n) (jmp30 r n 6) (dead30 6) r 0 (pc [1, 1, 1, 1, 1] (bd Tryz.f6)) (outK (dead30 6) (key (pc [1, 1] (bd Tryz.f6))))) (outK (dead30 6) (key (pc [1, 1] (bd Tryz.f6)))))) (.exit 4) (E6_18) h =
  some (Exit.ret, E6_r (Value.bool true), h) := by kernel_rfl

theorem e6_16r (r n : Nat) (h : H) (x2 : Bool) : (blockK 4 (seqK (after P30 (ev30 r n) (jmp30 r n 6) (dead30 6) r 0 (pc [1, 1, 1, 1, 1] (bd Tryz.f6)) (outK (dead30 6) (key (pc [1, 1] (bd Tryz.f6))))) (outK (dead30 6) (key (pc [1, 1] (bd Tryz.f6)))))) .ret (E6_r (.bool x2)) h =
  some (Exit.ret, E6_r (Value.bool x2), h) := by kernel_rfl

theorem e7 (r n : Nat) (h : H) (a0_0 : Int) (a0_1 : Bool) (a0_2 : Option Addr) (a0_2n : Nat) (a0_2s : Nat) (a0_3 : Option Addr) (a0_3n : Nat) (a0_3s : Nat) (a0_4 : Option Addr) (a0_4n : Nat) (a0_4s : Nat) (a0_5 : Option Addr) (a0_5n : Nat) (a0_5s : Nat) (a0_6 : Option Addr) (a0_6n : Nat) (a0_6s : Nat) : ev30 r (n + 1) 7 [.agg #[.int .i64 a0_0, .bool a0_1, .slice a0_2 a0_2n a0_2s, .slice a0_3 a0_3n a0_3s, .slice a0_4 a0_4n a0_4s, .slice a0_5 a0_5n a0_5s, .slice a0_6 a0_6n a0_6s]] h =
  jumpK
    (jmp30 r n 7 0 (pc [1] (bd Tryz.f7)) (E7_2 (Value.pointer (some { block := h.1, off := 0 })))
      (h.new
        (Blk.cells
          [Value.int IntKind.i64 a0_0, Value.bool a0_1, Value.slice a0_2 a0_2n a0_2s, Value.slice a0_3 a0_3n a0_3s, Value.slice a0_4 a0_4n a0_4s, Value.slice a0_5 a0_5n a0_5s,
            Value.slice a0_6 a0_6n a0_6s]
          false)))
    (finK P30 [ResultVar.tmp 2]) := by kernel_rfl

theorem e7_3c (r n : Nat) (h : H) (x1 : Nat) : jmp30 r (n + 1) 7 0 (pc [1] (bd Tryz.f7)) (E7_2 (.pointer (some ⟨x1, 0, none⟩))) h =
  optK (ldV P30 27 x1 2 h) fun v0 =>
    castSl v0 fun a1 o2 o3 =>
      evLoop (evCode P30 (ev30 r n) (jmp30 r n 7) (dead30 7) r 0 (pc [1, 0, 1, 0, 0] (bd Tryz.f7))) (dead30 7 (4 * 0)) (dead30 7 (4 * 0 + 2))
        (dead30 7 1000002) r (E7_0 (Value.pointer (some { block := x1, off := 0 })) (Value.slice a1 o2 o3) (Value.int IntKind.i64 (↑o2 : Int)) (Value.int IntKind.i64 0)) h
        (blockK 0
          (seqK (after P30 (ev30 r n) (jmp30 r n 7) (dead30 7) r 0 (pc [1, 1] (bd Tryz.f7)) (outK (dead30 7) (key (pc [1] (bd Tryz.f7)))))
            (outK (dead30 7) (key (pc [1] (bd Tryz.f7)))))) := by kernel_rfl

theorem e7_3r (h : H) (x2 : Bool) : (finK P30 [.tmp 2]) .ret (E7_r (.bool x2)) h =
  some (Value.bool x2, h) := by kernel_rfl

theorem e7_0 (r n : Nat) (h : H) {R : Type} (x1 : Nat) (x6 : Option Addr) (x6n : Nat) (x6s : Nat) (x7 : Int) (x8 : Int) (nx : Env → H → Option R) (K : Exit → Env → H → Option R) : evCode P30 (ev30 r n) (jmp30 r n 7) (dead30 7) r 0 (pc [1, 0, 1, 0, 0] (bd Tryz.f7)) (E7_0 (.pointer (some ⟨x1, 0, none⟩)) (.slice x6 x6n x6s) (.int .i64 x7) (.int .i64 x8)) h (loopK nx (dead30 7 (4 * 0)) (dead30 7 (4 * 0 + 2)) (dead30 7 1000002) K) =
  bif decide (x8 < x7) then
    indexAddrA P30 27 (Value.slice x6 x6n x6s) (Value.int IntKind.i64 x8) fun v0 =>
      addrK v0 fun o1 o2 =>
        optK (ldV P30 65 o1 o2 h) fun v3 =>
          castA v3 fun cs4 =>
            ifK (cellsOf P30 65 = some (Value.agg cs4).cells.size)
              (optK
                (stCells
                  (h.new
                    (Blk.cells
                      [Value.string (txt []), Value.string (txt []), Value.string (txt []), Value.int IntKind.i64 0, Value.int IntKind.i64 0,
                        Value.int IntKind.i64 0, Value.int IntKind.i64 0, Value.int IntKind.i64 0, Value.int IntKind.i64 0, Value.int IntKind.i64 0, Value.int IntKind.i64 0, Value.int IntKind.i64 0,
                        Value.int IntKind.i64 0, Value.int IntKind.i64 0, Value.int IntKind.i64 0, Value.int IntKind.i64 0, Value.slice none 0 0]
                      false))
                  h.1 0 (Value.agg cs4).cells.toList)
                fun h5 =>
                optK (ldV P30 63 h.1 16 h5) fun v6 =>
                  castSl v6 fun _ o8 _ =>
                    bif decide ((↑o8 : Int) > 60) then K Exit.ret (E7_r (Value.bool false)) h5
                    else
                      optK (ldV P30 9 h.1 1 h5) fun v10 =>
                        castS v10 fun s11 =>
                          bif decide ((↑s11.size : Int) > 100) then K Exit.ret (E7_r (Value.bool false)) h5
                          else
                            optK (ldV P30 9 h.1 0 h5) fun v12 =>
                              castS v12 fun s13 =>
                                bif decide ((↑s13.size : Int) > 100) then K Exit.ret (E7_r (Value.bool false)) h5
                                else
                                  optK (ldV P30 9 h.1 2 h5) fun v14 =>
                                    castS v14 fun s15 =>
                                      bif decide ((↑s15.size : Int) > 100) then K Exit.ret (E7_r (Value.bool false)) h5
                                      else
                                        nx (E7_0 (Value.pointer (some { block := x1, off := 0 })) (Value.slice x6 x6n x6s) (Value.int IntKind.i64 x7) (Value.int IntKind.i64 (IntKind.i64.wrap (x8 + 1))))
                                          h5)
  else K (Exit.exit 0) (E7_2 (Value.pointer (some { block := x1, off := 0 }))) h := by kernel_rfl

theorem e7_0x0 (r n : Nat) (h : H) (x1 : Nat) : (blockK 0 (seqK (after P30 (ev30 r n) (jmp30 r n 7) (dead30 7) r 0 (pc [1, 1] (bd Tryz.f7)) (outK (dead30 7) (key (pc [1] (bd Tryz.f7))))) (outK (dead30 7) (key (pc [1] (bd Tryz.f7)))))) (.exit 0) (E7_2 (.pointer (some ⟨x1, 0, none⟩))) h =
  optK (ldV P30 27 x1 2 h) fun v0 =>
    castSl v0 fun _ o2 _ =>
      bif decide ((↑o2 : Int) ≤ 40) then
        optK (ldV P30 28 x1 3 h) fun v4 =>
          castSl v4 fun _ o6 _ =>
            bif decide ((↑o6 : Int) ≤ 60) then
              optK (ldV P30 28 x1 4 h) fun v8 =>
                castSl v8 fun _ o10 _ =>
                  bif decide ((↑o10 : Int) ≤ 60) then
                    optK (ldV P30 28 x1 5 h) fun v12 =>
                      castSl v12 fun _ o14 _ =>
                        bif decide ((↑o14 : Int) ≤ 60) then optK (ldV P30 28 x1 6 h) fun v16 => castSl v16 fun _ o18 _ => some (Exit.ret, E7_r (Value.bool (decide ((↑o18 : Int) ≤ 60))), h)
                        else some (Exit.ret, E7_r (Value.bool false), h)
                  else some (Exit.ret, E7_r (Value.bool false), h)
            else some (Exit.ret, E7_r (Value.bool false), h)
      else some (Exit.ret, E7_r (Value.bool false), h) := by kernel_rfl

theorem e7_0r (r n : Nat) (h : H) (x2 : Bool) : (blockK 0 (seqK (after P30 (ev30 r n) (jmp30 r n 7) (dead30 7) r 0 (pc [1, 1] (bd Tryz.f7)) (outK (dead30 7) (key (pc [1] (bd Tryz.f7))))) (outK (dead30 7) (key (pc [1] (bd Tryz.f7)))))) .ret (E7_r (.bool x2)) h =
  some (Exit.ret, E7_r (Value.bool x2), h) := by kernel_rfl

theorem e8 (r n : Nat) (h : H) (a0_0 : Option Addr) (a0_0n : Nat) (a0_0s : Nat) (a0_1 : Option Addr) (a0_1n : Nat) (a0_1s : Nat) (a0_2 : Option Addr) (a0_2n : Nat) (a0_2s : Nat) (a0_3 : Int) (a0_4 : Int) (a0_5 : Int) (a0_6 : Int) (a0_7 : Int) (a0_8 : Int) (a1_0 : Int) (a1_1 : Bool) (a1_2 : Option Addr) (a1_2n : Nat) (a1_2s : Nat) (a1_3 : Option Addr) (a1_3n : Nat) (a1_3s : Nat) (a1_4 : Option Addr) (a1_4n : Nat) (a1_4s : Nat) (a1_5 : Option Addr) (a1_5n : Nat) (a1_5s : Nat) (a1_6 : Option Addr) (a1_6n : Nat) (a1_6s : Nat) : ev30 r (n + 1) 8 [.agg #[.slice a0_0 a0_0n a0_0s, .slice a0_1 a0_1n a0_1s, .slice a0_2 a0_2n a0_2s, .int .i64 a0_3, .int .i64 a0_4, .int .i64 a0_5, .int .i64 a0_6, .int .i64 a0_7, .int .i64 a0_8], .agg #[.int .i64 a1_0, .bool a1_1, .slice a1_2 a1_2n a1_2s, .slice a1_3 a1_3n a1_3s, .slice a1_4 a1_4n a1_4s, .slice a1_5 a1_5n a1_5s, .slice a1_6 a1_6n a1_6s]] h =
  jumpK
    (jmp30 r n 8 0 (pc [1] (bd Tryz.f8)) (E8_3 (Value.pointer (some { block := h.1, off := 0 })) (Value.pointer (some { block := h.1 + 1, off := 0 })))
      ((h.new
            (Blk.cells
              [Value.slice a0_0 a0_0n a0_0s, Value.slice a0_1 a0_1n a0_1s, Value.slice a0_2 a0_2n a0_2s, Value.int IntKind.i64 a0_3, Value.int IntKind.i64 a0_4, Value.int IntKind.i64 a0_5,
                Value.int IntKind.i64 a0_6, Value.int IntKind.i64 a0_7, Value.int IntKind.i64 a0_8]
              false)).new
        (Blk.cells
          [Value.int IntKind.i64 a1_0, Value.bool a1_1, Value.slice a1_2 a1_2n a1_2s, Value.slice a1_3 a1_3n a1_3s, Value.slice a1_4 a1_4n a1_4s, Value.slice a1_5 a1_5n a1_5s,
            Value.slice a1_6 a1_6n a1_6s]
          false)))
    (finK P30 [ResultVar.tmp 4]) := by kernel_rfl

theorem e8_3c (r n : Nat) (h : H) (x2 : Nat) (x3 : Nat) : jmp30 r (n + 1) 8 0 (pc [1] (bd Tryz.f8)) (E8_3 (.pointer (some ⟨x2, 0, none⟩)) (.pointer (some ⟨x3, 0, none⟩))) h =
  optK (ldV P30 26 x2 0 h) fun v0 =>
    castA v0 fun cs1 =>
      optK (ldV P30 30 x3 0 h) fun v2 =>
        castA v2 fun cs3 =>
          optK
            (pureSem P30
              ((fun p =>
                  ((fun p =>
                          (Sem.pure p).bind fun __do_lift =>
                            match __do_lift.underlying 68 with
                            | some d => pure d
                            | none => stuck "no such type")
                        p).bind
                    fun __do_lift =>
                    match __do_lift with
                    | TypeDesc.struct fields => do
                      let places ←
                        Array.mapM
                            (fun f => do
                              let __do_lift ← sizeOf f.type
                              pure (f.offset, __do_lift))
                            fields
                      match
                          Instr.fill (fun x => places[x]?)
                            (Value.agg
                                #[Value.slice none 0 0, Value.slice none 0 0, Value.slice none 0 0, Value.int IntKind.i64 0, Value.int IntKind.i64 0, Value.int IntKind.i64 0, Value.int IntKind.i64 0,
                                  Value.int IntKind.i64 0, Value.int IntKind.i64 0, Value.int IntKind.i64 0, Value.bool false, Value.slice none 0 0, Value.slice none 0 0, Value.slice none 0 0,
                                  Value.slice none 0 0, Value.slice none 0 0]).cells
                            #[(0, Value.agg cs1), (1, Value.agg cs3)].toList with
                        | some cells => pure (Value.agg cells)
                        | x => stuck "build: no such field, or a part of the wrong size"
                    | TypeDesc.array len elem => do
                      let size ← sizeOf elem
                      match
                          Instr.fill (fun i => some (i * size, size))
                            (Value.agg
                                #[Value.slice none 0 0, Value.slice none 0 0, Value.slice none 0 0, Value.int IntKind.i64 0, Value.int IntKind.i64 0, Value.int IntKind.i64 0, Value.int IntKind.i64 0,
                                  Value.int IntKind.i64 0, Value.int IntKind.i64 0, Value.int IntKind.i64 0, Value.bool false, Value.slice none 0 0, Value.slice none 0 0, Value.slice none 0 0,
                                  Value.slice none 0 0, Value.slice none 0 0]).cells
                            #[(0, Value.agg cs1), (1, Value.agg cs3)].toList with
                        | some cells => pure (Value.agg cells)
                        | x => stuck "build: a part of the wrong size"
                    | x => stuck "build: struct or array type expected")
                P30))
            fun v4 =>
            callK (ev30 r n) 19 [v4, Value.slice (some { block := h.1, off := 0 }) 8 1]
              (h.new
                (Blk.cells
                  [Value.func (Fn.func 20) { toList := [] } { toList := [] }, Value.func (Fn.func 21) { toList := [] } { toList := [] }, Value.func (Fn.func 22) { toList := [] } { toList := [] },
                    Value.func (Fn.func 23) { toList := [] } { toList := [] }, Value.func (Fn.func 24) { toList := [] } { toList := [] }, Value.func (Fn.func 25) { toList := [] } { toList := [] },
                    Value.func (Fn.func 26) { toList := [] } { toList := [] }, Value.func (Fn.func 27) { toList := [] } { toList := [] }]
                  false))
              fun v5 h6 => castI IntKind.i64 v5 fun n7 => some (Exit.ret, E8_r (Value.int IntKind.i64 n7), h6) := by kernel_rfl

theorem e8_3r (h : H) (x4 : Int) : (finK P30 [.tmp 4]) .ret (E8_r (.int .i64 x4)) h =
  some (Value.int IntKind.i64 x4, h) := by kernel_rfl

theorem e9 (r n : Nat) (h : H) (a0_0 : Option Addr) (a0_0n : Nat) (a0_0s : Nat) (a0_1 : Option Addr) (a0_1n : Nat) (a0_1s : Nat) (a0_2 : Option Addr) (a0_2n : Nat) (a0_2s : Nat) (a0_3 : Int) (a0_4 : Int) (a0_5 : Int) (a0_6 : Int) (a0_7 : Int) (a0_8 : Int) (a1_0 : Int) (a1_1 : Bool) (a1_2 : Option Addr) (a1_2n : Nat) (a1_2s : Nat) (a1_3 : Option Addr) (a1_3n : Nat) (a1_3s : Nat) (a1_4 : Option Addr) (a1_4n : Nat) (a1_4s : Nat) (a1_5 : Option Addr) (a1_5n : Nat) (a1_5s : Nat) (a1_6 : Option Addr) (a1_6n : Nat) (a1_6s : Nat) : ev30 r (n + 1) 9 [.agg #[.slice a0_0 a0_0n a0_0s, .slice a0_1 a0_1n a0_1s, .slice a0_2 a0_2n a0_2s, .int .i64 a0_3, .int .i64 a0_4, .int .i64 a0_5, .int .i64 a0_6, .int .i64 a0_7, .int .i64 a0_8], .agg #[.int .i64 a1_0, .bool a1_1, .slice a1_2 a1_2n a1_2s, .slice a1_3 a1_3n a1_3s, .slice a1_4 a1_4n a1_4s, .slice a1_5 a1_5n a1_5s, .slice a1_6 a1_6n a1_6s]] h =
  jumpK
    (jmp30 r n 9 0 (pc [1] (bd Tryz.f9)) (E9_2 (Value.pointer (some { block := h.1, off := 0 })) (Value.pointer (some { block := h.1 + 1, off := 0 })))
      ((h.new
            (Blk.cells
              [Value.slice a0_0 a0_0n a0_0s, Value.slice a0_1 a0_1n a0_1s, Value.slice a0_2 a0_2n a0_2s, Value.int IntKind.i64 a0_3, Value.int IntKind.i64 a0_4, Value.int IntKind.i64 a0_5,
                Value.int IntKind.i64 a0_6, Value.int IntKind.i64 a0_7, Value.int IntKind.i64 a0_8]
              false)).new
        (Blk.cells
          [Value.int IntKind.i64 a1_0, Value.bool a1_1, Value.slice a1_2 a1_2n a1_2s, Value.slice a1_3 a1_3n a1_3s, Value.slice a1_4 a1_4n a1_4s, Value.slice a1_5 a1_5n a1_5s,
            Value.slice a1_6 a1_6n a1_6s]
          false)))
    (finK P30 [ResultVar.tmp 4]) := by kernel_rfl

theorem e9_3c (r n : Nat) (h : H) (x2 : Nat) (x3 : Nat) : jmp30 r (n + 1) 9 0 (pc [1] (bd Tryz.f9)) (E9_2 (.pointer (some ⟨x2, 0, none⟩)) (.pointer (some ⟨x3, 0, none⟩))) h =
  optK (ldV P30 40 x2 0 h) fun v0 =>
    castA v0 fun cs1 =>
      optK (ldV P30 44 x3 0 h) fun v2 =>
        castA v2 fun cs3 =>
          callK (ev30 r n) 28 [Value.agg cs1, Value.agg cs3] h fun v4 h5 =>
            castV v4 fun b6 =>
              bif !b6 then some (Exit.ret, E9_r (Value.int IntKind.i64 1), h5)
              else
                evLoop (evCode P30 (ev30 r n) (jmp30 r n 9) (dead30 9) r 0 (pc [1, 1, 0, 1, 0, 0] (bd Tryz.f9))) (dead30 9 (4 * 0)) (dead30 9 (4 * 0 + 2))
                  (dead30 9 1000002) r (E9_0 (Value.pointer (some { block := x2, off := 0 })) (Value.pointer (some { block := x3, off := 0 })) (Value.int IntKind.i64 2)) h5
                  (blockK 0
                    (seqK (after P30 (ev30 r n) (jmp30 r n 9) (dead30 9) r 0 (pc [1, 1, 1] (bd Tryz.f9)) (outK (dead30 9) (key (pc [1] (bd Tryz.f9)))))
                      (outK (dead30 9) (key (pc [1] (bd Tryz.f9)))))) := by kernel_rfl

theorem e9_3r (h : H) (x4 : Int) : (finK P30 [.tmp 4]) .ret (E9_r (.int .i64 x4)) h =
  some (Value.int IntKind.i64 x4, h) := by kernel_rfl

theorem e9_0 (r n : Nat) (h : H) {R : Type} (x2 : Nat) (x3 : Nat) (x5 : Int) (nx : Env → H → Option R) (K : Exit → Env → H → Option R) : evCode P30 (ev30 r n) (jmp30 r n 9) (dead30 9) r 0 (pc [1, 1, 0, 1, 0, 0] (bd Tryz.f9)) (E9_0 (.pointer (some ⟨x2, 0, none⟩)) (.pointer (some ⟨x3, 0, none⟩)) (.int .i64 x5)) h (loopK nx (dead30 9 (4 * 0)) (dead30 9 (4 * 0 + 2)) (dead30 9 1000002) K) =
  bif decide (x5 < 8) then
    evLoop (evCode P30 (ev30 r n) (jmp30 r n 9) (dead30 9) r 2 (pc [1, 1, 0, 1, 0, 0, 1, 0, 0, 1, 0, 0] (bd Tryz.f9))) (dead30 9 (4 * 2)) (dead30 9 (4 * 2 + 2)) (dead30 9 1000002) r
      (E9_8 (Value.pointer (some { block := x2, off := 0 })) (Value.pointer (some { block := x3, off := 0 })) (Value.int IntKind.i64 x5) (Value.int IntKind.i64 0)) h
      (blockK 2
        (blockK 1
          (seqK (after P30 (ev30 r n) (jmp30 r n 9) (dead30 9) r 0 (pc [1, 1, 0, 1, 0, 0, 1, 1] (bd Tryz.f9)) (loopK nx (dead30 9 (4 * 0)) (dead30 9 (4 * 0 + 2)) (dead30 9 1000002) K))
            (loopK nx (dead30 9 (4 * 0)) (dead30 9 (4 * 0 + 2)) (dead30 9 1000002) K))))
  else K (Exit.exit 0) (E9_2 (Value.pointer (some { block := x2, off := 0 })) (Value.pointer (some { block := x3, off := 0 }))) h := by kernel_rfl

theorem e9_0x0 (r n : Nat) (h : H) (x2 : Nat) (x3 : Nat) : (blockK 0 (seqK (after P30 (ev30 r n) (jmp30 r n 9) (dead30 9) r 0 (pc [1, 1, 1] (bd Tryz.f9)) (outK (dead30 9) (key (pc [1] (bd Tryz.f9))))) (outK (dead30 9) (key (pc [1] (bd Tryz.f9)))))) (.exit 0) (E9_2 (.pointer (some ⟨x2, 0, none⟩)) (.pointer (some ⟨x3, 0, none⟩))) h =
  evLoop (evCode P30 (ev30 r n) (jmp30 r n 9) (dead30 9) r 4 (pc [1, 1, 1, 0, 1, 0, 0] (bd Tryz.f9))) (dead30 9 (4 * 4)) (dead30 9 (4 * 4 + 2)) (dead30 9 1000002) r
    (E9_16 (Value.pointer (some { block := x2, off := 0 })) (Value.pointer (some { block := x3, off := 0 })) (Value.int IntKind.i64 0)) h
    (blockK 4 (seqK (after P30 (ev30 r n) (jmp30 r n 9) (dead30 9) r 0 (pc [1, 1, 1, 1] (bd Tryz.f9)) (outK (dead30 9) (key (pc [1] (bd Tryz.f9))))) (outK (dead30 9) (key (pc [1] (bd Tryz.f9)))))) := by kernel_rfl

theorem e9_0r (r n : Nat) (h : H) (x4 : Int) : (blockK 0 (seqK (after P30 (ev30 r n) (jmp30 r n 9) (dead30 9) r 0 (pc [1, 1, 1] (bd Tryz.f9)) (outK (dead30 9) (key (pc [1] (bd Tryz.f9))))) (outK (dead30 9) (key (pc [1] (bd Tryz.f9)))))) .ret (E9_r (.int .i64 x4)) h =
  some (Exit.ret, E9_r (Value.int IntKind.i64 x4), h) := by kernel_rfl

theorem e9_8 (r n : Nat) (h : H) {R : Type} (x2 : Nat) (x3 : Nat) (x5 : Int) (x6 : Int) (nx : Env → H → Option R) (K : Exit → Env → H → Option R) : evCode P30 (ev30 r n) (jmp30 r n 9) (dead30 9) r 2 (pc [1, 1, 0, 1, 0, 0, 1, 0, 0, 1, 0, 0] (bd Tryz.f9)) (E9_8 (.pointer (some ⟨x2, 0, none⟩)) (.pointer (some ⟨x3, 0, none⟩)) (.int .i64 x5) (.int .i64 x6)) h (loopK nx (dead30 9 (4 * 2)) (dead30 9 (4 * 2 + 2)) (dead30 9 1000002) K) =
  optK (ldV P30 42 x3 2 h) fun v0 =>
    castSl v0 fun _ o2 _ =>
      bif decide (x6 < (↑o2 : Int)) then
        optK (ldV P30 40 x2 0 h) fun v4 =>
          castA v4 fun cs5 =>
            optK (ldV P30 42 x3 2 h) fun v6 =>
              castSl v6 fun a7 o8 o9 =>
                indexAddrA P30 42 (Value.slice a7 o8 o9) (Value.int IntKind.i64 x6) fun v10 =>
                  addrK v10 fun o11 o12 =>
                    optK (ldV P30 75 o11 o12 h) fun v13 =>
                      castA v13 fun cs14 =>
                        optK (ldV P30 28 x3 5 h) fun v15 =>
                          castSl v15 fun a16 o17 o18 =>
                            indexAddrA P30 28 (Value.slice a16 o17 o18) (Value.int IntKind.i64 x6) fun v19 =>
                              addrK v19 fun o20 o21 =>
                                optK (ldV P30 3 o20 o21 h) fun v22 =>
                                  castI IntKind.i64 v22 fun n23 =>
                                    callK (ev30 r n) 29 [Value.agg cs5, Value.agg cs14, Value.int IntKind.i64 n23, Value.int IntKind.i64 x5] h fun v24 h25 =>
                                      castV v24 fun b26 =>
                                        bif !b26 then K Exit.ret (E9_r (Value.int IntKind.i64 x5)) h25
                                        else
                                          nx
                                            (E9_8 (Value.pointer (some { block := x2, off := 0 })) (Value.pointer (some { block := x3, off := 0 })) (Value.int IntKind.i64 x5)
                                              (Value.int IntKind.i64 (IntKind.i64.wrap (x6 + 1))))
                                            h25
      else K (Exit.exit 2) (E9_0 (Value.pointer (some { block := x2, off := 0 })) (Value.pointer (some { block := x3, off := 0 })) (Value.int IntKind.i64 x5)) h := by kernel_rfl

theorem e9_8x2 (r n : Nat) (h : H) {R : Type} (x2 : Nat) (x3 : Nat) (x5 : Int) (nx : Env → H → Option R) (K : Exit → Env → H → Option R) : (blockK 2 (blockK 1 (seqK (after P30 (ev30 r n) (jmp30 r n 9) (dead30 9) r 0 (pc [1, 1, 0, 1, 0, 0, 1, 1] (bd Tryz.f9)) (loopK nx (dead30 9 (4 * 0)) (dead30 9 (4 * 0 + 2)) (dead30 9 1000002) K)) (loopK nx (dead30 9 (4 * 0)) (dead30 9 (4 * 0 + 2)) (dead30 9 1000002) K)))) (.exit 2) (E9_0 (.pointer (some ⟨x2, 0, none⟩)) (.pointer (some ⟨x3, 0, none⟩)) (.int .i64 x5)) h =
  nx (E9_0 (Value.pointer (some { block := x2, off := 0 })) (Value.pointer (some { block := x3, off := 0 })) (Value.int IntKind.i64 (IntKind.i64.wrap (x5 + 1)))) h := by kernel_rfl

theorem e9_8r (r n : Nat) (h : H) {R : Type} (x4 : Int) (nx : Env → H → Option R) (K : Exit → Env → H → Option R) : (blockK 2 (blockK 1 (seqK (after P30 (ev30 r n) (jmp30 r n 9) (dead30 9) r 0 (pc [1, 1, 0, 1, 0, 0, 1, 1] (bd Tryz.f9)) (loopK nx (dead30 9 (4 * 0)) (dead30 9 (4 * 0 + 2)) (dead30 9 1000002) K)) (loopK nx (dead30 9 (4 * 0)) (dead30 9 (4 * 0 + 2)) (dead30 9 1000002) K)))) .ret (E9_r (.int .i64 x4)) h =
  K Exit.ret (E9_r (Value.int IntKind.i64 x4)) h := by kernel_rfl

theorem e9_16 (r n : Nat) (h : H) {R : Type} (x2 : Nat) (x3 : Nat) (x7 : Int) (nx : Env → H → Option R) (K : Exit → Env → H → Option R) : evCode P30 (ev30 r n) (jmp30 r n 9) (dead30 9) r 4 (pc [1, 1, 1, 0, 1, 0, 0] (bd Tryz.f9)) (E9_16 (.pointer (some ⟨x2, 0, none⟩)) (.pointer (some ⟨x3, 0, none⟩)) (.int .i64 x7)) h (loopK nx (dead30 9 (4 * 4)) (dead30 9 (4 * 4 + 2)) (dead30 9 1000002) K) =
  optK (ldV P30 36 x2 0 h) fun v0 =>
    castSl v0 fun _ o2 _ =>
      bif decide (x7 < (↑o2 : Int)) then
        optK (ldV P30 40 x2 0 h) fun v4 =>
          castA v4 fun cs5 =>
            optK (ldV P30 44 x3 0 h) fun v6 =>
              castA v6 fun cs7 =>
                callK (ev30 r n) 30 [Value.agg cs5, Value.agg cs7, Value.int IntKind.i64 x7] h fun v8 h9 =>
                  castV v8 fun b10 =>
                    bif !b10 then K Exit.ret (E9_r (Value.int IntKind.i64 8)) h9
                    else nx (E9_16 (Value.pointer (some { block := x2, off := 0 })) (Value.pointer (some { block := x3, off := 0 })) (Value.int IntKind.i64 (IntKind.i64.wrap (x7 + 1)))) h9
      else K (Exit.exit 4) E9_18 h := by kernel_rfl

theorem e9_16x4 (r n : Nat) (h : H) : (blockK 4 (seqK (after P30 (ev30 r n) (jmp30 r n 9) (dead30 9) r 0 (pc [1, 1, 1, 1] (bd Tryz.f9)) (outK (dead30 9) (key (pc [1] (bd Tryz.f9))))) (outK (dead30 9) (key (pc [1] (bd Tryz.f9)))))) (.exit 4) (E9_18) h =
  some (Exit.ret, E9_r (Value.int IntKind.i64 0), h) := by kernel_rfl

theorem e9_16r (r n : Nat) (h : H) (x4 : Int) : (blockK 4 (seqK (after P30 (ev30 r n) (jmp30 r n 9) (dead30 9) r 0 (pc [1, 1, 1, 1] (bd Tryz.f9)) (outK (dead30 9) (key (pc [1] (bd Tryz.f9))))) (outK (dead30 9) (key (pc [1] (bd Tryz.f9)))))) .ret (E9_r (.int .i64 x4)) h =
  some (Exit.ret, E9_r (Value.int IntKind.i64 x4), h) := by kernel_rfl

theorem e10 (r n : Nat) (h : H) (a0_0 : Option Addr) (a0_0n : Nat) (a0_0s : Nat) (a0_1 : Option Addr) (a0_1n : Nat) (a0_1s : Nat) (a0_2 : Option Addr) (a0_2n : Nat) (a0_2s : Nat) (a0_3 : Int) (a0_4 : Int) (a0_5 : Int) (a0_6 : Int) (a0_7 : Int) (a0_8 : Int) : ev30 r (n + 1) 10 [.agg #[.slice a0_0 a0_0n a0_0s, .slice a0_1 a0_1n a0_1s, .slice a0_2 a0_2n a0_2s, .int .i64 a0_3, .int .i64 a0_4, .int .i64 a0_5, .int .i64 a0_6, .int .i64 a0_7, .int .i64 a0_8]] h =
  jumpK
    (jmp30 r n 10 0 (pc [1] (bd Tryz.f10)) (E10_3 (Value.pointer (some { block := h.1, off := 0 })) (Value.pointer (some { block := h.1 + 1, off := 0 })))
      ((h.new
            (Blk.cells
              [Value.slice a0_0 a0_0n a0_0s, Value.slice a0_1 a0_1n a0_1s, Value.slice a0_2 a0_2n a0_2s, Value.int IntKind.i64 a0_3, Value.int IntKind.i64 a0_4, Value.int IntKind.i64 a0_5,
                Value.int IntKind.i64 a0_6, Value.int IntKind.i64 a0_7, Value.int IntKind.i64 a0_8]
              false)).new
        (Blk.cells
          [Value.slice none 0 0, Value.slice none 0 0, Value.slice none 0 0, Value.int IntKind.i64 0, Value.int IntKind.i64 0, Value.int IntKind.i64 0, Value.int IntKind.i64 0, Value.int IntKind.i64 0,
            Value.int IntKind.i64 0]
          false)))
    (finK P30 [ResultVar.cell 2 40]) := by kernel_rfl

theorem e10_3c (r n : Nat) (h : H) (x1 : Nat) (x2 : Nat) : jmp30 r (n + 1) 10 0 (pc [1] (bd Tryz.f10)) (E10_3 (.pointer (some ⟨x1, 0, none⟩)) (.pointer (some ⟨x2, 0, none⟩))) h =
  optK (ldV P30 3 x1 3 h) fun v0 =>
    castI IntKind.i64 v0 fun n1 =>
      optK (ldV P30 3 x1 4 h) fun v2 =>
        castI IntKind.i64 v2 fun n3 =>
          optK (ldV P30 3 x1 5 h) fun v4 =>
            castI IntKind.i64 v4 fun n5 =>
              optK (ldV P30 3 x1 6 h) fun v6 =>
                castI IntKind.i64 v6 fun n7 =>
                  optK (ldV P30 3 x1 7 h) fun v8 =>
                    castI IntKind.i64 v8 fun n9 =>
                      optK (ldV P30 3 x1 8 h) fun v10 =>
                        castI IntKind.i64 v10 fun n11 =>
                          optK
                            (stCells
                              (h.new
                                (Blk.cells
                                  [Value.slice none 0 0, Value.slice none 0 0, Value.slice none 0 0, Value.int IntKind.i64 0, Value.int IntKind.i64 0, Value.int IntKind.i64 0, Value.int IntKind.i64 0,
                                    Value.int IntKind.i64 0, Value.int IntKind.i64 0]
                                  false))
                              h.1 0
                              [Value.slice none 0 0, Value.slice none 0 0, Value.slice none 0 0, Value.int IntKind.i64 n1, Value.int IntKind.i64 n3, Value.int IntKind.i64 n5, Value.int IntKind.i64 n7,
                                Value.int IntKind.i64 n9, Value.int IntKind.i64 n11])
                            fun h12 =>
                            optK (ldV P30 22 x1 0 h12) fun v13 =>
                              castSl v13 fun a14 o15 o16 =>
                                evLoop (evCode P30 (ev30 r n) (jmp30 r n 10) (dead30 10) r 0 (pc [1, 1, 0, 1, 0, 0] (bd Tryz.f10))) (dead30 10 (4 * 0))
                                  (dead30 10 (4 * 0 + 2)) (dead30 10 1000002) r
                                  (E10_0 (Value.pointer (some { block := x1, off := 0 })) (Value.pointer (some { block := x2, off := 0 })) (Value.pointer (some { block := h.1, off := 0 }))
                                    (Value.slice a14 o15 o16) (Value.int IntKind.i64 (↑o15 : Int)) (Value.int IntKind.i64 0))
                                  h12
                                  (blockK 0
                                    (seqK
                                      (after P30 (ev30 r n) (jmp30 r n 10) (dead30 10) r 0 (pc [1, 1, 1] (bd Tryz.f10))
                                        (outK (dead30 10) (key (pc [1] (bd Tryz.f10)))))
                                      (outK (dead30 10) (key (pc [1] (bd Tryz.f10)))))) := by kernel_rfl

theorem e10_3r (h : H) (x2 : Nat) : (finK P30 [.cell 2 40]) .ret (E10_r (.pointer (some ⟨x2, 0, none⟩))) h =
  optK (ldV P30 40 x2 0 h) fun v0 => some (v0, h) := by kernel_rfl

theorem e10_0 (r n : Nat) (h : H) {R : Type} (x1 : Nat) (x2 : Nat) (x3 : Nat) (x24 : Option Addr) (x24n : Nat) (x24s : Nat) (x25 : Int) (x26 : Int) (nx : Env → H → Option R) (K : Exit → Env → H → Option R) : evCode P30 (ev30 r n) (jmp30 r n 10) (dead30 10) r 0 (pc [1, 1, 0, 1, 0, 0] (bd Tryz.f10)) (E10_0 (.pointer (some ⟨x1, 0, none⟩)) (.pointer (some ⟨x2, 0, none⟩)) (.pointer (some ⟨x3, 0, none⟩)) (.slice x24 x24n x24s) (.int .i64 x25) (.int .i64 x26)) h (loopK nx (dead30 10 (4 * 0)) (dead30 10 (4 * 0 + 2)) (dead30 10 1000002) K) =
  bif decide (x26 < x25) then
    indexAddrA P30 22 (Value.slice x24 x24n x24s) (Value.int IntKind.i64 x26) fun v0 =>
      addrK v0 fun o1 o2 =>
        optK (ldV P30 58 o1 o2 h) fun v3 =>
          castA v3 fun cs4 =>
            ifK (cellsOf P30 58 = some (Value.agg cs4).cells.size)
              (optK (stCells (h.new (Blk.cells [Value.string (txt []), Value.int IntKind.i64 0] false)) h.1 0 (Value.agg cs4).cells.toList) fun h5 =>
                optK (ldV P30 36 x3 0 h5) fun v6 =>
                  castSl v6 fun a7 o8 o9 =>
                    optK (ldV P30 58 h.1 0 h5) fun v10 =>
                      castA v10 fun cs11 =>
                        ifK ((Value.agg cs11).cells.size = 2)
                          (appendA P30 { toList := [36, 36] } (Value.slice a7 o8 o9) (Value.slice (some { block := h5.1, off := 0 }) 1 2) (h5.new (Blk.cells (Value.agg cs11).cells.toList false))
                            fun v12 h13 =>
                            castSl v12 fun a14 o15 o16 =>
                              optK (stCells h13 x3 0 [Value.slice a14 o15 o16]) fun h17 =>
                                nx
                                  (E10_0 (Value.pointer (some { block := x1, off := 0 })) (Value.pointer (some { block := x2, off := 0 })) (Value.pointer (some { block := x3, off := 0 }))
                                    (Value.slice x24 x24n x24s) (Value.int IntKind.i64 x25) (Value.int IntKind.i64 (IntKind.i64.wrap (x26 + 1))))
                                  h17))
  else K (Exit.exit 0) (E10_2 (Value.pointer (some { block := x1, off := 0 })) (Value.pointer (some { block := x2, off := 0 })) (Value.pointer (some { block := x3, off := 0 }))) h := by kernel_rfl

theorem e10_0x0 (r n : Nat) (h : H) (x1 : Nat) (x2 : Nat) (x3 : Nat) : (blockK 0 (seqK (after P30 (ev30 r n) (jmp30 r n 10) (dead30 10) r 0 (pc [1, 1, 1] (bd Tryz.f10)) (outK (dead30 10) (key (pc [1] (bd Tryz.f10))))) (outK (dead30 10) (key (pc [1] (bd Tryz.f10)))))) (.exit 0) (E10_2 (.pointer (some ⟨x1, 0, none⟩)) (.pointer (some ⟨x2, 0, none⟩)) (.pointer (some ⟨x3, 0, none⟩))) h =
  optK (ldV P30 23 x1 1 h) fun v0 =>
    castSl v0 fun a1 o2 o3 =>
      evLoop (evCode P30 (ev30 r n) (jmp30 r n 10) (dead30 10) r 2 (pc [1, 1, 1, 0, 1, 0, 0] (bd Tryz.f10))) (dead30 10 (4 * 2)) (dead30 10 (4 * 2 + 2)) (dead30 10 1000002) r
        (E10_8 (Value.pointer (some { block := x1, off := 0 })) (Value.pointer (some { block := x2, off := 0 })) (Value.pointer (some { block := x3, off := 0 })) (Value.slice a1 o2 o3)
          (Value.int IntKind.i64 (↑o2 : Int)) (Value.int IntKind.i64 0))
        h
        (blockK 2
          (seqK (after P30 (ev30 r n) (jmp30 r n 10) (dead30 10) r 0 (pc [1, 1, 1, 1] (bd Tryz.f10)) (outK (dead30 10) (key (pc [1] (bd Tryz.f10))))) (outK (dead30 10) (key (pc [1] (bd Tryz.f10)))))) := by kernel_rfl

theorem e10_8 (r n : Nat) (h : H) {R : Type} (x1 : Nat) (x2 : Nat) (x3 : Nat) (x38 : Option Addr) (x38n : Nat) (x38s : Nat) (x39 : Int) (x40 : Int) (nx : Env → H → Option R) (K : Exit → Env → H → Option R) : evCode P30 (ev30 r n) (jmp30 r n 10) (dead30 10) r 2 (pc [1, 1, 1, 0, 1, 0, 0] (bd Tryz.f10)) (E10_8 (.pointer (some ⟨x1, 0, none⟩)) (.pointer (some ⟨x2, 0, none⟩)) (.pointer (some ⟨x3, 0, none⟩)) (.slice x38 x38n x38s) (.int .i64 x39) (.int .i64 x40)) h (loopK nx (dead30 10 (4 * 2)) (dead30 10 (4 * 2 + 2)) (dead30 10 1000002) K) =
  bif decide (x40 < x39) then
    indexAddrA P30 23 (Value.slice x38 x38n x38s) (Value.int IntKind.i64 x40) fun v0 =>
      addrK v0 fun o1 o2 =>
        optK (ldV P30 60 o1 o2 h) fun v3 =>
          castA v3 fun cs4 =>
            ifK (cellsOf P30 60 = some (Value.agg cs4).cells.size)
              (optK
                (stCells
                  (h.new
                    (Blk.cells
                      [Value.string (txt []), Value.int IntKind.i64 0, Value.int IntKind.i64 0, Value.int IntKind.i64 0, Value.int IntKind.i64 0, Value.int IntKind.i64 0,
                        Value.int IntKind.i64 0]
                      false))
                  h.1 0 (Value.agg cs4).cells.toList)
                fun h5 =>
                optK (ldV P30 37 x3 1 h5) fun v6 =>
                  castSl v6 fun a7 o8 o9 =>
                    optK (ldV P30 60 h.1 0 h5) fun v10 =>
                      castA v10 fun cs11 =>
                        ifK ((Value.agg cs11).cells.size = 7)
                          (appendA P30 { toList := [37, 37] } (Value.slice a7 o8 o9) (Value.slice (some { block := h5.1, off := 0 }) 1 7) (h5.new (Blk.cells (Value.agg cs11).cells.toList false))
                            fun v12 h13 =>
                            castSl v12 fun a14 o15 o16 =>
                              optK (stCells h13 x3 1 [Value.slice a14 o15 o16]) fun h17 =>
                                nx
                                  (E10_8 (Value.pointer (some { block := x1, off := 0 })) (Value.pointer (some { block := x2, off := 0 })) (Value.pointer (some { block := x3, off := 0 }))
                                    (Value.slice x38 x38n x38s) (Value.int IntKind.i64 x39) (Value.int IntKind.i64 (IntKind.i64.wrap (x40 + 1))))
                                  h17))
  else K (Exit.exit 2) (E10_2 (Value.pointer (some { block := x1, off := 0 })) (Value.pointer (some { block := x2, off := 0 })) (Value.pointer (some { block := x3, off := 0 }))) h := by kernel_rfl

theorem e10_8x2 (r n : Nat) (h : H) (x1 : Nat) (x2 : Nat) (x3 : Nat) : (blockK 2 (seqK (after P30 (ev30 r n) (jmp30 r n 10) (dead30 10) r 0 (pc [1, 1, 1, 1] (bd Tryz.f10)) (outK (dead30 10) (key (pc [1] (bd Tryz.f10))))) (outK (dead30 10) (key (pc [1] (bd Tryz.f10)))))) (.exit 2) (E10_2 (.pointer (some ⟨x1, 0, none⟩)) (.pointer (some ⟨x2, 0, none⟩)) (.pointer (some ⟨x3, 0, none⟩))) h =
  optK (ldV P30 24 x1 2 h) fun v0 =>
    castSl v0 fun a1 o2 o3 =>
      evLoop (evCode P30 (ev30 r n) (jmp30 r n 10) (dead30 10) r 4 (pc [1, 1, 1, 1, 0, 1, 0, 0] (bd Tryz.f10))) (dead30 10 (4 * 4)) (dead30 10 (4 * 4 + 2)) (dead30 10 1000002) r
        (E10_16 (Value.pointer (some { block := x2, off := 0 })) (Value.pointer (some { block := x3, off := 0 })) (Value.slice a1 o2 o3) (Value.int IntKind.i64 (↑o2 : Int)) (Value.int IntKind.i64 0)) h
        (blockK 4
          (seqK (after P30 (ev30 r n) (jmp30 r n 10) (dead30 10) r 0 (pc [1, 1, 1, 1, 1] (bd Tryz.f10)) (outK (dead30 10) (key (pc [1] (bd Tryz.f10))))) (outK (dead30 10) (key (pc [1] (bd Tryz.f10)))))) := by kernel_rfl

theorem e10_16 (r n : Nat) (h : H) {R : Type} (x2 : Nat) (x3 : Nat) (x52 : Option Addr) (x52n : Nat) (x52s : Nat) (x53 : Int) (x54 : Int) (nx : Env → H → Option R) (K : Exit → Env → H → Option R) : evCode P30 (ev30 r n) (jmp30 r n 10) (dead30 10) r 4 (pc [1, 1, 1, 1, 0, 1, 0, 0] (bd Tryz.f10)) (E10_16 (.pointer (some ⟨x2, 0, none⟩)) (.pointer (some ⟨x3, 0, none⟩)) (.slice x52 x52n x52s) (.int .i64 x53) (.int .i64 x54)) h (loopK nx (dead30 10 (4 * 4)) (dead30 10 (4 * 4 + 2)) (dead30 10 1000002) K) =
  bif decide (x54 < x53) then
    indexAddrA P30 24 (Value.slice x52 x52n x52s) (Value.int IntKind.i64 x54) fun v0 =>
      addrK v0 fun o1 o2 =>
        optK (ldV P30 62 o1 o2 h) fun v3 =>
          castA v3 fun cs4 =>
            ifK (cellsOf P30 62 = some (Value.agg cs4).cells.size)
              (optK
                (stCells (h.new (Blk.cells [Value.string (txt []), Value.int IntKind.i64 0, Value.int IntKind.i64 0, Value.int IntKind.i64 0, Value.bool false] false)) h.1 0
                  (Value.agg cs4).cells.toList)
                fun h5 =>
                optK (ldV P30 38 x3 2 h5) fun v6 =>
                  castSl v6 fun a7 o8 o9 =>
                    optK (ldV P30 62 h.1 0 h5) fun v10 =>
                      castA v10 fun cs11 =>
                        ifK ((Value.agg cs11).cells.size = 5)
                          (appendA P30 { toList := [38, 38] } (Value.slice a7 o8 o9) (Value.slice (some { block := h5.1, off := 0 }) 1 5) (h5.new (Blk.cells (Value.agg cs11).cells.toList false))
                            fun v12 h13 =>
                            castSl v12 fun a14 o15 o16 =>
                              optK (stCells h13 x3 2 [Value.slice a14 o15 o16]) fun h17 =>
                                nx
                                  (E10_16 (Value.pointer (some { block := x2, off := 0 })) (Value.pointer (some { block := x3, off := 0 })) (Value.slice x52 x52n x52s) (Value.int IntKind.i64 x53)
                                    (Value.int IntKind.i64 (IntKind.i64.wrap (x54 + 1))))
                                  h17))
  else K (Exit.exit 4) (E10_18 (Value.pointer (some { block := x2, off := 0 })) (Value.pointer (some { block := x3, off := 0 }))) h := by kernel_rfl

theorem e10_16x4 (r n : Nat) (h : H) (x2 : Nat) (x3 : Nat) : (blockK 4 (seqK (after P30 (ev30 r n) (jmp30 r n 10) (dead30 10) r 0 (pc [1, 1, 1, 1, 1] (bd Tryz.f10)) (outK (dead30 10) (key (pc [1] (bd Tryz.f10))))) (outK (dead30 10) (key (pc [1] (bd Tryz.f10)))))) (.exit 4) (E10_18 (.pointer (some ⟨x2, 0, none⟩)) (.pointer (some ⟨x3, 0, none⟩))) h =
  optK (ldV P30 40 x3 0 h) fun v0 =>
    castA v0 fun cs1 =>
      ifK (cellsOf P30 40 = some (Value.agg cs1).cells.size) (optK (stCells h x2 0 (Value.agg cs1).cells.toList) fun h2 => some (Exit.ret, E10_r (Value.pointer (some { block := x2, off := 0 })), h2)) := by kernel_rfl

theorem e11 (r n : Nat) (h : H) (a0_0 : Int) (a0_1 : Bool) (a0_2 : Option Addr) (a0_2n : Nat) (a0_2s : Nat) (a0_3 : Option Addr) (a0_3n : Nat) (a0_3s : Nat) (a0_4 : Option Addr) (a0_4n : Nat) (a0_4s : Nat) (a0_5 : Option Addr) (a0_5n : Nat) (a0_5s : Nat) (a0_6 : Option Addr) (a0_6n : Nat) (a0_6s : Nat) : ev30 r (n + 1) 11 [.agg #[.int .i64 a0_0, .bool a0_1, .slice a0_2 a0_2n a0_2s, .slice a0_3 a0_3n a0_3s, .slice a0_4 a0_4n a0_4s, .slice a0_5 a0_5n a0_5s, .slice a0_6 a0_6n a0_6s]] h =
  jumpK
    (jmp30 r n 11 0 (pc [1] (bd Tryz.f11)) (E11_3 (Value.pointer (some { block := h.1, off := 0 })) (Value.pointer (some { block := h.1 + 1, off := 0 })))
      ((h.new
            (Blk.cells
              [Value.int IntKind.i64 a0_0, Value.bool a0_1, Value.slice a0_2 a0_2n a0_2s, Value.slice a0_3 a0_3n a0_3s, Value.slice a0_4 a0_4n a0_4s, Value.slice a0_5 a0_5n a0_5s,
                Value.slice a0_6 a0_6n a0_6s]
              false)).new
        (Blk.cells [Value.int IntKind.i64 0, Value.bool false, Value.slice none 0 0, Value.slice none 0 0, Value.slice none 0 0, Value.slice none 0 0, Value.slice none 0 0] false)))
    (finK P30 [ResultVar.cell 2 44]) := by kernel_rfl

theorem e11_3c (r n : Nat) (h : H) (x1 : Nat) (x2 : Nat) : jmp30 r (n + 1) 11 0 (pc [1] (bd Tryz.f11)) (E11_3 (.pointer (some ⟨x1, 0, none⟩)) (.pointer (some ⟨x2, 0, none⟩))) h =
  optK (ldV P30 3 x1 0 h) fun v0 =>
    castI IntKind.i64 v0 fun n1 =>
      optK (ldV P30 4 x1 1 h) fun v2 =>
        castV v2 fun b3 =>
          optK (ldV P30 28 x1 3 h) fun v4 =>
            castSl v4 fun a5 o6 o7 =>
              optK (ldV P30 28 x1 4 h) fun v8 =>
                castSl v8 fun a9 o10 o11 =>
                  optK (ldV P30 28 x1 5 h) fun v12 =>
                    castSl v12 fun a13 o14 o15 =>
                      optK (ldV P30 28 x1 6 h) fun v16 =>
                        castSl v16 fun a17 o18 o19 =>
                          optK
                            (stCells
                              (h.new
                                (Blk.cells [Value.int IntKind.i64 0, Value.bool false, Value.slice none 0 0, Value.slice none 0 0, Value.slice none 0 0, Value.slice none 0 0, Value.slice none 0 0]
                                  false))
                              h.1 0 [Value.int IntKind.i64 n1, Value.bool b3, Value.slice none 0 0, Value.slice a5 o6 o7, Value.slice a9 o10 o11, Value.slice a13 o14 o15, Value.slice a17 o18 o19])
                            fun h20 =>
                            optK (ldV P30 27 x1 2 h20) fun v21 =>
                              castSl v21 fun a22 o23 o24 =>
                                evLoop (evCode P30 (ev30 r n) (jmp30 r n 11) (dead30 11) r 0 (pc [1, 1, 0, 1, 0, 0] (bd Tryz.f11))) (dead30 11 (4 * 0))
                                  (dead30 11 (4 * 0 + 2)) (dead30 11 1000002) r
                                  (E11_0 (Value.pointer (some { block := x2, off := 0 })) (Value.pointer (some { block := h.1, off := 0 })) (Value.slice a22 o23 o24) (Value.int IntKind.i64 (↑o23 : Int))
                                    (Value.int IntKind.i64 0))
                                  h20
                                  (blockK 0
                                    (seqK
                                      (after P30 (ev30 r n) (jmp30 r n 11) (dead30 11) r 0 (pc [1, 1, 1] (bd Tryz.f11))
                                        (outK (dead30 11) (key (pc [1] (bd Tryz.f11)))))
                                      (outK (dead30 11) (key (pc [1] (bd Tryz.f11)))))) := by kernel_rfl

theorem e11_3r (h : H) (x2 : Nat) : (finK P30 [.cell 2 44]) .ret (E11_r (.pointer (some ⟨x2, 0, none⟩))) h =
  optK (ldV P30 44 x2 0 h) fun v0 => some (v0, h) := by kernel_rfl

theorem e11_0 (r n : Nat) (h : H) {R : Type} (x2 : Nat) (x3 : Nat) (x23 : Option Addr) (x23n : Nat) (x23s : Nat) (x24 : Int) (x25 : Int) (nx : Env → H → Option R) (K : Exit → Env → H → Option R) : evCode P30 (ev30 r n) (jmp30 r n 11) (dead30 11) r 0 (pc [1, 1, 0, 1, 0, 0] (bd Tryz.f11)) (E11_0 (.pointer (some ⟨x2, 0, none⟩)) (.pointer (some ⟨x3, 0, none⟩)) (.slice x23 x23n x23s) (.int .i64 x24) (.int .i64 x25)) h (loopK nx (dead30 11 (4 * 0)) (dead30 11 (4 * 0 + 2)) (dead30 11 1000002) K) =
  bif decide (x25 < x24) then
    indexAddrA P30 27 (Value.slice x23 x23n x23s) (Value.int IntKind.i64 x25) fun v0 =>
      addrK v0 fun o1 o2 =>
        optK (ldV P30 65 o1 o2 h) fun v3 =>
          castA v3 fun cs4 =>
            ifK (cellsOf P30 65 = some (Value.agg cs4).cells.size)
              (optK
                (stCells
                  (h.new
                    (Blk.cells
                      [Value.string (txt []), Value.string (txt []), Value.string (txt []), Value.int IntKind.i64 0, Value.int IntKind.i64 0,
                        Value.int IntKind.i64 0, Value.int IntKind.i64 0, Value.int IntKind.i64 0, Value.int IntKind.i64 0, Value.int IntKind.i64 0, Value.int IntKind.i64 0, Value.int IntKind.i64 0,
                        Value.int IntKind.i64 0, Value.int IntKind.i64 0, Value.int IntKind.i64 0, Value.int IntKind.i64 0, Value.slice none 0 0]
                      false))
                  h.1 0 (Value.agg cs4).cells.toList)
                fun h5 =>
                optK (ldV P30 9 h.1 0 h5) fun v6 =>
                  castS v6 fun s7 =>
                    optK (ldV P30 9 h.1 1 h5) fun v8 =>
                      castS v8 fun s9 =>
                        optK (ldV P30 9 h.1 2 h5) fun v10 =>
                          castS v10 fun s11 =>
                            optK (ldV P30 3 h.1 3 h5) fun v12 =>
                              castI IntKind.i64 v12 fun n13 =>
                                optK (ldV P30 3 h.1 4 h5) fun v14 =>
                                  castI IntKind.i64 v14 fun n15 =>
                                    optK (ldV P30 3 h.1 5 h5) fun v16 =>
                                      castI IntKind.i64 v16 fun n17 =>
                                        optK (ldV P30 3 h.1 6 h5) fun v18 =>
                                          castI IntKind.i64 v18 fun n19 =>
                                            optK (ldV P30 3 h.1 7 h5) fun v20 =>
                                              castI IntKind.i64 v20 fun n21 =>
                                                optK (ldV P30 3 h.1 8 h5) fun v22 =>
                                                  castI IntKind.i64 v22 fun n23 =>
                                                    optK (ldV P30 3 h.1 9 h5) fun v24 =>
                                                      castI IntKind.i64 v24 fun n25 =>
                                                        optK (ldV P30 3 h.1 10 h5) fun v26 =>
                                                          castI IntKind.i64 v26 fun n27 =>
                                                            optK (ldV P30 3 h.1 11 h5) fun v28 =>
                                                              castI IntKind.i64 v28 fun n29 =>
                                                                optK (ldV P30 3 h.1 12 h5) fun v30 =>
                                                                  castI IntKind.i64 v30 fun n31 =>
                                                                    optK (ldV P30 3 h.1 13 h5) fun v32 =>
                                                                      castI IntKind.i64 v32 fun n33 =>
                                                                        optK (ldV P30 3 h.1 14 h5) fun v34 =>
                                                                          castI IntKind.i64 v34 fun n35 =>
                                                                            optK (ldV P30 3 h.1 15 h5) fun v36 =>
                                                                              castI IntKind.i64 v36 fun n37 =>
                                                                                optK
                                                                                  (stCells
                                                                                    (h5.new
                                                                                      (Blk.cells
                                                                                        [Value.string (txt []), Value.string (txt []),
                                                                                          Value.string (txt []), Value.int IntKind.i64 0, Value.int IntKind.i64 0,
                                                                                          Value.int IntKind.i64 0, Value.int IntKind.i64 0, Value.int IntKind.i64 0, Value.int IntKind.i64 0,
                                                                                          Value.int IntKind.i64 0, Value.int IntKind.i64 0, Value.int IntKind.i64 0, Value.int IntKind.i64 0,
                                                                                          Value.int IntKind.i64 0, Value.int IntKind.i64 0, Value.int IntKind.i64 0, Value.slice none 0 0]
                                                                                        false))
                                                                                    h5.1 0
                                                                                    [Value.string s7, Value.string s9, Value.string s11, Value.int IntKind.i64 n13, Value.int IntKind.i64 n15,
                                                                                      Value.int IntKind.i64 n17, Value.int IntKind.i64 n19, Value.int IntKind.i64 n21, Value.int IntKind.i64 n23,
                                                                                      Value.int IntKind.i64 n25, Value.int IntKind.i64 n27, Value.int IntKind.i64 n29, Value.int IntKind.i64 n31,
                                                                                      Value.int IntKind.i64 n33, Value.int IntKind.i64 n35, Value.int IntKind.i64 n37, Value.slice none 0 0])
                                                                                  fun h38 =>
                                                                                  optK (ldV P30 63 h.1 16 h38) fun v39 =>
                                                                                    castSl v39 fun a40 o41 o42 =>
                                                                                      evLoop
                                                                                        (evCode P30 (ev30 r n) (jmp30 r n 11) (dead30 11) r 2
                                                                                          (pc [1, 1, 0, 1, 0, 0, 1, 1, 0, 0, 1, 1, 0, 1, 0, 0] (bd Tryz.f11)))
                                                                                        (dead30 11 (4 * 2)) (dead30 11 (4 * 2 + 2)) (dead30 11 1000002) r
                                                                                        (E11_8 (Value.pointer (some { block := x2, off := 0 })) (Value.pointer (some { block := x3, off := 0 }))
                                                                                          (Value.pointer (some { block := h5.1, off := 0 })) (Value.slice x23 x23n x23s) (Value.int IntKind.i64 x24)
                                                                                          (Value.int IntKind.i64 x25) (Value.slice a40 o41 o42) (Value.int IntKind.i64 (↑o41 : Int))
                                                                                          (Value.int IntKind.i64 0))
                                                                                        h38
                                                                                        (blockK 2
                                                                                          (seqK
                                                                                            (after P30 (ev30 r n) (jmp30 r n 11) (dead30 11) r 1
                                                                                              (pc [1, 1, 0, 1, 0, 0, 1, 1, 0, 0, 1, 1, 1] (bd Tryz.f11))
                                                                                              (blockK 1
                                                                                                (seqK
                                                                                                  (after P30 (ev30 r n) (jmp30 r n 11) (dead30 11) r 0 (pc [1, 1, 0, 1, 0, 0, 1, 1, 1] (bd Tryz.f11))
                                                                                                    (loopK nx (dead30 11 (4 * 0)) (dead30 11 (4 * 0 + 2)) (dead30 11 1000002) K))
                                                                                                  (loopK nx (dead30 11 (4 * 0)) (dead30 11 (4 * 0 + 2)) (dead30 11 1000002) K))))
                                                                                            (blockK 1
                                                                                              (seqK
                                                                                                (after P30 (ev30 r n) (jmp30 r n 11) (dead30 11) r 0 (pc [1, 1, 0, 1, 0, 0, 1, 1, 1] (bd Tryz.f11))
                                                                                                  (loopK nx (dead30 11 (4 * 0)) (dead30 11 (4 * 0 + 2)) (dead30 11 1000002) K))
                                                                                                (loopK nx (dead30 11 (4 * 0)) (dead30 11 (4 * 0 + 2)) (dead30 11 1000002) K))))))
  else K (Exit.exit 0) (E11_2 (Value.pointer (some { block := x2, off := 0 })) (Value.pointer (some { block := x3, off := 0 }))) h := by kernel_rfl

theorem e11_0x0 (r n : Nat) (h : H) (x2 : Nat) (x3 : Nat) : (blockK 0 (seqK (after P30 (ev30 r n) (jmp30 r n 11) (dead30 11) r 0 (pc [1, 1, 1] (bd Tryz.f11)) (outK (dead30 11) (key (pc [1] (bd Tryz.f11))))) (outK (dead30 11) (key (pc [1] (bd Tryz.f11)))))) (.exit 0) (E11_2 (.pointer (some ⟨x2, 0, none⟩)) (.pointer (some ⟨x3, 0, none⟩))) h =
  optK (ldV P30 44 x3 0 h) fun v0 =>
    castA v0 fun cs1 =>
      ifK (cellsOf P30 44 = some (Value.agg cs1).cells.size) (optK (stCells h x2 0 (Value.agg cs1).cells.toList) fun h2 => some (Exit.ret, E11_r (Value.pointer (some { block := x2, off := 0 })), h2)) := by kernel_rfl

theorem e11_8 (r n : Nat) (h : H) {R : Type} (x2 : Nat) (x3 : Nat) (x6 : Nat) (x23 : Option Addr) (x23n : Nat) (x23s : Nat) (x24 : Int) (x25 : Int) (x63 : Option Addr) (x63n : Nat) (x63s : Nat) (x64 : Int) (x65 : Int) (nx : Env → H → Option R) (K : Exit → Env → H → Option R) : evCode P30 (ev30 r n) (jmp30 r n 11) (dead30 11) r 2 (pc [1, 1, 0, 1, 0, 0, 1, 1, 0, 0, 1, 1, 0, 1, 0, 0] (bd Tryz.f11)) (E11_8 (.pointer (some ⟨x2, 0, none⟩)) (.pointer (some ⟨x3, 0, none⟩)) (.pointer (some ⟨x6, 0, none⟩)) (.slice x23 x23n x23s) (.int .i64 x24) (.int .i64 x25) (.slice x63 x63n x63s) (.int .i64 x64) (.int .i64 x65)) h (loopK nx (dead30 11 (4 * 2)) (dead30 11 (4 * 2 + 2)) (dead30 11 1000002) K) =
  bif decide (x65 < x64) then
    indexAddrA P30 63 (Value.slice x63 x63n x63s) (Value.int IntKind.i64 x65) fun v0 =>
      addrK v0 fun o1 o2 =>
        optK (ldV P30 81 o1 o2 h) fun v3 =>
          castA v3 fun cs4 =>
            ifK (cellsOf P30 81 = some (Value.agg cs4).cells.size)
              (optK
                (stCells
                  (h.new
                    (Blk.cells
                      [Value.string (txt []), Value.string (txt []), Value.int IntKind.i64 0, Value.int IntKind.i64 0, Value.int IntKind.i64 0,
                        Value.int IntKind.i64 0, Value.int IntKind.i64 0, Value.int IntKind.i64 0, Value.int IntKind.i64 0, Value.int IntKind.i64 0]
                      false))
                  h.1 0 (Value.agg cs4).cells.toList)
                fun h5 =>
                optK (ldV P30 73 x6 16 h5) fun v6 =>
                  castSl v6 fun a7 o8 o9 =>
                    optK (ldV P30 81 h.1 0 h5) fun v10 =>
                      castA v10 fun cs11 =>
                        ifK ((Value.agg cs11).cells.size = 10)
                          (appendA P30 { toList := [73, 73] } (Value.slice a7 o8 o9) (Value.slice (some { block := h5.1, off := 0 }) 1 10) (h5.new (Blk.cells (Value.agg cs11).cells.toList false))
                            fun v12 h13 =>
                            castSl v12 fun a14 o15 o16 =>
                              optK (stCells h13 x6 16 [Value.slice a14 o15 o16]) fun h17 =>
                                nx
                                  (E11_8 (Value.pointer (some { block := x2, off := 0 })) (Value.pointer (some { block := x3, off := 0 })) (Value.pointer (some { block := x6, off := 0 }))
                                    (Value.slice x23 x23n x23s) (Value.int IntKind.i64 x24) (Value.int IntKind.i64 x25) (Value.slice x63 x63n x63s) (Value.int IntKind.i64 x64)
                                    (Value.int IntKind.i64 (IntKind.i64.wrap (x65 + 1))))
                                  h17))
  else
    K (Exit.exit 2)
      (E11_10 (Value.pointer (some { block := x2, off := 0 })) (Value.pointer (some { block := x3, off := 0 })) (Value.pointer (some { block := x6, off := 0 })) (Value.slice x23 x23n x23s)
        (Value.int IntKind.i64 x24) (Value.int IntKind.i64 x25))
      h := by kernel_rfl

theorem e11_8x2 (r n : Nat) (h : H) {R : Type} (x2 : Nat) (x3 : Nat) (x6 : Nat) (x23 : Option Addr) (x23n : Nat) (x23s : Nat) (x24 : Int) (x25 : Int) (nx : Env → H → Option R) (K : Exit → Env → H → Option R) : (blockK 2 (seqK (after P30 (ev30 r n) (jmp30 r n 11) (dead30 11) r 1 (pc [1, 1, 0, 1, 0, 0, 1, 1, 0, 0, 1, 1, 1] (bd Tryz.f11)) (blockK 1 (seqK (after P30 (ev30 r n) (jmp30 r n 11) (dead30 11) r 0 (pc [1, 1, 0, 1, 0, 0, 1, 1, 1] (bd Tryz.f11)) (loopK nx (dead30 11 (4 * 0)) (dead30 11 (4 * 0 + 2)) (dead30 11 1000002) K)) (loopK nx (dead30 11 (4 * 0)) (dead30 11 (4 * 0 + 2)) (dead30 11 1000002) K)))) (blockK 1 (seqK (after P30 (ev30 r n) (jmp30 r n 11) (dead30 11) r 0 (pc [1, 1, 0, 1, 0, 0, 1, 1, 1] (bd Tryz.f11)) (loopK nx (dead30 11 (4 * 0)) (dead30 11 (4 * 0 + 2)) (dead30 11 1000002) K)) (loopK nx (dead30 11 (4 * 0)) (dead30 11 (4 * 0 + 2)) (dead30 11 1000002) K))))) (.exit 2) (E11_10 (.pointer (some ⟨x2, 0, none⟩)) (.pointer (some ⟨x3, 0, none⟩)) (.pointer (some ⟨x6, 0, none⟩)) (.slice x23 x23n x23s) (.int .i64 x24) (.int .i64 x25)) h =
  optK (ldV P30 42 x3 2 h) fun v0 =>
    castSl v0 fun a1 o2 o3 =>
      optK (ldV P30 75 x6 0 h) fun v4 =>
        castA v4 fun cs5 =>
          ifK ((Value.agg cs5).cells.size = 17)
            (appendA P30 { toList := [42, 42] } (Value.slice a1 o2 o3) (Value.slice (some { block := h.1, off := 0 }) 1 17) (h.new (Blk.cells (Value.agg cs5).cells.toList false)) fun v6 h7 =>
              castSl v6 fun a8 o9 o10 =>
                optK (stCells h7 x3 2 [Value.slice a8 o9 o10]) fun h11 =>
                  nx
                    (E11_0 (Value.pointer (some { block := x2, off := 0 })) (Value.pointer (some { block := x3, off := 0 })) (Value.slice x23 x23n x23s) (Value.int IntKind.i64 x24)
                      (Value.int IntKind.i64 (IntKind.i64.wrap (x25 + 1))))
                    h11) := by kernel_rfl

theorem e12 (r n : Nat) (h : H) (a0 : Int) : ev30 r (n + 1) 12 [.int .i64 a0] h =
  bif decide (a0 < 0) then
    some
      (Value.string (txt []),
        h.new
          (Blk.cells
            [Value.string (txt []), Value.string (txt [115, 105, 122, 101]), Value.string (txt [112, 97, 114, 101, 110, 116]),
              Value.string (txt [99, 104, 105, 108, 100]), Value.string (txt [115, 117, 109]), Value.string (txt [109, 111, 115, 116]),
              Value.string (txt [100, 111, 110, 101]), Value.string (txt [110, 101, 101, 100]),
              Value.string (txt [97, 99, 99, 111, 117, 110, 116]), Value.string (txt [116, 105, 109, 101]),
              Value.string (txt [115, 116, 97, 121]), Value.string (txt [104, 101, 108, 100]), Value.string (txt [110, 101, 119])]
            false))
  else
    bif decide (a0 ≥ 13) then
      some
        (Value.string (txt []),
          h.new
            (Blk.cells
              [Value.string (txt []), Value.string (txt [115, 105, 122, 101]), Value.string (txt [112, 97, 114, 101, 110, 116]),
                Value.string (txt [99, 104, 105, 108, 100]), Value.string (txt [115, 117, 109]), Value.string (txt [109, 111, 115, 116]),
                Value.string (txt [100, 111, 110, 101]), Value.string (txt [110, 101, 101, 100]),
                Value.string (txt [97, 99, 99, 111, 117, 110, 116]), Value.string (txt [116, 105, 109, 101]),
                Value.string (txt [115, 116, 97, 121]), Value.string (txt [104, 101, 108, 100]), Value.string (txt [110, 101, 119])]
              false))
    else
      ifK (0 ≤ a0 ∧ a0 < 13)
        (optK
          (ldV P30 9 h.1 (0 + a0.toNat * 1)
            (h.new
              (Blk.cells
                [Value.string (txt []), Value.string (txt [115, 105, 122, 101]), Value.string (txt [112, 97, 114, 101, 110, 116]),
                  Value.string (txt [99, 104, 105, 108, 100]), Value.string (txt [115, 117, 109]), Value.string (txt [109, 111, 115, 116]),
                  Value.string (txt [100, 111, 110, 101]), Value.string (txt [110, 101, 101, 100]),
                  Value.string (txt [97, 99, 99, 111, 117, 110, 116]), Value.string (txt [116, 105, 109, 101]),
                  Value.string (txt [115, 116, 97, 121]), Value.string (txt [104, 101, 108, 100]), Value.string (txt [110, 101, 119])]
                false)))
          fun v0 =>
          castS v0 fun s1 =>
            some
              (Value.string s1,
                h.new
                  (Blk.cells
                    [Value.string (txt []), Value.string (txt [115, 105, 122, 101]), Value.string (txt [112, 97, 114, 101, 110, 116]),
                      Value.string (txt [99, 104, 105, 108, 100]), Value.string (txt [115, 117, 109]),
                      Value.string (txt [109, 111, 115, 116]), Value.string (txt [100, 111, 110, 101]),
                      Value.string (txt [110, 101, 101, 100]), Value.string (txt [97, 99, 99, 111, 117, 110, 116]),
                      Value.string (txt [116, 105, 109, 101]), Value.string (txt [115, 116, 97, 121]),
                      Value.string (txt [104, 101, 108, 100]), Value.string (txt [110, 101, 119])]
                    false))) := by kernel_rfl

theorem e13 (r n : Nat) (h : H) (a0 : Int) : ev30 r (n + 1) 13 [.int .i64 a0] h =
  bif decide (a0 < 0) then
    some
      (Value.string (txt []),
        h.new
          (Blk.cells
            [Value.string (txt []), Value.string (txt [115, 105, 122, 101]), Value.string (txt [112, 97, 114, 101, 110, 116]),
              Value.string (txt [99, 104, 105, 108, 100]), Value.string (txt [115, 117, 109]), Value.string (txt [109, 111, 115, 116]),
              Value.string (txt [100, 111, 110, 101]), Value.string (txt [110, 101, 101, 100]),
              Value.string (txt [97, 99, 99, 111, 117, 110, 116]), Value.string (txt [116, 105, 109, 101]),
              Value.string (txt [115, 116, 97, 121]), Value.string (txt [104, 101, 108, 100]), Value.string (txt [110, 101, 119])]
            false))
  else
    bif decide (a0 > 12) then
      some
        (Value.string (txt []),
          h.new
            (Blk.cells
              [Value.string (txt []), Value.string (txt [115, 105, 122, 101]), Value.string (txt [112, 97, 114, 101, 110, 116]),
                Value.string (txt [99, 104, 105, 108, 100]), Value.string (txt [115, 117, 109]), Value.string (txt [109, 111, 115, 116]),
                Value.string (txt [100, 111, 110, 101]), Value.string (txt [110, 101, 101, 100]),
                Value.string (txt [97, 99, 99, 111, 117, 110, 116]), Value.string (txt [116, 105, 109, 101]),
                Value.string (txt [115, 116, 97, 121]), Value.string (txt [104, 101, 108, 100]), Value.string (txt [110, 101, 119])]
              false))
    else
      ifK (0 ≤ a0 ∧ a0 < 13)
        (optK
          (ldV P30 9 h.1 (0 + a0.toNat * 1)
            (h.new
              (Blk.cells
                [Value.string (txt []), Value.string (txt [115, 105, 122, 101]), Value.string (txt [112, 97, 114, 101, 110, 116]),
                  Value.string (txt [99, 104, 105, 108, 100]), Value.string (txt [115, 117, 109]), Value.string (txt [109, 111, 115, 116]),
                  Value.string (txt [100, 111, 110, 101]), Value.string (txt [110, 101, 101, 100]),
                  Value.string (txt [97, 99, 99, 111, 117, 110, 116]), Value.string (txt [116, 105, 109, 101]),
                  Value.string (txt [115, 116, 97, 121]), Value.string (txt [104, 101, 108, 100]), Value.string (txt [110, 101, 119])]
                false)))
          fun v0 =>
          castS v0 fun s1 =>
            some
              (Value.string s1,
                h.new
                  (Blk.cells
                    [Value.string (txt []), Value.string (txt [115, 105, 122, 101]), Value.string (txt [112, 97, 114, 101, 110, 116]),
                      Value.string (txt [99, 104, 105, 108, 100]), Value.string (txt [115, 117, 109]),
                      Value.string (txt [109, 111, 115, 116]), Value.string (txt [100, 111, 110, 101]),
                      Value.string (txt [110, 101, 101, 100]), Value.string (txt [97, 99, 99, 111, 117, 110, 116]),
                      Value.string (txt [116, 105, 109, 101]), Value.string (txt [115, 116, 97, 121]),
                      Value.string (txt [104, 101, 108, 100]), Value.string (txt [110, 101, 119])]
                    false))) := by kernel_rfl

theorem e14 (r n : Nat) (h : H) (a0_0 : Option Addr) (a0_0n : Nat) (a0_0s : Nat) (a0_1 : Option Addr) (a0_1n : Nat) (a0_1s : Nat) (a0_2 : Option Addr) (a0_2n : Nat) (a0_2s : Nat) (a0_3 : Int) (a0_4 : Int) (a0_5 : Int) (a0_6 : Int) (a0_7 : Int) (a0_8 : Int) (a1_0 : Int) (a1_1 : Bool) (a1_2 : Option Addr) (a1_2n : Nat) (a1_2s : Nat) (a1_3 : Option Addr) (a1_3n : Nat) (a1_3s : Nat) (a1_4 : Option Addr) (a1_4n : Nat) (a1_4s : Nat) (a1_5 : Option Addr) (a1_5n : Nat) (a1_5s : Nat) (a1_6 : Option Addr) (a1_6n : Nat) (a1_6s : Nat) (a2_0 : Int) (a2_1 : Bool) (a2_2 : Option Addr) (a2_2n : Nat) (a2_2s : Nat) (a2_3 : Option Addr) (a2_3n : Nat) (a2_3s : Nat) (a2_4 : Option Addr) (a2_4n : Nat) (a2_4s : Nat) (a2_5 : Option Addr) (a2_5n : Nat) (a2_5s : Nat) (a2_6 : Option Addr) (a2_6n : Nat) (a2_6s : Nat) : ev30 r (n + 1) 14 [.agg #[.slice a0_0 a0_0n a0_0s, .slice a0_1 a0_1n a0_1s, .slice a0_2 a0_2n a0_2s, .int .i64 a0_3, .int .i64 a0_4, .int .i64 a0_5, .int .i64 a0_6, .int .i64 a0_7, .int .i64 a0_8], .agg #[.int .i64 a1_0, .bool a1_1, .slice a1_2 a1_2n a1_2s, .slice a1_3 a1_3n a1_3s, .slice a1_4 a1_4n a1_4s, .slice a1_5 a1_5n a1_5s, .slice a1_6 a1_6n a1_6s], .agg #[.int .i64 a2_0, .bool a2_1, .slice a2_2 a2_2n a2_2s, .slice a2_3 a2_3n a2_3s, .slice a2_4 a2_4n a2_4s, .slice a2_5 a2_5n a2_5s, .slice a2_6 a2_6n a2_6s]] h =
  jumpK
    (jmp30 r n 14 0 (pc [1] (bd Tryz.f14))
      (E14_3 (Value.pointer (some { block := h.1, off := 0 })) (Value.pointer (some { block := h.1 + 1, off := 0 })) (Value.pointer (some { block := h.1 + 1 + 1, off := 0 })))
      (((h.new
                (Blk.cells
                  [Value.slice a0_0 a0_0n a0_0s, Value.slice a0_1 a0_1n a0_1s, Value.slice a0_2 a0_2n a0_2s, Value.int IntKind.i64 a0_3, Value.int IntKind.i64 a0_4, Value.int IntKind.i64 a0_5,
                    Value.int IntKind.i64 a0_6, Value.int IntKind.i64 a0_7, Value.int IntKind.i64 a0_8]
                  false)).new
            (Blk.cells
              [Value.int IntKind.i64 a1_0, Value.bool a1_1, Value.slice a1_2 a1_2n a1_2s, Value.slice a1_3 a1_3n a1_3s, Value.slice a1_4 a1_4n a1_4s, Value.slice a1_5 a1_5n a1_5s,
                Value.slice a1_6 a1_6n a1_6s]
              false)).new
        (Blk.cells
          [Value.int IntKind.i64 a2_0, Value.bool a2_1, Value.slice a2_2 a2_2n a2_2s, Value.slice a2_3 a2_3n a2_3s, Value.slice a2_4 a2_4n a2_4s, Value.slice a2_5 a2_5n a2_5s,
            Value.slice a2_6 a2_6n a2_6s]
          false)))
    (finK P30 [ResultVar.tmp 6]) := by kernel_rfl

theorem e14_3c (r n : Nat) (h : H) (x3 : Nat) (x4 : Nat) (x5 : Nat) : jmp30 r (n + 1) 14 0 (pc [1] (bd Tryz.f14)) (E14_3 (.pointer (some ⟨x3, 0, none⟩)) (.pointer (some ⟨x4, 0, none⟩)) (.pointer (some ⟨x5, 0, none⟩))) h =
  optK (ldV P30 26 x3 0 h) fun v0 =>
    castA v0 fun cs1 =>
      optK (ldV P30 30 x4 0 h) fun v2 =>
        castA v2 fun cs3 =>
          callK (ev30 r n) 8 [Value.agg cs1, Value.agg cs3] h fun v4 h5 =>
            castI IntKind.i64 v4 fun n6 =>
              bif decide (n6 > 0) then some (Exit.ret, E14_r (Value.int IntKind.i64 n6), h5)
              else
                optK (ldV P30 26 x3 0 h5) fun v7 =>
                  castA v7 fun cs8 =>
                    optK (ldV P30 30 x5 0 h5) fun v9 =>
                      castA v9 fun cs10 =>
                        callK (ev30 r n) 8 [Value.agg cs8, Value.agg cs10] h5 fun v11 h12 =>
                          castI IntKind.i64 v11 fun n13 =>
                            bif decide (n13 > 0) then some (Exit.ret, E14_r (Value.int IntKind.i64 n13), h12)
                            else
                              optK (ldV P30 30 x4 0 h12) fun v14 =>
                                castA v14 fun cs15 =>
                                  optK (ldV P30 30 x5 0 h12) fun v16 =>
                                    castA v16 fun cs17 =>
                                      optK
                                        (pureSem P30
                                          ((fun p =>
                                              ((fun p =>
                                                      (Sem.pure p).bind fun __do_lift =>
                                                        match __do_lift.underlying 86 with
                                                        | some d => pure d
                                                        | none => stuck "no such type")
                                                    p).bind
                                                fun __do_lift =>
                                                match __do_lift with
                                                | TypeDesc.struct fields => do
                                                  let places ←
                                                    Array.mapM
                                                        (fun f => do
                                                          let __do_lift ← sizeOf f.type
                                                          pure (f.offset, __do_lift))
                                                        fields
                                                  match
                                                      Instr.fill (fun x => places[x]?)
                                                        (Value.agg
                                                            #[Value.int IntKind.i64 0, Value.bool false, Value.slice none 0 0, Value.slice none 0 0, Value.slice none 0 0, Value.slice none 0 0,
                                                              Value.slice none 0 0, Value.int IntKind.i64 0, Value.bool false, Value.slice none 0 0, Value.slice none 0 0, Value.slice none 0 0,
                                                              Value.slice none 0 0, Value.slice none 0 0]).cells
                                                        #[(0, Value.agg cs15), (1, Value.agg cs17)].toList with
                                                    | some cells => pure (Value.agg cells)
                                                    | x => stuck "build: no such field, or a part of the wrong size"
                                                | TypeDesc.array len elem => do
                                                  let size ← sizeOf elem
                                                  match
                                                      Instr.fill (fun i => some (i * size, size))
                                                        (Value.agg
                                                            #[Value.int IntKind.i64 0, Value.bool false, Value.slice none 0 0, Value.slice none 0 0, Value.slice none 0 0, Value.slice none 0 0,
                                                              Value.slice none 0 0, Value.int IntKind.i64 0, Value.bool false, Value.slice none 0 0, Value.slice none 0 0, Value.slice none 0 0,
                                                              Value.slice none 0 0, Value.slice none 0 0]).cells
                                                        #[(0, Value.agg cs15), (1, Value.agg cs17)].toList with
                                                    | some cells => pure (Value.agg cells)
                                                    | x => stuck "build: a part of the wrong size"
                                                | x => stuck "build: struct or array type expected")
                                            P30))
                                        fun v18 =>
                                        callK (ev30 r n) 31 [v18, Value.slice (some { block := h12.1, off := 0 }) 4 1]
                                          (h12.new
                                            (Blk.cells
                                              [Value.func (Fn.func 32) { toList := [] } { toList := [] }, Value.func (Fn.func 33) { toList := [] } { toList := [] },
                                                Value.func (Fn.func 34) { toList := [] } { toList := [] }, Value.func (Fn.func 35) { toList := [] } { toList := [] }]
                                              false))
                                          fun v19 h20 =>
                                          castI IntKind.i64 v19 fun n21 =>
                                            bif decide (n21 > 0) then some (Exit.ret, E14_r (Value.int IntKind.i64 (IntKind.i64.wrap (n21 + 8))), h20)
                                            else some (Exit.ret, E14_r (Value.int IntKind.i64 0), h20) := by kernel_rfl

theorem e14_3r (h : H) (x6 : Int) : (finK P30 [.tmp 6]) .ret (E14_r (.int .i64 x6)) h =
  some (Value.int IntKind.i64 x6, h) := by kernel_rfl

theorem e15 (r n : Nat) (h : H) (a0_0 : Option Addr) (a0_0n : Nat) (a0_0s : Nat) (a0_1 : Option Addr) (a0_1n : Nat) (a0_1s : Nat) (a0_2 : Option Addr) (a0_2n : Nat) (a0_2s : Nat) (a0_3 : Int) (a0_4 : Int) (a0_5 : Int) (a0_6 : Int) (a0_7 : Int) (a0_8 : Int) (a1_0 : Int) (a1_1 : Bool) (a1_2 : Option Addr) (a1_2n : Nat) (a1_2s : Nat) (a1_3 : Option Addr) (a1_3n : Nat) (a1_3s : Nat) (a1_4 : Option Addr) (a1_4n : Nat) (a1_4s : Nat) (a1_5 : Option Addr) (a1_5n : Nat) (a1_5s : Nat) (a1_6 : Option Addr) (a1_6n : Nat) (a1_6s : Nat) (a2_0 : Int) (a2_1 : Bool) (a2_2 : Option Addr) (a2_2n : Nat) (a2_2s : Nat) (a2_3 : Option Addr) (a2_3n : Nat) (a2_3s : Nat) (a2_4 : Option Addr) (a2_4n : Nat) (a2_4s : Nat) (a2_5 : Option Addr) (a2_5n : Nat) (a2_5s : Nat) (a2_6 : Option Addr) (a2_6n : Nat) (a2_6s : Nat) : ev30 r (n + 1) 15 [.agg #[.slice a0_0 a0_0n a0_0s, .slice a0_1 a0_1n a0_1s, .slice a0_2 a0_2n a0_2s, .int .i64 a0_3, .int .i64 a0_4, .int .i64 a0_5, .int .i64 a0_6, .int .i64 a0_7, .int .i64 a0_8], .agg #[.int .i64 a1_0, .bool a1_1, .slice a1_2 a1_2n a1_2s, .slice a1_3 a1_3n a1_3s, .slice a1_4 a1_4n a1_4s, .slice a1_5 a1_5n a1_5s, .slice a1_6 a1_6n a1_6s], .agg #[.int .i64 a2_0, .bool a2_1, .slice a2_2 a2_2n a2_2s, .slice a2_3 a2_3n a2_3s, .slice a2_4 a2_4n a2_4s, .slice a2_5 a2_5n a2_5s, .slice a2_6 a2_6n a2_6s]] h =
  jumpK
    (jmp30 r n 15 0 (pc [1] (bd Tryz.f15))
      (E15_3 (Value.pointer (some { block := h.1, off := 0 })) (Value.pointer (some { block := h.1 + 1, off := 0 })) (Value.pointer (some { block := h.1 + 1 + 1, off := 0 })))
      (((h.new
                (Blk.cells
                  [Value.slice a0_0 a0_0n a0_0s, Value.slice a0_1 a0_1n a0_1s, Value.slice a0_2 a0_2n a0_2s, Value.int IntKind.i64 a0_3, Value.int IntKind.i64 a0_4, Value.int IntKind.i64 a0_5,
                    Value.int IntKind.i64 a0_6, Value.int IntKind.i64 a0_7, Value.int IntKind.i64 a0_8]
                  false)).new
            (Blk.cells
              [Value.int IntKind.i64 a1_0, Value.bool a1_1, Value.slice a1_2 a1_2n a1_2s, Value.slice a1_3 a1_3n a1_3s, Value.slice a1_4 a1_4n a1_4s, Value.slice a1_5 a1_5n a1_5s,
                Value.slice a1_6 a1_6n a1_6s]
              false)).new
        (Blk.cells
          [Value.int IntKind.i64 a2_0, Value.bool a2_1, Value.slice a2_2 a2_2n a2_2s, Value.slice a2_3 a2_3n a2_3s, Value.slice a2_4 a2_4n a2_4s, Value.slice a2_5 a2_5n a2_5s,
            Value.slice a2_6 a2_6n a2_6s]
          false)))
    (finK P30 [ResultVar.tmp 6]) := by kernel_rfl

theorem e15_3c (r n : Nat) (h : H) (x3 : Nat) (x4 : Nat) (x5 : Nat) : jmp30 r (n + 1) 15 0 (pc [1] (bd Tryz.f15)) (E15_3 (.pointer (some ⟨x3, 0, none⟩)) (.pointer (some ⟨x4, 0, none⟩)) (.pointer (some ⟨x5, 0, none⟩))) h =
  optK (ldV P30 40 x3 0 h) fun v0 =>
    castA v0 fun cs1 =>
      optK (ldV P30 44 x4 0 h) fun v2 =>
        castA v2 fun cs3 =>
          callK (ev30 r n) 9 [Value.agg cs1, Value.agg cs3] h fun v4 h5 =>
            castI IntKind.i64 v4 fun n6 =>
              bif n6 == 0 then
                optK (ldV P30 40 x3 0 h5) fun v7 =>
                  castA v7 fun cs8 =>
                    optK (ldV P30 44 x5 0 h5) fun v9 =>
                      castA v9 fun cs10 =>
                        callK (ev30 r n) 9 [Value.agg cs8, Value.agg cs10] h5 fun v11 h12 =>
                          castI IntKind.i64 v11 fun n13 =>
                            jumpK
                              (jmp30 r n 15 0 (pc [1, 1, 1] (bd Tryz.f15))
                                (E15_9 (Value.pointer (some { block := x4, off := 0 })) (Value.pointer (some { block := x5, off := 0 })) (Value.int IntKind.i64 n13)) h12)
                              (outK (dead30 15) (key (pc [1] (bd Tryz.f15))))
              else
                jumpK
                  (jmp30 r n 15 0 (pc [1, 1, 1] (bd Tryz.f15))
                    (E15_9 (Value.pointer (some { block := x4, off := 0 })) (Value.pointer (some { block := x5, off := 0 })) (Value.int IntKind.i64 n6)) h5)
                  (outK (dead30 15) (key (pc [1] (bd Tryz.f15)))) := by kernel_rfl

theorem e15_3r (h : H) (x6 : Int) : (finK P30 [.tmp 6]) .ret (E15_r (.int .i64 x6)) h =
  some (Value.int IntKind.i64 x6, h) := by kernel_rfl

theorem e15_9c (r n : Nat) (h : H) (x4 : Nat) (x5 : Nat) (x7 : Int) : jmp30 r (n + 1) 15 0 (pc [1, 1, 1] (bd Tryz.f15)) (E15_9 (.pointer (some ⟨x4, 0, none⟩)) (.pointer (some ⟨x5, 0, none⟩)) (.int .i64 x7)) h =
  bif decide (x7 > 0) then some (Exit.ret, E15_r (Value.int IntKind.i64 x7), h)
  else
    optK (ldV P30 3 x5 0 h) fun v0 =>
      castI IntKind.i64 v0 fun n1 =>
        optK (ldV P30 3 x4 0 h) fun v2 =>
          castI IntKind.i64 v2 fun n3 =>
            bif decide (n1 < n3) then some (Exit.ret, E15_r (Value.int IntKind.i64 9), h)
            else
              evLoop (evCode P30 (ev30 r n) (jmp30 r n 15) (dead30 15) r 0 (pc [1, 1, 1, 1, 1, 0, 1, 0, 0] (bd Tryz.f15))) (dead30 15 (4 * 0))
                (dead30 15 (4 * 0 + 2)) (dead30 15 1000002) r (E15_0 (Value.pointer (some { block := x4, off := 0 })) (Value.pointer (some { block := x5, off := 0 })) (Value.int IntKind.i64 0)) h
                (blockK 0
                  (seqK
                    (after P30 (ev30 r n) (jmp30 r n 15) (dead30 15) r 0 (pc [1, 1, 1, 1, 1, 1] (bd Tryz.f15))
                      (outK (dead30 15) (key (pc [1, 1, 1] (bd Tryz.f15)))))
                    (outK (dead30 15) (key (pc [1, 1, 1] (bd Tryz.f15)))))) := by kernel_rfl

theorem e15_9r (h : H) (x6 : Int) : (outK (dead30 15) (key (pc [1] (bd Tryz.f15)))) .ret (E15_r (.int .i64 x6)) h =
  some (Exit.ret, E15_r (Value.int IntKind.i64 x6), h) := by kernel_rfl

theorem e15_0 (r n : Nat) (h : H) {R : Type} (x4 : Nat) (x5 : Nat) (x8 : Int) (nx : Env → H → Option R) (K : Exit → Env → H → Option R) : evCode P30 (ev30 r n) (jmp30 r n 15) (dead30 15) r 0 (pc [1, 1, 1, 1, 1, 0, 1, 0, 0] (bd Tryz.f15)) (E15_0 (.pointer (some ⟨x4, 0, none⟩)) (.pointer (some ⟨x5, 0, none⟩)) (.int .i64 x8)) h (loopK nx (dead30 15 (4 * 0)) (dead30 15 (4 * 0 + 2)) (dead30 15 1000002) K) =
  optK (ldV P30 28 x4 6 h) fun v0 =>
    castSl v0 fun _ o2 _ =>
      bif decide (x8 < (↑o2 : Int)) then
        optK (ldV P30 28 x5 6 h) fun v4 =>
          castSl v4 fun a5 o6 o7 =>
            indexAddrA P30 28 (Value.slice a5 o6 o7) (Value.int IntKind.i64 x8) fun v8 =>
              addrK v8 fun o9 o10 =>
                optK (ldV P30 3 o9 o10 h) fun v11 =>
                  castI IntKind.i64 v11 fun n12 =>
                    optK (ldV P30 28 x4 6 h) fun v13 =>
                      castSl v13 fun a14 o15 o16 =>
                        indexAddrA P30 28 (Value.slice a14 o15 o16) (Value.int IntKind.i64 x8) fun v17 =>
                          addrK v17 fun o18 o19 =>
                            optK (ldV P30 3 o18 o19 h) fun v20 =>
                              castI IntKind.i64 v20 fun n21 =>
                                bif decide (n12 < n21) then K Exit.ret (E15_r (Value.int IntKind.i64 9)) h
                                else nx (E15_0 (Value.pointer (some { block := x4, off := 0 })) (Value.pointer (some { block := x5, off := 0 })) (Value.int IntKind.i64 (IntKind.i64.wrap (x8 + 1)))) h
      else K (Exit.exit 0) (E15_2 (Value.pointer (some { block := x4, off := 0 })) (Value.pointer (some { block := x5, off := 0 }))) h := by kernel_rfl

theorem e15_0x0 (r n : Nat) (h : H) (x4 : Nat) (x5 : Nat) : (blockK 0 (seqK (after P30 (ev30 r n) (jmp30 r n 15) (dead30 15) r 0 (pc [1, 1, 1, 1, 1, 1] (bd Tryz.f15)) (outK (dead30 15) (key (pc [1, 1, 1] (bd Tryz.f15))))) (outK (dead30 15) (key (pc [1, 1, 1] (bd Tryz.f15)))))) (.exit 0) (E15_2 (.pointer (some ⟨x4, 0, none⟩)) (.pointer (some ⟨x5, 0, none⟩))) h =
  optK (ldV P30 42 x5 2 h) fun v0 =>
    castSl v0 fun _ o2 _ =>
      optK (ldV P30 42 x4 2 h) fun v4 =>
        castSl v4 fun _ o6 _ =>
          bif decide ((↑o2 : Int) < (↑o6 : Int)) then some (Exit.ret, E15_r (Value.int IntKind.i64 10), h)
          else
            evLoop (evCode P30 (ev30 r n) (jmp30 r n 15) (dead30 15) r 2 (pc [1, 1, 1, 1, 1, 1, 1, 0, 1, 0, 0] (bd Tryz.f15))) (dead30 15 (4 * 2)) (dead30 15 (4 * 2 + 2)) (dead30 15 1000002) r
              (E15_8 (Value.pointer (some { block := x4, off := 0 })) (Value.pointer (some { block := x5, off := 0 })) (Value.int IntKind.i64 10)) h
              (blockK 2
                (seqK (after P30 (ev30 r n) (jmp30 r n 15) (dead30 15) r 0 (pc [1, 1, 1, 1, 1, 1, 1, 1] (bd Tryz.f15)) (outK (dead30 15) (key (pc [1, 1, 1] (bd Tryz.f15)))))
                  (outK (dead30 15) (key (pc [1, 1, 1] (bd Tryz.f15)))))) := by kernel_rfl

theorem e15_0r (r n : Nat) (h : H) (x6 : Int) : (blockK 0 (seqK (after P30 (ev30 r n) (jmp30 r n 15) (dead30 15) r 0 (pc [1, 1, 1, 1, 1, 1] (bd Tryz.f15)) (outK (dead30 15) (key (pc [1, 1, 1] (bd Tryz.f15))))) (outK (dead30 15) (key (pc [1, 1, 1] (bd Tryz.f15)))))) .ret (E15_r (.int .i64 x6)) h =
  some (Exit.ret, E15_r (Value.int IntKind.i64 x6), h) := by kernel_rfl

theorem e15_8 (r n : Nat) (h : H) {R : Type} (x4 : Nat) (x5 : Nat) (x9 : Int) (nx : Env → H → Option R) (K : Exit → Env → H → Option R) : evCode P30 (ev30 r n) (jmp30 r n 15) (dead30 15) r 2 (pc [1, 1, 1, 1, 1, 1, 1, 0, 1, 0, 0] (bd Tryz.f15)) (E15_8 (.pointer (some ⟨x4, 0, none⟩)) (.pointer (some ⟨x5, 0, none⟩)) (.int .i64 x9)) h (loopK nx (dead30 15 (4 * 2)) (dead30 15 (4 * 2 + 2)) (dead30 15 1000002) K) =
  bif decide (x9 < 13) then
    evLoop (evCode P30 (ev30 r n) (jmp30 r n 15) (dead30 15) r 4 (pc [1, 1, 1, 1, 1, 1, 1, 0, 1, 0, 0, 1, 0, 0, 1, 0, 0] (bd Tryz.f15))) (dead30 15 (4 * 4)) (dead30 15 (4 * 4 + 2)) (dead30 15 1000002) r
      (E15_16 (Value.pointer (some { block := x4, off := 0 })) (Value.pointer (some { block := x5, off := 0 })) (Value.int IntKind.i64 x9) (Value.int IntKind.i64 0)) h
      (blockK 4
        (blockK 3
          (seqK
            (after P30 (ev30 r n) (jmp30 r n 15) (dead30 15) r 2 (pc [1, 1, 1, 1, 1, 1, 1, 0, 1, 0, 0, 1, 1] (bd Tryz.f15)) (loopK nx (dead30 15 (4 * 2)) (dead30 15 (4 * 2 + 2)) (dead30 15 1000002) K))
            (loopK nx (dead30 15 (4 * 2)) (dead30 15 (4 * 2 + 2)) (dead30 15 1000002) K))))
  else K (Exit.exit 2) E15_10 h := by kernel_rfl

theorem e15_8x2 (r n : Nat) (h : H) : (blockK 2 (seqK (after P30 (ev30 r n) (jmp30 r n 15) (dead30 15) r 0 (pc [1, 1, 1, 1, 1, 1, 1, 1] (bd Tryz.f15)) (outK (dead30 15) (key (pc [1, 1, 1] (bd Tryz.f15))))) (outK (dead30 15) (key (pc [1, 1, 1] (bd Tryz.f15)))))) (.exit 2) (E15_10) h =
  some (Exit.ret, E15_r (Value.int IntKind.i64 0), h) := by kernel_rfl

theorem e15_8r (r n : Nat) (h : H) (x6 : Int) : (blockK 2 (seqK (after P30 (ev30 r n) (jmp30 r n 15) (dead30 15) r 0 (pc [1, 1, 1, 1, 1, 1, 1, 1] (bd Tryz.f15)) (outK (dead30 15) (key (pc [1, 1, 1] (bd Tryz.f15))))) (outK (dead30 15) (key (pc [1, 1, 1] (bd Tryz.f15)))))) .ret (E15_r (.int .i64 x6)) h =
  some (Exit.ret, E15_r (Value.int IntKind.i64 x6), h) := by kernel_rfl

theorem e15_16 (r n : Nat) (h : H) {R : Type} (x4 : Nat) (x5 : Nat) (x9 : Int) (x10 : Int) (nx : Env → H → Option R) (K : Exit → Env → H → Option R) : evCode P30 (ev30 r n) (jmp30 r n 15) (dead30 15) r 4 (pc [1, 1, 1, 1, 1, 1, 1, 0, 1, 0, 0, 1, 0, 0, 1, 0, 0] (bd Tryz.f15)) (E15_16 (.pointer (some ⟨x4, 0, none⟩)) (.pointer (some ⟨x5, 0, none⟩)) (.int .i64 x9) (.int .i64 x10)) h (loopK nx (dead30 15 (4 * 4)) (dead30 15 (4 * 4 + 2)) (dead30 15 1000002) K) =
  optK (ldV P30 42 x4 2 h) fun v0 =>
    castSl v0 fun _ o2 _ =>
      bif decide (x10 < (↑o2 : Int)) then
        optK (ldV P30 44 x4 0 h) fun v4 =>
          castA v4 fun cs5 =>
            optK (ldV P30 44 x5 0 h) fun v6 =>
              castA v6 fun cs7 =>
                callK (ev30 r n) 36 [Value.agg cs5, Value.agg cs7, Value.int IntKind.i64 x10, Value.int IntKind.i64 x9] h fun v8 h9 =>
                  castV v8 fun b10 =>
                    bif !b10 then K Exit.ret (E15_r (Value.int IntKind.i64 x9)) h9
                    else
                      nx
                        (E15_16 (Value.pointer (some { block := x4, off := 0 })) (Value.pointer (some { block := x5, off := 0 })) (Value.int IntKind.i64 x9)
                          (Value.int IntKind.i64 (IntKind.i64.wrap (x10 + 1))))
                        h9
      else K (Exit.exit 4) (E15_8 (Value.pointer (some { block := x4, off := 0 })) (Value.pointer (some { block := x5, off := 0 })) (Value.int IntKind.i64 x9)) h := by kernel_rfl

theorem e15_16x4 (r n : Nat) (h : H) {R : Type} (x4 : Nat) (x5 : Nat) (x9 : Int) (nx : Env → H → Option R) (K : Exit → Env → H → Option R) : (blockK 4 (blockK 3 (seqK (after P30 (ev30 r n) (jmp30 r n 15) (dead30 15) r 2 (pc [1, 1, 1, 1, 1, 1, 1, 0, 1, 0, 0, 1, 1] (bd Tryz.f15)) (loopK nx (dead30 15 (4 * 2)) (dead30 15 (4 * 2 + 2)) (dead30 15 1000002) K)) (loopK nx (dead30 15 (4 * 2)) (dead30 15 (4 * 2 + 2)) (dead30 15 1000002) K)))) (.exit 4) (E15_8 (.pointer (some ⟨x4, 0, none⟩)) (.pointer (some ⟨x5, 0, none⟩)) (.int .i64 x9)) h =
  nx (E15_8 (Value.pointer (some { block := x4, off := 0 })) (Value.pointer (some { block := x5, off := 0 })) (Value.int IntKind.i64 (IntKind.i64.wrap (x9 + 1)))) h := by kernel_rfl

theorem e15_16r (r n : Nat) (h : H) {R : Type} (x6 : Int) (nx : Env → H → Option R) (K : Exit → Env → H → Option R) : (blockK 4 (blockK 3 (seqK (after P30 (ev30 r n) (jmp30 r n 15) (dead30 15) r 2 (pc [1, 1, 1, 1, 1, 1, 1, 0, 1, 0, 0, 1, 1] (bd Tryz.f15)) (loopK nx (dead30 15 (4 * 2)) (dead30 15 (4 * 2 + 2)) (dead30 15 1000002) K)) (loopK nx (dead30 15 (4 * 2)) (dead30 15 (4 * 2 + 2)) (dead30 15 1000002) K)))) .ret (E15_r (.int .i64 x6)) h =
  K Exit.ret (E15_r (Value.int IntKind.i64 x6)) h := by kernel_rfl

theorem e19 (r n : Nat) (h : H) (a0_0 : Option Addr) (a0_0n : Nat) (a0_0s : Nat) (a0_1 : Option Addr) (a0_1n : Nat) (a0_1s : Nat) (a0_2 : Option Addr) (a0_2n : Nat) (a0_2s : Nat) (a0_3 : Int) (a0_4 : Int) (a0_5 : Int) (a0_6 : Int) (a0_7 : Int) (a0_8 : Int) (a0_9 : Int) (a0_10 : Bool) (a0_11 : Option Addr) (a0_11n : Nat) (a0_11s : Nat) (a0_12 : Option Addr) (a0_12n : Nat) (a0_12s : Nat) (a0_13 : Option Addr) (a0_13n : Nat) (a0_13s : Nat) (a0_14 : Option Addr) (a0_14n : Nat) (a0_14s : Nat) (a0_15 : Option Addr) (a0_15n : Nat) (a0_15s : Nat) (a1 : Option Addr) (a1n : Nat) (a1s : Nat) : ev30 r (n + 1) 19 [.agg #[.slice a0_0 a0_0n a0_0s, .slice a0_1 a0_1n a0_1s, .slice a0_2 a0_2n a0_2s, .int .i64 a0_3, .int .i64 a0_4, .int .i64 a0_5, .int .i64 a0_6, .int .i64 a0_7, .int .i64 a0_8, .int .i64 a0_9, .bool a0_10, .slice a0_11 a0_11n a0_11s, .slice a0_12 a0_12n a0_12s, .slice a0_13 a0_13n a0_13s, .slice a0_14 a0_14n a0_14s, .slice a0_15 a0_15n a0_15s], .slice a1 a1n a1s] h =
  jumpK
    (jmp30 r n 19 0 (pc [1] (bd Tryz.f19)) (E19_3 (Value.slice a1 a1n a1s) (Value.pointer (some { block := h.1, off := 0 })))
      (h.new
        (Blk.cells
          [Value.slice a0_0 a0_0n a0_0s, Value.slice a0_1 a0_1n a0_1s, Value.slice a0_2 a0_2n a0_2s, Value.int IntKind.i64 a0_3, Value.int IntKind.i64 a0_4, Value.int IntKind.i64 a0_5,
            Value.int IntKind.i64 a0_6, Value.int IntKind.i64 a0_7, Value.int IntKind.i64 a0_8, Value.int IntKind.i64 a0_9, Value.bool a0_10, Value.slice a0_11 a0_11n a0_11s,
            Value.slice a0_12 a0_12n a0_12s, Value.slice a0_13 a0_13n a0_13s, Value.slice a0_14 a0_14n a0_14s, Value.slice a0_15 a0_15n a0_15s]
          false)))
    (finK P30 [ResultVar.tmp 4]) := by kernel_rfl

theorem e19_3c (r n : Nat) (h : H) (x1 : Option Addr) (x1n : Nat) (x1s : Nat) (x2 : Nat) : jmp30 r (n + 1) 19 0 (pc [1] (bd Tryz.f19)) (E19_3 (.slice x1 x1n x1s) (.pointer (some ⟨x2, 0, none⟩))) h =
  evLoop (evCode P30 (ev30 r n) (jmp30 r n 19) (dead30 19) r 0 (pc [1, 0, 1, 0, 0] (bd Tryz.f19))) (dead30 19 (4 * 0)) (dead30 19 (4 * 0 + 2))
    (dead30 19 1000002) r (E19_0 (Value.pointer (some { block := x2, off := 0 })) (Value.slice x1 x1n x1s) (Value.int IntKind.i64 (↑x1n : Int)) (Value.int IntKind.i64 0)) h
    (blockK 0
      (seqK (after P30 (ev30 r n) (jmp30 r n 19) (dead30 19) r 0 (pc [1, 1] (bd Tryz.f19)) (outK (dead30 19) (key (pc [1] (bd Tryz.f19)))))
        (outK (dead30 19) (key (pc [1] (bd Tryz.f19)))))) := by kernel_rfl

theorem e19_3r (h : H) (x4 : Int) : (finK P30 [.tmp 4]) .ret (E19_r (.int .i64 x4)) h =
  some (Value.int IntKind.i64 x4, h) := by kernel_rfl

theorem e19_0 (r n : Nat) (h : H) {R : Type} (x2 : Nat) (x7 : Option Addr) (x7n : Nat) (x7s : Nat) (x8 : Int) (x9 : Int) (nx : Env → H → Option R) (K : Exit → Env → H → Option R) : evCode P30 (ev30 r n) (jmp30 r n 19) (dead30 19) r 0 (pc [1, 0, 1, 0, 0] (bd Tryz.f19)) (E19_0 (.pointer (some ⟨x2, 0, none⟩)) (.slice x7 x7n x7s) (.int .i64 x8) (.int .i64 x9)) h (loopK nx (dead30 19 (4 * 0)) (dead30 19 (4 * 0 + 2)) (dead30 19 1000002) K) =
  bif decide (x9 < x8) then
    indexAddrA P30 70 (Value.slice x7 x7n x7s) (Value.int IntKind.i64 x9) fun v0 =>
      addrK v0 fun o1 o2 =>
        optK (ldV P30 69 o1 o2 h) fun v3 =>
          optK (ldV P30 68 x2 0 h) fun v4 =>
            castA v4 fun cs5 =>
              callVK P30 (ev30 r n) 4 v3 [Value.agg cs5] h fun v6 h7 =>
                castV v6 fun b8 =>
                  bif !b8 then K Exit.ret (E19_r (Value.int IntKind.i64 (IntKind.i64.wrap (x9 + 1)))) h7
                  else nx (E19_0 (Value.pointer (some { block := x2, off := 0 })) (Value.slice x7 x7n x7s) (Value.int IntKind.i64 x8) (Value.int IntKind.i64 (IntKind.i64.wrap (x9 + 1)))) h7
  else K (Exit.exit 0) E19_2 h := by kernel_rfl

theorem e19_0x0 (r n : Nat) (h : H) : (blockK 0 (seqK (after P30 (ev30 r n) (jmp30 r n 19) (dead30 19) r 0 (pc [1, 1] (bd Tryz.f19)) (outK (dead30 19) (key (pc [1] (bd Tryz.f19))))) (outK (dead30 19) (key (pc [1] (bd Tryz.f19)))))) (.exit 0) (E19_2) h =
  some (Exit.ret, E19_r (Value.int IntKind.i64 0), h) := by kernel_rfl

theorem e19_0r (r n : Nat) (h : H) (x4 : Int) : (blockK 0 (seqK (after P30 (ev30 r n) (jmp30 r n 19) (dead30 19) r 0 (pc [1, 1] (bd Tryz.f19)) (outK (dead30 19) (key (pc [1] (bd Tryz.f19))))) (outK (dead30 19) (key (pc [1] (bd Tryz.f19)))))) .ret (E19_r (.int .i64 x4)) h =
  some (Exit.ret, E19_r (Value.int IntKind.i64 x4), h) := by kernel_rfl

theorem e20 (r n : Nat) (h : H) (a0_0 : Option Addr) (a0_0n : Nat) (a0_0s : Nat) (a0_1 : Option Addr) (a0_1n : Nat) (a0_1s : Nat) (a0_2 : Option Addr) (a0_2n : Nat) (a0_2s : Nat) (a0_3 : Int) (a0_4 : Int) (a0_5 : Int) (a0_6 : Int) (a0_7 : Int) (a0_8 : Int) (a0_9 : Int) (a0_10 : Bool) (a0_11 : Option Addr) (a0_11n : Nat) (a0_11s : Nat) (a0_12 : Option Addr) (a0_12n : Nat) (a0_12s : Nat) (a0_13 : Option Addr) (a0_13n : Nat) (a0_13s : Nat) (a0_14 : Option Addr) (a0_14n : Nat) (a0_14s : Nat) (a0_15 : Option Addr) (a0_15n : Nat) (a0_15s : Nat) : ev30 r (n + 1) 20 [.agg #[.slice a0_0 a0_0n a0_0s, .slice a0_1 a0_1n a0_1s, .slice a0_2 a0_2n a0_2s, .int .i64 a0_3, .int .i64 a0_4, .int .i64 a0_5, .int .i64 a0_6, .int .i64 a0_7, .int .i64 a0_8, .int .i64 a0_9, .bool a0_10, .slice a0_11 a0_11n a0_11s, .slice a0_12 a0_12n a0_12s, .slice a0_13 a0_13n a0_13s, .slice a0_14 a0_14n a0_14s, .slice a0_15 a0_15n a0_15s]] h =
  jumpK
    (jmp30 r n 20 0 (pc [1] (bd Tryz.f20)) (E20_3 (Value.pointer (some { block := h.1, off := 0 })))
      (h.new
        (Blk.cells
          [Value.slice a0_0 a0_0n a0_0s, Value.slice a0_1 a0_1n a0_1s, Value.slice a0_2 a0_2n a0_2s, Value.int IntKind.i64 a0_3, Value.int IntKind.i64 a0_4, Value.int IntKind.i64 a0_5,
            Value.int IntKind.i64 a0_6, Value.int IntKind.i64 a0_7, Value.int IntKind.i64 a0_8, Value.int IntKind.i64 a0_9, Value.bool a0_10, Value.slice a0_11 a0_11n a0_11s,
            Value.slice a0_12 a0_12n a0_12s, Value.slice a0_13 a0_13n a0_13s, Value.slice a0_14 a0_14n a0_14s, Value.slice a0_15 a0_15n a0_15s]
          false)))
    (finK P30 [ResultVar.tmp 2]) := by kernel_rfl

theorem e20_3c (r n : Nat) (h : H) (x1 : Nat) : jmp30 r (n + 1) 20 0 (pc [1] (bd Tryz.f20)) (E20_3 (.pointer (some ⟨x1, 0, none⟩))) h =
  optK (ldV P30 30 x1 9 h) fun v0 =>
    castA v0 fun cs1 =>
      ifK (cellsOf P30 30 = some (Value.agg cs1).cells.size)
        (optK
          (stCells (h.new (Blk.cells [Value.int IntKind.i64 0, Value.bool false, Value.slice none 0 0, Value.slice none 0 0, Value.slice none 0 0, Value.slice none 0 0, Value.slice none 0 0] false)) h.1
            0 (Value.agg cs1).cells.toList)
          fun h2 =>
          optK (ldV P30 22 x1 0 h2) fun v3 =>
            castSl v3 fun a4 o5 o6 =>
              bif sameLd P30 22 x1 0 (Value.slice a4 o5 o6) h then
                optK (ldV P30 28 h.1 3 h2) fun v7 =>
                  castSl v7 fun _ o9 _ =>
                    bif (↑o9 : Int) != (↑o5 : Int) then some (Exit.ret, E20_r (Value.bool false), h2)
                    else
                      optK (ldV P30 28 h.1 4 h2) fun v11 =>
                        castSl v11 fun _ o13 _ =>
                          bif (↑o13 : Int) != (↑o5 : Int) then some (Exit.ret, E20_r (Value.bool false), h2)
                          else
                            optK (ldV P30 28 h.1 6 h2) fun v15 =>
                              castSl v15 fun _ o17 _ =>
                                optK (ldV P30 24 x1 2 h2) fun v19 =>
                                  castSl v19 fun _ o21 _ =>
                                    bif (↑o17 : Int) != (↑o21 : Int) then some (Exit.ret, E20_r (Value.bool false), h2)
                                    else
                                      optK (ldV P30 28 h.1 5 h2) fun v23 =>
                                        castSl v23 fun _ o25 _ =>
                                          optK (ldV P30 27 h.1 2 h2) fun v27 =>
                                            castSl v27 fun _ o29 _ =>
                                              bif (↑o25 : Int) != (↑o29 : Int) then some (Exit.ret, E20_r (Value.bool false), h2)
                                              else
                                                optK (ldV P30 27 h.1 2 h2) fun v31 =>
                                                  castSl v31 fun _ o33 _ =>
                                                    optK (ldV P30 3 x1 3 h2) fun v35 =>
                                                      castI IntKind.i64 v35 fun n36 =>
                                                        bif decide ((↑o33 : Int) > n36) then some (Exit.ret, E20_r (Value.bool false), h2)
                                                        else
                                                          jumpK (jmp30 r n 20 0 (pc [1, 1, 1] (bd Tryz.f20)) (E20_9 (Value.pointer (some { block := h.1, off := 0 }))) h2)
                                                            (outK (dead30 20) (key (pc [1] (bd Tryz.f20))))
              else none) := by kernel_rfl

theorem e20_3r (h : H) (x2 : Bool) : (finK P30 [.tmp 2]) .ret (E20_r (.bool x2)) h =
  some (Value.bool x2, h) := by kernel_rfl

theorem e20_9c (r n : Nat) (h : H) (x3 : Nat) : jmp30 r (n + 1) 20 0 (pc [1, 1, 1] (bd Tryz.f20)) (E20_9 (.pointer (some ⟨x3, 0, none⟩))) h =
  optK (ldV P30 3 x3 0 h) fun v0 =>
    castI IntKind.i64 v0 fun n1 =>
      bif decide (n1 ≥ 0) then
        optK (ldV P30 3 x3 0 h) fun v2 =>
          castI IntKind.i64 v2 fun n3 =>
            bif decide (n3 ≤ 1099511627776) then
              optK (ldV P30 28 x3 3 h) fun v4 =>
                castSl v4 fun a5 o6 o7 =>
                  callK (ev30 r n) 52 [Value.int IntKind.i64 0, Value.slice a5 o6 o7] h fun v8 h9 =>
                    castV v8 fun b10 =>
                      bif b10 then
                        optK (ldV P30 28 x3 4 h9) fun v11 =>
                          castSl v11 fun a12 o13 o14 =>
                            callK (ev30 r n) 52 [Value.int IntKind.i64 0, Value.slice a12 o13 o14] h9 fun v15 h16 =>
                              castV v15 fun b17 =>
                                bif b17 then
                                  optK (ldV P30 28 x3 5 h16) fun v18 =>
                                    castSl v18 fun a19 o20 o21 =>
                                      callK (ev30 r n) 52 [Value.int IntKind.i64 0, Value.slice a19 o20 o21] h16 fun v22 h23 =>
                                        castV v22 fun b24 =>
                                          bif b24 then
                                            optK (ldV P30 28 x3 6 h23) fun v25 =>
                                              castSl v25 fun a26 o27 o28 =>
                                                callK (ev30 r n) 52 [Value.int IntKind.i64 0, Value.slice a26 o27 o28] h23 fun v29 h30 =>
                                                  castV v29 fun b31 => some (Exit.ret, E20_r (Value.bool b31), h30)
                                          else some (Exit.ret, E20_r (Value.bool false), h23)
                                else some (Exit.ret, E20_r (Value.bool false), h16)
                      else some (Exit.ret, E20_r (Value.bool false), h9)
            else some (Exit.ret, E20_r (Value.bool false), h)
      else some (Exit.ret, E20_r (Value.bool false), h) := by kernel_rfl

theorem e20_9r (h : H) (x2 : Bool) : (outK (dead30 20) (key (pc [1] (bd Tryz.f20)))) .ret (E20_r (.bool x2)) h =
  some (Exit.ret, E20_r (Value.bool x2), h) := by kernel_rfl

theorem e21 (r n : Nat) (h : H) (a0_0 : Option Addr) (a0_0n : Nat) (a0_0s : Nat) (a0_1 : Option Addr) (a0_1n : Nat) (a0_1s : Nat) (a0_2 : Option Addr) (a0_2n : Nat) (a0_2s : Nat) (a0_3 : Int) (a0_4 : Int) (a0_5 : Int) (a0_6 : Int) (a0_7 : Int) (a0_8 : Int) (a0_9 : Int) (a0_10 : Bool) (a0_11 : Option Addr) (a0_11n : Nat) (a0_11s : Nat) (a0_12 : Option Addr) (a0_12n : Nat) (a0_12s : Nat) (a0_13 : Option Addr) (a0_13n : Nat) (a0_13s : Nat) (a0_14 : Option Addr) (a0_14n : Nat) (a0_14s : Nat) (a0_15 : Option Addr) (a0_15n : Nat) (a0_15s : Nat) : ev30 r (n + 1) 21 [.agg #[.slice a0_0 a0_0n a0_0s, .slice a0_1 a0_1n a0_1s, .slice a0_2 a0_2n a0_2s, .int .i64 a0_3, .int .i64 a0_4, .int .i64 a0_5, .int .i64 a0_6, .int .i64 a0_7, .int .i64 a0_8, .int .i64 a0_9, .bool a0_10, .slice a0_11 a0_11n a0_11s, .slice a0_12 a0_12n a0_12s, .slice a0_13 a0_13n a0_13s, .slice a0_14 a0_14n a0_14s, .slice a0_15 a0_15n a0_15s]] h =
  jumpK
    (jmp30 r n 21 0 (pc [1] (bd Tryz.f21)) (E21_3 (Value.pointer (some { block := h.1, off := 0 })))
      (h.new
        (Blk.cells
          [Value.slice a0_0 a0_0n a0_0s, Value.slice a0_1 a0_1n a0_1s, Value.slice a0_2 a0_2n a0_2s, Value.int IntKind.i64 a0_3, Value.int IntKind.i64 a0_4, Value.int IntKind.i64 a0_5,
            Value.int IntKind.i64 a0_6, Value.int IntKind.i64 a0_7, Value.int IntKind.i64 a0_8, Value.int IntKind.i64 a0_9, Value.bool a0_10, Value.slice a0_11 a0_11n a0_11s,
            Value.slice a0_12 a0_12n a0_12s, Value.slice a0_13 a0_13n a0_13s, Value.slice a0_14 a0_14n a0_14s, Value.slice a0_15 a0_15n a0_15s]
          false)))
    (finK P30 [ResultVar.tmp 2]) := by kernel_rfl

theorem e21_3c (r n : Nat) (h : H) (x1 : Nat) : jmp30 r (n + 1) 21 0 (pc [1] (bd Tryz.f21)) (E21_3 (.pointer (some ⟨x1, 0, none⟩))) h =
  optK (ldV P30 27 x1 11 h) fun v0 =>
    castSl v0 fun a1 o2 o3 =>
      evLoop (evCode P30 (ev30 r n) (jmp30 r n 21) (dead30 21) r 0 (pc [1, 0, 1, 0, 0] (bd Tryz.f21))) (dead30 21 (4 * 0)) (dead30 21 (4 * 0 + 2))
        (dead30 21 1000002) r (E21_0 (Value.pointer (some { block := x1, off := 0 })) (Value.slice a1 o2 o3) (Value.int IntKind.i64 (↑o2 : Int)) (Value.int IntKind.i64 0)) h
        (blockK 0
          (seqK (after P30 (ev30 r n) (jmp30 r n 21) (dead30 21) r 0 (pc [1, 1] (bd Tryz.f21)) (outK (dead30 21) (key (pc [1] (bd Tryz.f21)))))
            (outK (dead30 21) (key (pc [1] (bd Tryz.f21)))))) := by kernel_rfl

theorem e21_3r (h : H) (x2 : Bool) : (finK P30 [.tmp 2]) .ret (E21_r (.bool x2)) h =
  some (Value.bool x2, h) := by kernel_rfl

theorem e21_0 (r n : Nat) (h : H) {R : Type} (x1 : Nat) (x7 : Option Addr) (x7n : Nat) (x7s : Nat) (x8 : Int) (x9 : Int) (nx : Env → H → Option R) (K : Exit → Env → H → Option R) : evCode P30 (ev30 r n) (jmp30 r n 21) (dead30 21) r 0 (pc [1, 0, 1, 0, 0] (bd Tryz.f21)) (E21_0 (.pointer (some ⟨x1, 0, none⟩)) (.slice x7 x7n x7s) (.int .i64 x8) (.int .i64 x9)) h (loopK nx (dead30 21 (4 * 0)) (dead30 21 (4 * 0 + 2)) (dead30 21 1000002) K) =
  bif decide (x9 < x8) then
    indexAddrA P30 27 (Value.slice x7 x7n x7s) (Value.int IntKind.i64 x9) fun v0 =>
      addrK v0 fun o1 o2 =>
        optK (ldV P30 65 o1 o2 h) fun v3 =>
          castA v3 fun cs4 =>
            ifK (cellsOf P30 65 = some (Value.agg cs4).cells.size)
              (optK
                (stCells
                  (h.new
                    (Blk.cells
                      [Value.string (txt []), Value.string (txt []), Value.string (txt []), Value.int IntKind.i64 0, Value.int IntKind.i64 0,
                        Value.int IntKind.i64 0, Value.int IntKind.i64 0, Value.int IntKind.i64 0, Value.int IntKind.i64 0, Value.int IntKind.i64 0, Value.int IntKind.i64 0, Value.int IntKind.i64 0,
                        Value.int IntKind.i64 0, Value.int IntKind.i64 0, Value.int IntKind.i64 0, Value.int IntKind.i64 0, Value.slice none 0 0]
                      false))
                  h.1 0 (Value.agg cs4).cells.toList)
                fun h5 =>
                optK (ldV P30 3 h.1 4 h5) fun v6 =>
                  castI IntKind.i64 v6 fun n7 =>
                    optK (ldV P30 3 h.1 6 h5) fun v8 =>
                      castI IntKind.i64 v8 fun n9 =>
                        callK (ev30 r n) 52 [Value.int IntKind.i64 1, Value.slice (some { block := h5.1, off := 0 }) 2 1] (h5.new (Blk.cells [Value.int IntKind.i64 n7, Value.int IntKind.i64 n9] false))
                          fun v10 h11 =>
                          castV v10 fun b12 =>
                            bif !b12 then K Exit.ret (E21_r (Value.bool false)) h11
                            else
                              optK (ldV P30 3 h.1 4 h11) fun v13 =>
                                castI IntKind.i64 v13 fun n14 =>
                                  bif decide (n14 > 6) then K Exit.ret (E21_r (Value.bool false)) h11
                                  else
                                    optK (ldV P30 26 x1 0 h11) fun v15 =>
                                      castA v15 fun cs16 =>
                                        optK (ldV P30 9 h.1 1 h11) fun v17 =>
                                          castS v17 fun s18 =>
                                            callK (ev30 r n) 53 [Value.agg cs16, Value.string s18] h11 fun v19 h20 =>
                                              castI IntKind.i64 v19 fun n21 =>
                                                optK (ldV P30 3 h.1 11 h20) fun v22 =>
                                                  castI IntKind.i64 v22 fun n23 =>
                                                    bif sameLd P30 3 h.1 11 (Value.int IntKind.i64 n23) h11 then
                                                      optK (ldV P30 3 h.1 12 h20) fun v24 =>
                                                        castI IntKind.i64 v24 fun n25 =>
                                                          bif sameLd P30 3 h.1 12 (Value.int IntKind.i64 n25) h11 then
                                                            optK (ldV P30 3 h.1 14 h20) fun v26 =>
                                                              castI IntKind.i64 v26 fun n27 =>
                                                                bif sameLd P30 3 h.1 14 (Value.int IntKind.i64 n27) h11 then
                                                                  optK (ldV P30 3 h.1 13 h20) fun v28 =>
                                                                    castI IntKind.i64 v28 fun n29 =>
                                                                      bif sameLd P30 3 h.1 13 (Value.int IntKind.i64 n29) h11 then
                                                                        optK (ldV P30 3 h.1 15 h20) fun v30 =>
                                                                          castI IntKind.i64 v30 fun n31 =>
                                                                            bif sameLd P30 3 h.1 15 (Value.int IntKind.i64 n31) h11 then
                                                                              callK (ev30 r n) 52 [Value.int IntKind.i64 0, Value.slice (some { block := h20.1, off := 0 }) 6 1]
                                                                                (h20.new
                                                                                  (Blk.cells
                                                                                    [Value.int IntKind.i64 n23, Value.int IntKind.i64 n25, Value.int IntKind.i64 n27, Value.int IntKind.i64 n29,
                                                                                      Value.int IntKind.i64 n31, Value.int IntKind.i64 n21]
                                                                                    false))
                                                                                fun v32 h33 =>
                                                                                castV v32 fun b34 =>
                                                                                  bif !b34 then K Exit.ret (E21_r (Value.bool false)) h33
                                                                                  else
                                                                                    optK (ldV P30 3 h.1 10 h33) fun v35 =>
                                                                                      castI IntKind.i64 v35 fun n36 =>
                                                                                        optK (ldV P30 3 h.1 6 h33) fun v37 =>
                                                                                          castI IntKind.i64 v37 fun n38 =>
                                                                                            bif decide (n36 < n38) then K Exit.ret (E21_r (Value.bool false)) h33
                                                                                            else
                                                                                              optK (ldV P30 3 h.1 10 h33) fun v39 =>
                                                                                                castI IntKind.i64 v39 fun n40 =>
                                                                                                  bif decide (n40 > 1099511627776) then K Exit.ret (E21_r (Value.bool false)) h33
                                                                                                  else
                                                                                                    nx
                                                                                                      (E21_0 (Value.pointer (some { block := x1, off := 0 })) (Value.slice x7 x7n x7s)
                                                                                                        (Value.int IntKind.i64 x8) (Value.int IntKind.i64 (IntKind.i64.wrap (x9 + 1))))
                                                                                                      h33
                                                                            else none
                                                                      else none
                                                                else none
                                                          else none
                                                    else none)
  else K (Exit.exit 0) E21_2 h := by kernel_rfl

theorem e21_0x0 (r n : Nat) (h : H) : (blockK 0 (seqK (after P30 (ev30 r n) (jmp30 r n 21) (dead30 21) r 0 (pc [1, 1] (bd Tryz.f21)) (outK (dead30 21) (key (pc [1] (bd Tryz.f21))))) (outK (dead30 21) (key (pc [1] (bd Tryz.f21)))))) (.exit 0) (E21_2) h =
  some (Exit.ret, E21_r (Value.bool true), h) := by kernel_rfl

theorem e21_0r (r n : Nat) (h : H) (x2 : Bool) : (blockK 0 (seqK (after P30 (ev30 r n) (jmp30 r n 21) (dead30 21) r 0 (pc [1, 1] (bd Tryz.f21)) (outK (dead30 21) (key (pc [1] (bd Tryz.f21))))) (outK (dead30 21) (key (pc [1] (bd Tryz.f21)))))) .ret (E21_r (.bool x2)) h =
  some (Exit.ret, E21_r (Value.bool x2), h) := by kernel_rfl

theorem e22 (r n : Nat) (h : H) (a0_0 : Option Addr) (a0_0n : Nat) (a0_0s : Nat) (a0_1 : Option Addr) (a0_1n : Nat) (a0_1s : Nat) (a0_2 : Option Addr) (a0_2n : Nat) (a0_2s : Nat) (a0_3 : Int) (a0_4 : Int) (a0_5 : Int) (a0_6 : Int) (a0_7 : Int) (a0_8 : Int) (a0_9 : Int) (a0_10 : Bool) (a0_11 : Option Addr) (a0_11n : Nat) (a0_11s : Nat) (a0_12 : Option Addr) (a0_12n : Nat) (a0_12s : Nat) (a0_13 : Option Addr) (a0_13n : Nat) (a0_13s : Nat) (a0_14 : Option Addr) (a0_14n : Nat) (a0_14s : Nat) (a0_15 : Option Addr) (a0_15n : Nat) (a0_15s : Nat) : ev30 r (n + 1) 22 [.agg #[.slice a0_0 a0_0n a0_0s, .slice a0_1 a0_1n a0_1s, .slice a0_2 a0_2n a0_2s, .int .i64 a0_3, .int .i64 a0_4, .int .i64 a0_5, .int .i64 a0_6, .int .i64 a0_7, .int .i64 a0_8, .int .i64 a0_9, .bool a0_10, .slice a0_11 a0_11n a0_11s, .slice a0_12 a0_12n a0_12s, .slice a0_13 a0_13n a0_13s, .slice a0_14 a0_14n a0_14s, .slice a0_15 a0_15n a0_15s]] h =
  jumpK
    (jmp30 r n 22 0 (pc [1] (bd Tryz.f22)) (E22_3 (Value.pointer (some { block := h.1, off := 0 })))
      (h.new
        (Blk.cells
          [Value.slice a0_0 a0_0n a0_0s, Value.slice a0_1 a0_1n a0_1s, Value.slice a0_2 a0_2n a0_2s, Value.int IntKind.i64 a0_3, Value.int IntKind.i64 a0_4, Value.int IntKind.i64 a0_5,
            Value.int IntKind.i64 a0_6, Value.int IntKind.i64 a0_7, Value.int IntKind.i64 a0_8, Value.int IntKind.i64 a0_9, Value.bool a0_10, Value.slice a0_11 a0_11n a0_11s,
            Value.slice a0_12 a0_12n a0_12s, Value.slice a0_13 a0_13n a0_13s, Value.slice a0_14 a0_14n a0_14s, Value.slice a0_15 a0_15n a0_15s]
          false)))
    (finK P30 [ResultVar.tmp 2]) := by kernel_rfl

theorem e22_3c (r n : Nat) (h : H) (x1 : Nat) : jmp30 r (n + 1) 22 0 (pc [1] (bd Tryz.f22)) (E22_3 (.pointer (some ⟨x1, 0, none⟩))) h =
  optK (ldV P30 27 x1 11 h) fun v0 =>
    castSl v0 fun a1 o2 o3 =>
      evLoop (evCode P30 (ev30 r n) (jmp30 r n 22) (dead30 22) r 0 (pc [1, 0, 1, 0, 0] (bd Tryz.f22))) (dead30 22 (4 * 0)) (dead30 22 (4 * 0 + 2))
        (dead30 22 1000002) r (E22_0 (Value.slice a1 o2 o3) (Value.int IntKind.i64 (↑o2 : Int)) (Value.int IntKind.i64 0)) h
        (blockK 0
          (seqK (after P30 (ev30 r n) (jmp30 r n 22) (dead30 22) r 0 (pc [1, 1] (bd Tryz.f22)) (outK (dead30 22) (key (pc [1] (bd Tryz.f22)))))
            (outK (dead30 22) (key (pc [1] (bd Tryz.f22)))))) := by kernel_rfl

theorem e22_3r (h : H) (x2 : Bool) : (finK P30 [.tmp 2]) .ret (E22_r (.bool x2)) h =
  some (Value.bool x2, h) := by kernel_rfl

theorem e22_0 (r n : Nat) (h : H) {R : Type} (x11 : Option Addr) (x11n : Nat) (x11s : Nat) (x12 : Int) (x13 : Int) (nx : Env → H → Option R) (K : Exit → Env → H → Option R) : evCode P30 (ev30 r n) (jmp30 r n 22) (dead30 22) r 0 (pc [1, 0, 1, 0, 0] (bd Tryz.f22)) (E22_0 (.slice x11 x11n x11s) (.int .i64 x12) (.int .i64 x13)) h (loopK nx (dead30 22 (4 * 0)) (dead30 22 (4 * 0 + 2)) (dead30 22 1000002) K) =
  bif decide (x13 < x12) then
    indexAddrA P30 27 (Value.slice x11 x11n x11s) (Value.int IntKind.i64 x13) fun v0 =>
      addrK v0 fun o1 o2 =>
        optK (ldV P30 65 o1 o2 h) fun v3 =>
          castA v3 fun cs4 =>
            ifK (cellsOf P30 65 = some (Value.agg cs4).cells.size)
              (optK
                (stCells
                  (h.new
                    (Blk.cells
                      [Value.string (txt []), Value.string (txt []), Value.string (txt []), Value.int IntKind.i64 0, Value.int IntKind.i64 0,
                        Value.int IntKind.i64 0, Value.int IntKind.i64 0, Value.int IntKind.i64 0, Value.int IntKind.i64 0, Value.int IntKind.i64 0, Value.int IntKind.i64 0, Value.int IntKind.i64 0,
                        Value.int IntKind.i64 0, Value.int IntKind.i64 0, Value.int IntKind.i64 0, Value.int IntKind.i64 0, Value.slice none 0 0]
                      false))
                  h.1 0 (Value.agg cs4).cells.toList)
                fun h5 =>
                optK (ldV P30 63 h.1 16 h5) fun v6 =>
                  castSl v6 fun a7 o8 o9 =>
                    evLoop (evCode P30 (ev30 r n) (jmp30 r n 22) (dead30 22) r 2 (pc [1, 0, 1, 0, 0, 1, 1, 0, 0, 1, 1, 0, 0] (bd Tryz.f22))) (dead30 22 (4 * 2)) (dead30 22 (4 * 2 + 2))
                      (dead30 22 1000002) r
                      (E22_8 (Value.slice x11 x11n x11s) (Value.int IntKind.i64 x12) (Value.int IntKind.i64 x13) (Value.slice a7 o8 o9) (Value.int IntKind.i64 (↑o8 : Int)) (Value.int IntKind.i64 0)) h5
                      (blockK 2
                        (blockK 1
                          (seqK
                            (after P30 (ev30 r n) (jmp30 r n 22) (dead30 22) r 0 (pc [1, 0, 1, 0, 0, 1, 1, 1] (bd Tryz.f22)) (loopK nx (dead30 22 (4 * 0)) (dead30 22 (4 * 0 + 2)) (dead30 22 1000002) K))
                            (loopK nx (dead30 22 (4 * 0)) (dead30 22 (4 * 0 + 2)) (dead30 22 1000002) K)))))
  else K (Exit.exit 0) E22_2 h := by kernel_rfl

theorem e22_0x0 (r n : Nat) (h : H) : (blockK 0 (seqK (after P30 (ev30 r n) (jmp30 r n 22) (dead30 22) r 0 (pc [1, 1] (bd Tryz.f22)) (outK (dead30 22) (key (pc [1] (bd Tryz.f22))))) (outK (dead30 22) (key (pc [1] (bd Tryz.f22)))))) (.exit 0) (E22_2) h =
  some (Exit.ret, E22_r (Value.bool true), h) := by kernel_rfl

theorem e22_0r (r n : Nat) (h : H) (x2 : Bool) : (blockK 0 (seqK (after P30 (ev30 r n) (jmp30 r n 22) (dead30 22) r 0 (pc [1, 1] (bd Tryz.f22)) (outK (dead30 22) (key (pc [1] (bd Tryz.f22))))) (outK (dead30 22) (key (pc [1] (bd Tryz.f22)))))) .ret (E22_r (.bool x2)) h =
  some (Exit.ret, E22_r (Value.bool x2), h) := by kernel_rfl

theorem e22_8 (r n : Nat) (h : H) {R : Type} (x11 : Option Addr) (x11n : Nat) (x11s : Nat) (x12 : Int) (x13 : Int) (x18 : Option Addr) (x18n : Nat) (x18s : Nat) (x19 : Int) (x20 : Int) (nx : Env → H → Option R) (K : Exit → Env → H → Option R) : evCode P30 (ev30 r n) (jmp30 r n 22) (dead30 22) r 2 (pc [1, 0, 1, 0, 0, 1, 1, 0, 0, 1, 1, 0, 0] (bd Tryz.f22)) (E22_8 (.slice x11 x11n x11s) (.int .i64 x12) (.int .i64 x13) (.slice x18 x18n x18s) (.int .i64 x19) (.int .i64 x20)) h (loopK nx (dead30 22 (4 * 2)) (dead30 22 (4 * 2 + 2)) (dead30 22 1000002) K) =
  bif decide (x20 < x19) then
    indexAddrA P30 63 (Value.slice x18 x18n x18s) (Value.int IntKind.i64 x20) fun v0 =>
      addrK v0 fun o1 o2 =>
        optK (ldV P30 81 o1 o2 h) fun v3 =>
          castA v3 fun cs4 =>
            ifK (cellsOf P30 81 = some (Value.agg cs4).cells.size)
              (optK
                (stCells
                  (h.new
                    (Blk.cells
                      [Value.string (txt []), Value.string (txt []), Value.int IntKind.i64 0, Value.int IntKind.i64 0, Value.int IntKind.i64 0,
                        Value.int IntKind.i64 0, Value.int IntKind.i64 0, Value.int IntKind.i64 0, Value.int IntKind.i64 0, Value.int IntKind.i64 0]
                      false))
                  h.1 0 (Value.agg cs4).cells.toList)
                fun h5 =>
                optK (ldV P30 81 h.1 0 h5) fun v6 =>
                  castA v6 fun cs7 =>
                    callK (ev30 r n) 54 [Value.agg cs7] h5 fun v8 h9 =>
                      castTup v8 fun l10 =>
                        headK l10 fun v11 l12 =>
                          castI IntKind.i64 v11 fun n13 =>
                            headK l12 fun v14 l15 =>
                              castV v14 fun b16 =>
                                nilK l15 fun _ =>
                                  bif !b16 then K Exit.ret (E22_r (Value.bool false)) h9
                                  else
                                    optK (ldV P30 3 h.1 9 h9) fun v18 =>
                                      castI IntKind.i64 v18 fun n19 =>
                                        bif n13 != n19 then K Exit.ret (E22_r (Value.bool false)) h9
                                        else
                                          nx
                                            (E22_8 (Value.slice x11 x11n x11s) (Value.int IntKind.i64 x12) (Value.int IntKind.i64 x13) (Value.slice x18 x18n x18s) (Value.int IntKind.i64 x19)
                                              (Value.int IntKind.i64 (IntKind.i64.wrap (x20 + 1))))
                                            h9)
  else K (Exit.exit 2) (E22_0 (Value.slice x11 x11n x11s) (Value.int IntKind.i64 x12) (Value.int IntKind.i64 x13)) h := by kernel_rfl

theorem e22_8x2 (r n : Nat) (h : H) {R : Type} (x11 : Option Addr) (x11n : Nat) (x11s : Nat) (x12 : Int) (x13 : Int) (nx : Env → H → Option R) (K : Exit → Env → H → Option R) : (blockK 2 (blockK 1 (seqK (after P30 (ev30 r n) (jmp30 r n 22) (dead30 22) r 0 (pc [1, 0, 1, 0, 0, 1, 1, 1] (bd Tryz.f22)) (loopK nx (dead30 22 (4 * 0)) (dead30 22 (4 * 0 + 2)) (dead30 22 1000002) K)) (loopK nx (dead30 22 (4 * 0)) (dead30 22 (4 * 0 + 2)) (dead30 22 1000002) K)))) (.exit 2) (E22_0 (.slice x11 x11n x11s) (.int .i64 x12) (.int .i64 x13)) h =
  nx (E22_0 (Value.slice x11 x11n x11s) (Value.int IntKind.i64 x12) (Value.int IntKind.i64 (IntKind.i64.wrap (x13 + 1)))) h := by kernel_rfl

theorem e22_8r (r n : Nat) (h : H) {R : Type} (x2 : Bool) (nx : Env → H → Option R) (K : Exit → Env → H → Option R) : (blockK 2 (blockK 1 (seqK (after P30 (ev30 r n) (jmp30 r n 22) (dead30 22) r 0 (pc [1, 0, 1, 0, 0, 1, 1, 1] (bd Tryz.f22)) (loopK nx (dead30 22 (4 * 0)) (dead30 22 (4 * 0 + 2)) (dead30 22 1000002) K)) (loopK nx (dead30 22 (4 * 0)) (dead30 22 (4 * 0 + 2)) (dead30 22 1000002) K)))) .ret (E22_r (.bool x2)) h =
  K Exit.ret (E22_r (Value.bool x2)) h := by kernel_rfl

theorem e23 (r n : Nat) (h : H) (a0_0 : Option Addr) (a0_0n : Nat) (a0_0s : Nat) (a0_1 : Option Addr) (a0_1n : Nat) (a0_1s : Nat) (a0_2 : Option Addr) (a0_2n : Nat) (a0_2s : Nat) (a0_3 : Int) (a0_4 : Int) (a0_5 : Int) (a0_6 : Int) (a0_7 : Int) (a0_8 : Int) (a0_9 : Int) (a0_10 : Bool) (a0_11 : Option Addr) (a0_11n : Nat) (a0_11s : Nat) (a0_12 : Option Addr) (a0_12n : Nat) (a0_12s : Nat) (a0_13 : Option Addr) (a0_13n : Nat) (a0_13s : Nat) (a0_14 : Option Addr) (a0_14n : Nat) (a0_14s : Nat) (a0_15 : Option Addr) (a0_15n : Nat) (a0_15s : Nat) : ev30 r (n + 1) 23 [.agg #[.slice a0_0 a0_0n a0_0s, .slice a0_1 a0_1n a0_1s, .slice a0_2 a0_2n a0_2s, .int .i64 a0_3, .int .i64 a0_4, .int .i64 a0_5, .int .i64 a0_6, .int .i64 a0_7, .int .i64 a0_8, .int .i64 a0_9, .bool a0_10, .slice a0_11 a0_11n a0_11s, .slice a0_12 a0_12n a0_12s, .slice a0_13 a0_13n a0_13s, .slice a0_14 a0_14n a0_14s, .slice a0_15 a0_15n a0_15s]] h =
  jumpK
    (jmp30 r n 23 0 (pc [1] (bd Tryz.f23)) (E23_3 (Value.pointer (some { block := h.1, off := 0 })))
      (h.new
        (Blk.cells
          [Value.slice a0_0 a0_0n a0_0s, Value.slice a0_1 a0_1n a0_1s, Value.slice a0_2 a0_2n a0_2s, Value.int IntKind.i64 a0_3, Value.int IntKind.i64 a0_4, Value.int IntKind.i64 a0_5,
            Value.int IntKind.i64 a0_6, Value.int IntKind.i64 a0_7, Value.int IntKind.i64 a0_8, Value.int IntKind.i64 a0_9, Value.bool a0_10, Value.slice a0_11 a0_11n a0_11s,
            Value.slice a0_12 a0_12n a0_12s, Value.slice a0_13 a0_13n a0_13s, Value.slice a0_14 a0_14n a0_14s, Value.slice a0_15 a0_15n a0_15s]
          false)))
    (finK P30 [ResultVar.tmp 2]) := by kernel_rfl

theorem e23_3c (r n : Nat) (h : H) (x1 : Nat) : jmp30 r (n + 1) 23 0 (pc [1] (bd Tryz.f23)) (E23_3 (.pointer (some ⟨x1, 0, none⟩))) h =
  optK (ldV P30 27 x1 11 h) fun v0 =>
    castSl v0 fun a1 o2 o3 =>
      evLoop (evCode P30 (ev30 r n) (jmp30 r n 23) (dead30 23) r 0 (pc [1, 0, 1, 0, 0] (bd Tryz.f23))) (dead30 23 (4 * 0)) (dead30 23 (4 * 0 + 2))
        (dead30 23 1000002) r (E23_0 (Value.slice a1 o2 o3) (Value.int IntKind.i64 (↑o2 : Int)) (Value.int IntKind.i64 0)) h
        (blockK 0
          (seqK (after P30 (ev30 r n) (jmp30 r n 23) (dead30 23) r 0 (pc [1, 1] (bd Tryz.f23)) (outK (dead30 23) (key (pc [1] (bd Tryz.f23)))))
            (outK (dead30 23) (key (pc [1] (bd Tryz.f23)))))) := by kernel_rfl

theorem e23_3r (h : H) (x2 : Bool) : (finK P30 [.tmp 2]) .ret (E23_r (.bool x2)) h =
  some (Value.bool x2, h) := by kernel_rfl

theorem e23_0 (r n : Nat) (h : H) {R : Type} (x11 : Option Addr) (x11n : Nat) (x11s : Nat) (x12 : Int) (x13 : Int) (nx : Env → H → Option R) (K : Exit → Env → H → Option R) : evCode P30 (ev30 r n) (jmp30 r n 23) (dead30 23) r 0 (pc [1, 0, 1, 0, 0] (bd Tryz.f23)) (E23_0 (.slice x11 x11n x11s) (.int .i64 x12) (.int .i64 x13)) h (loopK nx (dead30 23 (4 * 0)) (dead30 23 (4 * 0 + 2)) (dead30 23 1000002) K) =
  bif decide (x13 < x12) then
    indexAddrA P30 27 (Value.slice x11 x11n x11s) (Value.int IntKind.i64 x13) fun v0 =>
      addrK v0 fun o1 o2 =>
        optK (ldV P30 65 o1 o2 h) fun v3 =>
          castA v3 fun cs4 =>
            ifK (cellsOf P30 65 = some (Value.agg cs4).cells.size)
              (optK
                (stCells
                  (h.new
                    (Blk.cells
                      [Value.string (txt []), Value.string (txt []), Value.string (txt []), Value.int IntKind.i64 0, Value.int IntKind.i64 0,
                        Value.int IntKind.i64 0, Value.int IntKind.i64 0, Value.int IntKind.i64 0, Value.int IntKind.i64 0, Value.int IntKind.i64 0, Value.int IntKind.i64 0, Value.int IntKind.i64 0,
                        Value.int IntKind.i64 0, Value.int IntKind.i64 0, Value.int IntKind.i64 0, Value.int IntKind.i64 0, Value.slice none 0 0]
                      false))
                  h.1 0 (Value.agg cs4).cells.toList)
                fun h5 =>
                optK (ldV P30 63 h.1 16 h5) fun v6 =>
                  castSl v6 fun a7 o8 o9 =>
                    evLoop (evCode P30 (ev30 r n) (jmp30 r n 23) (dead30 23) r 2 (pc [1, 0, 1, 0, 0, 1, 1, 0, 0, 1, 1, 0, 1, 0, 0] (bd Tryz.f23))) (dead30 23 (4 * 2)) (dead30 23 (4 * 2 + 2))
                      (dead30 23 1000002) r
                      (E23_8 (Value.pointer (some { block := h.1, off := 0 })) (Value.slice none 0 0) (Value.slice none 0 0) (Value.slice x11 x11n x11s) (Value.int IntKind.i64 x12)
                        (Value.int IntKind.i64 x13) (Value.slice a7 o8 o9) (Value.int IntKind.i64 (↑o8 : Int)) (Value.int IntKind.i64 0))
                      h5
                      (blockK 2
                        (seqK
                          (after P30 (ev30 r n) (jmp30 r n 23) (dead30 23) r 1 (pc [1, 0, 1, 0, 0, 1, 1, 0, 0, 1, 1, 1] (bd Tryz.f23))
                            (blockK 1
                              (seqK
                                (after P30 (ev30 r n) (jmp30 r n 23) (dead30 23) r 0 (pc [1, 0, 1, 0, 0, 1, 1, 1] (bd Tryz.f23))
                                  (loopK nx (dead30 23 (4 * 0)) (dead30 23 (4 * 0 + 2)) (dead30 23 1000002) K))
                                (loopK nx (dead30 23 (4 * 0)) (dead30 23 (4 * 0 + 2)) (dead30 23 1000002) K))))
                          (blockK 1
                            (seqK
                              (after P30 (ev30 r n) (jmp30 r n 23) (dead30 23) r 0 (pc [1, 0, 1, 0, 0, 1, 1, 1] (bd Tryz.f23))
                                (loopK nx (dead30 23 (4 * 0)) (dead30 23 (4 * 0 + 2)) (dead30 23 1000002) K))
                              (loopK nx (dead30 23 (4 * 0)) (dead30 23 (4 * 0 + 2)) (dead30 23 1000002) K))))))
  else K (Exit.exit 0) E23_2 h := by kernel_rfl

theorem e23_0x0 (r n : Nat) (h : H) : (blockK 0 (seqK (after P30 (ev30 r n) (jmp30 r n 23) (dead30 23) r 0 (pc [1, 1] (bd Tryz.f23)) (outK (dead30 23) (key (pc [1] (bd Tryz.f23))))) (outK (dead30 23) (key (pc [1] (bd Tryz.f23)))))) (.exit 0) (E23_2) h =
  some (Exit.ret, E23_r (Value.bool true), h) := by kernel_rfl

theorem e23_0r (r n : Nat) (h : H) (x2 : Bool) : (blockK 0 (seqK (after P30 (ev30 r n) (jmp30 r n 23) (dead30 23) r 0 (pc [1, 1] (bd Tryz.f23)) (outK (dead30 23) (key (pc [1] (bd Tryz.f23))))) (outK (dead30 23) (key (pc [1] (bd Tryz.f23)))))) .ret (E23_r (.bool x2)) h =
  some (Exit.ret, E23_r (Value.bool x2), h) := by kernel_rfl

theorem e23_8 (r n : Nat) (h : H) {R : Type} (x4 : Nat) (x5 : Option Addr) (x5n : Nat) (x5s : Nat) (x6 : Option Addr) (x6n : Nat) (x6s : Nat) (x11 : Option Addr) (x11n : Nat) (x11s : Nat) (x12 : Int) (x13 : Int) (x18 : Option Addr) (x18n : Nat) (x18s : Nat) (x19 : Int) (x20 : Int) (nx : Env → H → Option R) (K : Exit → Env → H → Option R) : evCode P30 (ev30 r n) (jmp30 r n 23) (dead30 23) r 2 (pc [1, 0, 1, 0, 0, 1, 1, 0, 0, 1, 1, 0, 1, 0, 0] (bd Tryz.f23)) (E23_8 (.pointer (some ⟨x4, 0, none⟩)) (.slice x5 x5n x5s) (.slice x6 x6n x6s) (.slice x11 x11n x11s) (.int .i64 x12) (.int .i64 x13) (.slice x18 x18n x18s) (.int .i64 x19) (.int .i64 x20)) h (loopK nx (dead30 23 (4 * 2)) (dead30 23 (4 * 2 + 2)) (dead30 23 1000002) K) =
  bif decide (x20 < x19) then
    indexAddrA P30 63 (Value.slice x18 x18n x18s) (Value.int IntKind.i64 x20) fun v0 =>
      addrK v0 fun o1 o2 =>
        optK (ldV P30 81 o1 o2 h) fun v3 =>
          castA v3 fun cs4 =>
            ifK (cellsOf P30 81 = some (Value.agg cs4).cells.size)
              (optK
                (stCells
                  (h.new
                    (Blk.cells
                      [Value.string (txt []), Value.string (txt []), Value.int IntKind.i64 0, Value.int IntKind.i64 0, Value.int IntKind.i64 0,
                        Value.int IntKind.i64 0, Value.int IntKind.i64 0, Value.int IntKind.i64 0, Value.int IntKind.i64 0, Value.int IntKind.i64 0]
                      false))
                  h.1 0 (Value.agg cs4).cells.toList)
                fun h5 =>
                optK (ldV P30 3 h.1 9 h5) fun v6 =>
                  castI IntKind.i64 v6 fun n7 =>
                    appendA P30 { toList := [28, 28] } (Value.slice x5 x5n x5s) (Value.slice (some { block := h5.1, off := 0 }) 1 1) (h5.new (Blk.cells [Value.int IntKind.i64 n7] false)) fun v8 h9 =>
                      castSl v8 fun a10 o11 o12 =>
                        optK (ldV P30 3 h.1 8 h9) fun v13 =>
                          castI IntKind.i64 v13 fun n14 =>
                            bif sameLd P30 3 h.1 8 (Value.int IntKind.i64 n14) h5 then
                              appendA P30 { toList := [28, 28] } (Value.slice x6 x6n x6s) (Value.slice (some { block := h9.1, off := 0 }) 1 1) (h9.new (Blk.cells [Value.int IntKind.i64 n14] false))
                                fun v15 h16 =>
                                castSl v15 fun a17 o18 o19 =>
                                  nx
                                    (E23_8 (Value.pointer (some { block := x4, off := 0 })) (Value.slice a10 o11 o12) (Value.slice a17 o18 o19) (Value.slice x11 x11n x11s) (Value.int IntKind.i64 x12)
                                      (Value.int IntKind.i64 x13) (Value.slice x18 x18n x18s) (Value.int IntKind.i64 x19) (Value.int IntKind.i64 (IntKind.i64.wrap (x20 + 1))))
                                    h16
                            else none)
  else
    K (Exit.exit 2)
      (E23_10 (Value.pointer (some { block := x4, off := 0 })) (Value.slice x5 x5n x5s) (Value.slice x6 x6n x6s) (Value.slice x11 x11n x11s) (Value.int IntKind.i64 x12) (Value.int IntKind.i64 x13)) h := by kernel_rfl

theorem e23_8x2 (r n : Nat) (h : H) {R : Type} (x4 : Nat) (x5 : Option Addr) (x5n : Nat) (x5s : Nat) (x6 : Option Addr) (x6n : Nat) (x6s : Nat) (x11 : Option Addr) (x11n : Nat) (x11s : Nat) (x12 : Int) (x13 : Int) (nx : Env → H → Option R) (K : Exit → Env → H → Option R) : (blockK 2 (seqK (after P30 (ev30 r n) (jmp30 r n 23) (dead30 23) r 1 (pc [1, 0, 1, 0, 0, 1, 1, 0, 0, 1, 1, 1] (bd Tryz.f23)) (blockK 1 (seqK (after P30 (ev30 r n) (jmp30 r n 23) (dead30 23) r 0 (pc [1, 0, 1, 0, 0, 1, 1, 1] (bd Tryz.f23)) (loopK nx (dead30 23 (4 * 0)) (dead30 23 (4 * 0 + 2)) (dead30 23 1000002) K)) (loopK nx (dead30 23 (4 * 0)) (dead30 23 (4 * 0 + 2)) (dead30 23 1000002) K)))) (blockK 1 (seqK (after P30 (ev30 r n) (jmp30 r n 23) (dead30 23) r 0 (pc [1, 0, 1, 0, 0, 1, 1, 1] (bd Tryz.f23)) (loopK nx (dead30 23 (4 * 0)) (dead30 23 (4 * 0 + 2)) (dead30 23 1000002) K)) (loopK nx (dead30 23 (4 * 0)) (dead30 23 (4 * 0 + 2)) (dead30 23 1000002) K))))) (.exit 2) (E23_10 (.pointer (some ⟨x4, 0, none⟩)) (.slice x5 x5n x5s) (.slice x6 x6n x6s) (.slice x11 x11n x11s) (.int .i64 x12) (.int .i64 x13)) h =
  optK (ldV P30 3 x4 14 h) fun v0 =>
    castI IntKind.i64 v0 fun n1 =>
      callK (ev30 r n) 55 [Value.int IntKind.i64 n1, Value.slice x5 x5n x5s] h fun v2 h3 =>
        castV v2 fun b4 =>
          bif !b4 then K Exit.ret (E23_r (Value.bool false)) h3
          else
            optK (ldV P30 3 x4 11 h3) fun v5 =>
              castI IntKind.i64 v5 fun n6 =>
                callK (ev30 r n) 55 [Value.int IntKind.i64 n6, Value.slice x6 x6n x6s] h3 fun v7 h8 =>
                  castV v7 fun b9 =>
                    bif !b9 then K Exit.ret (E23_r (Value.bool false)) h8 else nx (E23_0 (Value.slice x11 x11n x11s) (Value.int IntKind.i64 x12) (Value.int IntKind.i64 (IntKind.i64.wrap (x13 + 1)))) h8 := by kernel_rfl

theorem e24 (r n : Nat) (h : H) (a0_0 : Option Addr) (a0_0n : Nat) (a0_0s : Nat) (a0_1 : Option Addr) (a0_1n : Nat) (a0_1s : Nat) (a0_2 : Option Addr) (a0_2n : Nat) (a0_2s : Nat) (a0_3 : Int) (a0_4 : Int) (a0_5 : Int) (a0_6 : Int) (a0_7 : Int) (a0_8 : Int) (a0_9 : Int) (a0_10 : Bool) (a0_11 : Option Addr) (a0_11n : Nat) (a0_11s : Nat) (a0_12 : Option Addr) (a0_12n : Nat) (a0_12s : Nat) (a0_13 : Option Addr) (a0_13n : Nat) (a0_13s : Nat) (a0_14 : Option Addr) (a0_14n : Nat) (a0_14s : Nat) (a0_15 : Option Addr) (a0_15n : Nat) (a0_15s : Nat) : ev30 r (n + 1) 24 [.agg #[.slice a0_0 a0_0n a0_0s, .slice a0_1 a0_1n a0_1s, .slice a0_2 a0_2n a0_2s, .int .i64 a0_3, .int .i64 a0_4, .int .i64 a0_5, .int .i64 a0_6, .int .i64 a0_7, .int .i64 a0_8, .int .i64 a0_9, .bool a0_10, .slice a0_11 a0_11n a0_11s, .slice a0_12 a0_12n a0_12s, .slice a0_13 a0_13n a0_13s, .slice a0_14 a0_14n a0_14s, .slice a0_15 a0_15n a0_15s]] h =
  jumpK
    (jmp30 r n 24 0 (pc [1] (bd Tryz.f24)) (E24_3 (Value.pointer (some { block := h.1, off := 0 })))
      (h.new
        (Blk.cells
          [Value.slice a0_0 a0_0n a0_0s, Value.slice a0_1 a0_1n a0_1s, Value.slice a0_2 a0_2n a0_2s, Value.int IntKind.i64 a0_3, Value.int IntKind.i64 a0_4, Value.int IntKind.i64 a0_5,
            Value.int IntKind.i64 a0_6, Value.int IntKind.i64 a0_7, Value.int IntKind.i64 a0_8, Value.int IntKind.i64 a0_9, Value.bool a0_10, Value.slice a0_11 a0_11n a0_11s,
            Value.slice a0_12 a0_12n a0_12s, Value.slice a0_13 a0_13n a0_13s, Value.slice a0_14 a0_14n a0_14s, Value.slice a0_15 a0_15n a0_15s]
          false)))
    (finK P30 [ResultVar.tmp 2]) := by kernel_rfl

theorem e24_3c (r n : Nat) (h : H) (x1 : Nat) : jmp30 r (n + 1) 24 0 (pc [1] (bd Tryz.f24)) (E24_3 (.pointer (some ⟨x1, 0, none⟩))) h =
  optK (ldV P30 27 x1 11 h) fun v0 =>
    castSl v0 fun a1 o2 o3 =>
      evLoop (evCode P30 (ev30 r n) (jmp30 r n 24) (dead30 24) r 0 (pc [1, 0, 1, 0, 0] (bd Tryz.f24))) (dead30 24 (4 * 0)) (dead30 24 (4 * 0 + 2))
        (dead30 24 1000002) r (E24_0 (Value.slice a1 o2 o3) (Value.int IntKind.i64 (↑o2 : Int)) (Value.int IntKind.i64 0)) h
        (blockK 0
          (seqK (after P30 (ev30 r n) (jmp30 r n 24) (dead30 24) r 0 (pc [1, 1] (bd Tryz.f24)) (outK (dead30 24) (key (pc [1] (bd Tryz.f24)))))
            (outK (dead30 24) (key (pc [1] (bd Tryz.f24)))))) := by kernel_rfl

theorem e24_3r (h : H) (x2 : Bool) : (finK P30 [.tmp 2]) .ret (E24_r (.bool x2)) h =
  some (Value.bool x2, h) := by kernel_rfl

theorem e24_0 (r n : Nat) (h : H) {R : Type} (x9 : Option Addr) (x9n : Nat) (x9s : Nat) (x10 : Int) (x11 : Int) (nx : Env → H → Option R) (K : Exit → Env → H → Option R) : evCode P30 (ev30 r n) (jmp30 r n 24) (dead30 24) r 0 (pc [1, 0, 1, 0, 0] (bd Tryz.f24)) (E24_0 (.slice x9 x9n x9s) (.int .i64 x10) (.int .i64 x11)) h (loopK nx (dead30 24 (4 * 0)) (dead30 24 (4 * 0 + 2)) (dead30 24 1000002) K) =
  bif decide (x11 < x10) then
    indexAddrA P30 27 (Value.slice x9 x9n x9s) (Value.int IntKind.i64 x11) fun v0 =>
      addrK v0 fun o1 o2 =>
        optK (ldV P30 65 o1 o2 h) fun v3 =>
          castA v3 fun cs4 =>
            ifK (cellsOf P30 65 = some (Value.agg cs4).cells.size)
              (optK
                (stCells
                  (h.new
                    (Blk.cells
                      [Value.string (txt []), Value.string (txt []), Value.string (txt []), Value.int IntKind.i64 0, Value.int IntKind.i64 0,
                        Value.int IntKind.i64 0, Value.int IntKind.i64 0, Value.int IntKind.i64 0, Value.int IntKind.i64 0, Value.int IntKind.i64 0, Value.int IntKind.i64 0, Value.int IntKind.i64 0,
                        Value.int IntKind.i64 0, Value.int IntKind.i64 0, Value.int IntKind.i64 0, Value.int IntKind.i64 0, Value.slice none 0 0]
                      false))
                  h.1 0 (Value.agg cs4).cells.toList)
                fun h5 =>
                optK (ldV P30 3 h.1 11 h5) fun v6 =>
                  castI IntKind.i64 v6 fun n7 =>
                    optK (ldV P30 3 h.1 12 h5) fun v8 =>
                      castI IntKind.i64 v8 fun n9 =>
                        optK (ldV P30 3 h.1 14 h5) fun v10 =>
                          castI IntKind.i64 v10 fun n11 =>
                            callK (ev30 r n) 56 [Value.slice (some { block := h5.1, off := 0 }) 3 1]
                              (h5.new (Blk.cells [Value.int IntKind.i64 n7, Value.int IntKind.i64 n9, Value.int IntKind.i64 n11] false)) fun v12 h13 =>
                              castTup v12 fun l14 =>
                                headK l14 fun v15 l16 =>
                                  castI IntKind.i64 v15 fun n17 =>
                                    headK l16 fun v18 l19 =>
                                      castI IntKind.i64 v18 fun n20 =>
                                        nilK l19 fun _ =>
                                          bif n20 != 0 then K Exit.ret (E24_r (Value.bool false)) h13
                                          else
                                            optK (ldV P30 3 h.1 10 h13) fun v22 =>
                                              castI IntKind.i64 v22 fun n23 =>
                                                bif decide (n17 > n23) then K Exit.ret (E24_r (Value.bool false)) h13
                                                else nx (E24_0 (Value.slice x9 x9n x9s) (Value.int IntKind.i64 x10) (Value.int IntKind.i64 (IntKind.i64.wrap (x11 + 1)))) h13)
  else K (Exit.exit 0) E24_2 h := by kernel_rfl

theorem e24_0x0 (r n : Nat) (h : H) : (blockK 0 (seqK (after P30 (ev30 r n) (jmp30 r n 24) (dead30 24) r 0 (pc [1, 1] (bd Tryz.f24)) (outK (dead30 24) (key (pc [1] (bd Tryz.f24))))) (outK (dead30 24) (key (pc [1] (bd Tryz.f24)))))) (.exit 0) (E24_2) h =
  some (Exit.ret, E24_r (Value.bool true), h) := by kernel_rfl

theorem e24_0r (r n : Nat) (h : H) (x2 : Bool) : (blockK 0 (seqK (after P30 (ev30 r n) (jmp30 r n 24) (dead30 24) r 0 (pc [1, 1] (bd Tryz.f24)) (outK (dead30 24) (key (pc [1] (bd Tryz.f24))))) (outK (dead30 24) (key (pc [1] (bd Tryz.f24)))))) .ret (E24_r (.bool x2)) h =
  some (Exit.ret, E24_r (Value.bool x2), h) := by kernel_rfl

theorem e25 (r n : Nat) (h : H) (a0_0 : Option Addr) (a0_0n : Nat) (a0_0s : Nat) (a0_1 : Option Addr) (a0_1n : Nat) (a0_1s : Nat) (a0_2 : Option Addr) (a0_2n : Nat) (a0_2s : Nat) (a0_3 : Int) (a0_4 : Int) (a0_5 : Int) (a0_6 : Int) (a0_7 : Int) (a0_8 : Int) (a0_9 : Int) (a0_10 : Bool) (a0_11 : Option Addr) (a0_11n : Nat) (a0_11s : Nat) (a0_12 : Option Addr) (a0_12n : Nat) (a0_12s : Nat) (a0_13 : Option Addr) (a0_13n : Nat) (a0_13s : Nat) (a0_14 : Option Addr) (a0_14n : Nat) (a0_14s : Nat) (a0_15 : Option Addr) (a0_15n : Nat) (a0_15s : Nat) : ev30 r (n + 1) 25 [.agg #[.slice a0_0 a0_0n a0_0s, .slice a0_1 a0_1n a0_1s, .slice a0_2 a0_2n a0_2s, .int .i64 a0_3, .int .i64 a0_4, .int .i64 a0_5, .int .i64 a0_6, .int .i64 a0_7, .int .i64 a0_8, .int .i64 a0_9, .bool a0_10, .slice a0_11 a0_11n a0_11s, .slice a0_12 a0_12n a0_12s, .slice a0_13 a0_13n a0_13s, .slice a0_14 a0_14n a0_14s, .slice a0_15 a0_15n a0_15s]] h =
  jumpK
    (jmp30 r n 25 0 (pc [1] (bd Tryz.f25)) (E25_3 (Value.pointer (some { block := h.1, off := 0 })))
      (h.new
        (Blk.cells
          [Value.slice a0_0 a0_0n a0_0s, Value.slice a0_1 a0_1n a0_1s, Value.slice a0_2 a0_2n a0_2s, Value.int IntKind.i64 a0_3, Value.int IntKind.i64 a0_4, Value.int IntKind.i64 a0_5,
            Value.int IntKind.i64 a0_6, Value.int IntKind.i64 a0_7, Value.int IntKind.i64 a0_8, Value.int IntKind.i64 a0_9, Value.bool a0_10, Value.slice a0_11 a0_11n a0_11s,
            Value.slice a0_12 a0_12n a0_12s, Value.slice a0_13 a0_13n a0_13s, Value.slice a0_14 a0_14n a0_14s, Value.slice a0_15 a0_15n a0_15s]
          false)))
    (finK P30 [ResultVar.tmp 2]) := by kernel_rfl

theorem e25_3c (r n : Nat) (h : H) (x1 : Nat) : jmp30 r (n + 1) 25 0 (pc [1] (bd Tryz.f25)) (E25_3 (.pointer (some ⟨x1, 0, none⟩))) h =
  optK (ldV P30 27 x1 11 h) fun v0 =>
    castSl v0 fun a1 o2 o3 =>
      evLoop (evCode P30 (ev30 r n) (jmp30 r n 25) (dead30 25) r 0 (pc [1, 0, 1, 0, 0] (bd Tryz.f25))) (dead30 25 (4 * 0)) (dead30 25 (4 * 0 + 2))
        (dead30 25 1000002) r (E25_0 (Value.pointer (some { block := x1, off := 0 })) (Value.slice a1 o2 o3) (Value.int IntKind.i64 (↑o2 : Int)) (Value.int IntKind.i64 0)) h
        (blockK 0
          (seqK (after P30 (ev30 r n) (jmp30 r n 25) (dead30 25) r 0 (pc [1, 1] (bd Tryz.f25)) (outK (dead30 25) (key (pc [1] (bd Tryz.f25)))))
            (outK (dead30 25) (key (pc [1] (bd Tryz.f25)))))) := by kernel_rfl

theorem e25_3r (h : H) (x2 : Bool) : (finK P30 [.tmp 2]) .ret (E25_r (.bool x2)) h =
  some (Value.bool x2, h) := by kernel_rfl

theorem e25_0 (r n : Nat) (h : H) {R : Type} (x1 : Nat) (x7 : Option Addr) (x7n : Nat) (x7s : Nat) (x8 : Int) (x9 : Int) (nx : Env → H → Option R) (K : Exit → Env → H → Option R) : evCode P30 (ev30 r n) (jmp30 r n 25) (dead30 25) r 0 (pc [1, 0, 1, 0, 0] (bd Tryz.f25)) (E25_0 (.pointer (some ⟨x1, 0, none⟩)) (.slice x7 x7n x7s) (.int .i64 x8) (.int .i64 x9)) h (loopK nx (dead30 25 (4 * 0)) (dead30 25 (4 * 0 + 2)) (dead30 25 1000002) K) =
  bif decide (x9 < x8) then
    indexAddrA P30 27 (Value.slice x7 x7n x7s) (Value.int IntKind.i64 x9) fun v0 =>
      addrK v0 fun o1 o2 =>
        optK (ldV P30 65 o1 o2 h) fun v3 =>
          castA v3 fun cs4 =>
            ifK (cellsOf P30 65 = some (Value.agg cs4).cells.size)
              (optK
                (stCells
                  (h.new
                    (Blk.cells
                      [Value.string (txt []), Value.string (txt []), Value.string (txt []), Value.int IntKind.i64 0, Value.int IntKind.i64 0,
                        Value.int IntKind.i64 0, Value.int IntKind.i64 0, Value.int IntKind.i64 0, Value.int IntKind.i64 0, Value.int IntKind.i64 0, Value.int IntKind.i64 0, Value.int IntKind.i64 0,
                        Value.int IntKind.i64 0, Value.int IntKind.i64 0, Value.int IntKind.i64 0, Value.int IntKind.i64 0, Value.slice none 0 0]
                      false))
                  h.1 0 (Value.agg cs4).cells.toList)
                fun h5 =>
                optK (ldV P30 3 h.1 4 h5) fun v6 =>
                  castI IntKind.i64 v6 fun n7 =>
                    bif decide (n7 > 4) then
                      optK (ldV P30 3 h.1 14 h5) fun v8 =>
                        castI IntKind.i64 v8 fun n9 =>
                          bif n9 != 0 then K Exit.ret (E25_r (Value.bool false)) h5
                          else
                            optK (ldV P30 28 x1 14 h5) fun v10 =>
                              castSl v10 fun a11 o12 o13 =>
                                indexAddrA P30 28 (Value.slice a11 o12 o13) (Value.int IntKind.i64 x9) fun v14 =>
                                  addrK v14 fun o15 o16 =>
                                    optK (ldV P30 3 o15 o16 h5) fun v17 =>
                                      castI IntKind.i64 v17 fun n18 =>
                                        bif n18 != 0 then K Exit.ret (E25_r (Value.bool false)) h5
                                        else
                                          optK (ldV P30 3 h.1 4 h5) fun v19 =>
                                            castI IntKind.i64 v19 fun n20 =>
                                              bif n20 == 5 then
                                                optK (ldV P30 3 h.1 11 h5) fun v21 =>
                                                  castI IntKind.i64 v21 fun n22 =>
                                                    optK (ldV P30 3 h.1 12 h5) fun v23 =>
                                                      castI IntKind.i64 v23 fun n24 =>
                                                        optK (ldV P30 3 h.1 6 h5) fun v25 =>
                                                          castI IntKind.i64 v25 fun n26 =>
                                                            bif decide (IntKind.i64.wrap (n22 + n24) < n26) then K Exit.ret (E25_r (Value.bool false)) h5
                                                            else
                                                              nx
                                                                (E25_0 (Value.pointer (some { block := x1, off := 0 })) (Value.slice x7 x7n x7s) (Value.int IntKind.i64 x8)
                                                                  (Value.int IntKind.i64 (IntKind.i64.wrap (x9 + 1))))
                                                                h5
                                              else
                                                nx
                                                  (E25_0 (Value.pointer (some { block := x1, off := 0 })) (Value.slice x7 x7n x7s) (Value.int IntKind.i64 x8)
                                                    (Value.int IntKind.i64 (IntKind.i64.wrap (x9 + 1))))
                                                  h5
                    else
                      optK (ldV P30 3 h.1 4 h5) fun v27 =>
                        castI IntKind.i64 v27 fun n28 =>
                          bif n28 == 5 then
                            optK (ldV P30 3 h.1 11 h5) fun v29 =>
                              castI IntKind.i64 v29 fun n30 =>
                                optK (ldV P30 3 h.1 12 h5) fun v31 =>
                                  castI IntKind.i64 v31 fun n32 =>
                                    optK (ldV P30 3 h.1 6 h5) fun v33 =>
                                      castI IntKind.i64 v33 fun n34 =>
                                        bif decide (IntKind.i64.wrap (n30 + n32) < n34) then K Exit.ret (E25_r (Value.bool false)) h5
                                        else
                                          nx
                                            (E25_0 (Value.pointer (some { block := x1, off := 0 })) (Value.slice x7 x7n x7s) (Value.int IntKind.i64 x8)
                                              (Value.int IntKind.i64 (IntKind.i64.wrap (x9 + 1))))
                                            h5
                          else nx (E25_0 (Value.pointer (some { block := x1, off := 0 })) (Value.slice x7 x7n x7s) (Value.int IntKind.i64 x8) (Value.int IntKind.i64 (IntKind.i64.wrap (x9 + 1)))) h5)
  else K (Exit.exit 0) E25_2 h := by kernel_rfl


end Go.Ev
