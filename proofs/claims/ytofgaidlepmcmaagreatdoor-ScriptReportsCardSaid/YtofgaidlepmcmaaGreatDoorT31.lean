/-
  ScriptReports: what the functions come to.
-/
import Derived.Test.YtofgaidlepmcmaaGreatDoorEvW
import Derived.KernelRfl
import Derived.Test.YtofgaidlepmcmaaGreatDoorProg
set_option linter.unusedVariables false
namespace Go.Ev
open Go Go.Proofs
def intr31 : FuncId → Option (List Value → H → Option (Value × H))
  | 4 => some trueI
  | 11 => some (writeI 48 5)
  | 12 => some itoaI
  | 16 => some (textI 48 5)
  | 26 => some joinI
  | 63 => some digitsI
  | 115 => some splitI
  | _ => none
def dead31 : FuncId → Nat → Option (List Nat)
  | 5, 0 => some [1, 8, 9, 10]
  | 5, 2 => some [1]
  | 5, 8 => some [1, 8, 9, 10, 25, 26, 27]
  | 5, 10 => some [1, 8, 9, 10]
  | 5, 13 => some [1, 4, 8, 9, 10]
  | 5, 1000002 => some [2]
  | 5, 2000013 => some [1, 8, 9, 10]
  | 6, 0 => some [1, 3, 27, 28, 29]
  | 6, 2 => some [1, 3]
  | 6, 8 => some [1, 3, 27, 28, 29, 63, 64, 65]
  | 6, 10 => some [1, 3, 27, 28, 29]
  | 6, 11 => some [1, 3]
  | 6, 16 => some [1, 3, 91, 92, 93]
  | 6, 18 => some [1, 3]
  | 6, 24 => some [3, 109, 110, 111]
  | 6, 26 => some [3]
  | 6, 1000002 => some [2]
  | 13, 0 => some [0, 7, 8, 9]
  | 13, 2 => some [0]
  | 17, 0 => some [2, 3, 23, 24, 25]
  | 17, 2 => some [2, 3]
  | 17, 8 => some [2, 3, 6, 23, 24, 25, 63, 64, 65]
  | 17, 10 => some [2, 3, 6, 23, 24, 25]
  | 18, 0 => some [1, 3, 4]
  | 18, 2 => some [1, 3]
  | 18, 8 => some [1, 3, 4, 5, 6]
  | 18, 9 => some [1, 3]
  | 18, 10 => some [1, 3, 4]
  | 18, 16 => some [1, 3, 8]
  | 18, 18 => some [1, 3]
  | 18, 24 => some [1, 3, 9]
  | 18, 26 => some [3]
  | 18, 1000002 => some [2]
  | 28, 0 => some [0, 1, 5]
  | 28, 2 => some [0]
  | _, _ => none
def E5_0 (v1 v8 v9 v10 : Value) : Env := [none, some v1, none, none, none, none, none, none, some v8, some v9, some v10, none, none, none, none, none, none, none, none, none, none, none, none, none, none, none, none, none, none, none, none, none, none, none, none, none, none, none, none, none, none, none, none, none, none, none, none, none, none, none, none, none, none, none, none, none, none, none, none]
def E5_2 (v1 : Value) : Env := [none, some v1, none, none, none, none, none, none, none, none, none, none, none, none, none, none, none, none, none, none, none, none, none, none, none, none, none, none, none, none, none, none, none, none, none, none, none, none, none, none, none, none, none, none, none, none, none, none, none, none, none, none, none, none, none, none, none, none, none]
def E5_8 (v1 v8 v9 v10 v25 v26 v27 : Value) : Env := [none, some v1, none, none, none, none, none, none, some v8, some v9, some v10, none, none, none, none, none, none, none, none, none, none, none, none, none, none, some v25, some v26, some v27, none, none, none, none, none, none, none, none, none, none, none, none, none, none, none, none, none, none, none, none, none, none, none, none, none, none, none, none, none, none, none]
def E5_13 (v1 v4 v8 v9 v10 : Value) : Env := [none, some v1, none, none, some v4, none, none, none, some v8, some v9, some v10, none, none, none, none, none, none, none, none, none, none, none, none, none, none, none, none, none, none, none, none, none, none, none, none, none, none, none, none, none, none, none, none, none, none, none, none, none, none, none, none, none, none, none, none, none, none, none, none]
def E5_r (v2 : Value) : Env := [none, none, some v2, none, none, none, none, none, none, none, none, none, none, none, none, none, none, none, none, none, none, none, none, none, none, none, none, none, none, none, none, none, none, none, none, none, none, none, none, none, none, none, none, none, none, none, none, none, none, none, none, none, none, none, none, none, none, none, none]
def E6_0 (v1 v3 v27 v28 v29 : Value) : Env := [none, some v1, none, some v3, none, none, none, none, none, none, none, none, none, none, none, none, none, none, none, none, none, none, none, none, none, none, none, some v27, some v28, some v29, none, none, none, none, none, none, none, none, none, none, none, none, none, none, none, none, none, none, none, none, none, none, none, none, none, none, none, none, none, none, none, none, none, none, none, none, none, none, none, none, none, none, none, none, none, none, none, none, none, none, none, none, none, none, none, none, none, none, none, none, none, none, none, none, none, none, none, none, none, none, none, none, none, none, none, none, none, none, none, none, none, none, none, none, none, none, none, none, none, none, none, none]
def E6_2 (v1 v3 : Value) : Env := [none, some v1, none, some v3, none, none, none, none, none, none, none, none, none, none, none, none, none, none, none, none, none, none, none, none, none, none, none, none, none, none, none, none, none, none, none, none, none, none, none, none, none, none, none, none, none, none, none, none, none, none, none, none, none, none, none, none, none, none, none, none, none, none, none, none, none, none, none, none, none, none, none, none, none, none, none, none, none, none, none, none, none, none, none, none, none, none, none, none, none, none, none, none, none, none, none, none, none, none, none, none, none, none, none, none, none, none, none, none, none, none, none, none, none, none, none, none, none, none, none, none, none, none]
def E6_8 (v1 v3 v27 v28 v29 v63 v64 v65 : Value) : Env := [none, some v1, none, some v3, none, none, none, none, none, none, none, none, none, none, none, none, none, none, none, none, none, none, none, none, none, none, none, some v27, some v28, some v29, none, none, none, none, none, none, none, none, none, none, none, none, none, none, none, none, none, none, none, none, none, none, none, none, none, none, none, none, none, none, none, none, none, some v63, some v64, some v65, none, none, none, none, none, none, none, none, none, none, none, none, none, none, none, none, none, none, none, none, none, none, none, none, none, none, none, none, none, none, none, none, none, none, none, none, none, none, none, none, none, none, none, none, none, none, none, none, none, none, none, none, none, none, none, none]
def E6_16 (v1 v3 v91 v92 v93 : Value) : Env := [none, some v1, none, some v3, none, none, none, none, none, none, none, none, none, none, none, none, none, none, none, none, none, none, none, none, none, none, none, none, none, none, none, none, none, none, none, none, none, none, none, none, none, none, none, none, none, none, none, none, none, none, none, none, none, none, none, none, none, none, none, none, none, none, none, none, none, none, none, none, none, none, none, none, none, none, none, none, none, none, none, none, none, none, none, none, none, none, none, none, none, none, none, some v91, some v92, some v93, none, none, none, none, none, none, none, none, none, none, none, none, none, none, none, none, none, none, none, none, none, none, none, none, none, none, none, none]
def E6_24 (v3 v109 v110 v111 : Value) : Env := [none, none, none, some v3, none, none, none, none, none, none, none, none, none, none, none, none, none, none, none, none, none, none, none, none, none, none, none, none, none, none, none, none, none, none, none, none, none, none, none, none, none, none, none, none, none, none, none, none, none, none, none, none, none, none, none, none, none, none, none, none, none, none, none, none, none, none, none, none, none, none, none, none, none, none, none, none, none, none, none, none, none, none, none, none, none, none, none, none, none, none, none, none, none, none, none, none, none, none, none, none, none, none, none, none, none, none, none, none, none, some v109, some v110, some v111, none, none, none, none, none, none, none, none, none, none]
def E6_26 (v3 : Value) : Env := [none, none, none, some v3, none, none, none, none, none, none, none, none, none, none, none, none, none, none, none, none, none, none, none, none, none, none, none, none, none, none, none, none, none, none, none, none, none, none, none, none, none, none, none, none, none, none, none, none, none, none, none, none, none, none, none, none, none, none, none, none, none, none, none, none, none, none, none, none, none, none, none, none, none, none, none, none, none, none, none, none, none, none, none, none, none, none, none, none, none, none, none, none, none, none, none, none, none, none, none, none, none, none, none, none, none, none, none, none, none, none, none, none, none, none, none, none, none, none, none, none, none, none]
def E6_r (v2 : Value) : Env := [none, none, some v2, none, none, none, none, none, none, none, none, none, none, none, none, none, none, none, none, none, none, none, none, none, none, none, none, none, none, none, none, none, none, none, none, none, none, none, none, none, none, none, none, none, none, none, none, none, none, none, none, none, none, none, none, none, none, none, none, none, none, none, none, none, none, none, none, none, none, none, none, none, none, none, none, none, none, none, none, none, none, none, none, none, none, none, none, none, none, none, none, none, none, none, none, none, none, none, none, none, none, none, none, none, none, none, none, none, none, none, none, none, none, none, none, none, none, none, none, none, none, none]
def E13_0 (v0 v7 v8 v9 : Value) : Env := [some v0, none, none, none, none, none, none, some v7, some v8, some v9, none, none, none, none, none, none, none, none, none, none, none, none]
def E13_2 (v0 : Value) : Env := [some v0, none, none, none, none, none, none, none, none, none, none, none, none, none, none, none, none, none, none, none, none, none]
def E17_0 (v2 v3 v23 v24 v25 : Value) : Env := [none, none, some v2, some v3, none, none, none, none, none, none, none, none, none, none, none, none, none, none, none, none, none, none, none, some v23, some v24, some v25, none, none, none, none, none, none, none, none, none, none, none, none, none, none, none, none, none, none, none, none, none, none, none, none, none, none, none, none, none, none, none, none, none, none, none, none, none, none, none, none, none, none, none, none, none, none, none, none, none, none, none, none, none, none, none, none, none, none]
def E17_2 (v2 v3 : Value) : Env := [none, none, some v2, some v3, none, none, none, none, none, none, none, none, none, none, none, none, none, none, none, none, none, none, none, none, none, none, none, none, none, none, none, none, none, none, none, none, none, none, none, none, none, none, none, none, none, none, none, none, none, none, none, none, none, none, none, none, none, none, none, none, none, none, none, none, none, none, none, none, none, none, none, none, none, none, none, none, none, none, none, none, none, none, none, none]
def E17_8 (v2 v3 v6 v23 v24 v25 v63 v64 v65 : Value) : Env := [none, none, some v2, some v3, none, none, some v6, none, none, none, none, none, none, none, none, none, none, none, none, none, none, none, none, some v23, some v24, some v25, none, none, none, none, none, none, none, none, none, none, none, none, none, none, none, none, none, none, none, none, none, none, none, none, none, none, none, none, none, none, none, none, none, none, none, none, none, some v63, some v64, some v65, none, none, none, none, none, none, none, none, none, none, none, none, none, none, none, none, none, none]
def E17_10 (v2 v3 v6 v23 v24 v25 : Value) : Env := [none, none, some v2, some v3, none, none, some v6, none, none, none, none, none, none, none, none, none, none, none, none, none, none, none, none, some v23, some v24, some v25, none, none, none, none, none, none, none, none, none, none, none, none, none, none, none, none, none, none, none, none, none, none, none, none, none, none, none, none, none, none, none, none, none, none, none, none, none, none, none, none, none, none, none, none, none, none, none, none, none, none, none, none, none, none, none, none, none, none]
def E18_0 (v1 v3 v4 : Value) : Env := [none, some v1, none, some v3, some v4, none, none, none, none, none, none, none, none, none, none, none, none, none, none, none, none, none, none, none, none, none, none, none, none, none, none, none, none, none, none, none, none, none, none, none, none, none, none, none, none, none, none, none, none, none, none, none, none, none, none, none, none, none, none, none, none, none, none, none, none, none, none, none, none, none, none, none, none, none, none, none, none, none, none, none, none, none, none, none, none, none, none, none, none, none, none, none, none, none, none, none, none, none, none, none, none, none, none, none, none, none, none, none, none, none, none, none, none, none, none, none, none, none, none, none, none, none, none, none, none, none, none, none, none, none, none, none, none, none]
def E18_2 (v1 v3 : Value) : Env := [none, some v1, none, some v3, none, none, none, none, none, none, none, none, none, none, none, none, none, none, none, none, none, none, none, none, none, none, none, none, none, none, none, none, none, none, none, none, none, none, none, none, none, none, none, none, none, none, none, none, none, none, none, none, none, none, none, none, none, none, none, none, none, none, none, none, none, none, none, none, none, none, none, none, none, none, none, none, none, none, none, none, none, none, none, none, none, none, none, none, none, none, none, none, none, none, none, none, none, none, none, none, none, none, none, none, none, none, none, none, none, none, none, none, none, none, none, none, none, none, none, none, none, none, none, none, none, none, none, none, none, none, none, none, none, none]
def E18_8 (v1 v3 v4 v5 v6 : Value) : Env := [none, some v1, none, some v3, some v4, some v5, some v6, none, none, none, none, none, none, none, none, none, none, none, none, none, none, none, none, none, none, none, none, none, none, none, none, none, none, none, none, none, none, none, none, none, none, none, none, none, none, none, none, none, none, none, none, none, none, none, none, none, none, none, none, none, none, none, none, none, none, none, none, none, none, none, none, none, none, none, none, none, none, none, none, none, none, none, none, none, none, none, none, none, none, none, none, none, none, none, none, none, none, none, none, none, none, none, none, none, none, none, none, none, none, none, none, none, none, none, none, none, none, none, none, none, none, none, none, none, none, none, none, none, none, none, none, none, none, none]
def E18_16 (v1 v3 v8 : Value) : Env := [none, some v1, none, some v3, none, none, none, none, some v8, none, none, none, none, none, none, none, none, none, none, none, none, none, none, none, none, none, none, none, none, none, none, none, none, none, none, none, none, none, none, none, none, none, none, none, none, none, none, none, none, none, none, none, none, none, none, none, none, none, none, none, none, none, none, none, none, none, none, none, none, none, none, none, none, none, none, none, none, none, none, none, none, none, none, none, none, none, none, none, none, none, none, none, none, none, none, none, none, none, none, none, none, none, none, none, none, none, none, none, none, none, none, none, none, none, none, none, none, none, none, none, none, none, none, none, none, none, none, none, none, none, none, none, none, none]
def E18_24 (v1 v3 v9 : Value) : Env := [none, some v1, none, some v3, none, none, none, none, none, some v9, none, none, none, none, none, none, none, none, none, none, none, none, none, none, none, none, none, none, none, none, none, none, none, none, none, none, none, none, none, none, none, none, none, none, none, none, none, none, none, none, none, none, none, none, none, none, none, none, none, none, none, none, none, none, none, none, none, none, none, none, none, none, none, none, none, none, none, none, none, none, none, none, none, none, none, none, none, none, none, none, none, none, none, none, none, none, none, none, none, none, none, none, none, none, none, none, none, none, none, none, none, none, none, none, none, none, none, none, none, none, none, none, none, none, none, none, none, none, none, none, none, none, none, none]
def E18_26 (v3 : Value) : Env := [none, none, none, some v3, none, none, none, none, none, none, none, none, none, none, none, none, none, none, none, none, none, none, none, none, none, none, none, none, none, none, none, none, none, none, none, none, none, none, none, none, none, none, none, none, none, none, none, none, none, none, none, none, none, none, none, none, none, none, none, none, none, none, none, none, none, none, none, none, none, none, none, none, none, none, none, none, none, none, none, none, none, none, none, none, none, none, none, none, none, none, none, none, none, none, none, none, none, none, none, none, none, none, none, none, none, none, none, none, none, none, none, none, none, none, none, none, none, none, none, none, none, none, none, none, none, none, none, none, none, none, none, none, none, none]
def E18_r (v2 : Value) : Env := [none, none, some v2, none, none, none, none, none, none, none, none, none, none, none, none, none, none, none, none, none, none, none, none, none, none, none, none, none, none, none, none, none, none, none, none, none, none, none, none, none, none, none, none, none, none, none, none, none, none, none, none, none, none, none, none, none, none, none, none, none, none, none, none, none, none, none, none, none, none, none, none, none, none, none, none, none, none, none, none, none, none, none, none, none, none, none, none, none, none, none, none, none, none, none, none, none, none, none, none, none, none, none, none, none, none, none, none, none, none, none, none, none, none, none, none, none, none, none, none, none, none, none, none, none, none, none, none, none, none, none, none, none, none, none]
def E28_0 (v0 v1 v5 : Value) : Env := [some v0, some v1, none, none, none, some v5, none, none, none, none, none, none, none, none, none, none, none, none, none, none, none, none]
def E28_2 (v0 : Value) : Env := [some v0, none, none, none, none, none, none, none, none, none, none, none, none, none, none, none, none, none, none, none, none, none]
noncomputable abbrev P31 := Tryz.prog
noncomputable abbrev ev31 (r n : Nat) : CallF := evCall P31 dead31 intr31 r n
noncomputable abbrev jmp31 (r n : Nat) : FuncId → JmpF := evJmp P31 dead31 intr31 r n

theorem e3 (r n : Nat) (h : H) (a0_0 : Int) (a0_1 : Bool) (a0_2 : Option Addr) (a0_2n : Nat) (a0_2s : Nat) (a0_3 : Option Addr) (a0_3n : Nat) (a0_3s : Nat) (a0_4 : Option Addr) (a0_4n : Nat) (a0_4s : Nat) (a0_5 : Option Addr) (a0_5n : Nat) (a0_5s : Nat) (a0_6 : Option Addr) (a0_6n : Nat) (a0_6s : Nat) : ev31 r (n + 1) 3 [.agg #[.int .i64 a0_0, .bool a0_1, .slice a0_2 a0_2n a0_2s, .slice a0_3 a0_3n a0_3s, .slice a0_4 a0_4n a0_4s, .slice a0_5 a0_5n a0_5s, .slice a0_6 a0_6n a0_6s]] h =
  callK (ev31 r n) 4 []
    (h.new
      (Blk.cells
        [Value.int IntKind.i64 a0_0, Value.bool a0_1, Value.slice a0_2 a0_2n a0_2s, Value.slice a0_3 a0_3n a0_3s, Value.slice a0_4 a0_4n a0_4s, Value.slice a0_5 a0_5n a0_5s,
          Value.slice a0_6 a0_6n a0_6s]
        false))
    fun v0 h1 =>
    castV v0 fun b2 =>
      bif !b2 then some (Value.bool false, h1)
      else
        optK (ldV P31 25 h.1 0 h1) fun v3 =>
          castA v3 fun cs4 =>
            callK (ev31 r n) 5 [Value.agg cs4] h1 fun v5 h6 =>
              castV v5 fun b7 =>
                bif !b7 then some (Value.bool true, h6)
                else
                  optK (ldV P31 25 h.1 0 h6) fun v8 =>
                    castA v8 fun cs9 =>
                      callK (ev31 r n) 6 [Value.agg cs9] h6 fun v10 h11 =>
                        castS v10 fun s12 =>
                          optK (ldV P31 25 h.1 0 h11) fun v13 =>
                            castA v13 fun cs14 =>
                              bif sameLd P31 25 h.1 0 (Value.agg cs14) h6 then
                                callK (ev31 r n) 7 [Value.agg cs14] h11 fun v15 h16 => castS v15 fun s17 => some (Value.bool (s12.toList == s17.toList), h16)
                              else none := by kernel_rfl

theorem e5 (r n : Nat) (h : H) (a0_0 : Int) (a0_1 : Bool) (a0_2 : Option Addr) (a0_2n : Nat) (a0_2s : Nat) (a0_3 : Option Addr) (a0_3n : Nat) (a0_3s : Nat) (a0_4 : Option Addr) (a0_4n : Nat) (a0_4s : Nat) (a0_5 : Option Addr) (a0_5n : Nat) (a0_5s : Nat) (a0_6 : Option Addr) (a0_6n : Nat) (a0_6s : Nat) : ev31 r (n + 1) 5 [.agg #[.int .i64 a0_0, .bool a0_1, .slice a0_2 a0_2n a0_2s, .slice a0_3 a0_3n a0_3s, .slice a0_4 a0_4n a0_4s, .slice a0_5 a0_5n a0_5s, .slice a0_6 a0_6n a0_6s]] h =
  optK
    (ldV P31 22 h.1 2
      (h.new
        (Blk.cells
          [Value.int IntKind.i64 a0_0, Value.bool a0_1, Value.slice a0_2 a0_2n a0_2s, Value.slice a0_3 a0_3n a0_3s, Value.slice a0_4 a0_4n a0_4s, Value.slice a0_5 a0_5n a0_5s,
            Value.slice a0_6 a0_6n a0_6s]
          false)))
    fun v0 =>
    castSl v0 fun a1 o2 o3 =>
      evLoop (evCode P31 (ev31 r n) (jmp31 r n 5) (dead31 5) r 0 (pc [1, 0, 1, 0, 0] (bd Tryz.f5))) (dead31 5 (4 * 0)) (dead31 5 (4 * 0 + 2))
        (dead31 5 1000002) r (E5_0 (Value.pointer (some { block := h.1, off := 0 })) (Value.slice a1 o2 o3) (Value.int IntKind.i64 (↑o2 : Int)) (Value.int IntKind.i64 0))
        (h.new
          (Blk.cells
            [Value.int IntKind.i64 a0_0, Value.bool a0_1, Value.slice a0_2 a0_2n a0_2s, Value.slice a0_3 a0_3n a0_3s, Value.slice a0_4 a0_4n a0_4s, Value.slice a0_5 a0_5n a0_5s,
              Value.slice a0_6 a0_6n a0_6s]
            false))
        (blockK 0
          (seqK (after P31 (ev31 r n) (jmp31 r n 5) (dead31 5) r 0 (pc [1, 1] (bd Tryz.f5)) (finK P31 [ResultVar.tmp 2])) (finK P31 [ResultVar.tmp 2]))) := by kernel_rfl

theorem e5_0 (r n : Nat) (h : H) {R : Type} (x1 : Nat) (x8 : Option Addr) (x8n : Nat) (x8s : Nat) (x9 : Int) (x10 : Int) (nx : Env → H → Option R) (K : Exit → Env → H → Option R) : evCode P31 (ev31 r n) (jmp31 r n 5) (dead31 5) r 0 (pc [1, 0, 1, 0, 0] (bd Tryz.f5)) (E5_0 (.pointer (some ⟨x1, 0, none⟩)) (.slice x8 x8n x8s) (.int .i64 x9) (.int .i64 x10)) h (loopK nx (dead31 5 (4 * 0)) (dead31 5 (4 * 0 + 2)) (dead31 5 1000002) K) =
  bif decide (x10 < x9) then
    indexAddrA P31 22 (Value.slice x8 x8n x8s) (Value.int IntKind.i64 x10) fun v0 =>
      addrK v0 fun o1 o2 =>
        optK (ldV P31 42 o1 o2 h) fun v3 =>
          castA v3 fun cs4 =>
            ifK (cellsOf P31 42 = some (Value.agg cs4).cells.size)
              (optK
                (stCells
                  (h.new
                    (Blk.cells
                      [Value.string (txt []), Value.string (txt []), Value.string (txt []), Value.int IntKind.i64 0, Value.int IntKind.i64 0,
                        Value.int IntKind.i64 0, Value.int IntKind.i64 0, Value.int IntKind.i64 0, Value.int IntKind.i64 0, Value.int IntKind.i64 0, Value.int IntKind.i64 0, Value.int IntKind.i64 0,
                        Value.int IntKind.i64 0, Value.int IntKind.i64 0, Value.int IntKind.i64 0, Value.int IntKind.i64 0, Value.slice none 0 0]
                      false))
                  h.1 0 (Value.agg cs4).cells.toList)
                fun h5 =>
                optK (ldV P31 9 h.1 0 h5) fun v6 =>
                  castS v6 fun s7 =>
                    bif decide ((↑s7.size : Int) > 100) then K Exit.ret (E5_r (Value.bool false)) h5
                    else
                      optK (ldV P31 40 h.1 16 h5) fun v8 =>
                        castSl v8 fun _ o10 _ =>
                          bif decide ((↑o10 : Int) > 40) then K Exit.ret (E5_r (Value.bool false)) h5
                          else
                            jumpK
                              (jmp31 r n 5 1 (pc [1, 0, 1, 0, 0, 1, 1, 0, 0, 1, 1] (bd Tryz.f5))
                                (E5_13 (Value.pointer (some { block := x1, off := 0 })) (Value.pointer (some { block := h.1, off := 0 })) (Value.slice x8 x8n x8s) (Value.int IntKind.i64 x9)
                                  (Value.int IntKind.i64 x10))
                                h5)
                              (blockK 1
                                (seqK
                                  (after P31 (ev31 r n) (jmp31 r n 5) (dead31 5) r 0 (pc [1, 0, 1, 0, 0, 1, 1, 1] (bd Tryz.f5)) (loopK nx (dead31 5 (4 * 0)) (dead31 5 (4 * 0 + 2)) (dead31 5 1000002) K))
                                  (loopK nx (dead31 5 (4 * 0)) (dead31 5 (4 * 0 + 2)) (dead31 5 1000002) K))))
  else K (Exit.exit 0) (E5_2 (Value.pointer (some { block := x1, off := 0 }))) h := by kernel_rfl

theorem e5_0x0 (r n : Nat) (h : H) (x1 : Nat) : (blockK 0 (seqK (after P31 (ev31 r n) (jmp31 r n 5) (dead31 5) r 0 (pc [1, 1] (bd Tryz.f5)) (finK P31 [.tmp 2])) (finK P31 [.tmp 2]))) (.exit 0) (E5_2 (.pointer (some ⟨x1, 0, none⟩))) h =
  optK (ldV P31 22 x1 2 h) fun v0 =>
    castSl v0 fun _ o2 _ =>
      bif decide ((↑o2 : Int) ≤ 30) then
        optK (ldV P31 23 x1 3 h) fun v4 =>
          castSl v4 fun _ o6 _ =>
            bif decide ((↑o6 : Int) ≤ 60) then optK (ldV P31 23 x1 6 h) fun v8 => castSl v8 fun _ o10 _ => some (Value.bool (decide ((↑o10 : Int) ≤ 60)), h) else some (Value.bool false, h)
      else some (Value.bool false, h) := by kernel_rfl

theorem e5_0r (r n : Nat) (h : H) (x2 : Bool) : (blockK 0 (seqK (after P31 (ev31 r n) (jmp31 r n 5) (dead31 5) r 0 (pc [1, 1] (bd Tryz.f5)) (finK P31 [.tmp 2])) (finK P31 [.tmp 2]))) .ret (E5_r (.bool x2)) h =
  some (Value.bool x2, h) := by kernel_rfl

theorem e5_13c (r n : Nat) (h : H) (x1 : Nat) (x4 : Nat) (x8 : Option Addr) (x8n : Nat) (x8s : Nat) (x9 : Int) (x10 : Int) : jmp31 r (n + 1) 5 1 (pc [1, 0, 1, 0, 0, 1, 1, 0, 0, 1, 1] (bd Tryz.f5)) (E5_13 (.pointer (some ⟨x1, 0, none⟩)) (.pointer (some ⟨x4, 0, none⟩)) (.slice x8 x8n x8s) (.int .i64 x9) (.int .i64 x10)) h =
  optK (ldV P31 40 x4 16 h) fun v0 =>
    castSl v0 fun a1 o2 o3 =>
      evLoop (evCode P31 (ev31 r n) (jmp31 r n 5) (dead31 5) r 2 (pc [1, 0, 1, 0, 0, 1, 1, 0, 0, 1, 1, 1, 0, 0] (bd Tryz.f5))) (dead31 5 (4 * 2))
        (dead31 5 (4 * 2 + 2)) (dead31 5 1000002) r
        (E5_8 (Value.pointer (some { block := x1, off := 0 })) (Value.slice x8 x8n x8s) (Value.int IntKind.i64 x9) (Value.int IntKind.i64 x10) (Value.slice a1 o2 o3) (Value.int IntKind.i64 (↑o2 : Int))
          (Value.int IntKind.i64 0))
        h (blockK 2 (outK (dead31 5) (key (pc [1, 0, 1, 0, 0, 1, 1, 0, 0, 1, 1] (bd Tryz.f5))))) := by kernel_rfl

theorem e5_13n (r n : Nat) (h : H) {R : Type} (x1 : Nat) (x8 : Option Addr) (x8n : Nat) (x8s : Nat) (x9 : Int) (x10 : Int) (nx : Env → H → Option R) (K : Exit → Env → H → Option R) : (blockK 1 (seqK (after P31 (ev31 r n) (jmp31 r n 5) (dead31 5) r 0 (pc [1, 0, 1, 0, 0, 1, 1, 1] (bd Tryz.f5)) (loopK nx (dead31 5 (4 * 0)) (dead31 5 (4 * 0 + 2)) (dead31 5 1000002) K)) (loopK nx (dead31 5 (4 * 0)) (dead31 5 (4 * 0 + 2)) (dead31 5 1000002) K))) .normal (E5_0 (.pointer (some ⟨x1, 0, none⟩)) (.slice x8 x8n x8s) (.int .i64 x9) (.int .i64 x10)) h =
  nx (E5_0 (Value.pointer (some { block := x1, off := 0 })) (Value.slice x8 x8n x8s) (Value.int IntKind.i64 x9) (Value.int IntKind.i64 (IntKind.i64.wrap (x10 + 1)))) h := by kernel_rfl

theorem e5_13r (r n : Nat) (h : H) {R : Type} (x2 : Bool) (nx : Env → H → Option R) (K : Exit → Env → H → Option R) : (blockK 1 (seqK (after P31 (ev31 r n) (jmp31 r n 5) (dead31 5) r 0 (pc [1, 0, 1, 0, 0, 1, 1, 1] (bd Tryz.f5)) (loopK nx (dead31 5 (4 * 0)) (dead31 5 (4 * 0 + 2)) (dead31 5 1000002) K)) (loopK nx (dead31 5 (4 * 0)) (dead31 5 (4 * 0 + 2)) (dead31 5 1000002) K))) .ret (E5_r (.bool x2)) h =
  K Exit.ret (E5_r (Value.bool x2)) h := by kernel_rfl

theorem e5_8 (r n : Nat) (h : H) {R : Type} (x1 : Nat) (x8 : Option Addr) (x8n : Nat) (x8s : Nat) (x9 : Int) (x10 : Int) (x25 : Option Addr) (x25n : Nat) (x25s : Nat) (x26 : Int) (x27 : Int) (nx : Env → H → Option R) (K : Exit → Env → H → Option R) : evCode P31 (ev31 r n) (jmp31 r n 5) (dead31 5) r 2 (pc [1, 0, 1, 0, 0, 1, 1, 0, 0, 1, 1, 1, 0, 0] (bd Tryz.f5)) (E5_8 (.pointer (some ⟨x1, 0, none⟩)) (.slice x8 x8n x8s) (.int .i64 x9) (.int .i64 x10) (.slice x25 x25n x25s) (.int .i64 x26) (.int .i64 x27)) h (loopK nx (dead31 5 (4 * 2)) (dead31 5 (4 * 2 + 2)) (dead31 5 1000002) K) =
  bif decide (x27 < x26) then
    indexAddrA P31 40 (Value.slice x25 x25n x25s) (Value.int IntKind.i64 x27) fun v0 =>
      addrK v0 fun o1 o2 =>
        optK (ldV P31 44 o1 o2 h) fun v3 =>
          castA v3 fun cs4 =>
            ifK (cellsOf P31 44 = some (Value.agg cs4).cells.size)
              (optK
                (stCells
                  (h.new
                    (Blk.cells
                      [Value.string (txt []), Value.string (txt []), Value.int IntKind.i64 0, Value.int IntKind.i64 0, Value.int IntKind.i64 0,
                        Value.int IntKind.i64 0, Value.int IntKind.i64 0, Value.int IntKind.i64 0, Value.int IntKind.i64 0, Value.int IntKind.i64 0]
                      false))
                  h.1 0 (Value.agg cs4).cells.toList)
                fun h5 =>
                optK (ldV P31 9 h.1 0 h5) fun v6 =>
                  castS v6 fun s7 =>
                    bif decide ((↑s7.size : Int) > 100) then K Exit.ret (E5_r (Value.bool false)) h5
                    else
                      optK (ldV P31 9 h.1 1 h5) fun v8 =>
                        castS v8 fun s9 =>
                          bif decide ((↑s9.size : Int) > 100) then K Exit.ret (E5_r (Value.bool false)) h5
                          else
                            nx
                              (E5_8 (Value.pointer (some { block := x1, off := 0 })) (Value.slice x8 x8n x8s) (Value.int IntKind.i64 x9) (Value.int IntKind.i64 x10) (Value.slice x25 x25n x25s)
                                (Value.int IntKind.i64 x26) (Value.int IntKind.i64 (IntKind.i64.wrap (x27 + 1))))
                              h5)
  else K (Exit.exit 2) (E5_0 (Value.pointer (some { block := x1, off := 0 })) (Value.slice x8 x8n x8s) (Value.int IntKind.i64 x9) (Value.int IntKind.i64 x10)) h := by kernel_rfl

theorem e5_8x2 (h : H) (x1 : Nat) (x8 : Option Addr) (x8n : Nat) (x8s : Nat) (x9 : Int) (x10 : Int) : (blockK 2 (outK (dead31 5) (key (pc [1, 0, 1, 0, 0, 1, 1, 0, 0, 1, 1] (bd Tryz.f5))))) (.exit 2) (E5_0 (.pointer (some ⟨x1, 0, none⟩)) (.slice x8 x8n x8s) (.int .i64 x9) (.int .i64 x10)) h =
  some (Exit.normal, E5_0 (Value.pointer (some { block := x1, off := 0 })) (Value.slice x8 x8n x8s) (Value.int IntKind.i64 x9) (Value.int IntKind.i64 x10), h) := by kernel_rfl

theorem e5_8r (h : H) (x2 : Bool) : (blockK 2 (outK (dead31 5) (key (pc [1, 0, 1, 0, 0, 1, 1, 0, 0, 1, 1] (bd Tryz.f5))))) .ret (E5_r (.bool x2)) h =
  some (Exit.ret, E5_r (Value.bool x2), h) := by kernel_rfl

theorem e6 (r n : Nat) (h : H) (a0_0 : Int) (a0_1 : Bool) (a0_2 : Option Addr) (a0_2n : Nat) (a0_2s : Nat) (a0_3 : Option Addr) (a0_3n : Nat) (a0_3s : Nat) (a0_4 : Option Addr) (a0_4n : Nat) (a0_4s : Nat) (a0_5 : Option Addr) (a0_5n : Nat) (a0_5s : Nat) (a0_6 : Option Addr) (a0_6n : Nat) (a0_6s : Nat) : ev31 r (n + 1) 6 [.agg #[.int .i64 a0_0, .bool a0_1, .slice a0_2 a0_2n a0_2s, .slice a0_3 a0_3n a0_3s, .slice a0_4 a0_4n a0_4s, .slice a0_5 a0_5n a0_5s, .slice a0_6 a0_6n a0_6s]] h =
  optK
    (ldV P31 4 h.1 1
      ((h.new
            (Blk.cells
              [Value.int IntKind.i64 a0_0, Value.bool a0_1, Value.slice a0_2 a0_2n a0_2s, Value.slice a0_3 a0_3n a0_3s, Value.slice a0_4 a0_4n a0_4s, Value.slice a0_5 a0_5n a0_5s,
                Value.slice a0_6 a0_6n a0_6s]
              false)).new
        (Blk.typed 48 [Value.pointer none, Value.slice none 0 0] true)))
    fun v0 =>
    castV v0 fun b1 =>
      bif b1 then
        optK
          (ldV P31 3 h.1 0
            ((h.new
                  (Blk.cells
                    [Value.int IntKind.i64 a0_0, Value.bool a0_1, Value.slice a0_2 a0_2n a0_2s, Value.slice a0_3 a0_3n a0_3s, Value.slice a0_4 a0_4n a0_4s, Value.slice a0_5 a0_5n a0_5s,
                      Value.slice a0_6 a0_6n a0_6s]
                    false)).new
              (Blk.typed 48 [Value.pointer none, Value.slice none 0 0] true)))
          fun v2 =>
          castI IntKind.i64 v2 fun n3 =>
            callK (ev31 r n) 12 [Value.int IntKind.i64 n3]
              ((h.new
                    (Blk.cells
                      [Value.int IntKind.i64 a0_0, Value.bool a0_1, Value.slice a0_2 a0_2n a0_2s, Value.slice a0_3 a0_3n a0_3s, Value.slice a0_4 a0_4n a0_4s, Value.slice a0_5 a0_5n a0_5s,
                        Value.slice a0_6 a0_6n a0_6s]
                      false)).new
                (Blk.typed 48 [Value.pointer none, Value.slice none 0 0] true))
              fun v4 h5 =>
              castS v4 fun s6 =>
                ifK (4 + s6.size ≤ 9223372036854775807)
                  (ifK (({ data := #[110, 111, 119, 32] } ++ s6).size + 8 ≤ 9223372036854775807)
                    (callK (ev31 r n) 11
                      [Value.pointer (some { block := h.1 + 1, off := 0 }), Value.string ({ data := #[110, 111, 119, 32] } ++ s6 ++ { data := #[32, 107, 105, 108, 108, 101, 100, 10] })] h5 fun v7 h8 =>
                      castTup v7 fun l9 =>
                        headK l9 fun v10 l11 =>
                          castI IntKind.i64 v10 fun _ =>
                            headK l11 fun _ l14 =>
                              nilK l14 fun _ =>
                                jumpK
                                  (jmp31 r n 6 0 (pc [1, 1, 1] (bd Tryz.f6))
                                    (E6_2 (Value.pointer (some { block := h.1, off := 0 })) (Value.pointer (some { block := h.1 + 1, off := 0 }))) h8)
                                  (finK P31 [ResultVar.tmp 2])))
      else
        optK
          (ldV P31 3 h.1 0
            ((h.new
                  (Blk.cells
                    [Value.int IntKind.i64 a0_0, Value.bool a0_1, Value.slice a0_2 a0_2n a0_2s, Value.slice a0_3 a0_3n a0_3s, Value.slice a0_4 a0_4n a0_4s, Value.slice a0_5 a0_5n a0_5s,
                      Value.slice a0_6 a0_6n a0_6s]
                    false)).new
              (Blk.typed 48 [Value.pointer none, Value.slice none 0 0] true)))
          fun v16 =>
          castI IntKind.i64 v16 fun n17 =>
            callK (ev31 r n) 12 [Value.int IntKind.i64 n17]
              ((h.new
                    (Blk.cells
                      [Value.int IntKind.i64 a0_0, Value.bool a0_1, Value.slice a0_2 a0_2n a0_2s, Value.slice a0_3 a0_3n a0_3s, Value.slice a0_4 a0_4n a0_4s, Value.slice a0_5 a0_5n a0_5s,
                        Value.slice a0_6 a0_6n a0_6s]
                      false)).new
                (Blk.typed 48 [Value.pointer none, Value.slice none 0 0] true))
              fun v18 h19 =>
              castS v18 fun s20 =>
                ifK (4 + s20.size ≤ 9223372036854775807)
                  (ifK (({ data := #[110, 111, 119, 32] } ++ s20).size + 1 ≤ 9223372036854775807)
                    (callK (ev31 r n) 11 [Value.pointer (some { block := h.1 + 1, off := 0 }), Value.string ({ data := #[110, 111, 119, 32] } ++ s20 ++ { data := #[10] })] h19
                      fun v21 h22 =>
                      castTup v21 fun l23 =>
                        headK l23 fun v24 l25 =>
                          castI IntKind.i64 v24 fun _ =>
                            headK l25 fun _ l28 =>
                              nilK l28 fun _ =>
                                jumpK
                                  (jmp31 r n 6 0 (pc [1, 1, 1] (bd Tryz.f6))
                                    (E6_2 (Value.pointer (some { block := h.1, off := 0 })) (Value.pointer (some { block := h.1 + 1, off := 0 }))) h22)
                                  (finK P31 [ResultVar.tmp 2]))) := by kernel_rfl

theorem e6_11c (r n : Nat) (h : H) (x1 : Nat) (x3 : Nat) : jmp31 r (n + 1) 6 0 (pc [1, 1, 1] (bd Tryz.f6)) (E6_2 (.pointer (some ⟨x1, 0, none⟩)) (.pointer (some ⟨x3, 0, none⟩))) h =
  optK (ldV P31 22 x1 2 h) fun v0 =>
    castSl v0 fun a1 o2 o3 =>
      evLoop (evCode P31 (ev31 r n) (jmp31 r n 6) (dead31 6) r 0 (pc [1, 1, 1, 0, 1, 0, 0] (bd Tryz.f6))) (dead31 6 (4 * 0)) (dead31 6 (4 * 0 + 2))
        (dead31 6 1000002) r
        (E6_0 (Value.pointer (some { block := x1, off := 0 })) (Value.pointer (some { block := x3, off := 0 })) (Value.slice a1 o2 o3) (Value.int IntKind.i64 (↑o2 : Int)) (Value.int IntKind.i64 0)) h
        (blockK 0
          (seqK (after P31 (ev31 r n) (jmp31 r n 6) (dead31 6) r 0 (pc [1, 1, 1, 1] (bd Tryz.f6)) (outK (dead31 6) (key (pc [1, 1, 1] (bd Tryz.f6)))))
            (outK (dead31 6) (key (pc [1, 1, 1] (bd Tryz.f6)))))) := by kernel_rfl

theorem e6_11r (h : H) (x2 : ByteArray) : (finK P31 [.tmp 2]) .ret (E6_r (.string x2)) h =
  some (Value.string x2, h) := by kernel_rfl

theorem e6_0 (r n : Nat) (h : H) {R : Type} (x1 : Nat) (x3 : Nat) (x27 : Option Addr) (x27n : Nat) (x27s : Nat) (x28 : Int) (x29 : Int) (nx : Env → H → Option R) (K : Exit → Env → H → Option R) : evCode P31 (ev31 r n) (jmp31 r n 6) (dead31 6) r 0 (pc [1, 1, 1, 0, 1, 0, 0] (bd Tryz.f6)) (E6_0 (.pointer (some ⟨x1, 0, none⟩)) (.pointer (some ⟨x3, 0, none⟩)) (.slice x27 x27n x27s) (.int .i64 x28) (.int .i64 x29)) h (loopK nx (dead31 6 (4 * 0)) (dead31 6 (4 * 0 + 2)) (dead31 6 1000002) K) =
  bif decide (x29 < x28) then
    indexAddrA P31 22 (Value.slice x27 x27n x27s) (Value.int IntKind.i64 x29) fun v0 =>
      addrK v0 fun o1 o2 =>
        optK (ldV P31 42 o1 o2 h) fun v3 =>
          castA v3 fun cs4 =>
            ifK (cellsOf P31 42 = some (Value.agg cs4).cells.size)
              (optK
                (stCells
                  (h.new
                    (Blk.cells
                      [Value.string (txt []), Value.string (txt []), Value.string (txt []), Value.int IntKind.i64 0, Value.int IntKind.i64 0,
                        Value.int IntKind.i64 0, Value.int IntKind.i64 0, Value.int IntKind.i64 0, Value.int IntKind.i64 0, Value.int IntKind.i64 0, Value.int IntKind.i64 0, Value.int IntKind.i64 0,
                        Value.int IntKind.i64 0, Value.int IntKind.i64 0, Value.int IntKind.i64 0, Value.int IntKind.i64 0, Value.slice none 0 0]
                      false))
                  h.1 0 (Value.agg cs4).cells.toList)
                fun h5 =>
                optK (ldV P31 23 x1 5 h5) fun v6 =>
                  castSl v6 fun a7 o8 o9 =>
                    callK (ev31 r n) 14 [Value.slice a7 o8 o9, Value.int IntKind.i64 x29] h5 fun v10 h11 =>
                      castI IntKind.i64 v10 fun n12 =>
                        optK (ldV P31 9 h.1 0 h11) fun v13 =>
                          castS v13 fun s14 =>
                            bif sameLd P31 9 h.1 0 (Value.string s14) h5 then
                              optK (ldV P31 3 h.1 4 h11) fun v15 =>
                                castI IntKind.i64 v15 fun n16 =>
                                  bif sameLd P31 3 h.1 4 (Value.int IntKind.i64 n16) h5 then
                                    optK (ldV P31 3 h.1 6 h11) fun v17 =>
                                      castI IntKind.i64 v17 fun n18 =>
                                        bif sameLd P31 3 h.1 6 (Value.int IntKind.i64 n18) h5 then
                                          optK (ldV P31 3 h.1 7 h11) fun v19 =>
                                            castI IntKind.i64 v19 fun n20 =>
                                              bif sameLd P31 3 h.1 7 (Value.int IntKind.i64 n20) h5 then
                                                optK (ldV P31 3 h.1 10 h11) fun v21 =>
                                                  castI IntKind.i64 v21 fun n22 =>
                                                    bif sameLd P31 3 h.1 10 (Value.int IntKind.i64 n22) h5 then
                                                      optK (ldV P31 3 h.1 11 h11) fun v23 =>
                                                        castI IntKind.i64 v23 fun n24 =>
                                                          bif sameLd P31 3 h.1 11 (Value.int IntKind.i64 n24) h5 then
                                                            optK (ldV P31 3 h.1 12 h11) fun v25 =>
                                                              castI IntKind.i64 v25 fun n26 =>
                                                                bif sameLd P31 3 h.1 12 (Value.int IntKind.i64 n26) h5 then
                                                                  optK (ldV P31 3 h.1 13 h11) fun v27 =>
                                                                    castI IntKind.i64 v27 fun n28 =>
                                                                      bif sameLd P31 3 h.1 13 (Value.int IntKind.i64 n28) h5 then
                                                                        optK (ldV P31 3 h.1 14 h11) fun v29 =>
                                                                          castI IntKind.i64 v29 fun n30 =>
                                                                            bif sameLd P31 3 h.1 14 (Value.int IntKind.i64 n30) h5 then
                                                                              optK (ldV P31 3 h.1 15 h11) fun v31 =>
                                                                                castI IntKind.i64 v31 fun n32 =>
                                                                                  bif sameLd P31 3 h.1 15 (Value.int IntKind.i64 n32) h5 then
                                                                                    callK (ev31 r n) 13
                                                                                      [Value.slice (some { block := h11.1, off := 0 }) 2 1, Value.slice (some { block := h11.1 + 1, off := 0 }) 10 1]
                                                                                      ((h11.new
                                                                                            (Blk.cells [Value.string (txt [112, 97, 114, 101, 110, 116]), Value.string s14]
                                                                                              false)).new
                                                                                        (Blk.cells
                                                                                          [Value.int IntKind.i64 n16, Value.int IntKind.i64 n18, Value.int IntKind.i64 n20, Value.int IntKind.i64 n22,
                                                                                            Value.int IntKind.i64 n24, Value.int IntKind.i64 n26, Value.int IntKind.i64 n28, Value.int IntKind.i64 n30,
                                                                                            Value.int IntKind.i64 n32, Value.int IntKind.i64 n12]
                                                                                          false))
                                                                                      fun v33 h34 =>
                                                                                      castS v33 fun s35 =>
                                                                                        callK (ev31 r n) 11 [Value.pointer (some { block := x3, off := 0 }), Value.string s35] h34 fun v36 h37 =>
                                                                                          castTup v36 fun l38 =>
                                                                                            headK l38 fun v39 l40 =>
                                                                                              castI IntKind.i64 v39 fun _ =>
                                                                                                headK l40 fun _ l43 =>
                                                                                                  nilK l43 fun _ =>
                                                                                                    optK (ldV P31 40 h.1 16 h37) fun v45 =>
                                                                                                      castSl v45 fun a46 o47 o48 =>
                                                                                                        evLoop
                                                                                                          (evCode P31 (ev31 r n) (jmp31 r n 6) (dead31 6) r 2
                                                                                                            (pc [1, 1, 1, 0, 1, 0, 0, 1, 1, 0, 0, 1, 1, 1, 0, 0] (bd Tryz.f6)))
                                                                                                          (dead31 6 (4 * 2)) (dead31 6 (4 * 2 + 2)) (dead31 6 1000002) r
                                                                                                          (E6_8 (Value.pointer (some { block := x1, off := 0 }))
                                                                                                            (Value.pointer (some { block := x3, off := 0 })) (Value.slice x27 x27n x27s)
                                                                                                            (Value.int IntKind.i64 x28) (Value.int IntKind.i64 x29) (Value.slice a46 o47 o48)
                                                                                                            (Value.int IntKind.i64 (↑o47 : Int)) (Value.int IntKind.i64 0))
                                                                                                          h37
                                                                                                          (blockK 2
                                                                                                            (blockK 1
                                                                                                              (seqK
                                                                                                                (after P31 (ev31 r n) (jmp31 r n 6) (dead31 6) r 0
                                                                                                                  (pc [1, 1, 1, 0, 1, 0, 0, 1, 1, 1] (bd Tryz.f6))
                                                                                                                  (loopK nx (dead31 6 (4 * 0)) (dead31 6 (4 * 0 + 2)) (dead31 6 1000002) K))
                                                                                                                (loopK nx (dead31 6 (4 * 0)) (dead31 6 (4 * 0 + 2)) (dead31 6 1000002) K))))
                                                                                  else none
                                                                            else none
                                                                      else none
                                                                else none
                                                          else none
                                                    else none
                                              else none
                                        else none
                                  else none
                            else none)
  else K (Exit.exit 0) (E6_2 (Value.pointer (some { block := x1, off := 0 })) (Value.pointer (some { block := x3, off := 0 }))) h := by kernel_rfl

theorem e6_0x0 (r n : Nat) (h : H) (x1 : Nat) (x3 : Nat) : (blockK 0 (seqK (after P31 (ev31 r n) (jmp31 r n 6) (dead31 6) r 0 (pc [1, 1, 1, 1] (bd Tryz.f6)) (outK (dead31 6) (key (pc [1, 1, 1] (bd Tryz.f6))))) (outK (dead31 6) (key (pc [1, 1, 1] (bd Tryz.f6)))))) (.exit 0) (E6_2 (.pointer (some ⟨x1, 0, none⟩)) (.pointer (some ⟨x3, 0, none⟩))) h =
  optK (ldV P31 23 x1 3 h) fun v0 =>
    castSl v0 fun a1 o2 o3 =>
      evLoop (evCode P31 (ev31 r n) (jmp31 r n 6) (dead31 6) r 4 (pc [1, 1, 1, 1, 0, 1, 0, 0] (bd Tryz.f6))) (dead31 6 (4 * 4)) (dead31 6 (4 * 4 + 2)) (dead31 6 1000002) r
        (E6_16 (Value.pointer (some { block := x1, off := 0 })) (Value.pointer (some { block := x3, off := 0 })) (Value.slice a1 o2 o3) (Value.int IntKind.i64 (↑o2 : Int)) (Value.int IntKind.i64 0)) h
        (blockK 4
          (seqK (after P31 (ev31 r n) (jmp31 r n 6) (dead31 6) r 0 (pc [1, 1, 1, 1, 1] (bd Tryz.f6)) (outK (dead31 6) (key (pc [1, 1, 1] (bd Tryz.f6)))))
            (outK (dead31 6) (key (pc [1, 1, 1] (bd Tryz.f6)))))) := by kernel_rfl

theorem e6_8 (r n : Nat) (h : H) {R : Type} (x1 : Nat) (x3 : Nat) (x27 : Option Addr) (x27n : Nat) (x27s : Nat) (x28 : Int) (x29 : Int) (x63 : Option Addr) (x63n : Nat) (x63s : Nat) (x64 : Int) (x65 : Int) (nx : Env → H → Option R) (K : Exit → Env → H → Option R) : evCode P31 (ev31 r n) (jmp31 r n 6) (dead31 6) r 2 (pc [1, 1, 1, 0, 1, 0, 0, 1, 1, 0, 0, 1, 1, 1, 0, 0] (bd Tryz.f6)) (E6_8 (.pointer (some ⟨x1, 0, none⟩)) (.pointer (some ⟨x3, 0, none⟩)) (.slice x27 x27n x27s) (.int .i64 x28) (.int .i64 x29) (.slice x63 x63n x63s) (.int .i64 x64) (.int .i64 x65)) h (loopK nx (dead31 6 (4 * 2)) (dead31 6 (4 * 2 + 2)) (dead31 6 1000002) K) =
  bif decide (x65 < x64) then
    indexAddrA P31 40 (Value.slice x63 x63n x63s) (Value.int IntKind.i64 x65) fun v0 =>
      addrK v0 fun o1 o2 =>
        optK (ldV P31 44 o1 o2 h) fun v3 =>
          castA v3 fun cs4 =>
            ifK (cellsOf P31 44 = some (Value.agg cs4).cells.size)
              (optK
                (stCells
                  (h.new
                    (Blk.cells
                      [Value.string (txt []), Value.string (txt []), Value.int IntKind.i64 0, Value.int IntKind.i64 0, Value.int IntKind.i64 0,
                        Value.int IntKind.i64 0, Value.int IntKind.i64 0, Value.int IntKind.i64 0, Value.int IntKind.i64 0, Value.int IntKind.i64 0]
                      false))
                  h.1 0 (Value.agg cs4).cells.toList)
                fun h5 =>
                optK (ldV P31 3 h.1 3 h5) fun v6 =>
                  castI IntKind.i64 v6 fun n7 =>
                    callK (ev31 r n) 15 [Value.int IntKind.i64 n7] h5 fun v8 h9 =>
                      castS v8 fun s10 =>
                        optK (ldV P31 9 h.1 0 h9) fun v11 =>
                          castS v11 fun s12 =>
                            bif sameLd P31 9 h.1 0 (Value.string s12) h5 then
                              optK (ldV P31 9 h.1 1 h9) fun v13 =>
                                castS v13 fun s14 =>
                                  bif sameLd P31 9 h.1 1 (Value.string s14) h5 then
                                    optK (ldV P31 3 h.1 4 h9) fun v15 =>
                                      castI IntKind.i64 v15 fun n16 =>
                                        bif sameLd P31 3 h.1 4 (Value.int IntKind.i64 n16) h5 then
                                          optK (ldV P31 3 h.1 5 h9) fun v17 =>
                                            castI IntKind.i64 v17 fun n18 =>
                                              bif sameLd P31 3 h.1 5 (Value.int IntKind.i64 n18) h5 then
                                                optK (ldV P31 3 h.1 8 h9) fun v19 =>
                                                  castI IntKind.i64 v19 fun n20 =>
                                                    bif sameLd P31 3 h.1 8 (Value.int IntKind.i64 n20) h5 then
                                                      optK (ldV P31 3 h.1 9 h9) fun v21 =>
                                                        castI IntKind.i64 v21 fun n22 =>
                                                          bif sameLd P31 3 h.1 9 (Value.int IntKind.i64 n22) h5 then
                                                            callK (ev31 r n) 13 [Value.slice (some { block := h9.1, off := 0 }) 4 1, Value.slice (some { block := h9.1 + 1, off := 0 }) 4 1]
                                                              ((h9.new
                                                                    (Blk.cells [Value.string (txt [99, 104, 105, 108, 100]), Value.string s12, Value.string s14, Value.string s10]
                                                                      false)).new
                                                                (Blk.cells [Value.int IntKind.i64 n16, Value.int IntKind.i64 n18, Value.int IntKind.i64 n20, Value.int IntKind.i64 n22] false))
                                                              fun v23 h24 =>
                                                              castS v23 fun s25 =>
                                                                callK (ev31 r n) 11 [Value.pointer (some { block := x3, off := 0 }), Value.string s25] h24 fun v26 h27 =>
                                                                  castTup v26 fun l28 =>
                                                                    headK l28 fun v29 l30 =>
                                                                      castI IntKind.i64 v29 fun _ =>
                                                                        headK l30 fun _ l33 =>
                                                                          nilK l33 fun _ =>
                                                                            nx
                                                                              (E6_8 (Value.pointer (some { block := x1, off := 0 })) (Value.pointer (some { block := x3, off := 0 }))
                                                                                (Value.slice x27 x27n x27s) (Value.int IntKind.i64 x28) (Value.int IntKind.i64 x29) (Value.slice x63 x63n x63s)
                                                                                (Value.int IntKind.i64 x64) (Value.int IntKind.i64 (IntKind.i64.wrap (x65 + 1))))
                                                                              h27
                                                          else none
                                                    else none
                                              else none
                                        else none
                                  else none
                            else none)
  else
    K (Exit.exit 2)
      (E6_0 (Value.pointer (some { block := x1, off := 0 })) (Value.pointer (some { block := x3, off := 0 })) (Value.slice x27 x27n x27s) (Value.int IntKind.i64 x28) (Value.int IntKind.i64 x29)) h := by kernel_rfl

theorem e6_8x2 (r n : Nat) (h : H) {R : Type} (x1 : Nat) (x3 : Nat) (x27 : Option Addr) (x27n : Nat) (x27s : Nat) (x28 : Int) (x29 : Int) (nx : Env → H → Option R) (K : Exit → Env → H → Option R) : (blockK 2 (blockK 1 (seqK (after P31 (ev31 r n) (jmp31 r n 6) (dead31 6) r 0 (pc [1, 1, 1, 0, 1, 0, 0, 1, 1, 1] (bd Tryz.f6)) (loopK nx (dead31 6 (4 * 0)) (dead31 6 (4 * 0 + 2)) (dead31 6 1000002) K)) (loopK nx (dead31 6 (4 * 0)) (dead31 6 (4 * 0 + 2)) (dead31 6 1000002) K)))) (.exit 2) (E6_0 (.pointer (some ⟨x1, 0, none⟩)) (.pointer (some ⟨x3, 0, none⟩)) (.slice x27 x27n x27s) (.int .i64 x28) (.int .i64 x29)) h =
  nx
    (E6_0 (Value.pointer (some { block := x1, off := 0 })) (Value.pointer (some { block := x3, off := 0 })) (Value.slice x27 x27n x27s) (Value.int IntKind.i64 x28)
      (Value.int IntKind.i64 (IntKind.i64.wrap (x29 + 1))))
    h := by kernel_rfl

theorem e6_16 (r n : Nat) (h : H) {R : Type} (x1 : Nat) (x3 : Nat) (x91 : Option Addr) (x91n : Nat) (x91s : Nat) (x92 : Int) (x93 : Int) (nx : Env → H → Option R) (K : Exit → Env → H → Option R) : evCode P31 (ev31 r n) (jmp31 r n 6) (dead31 6) r 4 (pc [1, 1, 1, 1, 0, 1, 0, 0] (bd Tryz.f6)) (E6_16 (.pointer (some ⟨x1, 0, none⟩)) (.pointer (some ⟨x3, 0, none⟩)) (.slice x91 x91n x91s) (.int .i64 x92) (.int .i64 x93)) h (loopK nx (dead31 6 (4 * 4)) (dead31 6 (4 * 4 + 2)) (dead31 6 1000002) K) =
  bif decide (x93 < x92) then
    indexAddrA P31 23 (Value.slice x91 x91n x91s) (Value.int IntKind.i64 x93) fun v0 =>
      addrK v0 fun o1 o2 =>
        optK (ldV P31 3 o1 o2 h) fun v3 =>
          castI IntKind.i64 v3 fun n4 =>
            optK (ldV P31 23 x1 4 (h.new (Blk.cells [Value.string (txt [117, 115, 101, 100])] false))) fun v5 =>
              castSl v5 fun a6 o7 o8 =>
                callK (ev31 r n) 14 [Value.slice a6 o7 o8, Value.int IntKind.i64 x93] (h.new (Blk.cells [Value.string (txt [117, 115, 101, 100])] false)) fun v9 h10 =>
                  castI IntKind.i64 v9 fun n11 =>
                    callK (ev31 r n) 13 [Value.slice (some { block := h.1, off := 0 }) 1 1, Value.slice (some { block := h10.1, off := 0 }) 2 1]
                      (h10.new (Blk.cells [Value.int IntKind.i64 n4, Value.int IntKind.i64 n11] false)) fun v12 h13 =>
                      castS v12 fun s14 =>
                        callK (ev31 r n) 11 [Value.pointer (some { block := x3, off := 0 }), Value.string s14] h13 fun v15 h16 =>
                          castTup v15 fun l17 =>
                            headK l17 fun v18 l19 =>
                              castI IntKind.i64 v18 fun _ =>
                                headK l19 fun _ l22 =>
                                  nilK l22 fun _ =>
                                    nx
                                      (E6_16 (Value.pointer (some { block := x1, off := 0 })) (Value.pointer (some { block := x3, off := 0 })) (Value.slice x91 x91n x91s) (Value.int IntKind.i64 x92)
                                        (Value.int IntKind.i64 (IntKind.i64.wrap (x93 + 1))))
                                      h16
  else K (Exit.exit 4) (E6_2 (Value.pointer (some { block := x1, off := 0 })) (Value.pointer (some { block := x3, off := 0 }))) h := by kernel_rfl

theorem e6_16x4 (r n : Nat) (h : H) (x1 : Nat) (x3 : Nat) : (blockK 4 (seqK (after P31 (ev31 r n) (jmp31 r n 6) (dead31 6) r 0 (pc [1, 1, 1, 1, 1] (bd Tryz.f6)) (outK (dead31 6) (key (pc [1, 1, 1] (bd Tryz.f6))))) (outK (dead31 6) (key (pc [1, 1, 1] (bd Tryz.f6)))))) (.exit 4) (E6_2 (.pointer (some ⟨x1, 0, none⟩)) (.pointer (some ⟨x3, 0, none⟩))) h =
  optK (ldV P31 23 x1 6 h) fun v0 =>
    castSl v0 fun a1 o2 o3 =>
      evLoop (evCode P31 (ev31 r n) (jmp31 r n 6) (dead31 6) r 6 (pc [1, 1, 1, 1, 1, 0, 1, 0, 0] (bd Tryz.f6))) (dead31 6 (4 * 6)) (dead31 6 (4 * 6 + 2)) (dead31 6 1000002) r
        (E6_24 (Value.pointer (some { block := x3, off := 0 })) (Value.slice a1 o2 o3) (Value.int IntKind.i64 (↑o2 : Int)) (Value.int IntKind.i64 0)) h
        (blockK 6
          (seqK (after P31 (ev31 r n) (jmp31 r n 6) (dead31 6) r 0 (pc [1, 1, 1, 1, 1, 1] (bd Tryz.f6)) (outK (dead31 6) (key (pc [1, 1, 1] (bd Tryz.f6)))))
            (outK (dead31 6) (key (pc [1, 1, 1] (bd Tryz.f6)))))) := by kernel_rfl

theorem e6_24 (r n : Nat) (h : H) {R : Type} (x3 : Nat) (x109 : Option Addr) (x109n : Nat) (x109s : Nat) (x110 : Int) (x111 : Int) (nx : Env → H → Option R) (K : Exit → Env → H → Option R) : evCode P31 (ev31 r n) (jmp31 r n 6) (dead31 6) r 6 (pc [1, 1, 1, 1, 1, 0, 1, 0, 0] (bd Tryz.f6)) (E6_24 (.pointer (some ⟨x3, 0, none⟩)) (.slice x109 x109n x109s) (.int .i64 x110) (.int .i64 x111)) h (loopK nx (dead31 6 (4 * 6)) (dead31 6 (4 * 6 + 2)) (dead31 6 1000002) K) =
  bif decide (x111 < x110) then
    indexAddrA P31 23 (Value.slice x109 x109n x109s) (Value.int IntKind.i64 x111) fun v0 =>
      addrK v0 fun o1 o2 =>
        optK (ldV P31 3 o1 o2 h) fun v3 =>
          castI IntKind.i64 v3 fun n4 =>
            callK (ev31 r n) 13 [Value.slice (some { block := h.1, off := 0 }) 1 1, Value.slice (some { block := h.1 + 1, off := 0 }) 1 1]
              ((h.new (Blk.cells [Value.string (txt [102, 97, 117, 108, 116, 115])] false)).new (Blk.cells [Value.int IntKind.i64 n4] false)) fun v5 h6 =>
              castS v5 fun s7 =>
                callK (ev31 r n) 11 [Value.pointer (some { block := x3, off := 0 }), Value.string s7] h6 fun v8 h9 =>
                  castTup v8 fun l10 =>
                    headK l10 fun v11 l12 =>
                      castI IntKind.i64 v11 fun _ =>
                        headK l12 fun _ l15 =>
                          nilK l15 fun _ =>
                            nx (E6_24 (Value.pointer (some { block := x3, off := 0 })) (Value.slice x109 x109n x109s) (Value.int IntKind.i64 x110) (Value.int IntKind.i64 (IntKind.i64.wrap (x111 + 1))))
                              h9
  else K (Exit.exit 6) (E6_26 (Value.pointer (some { block := x3, off := 0 }))) h := by kernel_rfl

theorem e6_24x6 (r n : Nat) (h : H) (x3 : Nat) : (blockK 6 (seqK (after P31 (ev31 r n) (jmp31 r n 6) (dead31 6) r 0 (pc [1, 1, 1, 1, 1, 1] (bd Tryz.f6)) (outK (dead31 6) (key (pc [1, 1, 1] (bd Tryz.f6))))) (outK (dead31 6) (key (pc [1, 1, 1] (bd Tryz.f6)))))) (.exit 6) (E6_26 (.pointer (some ⟨x3, 0, none⟩))) h =
  callK (ev31 r n) 16 [Value.pointer (some { block := x3, off := 0 })] h fun v0 h1 => castS v0 fun s2 => some (Exit.ret, E6_r (Value.string s2), h1) := by kernel_rfl

theorem e7 (r n : Nat) (h : H) (a0_0 : Int) (a0_1 : Bool) (a0_2 : Option Addr) (a0_2n : Nat) (a0_2s : Nat) (a0_3 : Option Addr) (a0_3n : Nat) (a0_3s : Nat) (a0_4 : Option Addr) (a0_4n : Nat) (a0_4s : Nat) (a0_5 : Option Addr) (a0_5n : Nat) (a0_5s : Nat) (a0_6 : Option Addr) (a0_6n : Nat) (a0_6s : Nat) : ev31 r (n + 1) 7 [.agg #[.int .i64 a0_0, .bool a0_1, .slice a0_2 a0_2n a0_2s, .slice a0_3 a0_3n a0_3s, .slice a0_4 a0_4n a0_4s, .slice a0_5 a0_5n a0_5s, .slice a0_6 a0_6n a0_6s]] h =
  optK
    (ldV P31 25 h.1 0
      (h.new
        (Blk.cells
          [Value.int IntKind.i64 a0_0, Value.bool a0_1, Value.slice a0_2 a0_2n a0_2s, Value.slice a0_3 a0_3n a0_3s, Value.slice a0_4 a0_4n a0_4s, Value.slice a0_5 a0_5n a0_5s,
            Value.slice a0_6 a0_6n a0_6s]
          false)))
    fun v0 =>
    castA v0 fun cs1 =>
      callK (ev31 r n) 17 [Value.agg cs1]
        (h.new
          (Blk.cells
            [Value.int IntKind.i64 a0_0, Value.bool a0_1, Value.slice a0_2 a0_2n a0_2s, Value.slice a0_3 a0_3n a0_3s, Value.slice a0_4 a0_4n a0_4s, Value.slice a0_5 a0_5n a0_5s,
              Value.slice a0_6 a0_6n a0_6s]
            false))
        fun v2 h3 =>
        castA v2 fun cs4 =>
          ifK (cellsOf P31 60 = some (Value.agg cs4).cells.size)
            (optK
              (stCells
                (h3.new (Blk.cells [Value.int IntKind.i64 0, Value.bool false, Value.slice none 0 0, Value.slice none 0 0, Value.slice none 0 0, Value.slice none 0 0, Value.slice none 0 0] false)) h3.1
                0 (Value.agg cs4).cells.toList)
              fun h5 =>
              optK (ldV P31 60 h3.1 0 h5) fun v6 => castA v6 fun cs7 => callK (ev31 r n) 18 [Value.agg cs7] h5 fun v8 h9 => castS v8 fun s10 => some (Value.string s10, h9)) := by kernel_rfl

theorem e13 (r n : Nat) (h : H) (a0 : Option Addr) (a0n : Nat) (a0s : Nat) (a1 : Option Addr) (a1n : Nat) (a1s : Nat) : ev31 r (n + 1) 13 [.slice a0 a0n a0s, .slice a1 a1n a1s] h =
  evLoop (evCode P31 (ev31 r n) (jmp31 r n 13) (dead31 13) r 0 (pc [1, 0, 1, 0, 0] (bd Tryz.f13))) (dead31 13 (4 * 0)) (dead31 13 (4 * 0 + 2))
    (dead31 13 1000002) r (E13_0 (Value.slice a0 a0n a0s) (Value.slice a1 a1n a1s) (Value.int IntKind.i64 (↑a1n : Int)) (Value.int IntKind.i64 0)) h
    (blockK 0
      (seqK (after P31 (ev31 r n) (jmp31 r n 13) (dead31 13) r 0 (pc [1, 1] (bd Tryz.f13)) (finK P31 [ResultVar.tmp 4])) (finK P31 [ResultVar.tmp 4]))) := by kernel_rfl

theorem e13_0 (r n : Nat) (h : H) {R : Type} (x0 : Option Addr) (x0n : Nat) (x0s : Nat) (x7 : Option Addr) (x7n : Nat) (x7s : Nat) (x8 : Int) (x9 : Int) (nx : Env → H → Option R) (K : Exit → Env → H → Option R) : evCode P31 (ev31 r n) (jmp31 r n 13) (dead31 13) r 0 (pc [1, 0, 1, 0, 0] (bd Tryz.f13)) (E13_0 (.slice x0 x0n x0s) (.slice x7 x7n x7s) (.int .i64 x8) (.int .i64 x9)) h (loopK nx (dead31 13 (4 * 0)) (dead31 13 (4 * 0 + 2)) (dead31 13 1000002) K) =
  bif decide (x9 < x8) then
    indexAddrA P31 23 (Value.slice x7 x7n x7s) (Value.int IntKind.i64 x9) fun v0 =>
      addrK v0 fun o1 o2 =>
        optK (ldV P31 3 o1 o2 h) fun v3 =>
          castI IntKind.i64 v3 fun n4 =>
            callK (ev31 r n) 12 [Value.int IntKind.i64 n4] h fun v5 h6 =>
              castS v5 fun s7 =>
                appendA P31 { toList := [55, 55] } (Value.slice x0 x0n x0s) (Value.slice (some { block := h6.1, off := 0 }) 1 1) (h6.new (Blk.cells [Value.string s7] false)) fun v8 h9 =>
                  castSl v8 fun a10 o11 o12 => nx (E13_0 (Value.slice a10 o11 o12) (Value.slice x7 x7n x7s) (Value.int IntKind.i64 x8) (Value.int IntKind.i64 (IntKind.i64.wrap (x9 + 1)))) h9
  else K (Exit.exit 0) (E13_2 (Value.slice x0 x0n x0s)) h := by kernel_rfl

theorem e13_0x0 (r n : Nat) (h : H) (x0 : Option Addr) (x0n : Nat) (x0s : Nat) : (blockK 0 (seqK (after P31 (ev31 r n) (jmp31 r n 13) (dead31 13) r 0 (pc [1, 1] (bd Tryz.f13)) (finK P31 [.tmp 4])) (finK P31 [.tmp 4]))) (.exit 0) (E13_2 (.slice x0 x0n x0s)) h =
  callK (ev31 r n) 26 [Value.slice x0 x0n x0s, Value.string (txt [32])] h fun v0 h1 =>
    castS v0 fun s2 => ifK (s2.size + 1 ≤ 9223372036854775807) (some (Value.string (s2 ++ { data := #[10] }), h1)) := by kernel_rfl

theorem e14 (r n : Nat) (h : H) (a0 : Option Addr) (a0n : Nat) (a0s : Nat) (a1 : Int) : ev31 r (n + 1) 14 [.slice a0 a0n a0s, .int .i64 a1] h =
  bif decide (a1 ≥ (↑a0n : Int)) then some (Value.int IntKind.i64 0, h)
  else
    indexAddrA P31 23 (Value.slice a0 a0n a0s) (Value.int IntKind.i64 a1) fun v0 =>
      addrK v0 fun o1 o2 => optK (ldV P31 3 o1 o2 h) fun v3 => castI IntKind.i64 v3 fun n4 => some (Value.int IntKind.i64 n4, h) := by kernel_rfl

theorem e15 (r n : Nat) (h : H) (a0 : Int) : ev31 r (n + 1) 15 [.int .i64 a0] h =
  optK
    (stCells
      (h.new
        (Blk.cells
          [Value.string (txt []), Value.string (txt []), Value.string (txt []), Value.string (txt []),
            Value.string (txt []), Value.string (txt []), Value.string (txt []), Value.string (txt []),
            Value.string (txt [])]
          false))
      h.1 0
      [Value.string (txt []), Value.string (txt [112, 101, 110, 100, 105, 110, 103]), Value.string (txt [110, 101, 119]),
        Value.string (txt [112, 97, 114, 116, 105, 97, 108]), Value.string (txt [99, 97, 110, 99, 101, 108, 105, 110, 103]),
        Value.string (txt [114, 101, 112, 108, 97, 99, 105, 110, 103]), Value.string (txt [102, 105, 108, 108, 101, 100]),
        Value.string (txt [99, 97, 110, 99, 101, 108, 101, 100]), Value.string (txt [114, 101, 106, 101, 99, 116, 101, 100])])
    fun h0 =>
    bif decide (a0 < 0) then some (Value.string (txt []), h0)
    else
      bif decide (a0 ≥ 9) then some (Value.string (txt []), h0)
      else ifK (0 ≤ a0 ∧ a0 < 9) (optK (ldV P31 9 h.1 (0 + a0.toNat * 1) h0) fun v1 => castS v1 fun s2 => some (Value.string s2, h0)) := by kernel_rfl

theorem e17 (r n : Nat) (h : H) (a0_0 : Int) (a0_1 : Bool) (a0_2 : Option Addr) (a0_2n : Nat) (a0_2s : Nat) (a0_3 : Option Addr) (a0_3n : Nat) (a0_3s : Nat) (a0_4 : Option Addr) (a0_4n : Nat) (a0_4s : Nat) (a0_5 : Option Addr) (a0_5n : Nat) (a0_5s : Nat) (a0_6 : Option Addr) (a0_6n : Nat) (a0_6s : Nat) : ev31 r (n + 1) 17 [.agg #[.int .i64 a0_0, .bool a0_1, .slice a0_2 a0_2n a0_2s, .slice a0_3 a0_3n a0_3s, .slice a0_4 a0_4n a0_4s, .slice a0_5 a0_5n a0_5s, .slice a0_6 a0_6n a0_6s]] h =
  optK
    (ldV P31 3 h.1 0
      ((h.new
            (Blk.cells
              [Value.int IntKind.i64 a0_0, Value.bool a0_1, Value.slice a0_2 a0_2n a0_2s, Value.slice a0_3 a0_3n a0_3s, Value.slice a0_4 a0_4n a0_4s, Value.slice a0_5 a0_5n a0_5s,
                Value.slice a0_6 a0_6n a0_6s]
              false)).new
        (Blk.cells [Value.int IntKind.i64 0, Value.bool false, Value.slice none 0 0, Value.slice none 0 0, Value.slice none 0 0, Value.slice none 0 0, Value.slice none 0 0] false)))
    fun v0 =>
    castI IntKind.i64 v0 fun n1 =>
      optK
        (ldV P31 4 h.1 1
          ((h.new
                (Blk.cells
                  [Value.int IntKind.i64 a0_0, Value.bool a0_1, Value.slice a0_2 a0_2n a0_2s, Value.slice a0_3 a0_3n a0_3s, Value.slice a0_4 a0_4n a0_4s, Value.slice a0_5 a0_5n a0_5s,
                    Value.slice a0_6 a0_6n a0_6s]
                  false)).new
            (Blk.cells [Value.int IntKind.i64 0, Value.bool false, Value.slice none 0 0, Value.slice none 0 0, Value.slice none 0 0, Value.slice none 0 0, Value.slice none 0 0] false)))
        fun v2 =>
        castV v2 fun b3 =>
          optK
            (ldV P31 23 h.1 3
              ((h.new
                    (Blk.cells
                      [Value.int IntKind.i64 a0_0, Value.bool a0_1, Value.slice a0_2 a0_2n a0_2s, Value.slice a0_3 a0_3n a0_3s, Value.slice a0_4 a0_4n a0_4s, Value.slice a0_5 a0_5n a0_5s,
                        Value.slice a0_6 a0_6n a0_6s]
                      false)).new
                (Blk.cells [Value.int IntKind.i64 0, Value.bool false, Value.slice none 0 0, Value.slice none 0 0, Value.slice none 0 0, Value.slice none 0 0, Value.slice none 0 0] false)))
            fun v4 =>
            castSl v4 fun a5 o6 o7 =>
              optK
                (ldV P31 23 h.1 4
                  ((h.new
                        (Blk.cells
                          [Value.int IntKind.i64 a0_0, Value.bool a0_1, Value.slice a0_2 a0_2n a0_2s, Value.slice a0_3 a0_3n a0_3s, Value.slice a0_4 a0_4n a0_4s, Value.slice a0_5 a0_5n a0_5s,
                            Value.slice a0_6 a0_6n a0_6s]
                          false)).new
                    (Blk.cells [Value.int IntKind.i64 0, Value.bool false, Value.slice none 0 0, Value.slice none 0 0, Value.slice none 0 0, Value.slice none 0 0, Value.slice none 0 0] false)))
                fun v8 =>
                castSl v8 fun a9 o10 o11 =>
                  optK
                    (ldV P31 23 h.1 5
                      ((h.new
                            (Blk.cells
                              [Value.int IntKind.i64 a0_0, Value.bool a0_1, Value.slice a0_2 a0_2n a0_2s, Value.slice a0_3 a0_3n a0_3s, Value.slice a0_4 a0_4n a0_4s, Value.slice a0_5 a0_5n a0_5s,
                                Value.slice a0_6 a0_6n a0_6s]
                              false)).new
                        (Blk.cells [Value.int IntKind.i64 0, Value.bool false, Value.slice none 0 0, Value.slice none 0 0, Value.slice none 0 0, Value.slice none 0 0, Value.slice none 0 0] false)))
                    fun v12 =>
                    castSl v12 fun a13 o14 o15 =>
                      optK
                        (ldV P31 23 h.1 6
                          ((h.new
                                (Blk.cells
                                  [Value.int IntKind.i64 a0_0, Value.bool a0_1, Value.slice a0_2 a0_2n a0_2s, Value.slice a0_3 a0_3n a0_3s, Value.slice a0_4 a0_4n a0_4s, Value.slice a0_5 a0_5n a0_5s,
                                    Value.slice a0_6 a0_6n a0_6s]
                                  false)).new
                            (Blk.cells [Value.int IntKind.i64 0, Value.bool false, Value.slice none 0 0, Value.slice none 0 0, Value.slice none 0 0, Value.slice none 0 0, Value.slice none 0 0] false)))
                        fun v16 =>
                        castSl v16 fun a17 o18 o19 =>
                          optK
                            (stCells
                              (((h.new
                                        (Blk.cells
                                          [Value.int IntKind.i64 a0_0, Value.bool a0_1, Value.slice a0_2 a0_2n a0_2s, Value.slice a0_3 a0_3n a0_3s, Value.slice a0_4 a0_4n a0_4s,
                                            Value.slice a0_5 a0_5n a0_5s, Value.slice a0_6 a0_6n a0_6s]
                                          false)).new
                                    (Blk.cells [Value.int IntKind.i64 0, Value.bool false, Value.slice none 0 0, Value.slice none 0 0, Value.slice none 0 0, Value.slice none 0 0, Value.slice none 0 0]
                                      false)).new
                                (Blk.cells [Value.int IntKind.i64 0, Value.bool false, Value.slice none 0 0, Value.slice none 0 0, Value.slice none 0 0, Value.slice none 0 0, Value.slice none 0 0]
                                  false))
                              (h.1 + 1 + 1) 0
                              [Value.int IntKind.i64 n1, Value.bool b3, Value.slice none 0 0, Value.slice a5 o6 o7, Value.slice a9 o10 o11, Value.slice a13 o14 o15, Value.slice a17 o18 o19])
                            fun h20 =>
                            optK (ldV P31 22 h.1 2 h20) fun v21 =>
                              castSl v21 fun a22 o23 o24 =>
                                evLoop (evCode P31 (ev31 r n) (jmp31 r n 17) (dead31 17) r 0 (pc [1, 1, 0, 1, 0, 0] (bd Tryz.f17))) (dead31 17 (4 * 0))
                                  (dead31 17 (4 * 0 + 2)) (dead31 17 1000002) r
                                  (E17_0 (Value.pointer (some { block := h.1 + 1, off := 0 })) (Value.pointer (some { block := h.1 + 1 + 1, off := 0 })) (Value.slice a22 o23 o24)
                                    (Value.int IntKind.i64 (↑o23 : Int)) (Value.int IntKind.i64 0))
                                  h20
                                  (blockK 0
                                    (seqK
                                      (after P31 (ev31 r n) (jmp31 r n 17) (dead31 17) r 0 (pc [1, 1, 1] (bd Tryz.f17)) (finK P31 [ResultVar.cell 2 60]))
                                      (finK P31 [ResultVar.cell 2 60]))) := by kernel_rfl

theorem e17_0 (r n : Nat) (h : H) {R : Type} (x2 : Nat) (x3 : Nat) (x23 : Option Addr) (x23n : Nat) (x23s : Nat) (x24 : Int) (x25 : Int) (nx : Env → H → Option R) (K : Exit → Env → H → Option R) : evCode P31 (ev31 r n) (jmp31 r n 17) (dead31 17) r 0 (pc [1, 1, 0, 1, 0, 0] (bd Tryz.f17)) (E17_0 (.pointer (some ⟨x2, 0, none⟩)) (.pointer (some ⟨x3, 0, none⟩)) (.slice x23 x23n x23s) (.int .i64 x24) (.int .i64 x25)) h (loopK nx (dead31 17 (4 * 0)) (dead31 17 (4 * 0 + 2)) (dead31 17 1000002) K) =
  bif decide (x25 < x24) then
    indexAddrA P31 22 (Value.slice x23 x23n x23s) (Value.int IntKind.i64 x25) fun v0 =>
      addrK v0 fun o1 o2 =>
        optK (ldV P31 42 o1 o2 h) fun v3 =>
          castA v3 fun cs4 =>
            ifK (cellsOf P31 42 = some (Value.agg cs4).cells.size)
              (optK
                (stCells
                  (h.new
                    (Blk.cells
                      [Value.string (txt []), Value.string (txt []), Value.string (txt []), Value.int IntKind.i64 0, Value.int IntKind.i64 0,
                        Value.int IntKind.i64 0, Value.int IntKind.i64 0, Value.int IntKind.i64 0, Value.int IntKind.i64 0, Value.int IntKind.i64 0, Value.int IntKind.i64 0, Value.int IntKind.i64 0,
                        Value.int IntKind.i64 0, Value.int IntKind.i64 0, Value.int IntKind.i64 0, Value.int IntKind.i64 0, Value.slice none 0 0]
                      false))
                  h.1 0 (Value.agg cs4).cells.toList)
                fun h5 =>
                optK (ldV P31 9 h.1 0 h5) fun v6 =>
                  castS v6 fun s7 =>
                    optK (ldV P31 9 h.1 1 h5) fun v8 =>
                      castS v8 fun s9 =>
                        optK (ldV P31 9 h.1 2 h5) fun v10 =>
                          castS v10 fun s11 =>
                            optK (ldV P31 3 h.1 3 h5) fun v12 =>
                              castI IntKind.i64 v12 fun n13 =>
                                optK (ldV P31 3 h.1 4 h5) fun v14 =>
                                  castI IntKind.i64 v14 fun n15 =>
                                    optK (ldV P31 3 h.1 5 h5) fun v16 =>
                                      castI IntKind.i64 v16 fun n17 =>
                                        optK (ldV P31 3 h.1 6 h5) fun v18 =>
                                          castI IntKind.i64 v18 fun n19 =>
                                            optK (ldV P31 3 h.1 7 h5) fun v20 =>
                                              castI IntKind.i64 v20 fun n21 =>
                                                optK (ldV P31 3 h.1 8 h5) fun v22 =>
                                                  castI IntKind.i64 v22 fun n23 =>
                                                    optK (ldV P31 3 h.1 9 h5) fun v24 =>
                                                      castI IntKind.i64 v24 fun n25 =>
                                                        optK (ldV P31 3 h.1 10 h5) fun v26 =>
                                                          castI IntKind.i64 v26 fun n27 =>
                                                            optK (ldV P31 3 h.1 11 h5) fun v28 =>
                                                              castI IntKind.i64 v28 fun n29 =>
                                                                optK (ldV P31 3 h.1 12 h5) fun v30 =>
                                                                  castI IntKind.i64 v30 fun n31 =>
                                                                    optK (ldV P31 3 h.1 13 h5) fun v32 =>
                                                                      castI IntKind.i64 v32 fun n33 =>
                                                                        optK (ldV P31 3 h.1 14 h5) fun v34 =>
                                                                          castI IntKind.i64 v34 fun n35 =>
                                                                            optK (ldV P31 3 h.1 15 h5) fun v36 =>
                                                                              castI IntKind.i64 v36 fun n37 =>
                                                                                optK
                                                                                  (stCells
                                                                                    (h5.new
                                                                                      (Blk.cells
                                                                                        [Value.string (txt []), Value.string (txt []),
                                                                                          Value.string (txt []), Value.int IntKind.i64 0, Value.int IntKind.i64 0,
                                                                                          Value.int IntKind.i64 0, Value.int IntKind.i64 0, Value.int IntKind.i64 0, Value.int IntKind.i64 0,
                                                                                          Value.int IntKind.i64 0, Value.int IntKind.i64 0, Value.int IntKind.i64 0, Value.int IntKind.i64 0,
                                                                                          Value.int IntKind.i64 0, Value.int IntKind.i64 0, Value.int IntKind.i64 0, Value.slice none 0 0]
                                                                                        false))
                                                                                    h5.1 0
                                                                                    [Value.string s7, Value.string s9, Value.string s11, Value.int IntKind.i64 n13, Value.int IntKind.i64 n15,
                                                                                      Value.int IntKind.i64 n17, Value.int IntKind.i64 n19, Value.int IntKind.i64 n21, Value.int IntKind.i64 n23,
                                                                                      Value.int IntKind.i64 n25, Value.int IntKind.i64 n27, Value.int IntKind.i64 n29, Value.int IntKind.i64 n31,
                                                                                      Value.int IntKind.i64 n33, Value.int IntKind.i64 n35, Value.int IntKind.i64 n37, Value.slice none 0 0])
                                                                                  fun h38 =>
                                                                                  optK (ldV P31 40 h.1 16 h38) fun v39 =>
                                                                                    castSl v39 fun a40 o41 o42 =>
                                                                                      evLoop
                                                                                        (evCode P31 (ev31 r n) (jmp31 r n 17) (dead31 17) r 2
                                                                                          (pc [1, 1, 0, 1, 0, 0, 1, 1, 0, 0, 1, 1, 0, 1, 0, 0] (bd Tryz.f17)))
                                                                                        (dead31 17 (4 * 2)) (dead31 17 (4 * 2 + 2)) (dead31 17 1000002) r
                                                                                        (E17_8 (Value.pointer (some { block := x2, off := 0 })) (Value.pointer (some { block := x3, off := 0 }))
                                                                                          (Value.pointer (some { block := h5.1, off := 0 })) (Value.slice x23 x23n x23s) (Value.int IntKind.i64 x24)
                                                                                          (Value.int IntKind.i64 x25) (Value.slice a40 o41 o42) (Value.int IntKind.i64 (↑o41 : Int))
                                                                                          (Value.int IntKind.i64 0))
                                                                                        h38
                                                                                        (blockK 2
                                                                                          (seqK
                                                                                            (after P31 (ev31 r n) (jmp31 r n 17) (dead31 17) r 1
                                                                                              (pc [1, 1, 0, 1, 0, 0, 1, 1, 0, 0, 1, 1, 1] (bd Tryz.f17))
                                                                                              (blockK 1
                                                                                                (seqK
                                                                                                  (after P31 (ev31 r n) (jmp31 r n 17) (dead31 17) r 0 (pc [1, 1, 0, 1, 0, 0, 1, 1, 1] (bd Tryz.f17))
                                                                                                    (loopK nx (dead31 17 (4 * 0)) (dead31 17 (4 * 0 + 2)) (dead31 17 1000002) K))
                                                                                                  (loopK nx (dead31 17 (4 * 0)) (dead31 17 (4 * 0 + 2)) (dead31 17 1000002) K))))
                                                                                            (blockK 1
                                                                                              (seqK
                                                                                                (after P31 (ev31 r n) (jmp31 r n 17) (dead31 17) r 0 (pc [1, 1, 0, 1, 0, 0, 1, 1, 1] (bd Tryz.f17))
                                                                                                  (loopK nx (dead31 17 (4 * 0)) (dead31 17 (4 * 0 + 2)) (dead31 17 1000002) K))
                                                                                                (loopK nx (dead31 17 (4 * 0)) (dead31 17 (4 * 0 + 2)) (dead31 17 1000002) K))))))
  else K (Exit.exit 0) (E17_2 (Value.pointer (some { block := x2, off := 0 })) (Value.pointer (some { block := x3, off := 0 }))) h := by kernel_rfl

theorem e17_0x0 (r n : Nat) (h : H) (x2 : Nat) (x3 : Nat) : (blockK 0 (seqK (after P31 (ev31 r n) (jmp31 r n 17) (dead31 17) r 0 (pc [1, 1, 1] (bd Tryz.f17)) (finK P31 [.cell 2 60])) (finK P31 [.cell 2 60]))) (.exit 0) (E17_2 (.pointer (some ⟨x2, 0, none⟩)) (.pointer (some ⟨x3, 0, none⟩))) h =
  optK (ldV P31 60 x3 0 h) fun v0 =>
    castA v0 fun cs1 => ifK (cellsOf P31 60 = some (Value.agg cs1).cells.size) (optK (stCells h x2 0 (Value.agg cs1).cells.toList) fun h2 => optK (ldV P31 60 x2 0 h2) fun v3 => some (v3, h2)) := by kernel_rfl

theorem e17_8 (r n : Nat) (h : H) {R : Type} (x2 : Nat) (x3 : Nat) (x6 : Nat) (x23 : Option Addr) (x23n : Nat) (x23s : Nat) (x24 : Int) (x25 : Int) (x63 : Option Addr) (x63n : Nat) (x63s : Nat) (x64 : Int) (x65 : Int) (nx : Env → H → Option R) (K : Exit → Env → H → Option R) : evCode P31 (ev31 r n) (jmp31 r n 17) (dead31 17) r 2 (pc [1, 1, 0, 1, 0, 0, 1, 1, 0, 0, 1, 1, 0, 1, 0, 0] (bd Tryz.f17)) (E17_8 (.pointer (some ⟨x2, 0, none⟩)) (.pointer (some ⟨x3, 0, none⟩)) (.pointer (some ⟨x6, 0, none⟩)) (.slice x23 x23n x23s) (.int .i64 x24) (.int .i64 x25) (.slice x63 x63n x63s) (.int .i64 x64) (.int .i64 x65)) h (loopK nx (dead31 17 (4 * 2)) (dead31 17 (4 * 2 + 2)) (dead31 17 1000002) K) =
  bif decide (x65 < x64) then
    indexAddrA P31 40 (Value.slice x63 x63n x63s) (Value.int IntKind.i64 x65) fun v0 =>
      addrK v0 fun o1 o2 =>
        optK (ldV P31 44 o1 o2 h) fun v3 =>
          castA v3 fun cs4 =>
            ifK (cellsOf P31 44 = some (Value.agg cs4).cells.size)
              (optK
                (stCells
                  (h.new
                    (Blk.cells
                      [Value.string (txt []), Value.string (txt []), Value.int IntKind.i64 0, Value.int IntKind.i64 0, Value.int IntKind.i64 0,
                        Value.int IntKind.i64 0, Value.int IntKind.i64 0, Value.int IntKind.i64 0, Value.int IntKind.i64 0, Value.int IntKind.i64 0]
                      false))
                  h.1 0 (Value.agg cs4).cells.toList)
                fun h5 =>
                optK (ldV P31 85 x6 16 h5) fun v6 =>
                  castSl v6 fun a7 o8 o9 =>
                    optK (ldV P31 44 h.1 0 h5) fun v10 =>
                      castA v10 fun cs11 =>
                        ifK ((Value.agg cs11).cells.size = 10)
                          (appendA P31 { toList := [85, 85] } (Value.slice a7 o8 o9) (Value.slice (some { block := h5.1, off := 0 }) 1 10) (h5.new (Blk.cells (Value.agg cs11).cells.toList false))
                            fun v12 h13 =>
                            castSl v12 fun a14 o15 o16 =>
                              optK (stCells h13 x6 16 [Value.slice a14 o15 o16]) fun h17 =>
                                nx
                                  (E17_8 (Value.pointer (some { block := x2, off := 0 })) (Value.pointer (some { block := x3, off := 0 })) (Value.pointer (some { block := x6, off := 0 }))
                                    (Value.slice x23 x23n x23s) (Value.int IntKind.i64 x24) (Value.int IntKind.i64 x25) (Value.slice x63 x63n x63s) (Value.int IntKind.i64 x64)
                                    (Value.int IntKind.i64 (IntKind.i64.wrap (x65 + 1))))
                                  h17))
  else
    K (Exit.exit 2)
      (E17_10 (Value.pointer (some { block := x2, off := 0 })) (Value.pointer (some { block := x3, off := 0 })) (Value.pointer (some { block := x6, off := 0 })) (Value.slice x23 x23n x23s)
        (Value.int IntKind.i64 x24) (Value.int IntKind.i64 x25))
      h := by kernel_rfl

theorem e17_8x2 (r n : Nat) (h : H) {R : Type} (x2 : Nat) (x3 : Nat) (x6 : Nat) (x23 : Option Addr) (x23n : Nat) (x23s : Nat) (x24 : Int) (x25 : Int) (nx : Env → H → Option R) (K : Exit → Env → H → Option R) : (blockK 2 (seqK (after P31 (ev31 r n) (jmp31 r n 17) (dead31 17) r 1 (pc [1, 1, 0, 1, 0, 0, 1, 1, 0, 0, 1, 1, 1] (bd Tryz.f17)) (blockK 1 (seqK (after P31 (ev31 r n) (jmp31 r n 17) (dead31 17) r 0 (pc [1, 1, 0, 1, 0, 0, 1, 1, 1] (bd Tryz.f17)) (loopK nx (dead31 17 (4 * 0)) (dead31 17 (4 * 0 + 2)) (dead31 17 1000002) K)) (loopK nx (dead31 17 (4 * 0)) (dead31 17 (4 * 0 + 2)) (dead31 17 1000002) K)))) (blockK 1 (seqK (after P31 (ev31 r n) (jmp31 r n 17) (dead31 17) r 0 (pc [1, 1, 0, 1, 0, 0, 1, 1, 1] (bd Tryz.f17)) (loopK nx (dead31 17 (4 * 0)) (dead31 17 (4 * 0 + 2)) (dead31 17 1000002) K)) (loopK nx (dead31 17 (4 * 0)) (dead31 17 (4 * 0 + 2)) (dead31 17 1000002) K))))) (.exit 2) (E17_10 (.pointer (some ⟨x2, 0, none⟩)) (.pointer (some ⟨x3, 0, none⟩)) (.pointer (some ⟨x6, 0, none⟩)) (.slice x23 x23n x23s) (.int .i64 x24) (.int .i64 x25)) h =
  optK (ldV P31 58 x3 2 h) fun v0 =>
    castSl v0 fun a1 o2 o3 =>
      optK (ldV P31 87 x6 0 h) fun v4 =>
        castA v4 fun cs5 =>
          ifK ((Value.agg cs5).cells.size = 17)
            (appendA P31 { toList := [58, 58] } (Value.slice a1 o2 o3) (Value.slice (some { block := h.1, off := 0 }) 1 17) (h.new (Blk.cells (Value.agg cs5).cells.toList false)) fun v6 h7 =>
              castSl v6 fun a8 o9 o10 =>
                optK (stCells h7 x3 2 [Value.slice a8 o9 o10]) fun h11 =>
                  nx
                    (E17_0 (Value.pointer (some { block := x2, off := 0 })) (Value.pointer (some { block := x3, off := 0 })) (Value.slice x23 x23n x23s) (Value.int IntKind.i64 x24)
                      (Value.int IntKind.i64 (IntKind.i64.wrap (x25 + 1))))
                    h11) := by kernel_rfl

theorem e18 (r n : Nat) (h : H) (a0_0 : Int) (a0_1 : Bool) (a0_2 : Option Addr) (a0_2n : Nat) (a0_2s : Nat) (a0_3 : Option Addr) (a0_3n : Nat) (a0_3s : Nat) (a0_4 : Option Addr) (a0_4n : Nat) (a0_4s : Nat) (a0_5 : Option Addr) (a0_5n : Nat) (a0_5s : Nat) (a0_6 : Option Addr) (a0_6n : Nat) (a0_6s : Nat) : ev31 r (n + 1) 18 [.agg #[.int .i64 a0_0, .bool a0_1, .slice a0_2 a0_2n a0_2s, .slice a0_3 a0_3n a0_3s, .slice a0_4 a0_4n a0_4s, .slice a0_5 a0_5n a0_5s, .slice a0_6 a0_6n a0_6s]] h =
  optK
    (ldV P31 3 h.1 0
      (h.new
        (Blk.cells
          [Value.int IntKind.i64 a0_0, Value.bool a0_1, Value.slice a0_2 a0_2n a0_2s, Value.slice a0_3 a0_3n a0_3s, Value.slice a0_4 a0_4n a0_4s, Value.slice a0_5 a0_5n a0_5s,
            Value.slice a0_6 a0_6n a0_6s]
          false)))
    fun v0 =>
    castI IntKind.i64 v0 fun n1 =>
      callK (ev31 r n) 27 [Value.int IntKind.i64 n1]
        (h.new
          (Blk.cells
            [Value.int IntKind.i64 a0_0, Value.bool a0_1, Value.slice a0_2 a0_2n a0_2s, Value.slice a0_3 a0_3n a0_3s, Value.slice a0_4 a0_4n a0_4s, Value.slice a0_5 a0_5n a0_5s,
              Value.slice a0_6 a0_6n a0_6s]
            false))
        fun v2 h3 =>
        castS v2 fun s4 =>
          ifK (4 + s4.size ≤ 9223372036854775807)
            (optK (ldV P31 4 h.1 1 h3) fun v5 =>
              castV v5 fun b6 =>
                bif b6 then
                  ifK (({ data := #[110, 111, 119, 32] } ++ s4).size + 7 ≤ 9223372036854775807)
                    (jumpK
                      (jmp31 r n 18 0 (pc [1, 1, 1] (bd Tryz.f18))
                        (E18_2 (Value.pointer (some { block := h.1, off := 0 })) (Value.string ({ data := #[110, 111, 119, 32] } ++ s4 ++ { data := #[32, 107, 105, 108, 108, 101, 100] }))) h3)
                      (finK P31 [ResultVar.tmp 2]))
                else
                  jumpK
                    (jmp31 r n 18 0 (pc [1, 1, 1] (bd Tryz.f18)) (E18_2 (Value.pointer (some { block := h.1, off := 0 })) (Value.string ({ data := #[110, 111, 119, 32] } ++ s4)))
                      h3)
                    (finK P31 [ResultVar.tmp 2])) := by kernel_rfl

theorem e18_9c (r n : Nat) (h : H) (x1 : Nat) (x3 : ByteArray) : jmp31 r (n + 1) 18 0 (pc [1, 1, 1] (bd Tryz.f18)) (E18_2 (.pointer (some ⟨x1, 0, none⟩)) (.string x3)) h =
  ifK (x3.size + 1 ≤ 9223372036854775807)
    (evLoop (evCode P31 (ev31 r n) (jmp31 r n 18) (dead31 18) r 0 (pc [1, 1, 1, 1, 0, 1, 0, 0] (bd Tryz.f18))) (dead31 18 (4 * 0)) (dead31 18 (4 * 0 + 2))
      (dead31 18 1000002) r (E18_0 (Value.pointer (some { block := x1, off := 0 })) (Value.string (x3 ++ { data := #[10] })) (Value.int IntKind.i64 0)) h
      (blockK 0
        (seqK
          (after P31 (ev31 r n) (jmp31 r n 18) (dead31 18) r 0 (pc [1, 1, 1, 1, 1] (bd Tryz.f18)) (outK (dead31 18) (key (pc [1, 1, 1] (bd Tryz.f18)))))
          (outK (dead31 18) (key (pc [1, 1, 1] (bd Tryz.f18))))))) := by kernel_rfl

theorem e18_9r (h : H) (x2 : ByteArray) : (finK P31 [.tmp 2]) .ret (E18_r (.string x2)) h =
  some (Value.string x2, h) := by kernel_rfl

theorem e18_0 (r n : Nat) (h : H) {R : Type} (x1 : Nat) (x3 : ByteArray) (x4 : Int) (nx : Env → H → Option R) (K : Exit → Env → H → Option R) : evCode P31 (ev31 r n) (jmp31 r n 18) (dead31 18) r 0 (pc [1, 1, 1, 1, 0, 1, 0, 0] (bd Tryz.f18)) (E18_0 (.pointer (some ⟨x1, 0, none⟩)) (.string x3) (.int .i64 x4)) h (loopK nx (dead31 18 (4 * 0)) (dead31 18 (4 * 0 + 2)) (dead31 18 1000002) K) =
  optK (ldV P31 58 x1 2 h) fun v0 =>
    castSl v0 fun _ o2 _ =>
      bif decide (x4 < (↑o2 : Int)) then
        optK (ldV P31 58 x1 2 h) fun v4 =>
          castSl v4 fun a5 o6 o7 =>
            indexAddrA P31 58 (Value.slice a5 o6 o7) (Value.int IntKind.i64 x4) fun v8 =>
              addrK v8 fun o9 o10 =>
                optK (ldV P31 87 o9 o10 h) fun v11 =>
                  castA v11 fun cs12 =>
                    ifK (cellsOf P31 87 = some (Value.agg cs12).cells.size)
                      (optK
                        (stCells
                          (h.new
                            (Blk.cells
                              [Value.string (txt []), Value.string (txt []), Value.string (txt []), Value.int IntKind.i64 0,
                                Value.int IntKind.i64 0, Value.int IntKind.i64 0, Value.int IntKind.i64 0, Value.int IntKind.i64 0, Value.int IntKind.i64 0, Value.int IntKind.i64 0,
                                Value.int IntKind.i64 0, Value.int IntKind.i64 0, Value.int IntKind.i64 0, Value.int IntKind.i64 0, Value.int IntKind.i64 0, Value.int IntKind.i64 0,
                                Value.slice none 0 0]
                              false))
                          h.1 0 (Value.agg cs12).cells.toList)
                        fun h13 =>
                        optK (ldV P31 23 x1 5 h13) fun v14 =>
                          castSl v14 fun a15 o16 o17 =>
                            callK (ev31 r n) 29 [Value.slice a15 o16 o17, Value.int IntKind.i64 x4] h13 fun v18 h19 =>
                              castI IntKind.i64 v18 fun n20 =>
                                optK (ldV P31 9 h.1 0 h19) fun v21 =>
                                  castS v21 fun s22 =>
                                    bif sameLd P31 9 h.1 0 (Value.string s22) h13 then
                                      ifK (7 + s22.size ≤ 9223372036854775807)
                                        (optK (ldV P31 3 h.1 4 h19) fun v23 =>
                                          castI IntKind.i64 v23 fun n24 =>
                                            bif sameLd P31 3 h.1 4 (Value.int IntKind.i64 n24) h13 then
                                              optK (ldV P31 3 h.1 6 h19) fun v25 =>
                                                castI IntKind.i64 v25 fun n26 =>
                                                  bif sameLd P31 3 h.1 6 (Value.int IntKind.i64 n26) h13 then
                                                    optK (ldV P31 3 h.1 7 h19) fun v27 =>
                                                      castI IntKind.i64 v27 fun n28 =>
                                                        bif sameLd P31 3 h.1 7 (Value.int IntKind.i64 n28) h13 then
                                                          optK (ldV P31 3 h.1 10 h19) fun v29 =>
                                                            castI IntKind.i64 v29 fun n30 =>
                                                              bif sameLd P31 3 h.1 10 (Value.int IntKind.i64 n30) h13 then
                                                                optK (ldV P31 3 h.1 11 h19) fun v31 =>
                                                                  castI IntKind.i64 v31 fun n32 =>
                                                                    bif sameLd P31 3 h.1 11 (Value.int IntKind.i64 n32) h13 then
                                                                      optK (ldV P31 3 h.1 12 h19) fun v33 =>
                                                                        castI IntKind.i64 v33 fun n34 =>
                                                                          bif sameLd P31 3 h.1 12 (Value.int IntKind.i64 n34) h13 then
                                                                            optK (ldV P31 3 h.1 13 h19) fun v35 =>
                                                                              castI IntKind.i64 v35 fun n36 =>
                                                                                bif sameLd P31 3 h.1 13 (Value.int IntKind.i64 n36) h13 then
                                                                                  optK (ldV P31 3 h.1 14 h19) fun v37 =>
                                                                                    castI IntKind.i64 v37 fun n38 =>
                                                                                      bif sameLd P31 3 h.1 14 (Value.int IntKind.i64 n38) h13 then
                                                                                        optK (ldV P31 3 h.1 15 h19) fun v39 =>
                                                                                          castI IntKind.i64 v39 fun n40 =>
                                                                                            bif sameLd P31 3 h.1 15 (Value.int IntKind.i64 n40) h13 then
                                                                                              callK (ev31 r n) 28
                                                                                                [Value.string ({ data := #[112, 97, 114, 101, 110, 116, 32] } ++ s22),
                                                                                                  Value.slice (some { block := h19.1, off := 0 }) 10 1]
                                                                                                (h19.new
                                                                                                  (Blk.cells
                                                                                                    [Value.int IntKind.i64 n24, Value.int IntKind.i64 n26, Value.int IntKind.i64 n28,
                                                                                                      Value.int IntKind.i64 n30, Value.int IntKind.i64 n32, Value.int IntKind.i64 n34,
                                                                                                      Value.int IntKind.i64 n36, Value.int IntKind.i64 n38, Value.int IntKind.i64 n40,
                                                                                                      Value.int IntKind.i64 n20]
                                                                                                    false))
                                                                                                fun v41 h42 =>
                                                                                                castS v41 fun s43 =>
                                                                                                  ifK (x3.size + s43.size ≤ 9223372036854775807)
                                                                                                    (evLoop
                                                                                                      (evCode P31 (ev31 r n) (jmp31 r n 18) (dead31 18) r 2
                                                                                                        (pc [1, 1, 1, 1, 0, 1, 0, 0, 1, 0, 0, 1, 1, 1, 0, 0] (bd Tryz.f18)))
                                                                                                      (dead31 18 (4 * 2)) (dead31 18 (4 * 2 + 2)) (dead31 18 1000002) r
                                                                                                      (E18_8 (Value.pointer (some { block := x1, off := 0 })) (Value.string (x3 ++ s43))
                                                                                                        (Value.int IntKind.i64 x4) (Value.pointer (some { block := h.1, off := 0 }))
                                                                                                        (Value.int IntKind.i64 0))
                                                                                                      h42
                                                                                                      (blockK 2
                                                                                                        (blockK 1
                                                                                                          (seqK
                                                                                                            (after P31 (ev31 r n) (jmp31 r n 18) (dead31 18) r 0
                                                                                                              (pc [1, 1, 1, 1, 0, 1, 0, 0, 1, 1] (bd Tryz.f18))
                                                                                                              (loopK nx (dead31 18 (4 * 0)) (dead31 18 (4 * 0 + 2)) (dead31 18 1000002) K))
                                                                                                            (loopK nx (dead31 18 (4 * 0)) (dead31 18 (4 * 0 + 2)) (dead31 18 1000002) K)))))
                                                                                            else none
                                                                                      else none
                                                                                else none
                                                                          else none
                                                                    else none
                                                              else none
                                                        else none
                                                  else none
                                            else none)
                                    else none)
      else K (Exit.exit 0) (E18_2 (Value.pointer (some { block := x1, off := 0 })) (Value.string x3)) h := by kernel_rfl

theorem e18_0x0 (r n : Nat) (h : H) (x1 : Nat) (x3 : ByteArray) : (blockK 0 (seqK (after P31 (ev31 r n) (jmp31 r n 18) (dead31 18) r 0 (pc [1, 1, 1, 1, 1] (bd Tryz.f18)) (outK (dead31 18) (key (pc [1, 1, 1] (bd Tryz.f18))))) (outK (dead31 18) (key (pc [1, 1, 1] (bd Tryz.f18)))))) (.exit 0) (E18_2 (.pointer (some ⟨x1, 0, none⟩)) (.string x3)) h =
  evLoop (evCode P31 (ev31 r n) (jmp31 r n 18) (dead31 18) r 4 (pc [1, 1, 1, 1, 1, 0, 1, 0, 0] (bd Tryz.f18))) (dead31 18 (4 * 4)) (dead31 18 (4 * 4 + 2)) (dead31 18 1000002) r
    (E18_16 (Value.pointer (some { block := x1, off := 0 })) (Value.string x3) (Value.int IntKind.i64 0)) h
    (blockK 4
      (seqK (after P31 (ev31 r n) (jmp31 r n 18) (dead31 18) r 0 (pc [1, 1, 1, 1, 1, 1] (bd Tryz.f18)) (outK (dead31 18) (key (pc [1, 1, 1] (bd Tryz.f18)))))
        (outK (dead31 18) (key (pc [1, 1, 1] (bd Tryz.f18)))))) := by kernel_rfl

theorem e18_8 (r n : Nat) (h : H) {R : Type} (x1 : Nat) (x3 : ByteArray) (x4 : Int) (x5 : Nat) (x6 : Int) (nx : Env → H → Option R) (K : Exit → Env → H → Option R) : evCode P31 (ev31 r n) (jmp31 r n 18) (dead31 18) r 2 (pc [1, 1, 1, 1, 0, 1, 0, 0, 1, 0, 0, 1, 1, 1, 0, 0] (bd Tryz.f18)) (E18_8 (.pointer (some ⟨x1, 0, none⟩)) (.string x3) (.int .i64 x4) (.pointer (some ⟨x5, 0, none⟩)) (.int .i64 x6)) h (loopK nx (dead31 18 (4 * 2)) (dead31 18 (4 * 2 + 2)) (dead31 18 1000002) K) =
  optK (ldV P31 85 x5 16 h) fun v0 =>
    castSl v0 fun _ o2 _ =>
      bif decide (x6 < (↑o2 : Int)) then
        optK (ldV P31 85 x5 16 h) fun v4 =>
          castSl v4 fun a5 o6 o7 =>
            indexAddrA P31 85 (Value.slice a5 o6 o7) (Value.int IntKind.i64 x6) fun v8 =>
              addrK v8 fun o9 o10 =>
                optK (ldV P31 88 o9 o10 h) fun v11 =>
                  castA v11 fun cs12 =>
                    ifK (cellsOf P31 88 = some (Value.agg cs12).cells.size)
                      (optK
                        (stCells
                          (h.new
                            (Blk.cells
                              [Value.string (txt []), Value.string (txt []), Value.int IntKind.i64 0, Value.int IntKind.i64 0, Value.int IntKind.i64 0,
                                Value.int IntKind.i64 0, Value.int IntKind.i64 0, Value.int IntKind.i64 0, Value.int IntKind.i64 0, Value.int IntKind.i64 0]
                              false))
                          h.1 0 (Value.agg cs12).cells.toList)
                        fun h13 =>
                        optK (ldV P31 3 h.1 3 h13) fun v14 =>
                          castI IntKind.i64 v14 fun n15 =>
                            callK (ev31 r n) 30 [Value.int IntKind.i64 n15] h13 fun v16 h17 =>
                              castS v16 fun s18 =>
                                optK (ldV P31 9 h.1 0 h17) fun v19 =>
                                  castS v19 fun s20 =>
                                    bif sameLd P31 9 h.1 0 (Value.string s20) h13 then
                                      ifK (6 + s20.size ≤ 9223372036854775807)
                                        (ifK (({ data := #[99, 104, 105, 108, 100, 32] } ++ s20).size + 1 ≤ 9223372036854775807)
                                          (optK (ldV P31 9 h.1 1 h17) fun v21 =>
                                            castS v21 fun s22 =>
                                              bif sameLd P31 9 h.1 1 (Value.string s22) h13 then
                                                ifK (({ data := #[99, 104, 105, 108, 100, 32] } ++ s20 ++ { data := #[32] }).size + s22.size ≤ 9223372036854775807)
                                                  (ifK (({ data := #[99, 104, 105, 108, 100, 32] } ++ s20 ++ { data := #[32] } ++ s22).size + 1 ≤ 9223372036854775807)
                                                    (ifK (({ data := #[99, 104, 105, 108, 100, 32] } ++ s20 ++ { data := #[32] } ++ s22 ++ { data := #[32] }).size + s18.size ≤ 9223372036854775807)
                                                      (optK (ldV P31 3 h.1 4 h17) fun v23 =>
                                                        castI IntKind.i64 v23 fun n24 =>
                                                          bif sameLd P31 3 h.1 4 (Value.int IntKind.i64 n24) h13 then
                                                            optK (ldV P31 3 h.1 5 h17) fun v25 =>
                                                              castI IntKind.i64 v25 fun n26 =>
                                                                bif sameLd P31 3 h.1 5 (Value.int IntKind.i64 n26) h13 then
                                                                  optK (ldV P31 3 h.1 8 h17) fun v27 =>
                                                                    castI IntKind.i64 v27 fun n28 =>
                                                                      bif sameLd P31 3 h.1 8 (Value.int IntKind.i64 n28) h13 then
                                                                        optK (ldV P31 3 h.1 9 h17) fun v29 =>
                                                                          castI IntKind.i64 v29 fun n30 =>
                                                                            bif sameLd P31 3 h.1 9 (Value.int IntKind.i64 n30) h13 then
                                                                              callK (ev31 r n) 28
                                                                                [Value.string ({ data := #[99, 104, 105, 108, 100, 32] } ++ s20 ++ { data := #[32] } ++ s22 ++ { data := #[32] } ++ s18),
                                                                                  Value.slice (some { block := h17.1, off := 0 }) 4 1]
                                                                                (h17.new
                                                                                  (Blk.cells [Value.int IntKind.i64 n24, Value.int IntKind.i64 n26, Value.int IntKind.i64 n28, Value.int IntKind.i64 n30]
                                                                                    false))
                                                                                fun v31 h32 =>
                                                                                castS v31 fun s33 =>
                                                                                  ifK (x3.size + s33.size ≤ 9223372036854775807)
                                                                                    (nx
                                                                                      (E18_8 (Value.pointer (some { block := x1, off := 0 })) (Value.string (x3 ++ s33)) (Value.int IntKind.i64 x4)
                                                                                        (Value.pointer (some { block := x5, off := 0 })) (Value.int IntKind.i64 (IntKind.i64.wrap (x6 + 1))))
                                                                                      h32)
                                                                            else none
                                                                      else none
                                                                else none
                                                          else none)))
                                              else none))
                                    else none)
      else K (Exit.exit 2) (E18_0 (Value.pointer (some { block := x1, off := 0 })) (Value.string x3) (Value.int IntKind.i64 x4)) h := by kernel_rfl

theorem e18_8x2 (r n : Nat) (h : H) {R : Type} (x1 : Nat) (x3 : ByteArray) (x4 : Int) (nx : Env → H → Option R) (K : Exit → Env → H → Option R) : (blockK 2 (blockK 1 (seqK (after P31 (ev31 r n) (jmp31 r n 18) (dead31 18) r 0 (pc [1, 1, 1, 1, 0, 1, 0, 0, 1, 1] (bd Tryz.f18)) (loopK nx (dead31 18 (4 * 0)) (dead31 18 (4 * 0 + 2)) (dead31 18 1000002) K)) (loopK nx (dead31 18 (4 * 0)) (dead31 18 (4 * 0 + 2)) (dead31 18 1000002) K)))) (.exit 2) (E18_0 (.pointer (some ⟨x1, 0, none⟩)) (.string x3) (.int .i64 x4)) h =
  nx (E18_0 (Value.pointer (some { block := x1, off := 0 })) (Value.string x3) (Value.int IntKind.i64 (IntKind.i64.wrap (x4 + 1)))) h := by kernel_rfl

theorem e18_16 (r n : Nat) (h : H) {R : Type} (x1 : Nat) (x3 : ByteArray) (x8 : Int) (nx : Env → H → Option R) (K : Exit → Env → H → Option R) : evCode P31 (ev31 r n) (jmp31 r n 18) (dead31 18) r 4 (pc [1, 1, 1, 1, 1, 0, 1, 0, 0] (bd Tryz.f18)) (E18_16 (.pointer (some ⟨x1, 0, none⟩)) (.string x3) (.int .i64 x8)) h (loopK nx (dead31 18 (4 * 4)) (dead31 18 (4 * 4 + 2)) (dead31 18 1000002) K) =
  optK (ldV P31 23 x1 3 h) fun v0 =>
    castSl v0 fun _ o2 _ =>
      bif decide (x8 < (↑o2 : Int)) then
        optK (ldV P31 23 x1 4 h) fun v4 =>
          castSl v4 fun a5 o6 o7 =>
            callK (ev31 r n) 29 [Value.slice a5 o6 o7, Value.int IntKind.i64 x8] h fun v8 h9 =>
              castI IntKind.i64 v8 fun n10 =>
                optK (ldV P31 23 x1 3 h9) fun v11 =>
                  castSl v11 fun a12 o13 o14 =>
                    bif sameLd P31 23 x1 3 (Value.slice a12 o13 o14) h then
                      indexAddrA P31 23 (Value.slice a12 o13 o14) (Value.int IntKind.i64 x8) fun v15 =>
                        addrK v15 fun o16 o17 =>
                          optK (ldV P31 3 o16 o17 h9) fun v18 =>
                            castI IntKind.i64 v18 fun n19 =>
                              bif sameLd P31 3 o16 o17 (Value.int IntKind.i64 n19) h then
                                callK (ev31 r n) 28 [Value.string (txt [117, 115, 101, 100]), Value.slice (some { block := h9.1, off := 0 }) 2 1]
                                  (h9.new (Blk.cells [Value.int IntKind.i64 n19, Value.int IntKind.i64 n10] false)) fun v20 h21 =>
                                  castS v20 fun s22 =>
                                    ifK (x3.size + s22.size ≤ 9223372036854775807)
                                      (nx (E18_16 (Value.pointer (some { block := x1, off := 0 })) (Value.string (x3 ++ s22)) (Value.int IntKind.i64 (IntKind.i64.wrap (x8 + 1)))) h21)
                              else none
                    else none
      else K (Exit.exit 4) (E18_2 (Value.pointer (some { block := x1, off := 0 })) (Value.string x3)) h := by kernel_rfl

theorem e18_16x4 (r n : Nat) (h : H) (x1 : Nat) (x3 : ByteArray) : (blockK 4 (seqK (after P31 (ev31 r n) (jmp31 r n 18) (dead31 18) r 0 (pc [1, 1, 1, 1, 1, 1] (bd Tryz.f18)) (outK (dead31 18) (key (pc [1, 1, 1] (bd Tryz.f18))))) (outK (dead31 18) (key (pc [1, 1, 1] (bd Tryz.f18)))))) (.exit 4) (E18_2 (.pointer (some ⟨x1, 0, none⟩)) (.string x3)) h =
  evLoop (evCode P31 (ev31 r n) (jmp31 r n 18) (dead31 18) r 6 (pc [1, 1, 1, 1, 1, 1, 0, 1, 0, 0] (bd Tryz.f18))) (dead31 18 (4 * 6)) (dead31 18 (4 * 6 + 2)) (dead31 18 1000002) r
    (E18_24 (Value.pointer (some { block := x1, off := 0 })) (Value.string x3) (Value.int IntKind.i64 0)) h
    (blockK 6
      (seqK (after P31 (ev31 r n) (jmp31 r n 18) (dead31 18) r 0 (pc [1, 1, 1, 1, 1, 1, 1] (bd Tryz.f18)) (outK (dead31 18) (key (pc [1, 1, 1] (bd Tryz.f18)))))
        (outK (dead31 18) (key (pc [1, 1, 1] (bd Tryz.f18)))))) := by kernel_rfl

theorem e18_24 (r n : Nat) (h : H) {R : Type} (x1 : Nat) (x3 : ByteArray) (x9 : Int) (nx : Env → H → Option R) (K : Exit → Env → H → Option R) : evCode P31 (ev31 r n) (jmp31 r n 18) (dead31 18) r 6 (pc [1, 1, 1, 1, 1, 1, 0, 1, 0, 0] (bd Tryz.f18)) (E18_24 (.pointer (some ⟨x1, 0, none⟩)) (.string x3) (.int .i64 x9)) h (loopK nx (dead31 18 (4 * 6)) (dead31 18 (4 * 6 + 2)) (dead31 18 1000002) K) =
  optK (ldV P31 23 x1 6 h) fun v0 =>
    castSl v0 fun _ o2 _ =>
      bif decide (x9 < (↑o2 : Int)) then
        optK (ldV P31 23 x1 6 h) fun v4 =>
          castSl v4 fun a5 o6 o7 =>
            indexAddrA P31 23 (Value.slice a5 o6 o7) (Value.int IntKind.i64 x9) fun v8 =>
              addrK v8 fun o9 o10 =>
                optK (ldV P31 3 o9 o10 h) fun v11 =>
                  castI IntKind.i64 v11 fun n12 =>
                    callK (ev31 r n) 28 [Value.string (txt [102, 97, 117, 108, 116, 115]), Value.slice (some { block := h.1, off := 0 }) 1 1]
                      (h.new (Blk.cells [Value.int IntKind.i64 n12] false)) fun v13 h14 =>
                      castS v13 fun s15 =>
                        ifK (x3.size + s15.size ≤ 9223372036854775807)
                          (nx (E18_24 (Value.pointer (some { block := x1, off := 0 })) (Value.string (x3 ++ s15)) (Value.int IntKind.i64 (IntKind.i64.wrap (x9 + 1)))) h14)
      else K (Exit.exit 6) (E18_26 (Value.string x3)) h := by kernel_rfl

theorem e18_24x6 (r n : Nat) (h : H) (x3 : ByteArray) : (blockK 6 (seqK (after P31 (ev31 r n) (jmp31 r n 18) (dead31 18) r 0 (pc [1, 1, 1, 1, 1, 1, 1] (bd Tryz.f18)) (outK (dead31 18) (key (pc [1, 1, 1] (bd Tryz.f18))))) (outK (dead31 18) (key (pc [1, 1, 1] (bd Tryz.f18)))))) (.exit 6) (E18_26 (.string x3)) h =
  some (Exit.ret, E18_r (Value.string x3), h) := by kernel_rfl

theorem e27 (r n : Nat) (h : H) (a0 : Int) : ev31 r (n + 1) 27 [.int .i64 a0] h =
  bif decide (a0 ≥ 0) then callK (ev31 r n) 63 [Value.int IntKind.i64 a0] h fun v0 h1 => castS v0 fun s2 => some (Value.string s2, h1)
  else
    bif IntKind.i64.wrap (a0.tdiv 10) == 0 then
      callK (ev31 r n) 63 [Value.int IntKind.i64 (IntKind.i64.wrap (0 - a0.tmod 10))] h fun v3 h4 =>
        castS v3 fun s5 => ifK (1 + s5.size ≤ 9223372036854775807) (some (Value.string ({ data := #[45] } ++ s5), h4))
    else
      callK (ev31 r n) 63 [Value.int IntKind.i64 (IntKind.i64.wrap (0 - IntKind.i64.wrap (a0.tdiv 10)))] h fun v6 h7 =>
        castS v6 fun s8 =>
          ifK (1 + s8.size ≤ 9223372036854775807)
            (callK (ev31 r n) 63 [Value.int IntKind.i64 (IntKind.i64.wrap (0 - a0.tmod 10))] h7 fun v9 h10 =>
              castS v9 fun s11 => ifK (({ data := #[45] } ++ s8).size + s11.size ≤ 9223372036854775807) (some (Value.string ({ data := #[45] } ++ s8 ++ s11), h10))) := by kernel_rfl

theorem e28 (r n : Nat) (h : H) (a0 : ByteArray) (a1 : Option Addr) (a1n : Nat) (a1s : Nat) : ev31 r (n + 1) 28 [.string a0, .slice a1 a1n a1s] h =
  evLoop (evCode P31 (ev31 r n) (jmp31 r n 28) (dead31 28) r 0 (pc [1, 0, 1, 0, 0] (bd Tryz.f28))) (dead31 28 (4 * 0)) (dead31 28 (4 * 0 + 2))
    (dead31 28 1000002) r (E28_0 (Value.string a0) (Value.slice a1 a1n a1s) (Value.int IntKind.i64 0)) h
    (blockK 0
      (seqK (after P31 (ev31 r n) (jmp31 r n 28) (dead31 28) r 0 (pc [1, 1] (bd Tryz.f28)) (finK P31 [ResultVar.tmp 4])) (finK P31 [ResultVar.tmp 4]))) := by kernel_rfl

theorem e28_0 (r n : Nat) (h : H) {R : Type} (x0 : ByteArray) (x1 : Option Addr) (x1n : Nat) (x1s : Nat) (x5 : Int) (nx : Env → H → Option R) (K : Exit → Env → H → Option R) : evCode P31 (ev31 r n) (jmp31 r n 28) (dead31 28) r 0 (pc [1, 0, 1, 0, 0] (bd Tryz.f28)) (E28_0 (.string x0) (.slice x1 x1n x1s) (.int .i64 x5)) h (loopK nx (dead31 28 (4 * 0)) (dead31 28 (4 * 0 + 2)) (dead31 28 1000002) K) =
  bif decide (x5 < (↑x1n : Int)) then
    indexAddrA P31 23 (Value.slice x1 x1n x1s) (Value.int IntKind.i64 x5) fun v0 =>
      addrK v0 fun o1 o2 =>
        optK (ldV P31 3 o1 o2 h) fun v3 =>
          castI IntKind.i64 v3 fun n4 =>
            callK (ev31 r n) 27 [Value.int IntKind.i64 n4] h fun v5 h6 =>
              castS v5 fun s7 =>
                ifK (1 + s7.size ≤ 9223372036854775807)
                  (ifK (x0.size + ({ data := #[32] } ++ s7).size ≤ 9223372036854775807)
                    (nx (E28_0 (Value.string (x0 ++ ({ data := #[32] } ++ s7))) (Value.slice x1 x1n x1s) (Value.int IntKind.i64 (IntKind.i64.wrap (x5 + 1)))) h6))
  else K (Exit.exit 0) (E28_2 (Value.string x0)) h := by kernel_rfl

theorem e28_0x0 (r n : Nat) (h : H) (x0 : ByteArray) : (blockK 0 (seqK (after P31 (ev31 r n) (jmp31 r n 28) (dead31 28) r 0 (pc [1, 1] (bd Tryz.f28)) (finK P31 [.tmp 4])) (finK P31 [.tmp 4]))) (.exit 0) (E28_2 (.string x0)) h =
  ifK (x0.size + 1 ≤ 9223372036854775807) (some (Value.string (x0 ++ { data := #[10] }), h)) := by kernel_rfl

theorem e29 (r n : Nat) (h : H) (a0 : Option Addr) (a0n : Nat) (a0s : Nat) (a1 : Int) : ev31 r (n + 1) 29 [.slice a0 a0n a0s, .int .i64 a1] h =
  bif decide (a1 ≥ (↑a0n : Int)) then some (Value.int IntKind.i64 0, h)
  else
    indexAddrA P31 23 (Value.slice a0 a0n a0s) (Value.int IntKind.i64 a1) fun v0 =>
      addrK v0 fun o1 o2 => optK (ldV P31 3 o1 o2 h) fun v3 => castI IntKind.i64 v3 fun n4 => some (Value.int IntKind.i64 n4, h) := by kernel_rfl

theorem e30 (r n : Nat) (h : H) (a0 : Int) : ev31 r (n + 1) 30 [.int .i64 a0] h =
  bif decide (a0 < 0) then
    some
      (Value.string (txt []),
        h.new
          (Blk.cells
            [Value.string (txt []), Value.string (txt [112, 101, 110, 100, 105, 110, 103]), Value.string (txt [110, 101, 119]),
              Value.string (txt [112, 97, 114, 116, 105, 97, 108]), Value.string (txt [99, 97, 110, 99, 101, 108, 105, 110, 103]),
              Value.string (txt [114, 101, 112, 108, 97, 99, 105, 110, 103]), Value.string (txt [102, 105, 108, 108, 101, 100]),
              Value.string (txt [99, 97, 110, 99, 101, 108, 101, 100]), Value.string (txt [114, 101, 106, 101, 99, 116, 101, 100])]
            false))
  else
    bif decide (a0 > 8) then
      some
        (Value.string (txt []),
          h.new
            (Blk.cells
              [Value.string (txt []), Value.string (txt [112, 101, 110, 100, 105, 110, 103]), Value.string (txt [110, 101, 119]),
                Value.string (txt [112, 97, 114, 116, 105, 97, 108]), Value.string (txt [99, 97, 110, 99, 101, 108, 105, 110, 103]),
                Value.string (txt [114, 101, 112, 108, 97, 99, 105, 110, 103]), Value.string (txt [102, 105, 108, 108, 101, 100]),
                Value.string (txt [99, 97, 110, 99, 101, 108, 101, 100]), Value.string (txt [114, 101, 106, 101, 99, 116, 101, 100])]
              false))
    else
      ifK (0 ≤ a0 ∧ a0 < 9)
        (optK
          (ldV P31 9 h.1 (0 + a0.toNat * 1)
            (h.new
              (Blk.cells
                [Value.string (txt []), Value.string (txt [112, 101, 110, 100, 105, 110, 103]), Value.string (txt [110, 101, 119]),
                  Value.string (txt [112, 97, 114, 116, 105, 97, 108]), Value.string (txt [99, 97, 110, 99, 101, 108, 105, 110, 103]),
                  Value.string (txt [114, 101, 112, 108, 97, 99, 105, 110, 103]), Value.string (txt [102, 105, 108, 108, 101, 100]),
                  Value.string (txt [99, 97, 110, 99, 101, 108, 101, 100]), Value.string (txt [114, 101, 106, 101, 99, 116, 101, 100])]
                false)))
          fun v0 =>
          castS v0 fun s1 =>
            some
              (Value.string s1,
                h.new
                  (Blk.cells
                    [Value.string (txt []), Value.string (txt [112, 101, 110, 100, 105, 110, 103]), Value.string (txt [110, 101, 119]),
                      Value.string (txt [112, 97, 114, 116, 105, 97, 108]), Value.string (txt [99, 97, 110, 99, 101, 108, 105, 110, 103]),
                      Value.string (txt [114, 101, 112, 108, 97, 99, 105, 110, 103]), Value.string (txt [102, 105, 108, 108, 101, 100]),
                      Value.string (txt [99, 97, 110, 99, 101, 108, 101, 100]), Value.string (txt [114, 101, 106, 101, 99, 116, 101, 100])]
                    false))) := by kernel_rfl

end Go.Ev
