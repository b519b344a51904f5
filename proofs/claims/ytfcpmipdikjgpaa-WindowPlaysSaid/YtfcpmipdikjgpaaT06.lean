/-
  What the functions of WindowPlays come to.
-/
import Derived.Test.YtfcpmipdikjgpaaEvP
import Derived.KernelRfl
import Derived.Test.YtfcpmipdikjgpaaProg
namespace Go.Ev
open Go Go.Proofs
def dead06 : FuncId → Nat → List Nat
  | 3, 0 => [0, 2, 3, 4, 5, 8, 10, 11, 12, 13, 14, 15, 16, 17, 18, 19, 20, 21, 22, 23, 24, 25, 26, 27, 28, 29, 30, 31, 32, 33, 34, 35, 36, 37, 38, 39, 40, 41, 42, 43, 44, 45, 46, 47, 48, 49, 53, 54, 55, 56, 57, 58, 59, 60, 61, 62, 63, 64, 65, 66, 67, 68, 69, 70, 71, 72, 73, 74, 75, 76, 77, 78, 79, 80, 81, 82, 83, 84, 85, 86, 87, 88, 89, 90, 91, 92, 93, 94, 95, 96, 97, 98, 99, 100, 101, 102, 103, 104, 105, 106, 107, 108, 109, 110, 111, 112, 113, 114, 115, 116, 117, 118, 119, 120, 121, 122, 123, 124, 125, 126, 127, 128, 129, 130, 131, 132, 133, 134, 135, 136, 137, 138, 139, 140, 141, 142, 143, 144, 145, 146, 147]
  | 9, 0 => [2, 3, 4, 7, 8, 9, 10, 11, 12, 13, 14, 15, 16, 17, 18, 19, 20, 21, 22, 23, 24, 25, 26, 27, 28, 29, 30, 31, 32, 33, 34, 35, 36, 37, 38, 39, 40, 41, 42, 43, 44, 45, 46, 47, 48, 49, 50, 51, 52, 53, 54]
  | 10, 0 => [2, 3, 4, 5, 6, 8, 9, 10, 11, 12, 13, 14, 15, 16, 17, 18, 19, 20, 21, 22, 23, 24, 28, 29, 30, 31, 32, 33, 34, 35, 36, 37, 38, 39, 40, 41, 42]
  | _, _ => []
def E3_0 (v1 v6 v7 v9 v50 v51 v52 : Value) : Env := [none, some v1, none, none, none, none, some v6, some v7, none, some v9, none, none, none, none, none, none, none, none, none, none, none, none, none, none, none, none, none, none, none, none, none, none, none, none, none, none, none, none, none, none, none, none, none, none, none, none, none, none, none, none, some v50, some v51, some v52, none, none, none, none, none, none, none, none, none, none, none, none, none, none, none, none, none, none, none, none, none, none, none, none, none, none, none, none, none, none, none, none, none, none, none, none, none, none, none, none, none, none, none, none, none, none, none, none, none, none, none, none, none, none, none, none, none, none, none, none, none, none, none, none, none, none, none, none, none, none, none, none, none, none, none, none, none, none, none, none, none, none, none, none, none, none, none, none, none, none, none, none, none, none, none]
def E9_0 (v0 v1 v5 v6 : Value) : Env := [some v0, some v1, none, none, none, some v5, some v6, none, none, none, none, none, none, none, none, none, none, none, none, none, none, none, none, none, none, none, none, none, none, none, none, none, none, none, none, none, none, none, none, none, none, none, none, none, none, none, none, none, none, none, none, none, none, none, none]
def E10_0 (v0 v1 v7 v25 v26 v27 : Value) : Env := [some v0, some v1, none, none, none, none, none, some v7, none, none, none, none, none, none, none, none, none, none, none, none, none, none, none, none, none, some v25, some v26, some v27, none, none, none, none, none, none, none, none, none, none, none, none, none, none, none]
noncomputable abbrev P6 := Try.prog
noncomputable abbrev ev06 (r n : Nat) : CallF := evCall P6 dead06 (fun _ => none) r n

theorem e5 (r n : Nat) (h : H) (a b : Int) : ev06 r (n + 1) 5 [.int .i64 a, .int .i64 b] h =
  bif decide (a < 1) then some (Value.tuple { toList := [Value.pointer none, Value.int IntKind.i64 2] }, h)
  else
    bif decide (a > 1073741824) then some (Value.tuple { toList := [Value.pointer none, Value.int IntKind.i64 2] }, h)
    else
      bif decide (b < 1) then some (Value.tuple { toList := [Value.pointer none, Value.int IntKind.i64 2] }, h)
      else
        bif decide (b > 1024) then some (Value.tuple { toList := [Value.pointer none, Value.int IntKind.i64 2] }, h)
        else
          some
            (Value.tuple { toList := [Value.pointer (some { block := h.1, off := 0 }), Value.int IntKind.i64 0] },
              h.new (Blk.cells [Value.int IntKind.i64 a, Value.int IntKind.i64 b, Value.slice none 0 0] false)) := by kernel_rfl

theorem e6 (r n : Nat) (h : H) (a b : Int) : ev06 r (n + 1) 6 [.int .i64 a, .int .i64 b] h =
  bif decide (a ≥ 1) then
    bif decide (a ≤ 1073741824) then bif decide (b ≥ 1) then bif decide (b ≤ 1024) then some (Value.bool true, h) else some (Value.bool false, h) else some (Value.bool false, h)
    else some (Value.bool false, h)
  else some (Value.bool false, h) := by kernel_rfl

theorem e16 (r n : Nat) (h : H) (i : Nat) : ev06 r (n + 1) 16 [.pointer (some ⟨i, 0, none⟩)] h =
  optK (ldV P6 3 i 1 h) fun v0 => castI IntKind.i64 v0 fun n1 => bif decide (n1 > 0) then some (Value.bool true, h) else some (Value.bool false, h) := by kernel_rfl

theorem e15 (r n : Nat) (h : H) (i : Nat) : ev06 r (n + 1) 15 [.pointer (some ⟨i, 0, none⟩)] h =
  callK (ev06 r n) 16 [Value.pointer (some { block := i, off := 0 })] h fun v0 h1 =>
    castBB v0
      (optK (ldV P6 22 i 2 h1) fun v2 =>
        castSl v2 fun _ o4 _ =>
          bif (↑o4 : Int) == 0 then some (Value.tuple { toList := [Value.int IntKind.i64 0, Value.bool false] }, h1)
          else
            optK (ldV P6 22 i 2 h1) fun v6 =>
              castSl v6 fun a7 o8 o9 =>
                optK (ldV P6 22 i 2 h1) fun v10 =>
                  castSl v10 fun _ o12 _ =>
                    indexAddrA P6 22 (Value.slice a7 o8 o9) (Value.int IntKind.i64 (IntKind.i64.wrap ((↑o12 : Int) - 1))) fun v14 =>
                      addrK v14 fun o15 o16 => optK (ldV P6 3 o15 o16 h1) fun v17 => castI IntKind.i64 v17 fun n18 => some (Value.tuple { toList := [Value.int IntKind.i64 n18, Value.bool true] }, h1))
      (some (Value.tuple { toList := [Value.int IntKind.i64 0, Value.bool false] }, h1)) := by kernel_rfl

theorem e17 (r n : Nat) (h : H) (i : Nat) (now : Int) : ev06 r (n + 1) 17 [.pointer (some ⟨i, 0, none⟩), .int .i64 now] h =
  callK (ev06 r n) 15 [Value.pointer (some { block := i, off := 0 })] h fun v0 h1 =>
    castTup v0 fun l2 =>
      headK l2 fun v3 l4 =>
        castI IntKind.i64 v3 fun n5 =>
          headK l4 fun v6 l7 =>
            castBB v6
              (nilK l7 fun _ =>
                bif decide (now ≥ 0) then bif decide (now ≤ 1099511627776) then bif decide (now ≥ n5) then some (Value.bool true, h1) else some (Value.bool false, h1) else some (Value.bool false, h1)
                else some (Value.bool false, h1))
              (nilK l7 fun _ => bif decide (now ≥ 0) then bif decide (now ≤ 1099511627776) then some (Value.bool true, h1) else some (Value.bool false, h1) else some (Value.bool false, h1)) := by kernel_rfl

theorem e7 (r n : Nat) (h : H) (i : Nat) (now : Int) : ev06 r (n + 1) 7 [.pointer (some ⟨i, 0, none⟩), .int .i64 now] h =
  callK (ev06 r n) 16 [Value.pointer (some { block := i, off := 0 })] h fun v0 h1 =>
    castBB v0
      (callK (ev06 r n) 17 [Value.pointer (some { block := i, off := 0 }), Value.int IntKind.i64 now] h1 fun v2 h3 =>
        castBB v2
          (callK (ev06 r n) 10 [Value.pointer (some { block := i, off := 0 }), Value.int IntKind.i64 now] h3 fun v4 h5 =>
            castI IntKind.i64 v4 fun n6 =>
              optK (ldV P6 3 i 1 h5) fun v7 =>
                castI IntKind.i64 v7 fun n8 =>
                  bif sameLd P6 3 i 1 (Value.int IntKind.i64 n8) h3 then
                    bif decide (n6 < n8) then some (Value.tuple { toList := [Value.int IntKind.i64 now, Value.int IntKind.i64 0] }, h5)
                    else
                      optK (ldV P6 22 i 2 h5) fun v9 =>
                        castSl v9 fun a10 o11 o12 =>
                          indexAddrA P6 22 (Value.slice a10 o11 o12) (Value.int IntKind.i64 0) fun v13 =>
                            addrK v13 fun o14 o15 =>
                              optK (ldV P6 3 o14 o15 h5) fun v16 =>
                                castI IntKind.i64 v16 fun n17 =>
                                  optK (ldV P6 3 i 0 h5) fun v18 =>
                                    castI IntKind.i64 v18 fun n19 => some (Value.tuple { toList := [Value.int IntKind.i64 (IntKind.i64.wrap (n17 + n19)), Value.int IntKind.i64 0] }, h5)
                  else none)
          (some (Value.tuple { toList := [Value.int IntKind.i64 0, Value.int IntKind.i64 2] }, h3)))
      (some (Value.tuple { toList := [Value.int IntKind.i64 0, Value.int IntKind.i64 1] }, h1)) := by kernel_rfl

theorem e11 (r n : Nat) (h : H) (i : Nat) (now : Int) : ev06 r (n + 1) 11 [.pointer (some ⟨i, 0, none⟩), .int .i64 now] h =
  callK (ev06 r n) 16 [Value.pointer (some { block := i, off := 0 })] h fun v0 h1 =>
    castBB v0
      (callK (ev06 r n) 17 [Value.pointer (some { block := i, off := 0 }), Value.int IntKind.i64 now] h1 fun v2 h3 =>
        castBB v2
          (callK (ev06 r n) 10 [Value.pointer (some { block := i, off := 0 }), Value.int IntKind.i64 now] h3 fun v4 h5 =>
            castI IntKind.i64 v4 fun n6 =>
              optK (ldV P6 3 i 1 h5) fun v7 =>
                castI IntKind.i64 v7 fun n8 => bif sameLd P6 3 i 1 (Value.int IntKind.i64 n8) h3 then bif decide (n6 < n8) then some (Value.bool true, h5) else some (Value.bool false, h5) else none)
          (some (Value.bool false, h3)))
      (some (Value.bool false, h1)) := by kernel_rfl

theorem e13 (r n : Nat) (h : H) (i : Nat) (now : Int) : ev06 r (n + 1) 13 [.pointer (some ⟨i, 0, none⟩), .int .i64 now] h =
  callK (ev06 r n) 16 [Value.pointer (some { block := i, off := 0 })] h fun v0 h1 =>
    castBB v0
      (callK (ev06 r n) 17 [Value.pointer (some { block := i, off := 0 }), Value.int IntKind.i64 now] h1 fun v2 h3 =>
        castBB v2
          (callK (ev06 r n) 10 [Value.pointer (some { block := i, off := 0 }), Value.int IntKind.i64 now] h3 fun v4 h5 =>
            castI IntKind.i64 v4 fun n6 =>
              optK (ldV P6 3 i 1 h5) fun v7 =>
                castI IntKind.i64 v7 fun n8 =>
                  bif sameLd P6 3 i 1 (Value.int IntKind.i64 n8) h3 then
                    bif decide (n6 ≥ n8) then some (Value.int IntKind.i64 60, h5)
                    else
                      optK (ldV P6 22 i 2 h5) fun v9 =>
                        castSl v9 fun _ o11 _ =>
                          optK (ldV P6 3 i 1 h5) fun v13 =>
                            castI IntKind.i64 v13 fun n14 =>
                              bif (↑o11 : Int) == n14 then
                                optK (ldV P6 22 i 2 h5) fun v15 =>
                                  castSl v15 fun a16 o17 o18 =>
                                    optK (ldV P6 22 i 2 h5) fun v19 =>
                                      castSl v19 fun a20 o21 o22 =>
                                        sliceA P6 22 (Value.slice a20 o21 o22) (some (Value.int IntKind.i64 1)) none fun v23 =>
                                          castSl v23 fun a24 o25 o26 =>
                                            copyA P6 { toList := [22, 22] } (Value.slice a16 o17 o18) (Value.slice a24 o25 o26) h5 fun v27 h28 =>
                                              castI IntKind.i64 v27 fun _ =>
                                                optK (ldV P6 22 i 2 h28) fun v30 =>
                                                  castSl v30 fun a31 o32 o33 =>
                                                    optK (ldV P6 3 i 1 h28) fun v34 =>
                                                      castI IntKind.i64 v34 fun n35 =>
                                                        sliceA P6 22 (Value.slice a31 o32 o33) none (some (Value.int IntKind.i64 (IntKind.i64.wrap (n35 - 1)))) fun v36 =>
                                                          castSl v36 fun a37 o38 o39 =>
                                                            optK (stCells h28 i 2 [Value.slice a37 o38 o39]) fun h40 =>
                                                              optK (ldV P6 22 i 2 h40) fun v41 =>
                                                                castSl v41 fun a42 o43 o44 =>
                                                                  appendA P6 { toList := [22, 22] } (Value.slice a42 o43 o44) (Value.slice (some { block := h40.1, off := 0 }) 1 1)
                                                                    (h40.new (Blk.cells [Value.int IntKind.i64 now] false)) fun v45 h46 =>
                                                                    castSl v45 fun a47 o48 o49 => optK (stCells h46 i 2 [Value.slice a47 o48 o49]) fun h50 => some (Value.int IntKind.i64 0, h50)
                              else
                                optK (ldV P6 22 i 2 h5) fun v51 =>
                                  castSl v51 fun a52 o53 o54 =>
                                    appendA P6 { toList := [22, 22] } (Value.slice a52 o53 o54) (Value.slice (some { block := h5.1, off := 0 }) 1 1)
                                      (h5.new (Blk.cells [Value.int IntKind.i64 now] false)) fun v55 h56 =>
                                      castSl v55 fun a57 o58 o59 => optK (stCells h56 i 2 [Value.slice a57 o58 o59]) fun h60 => some (Value.int IntKind.i64 0, h60)
                  else none)
          (some (Value.int IntKind.i64 2, h3)))
      (some (Value.int IntKind.i64 1, h1)) := by kernel_rfl

theorem e8 (r n : Nat) (h : H) (i : Nat) (now : Int) : ev06 r (n + 1) 8 [.pointer (some ⟨i, 0, none⟩), .int .i64 now] h =
  callK (ev06 r n) 12 [Value.pointer (some { block := i, off := 0 }), Value.int IntKind.i64 now] h fun v0 h1 =>
    castBB v0
      (callK (ev06 r n) 9 [Value.pointer (some { block := i, off := 0 }), Value.int IntKind.i64 now] h1 fun v2 h3 =>
        castI IntKind.i64 v2 fun n4 =>
          optK (ldV P6 3 i 1 h3) fun v5 =>
            castI IntKind.i64 v5 fun n6 =>
              bif decide (n4 < n6) then some (Value.tuple { toList := [Value.int IntKind.i64 now, Value.int IntKind.i64 0] }, h3)
              else
                optK (ldV P6 22 i 2 h3) fun v7 =>
                  castSl v7 fun a8 o9 o10 =>
                    optK (ldV P6 22 i 2 h3) fun v11 =>
                      castSl v11 fun _ o13 _ =>
                        indexAddrA P6 22 (Value.slice a8 o9 o10) (Value.int IntKind.i64 (IntKind.i64.wrap ((↑o13 : Int) - n4))) fun v15 =>
                          addrK v15 fun o16 o17 =>
                            optK (ldV P6 3 o16 o17 h3) fun v18 =>
                              castI IntKind.i64 v18 fun n19 =>
                                optK (ldV P6 3 i 0 h3) fun v20 =>
                                  castI IntKind.i64 v20 fun n21 => some (Value.tuple { toList := [Value.int IntKind.i64 (IntKind.i64.wrap (n19 + n21)), Value.int IntKind.i64 0] }, h3))
      (some (Value.tuple { toList := [Value.int IntKind.i64 0, Value.int IntKind.i64 2] }, h1)) := by kernel_rfl

theorem e12 (r n : Nat) (h : H) (i : Nat) (now : Int) : ev06 r (n + 1) 12 [.pointer (some ⟨i, 0, none⟩), .int .i64 now] h =
  bif decide (now < 0) then some (Value.bool false, h)
  else
    bif decide (now > 1099511627776) then some (Value.bool false, h)
    else
      optK (ldV P6 22 i 2 h) fun v0 =>
        castSl v0 fun _ o2 _ =>
          bif (↑o2 : Int) == 0 then some (Value.bool true, h)
          else
            optK (ldV P6 22 i 2 h) fun v4 =>
              castSl v4 fun a5 o6 o7 =>
                optK (ldV P6 22 i 2 h) fun v8 =>
                  castSl v8 fun _ o10 _ =>
                    indexAddrA P6 22 (Value.slice a5 o6 o7) (Value.int IntKind.i64 (IntKind.i64.wrap ((↑o10 : Int) - 1))) fun v12 =>
                      addrK v12 fun o13 o14 => optK (ldV P6 3 o13 o14 h) fun v15 => castI IntKind.i64 v15 fun n16 => bif decide (n16 ≤ now) then some (Value.bool true, h) else some (Value.bool false, h) := by kernel_rfl

theorem e14 (r n : Nat) (h : H) (i : Nat) (now : Int) : ev06 r (n + 1) 14 [.pointer (some ⟨i, 0, none⟩), .int .i64 now] h =
  callK (ev06 r n) 12 [Value.pointer (some { block := i, off := 0 }), Value.int IntKind.i64 now] h fun v0 h1 =>
    castBB v0
      (callK (ev06 r n) 9 [Value.pointer (some { block := i, off := 0 }), Value.int IntKind.i64 now] h1 fun v2 h3 =>
        castI IntKind.i64 v2 fun n4 =>
          optK (ldV P6 3 i 1 h3) fun v5 =>
            castI IntKind.i64 v5 fun n6 =>
              bif sameLd P6 3 i 1 (Value.int IntKind.i64 n6) h1 then
                bif decide (n4 ≥ n6) then some (Value.int IntKind.i64 60, h3)
                else
                  optK (ldV P6 22 i 2 h3) fun v7 =>
                    castSl v7 fun a8 o9 o10 =>
                      appendA P6 { toList := [22, 22] } (Value.slice a8 o9 o10) (Value.slice (some { block := h3.1, off := 0 }) 1 1) (h3.new (Blk.cells [Value.int IntKind.i64 now] false)) fun v11 h12 =>
                        castSl v11 fun a13 o14 o15 => optK (stCells h12 i 2 [Value.slice a13 o14 o15]) fun h16 => some (Value.int IntKind.i64 0, h16)
              else none)
      (some (Value.int IntKind.i64 2, h1)) := by kernel_rfl

theorem e10 (r n : Nat) (h : H) (i : Nat) (now : Int) : ev06 r (n + 1) 10 [.pointer (some ⟨i, 0, none⟩), .int .i64 now] h =
  callK (ev06 r n) 15 [Value.pointer (some { block := i, off := 0 })] h fun v0 h1 =>
    castTup v0 fun l2 =>
      headK l2 fun v3 l4 =>
        castI IntKind.i64 v3 fun n5 =>
          headK l4 fun v6 l7 =>
            castBB v6
              (nilK l7 fun _ =>
                bif decide (now < n5) then some (Value.int IntKind.i64 0, h1)
                else
                  optK (ldV P6 22 i 2 h1) fun v9 =>
                    castSl v9 fun a10 o11 o12 =>
                      evLoop (evCode P6 (ev06 r n) (dead06 10) r 0 (pc [1, 1, 1, 1, 0, 1, 0, 0] (bd Try.f10))) (dead06 10 0) r
                        (E10_0 (Value.pointer (some { block := i, off := 0 })) (Value.int IntKind.i64 now) (Value.int IntKind.i64 0) (Value.slice a10 o11 o12) (Value.int IntKind.i64 (↑o11 : Int))
                          (Value.int IntKind.i64 0))
                        h1
                        (blockK 0
                          (seqK (fun env h => evCode P6 (ev06 r n) (dead06 10) r 0 (pc [1, 1, 1, 1, 1] (bd Try.f10)) env h (finK P6 [ResultVar.tmp 4]))
                            (finK P6 [ResultVar.tmp 4]))))
              (nilK l7 fun _ => some (Value.int IntKind.i64 0, h1)) := by kernel_rfl

theorem e9 (r n : Nat) (h : H) (i : Nat) (now : Int) : ev06 r (n + 1) 9 [.pointer (some ⟨i, 0, none⟩), .int .i64 now] h =
  optK (ldV P6 22 i 2 h) fun v0 =>
    castSl v0 fun _ o2 _ =>
      bif decide ((↑o2 : Int) > 0) then
        optK (ldV P6 22 i 2 h) fun v4 =>
          castSl v4 fun a5 o6 o7 =>
            optK (ldV P6 22 i 2 h) fun v8 =>
              castSl v8 fun _ o10 _ =>
                indexAddrA P6 22 (Value.slice a5 o6 o7) (Value.int IntKind.i64 (IntKind.i64.wrap ((↑o10 : Int) - 1))) fun v12 =>
                  addrK v12 fun o13 o14 =>
                    optK (ldV P6 3 o13 o14 h) fun v15 =>
                      castI IntKind.i64 v15 fun n16 =>
                        bif decide (n16 > now) then some (Value.int IntKind.i64 0, h)
                        else
                          evLoop (evCode P6 (ev06 r n) (dead06 9) r 0 (pc [1, 1, 1, 0, 1, 0, 0] (bd Try.f9))) (dead06 9 0) r
                            (E9_0 (Value.pointer (some { block := i, off := 0 })) (Value.int IntKind.i64 now) (Value.int IntKind.i64 0) (Value.int IntKind.i64 0)) h
                            (blockK 0
                              (seqK (fun env h => evCode P6 (ev06 r n) (dead06 9) r 0 (pc [1, 1, 1, 1] (bd Try.f9)) env h (finK P6 [ResultVar.tmp 4]))
                                (finK P6 [ResultVar.tmp 4])))
      else
        evLoop (evCode P6 (ev06 r n) (dead06 9) r 0 (pc [1, 1, 1, 0, 1, 0, 0] (bd Try.f9))) (dead06 9 0) r
          (E9_0 (Value.pointer (some { block := i, off := 0 })) (Value.int IntKind.i64 now) (Value.int IntKind.i64 0) (Value.int IntKind.i64 0)) h
          (blockK 0 (seqK (fun env h => evCode P6 (ev06 r n) (dead06 9) r 0 (pc [1, 1, 1, 1] (bd Try.f9)) env h (finK P6 [ResultVar.tmp 4])) (finK P6 [ResultVar.tmp 4]))) := by kernel_rfl

theorem e10a (r n : Nat) (h : H) {R : Type} (i : Nat) (now c len k : Int) (a : Option Addr) (m st : Nat) (nx : Env → H → Option R) (K : Exit → Env → H → Option R) : evCode P6 (ev06 r n) (dead06 10) r 0 (pc [1, 1, 1, 1, 0, 1, 0, 0] (bd Try.f10)) (E10_0 (.pointer (some ⟨i, 0, none⟩)) (.int .i64 now) (.int .i64 c) (.slice a m st) (.int .i64 len) (.int .i64 k)) h (loopK nx (dead06 10 0) K) =
  bif decide (k < len) then
    indexAddrA P6 22 (Value.slice a m st) (Value.int IntKind.i64 k) fun v0 =>
      addrK v0 fun o1 o2 =>
        optK (ldV P6 3 o1 o2 h) fun v3 =>
          castI IntKind.i64 v3 fun n4 =>
            optK (ldV P6 3 i 0 h) fun v5 =>
              castI IntKind.i64 v5 fun n6 =>
                bif decide (IntKind.i64.wrap (now - n4) < n6) then
                  nx
                    (E10_0 (Value.pointer (some { block := i, off := 0 })) (Value.int IntKind.i64 now) (Value.int IntKind.i64 (IntKind.i64.wrap (c + 1))) (Value.slice a m st) (Value.int IntKind.i64 len)
                      (Value.int IntKind.i64 (IntKind.i64.wrap (k + 1))))
                    h
                else
                  nx
                    (E10_0 (Value.pointer (some { block := i, off := 0 })) (Value.int IntKind.i64 now) (Value.int IntKind.i64 c) (Value.slice a m st) (Value.int IntKind.i64 len)
                      (Value.int IntKind.i64 (IntKind.i64.wrap (k + 1))))
                    h
  else
    K (Exit.exit 0)
      (E10_0 (Value.pointer (some { block := i, off := 0 })) (Value.int IntKind.i64 now) (Value.int IntKind.i64 c) (Value.slice a m st) (Value.int IntKind.i64 len) (Value.int IntKind.i64 k)) h := by kernel_rfl

theorem e10b (r n : Nat) (h : H) (i : Nat) (now c len k : Int) (a : Option Addr) (m st : Nat) : evCode P6 (ev06 r n) (dead06 10) r 0 (pc [1, 1, 1, 1, 1] (bd Try.f10)) (E10_0 (.pointer (some ⟨i, 0, none⟩)) (.int .i64 now) (.int .i64 c) (.slice a m st) (.int .i64 len) (.int .i64 k)) h (finK P6 [.tmp 4]) =
  some (Value.int IntKind.i64 c, h) := by kernel_rfl

theorem e9a (r n : Nat) (h : H) {R : Type} (i : Nat) (now c k : Int) (nx : Env → H → Option R) (K : Exit → Env → H → Option R) : evCode P6 (ev06 r n) (dead06 9) r 0 (pc [1, 1, 1, 0, 1, 0, 0] (bd Try.f9)) (E9_0 (.pointer (some ⟨i, 0, none⟩)) (.int .i64 now) (.int .i64 c) (.int .i64 k)) h (loopK nx (dead06 9 0) K) =
  optK (ldV P6 22 i 2 h) fun v0 =>
    castSl v0 fun _ o2 _ =>
      bif decide (k < (↑o2 : Int)) then
        optK (ldV P6 22 i 2 h) fun v4 =>
          castSl v4 fun a5 o6 o7 =>
            indexAddrA P6 22 (Value.slice a5 o6 o7) (Value.int IntKind.i64 k) fun v8 =>
              addrK v8 fun o9 o10 =>
                optK (ldV P6 3 o9 o10 h) fun v11 =>
                  castI IntKind.i64 v11 fun n12 =>
                    optK (ldV P6 3 i 0 h) fun v13 =>
                      castI IntKind.i64 v13 fun n14 =>
                        bif decide (IntKind.i64.wrap (n12 + n14) > now) then
                          nx
                            (E9_0 (Value.pointer (some { block := i, off := 0 })) (Value.int IntKind.i64 now) (Value.int IntKind.i64 (IntKind.i64.wrap (c + 1)))
                              (Value.int IntKind.i64 (IntKind.i64.wrap (k + 1))))
                            h
                        else nx (E9_0 (Value.pointer (some { block := i, off := 0 })) (Value.int IntKind.i64 now) (Value.int IntKind.i64 c) (Value.int IntKind.i64 (IntKind.i64.wrap (k + 1)))) h
      else K (Exit.exit 0) (E9_0 (Value.pointer (some { block := i, off := 0 })) (Value.int IntKind.i64 now) (Value.int IntKind.i64 c) (Value.int IntKind.i64 k)) h := by kernel_rfl

theorem e9b (r n : Nat) (h : H) (i : Nat) (now c k : Int) : evCode P6 (ev06 r n) (dead06 9) r 0 (pc [1, 1, 1, 1] (bd Try.f9)) (E9_0 (.pointer (some ⟨i, 0, none⟩)) (.int .i64 now) (.int .i64 c) (.int .i64 k)) h (finK P6 [.tmp 4]) =
  some (Value.int IntKind.i64 c, h) := by kernel_rfl

theorem e3 (r n : Nat) (h : H) (a b : Int) (s : Option Addr) (m st : Nat) : ev06 r (n + 1) 3 [.int .i64 a, .int .i64 b, .slice s m st] h =
  callK (ev06 r n) 4 [] h fun v0 h1 =>
    castBB v0
      (bif decide ((↑m : Int) > 200) then some (Value.bool true, h1)
      else
        callK (ev06 r n) 5 [Value.int IntKind.i64 a, Value.int IntKind.i64 b] h1 fun v2 h3 =>
          castTup v2 fun l4 =>
            headK l4 fun v5 l6 =>
              castP v5 fun p7 =>
                headK l6 fun v8 l9 =>
                  castI IntKind.i64 v8 fun n10 =>
                    nilK l9 fun _ =>
                      callK (ev06 r n) 6 [Value.int IntKind.i64 a, Value.int IntKind.i64 b] h3 fun v12 h13 =>
                        castBB v12
                          (bif n10 != 0 then some (Value.bool false, h13)
                          else
                            binA P6 BinOp.eql 24 (Operand.tmp 43) (Operand.const (Value.pointer none)) (Value.pointer p7) (Value.pointer none) fun v14 =>
                              castBB v14 (some (Value.bool false, h13))
                                (evLoop (evCode P6 (ev06 r n) (dead06 3) r 0 (pc [1, 1, 1, 1, 1, 1, 1, 0, 1, 0, 0] (bd Try.f3))) (dead06 3 0) r
                                  (E3_0 (Value.int IntKind.i64 b) (Value.bool false) (Value.pointer p7) (Value.pointer (some { block := h13.1, off := 0 })) (Value.slice s m st)
                                    (Value.int IntKind.i64 (↑m : Int)) (Value.int IntKind.i64 0))
                                  (h13.new (Blk.cells [Value.int IntKind.i64 a, Value.int IntKind.i64 b, Value.slice none 0 0] false))
                                  (blockK 0
                                    (seqK (fun env h => evCode P6 (ev06 r n) (dead06 3) r 0 (pc [1, 1, 1, 1, 1, 1, 1, 1] (bd Try.f3)) env h (finK P6 [ResultVar.tmp 6]))
                                      (finK P6 [ResultVar.tmp 6])))))
                          (bif n10 == 2 then
                            binA P6 BinOp.eql 24 (Operand.tmp 37) (Operand.const (Value.pointer none)) (Value.pointer p7) (Value.pointer none) fun v15 =>
                              castBB v15 (some (Value.bool true, h13)) (some (Value.bool false, h13))
                          else some (Value.bool false, h13)))
      (some (Value.bool false, h1)) := by kernel_rfl

theorem e3a (r n : Nat) (h : H) {R : Type} (i j : Nat) (b k : Int) (s : Option Addr) (m st : Nat) (nx : Env → H → Option R) (K : Exit → Env → H → Option R) : evCode P6 (ev06 r n) (dead06 3) r 0 (pc [1, 1, 1, 1, 1, 1, 1, 0, 1, 0, 0] (bd Try.f3)) (E3_0 (.int .i64 b) (.bool false) (.pointer (some ⟨i, 0, none⟩)) (.pointer (some ⟨j, 0, none⟩)) (.slice s m st) (.int .i64 m) (.int .i64 k)) h (loopK nx (dead06 3 0) K) =
  bif decide (k < (↑m : Int)) then
    indexAddrA P6 22 (Value.slice s m st) (Value.int IntKind.i64 k) fun v0 =>
      addrK v0 fun o1 o2 =>
        optK (ldV P6 3 o1 o2 h) fun v3 =>
          castI IntKind.i64 v3 fun n4 =>
            callK (ev06 r n) 7 [Value.pointer (some { block := i, off := 0 }), Value.int IntKind.i64 n4] h fun v5 h6 =>
              castTup v5 fun l7 =>
                headK l7 fun v8 l9 =>
                  castI IntKind.i64 v8 fun n10 =>
                    headK l9 fun v11 l12 =>
                      castI IntKind.i64 v11 fun n13 =>
                        nilK l12 fun _ =>
                          callK (ev06 r n) 8 [Value.pointer (some { block := j, off := 0 }), Value.int IntKind.i64 n4] h6 fun v15 h16 =>
                            castTup v15 fun l17 =>
                              headK l17 fun v18 l19 =>
                                castI IntKind.i64 v18 fun n20 =>
                                  headK l19 fun v21 l22 =>
                                    castI IntKind.i64 v21 fun n23 =>
                                      nilK l22 fun _ =>
                                        callK (ev06 r n) 9 [Value.pointer (some { block := j, off := 0 }), Value.int IntKind.i64 n4] h16 fun v25 h26 =>
                                          castI IntKind.i64 v25 fun n27 =>
                                            callK (ev06 r n) 10 [Value.pointer (some { block := i, off := 0 }), Value.int IntKind.i64 n4] h26 fun v28 h29 =>
                                              castI IntKind.i64 v28 fun n30 =>
                                                bif n30 != n27 then
                                                  K Exit.ret
                                                    (E3_0 (Value.int IntKind.i64 b) (Value.bool false) (Value.pointer (some { block := i, off := 0 })) (Value.pointer (some { block := j, off := 0 }))
                                                      (Value.slice s m st) (Value.int IntKind.i64 (↑m : Int)) (Value.int IntKind.i64 k))
                                                    h29
                                                else
                                                  bif n10 != n20 then
                                                    K Exit.ret
                                                      (E3_0 (Value.int IntKind.i64 b) (Value.bool false) (Value.pointer (some { block := i, off := 0 })) (Value.pointer (some { block := j, off := 0 }))
                                                        (Value.slice s m st) (Value.int IntKind.i64 (↑m : Int)) (Value.int IntKind.i64 k))
                                                      h29
                                                  else
                                                    bif n13 != n23 then
                                                      K Exit.ret
                                                        (E3_0 (Value.int IntKind.i64 b) (Value.bool false) (Value.pointer (some { block := i, off := 0 })) (Value.pointer (some { block := j, off := 0 }))
                                                          (Value.slice s m st) (Value.int IntKind.i64 (↑m : Int)) (Value.int IntKind.i64 k))
                                                        h29
                                                    else
                                                      callK (ev06 r n) 11 [Value.pointer (some { block := i, off := 0 }), Value.int IntKind.i64 n4] h29 fun v31 h32 =>
                                                        castBB v31
                                                          (callK (ev06 r n) 12 [Value.pointer (some { block := j, off := 0 }), Value.int IntKind.i64 n4] h32 fun v33 h34 =>
                                                            castBB v33
                                                              (bif decide (n27 < b) then
                                                                callK (ev06 r n) 13 [Value.pointer (some { block := i, off := 0 }), Value.int IntKind.i64 n4] h34 fun v35 h36 =>
                                                                  castI IntKind.i64 v35 fun n37 =>
                                                                    callK (ev06 r n) 14 [Value.pointer (some { block := j, off := 0 }), Value.int IntKind.i64 n4] h36 fun v38 h39 =>
                                                                      castI IntKind.i64 v38 fun n40 =>
                                                                        bif n37 != n40 then
                                                                          K Exit.ret
                                                                            (E3_0 (Value.int IntKind.i64 b) (Value.bool false) (Value.pointer (some { block := i, off := 0 }))
                                                                              (Value.pointer (some { block := j, off := 0 })) (Value.slice s m st) (Value.int IntKind.i64 (↑m : Int))
                                                                              (Value.int IntKind.i64 k))
                                                                            h39
                                                                        else
                                                                          callK (ev06 r n) 15 [Value.pointer (some { block := i, off := 0 })] h39 fun v41 h42 =>
                                                                            castTup v41 fun l43 =>
                                                                              headK l43 fun v44 l45 =>
                                                                                castI IntKind.i64 v44 fun n46 =>
                                                                                  headK l45 fun v47 l48 =>
                                                                                    castBB v47
                                                                                      (nilK l48 fun _ =>
                                                                                        optK (ldV P6 22 j 2 h42) fun v50 =>
                                                                                          castSl v50 fun _ o52 _ =>
                                                                                            bif decide ((↑o52 : Int) > 0) then
                                                                                              optK (ldV P6 22 j 2 h42) fun v54 =>
                                                                                                castSl v54 fun a55 o56 o57 =>
                                                                                                  optK (ldV P6 22 j 2 h42) fun v58 =>
                                                                                                    castSl v58 fun _ o60 _ =>
                                                                                                      indexAddrA P6 22 (Value.slice a55 o56 o57)
                                                                                                        (Value.int IntKind.i64 (IntKind.i64.wrap ((↑o60 : Int) - 1))) fun v62 =>
                                                                                                        addrK v62 fun o63 o64 =>
                                                                                                          optK (ldV P6 3 o63 o64 h42) fun v65 =>
                                                                                                            castI IntKind.i64 v65 fun n66 =>
                                                                                                              bif n46 != n66 then
                                                                                                                K Exit.ret
                                                                                                                  (E3_0 (Value.int IntKind.i64 b) (Value.bool false)
                                                                                                                    (Value.pointer (some { block := i, off := 0 }))
                                                                                                                    (Value.pointer (some { block := j, off := 0 })) (Value.slice s m st)
                                                                                                                    (Value.int IntKind.i64 (↑m : Int)) (Value.int IntKind.i64 k))
                                                                                                                  h42
                                                                                                              else
                                                                                                                nx
                                                                                                                  (E3_0 (Value.int IntKind.i64 b) (Value.bool false)
                                                                                                                    (Value.pointer (some { block := i, off := 0 }))
                                                                                                                    (Value.pointer (some { block := j, off := 0 })) (Value.slice s m st)
                                                                                                                    (Value.int IntKind.i64 (↑m : Int)) (Value.int IntKind.i64 (IntKind.i64.wrap (k + 1))))
                                                                                                                  h42
                                                                                            else
                                                                                              K Exit.ret
                                                                                                (E3_0 (Value.int IntKind.i64 b) (Value.bool false) (Value.pointer (some { block := i, off := 0 }))
                                                                                                  (Value.pointer (some { block := j, off := 0 })) (Value.slice s m st) (Value.int IntKind.i64 (↑m : Int))
                                                                                                  (Value.int IntKind.i64 k))
                                                                                                h42)
                                                                                      (nilK l48 fun _ =>
                                                                                        optK (ldV P6 22 j 2 h42) fun v68 =>
                                                                                          castSl v68 fun _ o70 _ =>
                                                                                            bif decide ((↑o70 : Int) > 0) then
                                                                                              K Exit.ret
                                                                                                (E3_0 (Value.int IntKind.i64 b) (Value.bool false) (Value.pointer (some { block := i, off := 0 }))
                                                                                                  (Value.pointer (some { block := j, off := 0 })) (Value.slice s m st) (Value.int IntKind.i64 (↑m : Int))
                                                                                                  (Value.int IntKind.i64 k))
                                                                                                h42
                                                                                            else
                                                                                              bif n46 != 0 then
                                                                                                K Exit.ret
                                                                                                  (E3_0 (Value.int IntKind.i64 b) (Value.bool false) (Value.pointer (some { block := i, off := 0 }))
                                                                                                    (Value.pointer (some { block := j, off := 0 })) (Value.slice s m st)
                                                                                                    (Value.int IntKind.i64 (↑m : Int)) (Value.int IntKind.i64 k))
                                                                                                  h42
                                                                                              else
                                                                                                nx
                                                                                                  (E3_0 (Value.int IntKind.i64 b) (Value.bool false) (Value.pointer (some { block := i, off := 0 }))
                                                                                                    (Value.pointer (some { block := j, off := 0 })) (Value.slice s m st)
                                                                                                    (Value.int IntKind.i64 (↑m : Int)) (Value.int IntKind.i64 (IntKind.i64.wrap (k + 1))))
                                                                                                  h42)
                                                              else
                                                                K Exit.ret
                                                                  (E3_0 (Value.int IntKind.i64 b) (Value.bool false) (Value.pointer (some { block := i, off := 0 }))
                                                                    (Value.pointer (some { block := j, off := 0 })) (Value.slice s m st) (Value.int IntKind.i64 (↑m : Int)) (Value.int IntKind.i64 k))
                                                                  h34)
                                                              (K Exit.ret
                                                                (E3_0 (Value.int IntKind.i64 b) (Value.bool false) (Value.pointer (some { block := i, off := 0 }))
                                                                  (Value.pointer (some { block := j, off := 0 })) (Value.slice s m st) (Value.int IntKind.i64 (↑m : Int)) (Value.int IntKind.i64 k))
                                                                h34))
                                                          (callK (ev06 r n) 12 [Value.pointer (some { block := j, off := 0 }), Value.int IntKind.i64 n4] h32 fun v72 h73 =>
                                                            castBB v72
                                                              (bif decide (n27 < b) then
                                                                K Exit.ret
                                                                  (E3_0 (Value.int IntKind.i64 b) (Value.bool false) (Value.pointer (some { block := i, off := 0 }))
                                                                    (Value.pointer (some { block := j, off := 0 })) (Value.slice s m st) (Value.int IntKind.i64 (↑m : Int)) (Value.int IntKind.i64 k))
                                                                  h73
                                                              else
                                                                callK (ev06 r n) 13 [Value.pointer (some { block := i, off := 0 }), Value.int IntKind.i64 n4] h73 fun v74 h75 =>
                                                                  castI IntKind.i64 v74 fun n76 =>
                                                                    callK (ev06 r n) 14 [Value.pointer (some { block := j, off := 0 }), Value.int IntKind.i64 n4] h75 fun v77 h78 =>
                                                                      castI IntKind.i64 v77 fun n79 =>
                                                                        bif n76 != n79 then
                                                                          K Exit.ret
                                                                            (E3_0 (Value.int IntKind.i64 b) (Value.bool false) (Value.pointer (some { block := i, off := 0 }))
                                                                              (Value.pointer (some { block := j, off := 0 })) (Value.slice s m st) (Value.int IntKind.i64 (↑m : Int))
                                                                              (Value.int IntKind.i64 k))
                                                                            h78
                                                                        else
                                                                          callK (ev06 r n) 15 [Value.pointer (some { block := i, off := 0 })] h78 fun v80 h81 =>
                                                                            castTup v80 fun l82 =>
                                                                              headK l82 fun v83 l84 =>
                                                                                castI IntKind.i64 v83 fun n85 =>
                                                                                  headK l84 fun v86 l87 =>
                                                                                    castBB v86
                                                                                      (nilK l87 fun _ =>
                                                                                        optK (ldV P6 22 j 2 h81) fun v89 =>
                                                                                          castSl v89 fun _ o91 _ =>
                                                                                            bif decide ((↑o91 : Int) > 0) then
                                                                                              optK (ldV P6 22 j 2 h81) fun v93 =>
                                                                                                castSl v93 fun a94 o95 o96 =>
                                                                                                  optK (ldV P6 22 j 2 h81) fun v97 =>
                                                                                                    castSl v97 fun _ o99 _ =>
                                                                                                      indexAddrA P6 22 (Value.slice a94 o95 o96)
                                                                                                        (Value.int IntKind.i64 (IntKind.i64.wrap ((↑o99 : Int) - 1))) fun v101 =>
                                                                                                        addrK v101 fun o102 o103 =>
                                                                                                          optK (ldV P6 3 o102 o103 h81) fun v104 =>
                                                                                                            castI IntKind.i64 v104 fun n105 =>
                                                                                                              bif n85 != n105 then
                                                                                                                K Exit.ret
                                                                                                                  (E3_0 (Value.int IntKind.i64 b) (Value.bool false)
                                                                                                                    (Value.pointer (some { block := i, off := 0 }))
                                                                                                                    (Value.pointer (some { block := j, off := 0 })) (Value.slice s m st)
                                                                                                                    (Value.int IntKind.i64 (↑m : Int)) (Value.int IntKind.i64 k))
                                                                                                                  h81
                                                                                                              else
                                                                                                                nx
                                                                                                                  (E3_0 (Value.int IntKind.i64 b) (Value.bool false)
                                                                                                                    (Value.pointer (some { block := i, off := 0 }))
                                                                                                                    (Value.pointer (some { block := j, off := 0 })) (Value.slice s m st)
                                                                                                                    (Value.int IntKind.i64 (↑m : Int)) (Value.int IntKind.i64 (IntKind.i64.wrap (k + 1))))
                                                                                                                  h81
                                                                                            else
                                                                                              K Exit.ret
                                                                                                (E3_0 (Value.int IntKind.i64 b) (Value.bool false) (Value.pointer (some { block := i, off := 0 }))
                                                                                                  (Value.pointer (some { block := j, off := 0 })) (Value.slice s m st) (Value.int IntKind.i64 (↑m : Int))
                                                                                                  (Value.int IntKind.i64 k))
                                                                                                h81)
                                                                                      (nilK l87 fun _ =>
                                                                                        optK (ldV P6 22 j 2 h81) fun v107 =>
                                                                                          castSl v107 fun _ o109 _ =>
                                                                                            bif decide ((↑o109 : Int) > 0) then
                                                                                              K Exit.ret
                                                                                                (E3_0 (Value.int IntKind.i64 b) (Value.bool false) (Value.pointer (some { block := i, off := 0 }))
                                                                                                  (Value.pointer (some { block := j, off := 0 })) (Value.slice s m st) (Value.int IntKind.i64 (↑m : Int))
                                                                                                  (Value.int IntKind.i64 k))
                                                                                                h81
                                                                                            else
                                                                                              bif n85 != 0 then
                                                                                                K Exit.ret
                                                                                                  (E3_0 (Value.int IntKind.i64 b) (Value.bool false) (Value.pointer (some { block := i, off := 0 }))
                                                                                                    (Value.pointer (some { block := j, off := 0 })) (Value.slice s m st)
                                                                                                    (Value.int IntKind.i64 (↑m : Int)) (Value.int IntKind.i64 k))
                                                                                                  h81
                                                                                              else
                                                                                                nx
                                                                                                  (E3_0 (Value.int IntKind.i64 b) (Value.bool false) (Value.pointer (some { block := i, off := 0 }))
                                                                                                    (Value.pointer (some { block := j, off := 0 })) (Value.slice s m st)
                                                                                                    (Value.int IntKind.i64 (↑m : Int)) (Value.int IntKind.i64 (IntKind.i64.wrap (k + 1))))
                                                                                                  h81))
                                                              (callK (ev06 r n) 13 [Value.pointer (some { block := i, off := 0 }), Value.int IntKind.i64 n4] h73 fun v111 h112 =>
                                                                castI IntKind.i64 v111 fun n113 =>
                                                                  callK (ev06 r n) 14 [Value.pointer (some { block := j, off := 0 }), Value.int IntKind.i64 n4] h112 fun v114 h115 =>
                                                                    castI IntKind.i64 v114 fun n116 =>
                                                                      bif n113 != n116 then
                                                                        K Exit.ret
                                                                          (E3_0 (Value.int IntKind.i64 b) (Value.bool false) (Value.pointer (some { block := i, off := 0 }))
                                                                            (Value.pointer (some { block := j, off := 0 })) (Value.slice s m st) (Value.int IntKind.i64 (↑m : Int))
                                                                            (Value.int IntKind.i64 k))
                                                                          h115
                                                                      else
                                                                        callK (ev06 r n) 15 [Value.pointer (some { block := i, off := 0 })] h115 fun v117 h118 =>
                                                                          castTup v117 fun l119 =>
                                                                            headK l119 fun v120 l121 =>
                                                                              castI IntKind.i64 v120 fun n122 =>
                                                                                headK l121 fun v123 l124 =>
                                                                                  castBB v123
                                                                                    (nilK l124 fun _ =>
                                                                                      optK (ldV P6 22 j 2 h118) fun v126 =>
                                                                                        castSl v126 fun _ o128 _ =>
                                                                                          bif decide ((↑o128 : Int) > 0) then
                                                                                            optK (ldV P6 22 j 2 h118) fun v130 =>
                                                                                              castSl v130 fun a131 o132 o133 =>
                                                                                                optK (ldV P6 22 j 2 h118) fun v134 =>
                                                                                                  castSl v134 fun _ o136 _ =>
                                                                                                    indexAddrA P6 22 (Value.slice a131 o132 o133)
                                                                                                      (Value.int IntKind.i64 (IntKind.i64.wrap ((↑o136 : Int) - 1))) fun v138 =>
                                                                                                      addrK v138 fun o139 o140 =>
                                                                                                        optK (ldV P6 3 o139 o140 h118) fun v141 =>
                                                                                                          castI IntKind.i64 v141 fun n142 =>
                                                                                                            bif n122 != n142 then
                                                                                                              K Exit.ret
                                                                                                                (E3_0 (Value.int IntKind.i64 b) (Value.bool false)
                                                                                                                  (Value.pointer (some { block := i, off := 0 }))
                                                                                                                  (Value.pointer (some { block := j, off := 0 })) (Value.slice s m st)
                                                                                                                  (Value.int IntKind.i64 (↑m : Int)) (Value.int IntKind.i64 k))
                                                                                                                h118
                                                                                                            else
                                                                                                              nx
                                                                                                                (E3_0 (Value.int IntKind.i64 b) (Value.bool false)
                                                                                                                  (Value.pointer (some { block := i, off := 0 }))
                                                                                                                  (Value.pointer (some { block := j, off := 0 })) (Value.slice s m st)
                                                                                                                  (Value.int IntKind.i64 (↑m : Int)) (Value.int IntKind.i64 (IntKind.i64.wrap (k + 1))))
                                                                                                                h118
                                                                                          else
                                                                                            K Exit.ret
                                                                                              (E3_0 (Value.int IntKind.i64 b) (Value.bool false) (Value.pointer (some { block := i, off := 0 }))
                                                                                                (Value.pointer (some { block := j, off := 0 })) (Value.slice s m st) (Value.int IntKind.i64 (↑m : Int))
                                                                                                (Value.int IntKind.i64 k))
                                                                                              h118)
                                                                                    (nilK l124 fun _ =>
                                                                                      optK (ldV P6 22 j 2 h118) fun v144 =>
                                                                                        castSl v144 fun _ o146 _ =>
                                                                                          bif decide ((↑o146 : Int) > 0) then
                                                                                            K Exit.ret
                                                                                              (E3_0 (Value.int IntKind.i64 b) (Value.bool false) (Value.pointer (some { block := i, off := 0 }))
                                                                                                (Value.pointer (some { block := j, off := 0 })) (Value.slice s m st) (Value.int IntKind.i64 (↑m : Int))
                                                                                                (Value.int IntKind.i64 k))
                                                                                              h118
                                                                                          else
                                                                                            bif n122 != 0 then
                                                                                              K Exit.ret
                                                                                                (E3_0 (Value.int IntKind.i64 b) (Value.bool false) (Value.pointer (some { block := i, off := 0 }))
                                                                                                  (Value.pointer (some { block := j, off := 0 })) (Value.slice s m st) (Value.int IntKind.i64 (↑m : Int))
                                                                                                  (Value.int IntKind.i64 k))
                                                                                                h118
                                                                                            else
                                                                                              nx
                                                                                                (E3_0 (Value.int IntKind.i64 b) (Value.bool false) (Value.pointer (some { block := i, off := 0 }))
                                                                                                  (Value.pointer (some { block := j, off := 0 })) (Value.slice s m st) (Value.int IntKind.i64 (↑m : Int))
                                                                                                  (Value.int IntKind.i64 (IntKind.i64.wrap (k + 1))))
                                                                                                h118)))
  else
    K (Exit.exit 0)
      (E3_0 (Value.int IntKind.i64 b) (Value.bool false) (Value.pointer (some { block := i, off := 0 })) (Value.pointer (some { block := j, off := 0 })) (Value.slice s m st)
        (Value.int IntKind.i64 (↑m : Int)) (Value.int IntKind.i64 k))
      h := by kernel_rfl

theorem e3b (r n : Nat) (h : H) (i j : Nat) (b k : Int) (s : Option Addr) (m st : Nat) : evCode P6 (ev06 r n) (dead06 3) r 0 (pc [1, 1, 1, 1, 1, 1, 1, 1] (bd Try.f3)) (E3_0 (.int .i64 b) (.bool false) (.pointer (some ⟨i, 0, none⟩)) (.pointer (some ⟨j, 0, none⟩)) (.slice s m st) (.int .i64 m) (.int .i64 k)) h (finK P6 [.tmp 6]) =
  some (Value.bool true, h) := by kernel_rfl

end Go.Ev
