/-
  Audit: what the functions come to, the rest.
-/
import Derived.Test.YtmblcddkoeaaeaaGreatT30
set_option linter.unusedVariables false
namespace Go.Ev
open Go Go.Proofs

theorem e25_0x0 (r n : Nat) (h : H) : (blockK 0 (seqK (after P30 (ev30 r n) (jmp30 r n 25) (dead30 25) r 0 (pc [1, 1] (bd Tryz.f25)) (outK (dead30 25) (key (pc [1] (bd Tryz.f25))))) (outK (dead30 25) (key (pc [1] (bd Tryz.f25)))))) (.exit 0) (E25_2) h =
  some (Exit.ret, E25_r (Value.bool true), h) := by kernel_rfl

theorem e25_0r (r n : Nat) (h : H) (x2 : Bool) : (blockK 0 (seqK (after P30 (ev30 r n) (jmp30 r n 25) (dead30 25) r 0 (pc [1, 1] (bd Tryz.f25)) (outK (dead30 25) (key (pc [1] (bd Tryz.f25))))) (outK (dead30 25) (key (pc [1] (bd Tryz.f25)))))) .ret (E25_r (.bool x2)) h =
  some (Exit.ret, E25_r (Value.bool x2), h) := by kernel_rfl

theorem e26 (r n : Nat) (h : H) (a0_0 : Option Addr) (a0_0n : Nat) (a0_0s : Nat) (a0_1 : Option Addr) (a0_1n : Nat) (a0_1s : Nat) (a0_2 : Option Addr) (a0_2n : Nat) (a0_2s : Nat) (a0_3 : Int) (a0_4 : Int) (a0_5 : Int) (a0_6 : Int) (a0_7 : Int) (a0_8 : Int) (a0_9 : Int) (a0_10 : Bool) (a0_11 : Option Addr) (a0_11n : Nat) (a0_11s : Nat) (a0_12 : Option Addr) (a0_12n : Nat) (a0_12s : Nat) (a0_13 : Option Addr) (a0_13n : Nat) (a0_13s : Nat) (a0_14 : Option Addr) (a0_14n : Nat) (a0_14s : Nat) (a0_15 : Option Addr) (a0_15n : Nat) (a0_15s : Nat) : ev30 r (n + 1) 26 [.agg #[.slice a0_0 a0_0n a0_0s, .slice a0_1 a0_1n a0_1s, .slice a0_2 a0_2n a0_2s, .int .i64 a0_3, .int .i64 a0_4, .int .i64 a0_5, .int .i64 a0_6, .int .i64 a0_7, .int .i64 a0_8, .int .i64 a0_9, .bool a0_10, .slice a0_11 a0_11n a0_11s, .slice a0_12 a0_12n a0_12s, .slice a0_13 a0_13n a0_13s, .slice a0_14 a0_14n a0_14s, .slice a0_15 a0_15n a0_15s]] h =
  jumpK
    (jmp30 r n 26 0 (pc [1] (bd Tryz.f26)) (E26_3 (Value.pointer (some { block := h.1, off := 0 })))
      (h.new
        (Blk.cells
          [Value.slice a0_0 a0_0n a0_0s, Value.slice a0_1 a0_1n a0_1s, Value.slice a0_2 a0_2n a0_2s, Value.int IntKind.i64 a0_3, Value.int IntKind.i64 a0_4, Value.int IntKind.i64 a0_5,
            Value.int IntKind.i64 a0_6, Value.int IntKind.i64 a0_7, Value.int IntKind.i64 a0_8, Value.int IntKind.i64 a0_9, Value.bool a0_10, Value.slice a0_11 a0_11n a0_11s,
            Value.slice a0_12 a0_12n a0_12s, Value.slice a0_13 a0_13n a0_13s, Value.slice a0_14 a0_14n a0_14s, Value.slice a0_15 a0_15n a0_15s]
          false)))
    (finK P30 [ResultVar.tmp 2]) := by kernel_rfl

theorem e26_3c (r n : Nat) (h : H) (x1 : Nat) : jmp30 r (n + 1) 26 0 (pc [1] (bd Tryz.f26)) (E26_3 (.pointer (some ⟨x1, 0, none⟩))) h =
  optK (ldV P30 27 x1 11 h) fun v0 =>
    castSl v0 fun a1 o2 o3 =>
      evLoop (evCode P30 (ev30 r n) (jmp30 r n 26) (dead30 26) r 0 (pc [1, 0, 1, 0, 0] (bd Tryz.f26))) (dead30 26 (4 * 0)) (dead30 26 (4 * 0 + 2))
        (dead30 26 1000002) r (E26_0 (Value.pointer (some { block := x1, off := 0 })) (Value.slice a1 o2 o3) (Value.int IntKind.i64 (↑o2 : Int)) (Value.int IntKind.i64 0)) h
        (blockK 0
          (seqK (after P30 (ev30 r n) (jmp30 r n 26) (dead30 26) r 0 (pc [1, 1] (bd Tryz.f26)) (outK (dead30 26) (key (pc [1] (bd Tryz.f26)))))
            (outK (dead30 26) (key (pc [1] (bd Tryz.f26)))))) := by kernel_rfl

theorem e26_3r (h : H) (x2 : Bool) : (finK P30 [.tmp 2]) .ret (E26_r (.bool x2)) h =
  some (Value.bool x2, h) := by kernel_rfl

theorem e26_0 (r n : Nat) (h : H) {R : Type} (x1 : Nat) (x7 : Option Addr) (x7n : Nat) (x7s : Nat) (x8 : Int) (x9 : Int) (nx : Env → H → Option R) (K : Exit → Env → H → Option R) : evCode P30 (ev30 r n) (jmp30 r n 26) (dead30 26) r 0 (pc [1, 0, 1, 0, 0] (bd Tryz.f26)) (E26_0 (.pointer (some ⟨x1, 0, none⟩)) (.slice x7 x7n x7s) (.int .i64 x8) (.int .i64 x9)) h (loopK nx (dead30 26 (4 * 0)) (dead30 26 (4 * 0 + 2)) (dead30 26 1000002) K) =
  bif decide (x9 < x8) then
    indexAddrA P30 27 (Value.slice x7 x7n x7s) (Value.int IntKind.i64 x9) fun v0 =>
      addrK v0 fun o1 o2 =>
        optK (ldV P30 65 o1 o2 h) fun v3 =>
          castA v3 fun cs4 =>
            ifK (cellsOf P30 65 = some (Value.agg cs4).cells.size)
              (optK
                (stCells
                  (h.new
                    (Blk.cells
                      [Value.string (txt []), Value.string (txt []), Value.string (txt []), Value.int IntKind.i64 0, Value.int IntKind.i64 0,
                        Value.int IntKind.i64 0, Value.int IntKind.i64 0, Value.int IntKind.i64 0, Value.int IntKind.i64 0, Value.int IntKind.i64 0, Value.int IntKind.i64 0, Value.int IntKind.i64 0,
                        Value.int IntKind.i64 0, Value.int IntKind.i64 0, Value.int IntKind.i64 0, Value.int IntKind.i64 0, Value.slice none 0 0]
                      false))
                  h.1 0 (Value.agg cs4).cells.toList)
                fun h5 =>
                optK (ldV P30 3 h.1 4 h5) fun v6 =>
                  castI IntKind.i64 v6 fun n7 =>
                    bif decide (n7 ≤ 4) then
                      optK (ldV P30 3 h.1 15 h5) fun v8 =>
                        castI IntKind.i64 v8 fun n9 =>
                          optK (ldV P30 28 x1 14 h5) fun v10 =>
                            castSl v10 fun a11 o12 o13 =>
                              indexAddrA P30 28 (Value.slice a11 o12 o13) (Value.int IntKind.i64 x9) fun v14 =>
                                addrK v14 fun o15 o16 =>
                                  optK (ldV P30 3 o15 o16 h5) fun v17 =>
                                    castI IntKind.i64 v17 fun n18 =>
                                      bif decide (n9 > n18) then K Exit.ret (E26_r (Value.bool false)) h5
                                      else
                                        optK (ldV P30 3 h.1 13 h5) fun v19 =>
                                          castI IntKind.i64 v19 fun n20 =>
                                            optK (ldV P30 3 h.1 15 h5) fun v21 =>
                                              castI IntKind.i64 v21 fun n22 =>
                                                bif decide (n20 > n22) then K Exit.ret (E26_r (Value.bool false)) h5
                                                else
                                                  nx
                                                    (E26_0 (Value.pointer (some { block := x1, off := 0 })) (Value.slice x7 x7n x7s) (Value.int IntKind.i64 x8)
                                                      (Value.int IntKind.i64 (IntKind.i64.wrap (x9 + 1))))
                                                    h5
                    else nx (E26_0 (Value.pointer (some { block := x1, off := 0 })) (Value.slice x7 x7n x7s) (Value.int IntKind.i64 x8) (Value.int IntKind.i64 (IntKind.i64.wrap (x9 + 1)))) h5)
  else K (Exit.exit 0) E26_2 h := by kernel_rfl

theorem e26_0x0 (r n : Nat) (h : H) : (blockK 0 (seqK (after P30 (ev30 r n) (jmp30 r n 26) (dead30 26) r 0 (pc [1, 1] (bd Tryz.f26)) (outK (dead30 26) (key (pc [1] (bd Tryz.f26))))) (outK (dead30 26) (key (pc [1] (bd Tryz.f26)))))) (.exit 0) (E26_2) h =
  some (Exit.ret, E26_r (Value.bool true), h) := by kernel_rfl

theorem e26_0r (r n : Nat) (h : H) (x2 : Bool) : (blockK 0 (seqK (after P30 (ev30 r n) (jmp30 r n 26) (dead30 26) r 0 (pc [1, 1] (bd Tryz.f26)) (outK (dead30 26) (key (pc [1] (bd Tryz.f26))))) (outK (dead30 26) (key (pc [1] (bd Tryz.f26)))))) .ret (E26_r (.bool x2)) h =
  some (Exit.ret, E26_r (Value.bool x2), h) := by kernel_rfl

theorem e27 (r n : Nat) (h : H) (a0_0 : Option Addr) (a0_0n : Nat) (a0_0s : Nat) (a0_1 : Option Addr) (a0_1n : Nat) (a0_1s : Nat) (a0_2 : Option Addr) (a0_2n : Nat) (a0_2s : Nat) (a0_3 : Int) (a0_4 : Int) (a0_5 : Int) (a0_6 : Int) (a0_7 : Int) (a0_8 : Int) (a0_9 : Int) (a0_10 : Bool) (a0_11 : Option Addr) (a0_11n : Nat) (a0_11s : Nat) (a0_12 : Option Addr) (a0_12n : Nat) (a0_12s : Nat) (a0_13 : Option Addr) (a0_13n : Nat) (a0_13s : Nat) (a0_14 : Option Addr) (a0_14n : Nat) (a0_14s : Nat) (a0_15 : Option Addr) (a0_15n : Nat) (a0_15s : Nat) : ev30 r (n + 1) 27 [.agg #[.slice a0_0 a0_0n a0_0s, .slice a0_1 a0_1n a0_1s, .slice a0_2 a0_2n a0_2s, .int .i64 a0_3, .int .i64 a0_4, .int .i64 a0_5, .int .i64 a0_6, .int .i64 a0_7, .int .i64 a0_8, .int .i64 a0_9, .bool a0_10, .slice a0_11 a0_11n a0_11s, .slice a0_12 a0_12n a0_12s, .slice a0_13 a0_13n a0_13s, .slice a0_14 a0_14n a0_14s, .slice a0_15 a0_15n a0_15s]] h =
  jumpK
    (jmp30 r n 27 0 (pc [1] (bd Tryz.f27)) (E27_3 (Value.pointer (some { block := h.1, off := 0 })))
      (h.new
        (Blk.cells
          [Value.slice a0_0 a0_0n a0_0s, Value.slice a0_1 a0_1n a0_1s, Value.slice a0_2 a0_2n a0_2s, Value.int IntKind.i64 a0_3, Value.int IntKind.i64 a0_4, Value.int IntKind.i64 a0_5,
            Value.int IntKind.i64 a0_6, Value.int IntKind.i64 a0_7, Value.int IntKind.i64 a0_8, Value.int IntKind.i64 a0_9, Value.bool a0_10, Value.slice a0_11 a0_11n a0_11s,
            Value.slice a0_12 a0_12n a0_12s, Value.slice a0_13 a0_13n a0_13s, Value.slice a0_14 a0_14n a0_14s, Value.slice a0_15 a0_15n a0_15s]
          false)))
    (finK P30 [ResultVar.tmp 2]) := by kernel_rfl

theorem e27_3c (r n : Nat) (h : H) (x1 : Nat) : jmp30 r (n + 1) 27 0 (pc [1] (bd Tryz.f27)) (E27_3 (.pointer (some ⟨x1, 0, none⟩))) h =
  optK (ldV P30 22 x1 0 h) fun v0 =>
    castSl v0 fun a1 o2 o3 =>
      evLoop (evCode P30 (ev30 r n) (jmp30 r n 27) (dead30 27) r 0 (pc [1, 0, 1, 0, 0] (bd Tryz.f27))) (dead30 27 (4 * 0)) (dead30 27 (4 * 0 + 2))
        (dead30 27 1000002) r (E27_0 (Value.pointer (some { block := x1, off := 0 })) (Value.slice a1 o2 o3) (Value.int IntKind.i64 (↑o2 : Int)) (Value.int IntKind.i64 0)) h
        (blockK 0
          (seqK (after P30 (ev30 r n) (jmp30 r n 27) (dead30 27) r 0 (pc [1, 1] (bd Tryz.f27)) (outK (dead30 27) (key (pc [1] (bd Tryz.f27)))))
            (outK (dead30 27) (key (pc [1] (bd Tryz.f27)))))) := by kernel_rfl

theorem e27_3r (h : H) (x2 : Bool) : (finK P30 [.tmp 2]) .ret (E27_r (.bool x2)) h =
  some (Value.bool x2, h) := by kernel_rfl

theorem e27_0 (r n : Nat) (h : H) {R : Type} (x1 : Nat) (x13 : Option Addr) (x13n : Nat) (x13s : Nat) (x14 : Int) (x15 : Int) (nx : Env → H → Option R) (K : Exit → Env → H → Option R) : evCode P30 (ev30 r n) (jmp30 r n 27) (dead30 27) r 0 (pc [1, 0, 1, 0, 0] (bd Tryz.f27)) (E27_0 (.pointer (some ⟨x1, 0, none⟩)) (.slice x13 x13n x13s) (.int .i64 x14) (.int .i64 x15)) h (loopK nx (dead30 27 (4 * 0)) (dead30 27 (4 * 0 + 2)) (dead30 27 1000002) K) =
  bif decide (x15 < x14) then
    indexAddrA P30 22 (Value.slice x13 x13n x13s) (Value.int IntKind.i64 x15) fun v0 =>
      addrK v0 fun o1 o2 =>
        optK (ldV P30 58 o1 o2 h) fun v3 =>
          castA v3 fun cs4 =>
            ifK (cellsOf P30 58 = some (Value.agg cs4).cells.size)
              (optK (stCells (h.new (Blk.cells [Value.string (txt []), Value.int IntKind.i64 0] false)) h.1 0 (Value.agg cs4).cells.toList) fun h5 =>
                optK (ldV P30 27 x1 11 h5) fun v6 =>
                  castSl v6 fun a7 o8 o9 =>
                    evLoop (evCode P30 (ev30 r n) (jmp30 r n 27) (dead30 27) r 2 (pc [1, 0, 1, 0, 0, 1, 1, 0, 0, 1, 1, 0, 1, 0, 0] (bd Tryz.f27))) (dead30 27 (4 * 2)) (dead30 27 (4 * 2 + 2))
                      (dead30 27 1000002) r
                      (E27_8 (Value.pointer (some { block := x1, off := 0 })) (Value.int IntKind.i64 x15) (Value.pointer (some { block := h.1, off := 0 })) (Value.slice none 0 0)
                        (Value.slice x13 x13n x13s) (Value.int IntKind.i64 x14) (Value.int IntKind.i64 x15) (Value.slice a7 o8 o9) (Value.int IntKind.i64 (↑o8 : Int)) (Value.int IntKind.i64 0))
                      h5
                      (blockK 2
                        (seqK
                          (after P30 (ev30 r n) (jmp30 r n 27) (dead30 27) r 1 (pc [1, 0, 1, 0, 0, 1, 1, 0, 0, 1, 1, 1] (bd Tryz.f27))
                            (blockK 1
                              (seqK
                                (after P30 (ev30 r n) (jmp30 r n 27) (dead30 27) r 0 (pc [1, 0, 1, 0, 0, 1, 1, 1] (bd Tryz.f27))
                                  (loopK nx (dead30 27 (4 * 0)) (dead30 27 (4 * 0 + 2)) (dead30 27 1000002) K))
                                (loopK nx (dead30 27 (4 * 0)) (dead30 27 (4 * 0 + 2)) (dead30 27 1000002) K))))
                          (blockK 1
                            (seqK
                              (after P30 (ev30 r n) (jmp30 r n 27) (dead30 27) r 0 (pc [1, 0, 1, 0, 0, 1, 1, 1] (bd Tryz.f27))
                                (loopK nx (dead30 27 (4 * 0)) (dead30 27 (4 * 0 + 2)) (dead30 27 1000002) K))
                              (loopK nx (dead30 27 (4 * 0)) (dead30 27 (4 * 0 + 2)) (dead30 27 1000002) K))))))
  else K (Exit.exit 0) E27_2 h := by kernel_rfl

theorem e27_0x0 (r n : Nat) (h : H) : (blockK 0 (seqK (after P30 (ev30 r n) (jmp30 r n 27) (dead30 27) r 0 (pc [1, 1] (bd Tryz.f27)) (outK (dead30 27) (key (pc [1] (bd Tryz.f27))))) (outK (dead30 27) (key (pc [1] (bd Tryz.f27)))))) (.exit 0) (E27_2) h =
  some (Exit.ret, E27_r (Value.bool true), h) := by kernel_rfl

theorem e27_0r (r n : Nat) (h : H) (x2 : Bool) : (blockK 0 (seqK (after P30 (ev30 r n) (jmp30 r n 27) (dead30 27) r 0 (pc [1, 1] (bd Tryz.f27)) (outK (dead30 27) (key (pc [1] (bd Tryz.f27))))) (outK (dead30 27) (key (pc [1] (bd Tryz.f27)))))) .ret (E27_r (.bool x2)) h =
  some (Exit.ret, E27_r (Value.bool x2), h) := by kernel_rfl

theorem e27_8 (r n : Nat) (h : H) {R : Type} (x1 : Nat) (x3 : Int) (x4 : Nat) (x5 : Option Addr) (x5n : Nat) (x5s : Nat) (x13 : Option Addr) (x13n : Nat) (x13s : Nat) (x14 : Int) (x15 : Int) (x22 : Option Addr) (x22n : Nat) (x22s : Nat) (x23 : Int) (x24 : Int) (nx : Env → H → Option R) (K : Exit → Env → H → Option R) : evCode P30 (ev30 r n) (jmp30 r n 27) (dead30 27) r 2 (pc [1, 0, 1, 0, 0, 1, 1, 0, 0, 1, 1, 0, 1, 0, 0] (bd Tryz.f27)) (E27_8 (.pointer (some ⟨x1, 0, none⟩)) (.int .i64 x3) (.pointer (some ⟨x4, 0, none⟩)) (.slice x5 x5n x5s) (.slice x13 x13n x13s) (.int .i64 x14) (.int .i64 x15) (.slice x22 x22n x22s) (.int .i64 x23) (.int .i64 x24)) h (loopK nx (dead30 27 (4 * 2)) (dead30 27 (4 * 2 + 2)) (dead30 27 1000002) K) =
  bif decide (x24 < x23) then
    indexAddrA P30 27 (Value.slice x22 x22n x22s) (Value.int IntKind.i64 x24) fun v0 =>
      addrK v0 fun o1 o2 =>
        optK (ldV P30 65 o1 o2 h) fun v3 =>
          castA v3 fun cs4 =>
            ifK (cellsOf P30 65 = some (Value.agg cs4).cells.size)
              (optK
                (stCells
                  (h.new
                    (Blk.cells
                      [Value.string (txt []), Value.string (txt []), Value.string (txt []), Value.int IntKind.i64 0, Value.int IntKind.i64 0,
                        Value.int IntKind.i64 0, Value.int IntKind.i64 0, Value.int IntKind.i64 0, Value.int IntKind.i64 0, Value.int IntKind.i64 0, Value.int IntKind.i64 0, Value.int IntKind.i64 0,
                        Value.int IntKind.i64 0, Value.int IntKind.i64 0, Value.int IntKind.i64 0, Value.int IntKind.i64 0, Value.slice none 0 0]
                      false))
                  h.1 0 (Value.agg cs4).cells.toList)
                fun h5 =>
                optK (ldV P30 3 h.1 4 h5) fun v6 =>
                  castI IntKind.i64 v6 fun n7 =>
                    bif decide (n7 > 4) then
                      optK (ldV P30 26 x1 0 h5) fun v8 =>
                        castA v8 fun cs9 =>
                          optK (ldV P30 9 h.1 1 h5) fun v10 =>
                            castS v10 fun s11 =>
                              callK (ev30 r n) 53 [Value.agg cs9, Value.string s11] h5 fun v12 h13 =>
                                castI IntKind.i64 v12 fun n14 =>
                                  bif n14 == x3 then
                                    optK (ldV P30 3 h.1 13 h13) fun v15 =>
                                      castI IntKind.i64 v15 fun n16 =>
                                        appendA P30 { toList := [28, 28] } (Value.slice x5 x5n x5s) (Value.slice (some { block := h13.1, off := 0 }) 1 1)
                                          (h13.new (Blk.cells [Value.int IntKind.i64 n16] false)) fun v17 h18 =>
                                          castSl v17 fun a19 o20 o21 =>
                                            nx
                                              (E27_8 (Value.pointer (some { block := x1, off := 0 })) (Value.int IntKind.i64 x3) (Value.pointer (some { block := x4, off := 0 }))
                                                (Value.slice a19 o20 o21) (Value.slice x13 x13n x13s) (Value.int IntKind.i64 x14) (Value.int IntKind.i64 x15) (Value.slice x22 x22n x22s)
                                                (Value.int IntKind.i64 x23) (Value.int IntKind.i64 (IntKind.i64.wrap (x24 + 1))))
                                              h18
                                  else
                                    nx
                                      (E27_8 (Value.pointer (some { block := x1, off := 0 })) (Value.int IntKind.i64 x3) (Value.pointer (some { block := x4, off := 0 })) (Value.slice x5 x5n x5s)
                                        (Value.slice x13 x13n x13s) (Value.int IntKind.i64 x14) (Value.int IntKind.i64 x15) (Value.slice x22 x22n x22s) (Value.int IntKind.i64 x23)
                                        (Value.int IntKind.i64 (IntKind.i64.wrap (x24 + 1))))
                                      h13
                    else
                      nx
                        (E27_8 (Value.pointer (some { block := x1, off := 0 })) (Value.int IntKind.i64 x3) (Value.pointer (some { block := x4, off := 0 })) (Value.slice x5 x5n x5s)
                          (Value.slice x13 x13n x13s) (Value.int IntKind.i64 x14) (Value.int IntKind.i64 x15) (Value.slice x22 x22n x22s) (Value.int IntKind.i64 x23)
                          (Value.int IntKind.i64 (IntKind.i64.wrap (x24 + 1))))
                        h5)
  else
    K (Exit.exit 2)
      (E27_10 (Value.pointer (some { block := x1, off := 0 })) (Value.int IntKind.i64 x3) (Value.pointer (some { block := x4, off := 0 })) (Value.slice x5 x5n x5s) (Value.slice x13 x13n x13s)
        (Value.int IntKind.i64 x14) (Value.int IntKind.i64 x15))
      h := by kernel_rfl

theorem e27_8x2 (r n : Nat) (h : H) {R : Type} (x1 : Nat) (x3 : Int) (x4 : Nat) (x5 : Option Addr) (x5n : Nat) (x5s : Nat) (x13 : Option Addr) (x13n : Nat) (x13s : Nat) (x14 : Int) (x15 : Int) (nx : Env → H → Option R) (K : Exit → Env → H → Option R) : (blockK 2 (seqK (after P30 (ev30 r n) (jmp30 r n 27) (dead30 27) r 1 (pc [1, 0, 1, 0, 0, 1, 1, 0, 0, 1, 1, 1] (bd Tryz.f27)) (blockK 1 (seqK (after P30 (ev30 r n) (jmp30 r n 27) (dead30 27) r 0 (pc [1, 0, 1, 0, 0, 1, 1, 1] (bd Tryz.f27)) (loopK nx (dead30 27 (4 * 0)) (dead30 27 (4 * 0 + 2)) (dead30 27 1000002) K)) (loopK nx (dead30 27 (4 * 0)) (dead30 27 (4 * 0 + 2)) (dead30 27 1000002) K)))) (blockK 1 (seqK (after P30 (ev30 r n) (jmp30 r n 27) (dead30 27) r 0 (pc [1, 0, 1, 0, 0, 1, 1, 1] (bd Tryz.f27)) (loopK nx (dead30 27 (4 * 0)) (dead30 27 (4 * 0 + 2)) (dead30 27 1000002) K)) (loopK nx (dead30 27 (4 * 0)) (dead30 27 (4 * 0 + 2)) (dead30 27 1000002) K))))) (.exit 2) (E27_10 (.pointer (some ⟨x1, 0, none⟩)) (.int .i64 x3) (.pointer (some ⟨x4, 0, none⟩)) (.slice x5 x5n x5s) (.slice x13 x13n x13s) (.int .i64 x14) (.int .i64 x15)) h =
  optK (ldV P30 28 x1 13 h) fun v0 =>
    castSl v0 fun a1 o2 o3 =>
      indexAddrA P30 28 (Value.slice a1 o2 o3) (Value.int IntKind.i64 x3) fun v4 =>
        addrK v4 fun o5 o6 =>
          optK (ldV P30 3 o5 o6 h) fun v7 =>
            castI IntKind.i64 v7 fun n8 =>
              optK (ldV P30 27 x1 11 (h.new (Blk.cells [Value.int IntKind.i64 n8] false))) fun v9 =>
                castSl v9 fun a10 o11 o12 =>
                  evLoop (evCode P30 (ev30 r n) (jmp30 r n 27) (dead30 27) r 4 (pc [1, 0, 1, 0, 0, 1, 1, 0, 0, 1, 1, 1, 1, 0, 1, 0, 0] (bd Tryz.f27))) (dead30 27 (4 * 4)) (dead30 27 (4 * 4 + 2))
                    (dead30 27 1000002) r
                    (E27_16 (Value.pointer (some { block := x1, off := 0 })) (Value.int IntKind.i64 x3) (Value.pointer (some { block := x4, off := 0 })) (Value.slice x5 x5n x5s)
                      (Value.slice (some { block := h.1, off := 0 }) 1 1) (Value.slice x13 x13n x13s) (Value.int IntKind.i64 x14) (Value.int IntKind.i64 x15) (Value.slice a10 o11 o12)
                      (Value.int IntKind.i64 (↑o11 : Int)) (Value.int IntKind.i64 0))
                    (h.new (Blk.cells [Value.int IntKind.i64 n8] false))
                    (blockK 4
                      (seqK
                        (after P30 (ev30 r n) (jmp30 r n 27) (dead30 27) r 1 (pc [1, 0, 1, 0, 0, 1, 1, 0, 0, 1, 1, 1, 1, 1] (bd Tryz.f27))
                          (blockK 1
                            (seqK
                              (after P30 (ev30 r n) (jmp30 r n 27) (dead30 27) r 0 (pc [1, 0, 1, 0, 0, 1, 1, 1] (bd Tryz.f27))
                                (loopK nx (dead30 27 (4 * 0)) (dead30 27 (4 * 0 + 2)) (dead30 27 1000002) K))
                              (loopK nx (dead30 27 (4 * 0)) (dead30 27 (4 * 0 + 2)) (dead30 27 1000002) K))))
                        (blockK 1
                          (seqK
                            (after P30 (ev30 r n) (jmp30 r n 27) (dead30 27) r 0 (pc [1, 0, 1, 0, 0, 1, 1, 1] (bd Tryz.f27)) (loopK nx (dead30 27 (4 * 0)) (dead30 27 (4 * 0 + 2)) (dead30 27 1000002) K))
                            (loopK nx (dead30 27 (4 * 0)) (dead30 27 (4 * 0 + 2)) (dead30 27 1000002) K))))) := by kernel_rfl

theorem e27_16 (r n : Nat) (h : H) {R : Type} (x1 : Nat) (x3 : Int) (x4 : Nat) (x5 : Option Addr) (x5n : Nat) (x5s : Nat) (x8 : Option Addr) (x8n : Nat) (x8s : Nat) (x13 : Option Addr) (x13n : Nat) (x13s : Nat) (x14 : Int) (x15 : Int) (x55 : Option Addr) (x55n : Nat) (x55s : Nat) (x56 : Int) (x57 : Int) (nx : Env → H → Option R) (K : Exit → Env → H → Option R) : evCode P30 (ev30 r n) (jmp30 r n 27) (dead30 27) r 4 (pc [1, 0, 1, 0, 0, 1, 1, 0, 0, 1, 1, 1, 1, 0, 1, 0, 0] (bd Tryz.f27)) (E27_16 (.pointer (some ⟨x1, 0, none⟩)) (.int .i64 x3) (.pointer (some ⟨x4, 0, none⟩)) (.slice x5 x5n x5s) (.slice x8 x8n x8s) (.slice x13 x13n x13s) (.int .i64 x14) (.int .i64 x15) (.slice x55 x55n x55s) (.int .i64 x56) (.int .i64 x57)) h (loopK nx (dead30 27 (4 * 4)) (dead30 27 (4 * 4 + 2)) (dead30 27 1000002) K) =
  bif decide (x57 < x56) then
    indexAddrA P30 27 (Value.slice x55 x55n x55s) (Value.int IntKind.i64 x57) fun v0 =>
      addrK v0 fun o1 o2 =>
        optK (ldV P30 65 o1 o2 h) fun v3 =>
          castA v3 fun cs4 =>
            ifK (cellsOf P30 65 = some (Value.agg cs4).cells.size)
              (optK
                (stCells
                  (h.new
                    (Blk.cells
                      [Value.string (txt []), Value.string (txt []), Value.string (txt []), Value.int IntKind.i64 0, Value.int IntKind.i64 0,
                        Value.int IntKind.i64 0, Value.int IntKind.i64 0, Value.int IntKind.i64 0, Value.int IntKind.i64 0, Value.int IntKind.i64 0, Value.int IntKind.i64 0, Value.int IntKind.i64 0,
                        Value.int IntKind.i64 0, Value.int IntKind.i64 0, Value.int IntKind.i64 0, Value.int IntKind.i64 0, Value.slice none 0 0]
                      false))
                  h.1 0 (Value.agg cs4).cells.toList)
                fun h5 =>
                optK (ldV P30 26 x1 0 h5) fun v6 =>
                  castA v6 fun cs7 =>
                    optK (ldV P30 9 h.1 1 h5) fun v8 =>
                      castS v8 fun s9 =>
                        callK (ev30 r n) 53 [Value.agg cs7, Value.string s9] h5 fun v10 h11 =>
                          castI IntKind.i64 v10 fun n12 =>
                            bif n12 == x3 then
                              optK (ldV P30 28 x1 14 h11) fun v13 =>
                                castSl v13 fun a14 o15 o16 =>
                                  indexAddrA P30 28 (Value.slice a14 o15 o16) (Value.int IntKind.i64 x57) fun v17 =>
                                    addrK v17 fun o18 o19 =>
                                      optK (ldV P30 3 o18 o19 h11) fun v20 =>
                                        castI IntKind.i64 v20 fun n21 =>
                                          appendA P30 { toList := [28, 28] } (Value.slice x8 x8n x8s) (Value.slice (some { block := h11.1, off := 0 }) 1 1)
                                            (h11.new (Blk.cells [Value.int IntKind.i64 n21] false)) fun v22 h23 =>
                                            castSl v22 fun a24 o25 o26 =>
                                              nx
                                                (E27_16 (Value.pointer (some { block := x1, off := 0 })) (Value.int IntKind.i64 x3) (Value.pointer (some { block := x4, off := 0 }))
                                                  (Value.slice x5 x5n x5s) (Value.slice a24 o25 o26) (Value.slice x13 x13n x13s) (Value.int IntKind.i64 x14) (Value.int IntKind.i64 x15)
                                                  (Value.slice x55 x55n x55s) (Value.int IntKind.i64 x56) (Value.int IntKind.i64 (IntKind.i64.wrap (x57 + 1))))
                                                h23
                            else
                              nx
                                (E27_16 (Value.pointer (some { block := x1, off := 0 })) (Value.int IntKind.i64 x3) (Value.pointer (some { block := x4, off := 0 })) (Value.slice x5 x5n x5s)
                                  (Value.slice x8 x8n x8s) (Value.slice x13 x13n x13s) (Value.int IntKind.i64 x14) (Value.int IntKind.i64 x15) (Value.slice x55 x55n x55s) (Value.int IntKind.i64 x56)
                                  (Value.int IntKind.i64 (IntKind.i64.wrap (x57 + 1))))
                                h11)
  else
    K (Exit.exit 4)
      (E27_18 (Value.pointer (some { block := x1, off := 0 })) (Value.int IntKind.i64 x3) (Value.pointer (some { block := x4, off := 0 })) (Value.slice x5 x5n x5s) (Value.slice x8 x8n x8s)
        (Value.slice x13 x13n x13s) (Value.int IntKind.i64 x14) (Value.int IntKind.i64 x15))
      h := by kernel_rfl

theorem e27_16x4 (r n : Nat) (h : H) {R : Type} (x1 : Nat) (x3 : Int) (x4 : Nat) (x5 : Option Addr) (x5n : Nat) (x5s : Nat) (x8 : Option Addr) (x8n : Nat) (x8s : Nat) (x13 : Option Addr) (x13n : Nat) (x13s : Nat) (x14 : Int) (x15 : Int) (nx : Env → H → Option R) (K : Exit → Env → H → Option R) : (blockK 4 (seqK (after P30 (ev30 r n) (jmp30 r n 27) (dead30 27) r 1 (pc [1, 0, 1, 0, 0, 1, 1, 0, 0, 1, 1, 1, 1, 1] (bd Tryz.f27)) (blockK 1 (seqK (after P30 (ev30 r n) (jmp30 r n 27) (dead30 27) r 0 (pc [1, 0, 1, 0, 0, 1, 1, 1] (bd Tryz.f27)) (loopK nx (dead30 27 (4 * 0)) (dead30 27 (4 * 0 + 2)) (dead30 27 1000002) K)) (loopK nx (dead30 27 (4 * 0)) (dead30 27 (4 * 0 + 2)) (dead30 27 1000002) K)))) (blockK 1 (seqK (after P30 (ev30 r n) (jmp30 r n 27) (dead30 27) r 0 (pc [1, 0, 1, 0, 0, 1, 1, 1] (bd Tryz.f27)) (loopK nx (dead30 27 (4 * 0)) (dead30 27 (4 * 0 + 2)) (dead30 27 1000002) K)) (loopK nx (dead30 27 (4 * 0)) (dead30 27 (4 * 0 + 2)) (dead30 27 1000002) K))))) (.exit 4) (E27_18 (.pointer (some ⟨x1, 0, none⟩)) (.int .i64 x3) (.pointer (some ⟨x4, 0, none⟩)) (.slice x5 x5n x5s) (.slice x8 x8n x8s) (.slice x13 x13n x13s) (.int .i64 x14) (.int .i64 x15)) h =
  optK (ldV P30 28 x1 13 h) fun v0 =>
    castSl v0 fun a1 o2 o3 =>
      indexAddrA P30 28 (Value.slice a1 o2 o3) (Value.int IntKind.i64 x3) fun v4 =>
        addrK v4 fun o5 o6 =>
          optK (ldV P30 3 o5 o6 h) fun v7 =>
            castI IntKind.i64 v7 fun n8 =>
              callK (ev30 r n) 55 [Value.int IntKind.i64 n8, Value.slice x5 x5n x5s] h fun v9 h10 =>
                castV v9 fun b11 =>
                  bif !b11 then K Exit.ret (E27_r (Value.bool false)) h10
                  else
                    optK (ldV P30 28 x1 12 h10) fun v12 =>
                      castSl v12 fun a13 o14 o15 =>
                        indexAddrA P30 28 (Value.slice a13 o14 o15) (Value.int IntKind.i64 x3) fun v16 =>
                          addrK v16 fun o17 o18 =>
                            optK (ldV P30 3 o17 o18 h10) fun v19 =>
                              castI IntKind.i64 v19 fun n20 =>
                                callK (ev30 r n) 55 [Value.int IntKind.i64 n20, Value.slice x8 x8n x8s] h10 fun v21 h22 =>
                                  castV v21 fun b23 =>
                                    bif !b23 then K Exit.ret (E27_r (Value.bool false)) h22
                                    else
                                      optK (ldV P30 28 x1 12 h22) fun v24 =>
                                        castSl v24 fun a25 o26 o27 =>
                                          indexAddrA P30 28 (Value.slice a25 o26 o27) (Value.int IntKind.i64 x3) fun v28 =>
                                            addrK v28 fun o29 o30 =>
                                              optK (ldV P30 3 o29 o30 h22) fun v31 =>
                                                castI IntKind.i64 v31 fun n32 =>
                                                  optK (ldV P30 3 x4 1 h22) fun v33 =>
                                                    castI IntKind.i64 v33 fun n34 =>
                                                      bif decide (n32 > n34) then K Exit.ret (E27_r (Value.bool false)) h22
                                                      else
                                                        nx
                                                          (E27_0 (Value.pointer (some { block := x1, off := 0 })) (Value.slice x13 x13n x13s) (Value.int IntKind.i64 x14)
                                                            (Value.int IntKind.i64 (IntKind.i64.wrap (x15 + 1))))
                                                          h22 := by kernel_rfl

theorem e28 (r n : Nat) (h : H) (a0_0 : Option Addr) (a0_0n : Nat) (a0_0s : Nat) (a0_1 : Option Addr) (a0_1n : Nat) (a0_1s : Nat) (a0_2 : Option Addr) (a0_2n : Nat) (a0_2s : Nat) (a0_3 : Int) (a0_4 : Int) (a0_5 : Int) (a0_6 : Int) (a0_7 : Int) (a0_8 : Int) (a1_0 : Int) (a1_1 : Bool) (a1_2 : Option Addr) (a1_2n : Nat) (a1_2s : Nat) (a1_3 : Option Addr) (a1_3n : Nat) (a1_3s : Nat) (a1_4 : Option Addr) (a1_4n : Nat) (a1_4s : Nat) (a1_5 : Option Addr) (a1_5n : Nat) (a1_5s : Nat) (a1_6 : Option Addr) (a1_6n : Nat) (a1_6s : Nat) : ev30 r (n + 1) 28 [.agg #[.slice a0_0 a0_0n a0_0s, .slice a0_1 a0_1n a0_1s, .slice a0_2 a0_2n a0_2s, .int .i64 a0_3, .int .i64 a0_4, .int .i64 a0_5, .int .i64 a0_6, .int .i64 a0_7, .int .i64 a0_8], .agg #[.int .i64 a1_0, .bool a1_1, .slice a1_2 a1_2n a1_2s, .slice a1_3 a1_3n a1_3s, .slice a1_4 a1_4n a1_4s, .slice a1_5 a1_5n a1_5s, .slice a1_6 a1_6n a1_6s]] h =
  jumpK
    (jmp30 r n 28 0 (pc [1] (bd Tryz.f28)) (E28_3 (Value.pointer (some { block := h.1, off := 0 })) (Value.pointer (some { block := h.1 + 1, off := 0 })))
      ((h.new
            (Blk.cells
              [Value.slice a0_0 a0_0n a0_0s, Value.slice a0_1 a0_1n a0_1s, Value.slice a0_2 a0_2n a0_2s, Value.int IntKind.i64 a0_3, Value.int IntKind.i64 a0_4, Value.int IntKind.i64 a0_5,
                Value.int IntKind.i64 a0_6, Value.int IntKind.i64 a0_7, Value.int IntKind.i64 a0_8]
              false)).new
        (Blk.cells
          [Value.int IntKind.i64 a1_0, Value.bool a1_1, Value.slice a1_2 a1_2n a1_2s, Value.slice a1_3 a1_3n a1_3s, Value.slice a1_4 a1_4n a1_4s, Value.slice a1_5 a1_5n a1_5s,
            Value.slice a1_6 a1_6n a1_6s]
          false)))
    (finK P30 [ResultVar.tmp 4]) := by kernel_rfl

theorem e28_3c (r n : Nat) (h : H) (x2 : Nat) (x3 : Nat) : jmp30 r (n + 1) 28 0 (pc [1] (bd Tryz.f28)) (E28_3 (.pointer (some ⟨x2, 0, none⟩)) (.pointer (some ⟨x3, 0, none⟩))) h =
  optK (ldV P30 28 x3 3 h) fun v0 =>
    castSl v0 fun _ o2 _ =>
      optK (ldV P30 36 x2 0 h) fun v4 =>
        castSl v4 fun _ o6 _ =>
          bif (↑o2 : Int) != (↑o6 : Int) then some (Exit.ret, E28_r (Value.bool false), h)
          else
            optK (ldV P30 28 x3 4 h) fun v8 =>
              castSl v8 fun _ o10 _ =>
                optK (ldV P30 36 x2 0 h) fun v12 =>
                  castSl v12 fun _ o14 _ =>
                    bif (↑o10 : Int) != (↑o14 : Int) then some (Exit.ret, E28_r (Value.bool false), h)
                    else
                      optK (ldV P30 28 x3 6 h) fun v16 =>
                        castSl v16 fun _ o18 _ =>
                          optK (ldV P30 38 x2 2 h) fun v20 =>
                            castSl v20 fun _ o22 _ =>
                              bif (↑o18 : Int) != (↑o22 : Int) then some (Exit.ret, E28_r (Value.bool false), h)
                              else
                                optK (ldV P30 28 x3 5 h) fun v24 =>
                                  castSl v24 fun _ o26 _ =>
                                    optK (ldV P30 42 x3 2 h) fun v28 =>
                                      castSl v28 fun _ o30 _ =>
                                        bif (↑o26 : Int) != (↑o30 : Int) then some (Exit.ret, E28_r (Value.bool false), h)
                                        else
                                          optK (ldV P30 42 x3 2 h) fun v32 =>
                                            castSl v32 fun _ o34 _ =>
                                              optK (ldV P30 3 x2 3 h) fun v36 =>
                                                castI IntKind.i64 v36 fun n37 =>
                                                  bif decide ((↑o34 : Int) > n37) then some (Exit.ret, E28_r (Value.bool false), h)
                                                  else
                                                    jumpK (jmp30 r n 28 0 (pc [1, 1] (bd Tryz.f28)) (E28_7 (Value.pointer (some { block := x3, off := 0 }))) h)
                                                      (outK (dead30 28) (key (pc [1] (bd Tryz.f28)))) := by kernel_rfl

theorem e28_3r (h : H) (x4 : Bool) : (finK P30 [.tmp 4]) .ret (E28_r (.bool x4)) h =
  some (Value.bool x4, h) := by kernel_rfl

theorem e28_7c (r n : Nat) (h : H) (x3 : Nat) : jmp30 r (n + 1) 28 0 (pc [1, 1] (bd Tryz.f28)) (E28_7 (.pointer (some ⟨x3, 0, none⟩))) h =
  optK (ldV P30 3 x3 0 h) fun v0 =>
    castI IntKind.i64 v0 fun n1 =>
      bif decide (n1 ≥ 0) then
        optK (ldV P30 3 x3 0 h) fun v2 =>
          castI IntKind.i64 v2 fun n3 =>
            bif decide (n3 ≤ 1099511627776) then
              optK (ldV P30 28 x3 3 h) fun v4 =>
                castSl v4 fun a5 o6 o7 =>
                  callK (ev30 r n) 57 [Value.slice a5 o6 o7] h fun v8 h9 =>
                    castV v8 fun b10 =>
                      bif !b10 then
                        optK (ldV P30 28 x3 4 h9) fun v11 =>
                          castSl v11 fun a12 o13 o14 =>
                            callK (ev30 r n) 57 [Value.slice a12 o13 o14] h9 fun v15 h16 =>
                              castV v15 fun b17 =>
                                bif !b17 then
                                  optK (ldV P30 28 x3 5 h16) fun v18 =>
                                    castSl v18 fun a19 o20 o21 =>
                                      callK (ev30 r n) 57 [Value.slice a19 o20 o21] h16 fun v22 h23 =>
                                        castV v22 fun b24 =>
                                          bif !b24 then
                                            optK (ldV P30 28 x3 6 h23) fun v25 =>
                                              castSl v25 fun a26 o27 o28 =>
                                                callK (ev30 r n) 57 [Value.slice a26 o27 o28] h23 fun v29 h30 => castV v29 fun b31 => some (Exit.ret, E28_r (Value.bool !b31), h30)
                                          else some (Exit.ret, E28_r (Value.bool false), h23)
                                else some (Exit.ret, E28_r (Value.bool false), h16)
                      else some (Exit.ret, E28_r (Value.bool false), h9)
            else some (Exit.ret, E28_r (Value.bool false), h)
      else some (Exit.ret, E28_r (Value.bool false), h) := by kernel_rfl

theorem e28_7r (h : H) (x4 : Bool) : (outK (dead30 28) (key (pc [1] (bd Tryz.f28)))) .ret (E28_r (.bool x4)) h =
  some (Exit.ret, E28_r (Value.bool x4), h) := by kernel_rfl

theorem e29 (r n : Nat) (h : H) (a0_0 : Option Addr) (a0_0n : Nat) (a0_0s : Nat) (a0_1 : Option Addr) (a0_1n : Nat) (a0_1s : Nat) (a0_2 : Option Addr) (a0_2n : Nat) (a0_2s : Nat) (a0_3 : Int) (a0_4 : Int) (a0_5 : Int) (a0_6 : Int) (a0_7 : Int) (a0_8 : Int) (a1_0 : ByteArray) (a1_1 : ByteArray) (a1_2 : ByteArray) (a1_3 : Int) (a1_4 : Int) (a1_5 : Int) (a1_6 : Int) (a1_7 : Int) (a1_8 : Int) (a1_9 : Int) (a1_10 : Int) (a1_11 : Int) (a1_12 : Int) (a1_13 : Int) (a1_14 : Int) (a1_15 : Int) (a1_16 : Option Addr) (a1_16n : Nat) (a1_16s : Nat) (a2 : Int) (a3 : Int) : ev30 r (n + 1) 29 [.agg #[.slice a0_0 a0_0n a0_0s, .slice a0_1 a0_1n a0_1s, .slice a0_2 a0_2n a0_2s, .int .i64 a0_3, .int .i64 a0_4, .int .i64 a0_5, .int .i64 a0_6, .int .i64 a0_7, .int .i64 a0_8], .agg #[.string a1_0, .string a1_1, .string a1_2, .int .i64 a1_3, .int .i64 a1_4, .int .i64 a1_5, .int .i64 a1_6, .int .i64 a1_7, .int .i64 a1_8, .int .i64 a1_9, .int .i64 a1_10, .int .i64 a1_11, .int .i64 a1_12, .int .i64 a1_13, .int .i64 a1_14, .int .i64 a1_15, .slice a1_16 a1_16n a1_16s], .int .i64 a2, .int .i64 a3] h =
  jumpK
    (jmp30 r n 29 0 (pc [1] (bd Tryz.f29))
      (E29_3 (Value.int IntKind.i64 a2) (Value.int IntKind.i64 a3) (Value.pointer (some { block := h.1, off := 0 })) (Value.pointer (some { block := h.1 + 1, off := 0 })))
      ((h.new
            (Blk.cells
              [Value.slice a0_0 a0_0n a0_0s, Value.slice a0_1 a0_1n a0_1s, Value.slice a0_2 a0_2n a0_2s, Value.int IntKind.i64 a0_3, Value.int IntKind.i64 a0_4, Value.int IntKind.i64 a0_5,
                Value.int IntKind.i64 a0_6, Value.int IntKind.i64 a0_7, Value.int IntKind.i64 a0_8]
              false)).new
        (Blk.cells
          [Value.string a1_0, Value.string a1_1, Value.string a1_2, Value.int IntKind.i64 a1_3, Value.int IntKind.i64 a1_4, Value.int IntKind.i64 a1_5, Value.int IntKind.i64 a1_6,
            Value.int IntKind.i64 a1_7, Value.int IntKind.i64 a1_8, Value.int IntKind.i64 a1_9, Value.int IntKind.i64 a1_10, Value.int IntKind.i64 a1_11, Value.int IntKind.i64 a1_12,
            Value.int IntKind.i64 a1_13, Value.int IntKind.i64 a1_14, Value.int IntKind.i64 a1_15, Value.slice a1_16 a1_16n a1_16s]
          false)))
    (finK P30 [ResultVar.tmp 8]) := by kernel_rfl

theorem e29_3c (r n : Nat) (h : H) (x2 : Int) (x3 : Int) (x4 : Nat) (x5 : Nat) : jmp30 r (n + 1) 29 0 (pc [1] (bd Tryz.f29)) (E29_3 (.int .i64 x2) (.int .i64 x3) (.pointer (some ⟨x4, 0, none⟩)) (.pointer (some ⟨x5, 0, none⟩))) h =
  bif x3 == 2 then
    optK (ldV P30 3 x5 4 h) fun v0 =>
      castI IntKind.i64 v0 fun n1 =>
        bif decide (n1 ≥ 1) then
          optK (ldV P30 3 x5 4 h) fun v2 =>
            castI IntKind.i64 v2 fun n3 =>
              bif decide (n3 ≤ 6) then
                optK (ldV P30 3 x5 11 h) fun v4 =>
                  castI IntKind.i64 v4 fun n5 =>
                    optK (ldV P30 3 x5 12 h) fun v6 =>
                      castI IntKind.i64 v6 fun n7 =>
                        optK (ldV P30 3 x5 14 h) fun v8 =>
                          castI IntKind.i64 v8 fun n9 =>
                            optK (ldV P30 3 x5 13 h) fun v10 =>
                              castI IntKind.i64 v10 fun n11 =>
                                optK (ldV P30 3 x5 15 h) fun v12 =>
                                  castI IntKind.i64 v12 fun n13 =>
                                    callK (ev30 r n) 57 [Value.slice (some { block := h.1, off := 0 }) 5 1]
                                      (h.new (Blk.cells [Value.int IntKind.i64 n5, Value.int IntKind.i64 n7, Value.int IntKind.i64 n9, Value.int IntKind.i64 n11, Value.int IntKind.i64 n13] false))
                                      fun v14 h15 =>
                                      castV v14 fun b16 =>
                                        bif !b16 then
                                          optK (ldV P30 3 x5 6 h15) fun v17 =>
                                            castI IntKind.i64 v17 fun n18 =>
                                              bif decide (n18 ≥ 1) then
                                                optK (ldV P30 3 x5 10 h15) fun v19 =>
                                                  castI IntKind.i64 v19 fun n20 =>
                                                    optK (ldV P30 3 x5 6 h15) fun v21 =>
                                                      castI IntKind.i64 v21 fun n22 =>
                                                        bif decide (n20 ≥ n22) then
                                                          optK (ldV P30 3 x5 10 h15) fun v23 =>
                                                            castI IntKind.i64 v23 fun n24 =>
                                                              bif decide (n24 ≤ 1099511627776) then
                                                                optK (ldV P30 40 x4 0 h15) fun v25 =>
                                                                  castA v25 fun cs26 =>
                                                                    callK (ev30 r n) 59 [Value.agg cs26] h15 fun v27 h28 =>
                                                                      castSl v27 fun a29 o30 o31 =>
                                                                        optK (ldV P30 9 x5 1 h28) fun v32 =>
                                                                          castS v32 fun s33 =>
                                                                            bif sameLd P30 9 x5 1 (Value.string s33) h15 then
                                                                              callK (ev30 r n) 58 [Value.slice a29 o30 o31, Value.string s33] h28 fun v34 h35 =>
                                                                                castI IntKind.i64 v34 fun n36 => some (Exit.ret, E29_r (Value.bool (decide (n36 ≥ 0))), h35)
                                                                            else none
                                                              else some (Exit.ret, E29_r (Value.bool false), h15)
                                                        else some (Exit.ret, E29_r (Value.bool false), h15)
                                              else some (Exit.ret, E29_r (Value.bool false), h15)
                                        else some (Exit.ret, E29_r (Value.bool false), h15)
              else some (Exit.ret, E29_r (Value.bool false), h)
        else some (Exit.ret, E29_r (Value.bool false), h)
  else
    bif x3 == 3 then
      evLoop (evCode P30 (ev30 r n) (jmp30 r n 29) (dead30 29) r 1 (pc [1, 0, 1, 0, 1, 1, 1, 0, 1, 0, 0] (bd Tryz.f29))) (dead30 29 (4 * 1))
        (dead30 29 (4 * 1 + 2)) (dead30 29 1000002) r (E29_4 (Value.pointer (some { block := x5, off := 0 })) (Value.int IntKind.i64 0)) h
        (blockK 1
          (blockK 0
            (seqK (after P30 (ev30 r n) (jmp30 r n 29) (dead30 29) r 0 (pc [1, 1] (bd Tryz.f29)) (outK (dead30 29) (key (pc [1] (bd Tryz.f29)))))
              (outK (dead30 29) (key (pc [1] (bd Tryz.f29)))))))
    else
      bif x3 == 4 then
        evLoop (evCode P30 (ev30 r n) (jmp30 r n 29) (dead30 29) r 3 (pc [1, 0, 1, 0, 1, 1, 1, 1, 1, 0, 1, 1, 0, 1, 0, 0] (bd Tryz.f29)))
          (dead30 29 (4 * 3)) (dead30 29 (4 * 3 + 2)) (dead30 29 1000002) r
          (E29_12 (Value.pointer (some { block := x5, off := 0 })) (Value.slice none 0 0) (Value.slice none 0 0) (Value.int IntKind.i64 0)) h
          (blockK 3
            (seqK
              (after P30 (ev30 r n) (jmp30 r n 29) (dead30 29) r 0 (pc [1, 0, 1, 0, 1, 1, 1, 1, 1, 0, 1, 1, 1] (bd Tryz.f29))
                (blockK 0
                  (seqK (after P30 (ev30 r n) (jmp30 r n 29) (dead30 29) r 0 (pc [1, 1] (bd Tryz.f29)) (outK (dead30 29) (key (pc [1] (bd Tryz.f29)))))
                    (outK (dead30 29) (key (pc [1] (bd Tryz.f29)))))))
              (blockK 0
                (seqK (after P30 (ev30 r n) (jmp30 r n 29) (dead30 29) r 0 (pc [1, 1] (bd Tryz.f29)) (outK (dead30 29) (key (pc [1] (bd Tryz.f29)))))
                  (outK (dead30 29) (key (pc [1] (bd Tryz.f29))))))))
      else
        bif x3 == 5 then
          optK (ldV P30 3 x5 10 h) fun v37 =>
            castI IntKind.i64 v37 fun n38 =>
              callK (ev30 r n) 63 [Value.int IntKind.i64 n38] h fun v39 h40 =>
                castA v39 fun cs41 =>
                  optK (ldV P30 3 x5 11 h40) fun v42 =>
                    castI IntKind.i64 v42 fun n43 =>
                      bif sameLd P30 3 x5 11 (Value.int IntKind.i64 n43) h then
                        optK (ldV P30 3 x5 12 h40) fun v44 =>
                          castI IntKind.i64 v44 fun n45 =>
                            bif sameLd P30 3 x5 12 (Value.int IntKind.i64 n45) h then
                              optK (ldV P30 3 x5 14 h40) fun v46 =>
                                castI IntKind.i64 v46 fun n47 =>
                                  bif sameLd P30 3 x5 14 (Value.int IntKind.i64 n47) h then
                                    callK (ev30 r n) 64 [Value.slice (some { block := h40.1, off := 0 }) 3 1]
                                      (h40.new (Blk.cells [Value.int IntKind.i64 n43, Value.int IntKind.i64 n45, Value.int IntKind.i64 n47] false)) fun v48 h49 =>
                                      castA v48 fun cs50 =>
                                        callK (ev30 r n) 62 [Value.agg cs41, Value.agg cs50] h49 fun v51 h52 => castV v51 fun b53 => some (Exit.ret, E29_r (Value.bool !b53), h52)
                                  else none
                            else none
                      else none
        else
          bif x3 == 6 then
            optK (ldV P30 3 x5 4 h) fun v54 =>
              castI IntKind.i64 v54 fun n55 =>
                bif decide (n55 > 4) then
                  optK (ldV P30 3 x5 14 h) fun v56 =>
                    castI IntKind.i64 v56 fun n57 =>
                      bif n57 != 0 then some (Exit.ret, E29_r (Value.bool false), h)
                      else
                        bif x2 != 0 then some (Exit.ret, E29_r (Value.bool false), h)
                        else
                          jumpK (jmp30 r n 29 0 (pc [1, 0, 1, 0, 1, 1, 1, 1, 1, 1, 1, 1, 1, 0, 1] (bd Tryz.f29)) (E29_49 (Value.pointer (some { block := x5, off := 0 }))) h)
                            (blockK 0
                              (seqK
                                (after P30 (ev30 r n) (jmp30 r n 29) (dead30 29) r 0 (pc [1, 1] (bd Tryz.f29))
                                  (outK (dead30 29) (key (pc [1] (bd Tryz.f29)))))
                                (outK (dead30 29) (key (pc [1] (bd Tryz.f29))))))
                else
                  jumpK (jmp30 r n 29 0 (pc [1, 0, 1, 0, 1, 1, 1, 1, 1, 1, 1, 1, 1, 0, 1] (bd Tryz.f29)) (E29_49 (Value.pointer (some { block := x5, off := 0 }))) h)
                    (blockK 0
                      (seqK (after P30 (ev30 r n) (jmp30 r n 29) (dead30 29) r 0 (pc [1, 1] (bd Tryz.f29)) (outK (dead30 29) (key (pc [1] (bd Tryz.f29)))))
                        (outK (dead30 29) (key (pc [1] (bd Tryz.f29))))))
          else
            bif x3 == 7 then
              optK (ldV P30 3 x5 4 h) fun v58 =>
                castI IntKind.i64 v58 fun n59 =>
                  bif decide (n59 > 4) then some (Exit.ret, E29_r (Value.bool true), h)
                  else
                    optK (ldV P30 3 x5 15 h) fun v60 =>
                      castI IntKind.i64 v60 fun n61 =>
                        bif decide (n61 ≤ x2) then
                          optK (ldV P30 3 x5 13 h) fun v62 =>
                            castI IntKind.i64 v62 fun n63 => optK (ldV P30 3 x5 15 h) fun v64 => castI IntKind.i64 v64 fun n65 => some (Exit.ret, E29_r (Value.bool (decide (n63 ≤ n65))), h)
                        else some (Exit.ret, E29_r (Value.bool false), h)
            else some (Exit.ret, E29_r (Value.bool true), h) := by kernel_rfl

theorem e29_3r (h : H) (x8 : Bool) : (finK P30 [.tmp 8]) .ret (E29_r (.bool x8)) h =
  some (Value.bool x8, h) := by kernel_rfl

theorem e29_4 (r n : Nat) (h : H) {R : Type} (x5 : Nat) (x9 : Int) (nx : Env → H → Option R) (K : Exit → Env → H → Option R) : evCode P30 (ev30 r n) (jmp30 r n 29) (dead30 29) r 1 (pc [1, 0, 1, 0, 1, 1, 1, 0, 1, 0, 0] (bd Tryz.f29)) (E29_4 (.pointer (some ⟨x5, 0, none⟩)) (.int .i64 x9)) h (loopK nx (dead30 29 (4 * 1)) (dead30 29 (4 * 1 + 2)) (dead30 29 1000002) K) =
  optK (ldV P30 73 x5 16 h) fun v0 =>
    castSl v0 fun _ o2 _ =>
      bif decide (x9 < (↑o2 : Int)) then
        optK (ldV P30 73 x5 16 h) fun v4 =>
          castSl v4 fun a5 o6 o7 =>
            indexAddrA P30 73 (Value.slice a5 o6 o7) (Value.int IntKind.i64 x9) fun v8 =>
              addrK v8 fun o9 o10 =>
                optK (ldV P30 82 o9 o10 h) fun v11 =>
                  castA v11 fun cs12 =>
                    callK (ev30 r n) 60 [Value.agg cs12] h fun v13 h14 =>
                      castV v13 fun b15 =>
                        bif !b15 then K Exit.ret (E29_r (Value.bool false)) h14 else nx (E29_4 (Value.pointer (some { block := x5, off := 0 })) (Value.int IntKind.i64 (IntKind.i64.wrap (x9 + 1)))) h14
      else K (Exit.exit 1) E29_6 h := by kernel_rfl

theorem e29_4x1 (r n : Nat) (h : H) : (blockK 1 (blockK 0 (seqK (after P30 (ev30 r n) (jmp30 r n 29) (dead30 29) r 0 (pc [1, 1] (bd Tryz.f29)) (outK (dead30 29) (key (pc [1] (bd Tryz.f29))))) (outK (dead30 29) (key (pc [1] (bd Tryz.f29))))))) (.exit 1) (E29_6) h =
  some (Exit.ret, E29_r (Value.bool true), h) := by kernel_rfl

theorem e29_4r (r n : Nat) (h : H) (x8 : Bool) : (blockK 1 (blockK 0 (seqK (after P30 (ev30 r n) (jmp30 r n 29) (dead30 29) r 0 (pc [1, 1] (bd Tryz.f29)) (outK (dead30 29) (key (pc [1] (bd Tryz.f29))))) (outK (dead30 29) (key (pc [1] (bd Tryz.f29))))))) .ret (E29_r (.bool x8)) h =
  some (Exit.ret, E29_r (Value.bool x8), h) := by kernel_rfl

theorem e29_12 (r n : Nat) (h : H) {R : Type} (x5 : Nat) (x10 : Option Addr) (x10n : Nat) (x10s : Nat) (x11 : Option Addr) (x11n : Nat) (x11s : Nat) (x12 : Int) (nx : Env → H → Option R) (K : Exit → Env → H → Option R) : evCode P30 (ev30 r n) (jmp30 r n 29) (dead30 29) r 3 (pc [1, 0, 1, 0, 1, 1, 1, 1, 1, 0, 1, 1, 0, 1, 0, 0] (bd Tryz.f29)) (E29_12 (.pointer (some ⟨x5, 0, none⟩)) (.slice x10 x10n x10s) (.slice x11 x11n x11s) (.int .i64 x12)) h (loopK nx (dead30 29 (4 * 3)) (dead30 29 (4 * 3 + 2)) (dead30 29 1000002) K) =
  optK (ldV P30 73 x5 16 h) fun v0 =>
    castSl v0 fun _ o2 _ =>
      bif decide (x12 < (↑o2 : Int)) then
        optK (ldV P30 73 x5 16 h) fun v4 =>
          castSl v4 fun a5 o6 o7 =>
            indexAddrA P30 73 (Value.slice a5 o6 o7) (Value.int IntKind.i64 x12) fun v8 =>
              addrK v8 fun o9 o10 =>
                optK (ldV P30 3 o9 (o10 + 9) h) fun v11 =>
                  castI IntKind.i64 v11 fun n12 =>
                    appendA P30 { toList := [28, 28] } (Value.slice x10 x10n x10s) (Value.slice (some { block := h.1, off := 0 }) 1 1) (h.new (Blk.cells [Value.int IntKind.i64 n12] false))
                      fun v13 h14 =>
                      castSl v13 fun a15 o16 o17 =>
                        optK (ldV P30 73 x5 16 h14) fun v18 =>
                          castSl v18 fun a19 o20 o21 =>
                            indexAddrA P30 73 (Value.slice a19 o20 o21) (Value.int IntKind.i64 x12) fun v22 =>
                              addrK v22 fun o23 o24 =>
                                optK (ldV P30 3 o23 (o24 + 8) h14) fun v25 =>
                                  castI IntKind.i64 v25 fun n26 =>
                                    appendA P30 { toList := [28, 28] } (Value.slice x11 x11n x11s) (Value.slice (some { block := h14.1, off := 0 }) 1 1)
                                      (h14.new (Blk.cells [Value.int IntKind.i64 n26] false)) fun v27 h28 =>
                                      castSl v27 fun a29 o30 o31 =>
                                        nx
                                          (E29_12 (Value.pointer (some { block := x5, off := 0 })) (Value.slice a15 o16 o17) (Value.slice a29 o30 o31)
                                            (Value.int IntKind.i64 (IntKind.i64.wrap (x12 + 1))))
                                          h28
      else K (Exit.exit 3) (E29_14 (Value.pointer (some { block := x5, off := 0 })) (Value.slice x10 x10n x10s) (Value.slice x11 x11n x11s)) h := by kernel_rfl

theorem e29_12x3 (r n : Nat) (h : H) (x5 : Nat) (x10 : Option Addr) (x10n : Nat) (x10s : Nat) (x11 : Option Addr) (x11n : Nat) (x11s : Nat) : (blockK 3 (seqK (after P30 (ev30 r n) (jmp30 r n 29) (dead30 29) r 0 (pc [1, 0, 1, 0, 1, 1, 1, 1, 1, 0, 1, 1, 1] (bd Tryz.f29)) (blockK 0 (seqK (after P30 (ev30 r n) (jmp30 r n 29) (dead30 29) r 0 (pc [1, 1] (bd Tryz.f29)) (outK (dead30 29) (key (pc [1] (bd Tryz.f29))))) (outK (dead30 29) (key (pc [1] (bd Tryz.f29))))))) (blockK 0 (seqK (after P30 (ev30 r n) (jmp30 r n 29) (dead30 29) r 0 (pc [1, 1] (bd Tryz.f29)) (outK (dead30 29) (key (pc [1] (bd Tryz.f29))))) (outK (dead30 29) (key (pc [1] (bd Tryz.f29)))))))) (.exit 3) (E29_14 (.pointer (some ⟨x5, 0, none⟩)) (.slice x10 x10n x10s) (.slice x11 x11n x11s)) h =
  optK (ldV P30 3 x5 14 h) fun v0 =>
    castI IntKind.i64 v0 fun n1 =>
      callK (ev30 r n) 61 [Value.int IntKind.i64 n1, Value.slice x10 x10n x10s] h fun v2 h3 =>
        castV v2 fun b4 =>
          bif b4 then
            optK (ldV P30 3 x5 11 h3) fun v5 =>
              castI IntKind.i64 v5 fun n6 => callK (ev30 r n) 61 [Value.int IntKind.i64 n6, Value.slice x11 x11n x11s] h3 fun v7 h8 => castV v7 fun b9 => some (Exit.ret, E29_r (Value.bool b9), h8)
          else some (Exit.ret, E29_r (Value.bool false), h3) := by kernel_rfl

theorem e29_49c (r n : Nat) (h : H) (x5 : Nat) : jmp30 r (n + 1) 29 0 (pc [1, 0, 1, 0, 1, 1, 1, 1, 1, 1, 1, 1, 1, 0, 1] (bd Tryz.f29)) (E29_49 (.pointer (some ⟨x5, 0, none⟩))) h =
  optK (ldV P30 3 x5 4 h) fun v0 =>
    castI IntKind.i64 v0 fun n1 =>
      bif n1 != 5 then some (Exit.ret, E29_r (Value.bool true), h)
      else
        optK (ldV P30 3 x5 11 h) fun v2 =>
          castI IntKind.i64 v2 fun n3 =>
            optK (ldV P30 3 x5 12 h) fun v4 =>
              castI IntKind.i64 v4 fun n5 => optK (ldV P30 3 x5 6 h) fun v6 => castI IntKind.i64 v6 fun n7 => some (Exit.ret, E29_r (Value.bool (decide (IntKind.i64.wrap (n3 + n5) ≥ n7))), h) := by kernel_rfl

theorem e29_49r (r n : Nat) (h : H) (x8 : Bool) : (blockK 0 (seqK (after P30 (ev30 r n) (jmp30 r n 29) (dead30 29) r 0 (pc [1, 1] (bd Tryz.f29)) (outK (dead30 29) (key (pc [1] (bd Tryz.f29))))) (outK (dead30 29) (key (pc [1] (bd Tryz.f29)))))) .ret (E29_r (.bool x8)) h =
  some (Exit.ret, E29_r (Value.bool x8), h) := by kernel_rfl

theorem e30 (r n : Nat) (h : H) (a0_0 : Option Addr) (a0_0n : Nat) (a0_0s : Nat) (a0_1 : Option Addr) (a0_1n : Nat) (a0_1s : Nat) (a0_2 : Option Addr) (a0_2n : Nat) (a0_2s : Nat) (a0_3 : Int) (a0_4 : Int) (a0_5 : Int) (a0_6 : Int) (a0_7 : Int) (a0_8 : Int) (a1_0 : Int) (a1_1 : Bool) (a1_2 : Option Addr) (a1_2n : Nat) (a1_2s : Nat) (a1_3 : Option Addr) (a1_3n : Nat) (a1_3s : Nat) (a1_4 : Option Addr) (a1_4n : Nat) (a1_4s : Nat) (a1_5 : Option Addr) (a1_5n : Nat) (a1_5s : Nat) (a1_6 : Option Addr) (a1_6n : Nat) (a1_6s : Nat) (a2 : Int) : ev30 r (n + 1) 30 [.agg #[.slice a0_0 a0_0n a0_0s, .slice a0_1 a0_1n a0_1s, .slice a0_2 a0_2n a0_2s, .int .i64 a0_3, .int .i64 a0_4, .int .i64 a0_5, .int .i64 a0_6, .int .i64 a0_7, .int .i64 a0_8], .agg #[.int .i64 a1_0, .bool a1_1, .slice a1_2 a1_2n a1_2s, .slice a1_3 a1_3n a1_3s, .slice a1_4 a1_4n a1_4s, .slice a1_5 a1_5n a1_5s, .slice a1_6 a1_6n a1_6s], .int .i64 a2] h =
  jumpK
    (jmp30 r n 30 0 (pc [1] (bd Tryz.f30))
      (E30_3 (Value.int IntKind.i64 a2) (Value.pointer (some { block := h.1, off := 0 })) (Value.pointer (some { block := h.1 + 1, off := 0 })))
      ((h.new
            (Blk.cells
              [Value.slice a0_0 a0_0n a0_0s, Value.slice a0_1 a0_1n a0_1s, Value.slice a0_2 a0_2n a0_2s, Value.int IntKind.i64 a0_3, Value.int IntKind.i64 a0_4, Value.int IntKind.i64 a0_5,
                Value.int IntKind.i64 a0_6, Value.int IntKind.i64 a0_7, Value.int IntKind.i64 a0_8]
              false)).new
        (Blk.cells
          [Value.int IntKind.i64 a1_0, Value.bool a1_1, Value.slice a1_2 a1_2n a1_2s, Value.slice a1_3 a1_3n a1_3s, Value.slice a1_4 a1_4n a1_4s, Value.slice a1_5 a1_5n a1_5s,
            Value.slice a1_6 a1_6n a1_6s]
          false)))
    (finK P30 [ResultVar.tmp 6]) := by kernel_rfl

theorem e30_3c (r n : Nat) (h : H) (x2 : Int) (x3 : Nat) (x4 : Nat) : jmp30 r (n + 1) 30 0 (pc [1] (bd Tryz.f30)) (E30_3 (.int .i64 x2) (.pointer (some ⟨x3, 0, none⟩)) (.pointer (some ⟨x4, 0, none⟩))) h =
  optK (ldV P30 28 x4 4 h) fun v0 =>
    castSl v0 fun a1 o2 o3 =>
      indexAddrA P30 28 (Value.slice a1 o2 o3) (Value.int IntKind.i64 x2) fun v4 =>
        addrK v4 fun o5 o6 =>
          optK (ldV P30 3 o5 o6 h) fun v7 =>
            castI IntKind.i64 v7 fun n8 =>
              evLoop (evCode P30 (ev30 r n) (jmp30 r n 30) (dead30 30) r 0 (pc [1, 1, 1, 0, 1, 0, 0] (bd Tryz.f30))) (dead30 30 (4 * 0))
                (dead30 30 (4 * 0 + 2)) (dead30 30 1000002) r
                (E30_0 (Value.int IntKind.i64 x2) (Value.pointer (some { block := x3, off := 0 })) (Value.pointer (some { block := x4, off := 0 })) (Value.slice none 0 0)
                  (Value.slice (some { block := h.1, off := 0 }) 1 1) (Value.int IntKind.i64 0))
                (h.new (Blk.cells [Value.int IntKind.i64 n8] false))
                (blockK 0
                  (seqK
                    (after P30 (ev30 r n) (jmp30 r n 30) (dead30 30) r 0 (pc [1, 1, 1, 1] (bd Tryz.f30)) (outK (dead30 30) (key (pc [1] (bd Tryz.f30)))))
                    (outK (dead30 30) (key (pc [1] (bd Tryz.f30)))))) := by kernel_rfl

theorem e30_3r (h : H) (x6 : Bool) : (finK P30 [.tmp 6]) .ret (E30_r (.bool x6)) h =
  some (Value.bool x6, h) := by kernel_rfl

theorem e30_0 (r n : Nat) (h : H) {R : Type} (x2 : Int) (x3 : Nat) (x4 : Nat) (x7 : Option Addr) (x7n : Nat) (x7s : Nat) (x8 : Option Addr) (x8n : Nat) (x8s : Nat) (x9 : Int) (nx : Env → H → Option R) (K : Exit → Env → H → Option R) : evCode P30 (ev30 r n) (jmp30 r n 30) (dead30 30) r 0 (pc [1, 1, 1, 0, 1, 0, 0] (bd Tryz.f30)) (E30_0 (.int .i64 x2) (.pointer (some ⟨x3, 0, none⟩)) (.pointer (some ⟨x4, 0, none⟩)) (.slice x7 x7n x7s) (.slice x8 x8n x8s) (.int .i64 x9)) h (loopK nx (dead30 30 (4 * 0)) (dead30 30 (4 * 0 + 2)) (dead30 30 1000002) K) =
  optK (ldV P30 42 x4 2 h) fun v0 =>
    castSl v0 fun _ o2 _ =>
      bif decide (x9 < (↑o2 : Int)) then
        optK (ldV P30 42 x4 2 h) fun v4 =>
          castSl v4 fun a5 o6 o7 =>
            indexAddrA P30 42 (Value.slice a5 o6 o7) (Value.int IntKind.i64 x9) fun v8 =>
              addrK v8 fun o9 o10 =>
                optK (ldV P30 9 o9 (o10 + 1) h) fun v11 =>
                  castS v11 fun s12 =>
                    optK (ldV P30 36 x3 0 h) fun v13 =>
                      castSl v13 fun a14 o15 o16 =>
                        indexAddrA P30 36 (Value.slice a14 o15 o16) (Value.int IntKind.i64 x2) fun v17 =>
                          addrK v17 fun o18 o19 =>
                            optK (ldV P30 9 o18 (o19 + 0) h) fun v20 =>
                              castS v20 fun s21 =>
                                bif !s12.toList == s21.toList then
                                  nx
                                    (E30_0 (Value.int IntKind.i64 x2) (Value.pointer (some { block := x3, off := 0 })) (Value.pointer (some { block := x4, off := 0 })) (Value.slice x7 x7n x7s)
                                      (Value.slice x8 x8n x8s) (Value.int IntKind.i64 (IntKind.i64.wrap (x9 + 1))))
                                    h
                                else
                                  optK (ldV P30 40 x3 0 h) fun v22 =>
                                    castA v22 fun cs23 =>
                                      callK (ev30 r n) 59 [Value.agg cs23] h fun v24 h25 =>
                                        castSl v24 fun a26 o27 o28 =>
                                          optK (ldV P30 42 x4 2 h25) fun v29 =>
                                            castSl v29 fun a30 o31 o32 =>
                                              bif sameLd P30 42 x4 2 (Value.slice a30 o31 o32) h then
                                                indexAddrA P30 42 (Value.slice a30 o31 o32) (Value.int IntKind.i64 x9) fun v33 =>
                                                  addrK v33 fun o34 o35 =>
                                                    optK (ldV P30 9 o34 (o35 + 1) h25) fun v36 =>
                                                      castS v36 fun s37 =>
                                                        bif sameLd P30 9 o34 (o35 + 1) (Value.string s37) h then
                                                          callK (ev30 r n) 58 [Value.slice a26 o27 o28, Value.string s37] h25 fun v38 h39 =>
                                                            castI IntKind.i64 v38 fun n40 =>
                                                              bif n40 != x2 then
                                                                nx
                                                                  (E30_0 (Value.int IntKind.i64 x2) (Value.pointer (some { block := x3, off := 0 })) (Value.pointer (some { block := x4, off := 0 }))
                                                                    (Value.slice x7 x7n x7s) (Value.slice x8 x8n x8s) (Value.int IntKind.i64 (IntKind.i64.wrap (x9 + 1))))
                                                                  h39
                                                              else
                                                                jumpK
                                                                  (jmp30 r n 30 1 (pc [1, 1, 1, 0, 1, 0, 0, 1, 0, 0, 1] (bd Tryz.f30))
                                                                    (E30_0 (Value.int IntKind.i64 x2) (Value.pointer (some { block := x3, off := 0 })) (Value.pointer (some { block := x4, off := 0 }))
                                                                      (Value.slice x7 x7n x7s) (Value.slice x8 x8n x8s) (Value.int IntKind.i64 x9))
                                                                    h39)
                                                                  (blockK 1
                                                                    (seqK
                                                                      (after P30 (ev30 r n) (jmp30 r n 30) (dead30 30) r 0 (pc [1, 1, 1, 0, 1, 0, 0, 1, 1] (bd Tryz.f30))
                                                                        (loopK nx (dead30 30 (4 * 0)) (dead30 30 (4 * 0 + 2)) (dead30 30 1000002) K))
                                                                      (loopK nx (dead30 30 (4 * 0)) (dead30 30 (4 * 0 + 2)) (dead30 30 1000002) K)))
                                                        else none
                                              else none
      else
        K (Exit.exit 0)
          (E30_2 (Value.int IntKind.i64 x2) (Value.pointer (some { block := x3, off := 0 })) (Value.pointer (some { block := x4, off := 0 })) (Value.slice x7 x7n x7s) (Value.slice x8 x8n x8s)) h := by kernel_rfl

theorem e30_0x0 (r n : Nat) (h : H) (x2 : Int) (x3 : Nat) (x4 : Nat) (x7 : Option Addr) (x7n : Nat) (x7s : Nat) (x8 : Option Addr) (x8n : Nat) (x8s : Nat) : (blockK 0 (seqK (after P30 (ev30 r n) (jmp30 r n 30) (dead30 30) r 0 (pc [1, 1, 1, 1] (bd Tryz.f30)) (outK (dead30 30) (key (pc [1] (bd Tryz.f30))))) (outK (dead30 30) (key (pc [1] (bd Tryz.f30)))))) (.exit 0) (E30_2 (.int .i64 x2) (.pointer (some ⟨x3, 0, none⟩)) (.pointer (some ⟨x4, 0, none⟩)) (.slice x7 x7n x7s) (.slice x8 x8n x8s)) h =
  optK (ldV P30 28 x4 4 h) fun v0 =>
    castSl v0 fun a1 o2 o3 =>
      indexAddrA P30 28 (Value.slice a1 o2 o3) (Value.int IntKind.i64 x2) fun v4 =>
        addrK v4 fun o5 o6 =>
          optK (ldV P30 3 o5 o6 h) fun v7 =>
            castI IntKind.i64 v7 fun n8 =>
              callK (ev30 r n) 61 [Value.int IntKind.i64 n8, Value.slice x7 x7n x7s] h fun v9 h10 =>
                castV v9 fun b11 =>
                  bif b11 then
                    optK (ldV P30 28 x4 3 h10) fun v12 =>
                      castSl v12 fun a13 o14 o15 =>
                        indexAddrA P30 28 (Value.slice a13 o14 o15) (Value.int IntKind.i64 x2) fun v16 =>
                          addrK v16 fun o17 o18 =>
                            optK (ldV P30 3 o17 o18 h10) fun v19 =>
                              castI IntKind.i64 v19 fun n20 =>
                                callK (ev30 r n) 61 [Value.int IntKind.i64 n20, Value.slice x8 x8n x8s] h10 fun v21 h22 =>
                                  castV v21 fun b23 =>
                                    bif b23 then
                                      optK (ldV P30 28 x4 3 h22) fun v24 =>
                                        castSl v24 fun a25 o26 o27 =>
                                          indexAddrA P30 28 (Value.slice a25 o26 o27) (Value.int IntKind.i64 x2) fun v28 =>
                                            addrK v28 fun o29 o30 =>
                                              optK (ldV P30 3 o29 o30 h22) fun v31 =>
                                                castI IntKind.i64 v31 fun n32 =>
                                                  optK (ldV P30 36 x3 0 h22) fun v33 =>
                                                    castSl v33 fun a34 o35 o36 =>
                                                      indexAddrA P30 36 (Value.slice a34 o35 o36) (Value.int IntKind.i64 x2) fun v37 =>
                                                        addrK v37 fun o38 o39 =>
                                                          optK (ldV P30 3 o38 (o39 + 1) h22) fun v40 => castI IntKind.i64 v40 fun n41 => some (Exit.ret, E30_r (Value.bool (decide (n32 ≤ n41))), h22)
                                    else some (Exit.ret, E30_r (Value.bool false), h22)
                  else some (Exit.ret, E30_r (Value.bool false), h10) := by kernel_rfl

theorem e30_15c (r n : Nat) (h : H) (x2 : Int) (x3 : Nat) (x4 : Nat) (x7 : Option Addr) (x7n : Nat) (x7s : Nat) (x8 : Option Addr) (x8n : Nat) (x8s : Nat) (x9 : Int) : jmp30 r (n + 1) 30 1 (pc [1, 1, 1, 0, 1, 0, 0, 1, 0, 0, 1] (bd Tryz.f30)) (E30_0 (.int .i64 x2) (.pointer (some ⟨x3, 0, none⟩)) (.pointer (some ⟨x4, 0, none⟩)) (.slice x7 x7n x7s) (.slice x8 x8n x8s) (.int .i64 x9)) h =
  optK (ldV P30 28 x4 5 h) fun v0 =>
    castSl v0 fun a1 o2 o3 =>
      indexAddrA P30 28 (Value.slice a1 o2 o3) (Value.int IntKind.i64 x9) fun v4 =>
        addrK v4 fun o5 o6 =>
          optK (ldV P30 3 o5 o6 h) fun v7 =>
            castI IntKind.i64 v7 fun n8 =>
              appendA P30 { toList := [28, 28] } (Value.slice x8 x8n x8s) (Value.slice (some { block := h.1, off := 0 }) 1 1) (h.new (Blk.cells [Value.int IntKind.i64 n8] false)) fun v9 h10 =>
                castSl v9 fun a11 o12 o13 =>
                  optK (ldV P30 42 x4 2 h10) fun v14 =>
                    castSl v14 fun a15 o16 o17 =>
                      indexAddrA P30 42 (Value.slice a15 o16 o17) (Value.int IntKind.i64 x9) fun v18 =>
                        addrK v18 fun o19 o20 =>
                          optK (ldV P30 3 o19 (o20 + 4) h10) fun v21 =>
                            castI IntKind.i64 v21 fun n22 =>
                              bif decide (n22 > 4) then
                                optK (ldV P30 42 x4 2 h10) fun v23 =>
                                  castSl v23 fun a24 o25 o26 =>
                                    indexAddrA P30 42 (Value.slice a24 o25 o26) (Value.int IntKind.i64 x9) fun v27 =>
                                      addrK v27 fun o28 o29 =>
                                        optK (ldV P30 3 o28 (o29 + 13) h10) fun v30 =>
                                          castI IntKind.i64 v30 fun n31 =>
                                            appendA P30 { toList := [28, 28] } (Value.slice x7 x7n x7s) (Value.slice (some { block := h10.1, off := 0 }) 1 1)
                                              (h10.new (Blk.cells [Value.int IntKind.i64 n31] false)) fun v32 h33 =>
                                              castSl v32 fun a34 o35 o36 =>
                                                some
                                                  (Exit.normal,
                                                    E30_0 (Value.int IntKind.i64 x2) (Value.pointer (some { block := x3, off := 0 })) (Value.pointer (some { block := x4, off := 0 }))
                                                      (Value.slice a34 o35 o36) (Value.slice a11 o12 o13) (Value.int IntKind.i64 x9),
                                                    h33)
                              else
                                some
                                  (Exit.normal,
                                    E30_0 (Value.int IntKind.i64 x2) (Value.pointer (some { block := x3, off := 0 })) (Value.pointer (some { block := x4, off := 0 })) (Value.slice x7 x7n x7s)
                                      (Value.slice a11 o12 o13) (Value.int IntKind.i64 x9),
                                    h10) := by kernel_rfl

theorem e30_15n (r n : Nat) (h : H) {R : Type} (x2 : Int) (x3 : Nat) (x4 : Nat) (x7 : Option Addr) (x7n : Nat) (x7s : Nat) (x8 : Option Addr) (x8n : Nat) (x8s : Nat) (x9 : Int) (nx : Env → H → Option R) (K : Exit → Env → H → Option R) : (blockK 1 (seqK (after P30 (ev30 r n) (jmp30 r n 30) (dead30 30) r 0 (pc [1, 1, 1, 0, 1, 0, 0, 1, 1] (bd Tryz.f30)) (loopK nx (dead30 30 (4 * 0)) (dead30 30 (4 * 0 + 2)) (dead30 30 1000002) K)) (loopK nx (dead30 30 (4 * 0)) (dead30 30 (4 * 0 + 2)) (dead30 30 1000002) K))) .normal (E30_0 (.int .i64 x2) (.pointer (some ⟨x3, 0, none⟩)) (.pointer (some ⟨x4, 0, none⟩)) (.slice x7 x7n x7s) (.slice x8 x8n x8s) (.int .i64 x9)) h =
  nx
    (E30_0 (Value.int IntKind.i64 x2) (Value.pointer (some { block := x3, off := 0 })) (Value.pointer (some { block := x4, off := 0 })) (Value.slice x7 x7n x7s) (Value.slice x8 x8n x8s)
      (Value.int IntKind.i64 (IntKind.i64.wrap (x9 + 1))))
    h := by kernel_rfl

theorem e31 (r n : Nat) (h : H) (a0_0 : Int) (a0_1 : Bool) (a0_2 : Option Addr) (a0_2n : Nat) (a0_2s : Nat) (a0_3 : Option Addr) (a0_3n : Nat) (a0_3s : Nat) (a0_4 : Option Addr) (a0_4n : Nat) (a0_4s : Nat) (a0_5 : Option Addr) (a0_5n : Nat) (a0_5s : Nat) (a0_6 : Option Addr) (a0_6n : Nat) (a0_6s : Nat) (a0_7 : Int) (a0_8 : Bool) (a0_9 : Option Addr) (a0_9n : Nat) (a0_9s : Nat) (a0_10 : Option Addr) (a0_10n : Nat) (a0_10s : Nat) (a0_11 : Option Addr) (a0_11n : Nat) (a0_11s : Nat) (a0_12 : Option Addr) (a0_12n : Nat) (a0_12s : Nat) (a0_13 : Option Addr) (a0_13n : Nat) (a0_13s : Nat) (a1 : Option Addr) (a1n : Nat) (a1s : Nat) : ev30 r (n + 1) 31 [.agg #[.int .i64 a0_0, .bool a0_1, .slice a0_2 a0_2n a0_2s, .slice a0_3 a0_3n a0_3s, .slice a0_4 a0_4n a0_4s, .slice a0_5 a0_5n a0_5s, .slice a0_6 a0_6n a0_6s, .int .i64 a0_7, .bool a0_8, .slice a0_9 a0_9n a0_9s, .slice a0_10 a0_10n a0_10s, .slice a0_11 a0_11n a0_11s, .slice a0_12 a0_12n a0_12s, .slice a0_13 a0_13n a0_13s], .slice a1 a1n a1s] h =
  evLoop (evCode P30 (ev30 r n) (jmp30 r n 31) (dead30 31) r 0 (pc [1, 0, 1, 0, 0] (bd Tryz.f31))) (dead30 31 (4 * 0)) (dead30 31 (4 * 0 + 2))
    (dead30 31 1000002) r (E31_0 (Value.pointer (some { block := h.1, off := 0 })) (Value.slice a1 a1n a1s) (Value.int IntKind.i64 (↑a1n : Int)) (Value.int IntKind.i64 0))
    (h.new
      (Blk.cells
        [Value.int IntKind.i64 a0_0, Value.bool a0_1, Value.slice a0_2 a0_2n a0_2s, Value.slice a0_3 a0_3n a0_3s, Value.slice a0_4 a0_4n a0_4s, Value.slice a0_5 a0_5n a0_5s,
          Value.slice a0_6 a0_6n a0_6s, Value.int IntKind.i64 a0_7, Value.bool a0_8, Value.slice a0_9 a0_9n a0_9s, Value.slice a0_10 a0_10n a0_10s, Value.slice a0_11 a0_11n a0_11s,
          Value.slice a0_12 a0_12n a0_12s, Value.slice a0_13 a0_13n a0_13s]
        false))
    (blockK 0
      (seqK (after P30 (ev30 r n) (jmp30 r n 31) (dead30 31) r 0 (pc [1, 1] (bd Tryz.f31)) (finK P30 [ResultVar.tmp 4])) (finK P30 [ResultVar.tmp 4]))) := by kernel_rfl

theorem e31_0 (r n : Nat) (h : H) {R : Type} (x2 : Nat) (x7 : Option Addr) (x7n : Nat) (x7s : Nat) (x8 : Int) (x9 : Int) (nx : Env → H → Option R) (K : Exit → Env → H → Option R) : evCode P30 (ev30 r n) (jmp30 r n 31) (dead30 31) r 0 (pc [1, 0, 1, 0, 0] (bd Tryz.f31)) (E31_0 (.pointer (some ⟨x2, 0, none⟩)) (.slice x7 x7n x7s) (.int .i64 x8) (.int .i64 x9)) h (loopK nx (dead30 31 (4 * 0)) (dead30 31 (4 * 0 + 2)) (dead30 31 1000002) K) =
  bif decide (x9 < x8) then
    indexAddrA P30 88 (Value.slice x7 x7n x7s) (Value.int IntKind.i64 x9) fun v0 =>
      addrK v0 fun o1 o2 =>
        optK (ldV P30 87 o1 o2 h) fun v3 =>
          optK (ldV P30 86 x2 0 h) fun v4 =>
            castA v4 fun cs5 =>
              callVK P30 (ev30 r n) 4 v3 [Value.agg cs5] h fun v6 h7 =>
                castV v6 fun b8 =>
                  bif !b8 then K Exit.ret (E31_r (Value.int IntKind.i64 (IntKind.i64.wrap (x9 + 1)))) h7
                  else nx (E31_0 (Value.pointer (some { block := x2, off := 0 })) (Value.slice x7 x7n x7s) (Value.int IntKind.i64 x8) (Value.int IntKind.i64 (IntKind.i64.wrap (x9 + 1)))) h7
  else K (Exit.exit 0) E31_2 h := by kernel_rfl

theorem e31_0x0 (r n : Nat) (h : H) : (blockK 0 (seqK (after P30 (ev30 r n) (jmp30 r n 31) (dead30 31) r 0 (pc [1, 1] (bd Tryz.f31)) (finK P30 [.tmp 4])) (finK P30 [.tmp 4]))) (.exit 0) (E31_2) h =
  some (Value.int IntKind.i64 0, h) := by kernel_rfl

theorem e31_0r (r n : Nat) (h : H) (x4 : Int) : (blockK 0 (seqK (after P30 (ev30 r n) (jmp30 r n 31) (dead30 31) r 0 (pc [1, 1] (bd Tryz.f31)) (finK P30 [.tmp 4])) (finK P30 [.tmp 4]))) .ret (E31_r (.int .i64 x4)) h =
  some (Value.int IntKind.i64 x4, h) := by kernel_rfl

theorem e32 (r n : Nat) (h : H) (a0_0 : Int) (a0_1 : Bool) (a0_2 : Option Addr) (a0_2n : Nat) (a0_2s : Nat) (a0_3 : Option Addr) (a0_3n : Nat) (a0_3s : Nat) (a0_4 : Option Addr) (a0_4n : Nat) (a0_4s : Nat) (a0_5 : Option Addr) (a0_5n : Nat) (a0_5s : Nat) (a0_6 : Option Addr) (a0_6n : Nat) (a0_6s : Nat) (a0_7 : Int) (a0_8 : Bool) (a0_9 : Option Addr) (a0_9n : Nat) (a0_9s : Nat) (a0_10 : Option Addr) (a0_10n : Nat) (a0_10s : Nat) (a0_11 : Option Addr) (a0_11n : Nat) (a0_11s : Nat) (a0_12 : Option Addr) (a0_12n : Nat) (a0_12s : Nat) (a0_13 : Option Addr) (a0_13n : Nat) (a0_13s : Nat) : ev30 r (n + 1) 32 [.agg #[.int .i64 a0_0, .bool a0_1, .slice a0_2 a0_2n a0_2s, .slice a0_3 a0_3n a0_3s, .slice a0_4 a0_4n a0_4s, .slice a0_5 a0_5n a0_5s, .slice a0_6 a0_6n a0_6s, .int .i64 a0_7, .bool a0_8, .slice a0_9 a0_9n a0_9s, .slice a0_10 a0_10n a0_10s, .slice a0_11 a0_11n a0_11s, .slice a0_12 a0_12n a0_12s, .slice a0_13 a0_13n a0_13s]] h =
  optK
    (ldV P30 28 h.1 6
      (h.new
        (Blk.cells
          [Value.int IntKind.i64 a0_0, Value.bool a0_1, Value.slice a0_2 a0_2n a0_2s, Value.slice a0_3 a0_3n a0_3s, Value.slice a0_4 a0_4n a0_4s, Value.slice a0_5 a0_5n a0_5s,
            Value.slice a0_6 a0_6n a0_6s, Value.int IntKind.i64 a0_7, Value.bool a0_8, Value.slice a0_9 a0_9n a0_9s, Value.slice a0_10 a0_10n a0_10s, Value.slice a0_11 a0_11n a0_11s,
            Value.slice a0_12 a0_12n a0_12s, Value.slice a0_13 a0_13n a0_13s]
          false)))
    fun v0 =>
    castSl v0 fun a1 o2 o3 =>
      evLoop (evCode P30 (ev30 r n) (jmp30 r n 32) (dead30 32) r 0 (pc [1, 0, 1, 0, 0] (bd Tryz.f32))) (dead30 32 (4 * 0)) (dead30 32 (4 * 0 + 2))
        (dead30 32 1000002) r (E32_0 (Value.pointer (some { block := h.1, off := 0 })) (Value.slice a1 o2 o3) (Value.int IntKind.i64 (↑o2 : Int)) (Value.int IntKind.i64 0))
        (h.new
          (Blk.cells
            [Value.int IntKind.i64 a0_0, Value.bool a0_1, Value.slice a0_2 a0_2n a0_2s, Value.slice a0_3 a0_3n a0_3s, Value.slice a0_4 a0_4n a0_4s, Value.slice a0_5 a0_5n a0_5s,
              Value.slice a0_6 a0_6n a0_6s, Value.int IntKind.i64 a0_7, Value.bool a0_8, Value.slice a0_9 a0_9n a0_9s, Value.slice a0_10 a0_10n a0_10s, Value.slice a0_11 a0_11n a0_11s,
              Value.slice a0_12 a0_12n a0_12s, Value.slice a0_13 a0_13n a0_13s]
            false))
        (blockK 0
          (seqK (after P30 (ev30 r n) (jmp30 r n 32) (dead30 32) r 0 (pc [1, 1] (bd Tryz.f32)) (finK P30 [ResultVar.tmp 2])) (finK P30 [ResultVar.tmp 2]))) := by kernel_rfl

theorem e32_0 (r n : Nat) (h : H) {R : Type} (x1 : Nat) (x7 : Option Addr) (x7n : Nat) (x7s : Nat) (x8 : Int) (x9 : Int) (nx : Env → H → Option R) (K : Exit → Env → H → Option R) : evCode P30 (ev30 r n) (jmp30 r n 32) (dead30 32) r 0 (pc [1, 0, 1, 0, 0] (bd Tryz.f32)) (E32_0 (.pointer (some ⟨x1, 0, none⟩)) (.slice x7 x7n x7s) (.int .i64 x8) (.int .i64 x9)) h (loopK nx (dead30 32 (4 * 0)) (dead30 32 (4 * 0 + 2)) (dead30 32 1000002) K) =
  bif decide (x9 < x8) then
    indexAddrA P30 28 (Value.slice x7 x7n x7s) (Value.int IntKind.i64 x9) fun v0 =>
      addrK v0 fun o1 o2 =>
        optK (ldV P30 3 o1 o2 h) fun v3 =>
          castI IntKind.i64 v3 fun n4 =>
            optK (ldV P30 28 x1 13 h) fun v5 =>
              castSl v5 fun a6 o7 o8 =>
                indexAddrA P30 28 (Value.slice a6 o7 o8) (Value.int IntKind.i64 x9) fun v9 =>
                  addrK v9 fun o10 o11 =>
                    optK (ldV P30 3 o10 o11 h) fun v12 =>
                      castI IntKind.i64 v12 fun n13 =>
                        bif decide (n13 < n4) then K Exit.ret (E32_r (Value.bool false)) h
                        else nx (E32_0 (Value.pointer (some { block := x1, off := 0 })) (Value.slice x7 x7n x7s) (Value.int IntKind.i64 x8) (Value.int IntKind.i64 (IntKind.i64.wrap (x9 + 1)))) h
  else K (Exit.exit 0) (E32_2 (Value.pointer (some { block := x1, off := 0 }))) h := by kernel_rfl

theorem e32_0x0 (r n : Nat) (h : H) (x1 : Nat) : (blockK 0 (seqK (after P30 (ev30 r n) (jmp30 r n 32) (dead30 32) r 0 (pc [1, 1] (bd Tryz.f32)) (finK P30 [.tmp 2])) (finK P30 [.tmp 2]))) (.exit 0) (E32_2 (.pointer (some ⟨x1, 0, none⟩))) h =
  optK (ldV P30 3 x1 7 h) fun v0 => castI IntKind.i64 v0 fun n1 => optK (ldV P30 3 x1 0 h) fun v2 => castI IntKind.i64 v2 fun n3 => some (Value.bool (decide (n1 ≥ n3)), h) := by kernel_rfl

theorem e32_0r (r n : Nat) (h : H) (x2 : Bool) : (blockK 0 (seqK (after P30 (ev30 r n) (jmp30 r n 32) (dead30 32) r 0 (pc [1, 1] (bd Tryz.f32)) (finK P30 [.tmp 2])) (finK P30 [.tmp 2]))) .ret (E32_r (.bool x2)) h =
  some (Value.bool x2, h) := by kernel_rfl

theorem e33 (r n : Nat) (h : H) (a0_0 : Int) (a0_1 : Bool) (a0_2 : Option Addr) (a0_2n : Nat) (a0_2s : Nat) (a0_3 : Option Addr) (a0_3n : Nat) (a0_3s : Nat) (a0_4 : Option Addr) (a0_4n : Nat) (a0_4s : Nat) (a0_5 : Option Addr) (a0_5n : Nat) (a0_5s : Nat) (a0_6 : Option Addr) (a0_6n : Nat) (a0_6s : Nat) (a0_7 : Int) (a0_8 : Bool) (a0_9 : Option Addr) (a0_9n : Nat) (a0_9s : Nat) (a0_10 : Option Addr) (a0_10n : Nat) (a0_10s : Nat) (a0_11 : Option Addr) (a0_11n : Nat) (a0_11s : Nat) (a0_12 : Option Addr) (a0_12n : Nat) (a0_12s : Nat) (a0_13 : Option Addr) (a0_13n : Nat) (a0_13s : Nat) : ev30 r (n + 1) 33 [.agg #[.int .i64 a0_0, .bool a0_1, .slice a0_2 a0_2n a0_2s, .slice a0_3 a0_3n a0_3s, .slice a0_4 a0_4n a0_4s, .slice a0_5 a0_5n a0_5s, .slice a0_6 a0_6n a0_6s, .int .i64 a0_7, .bool a0_8, .slice a0_9 a0_9n a0_9s, .slice a0_10 a0_10n a0_10s, .slice a0_11 a0_11n a0_11s, .slice a0_12 a0_12n a0_12s, .slice a0_13 a0_13n a0_13s]] h =
  optK
    (ldV P30 27 h.1 9
      (h.new
        (Blk.cells
          [Value.int IntKind.i64 a0_0, Value.bool a0_1, Value.slice a0_2 a0_2n a0_2s, Value.slice a0_3 a0_3n a0_3s, Value.slice a0_4 a0_4n a0_4s, Value.slice a0_5 a0_5n a0_5s,
            Value.slice a0_6 a0_6n a0_6s, Value.int IntKind.i64 a0_7, Value.bool a0_8, Value.slice a0_9 a0_9n a0_9s, Value.slice a0_10 a0_10n a0_10s, Value.slice a0_11 a0_11n a0_11s,
            Value.slice a0_12 a0_12n a0_12s, Value.slice a0_13 a0_13n a0_13s]
          false)))
    fun v0 =>
    castSl v0 fun _ o2 _ =>
      optK
        (ldV P30 27 h.1 2
          (h.new
            (Blk.cells
              [Value.int IntKind.i64 a0_0, Value.bool a0_1, Value.slice a0_2 a0_2n a0_2s, Value.slice a0_3 a0_3n a0_3s, Value.slice a0_4 a0_4n a0_4s, Value.slice a0_5 a0_5n a0_5s,
                Value.slice a0_6 a0_6n a0_6s, Value.int IntKind.i64 a0_7, Value.bool a0_8, Value.slice a0_9 a0_9n a0_9s, Value.slice a0_10 a0_10n a0_10s, Value.slice a0_11 a0_11n a0_11s,
                Value.slice a0_12 a0_12n a0_12s, Value.slice a0_13 a0_13n a0_13s]
              false)))
        fun v4 =>
        castSl v4 fun _ o6 _ =>
          bif decide ((↑o2 : Int) < (↑o6 : Int)) then
            some
              (Value.bool false,
                h.new
                  (Blk.cells
                    [Value.int IntKind.i64 a0_0, Value.bool a0_1, Value.slice a0_2 a0_2n a0_2s, Value.slice a0_3 a0_3n a0_3s, Value.slice a0_4 a0_4n a0_4s, Value.slice a0_5 a0_5n a0_5s,
                      Value.slice a0_6 a0_6n a0_6s, Value.int IntKind.i64 a0_7, Value.bool a0_8, Value.slice a0_9 a0_9n a0_9s, Value.slice a0_10 a0_10n a0_10s, Value.slice a0_11 a0_11n a0_11s,
                      Value.slice a0_12 a0_12n a0_12s, Value.slice a0_13 a0_13n a0_13s]
                    false))
          else
            optK
              (ldV P30 27 h.1 2
                (h.new
                  (Blk.cells
                    [Value.int IntKind.i64 a0_0, Value.bool a0_1, Value.slice a0_2 a0_2n a0_2s, Value.slice a0_3 a0_3n a0_3s, Value.slice a0_4 a0_4n a0_4s, Value.slice a0_5 a0_5n a0_5s,
                      Value.slice a0_6 a0_6n a0_6s, Value.int IntKind.i64 a0_7, Value.bool a0_8, Value.slice a0_9 a0_9n a0_9s, Value.slice a0_10 a0_10n a0_10s, Value.slice a0_11 a0_11n a0_11s,
                      Value.slice a0_12 a0_12n a0_12s, Value.slice a0_13 a0_13n a0_13s]
                    false)))
              fun v8 =>
              castSl v8 fun a9 o10 o11 =>
                evLoop (evCode P30 (ev30 r n) (jmp30 r n 33) (dead30 33) r 0 (pc [1, 1, 0, 1, 0, 0] (bd Tryz.f33))) (dead30 33 (4 * 0))
                  (dead30 33 (4 * 0 + 2)) (dead30 33 1000002) r
                  (E33_0 (Value.pointer (some { block := h.1, off := 0 })) (Value.slice a9 o10 o11) (Value.int IntKind.i64 (↑o10 : Int)) (Value.int IntKind.i64 0))
                  (h.new
                    (Blk.cells
                      [Value.int IntKind.i64 a0_0, Value.bool a0_1, Value.slice a0_2 a0_2n a0_2s, Value.slice a0_3 a0_3n a0_3s, Value.slice a0_4 a0_4n a0_4s, Value.slice a0_5 a0_5n a0_5s,
                        Value.slice a0_6 a0_6n a0_6s, Value.int IntKind.i64 a0_7, Value.bool a0_8, Value.slice a0_9 a0_9n a0_9s, Value.slice a0_10 a0_10n a0_10s, Value.slice a0_11 a0_11n a0_11s,
                        Value.slice a0_12 a0_12n a0_12s, Value.slice a0_13 a0_13n a0_13s]
                      false))
                  (blockK 0
                    (seqK (after P30 (ev30 r n) (jmp30 r n 33) (dead30 33) r 0 (pc [1, 1, 1] (bd Tryz.f33)) (finK P30 [ResultVar.tmp 2]))
                      (finK P30 [ResultVar.tmp 2]))) := by kernel_rfl

theorem e33_0 (r n : Nat) (h : H) {R : Type} (x1 : Nat) (x16 : Option Addr) (x16n : Nat) (x16s : Nat) (x17 : Int) (x18 : Int) (nx : Env → H → Option R) (K : Exit → Env → H → Option R) : evCode P30 (ev30 r n) (jmp30 r n 33) (dead30 33) r 0 (pc [1, 1, 0, 1, 0, 0] (bd Tryz.f33)) (E33_0 (.pointer (some ⟨x1, 0, none⟩)) (.slice x16 x16n x16s) (.int .i64 x17) (.int .i64 x18)) h (loopK nx (dead30 33 (4 * 0)) (dead30 33 (4 * 0 + 2)) (dead30 33 1000002) K) =
  bif decide (x18 < x17) then
    indexAddrA P30 27 (Value.slice x16 x16n x16s) (Value.int IntKind.i64 x18) fun v0 =>
      addrK v0 fun o1 o2 =>
        optK (ldV P30 65 o1 o2 h) fun v3 =>
          castA v3 fun cs4 =>
            ifK (cellsOf P30 65 = some (Value.agg cs4).cells.size)
              (optK
                (stCells
                  (h.new
                    (Blk.cells
                      [Value.string (txt []), Value.string (txt []), Value.string (txt []), Value.int IntKind.i64 0, Value.int IntKind.i64 0,
                        Value.int IntKind.i64 0, Value.int IntKind.i64 0, Value.int IntKind.i64 0, Value.int IntKind.i64 0, Value.int IntKind.i64 0, Value.int IntKind.i64 0, Value.int IntKind.i64 0,
                        Value.int IntKind.i64 0, Value.int IntKind.i64 0, Value.int IntKind.i64 0, Value.int IntKind.i64 0, Value.slice none 0 0]
                      false))
                  h.1 0 (Value.agg cs4).cells.toList)
                fun h5 =>
                optK (ldV P30 65 h.1 0 h5) fun v6 =>
                  castA v6 fun cs7 =>
                    optK (ldV P30 27 x1 9 h5) fun v8 =>
                      castSl v8 fun a9 o10 o11 =>
                        indexAddrA P30 27 (Value.slice a9 o10 o11) (Value.int IntKind.i64 x18) fun v12 =>
                          addrK v12 fun o13 o14 =>
                            optK (ldV P30 65 o13 o14 h5) fun v15 =>
                              castA v15 fun cs16 =>
                                callK (ev30 r n) 65 [Value.agg cs7, Value.agg cs16] h5 fun v17 h18 =>
                                  castV v17 fun b19 =>
                                    bif !b19 then K Exit.ret (E33_r (Value.bool false)) h18
                                    else
                                      nx
                                        (E33_0 (Value.pointer (some { block := x1, off := 0 })) (Value.slice x16 x16n x16s) (Value.int IntKind.i64 x17)
                                          (Value.int IntKind.i64 (IntKind.i64.wrap (x18 + 1))))
                                        h18)
  else K (Exit.exit 0) E33_2 h := by kernel_rfl

theorem e33_0x0 (r n : Nat) (h : H) : (blockK 0 (seqK (after P30 (ev30 r n) (jmp30 r n 33) (dead30 33) r 0 (pc [1, 1, 1] (bd Tryz.f33)) (finK P30 [.tmp 2])) (finK P30 [.tmp 2]))) (.exit 0) (E33_2) h =
  some (Value.bool true, h) := by kernel_rfl

theorem e33_0r (r n : Nat) (h : H) (x2 : Bool) : (blockK 0 (seqK (after P30 (ev30 r n) (jmp30 r n 33) (dead30 33) r 0 (pc [1, 1, 1] (bd Tryz.f33)) (finK P30 [.tmp 2])) (finK P30 [.tmp 2]))) .ret (E33_r (.bool x2)) h =
  some (Value.bool x2, h) := by kernel_rfl

theorem e34 (r n : Nat) (h : H) (a0_0 : Int) (a0_1 : Bool) (a0_2 : Option Addr) (a0_2n : Nat) (a0_2s : Nat) (a0_3 : Option Addr) (a0_3n : Nat) (a0_3s : Nat) (a0_4 : Option Addr) (a0_4n : Nat) (a0_4s : Nat) (a0_5 : Option Addr) (a0_5n : Nat) (a0_5s : Nat) (a0_6 : Option Addr) (a0_6n : Nat) (a0_6s : Nat) (a0_7 : Int) (a0_8 : Bool) (a0_9 : Option Addr) (a0_9n : Nat) (a0_9s : Nat) (a0_10 : Option Addr) (a0_10n : Nat) (a0_10s : Nat) (a0_11 : Option Addr) (a0_11n : Nat) (a0_11s : Nat) (a0_12 : Option Addr) (a0_12n : Nat) (a0_12s : Nat) (a0_13 : Option Addr) (a0_13n : Nat) (a0_13s : Nat) : ev30 r (n + 1) 34 [.agg #[.int .i64 a0_0, .bool a0_1, .slice a0_2 a0_2n a0_2s, .slice a0_3 a0_3n a0_3s, .slice a0_4 a0_4n a0_4s, .slice a0_5 a0_5n a0_5s, .slice a0_6 a0_6n a0_6s, .int .i64 a0_7, .bool a0_8, .slice a0_9 a0_9n a0_9s, .slice a0_10 a0_10n a0_10s, .slice a0_11 a0_11n a0_11s, .slice a0_12 a0_12n a0_12s, .slice a0_13 a0_13n a0_13s]] h =
  optK
    (ldV P30 27 h.1 2
      (h.new
        (Blk.cells
          [Value.int IntKind.i64 a0_0, Value.bool a0_1, Value.slice a0_2 a0_2n a0_2s, Value.slice a0_3 a0_3n a0_3s, Value.slice a0_4 a0_4n a0_4s, Value.slice a0_5 a0_5n a0_5s,
            Value.slice a0_6 a0_6n a0_6s, Value.int IntKind.i64 a0_7, Value.bool a0_8, Value.slice a0_9 a0_9n a0_9s, Value.slice a0_10 a0_10n a0_10s, Value.slice a0_11 a0_11n a0_11s,
            Value.slice a0_12 a0_12n a0_12s, Value.slice a0_13 a0_13n a0_13s]
          false)))
    fun v0 =>
    castSl v0 fun a1 o2 o3 =>
      evLoop (evCode P30 (ev30 r n) (jmp30 r n 34) (dead30 34) r 0 (pc [1, 0, 1, 0, 0] (bd Tryz.f34))) (dead30 34 (4 * 0)) (dead30 34 (4 * 0 + 2))
        (dead30 34 1000002) r (E34_0 (Value.pointer (some { block := h.1, off := 0 })) (Value.slice a1 o2 o3) (Value.int IntKind.i64 (↑o2 : Int)) (Value.int IntKind.i64 0))
        (h.new
          (Blk.cells
            [Value.int IntKind.i64 a0_0, Value.bool a0_1, Value.slice a0_2 a0_2n a0_2s, Value.slice a0_3 a0_3n a0_3s, Value.slice a0_4 a0_4n a0_4s, Value.slice a0_5 a0_5n a0_5s,
              Value.slice a0_6 a0_6n a0_6s, Value.int IntKind.i64 a0_7, Value.bool a0_8, Value.slice a0_9 a0_9n a0_9s, Value.slice a0_10 a0_10n a0_10s, Value.slice a0_11 a0_11n a0_11s,
              Value.slice a0_12 a0_12n a0_12s, Value.slice a0_13 a0_13n a0_13s]
            false))
        (blockK 0
          (seqK (after P30 (ev30 r n) (jmp30 r n 34) (dead30 34) r 0 (pc [1, 1] (bd Tryz.f34)) (finK P30 [ResultVar.tmp 2])) (finK P30 [ResultVar.tmp 2]))) := by kernel_rfl

theorem e34_0 (r n : Nat) (h : H) {R : Type} (x1 : Nat) (x9 : Option Addr) (x9n : Nat) (x9s : Nat) (x10 : Int) (x11 : Int) (nx : Env → H → Option R) (K : Exit → Env → H → Option R) : evCode P30 (ev30 r n) (jmp30 r n 34) (dead30 34) r 0 (pc [1, 0, 1, 0, 0] (bd Tryz.f34)) (E34_0 (.pointer (some ⟨x1, 0, none⟩)) (.slice x9 x9n x9s) (.int .i64 x10) (.int .i64 x11)) h (loopK nx (dead30 34 (4 * 0)) (dead30 34 (4 * 0 + 2)) (dead30 34 1000002) K) =
  bif decide (x11 < x10) then
    indexAddrA P30 27 (Value.slice x9 x9n x9s) (Value.int IntKind.i64 x11) fun v0 =>
      addrK v0 fun o1 o2 =>
        optK (ldV P30 65 o1 o2 h) fun v3 =>
          castA v3 fun cs4 =>
            ifK (cellsOf P30 65 = some (Value.agg cs4).cells.size)
              (optK
                (stCells
                  (h.new
                    (Blk.cells
                      [Value.string (txt []), Value.string (txt []), Value.string (txt []), Value.int IntKind.i64 0, Value.int IntKind.i64 0,
                        Value.int IntKind.i64 0, Value.int IntKind.i64 0, Value.int IntKind.i64 0, Value.int IntKind.i64 0, Value.int IntKind.i64 0, Value.int IntKind.i64 0, Value.int IntKind.i64 0,
                        Value.int IntKind.i64 0, Value.int IntKind.i64 0, Value.int IntKind.i64 0, Value.int IntKind.i64 0, Value.slice none 0 0]
                      false))
                  h.1 0 (Value.agg cs4).cells.toList)
                fun h5 =>
                optK (ldV P30 27 x1 9 h5) fun v6 =>
                  castSl v6 fun a7 o8 o9 =>
                    indexAddrA P30 27 (Value.slice a7 o8 o9) (Value.int IntKind.i64 x11) fun v10 =>
                      addrK v10 fun o11 o12 =>
                        optK (ldV P30 65 o11 o12 h5) fun v13 =>
                          castA v13 fun cs14 =>
                            ifK (cellsOf P30 65 = some (Value.agg cs14).cells.size)
                              (optK
                                (stCells
                                  (h5.new
                                    (Blk.cells
                                      [Value.string (txt []), Value.string (txt []), Value.string (txt []), Value.int IntKind.i64 0,
                                        Value.int IntKind.i64 0, Value.int IntKind.i64 0, Value.int IntKind.i64 0, Value.int IntKind.i64 0, Value.int IntKind.i64 0, Value.int IntKind.i64 0,
                                        Value.int IntKind.i64 0, Value.int IntKind.i64 0, Value.int IntKind.i64 0, Value.int IntKind.i64 0, Value.int IntKind.i64 0, Value.int IntKind.i64 0,
                                        Value.slice none 0 0]
                                      false))
                                  h5.1 0 (Value.agg cs14).cells.toList)
                                fun h15 =>
                                optK (ldV P30 3 h.1 6 h15) fun v16 =>
                                  castI IntKind.i64 v16 fun n17 =>
                                    optK (ldV P30 3 h5.1 6 h15) fun v18 =>
                                      castI IntKind.i64 v18 fun n19 =>
                                        bif n17 == n19 then
                                          optK (ldV P30 3 h.1 7 h15) fun v20 =>
                                            castI IntKind.i64 v20 fun n21 =>
                                              optK (ldV P30 3 h5.1 7 h15) fun v22 =>
                                                castI IntKind.i64 v22 fun n23 =>
                                                  bif n21 == n23 then
                                                    optK (ldV P30 3 h.1 9 h15) fun v24 =>
                                                      castI IntKind.i64 v24 fun n25 =>
                                                        optK (ldV P30 3 h5.1 9 h15) fun v26 =>
                                                          castI IntKind.i64 v26 fun n27 =>
                                                            bif n25 == n27 then
                                                              optK (ldV P30 3 h.1 12 h15) fun v28 =>
                                                                castI IntKind.i64 v28 fun n29 =>
                                                                  optK (ldV P30 3 h5.1 12 h15) fun v30 =>
                                                                    castI IntKind.i64 v30 fun n31 =>
                                                                      jumpK
                                                                        (jmp30 r n 34 1 (pc [1, 0, 1, 0, 0, 1, 1, 0, 0, 1, 1, 1] (bd Tryz.f34))
                                                                          (E34_13 (Value.pointer (some { block := x1, off := 0 })) (Value.int IntKind.i64 x11)
                                                                            (Value.pointer (some { block := h.1, off := 0 })) (Value.pointer (some { block := h5.1, off := 0 })) (Value.bool (n29 == n31))
                                                                            (Value.slice x9 x9n x9s) (Value.int IntKind.i64 x10) (Value.int IntKind.i64 x11))
                                                                          h15)
                                                                        (blockK 1
                                                                          (seqK
                                                                            (after P30 (ev30 r n) (jmp30 r n 34) (dead30 34) r 0 (pc [1, 0, 1, 0, 0, 1, 1, 1] (bd Tryz.f34))
                                                                              (loopK nx (dead30 34 (4 * 0)) (dead30 34 (4 * 0 + 2)) (dead30 34 1000002) K))
                                                                            (loopK nx (dead30 34 (4 * 0)) (dead30 34 (4 * 0 + 2)) (dead30 34 1000002) K)))
                                                            else
                                                              jumpK
                                                                (jmp30 r n 34 1 (pc [1, 0, 1, 0, 0, 1, 1, 0, 0, 1, 1, 1] (bd Tryz.f34))
                                                                  (E34_13 (Value.pointer (some { block := x1, off := 0 })) (Value.int IntKind.i64 x11) (Value.pointer (some { block := h.1, off := 0 }))
                                                                    (Value.pointer (some { block := h5.1, off := 0 })) (Value.bool false) (Value.slice x9 x9n x9s) (Value.int IntKind.i64 x10)
                                                                    (Value.int IntKind.i64 x11))
                                                                  h15)
                                                                (blockK 1
                                                                  (seqK
                                                                    (after P30 (ev30 r n) (jmp30 r n 34) (dead30 34) r 0 (pc [1, 0, 1, 0, 0, 1, 1, 1] (bd Tryz.f34))
                                                                      (loopK nx (dead30 34 (4 * 0)) (dead30 34 (4 * 0 + 2)) (dead30 34 1000002) K))
                                                                    (loopK nx (dead30 34 (4 * 0)) (dead30 34 (4 * 0 + 2)) (dead30 34 1000002) K)))
                                                  else
                                                    jumpK
                                                      (jmp30 r n 34 1 (pc [1, 0, 1, 0, 0, 1, 1, 0, 0, 1, 1, 1] (bd Tryz.f34))
                                                        (E34_13 (Value.pointer (some { block := x1, off := 0 })) (Value.int IntKind.i64 x11) (Value.pointer (some { block := h.1, off := 0 }))
                                                          (Value.pointer (some { block := h5.1, off := 0 })) (Value.bool false) (Value.slice x9 x9n x9s) (Value.int IntKind.i64 x10)
                                                          (Value.int IntKind.i64 x11))
                                                        h15)
                                                      (blockK 1
                                                        (seqK
                                                          (after P30 (ev30 r n) (jmp30 r n 34) (dead30 34) r 0 (pc [1, 0, 1, 0, 0, 1, 1, 1] (bd Tryz.f34))
                                                            (loopK nx (dead30 34 (4 * 0)) (dead30 34 (4 * 0 + 2)) (dead30 34 1000002) K))
                                                          (loopK nx (dead30 34 (4 * 0)) (dead30 34 (4 * 0 + 2)) (dead30 34 1000002) K)))
                                        else
                                          jumpK
                                            (jmp30 r n 34 1 (pc [1, 0, 1, 0, 0, 1, 1, 0, 0, 1, 1, 1] (bd Tryz.f34))
                                              (E34_13 (Value.pointer (some { block := x1, off := 0 })) (Value.int IntKind.i64 x11) (Value.pointer (some { block := h.1, off := 0 }))
                                                (Value.pointer (some { block := h5.1, off := 0 })) (Value.bool false) (Value.slice x9 x9n x9s) (Value.int IntKind.i64 x10) (Value.int IntKind.i64 x11))
                                              h15)
                                            (blockK 1
                                              (seqK
                                                (after P30 (ev30 r n) (jmp30 r n 34) (dead30 34) r 0 (pc [1, 0, 1, 0, 0, 1, 1, 1] (bd Tryz.f34))
                                                  (loopK nx (dead30 34 (4 * 0)) (dead30 34 (4 * 0 + 2)) (dead30 34 1000002) K))
                                                (loopK nx (dead30 34 (4 * 0)) (dead30 34 (4 * 0 + 2)) (dead30 34 1000002) K)))))
  else K (Exit.exit 0) E34_2 h := by kernel_rfl

theorem e34_0x0 (r n : Nat) (h : H) : (blockK 0 (seqK (after P30 (ev30 r n) (jmp30 r n 34) (dead30 34) r 0 (pc [1, 1] (bd Tryz.f34)) (finK P30 [.tmp 2])) (finK P30 [.tmp 2]))) (.exit 0) (E34_2) h =
  some (Value.bool true, h) := by kernel_rfl

theorem e34_0r (r n : Nat) (h : H) (x2 : Bool) : (blockK 0 (seqK (after P30 (ev30 r n) (jmp30 r n 34) (dead30 34) r 0 (pc [1, 1] (bd Tryz.f34)) (finK P30 [.tmp 2])) (finK P30 [.tmp 2]))) .ret (E34_r (.bool x2)) h =
  some (Value.bool x2, h) := by kernel_rfl

theorem e34_13c (r n : Nat) (h : H) (x1 : Nat) (x3 : Int) (x4 : Nat) (x5 : Nat) (x6 : Bool) (x9 : Option Addr) (x9n : Nat) (x9s : Nat) (x10 : Int) (x11 : Int) : jmp30 r (n + 1) 34 1 (pc [1, 0, 1, 0, 0, 1, 1, 0, 0, 1, 1, 1] (bd Tryz.f34)) (E34_13 (.pointer (some ⟨x1, 0, none⟩)) (.int .i64 x3) (.pointer (some ⟨x4, 0, none⟩)) (.pointer (some ⟨x5, 0, none⟩)) (.bool x6) (.slice x9 x9n x9s) (.int .i64 x10) (.int .i64 x11)) h =
  bif x6 then
    optK (ldV P30 3 x4 4 h) fun v0 =>
      castI IntKind.i64 v0 fun n1 =>
        bif decide (n1 ≤ 4) then
          optK (ldV P30 3 x5 4 h) fun v2 =>
            castI IntKind.i64 v2 fun n3 =>
              bif decide (n3 ≤ 4) then
                optK (ldV P30 28 x1 5 h) fun v4 =>
                  castSl v4 fun a5 o6 o7 =>
                    indexAddrA P30 28 (Value.slice a5 o6 o7) (Value.int IntKind.i64 x3) fun v8 =>
                      addrK v8 fun o9 o10 =>
                        optK (ldV P30 3 o9 o10 h) fun v11 =>
                          castI IntKind.i64 v11 fun n12 =>
                            optK (ldV P30 28 x1 12 h) fun v13 =>
                              castSl v13 fun a14 o15 o16 =>
                                indexAddrA P30 28 (Value.slice a14 o15 o16) (Value.int IntKind.i64 x3) fun v17 =>
                                  addrK v17 fun o18 o19 =>
                                    optK (ldV P30 3 o18 o19 h) fun v20 =>
                                      castI IntKind.i64 v20 fun n21 =>
                                        bif n12 != n21 then some (Exit.ret, E34_r (Value.bool false), h)
                                        else
                                          some (Exit.normal, E34_0 (Value.pointer (some { block := x1, off := 0 })) (Value.slice x9 x9n x9s) (Value.int IntKind.i64 x10) (Value.int IntKind.i64 x11), h)
              else some (Exit.normal, E34_0 (Value.pointer (some { block := x1, off := 0 })) (Value.slice x9 x9n x9s) (Value.int IntKind.i64 x10) (Value.int IntKind.i64 x11), h)
        else some (Exit.normal, E34_0 (Value.pointer (some { block := x1, off := 0 })) (Value.slice x9 x9n x9s) (Value.int IntKind.i64 x10) (Value.int IntKind.i64 x11), h)
  else some (Exit.normal, E34_0 (Value.pointer (some { block := x1, off := 0 })) (Value.slice x9 x9n x9s) (Value.int IntKind.i64 x10) (Value.int IntKind.i64 x11), h) := by kernel_rfl

theorem e34_13n (r n : Nat) (h : H) {R : Type} (x1 : Nat) (x9 : Option Addr) (x9n : Nat) (x9s : Nat) (x10 : Int) (x11 : Int) (nx : Env → H → Option R) (K : Exit → Env → H → Option R) : (blockK 1 (seqK (after P30 (ev30 r n) (jmp30 r n 34) (dead30 34) r 0 (pc [1, 0, 1, 0, 0, 1, 1, 1] (bd Tryz.f34)) (loopK nx (dead30 34 (4 * 0)) (dead30 34 (4 * 0 + 2)) (dead30 34 1000002) K)) (loopK nx (dead30 34 (4 * 0)) (dead30 34 (4 * 0 + 2)) (dead30 34 1000002) K))) .normal (E34_0 (.pointer (some ⟨x1, 0, none⟩)) (.slice x9 x9n x9s) (.int .i64 x10) (.int .i64 x11)) h =
  nx (E34_0 (Value.pointer (some { block := x1, off := 0 })) (Value.slice x9 x9n x9s) (Value.int IntKind.i64 x10) (Value.int IntKind.i64 (IntKind.i64.wrap (x11 + 1)))) h := by kernel_rfl

theorem e34_13r (r n : Nat) (h : H) {R : Type} (x2 : Bool) (nx : Env → H → Option R) (K : Exit → Env → H → Option R) : (blockK 1 (seqK (after P30 (ev30 r n) (jmp30 r n 34) (dead30 34) r 0 (pc [1, 0, 1, 0, 0, 1, 1, 1] (bd Tryz.f34)) (loopK nx (dead30 34 (4 * 0)) (dead30 34 (4 * 0 + 2)) (dead30 34 1000002) K)) (loopK nx (dead30 34 (4 * 0)) (dead30 34 (4 * 0 + 2)) (dead30 34 1000002) K))) .ret (E34_r (.bool x2)) h =
  K Exit.ret (E34_r (Value.bool x2)) h := by kernel_rfl

theorem e35 (r n : Nat) (h : H) (a0_0 : Int) (a0_1 : Bool) (a0_2 : Option Addr) (a0_2n : Nat) (a0_2s : Nat) (a0_3 : Option Addr) (a0_3n : Nat) (a0_3s : Nat) (a0_4 : Option Addr) (a0_4n : Nat) (a0_4s : Nat) (a0_5 : Option Addr) (a0_5n : Nat) (a0_5s : Nat) (a0_6 : Option Addr) (a0_6n : Nat) (a0_6s : Nat) (a0_7 : Int) (a0_8 : Bool) (a0_9 : Option Addr) (a0_9n : Nat) (a0_9s : Nat) (a0_10 : Option Addr) (a0_10n : Nat) (a0_10s : Nat) (a0_11 : Option Addr) (a0_11n : Nat) (a0_11s : Nat) (a0_12 : Option Addr) (a0_12n : Nat) (a0_12s : Nat) (a0_13 : Option Addr) (a0_13n : Nat) (a0_13s : Nat) : ev30 r (n + 1) 35 [.agg #[.int .i64 a0_0, .bool a0_1, .slice a0_2 a0_2n a0_2s, .slice a0_3 a0_3n a0_3s, .slice a0_4 a0_4n a0_4s, .slice a0_5 a0_5n a0_5s, .slice a0_6 a0_6n a0_6s, .int .i64 a0_7, .bool a0_8, .slice a0_9 a0_9n a0_9s, .slice a0_10 a0_10n a0_10s, .slice a0_11 a0_11n a0_11s, .slice a0_12 a0_12n a0_12s, .slice a0_13 a0_13n a0_13s]] h =
  optK
    (ldV P30 27 h.1 2
      (h.new
        (Blk.cells
          [Value.int IntKind.i64 a0_0, Value.bool a0_1, Value.slice a0_2 a0_2n a0_2s, Value.slice a0_3 a0_3n a0_3s, Value.slice a0_4 a0_4n a0_4s, Value.slice a0_5 a0_5n a0_5s,
            Value.slice a0_6 a0_6n a0_6s, Value.int IntKind.i64 a0_7, Value.bool a0_8, Value.slice a0_9 a0_9n a0_9s, Value.slice a0_10 a0_10n a0_10s, Value.slice a0_11 a0_11n a0_11s,
            Value.slice a0_12 a0_12n a0_12s, Value.slice a0_13 a0_13n a0_13s]
          false)))
    fun v0 =>
    castSl v0 fun a1 o2 o3 =>
      evLoop (evCode P30 (ev30 r n) (jmp30 r n 35) (dead30 35) r 0 (pc [1, 0, 1, 0, 0] (bd Tryz.f35))) (dead30 35 (4 * 0)) (dead30 35 (4 * 0 + 2))
        (dead30 35 1000002) r (E35_0 (Value.pointer (some { block := h.1, off := 0 })) (Value.slice a1 o2 o3) (Value.int IntKind.i64 (↑o2 : Int)) (Value.int IntKind.i64 0))
        (h.new
          (Blk.cells
            [Value.int IntKind.i64 a0_0, Value.bool a0_1, Value.slice a0_2 a0_2n a0_2s, Value.slice a0_3 a0_3n a0_3s, Value.slice a0_4 a0_4n a0_4s, Value.slice a0_5 a0_5n a0_5s,
              Value.slice a0_6 a0_6n a0_6s, Value.int IntKind.i64 a0_7, Value.bool a0_8, Value.slice a0_9 a0_9n a0_9s, Value.slice a0_10 a0_10n a0_10s, Value.slice a0_11 a0_11n a0_11s,
              Value.slice a0_12 a0_12n a0_12s, Value.slice a0_13 a0_13n a0_13s]
            false))
        (blockK 0
          (seqK (after P30 (ev30 r n) (jmp30 r n 35) (dead30 35) r 0 (pc [1, 1] (bd Tryz.f35)) (finK P30 [ResultVar.tmp 2])) (finK P30 [ResultVar.tmp 2]))) := by kernel_rfl

theorem e35_0 (r n : Nat) (h : H) {R : Type} (x1 : Nat) (x9 : Option Addr) (x9n : Nat) (x9s : Nat) (x10 : Int) (x11 : Int) (nx : Env → H → Option R) (K : Exit → Env → H → Option R) : evCode P30 (ev30 r n) (jmp30 r n 35) (dead30 35) r 0 (pc [1, 0, 1, 0, 0] (bd Tryz.f35)) (E35_0 (.pointer (some ⟨x1, 0, none⟩)) (.slice x9 x9n x9s) (.int .i64 x10) (.int .i64 x11)) h (loopK nx (dead30 35 (4 * 0)) (dead30 35 (4 * 0 + 2)) (dead30 35 1000002) K) =
  bif decide (x11 < x10) then
    indexAddrA P30 27 (Value.slice x9 x9n x9s) (Value.int IntKind.i64 x11) fun v0 =>
      addrK v0 fun o1 o2 =>
        optK (ldV P30 65 o1 o2 h) fun v3 =>
          castA v3 fun cs4 =>
            ifK (cellsOf P30 65 = some (Value.agg cs4).cells.size)
              (optK
                (stCells
                  (h.new
                    (Blk.cells
                      [Value.string (txt []), Value.string (txt []), Value.string (txt []), Value.int IntKind.i64 0, Value.int IntKind.i64 0,
                        Value.int IntKind.i64 0, Value.int IntKind.i64 0, Value.int IntKind.i64 0, Value.int IntKind.i64 0, Value.int IntKind.i64 0, Value.int IntKind.i64 0, Value.int IntKind.i64 0,
                        Value.int IntKind.i64 0, Value.int IntKind.i64 0, Value.int IntKind.i64 0, Value.int IntKind.i64 0, Value.slice none 0 0]
                      false))
                  h.1 0 (Value.agg cs4).cells.toList)
                fun h5 =>
                optK (ldV P30 27 x1 9 h5) fun v6 =>
                  castSl v6 fun a7 o8 o9 =>
                    indexAddrA P30 27 (Value.slice a7 o8 o9) (Value.int IntKind.i64 x11) fun v10 =>
                      addrK v10 fun o11 o12 =>
                        optK (ldV P30 65 o11 o12 h5) fun v13 =>
                          castA v13 fun cs14 =>
                            ifK (cellsOf P30 65 = some (Value.agg cs14).cells.size)
                              (optK
                                (stCells
                                  (h5.new
                                    (Blk.cells
                                      [Value.string (txt []), Value.string (txt []), Value.string (txt []), Value.int IntKind.i64 0,
                                        Value.int IntKind.i64 0, Value.int IntKind.i64 0, Value.int IntKind.i64 0, Value.int IntKind.i64 0, Value.int IntKind.i64 0, Value.int IntKind.i64 0,
                                        Value.int IntKind.i64 0, Value.int IntKind.i64 0, Value.int IntKind.i64 0, Value.int IntKind.i64 0, Value.int IntKind.i64 0, Value.int IntKind.i64 0,
                                        Value.slice none 0 0]
                                      false))
                                  h5.1 0 (Value.agg cs14).cells.toList)
                                fun h15 =>
                                optK (ldV P30 3 h.1 4 h15) fun v16 =>
                                  castI IntKind.i64 v16 fun n17 =>
                                    bif decide (n17 > 4) then
                                      jumpK
                                        (jmp30 r n 35 1 (pc [1, 0, 1, 0, 0, 1, 1, 0, 0, 1, 1, 1] (bd Tryz.f35))
                                          (E35_13 (Value.pointer (some { block := x1, off := 0 })) (Value.pointer (some { block := h.1, off := 0 })) (Value.pointer (some { block := h5.1, off := 0 }))
                                            (Value.bool true) (Value.slice x9 x9n x9s) (Value.int IntKind.i64 x10) (Value.int IntKind.i64 x11))
                                          h15)
                                        (blockK 1
                                          (seqK
                                            (after P30 (ev30 r n) (jmp30 r n 35) (dead30 35) r 0 (pc [1, 0, 1, 0, 0, 1, 1, 1] (bd Tryz.f35))
                                              (loopK nx (dead30 35 (4 * 0)) (dead30 35 (4 * 0 + 2)) (dead30 35 1000002) K))
                                            (loopK nx (dead30 35 (4 * 0)) (dead30 35 (4 * 0 + 2)) (dead30 35 1000002) K)))
                                    else
                                      optK (ldV P30 3 h.1 4 h15) fun v18 =>
                                        castI IntKind.i64 v18 fun n19 =>
                                          bif n19 != 1 then
                                            optK (ldV P30 3 h5.1 4 h15) fun v20 =>
                                              castI IntKind.i64 v20 fun n21 =>
                                                bif n21 != 1 then
                                                  jumpK
                                                    (jmp30 r n 35 1 (pc [1, 0, 1, 0, 0, 1, 1, 0, 0, 1, 1, 1] (bd Tryz.f35))
                                                      (E35_13 (Value.pointer (some { block := x1, off := 0 })) (Value.pointer (some { block := h.1, off := 0 }))
                                                        (Value.pointer (some { block := h5.1, off := 0 })) (Value.bool true) (Value.slice x9 x9n x9s) (Value.int IntKind.i64 x10)
                                                        (Value.int IntKind.i64 x11))
                                                      h15)
                                                    (blockK 1
                                                      (seqK
                                                        (after P30 (ev30 r n) (jmp30 r n 35) (dead30 35) r 0 (pc [1, 0, 1, 0, 0, 1, 1, 1] (bd Tryz.f35))
                                                          (loopK nx (dead30 35 (4 * 0)) (dead30 35 (4 * 0 + 2)) (dead30 35 1000002) K))
                                                        (loopK nx (dead30 35 (4 * 0)) (dead30 35 (4 * 0 + 2)) (dead30 35 1000002) K)))
                                                else
                                                  optK (ldV P30 4 x1 1 h15) fun v22 =>
                                                    castV v22 fun b23 =>
                                                      bif b23 then
                                                        optK (ldV P30 4 x1 8 h15) fun v24 =>
                                                          castV v24 fun b25 =>
                                                            jumpK
                                                              (jmp30 r n 35 1 (pc [1, 0, 1, 0, 0, 1, 1, 0, 0, 1, 1, 1] (bd Tryz.f35))
                                                                (E35_13 (Value.pointer (some { block := x1, off := 0 })) (Value.pointer (some { block := h.1, off := 0 }))
                                                                  (Value.pointer (some { block := h5.1, off := 0 })) (Value.bool b25) (Value.slice x9 x9n x9s) (Value.int IntKind.i64 x10)
                                                                  (Value.int IntKind.i64 x11))
                                                                h15)
                                                              (blockK 1
                                                                (seqK
                                                                  (after P30 (ev30 r n) (jmp30 r n 35) (dead30 35) r 0 (pc [1, 0, 1, 0, 0, 1, 1, 1] (bd Tryz.f35))
                                                                    (loopK nx (dead30 35 (4 * 0)) (dead30 35 (4 * 0 + 2)) (dead30 35 1000002) K))
                                                                  (loopK nx (dead30 35 (4 * 0)) (dead30 35 (4 * 0 + 2)) (dead30 35 1000002) K)))
                                                      else
                                                        jumpK
                                                          (jmp30 r n 35 1 (pc [1, 0, 1, 0, 0, 1, 1, 0, 0, 1, 1, 1] (bd Tryz.f35))
                                                            (E35_13 (Value.pointer (some { block := x1, off := 0 })) (Value.pointer (some { block := h.1, off := 0 }))
                                                              (Value.pointer (some { block := h5.1, off := 0 })) (Value.bool false) (Value.slice x9 x9n x9s) (Value.int IntKind.i64 x10)
                                                              (Value.int IntKind.i64 x11))
                                                            h15)
                                                          (blockK 1
                                                            (seqK
                                                              (after P30 (ev30 r n) (jmp30 r n 35) (dead30 35) r 0 (pc [1, 0, 1, 0, 0, 1, 1, 1] (bd Tryz.f35))
                                                                (loopK nx (dead30 35 (4 * 0)) (dead30 35 (4 * 0 + 2)) (dead30 35 1000002) K))
                                                              (loopK nx (dead30 35 (4 * 0)) (dead30 35 (4 * 0 + 2)) (dead30 35 1000002) K)))
                                          else
                                            optK (ldV P30 4 x1 1 h15) fun v26 =>
                                              castV v26 fun b27 =>
                                                bif b27 then
                                                  optK (ldV P30 4 x1 8 h15) fun v28 =>
                                                    castV v28 fun b29 =>
                                                      jumpK
                                                        (jmp30 r n 35 1 (pc [1, 0, 1, 0, 0, 1, 1, 0, 0, 1, 1, 1] (bd Tryz.f35))
                                                          (E35_13 (Value.pointer (some { block := x1, off := 0 })) (Value.pointer (some { block := h.1, off := 0 }))
                                                            (Value.pointer (some { block := h5.1, off := 0 })) (Value.bool b29) (Value.slice x9 x9n x9s) (Value.int IntKind.i64 x10)
                                                            (Value.int IntKind.i64 x11))
                                                          h15)
                                                        (blockK 1
                                                          (seqK
                                                            (after P30 (ev30 r n) (jmp30 r n 35) (dead30 35) r 0 (pc [1, 0, 1, 0, 0, 1, 1, 1] (bd Tryz.f35))
                                                              (loopK nx (dead30 35 (4 * 0)) (dead30 35 (4 * 0 + 2)) (dead30 35 1000002) K))
                                                            (loopK nx (dead30 35 (4 * 0)) (dead30 35 (4 * 0 + 2)) (dead30 35 1000002) K)))
                                                else
                                                  jumpK
                                                    (jmp30 r n 35 1 (pc [1, 0, 1, 0, 0, 1, 1, 0, 0, 1, 1, 1] (bd Tryz.f35))
                                                      (E35_13 (Value.pointer (some { block := x1, off := 0 })) (Value.pointer (some { block := h.1, off := 0 }))
                                                        (Value.pointer (some { block := h5.1, off := 0 })) (Value.bool false) (Value.slice x9 x9n x9s) (Value.int IntKind.i64 x10)
                                                        (Value.int IntKind.i64 x11))
                                                      h15)
                                                    (blockK 1
                                                      (seqK
                                                        (after P30 (ev30 r n) (jmp30 r n 35) (dead30 35) r 0 (pc [1, 0, 1, 0, 0, 1, 1, 1] (bd Tryz.f35))
                                                          (loopK nx (dead30 35 (4 * 0)) (dead30 35 (4 * 0 + 2)) (dead30 35 1000002) K))
                                                        (loopK nx (dead30 35 (4 * 0)) (dead30 35 (4 * 0 + 2)) (dead30 35 1000002) K)))))
  else K (Exit.exit 0) E35_2 h := by kernel_rfl

theorem e35_0x0 (r n : Nat) (h : H) : (blockK 0 (seqK (after P30 (ev30 r n) (jmp30 r n 35) (dead30 35) r 0 (pc [1, 1] (bd Tryz.f35)) (finK P30 [.tmp 2])) (finK P30 [.tmp 2]))) (.exit 0) (E35_2) h =
  some (Value.bool true, h) := by kernel_rfl

theorem e35_0r (r n : Nat) (h : H) (x2 : Bool) : (blockK 0 (seqK (after P30 (ev30 r n) (jmp30 r n 35) (dead30 35) r 0 (pc [1, 1] (bd Tryz.f35)) (finK P30 [.tmp 2])) (finK P30 [.tmp 2]))) .ret (E35_r (.bool x2)) h =
  some (Value.bool x2, h) := by kernel_rfl

theorem e35_13c (r n : Nat) (h : H) (x1 : Nat) (x4 : Nat) (x5 : Nat) (x6 : Bool) (x9 : Option Addr) (x9n : Nat) (x9s : Nat) (x10 : Int) (x11 : Int) : jmp30 r (n + 1) 35 1 (pc [1, 0, 1, 0, 0, 1, 1, 0, 0, 1, 1, 1] (bd Tryz.f35)) (E35_13 (.pointer (some ⟨x1, 0, none⟩)) (.pointer (some ⟨x4, 0, none⟩)) (.pointer (some ⟨x5, 0, none⟩)) (.bool x6) (.slice x9 x9n x9s) (.int .i64 x10) (.int .i64 x11)) h =
  bif x6 then
    optK (ldV P30 63 x5 16 h) fun v0 =>
      castSl v0 fun _ o2 _ =>
        optK (ldV P30 63 x4 16 h) fun v4 =>
          castSl v4 fun _ o6 _ =>
            bif decide ((↑o2 : Int) > (↑o6 : Int)) then some (Exit.ret, E35_r (Value.bool false), h)
            else some (Exit.normal, E35_0 (Value.pointer (some { block := x1, off := 0 })) (Value.slice x9 x9n x9s) (Value.int IntKind.i64 x10) (Value.int IntKind.i64 x11), h)
  else some (Exit.normal, E35_0 (Value.pointer (some { block := x1, off := 0 })) (Value.slice x9 x9n x9s) (Value.int IntKind.i64 x10) (Value.int IntKind.i64 x11), h) := by kernel_rfl

theorem e35_13n (r n : Nat) (h : H) {R : Type} (x1 : Nat) (x9 : Option Addr) (x9n : Nat) (x9s : Nat) (x10 : Int) (x11 : Int) (nx : Env → H → Option R) (K : Exit → Env → H → Option R) : (blockK 1 (seqK (after P30 (ev30 r n) (jmp30 r n 35) (dead30 35) r 0 (pc [1, 0, 1, 0, 0, 1, 1, 1] (bd Tryz.f35)) (loopK nx (dead30 35 (4 * 0)) (dead30 35 (4 * 0 + 2)) (dead30 35 1000002) K)) (loopK nx (dead30 35 (4 * 0)) (dead30 35 (4 * 0 + 2)) (dead30 35 1000002) K))) .normal (E35_0 (.pointer (some ⟨x1, 0, none⟩)) (.slice x9 x9n x9s) (.int .i64 x10) (.int .i64 x11)) h =
  nx (E35_0 (Value.pointer (some { block := x1, off := 0 })) (Value.slice x9 x9n x9s) (Value.int IntKind.i64 x10) (Value.int IntKind.i64 (IntKind.i64.wrap (x11 + 1)))) h := by kernel_rfl

theorem e35_13r (r n : Nat) (h : H) {R : Type} (x2 : Bool) (nx : Env → H → Option R) (K : Exit → Env → H → Option R) : (blockK 1 (seqK (after P30 (ev30 r n) (jmp30 r n 35) (dead30 35) r 0 (pc [1, 0, 1, 0, 0, 1, 1, 1] (bd Tryz.f35)) (loopK nx (dead30 35 (4 * 0)) (dead30 35 (4 * 0 + 2)) (dead30 35 1000002) K)) (loopK nx (dead30 35 (4 * 0)) (dead30 35 (4 * 0 + 2)) (dead30 35 1000002) K))) .ret (E35_r (.bool x2)) h =
  K Exit.ret (E35_r (Value.bool x2)) h := by kernel_rfl

theorem e36 (r n : Nat) (h : H) (a0_0 : Int) (a0_1 : Bool) (a0_2 : Option Addr) (a0_2n : Nat) (a0_2s : Nat) (a0_3 : Option Addr) (a0_3n : Nat) (a0_3s : Nat) (a0_4 : Option Addr) (a0_4n : Nat) (a0_4s : Nat) (a0_5 : Option Addr) (a0_5n : Nat) (a0_5s : Nat) (a0_6 : Option Addr) (a0_6n : Nat) (a0_6s : Nat) (a1_0 : Int) (a1_1 : Bool) (a1_2 : Option Addr) (a1_2n : Nat) (a1_2s : Nat) (a1_3 : Option Addr) (a1_3n : Nat) (a1_3s : Nat) (a1_4 : Option Addr) (a1_4n : Nat) (a1_4s : Nat) (a1_5 : Option Addr) (a1_5n : Nat) (a1_5s : Nat) (a1_6 : Option Addr) (a1_6n : Nat) (a1_6s : Nat) (a2 : Int) (a3 : Int) : ev30 r (n + 1) 36 [.agg #[.int .i64 a0_0, .bool a0_1, .slice a0_2 a0_2n a0_2s, .slice a0_3 a0_3n a0_3s, .slice a0_4 a0_4n a0_4s, .slice a0_5 a0_5n a0_5s, .slice a0_6 a0_6n a0_6s], .agg #[.int .i64 a1_0, .bool a1_1, .slice a1_2 a1_2n a1_2s, .slice a1_3 a1_3n a1_3s, .slice a1_4 a1_4n a1_4s, .slice a1_5 a1_5n a1_5s, .slice a1_6 a1_6n a1_6s], .int .i64 a2, .int .i64 a3] h =
  jumpK
    (jmp30 r n 36 0 (pc [1] (bd Tryz.f36))
      (E36_3 (Value.int IntKind.i64 a2) (Value.int IntKind.i64 a3) (Value.pointer (some { block := h.1, off := 0 })) (Value.pointer (some { block := h.1 + 1, off := 0 })))
      ((h.new
            (Blk.cells
              [Value.int IntKind.i64 a0_0, Value.bool a0_1, Value.slice a0_2 a0_2n a0_2s, Value.slice a0_3 a0_3n a0_3s, Value.slice a0_4 a0_4n a0_4s, Value.slice a0_5 a0_5n a0_5s,
                Value.slice a0_6 a0_6n a0_6s]
              false)).new
        (Blk.cells
          [Value.int IntKind.i64 a1_0, Value.bool a1_1, Value.slice a1_2 a1_2n a1_2s, Value.slice a1_3 a1_3n a1_3s, Value.slice a1_4 a1_4n a1_4s, Value.slice a1_5 a1_5n a1_5s,
            Value.slice a1_6 a1_6n a1_6s]
          false)))
    (finK P30 [ResultVar.tmp 8]) := by kernel_rfl

theorem e36_3c (r n : Nat) (h : H) (x2 : Int) (x3 : Int) (x4 : Nat) (x5 : Nat) : jmp30 r (n + 1) 36 0 (pc [1] (bd Tryz.f36)) (E36_3 (.int .i64 x2) (.int .i64 x3) (.pointer (some ⟨x4, 0, none⟩)) (.pointer (some ⟨x5, 0, none⟩))) h =
  optK (ldV P30 42 x4 2 h) fun v0 =>
    castSl v0 fun a1 o2 o3 =>
      indexAddrA P30 42 (Value.slice a1 o2 o3) (Value.int IntKind.i64 x2) fun v4 =>
        addrK v4 fun o5 o6 =>
          optK (ldV P30 75 o5 o6 h) fun v7 =>
            castA v7 fun cs8 =>
              ifK (cellsOf P30 75 = some (Value.agg cs8).cells.size)
                (optK
                  (stCells
                    (h.new
                      (Blk.cells
                        [Value.string (txt []), Value.string (txt []), Value.string (txt []), Value.int IntKind.i64 0,
                          Value.int IntKind.i64 0, Value.int IntKind.i64 0, Value.int IntKind.i64 0, Value.int IntKind.i64 0, Value.int IntKind.i64 0, Value.int IntKind.i64 0, Value.int IntKind.i64 0,
                          Value.int IntKind.i64 0, Value.int IntKind.i64 0, Value.int IntKind.i64 0, Value.int IntKind.i64 0, Value.int IntKind.i64 0, Value.slice none 0 0]
                        false))
                    h.1 0 (Value.agg cs8).cells.toList)
                  fun h9 =>
                  optK (ldV P30 42 x5 2 h9) fun v10 =>
                    castSl v10 fun a11 o12 o13 =>
                      indexAddrA P30 42 (Value.slice a11 o12 o13) (Value.int IntKind.i64 x2) fun v14 =>
                        addrK v14 fun o15 o16 =>
                          optK (ldV P30 75 o15 o16 h9) fun v17 =>
                            castA v17 fun cs18 =>
                              ifK (cellsOf P30 75 = some (Value.agg cs18).cells.size)
                                (optK
                                  (stCells
                                    (h9.new
                                      (Blk.cells
                                        [Value.string (txt []), Value.string (txt []), Value.string (txt []), Value.int IntKind.i64 0,
                                          Value.int IntKind.i64 0, Value.int IntKind.i64 0, Value.int IntKind.i64 0, Value.int IntKind.i64 0, Value.int IntKind.i64 0, Value.int IntKind.i64 0,
                                          Value.int IntKind.i64 0, Value.int IntKind.i64 0, Value.int IntKind.i64 0, Value.int IntKind.i64 0, Value.int IntKind.i64 0, Value.int IntKind.i64 0,
                                          Value.slice none 0 0]
                                        false))
                                    h9.1 0 (Value.agg cs18).cells.toList)
                                  fun h19 =>
                                  bif x3 == 10 then
                                    optK (ldV P30 75 h.1 0 h19) fun v20 =>
                                      castA v20 fun cs21 =>
                                        optK (ldV P30 75 h9.1 0 h19) fun v22 =>
                                          castA v22 fun cs23 =>
                                            callK (ev30 r n) 66 [Value.agg cs21, Value.agg cs23] h19 fun v24 h25 =>
                                              castV v24 fun b26 => some (Exit.ret, E36_r (Value.bool b26), h25)
                                  else
                                    bif x3 == 11 then
                                      optK (ldV P30 3 h.1 4 h19) fun v27 =>
                                        castI IntKind.i64 v27 fun n28 =>
                                          bif decide (n28 > 4) then some (Exit.ret, E36_r (Value.bool true), h19)
                                          else
                                            optK (ldV P30 3 h9.1 4 h19) fun v29 =>
                                              castI IntKind.i64 v29 fun n30 =>
                                                bif decide (n30 > 4) then some (Exit.ret, E36_r (Value.bool true), h19)
                                                else
                                                  optK (ldV P30 3 h.1 6 h19) fun v31 =>
                                                    castI IntKind.i64 v31 fun n32 =>
                                                      optK (ldV P30 3 h9.1 6 h19) fun v33 =>
                                                        castI IntKind.i64 v33 fun n34 =>
                                                          bif n32 != n34 then some (Exit.ret, E36_r (Value.bool true), h19)
                                                          else
                                                            optK (ldV P30 3 h.1 7 h19) fun v35 =>
                                                              castI IntKind.i64 v35 fun n36 =>
                                                                optK (ldV P30 3 h9.1 7 h19) fun v37 =>
                                                                  castI IntKind.i64 v37 fun n38 =>
                                                                    bif n36 != n38 then some (Exit.ret, E36_r (Value.bool true), h19)
                                                                    else
                                                                      optK (ldV P30 3 h.1 9 h19) fun v39 =>
                                                                        castI IntKind.i64 v39 fun n40 =>
                                                                          optK (ldV P30 3 h9.1 9 h19) fun v41 =>
                                                                            castI IntKind.i64 v41 fun n42 =>
                                                                              bif n40 != n42 then some (Exit.ret, E36_r (Value.bool true), h19)
                                                                              else
                                                                                optK (ldV P30 3 h.1 12 h19) fun v43 =>
                                                                                  castI IntKind.i64 v43 fun n44 =>
                                                                                    optK (ldV P30 3 h9.1 12 h19) fun v45 =>
                                                                                      castI IntKind.i64 v45 fun n46 =>
                                                                                        bif n44 != n46 then some (Exit.ret, E36_r (Value.bool true), h19)
                                                                                        else
                                                                                          jumpK
                                                                                            (jmp30 r n 36 0 (pc [1, 1, 1, 0, 1, 0, 1, 1, 1, 0, 1] (bd Tryz.f36))
                                                                                              (E36_19 (Value.int IntKind.i64 x2) (Value.pointer (some { block := x4, off := 0 }))
                                                                                                (Value.pointer (some { block := x5, off := 0 })))
                                                                                              h19)
                                                                                            (blockK 0
                                                                                              (seqK
                                                                                                (after P30 (ev30 r n) (jmp30 r n 36) (dead30 36) r 0
                                                                                                  (pc [1, 1, 1, 1] (bd Tryz.f36)) (outK (dead30 36) (key (pc [1] (bd Tryz.f36)))))
                                                                                                (outK (dead30 36) (key (pc [1] (bd Tryz.f36))))))
                                    else
                                      jumpK
                                        (jmp30 r n 36 0 (pc [1, 1, 1, 1] (bd Tryz.f36))
                                          (E36_21 (Value.pointer (some { block := x4, off := 0 })) (Value.pointer (some { block := x5, off := 0 })) (Value.pointer (some { block := h.1, off := 0 }))
                                            (Value.pointer (some { block := h9.1, off := 0 })))
                                          h19)
                                        (outK (dead30 36) (key (pc [1] (bd Tryz.f36)))))) := by kernel_rfl

theorem e36_3r (h : H) (x8 : Bool) : (finK P30 [.tmp 8]) .ret (E36_r (.bool x8)) h =
  some (Value.bool x8, h) := by kernel_rfl

theorem e36_19c (r n : Nat) (h : H) (x2 : Int) (x4 : Nat) (x5 : Nat) : jmp30 r (n + 1) 36 0 (pc [1, 1, 1, 0, 1, 0, 1, 1, 1, 0, 1] (bd Tryz.f36)) (E36_19 (.int .i64 x2) (.pointer (some ⟨x4, 0, none⟩)) (.pointer (some ⟨x5, 0, none⟩))) h =
  optK (ldV P30 28 x4 5 h) fun v0 =>
    castSl v0 fun a1 o2 o3 =>
      indexAddrA P30 28 (Value.slice a1 o2 o3) (Value.int IntKind.i64 x2) fun v4 =>
        addrK v4 fun o5 o6 =>
          optK (ldV P30 3 o5 o6 h) fun v7 =>
            castI IntKind.i64 v7 fun n8 =>
              optK (ldV P30 28 x5 5 h) fun v9 =>
                castSl v9 fun a10 o11 o12 =>
                  indexAddrA P30 28 (Value.slice a10 o11 o12) (Value.int IntKind.i64 x2) fun v13 =>
                    addrK v13 fun o14 o15 => optK (ldV P30 3 o14 o15 h) fun v16 => castI IntKind.i64 v16 fun n17 => some (Exit.ret, E36_r (Value.bool (n8 == n17)), h) := by kernel_rfl

theorem e36_19r (r n : Nat) (h : H) (x8 : Bool) : (blockK 0 (seqK (after P30 (ev30 r n) (jmp30 r n 36) (dead30 36) r 0 (pc [1, 1, 1, 1] (bd Tryz.f36)) (outK (dead30 36) (key (pc [1] (bd Tryz.f36))))) (outK (dead30 36) (key (pc [1] (bd Tryz.f36)))))) .ret (E36_r (.bool x8)) h =
  some (Exit.ret, E36_r (Value.bool x8), h) := by kernel_rfl

theorem e36_21c (r n : Nat) (h : H) (x4 : Nat) (x5 : Nat) (x9 : Nat) (x10 : Nat) : jmp30 r (n + 1) 36 0 (pc [1, 1, 1, 1] (bd Tryz.f36)) (E36_21 (.pointer (some ⟨x4, 0, none⟩)) (.pointer (some ⟨x5, 0, none⟩)) (.pointer (some ⟨x9, 0, none⟩)) (.pointer (some ⟨x10, 0, none⟩))) h =
  optK (ldV P30 3 x9 4 h) fun v0 =>
    castI IntKind.i64 v0 fun n1 =>
      bif decide (n1 > 4) then
        optK (ldV P30 73 x10 16 h) fun v2 =>
          castSl v2 fun _ o4 _ => optK (ldV P30 73 x9 16 h) fun v6 => castSl v6 fun _ o8 _ => some (Exit.ret, E36_r (Value.bool (decide ((↑o4 : Int) ≤ (↑o8 : Int)))), h)
      else
        optK (ldV P30 3 x9 4 h) fun v10 =>
          castI IntKind.i64 v10 fun n11 =>
            bif n11 != 1 then
              optK (ldV P30 3 x10 4 h) fun v12 =>
                castI IntKind.i64 v12 fun n13 =>
                  bif n13 != 1 then
                    optK (ldV P30 73 x10 16 h) fun v14 =>
                      castSl v14 fun _ o16 _ => optK (ldV P30 73 x9 16 h) fun v18 => castSl v18 fun _ o20 _ => some (Exit.ret, E36_r (Value.bool (decide ((↑o16 : Int) ≤ (↑o20 : Int)))), h)
                  else
                    optK (ldV P30 4 x4 1 h) fun v22 =>
                      castV v22 fun b23 =>
                        bif b23 then
                          optK (ldV P30 4 x5 1 h) fun v24 =>
                            castV v24 fun b25 =>
                              bif b25 then
                                optK (ldV P30 73 x10 16 h) fun v26 =>
                                  castSl v26 fun _ o28 _ =>
                                    optK (ldV P30 73 x9 16 h) fun v30 => castSl v30 fun _ o32 _ => some (Exit.ret, E36_r (Value.bool (decide ((↑o28 : Int) ≤ (↑o32 : Int)))), h)
                              else some (Exit.ret, E36_r (Value.bool true), h)
                        else some (Exit.ret, E36_r (Value.bool true), h)
            else
              optK (ldV P30 4 x4 1 h) fun v34 =>
                castV v34 fun b35 =>
                  bif b35 then
                    optK (ldV P30 4 x5 1 h) fun v36 =>
                      castV v36 fun b37 =>
                        bif b37 then
                          optK (ldV P30 73 x10 16 h) fun v38 =>
                            castSl v38 fun _ o40 _ => optK (ldV P30 73 x9 16 h) fun v42 => castSl v42 fun _ o44 _ => some (Exit.ret, E36_r (Value.bool (decide ((↑o40 : Int) ≤ (↑o44 : Int)))), h)
                        else some (Exit.ret, E36_r (Value.bool true), h)
                  else some (Exit.ret, E36_r (Value.bool true), h) := by kernel_rfl

theorem e36_21r (h : H) (x8 : Bool) : (outK (dead30 36) (key (pc [1] (bd Tryz.f36)))) .ret (E36_r (.bool x8)) h =
  some (Exit.ret, E36_r (Value.bool x8), h) := by kernel_rfl

theorem e52 (r n : Nat) (h : H) (a0 : Int) (a1 : Option Addr) (a1n : Nat) (a1s : Nat) : ev30 r (n + 1) 52 [.int .i64 a0, .slice a1 a1n a1s] h =
  evLoop (evCode P30 (ev30 r n) (jmp30 r n 52) (dead30 52) r 0 (pc [1, 0, 1, 0, 0] (bd Tryz.f52))) (dead30 52 (4 * 0)) (dead30 52 (4 * 0 + 2))
    (dead30 52 1000002) r (E52_0 (Value.int IntKind.i64 a0) (Value.slice a1 a1n a1s) (Value.int IntKind.i64 (↑a1n : Int)) (Value.int IntKind.i64 0)) h
    (blockK 0
      (seqK (after P30 (ev30 r n) (jmp30 r n 52) (dead30 52) r 0 (pc [1, 1] (bd Tryz.f52)) (finK P30 [ResultVar.tmp 4])) (finK P30 [ResultVar.tmp 4]))) := by kernel_rfl

theorem e52_0 (r n : Nat) (h : H) {R : Type} (x0 : Int) (x7 : Option Addr) (x7n : Nat) (x7s : Nat) (x8 : Int) (x9 : Int) (nx : Env → H → Option R) (K : Exit → Env → H → Option R) : evCode P30 (ev30 r n) (jmp30 r n 52) (dead30 52) r 0 (pc [1, 0, 1, 0, 0] (bd Tryz.f52)) (E52_0 (.int .i64 x0) (.slice x7 x7n x7s) (.int .i64 x8) (.int .i64 x9)) h (loopK nx (dead30 52 (4 * 0)) (dead30 52 (4 * 0 + 2)) (dead30 52 1000002) K) =
  bif decide (x9 < x8) then
    indexAddrA P30 28 (Value.slice x7 x7n x7s) (Value.int IntKind.i64 x9) fun v0 =>
      addrK v0 fun o1 o2 =>
        optK (ldV P30 3 o1 o2 h) fun v3 =>
          castI IntKind.i64 v3 fun n4 =>
            bif decide (n4 < x0) then K Exit.ret (E52_r (Value.bool false)) h
            else nx (E52_0 (Value.int IntKind.i64 x0) (Value.slice x7 x7n x7s) (Value.int IntKind.i64 x8) (Value.int IntKind.i64 (IntKind.i64.wrap (x9 + 1)))) h
  else K (Exit.exit 0) E52_2 h := by kernel_rfl

theorem e52_0x0 (r n : Nat) (h : H) : (blockK 0 (seqK (after P30 (ev30 r n) (jmp30 r n 52) (dead30 52) r 0 (pc [1, 1] (bd Tryz.f52)) (finK P30 [.tmp 4])) (finK P30 [.tmp 4]))) (.exit 0) (E52_2) h =
  some (Value.bool true, h) := by kernel_rfl

theorem e52_0r (r n : Nat) (h : H) (x4 : Bool) : (blockK 0 (seqK (after P30 (ev30 r n) (jmp30 r n 52) (dead30 52) r 0 (pc [1, 1] (bd Tryz.f52)) (finK P30 [.tmp 4])) (finK P30 [.tmp 4]))) .ret (E52_r (.bool x4)) h =
  some (Value.bool x4, h) := by kernel_rfl

theorem e53 (r n : Nat) (h : H) (a0_0 : Option Addr) (a0_0n : Nat) (a0_0s : Nat) (a0_1 : Option Addr) (a0_1n : Nat) (a0_1s : Nat) (a0_2 : Option Addr) (a0_2n : Nat) (a0_2s : Nat) (a0_3 : Int) (a0_4 : Int) (a0_5 : Int) (a0_6 : Int) (a0_7 : Int) (a0_8 : Int) (a1 : ByteArray) : ev30 r (n + 1) 53 [.agg #[.slice a0_0 a0_0n a0_0s, .slice a0_1 a0_1n a0_1s, .slice a0_2 a0_2n a0_2s, .int .i64 a0_3, .int .i64 a0_4, .int .i64 a0_5, .int .i64 a0_6, .int .i64 a0_7, .int .i64 a0_8], .string a1] h =
  jumpK
    (jmp30 r n 53 0 (pc [1] (bd Tryz.f53)) (E53_3 (Value.string a1) (Value.pointer (some { block := h.1, off := 0 })))
      (h.new
        (Blk.cells
          [Value.slice a0_0 a0_0n a0_0s, Value.slice a0_1 a0_1n a0_1s, Value.slice a0_2 a0_2n a0_2s, Value.int IntKind.i64 a0_3, Value.int IntKind.i64 a0_4, Value.int IntKind.i64 a0_5,
            Value.int IntKind.i64 a0_6, Value.int IntKind.i64 a0_7, Value.int IntKind.i64 a0_8]
          false)))
    (finK P30 [ResultVar.tmp 4]) := by kernel_rfl

theorem e53_3c (r n : Nat) (h : H) (x1 : ByteArray) (x2 : Nat) : jmp30 r (n + 1) 53 0 (pc [1] (bd Tryz.f53)) (E53_3 (.string x1) (.pointer (some ⟨x2, 0, none⟩))) h =
  optK (ldV P30 22 x2 0 h) fun v0 =>
    castSl v0 fun a1 o2 o3 =>
      evLoop (evCode P30 (ev30 r n) (jmp30 r n 53) (dead30 53) r 0 (pc [1, 0, 1, 0, 0] (bd Tryz.f53))) (dead30 53 (4 * 0)) (dead30 53 (4 * 0 + 2))
        (dead30 53 1000002) r (E53_0 (Value.string x1) (Value.slice a1 o2 o3) (Value.int IntKind.i64 (↑o2 : Int)) (Value.int IntKind.i64 0)) h
        (blockK 0
          (seqK (after P30 (ev30 r n) (jmp30 r n 53) (dead30 53) r 0 (pc [1, 1] (bd Tryz.f53)) (outK (dead30 53) (key (pc [1] (bd Tryz.f53)))))
            (outK (dead30 53) (key (pc [1] (bd Tryz.f53)))))) := by kernel_rfl

theorem e53_3r (h : H) (x4 : Int) : (finK P30 [.tmp 4]) .ret (E53_r (.int .i64 x4)) h =
  some (Value.int IntKind.i64 x4, h) := by kernel_rfl

theorem e53_0 (r n : Nat) (h : H) {R : Type} (x1 : ByteArray) (x8 : Option Addr) (x8n : Nat) (x8s : Nat) (x9 : Int) (x10 : Int) (nx : Env → H → Option R) (K : Exit → Env → H → Option R) : evCode P30 (ev30 r n) (jmp30 r n 53) (dead30 53) r 0 (pc [1, 0, 1, 0, 0] (bd Tryz.f53)) (E53_0 (.string x1) (.slice x8 x8n x8s) (.int .i64 x9) (.int .i64 x10)) h (loopK nx (dead30 53 (4 * 0)) (dead30 53 (4 * 0 + 2)) (dead30 53 1000002) K) =
  bif decide (x10 < x9) then
    indexAddrA P30 22 (Value.slice x8 x8n x8s) (Value.int IntKind.i64 x10) fun v0 =>
      addrK v0 fun o1 o2 =>
        optK (ldV P30 58 o1 o2 h) fun v3 =>
          castA v3 fun cs4 =>
            ifK (cellsOf P30 58 = some (Value.agg cs4).cells.size)
              (optK (stCells (h.new (Blk.cells [Value.string (txt []), Value.int IntKind.i64 0] false)) h.1 0 (Value.agg cs4).cells.toList) fun h5 =>
                optK (ldV P30 9 h.1 0 h5) fun v6 =>
                  castS v6 fun s7 =>
                    bif s7.toList == x1.toList then K Exit.ret (E53_r (Value.int IntKind.i64 x10)) h5
                    else nx (E53_0 (Value.string x1) (Value.slice x8 x8n x8s) (Value.int IntKind.i64 x9) (Value.int IntKind.i64 (IntKind.i64.wrap (x10 + 1)))) h5)
  else K (Exit.exit 0) E53_2 h := by kernel_rfl

theorem e53_0x0 (r n : Nat) (h : H) : (blockK 0 (seqK (after P30 (ev30 r n) (jmp30 r n 53) (dead30 53) r 0 (pc [1, 1] (bd Tryz.f53)) (outK (dead30 53) (key (pc [1] (bd Tryz.f53))))) (outK (dead30 53) (key (pc [1] (bd Tryz.f53)))))) (.exit 0) (E53_2) h =
  some (Exit.ret, E53_r (Value.int IntKind.i64 (-1)), h) := by kernel_rfl

theorem e53_0r (r n : Nat) (h : H) (x4 : Int) : (blockK 0 (seqK (after P30 (ev30 r n) (jmp30 r n 53) (dead30 53) r 0 (pc [1, 1] (bd Tryz.f53)) (outK (dead30 53) (key (pc [1] (bd Tryz.f53))))) (outK (dead30 53) (key (pc [1] (bd Tryz.f53)))))) .ret (E53_r (.int .i64 x4)) h =
  some (Exit.ret, E53_r (Value.int IntKind.i64 x4), h) := by kernel_rfl

theorem e54 (r n : Nat) (h : H) (a0_0 : ByteArray) (a0_1 : ByteArray) (a0_2 : Int) (a0_3 : Int) (a0_4 : Int) (a0_5 : Int) (a0_6 : Int) (a0_7 : Int) (a0_8 : Int) (a0_9 : Int) : ev30 r (n + 1) 54 [.agg #[.string a0_0, .string a0_1, .int .i64 a0_2, .int .i64 a0_3, .int .i64 a0_4, .int .i64 a0_5, .int .i64 a0_6, .int .i64 a0_7, .int .i64 a0_8, .int .i64 a0_9]] h =
  jumpK
    (jmp30 r n 54 0 (pc [1] (bd Tryz.f54)) (E54_3 (Value.pointer (some { block := h.1, off := 0 })))
      (h.new
        (Blk.cells
          [Value.string a0_0, Value.string a0_1, Value.int IntKind.i64 a0_2, Value.int IntKind.i64 a0_3, Value.int IntKind.i64 a0_4, Value.int IntKind.i64 a0_5, Value.int IntKind.i64 a0_6,
            Value.int IntKind.i64 a0_7, Value.int IntKind.i64 a0_8, Value.int IntKind.i64 a0_9]
          false)))
    (finK P30 [ResultVar.tmp 2, ResultVar.tmp 3]) := by kernel_rfl

theorem e54_3c (r n : Nat) (h : H) (x1 : Nat) : jmp30 r (n + 1) 54 0 (pc [1] (bd Tryz.f54)) (E54_3 (.pointer (some ⟨x1, 0, none⟩))) h =
  optK (ldV P30 3 x1 8 h) fun v0 =>
    castI IntKind.i64 v0 fun n1 =>
      bif decide (n1 < 0) then some (Exit.ret, E54_r (Value.int IntKind.i64 0) (Value.bool false), h)
      else
        optK (ldV P30 3 x1 3 h) fun v2 =>
          castI IntKind.i64 v2 fun n3 =>
            callK (ev30 r n) 88 [Value.int IntKind.i64 n3] h fun v4 h5 =>
              castV v4 fun b6 =>
                bif !b6 then some (Exit.ret, E54_r (Value.int IntKind.i64 0) (Value.bool true), h5)
                else
                  optK (ldV P30 3 x1 4 h5) fun v7 =>
                    castI IntKind.i64 v7 fun n8 =>
                      optK (ldV P30 3 x1 3 h5) fun v9 =>
                        castI IntKind.i64 v9 fun n10 =>
                          bif n10 == 5 then
                            optK (ldV P30 3 x1 6 h5) fun v11 =>
                              castI IntKind.i64 v11 fun n12 =>
                                jumpK
                                  (jmp30 r n 54 0 (pc [1, 1, 1, 1, 1] (bd Tryz.f54))
                                    (E54_17 (Value.pointer (some { block := x1, off := 0 })) (Value.int IntKind.i64 (if n12 > n8 then n12 else n8))) h5)
                                  (outK (dead30 54) (key (pc [1] (bd Tryz.f54))))
                          else
                            jumpK (jmp30 r n 54 0 (pc [1, 1, 1, 1, 1] (bd Tryz.f54)) (E54_17 (Value.pointer (some { block := x1, off := 0 })) (Value.int IntKind.i64 n8)) h5)
                              (outK (dead30 54) (key (pc [1] (bd Tryz.f54)))) := by kernel_rfl

theorem e54_3r (h : H) (x2 : Int) (x3 : Bool) : (finK P30 [.tmp 2, .tmp 3]) .ret (E54_r (.int .i64 x2) (.bool x3)) h =
  some (Value.tuple { toList := [Value.int IntKind.i64 x2, Value.bool x3] }, h) := by kernel_rfl

theorem e54_17c (r n : Nat) (h : H) (x1 : Nat) (x4 : Int) : jmp30 r (n + 1) 54 0 (pc [1, 1, 1, 1, 1] (bd Tryz.f54)) (E54_17 (.pointer (some ⟨x1, 0, none⟩)) (.int .i64 x4)) h =
  optK (ldV P30 3 x1 8 h) fun v0 =>
    castI IntKind.i64 v0 fun n1 =>
      optK (ldV P30 3 x1 8 h) fun v2 => castI IntKind.i64 v2 fun n3 => some (Exit.ret, E54_r (Value.int IntKind.i64 (IntKind.i64.wrap (x4 - n1))) (Value.bool (decide (x4 ≥ n3))), h) := by kernel_rfl

theorem e54_17r (h : H) (x2 : Int) (x3 : Bool) : (outK (dead30 54) (key (pc [1] (bd Tryz.f54)))) .ret (E54_r (.int .i64 x2) (.bool x3)) h =
  some (Exit.ret, E54_r (Value.int IntKind.i64 x2) (Value.bool x3), h) := by kernel_rfl

theorem e55 (r n : Nat) (h : H) (a0 : Int) (a1 : Option Addr) (a1n : Nat) (a1s : Nat) : ev30 r (n + 1) 55 [.int .i64 a0, .slice a1 a1n a1s] h =
  callK (ev30 r n) 56 [Value.slice a1 a1n a1s] h fun v0 h1 =>
    castTup v0 fun l2 =>
      headK l2 fun v3 l4 =>
        castI IntKind.i64 v3 fun n5 => headK l4 fun v6 l7 => castI IntKind.i64 v6 fun n8 => nilK l7 fun _ => bif n8 == 0 then some (Value.bool (n5 == a0), h1) else some (Value.bool false, h1) := by kernel_rfl

theorem e56 (r n : Nat) (h : H) (a0 : Option Addr) (a0n : Nat) (a0s : Nat) : ev30 r (n + 1) 56 [.slice a0 a0n a0s] h =
  evLoop (evCode P30 (ev30 r n) (jmp30 r n 56) (dead30 56) r 0 (pc [1, 1, 0, 1, 0, 0] (bd Tryz.f56))) (dead30 56 (4 * 0)) (dead30 56 (4 * 0 + 2))
    (dead30 56 1000002) r (E56_0 (Value.pointer (some { block := h.1, off := 0 })) (Value.slice a0 a0n a0s) (Value.int IntKind.i64 (↑a0n : Int)) (Value.int IntKind.i64 0))
    (h.new (Blk.cells [Value.int IntKind.u64 0, Value.int IntKind.u64 0, Value.int IntKind.u64 0, Value.int IntKind.u64 0] false))
    (blockK 0
      (seqK (after P30 (ev30 r n) (jmp30 r n 56) (dead30 56) r 0 (pc [1, 1, 1] (bd Tryz.f56)) (finK P30 [ResultVar.tmp 2, ResultVar.tmp 3]))
        (finK P30 [ResultVar.tmp 2, ResultVar.tmp 3]))) := by kernel_rfl

theorem e56_0 (r n : Nat) (h : H) {R : Type} (x4 : Nat) (x7 : Option Addr) (x7n : Nat) (x7s : Nat) (x8 : Int) (x9 : Int) (nx : Env → H → Option R) (K : Exit → Env → H → Option R) : evCode P30 (ev30 r n) (jmp30 r n 56) (dead30 56) r 0 (pc [1, 1, 0, 1, 0, 0] (bd Tryz.f56)) (E56_0 (.pointer (some ⟨x4, 0, none⟩)) (.slice x7 x7n x7s) (.int .i64 x8) (.int .i64 x9)) h (loopK nx (dead30 56 (4 * 0)) (dead30 56 (4 * 0 + 2)) (dead30 56 1000002) K) =
  bif decide (x9 < x8) then
    indexAddrA P30 28 (Value.slice x7 x7n x7s) (Value.int IntKind.i64 x9) fun v0 =>
      addrK v0 fun o1 o2 =>
        optK (ldV P30 3 o1 o2 h) fun v3 =>
          castI IntKind.i64 v3 fun n4 =>
            optK (ldV P30 207 x4 0 h) fun v5 =>
              castA v5 fun cs6 =>
                callK (ev30 r n) 89 [Value.agg cs6, Value.iface 3 (Value.int IntKind.i64 n4)] h fun v7 h8 =>
                  castA v7 fun cs9 =>
                    ifK (cellsOf P30 207 = some (Value.agg cs9).cells.size)
                      (optK (stCells h8 x4 0 (Value.agg cs9).cells.toList) fun h10 =>
                        nx (E56_0 (Value.pointer (some { block := x4, off := 0 })) (Value.slice x7 x7n x7s) (Value.int IntKind.i64 x8) (Value.int IntKind.i64 (IntKind.i64.wrap (x9 + 1)))) h10)
  else K (Exit.exit 0) (E56_2 (Value.pointer (some { block := x4, off := 0 }))) h := by kernel_rfl

theorem e56_0x0 (r n : Nat) (h : H) (x4 : Nat) : (blockK 0 (seqK (after P30 (ev30 r n) (jmp30 r n 56) (dead30 56) r 0 (pc [1, 1, 1] (bd Tryz.f56)) (finK P30 [.tmp 2, .tmp 3])) (finK P30 [.tmp 2, .tmp 3]))) (.exit 0) (E56_2 (.pointer (some ⟨x4, 0, none⟩))) h =
  optK (ldV P30 205 x4 0 h) fun v0 =>
    castA v0 fun cs1 =>
      optK (ldV P30 205 x4 2 h) fun v2 =>
        castA v2 fun cs3 =>
          callK (ev30 r n) 90 [Value.agg cs1, Value.agg cs3] h fun v4 h5 =>
            castV v4 fun b6 =>
              bif b6 then
                optK (ldV P30 205 x4 2 h5) fun v7 =>
                  castA v7 fun cs8 =>
                    optK (ldV P30 205 x4 0 h5) fun v9 =>
                      castA v9 fun cs10 =>
                        callK (ev30 r n) 91 [Value.agg cs8, Value.agg cs10] h5 fun v11 h12 =>
                          castA v11 fun cs13 =>
                            callK (ev30 r n) 92 [Value.agg cs13, Value.bool true] h12 fun v14 h15 =>
                              castTup v14 fun l16 =>
                                headK l16 fun v17 l18 =>
                                  castI IntKind.i64 v17 fun n19 =>
                                    headK l18 fun v20 l21 =>
                                      castI IntKind.i64 v20 fun n22 => nilK l21 fun _ => some (Value.tuple { toList := [Value.int IntKind.i64 n19, Value.int IntKind.i64 n22] }, h15)
              else
                optK (ldV P30 205 x4 0 h5) fun v24 =>
                  castA v24 fun cs25 =>
                    optK (ldV P30 205 x4 2 h5) fun v26 =>
                      castA v26 fun cs27 =>
                        callK (ev30 r n) 91 [Value.agg cs25, Value.agg cs27] h5 fun v28 h29 =>
                          castA v28 fun cs30 =>
                            callK (ev30 r n) 92 [Value.agg cs30, Value.bool false] h29 fun v31 h32 =>
                              castTup v31 fun l33 =>
                                headK l33 fun v34 l35 =>
                                  castI IntKind.i64 v34 fun n36 =>
                                    headK l35 fun v37 l38 =>
                                      castI IntKind.i64 v37 fun n39 => nilK l38 fun _ => some (Value.tuple { toList := [Value.int IntKind.i64 n36, Value.int IntKind.i64 n39] }, h32) := by kernel_rfl

theorem e57 (r n : Nat) (h : H) (a0 : Option Addr) (a0n : Nat) (a0s : Nat) : ev30 r (n + 1) 57 [.slice a0 a0n a0s] h =
  evLoop (evCode P30 (ev30 r n) (jmp30 r n 57) (dead30 57) r 0 (pc [1, 0, 1, 0, 0] (bd Tryz.f57))) (dead30 57 (4 * 0)) (dead30 57 (4 * 0 + 2))
    (dead30 57 1000002) r (E57_0 (Value.slice a0 a0n a0s) (Value.int IntKind.i64 0)) h
    (blockK 0
      (seqK (after P30 (ev30 r n) (jmp30 r n 57) (dead30 57) r 0 (pc [1, 1] (bd Tryz.f57)) (finK P30 [ResultVar.tmp 2])) (finK P30 [ResultVar.tmp 2]))) := by kernel_rfl

theorem e57_0 (r n : Nat) (h : H) {R : Type} (x0 : Option Addr) (x0n : Nat) (x0s : Nat) (x3 : Int) (nx : Env → H → Option R) (K : Exit → Env → H → Option R) : evCode P30 (ev30 r n) (jmp30 r n 57) (dead30 57) r 0 (pc [1, 0, 1, 0, 0] (bd Tryz.f57)) (E57_0 (.slice x0 x0n x0s) (.int .i64 x3)) h (loopK nx (dead30 57 (4 * 0)) (dead30 57 (4 * 0 + 2)) (dead30 57 1000002) K) =
  bif decide (x3 < (↑x0n : Int)) then
    indexAddrA P30 28 (Value.slice x0 x0n x0s) (Value.int IntKind.i64 x3) fun v0 =>
      addrK v0 fun o1 o2 =>
        optK (ldV P30 3 o1 o2 h) fun v3 =>
          castI IntKind.i64 v3 fun n4 => bif decide (n4 < 0) then K Exit.ret (E57_r (Value.bool true)) h else nx (E57_0 (Value.slice x0 x0n x0s) (Value.int IntKind.i64 (IntKind.i64.wrap (x3 + 1)))) h
  else K (Exit.exit 0) E57_2 h := by kernel_rfl

theorem e57_0x0 (r n : Nat) (h : H) : (blockK 0 (seqK (after P30 (ev30 r n) (jmp30 r n 57) (dead30 57) r 0 (pc [1, 1] (bd Tryz.f57)) (finK P30 [.tmp 2])) (finK P30 [.tmp 2]))) (.exit 0) (E57_2) h =
  some (Value.bool false, h) := by kernel_rfl

theorem e57_0r (r n : Nat) (h : H) (x2 : Bool) : (blockK 0 (seqK (after P30 (ev30 r n) (jmp30 r n 57) (dead30 57) r 0 (pc [1, 1] (bd Tryz.f57)) (finK P30 [.tmp 2])) (finK P30 [.tmp 2]))) .ret (E57_r (.bool x2)) h =
  some (Value.bool x2, h) := by kernel_rfl

theorem e58 (r n : Nat) (h : H) (a0 : Option Addr) (a0n : Nat) (a0s : Nat) (a1 : ByteArray) : ev30 r (n + 1) 58 [.slice a0 a0n a0s, .string a1] h =
  evLoop (evCode P30 (ev30 r n) (jmp30 r n 58) (dead30 58) r 0 (pc [1, 0, 1, 0, 0] (bd Tryz.f58))) (dead30 58 (4 * 0)) (dead30 58 (4 * 0 + 2))
    (dead30 58 1000002) r (E58_0 (Value.slice a0 a0n a0s) (Value.string a1) (Value.int IntKind.i64 0)) h
    (blockK 0
      (seqK (after P30 (ev30 r n) (jmp30 r n 58) (dead30 58) r 0 (pc [1, 1] (bd Tryz.f58)) (finK P30 [ResultVar.tmp 4])) (finK P30 [ResultVar.tmp 4]))) := by kernel_rfl

theorem e58_0 (r n : Nat) (h : H) {R : Type} (x0 : Option Addr) (x0n : Nat) (x0s : Nat) (x1 : ByteArray) (x5 : Int) (nx : Env → H → Option R) (K : Exit → Env → H → Option R) : evCode P30 (ev30 r n) (jmp30 r n 58) (dead30 58) r 0 (pc [1, 0, 1, 0, 0] (bd Tryz.f58)) (E58_0 (.slice x0 x0n x0s) (.string x1) (.int .i64 x5)) h (loopK nx (dead30 58 (4 * 0)) (dead30 58 (4 * 0 + 2)) (dead30 58 1000002) K) =
  bif decide (x5 < (↑x0n : Int)) then
    indexAddrA P30 83 (Value.slice x0 x0n x0s) (Value.int IntKind.i64 x5) fun v0 =>
      addrK v0 fun o1 o2 =>
        optK (ldV P30 9 o1 o2 h) fun v3 =>
          castS v3 fun s4 =>
            bif s4.toList == x1.toList then K Exit.ret (E58_r (Value.int IntKind.i64 x5)) h
            else nx (E58_0 (Value.slice x0 x0n x0s) (Value.string x1) (Value.int IntKind.i64 (IntKind.i64.wrap (x5 + 1)))) h
  else K (Exit.exit 0) E58_2 h := by kernel_rfl

theorem e58_0x0 (r n : Nat) (h : H) : (blockK 0 (seqK (after P30 (ev30 r n) (jmp30 r n 58) (dead30 58) r 0 (pc [1, 1] (bd Tryz.f58)) (finK P30 [.tmp 4])) (finK P30 [.tmp 4]))) (.exit 0) (E58_2) h =
  some (Value.int IntKind.i64 (-1), h) := by kernel_rfl

theorem e58_0r (r n : Nat) (h : H) (x4 : Int) : (blockK 0 (seqK (after P30 (ev30 r n) (jmp30 r n 58) (dead30 58) r 0 (pc [1, 1] (bd Tryz.f58)) (finK P30 [.tmp 4])) (finK P30 [.tmp 4]))) .ret (E58_r (.int .i64 x4)) h =
  some (Value.int IntKind.i64 x4, h) := by kernel_rfl

theorem e59 (r n : Nat) (h : H) (a0_0 : Option Addr) (a0_0n : Nat) (a0_0s : Nat) (a0_1 : Option Addr) (a0_1n : Nat) (a0_1s : Nat) (a0_2 : Option Addr) (a0_2n : Nat) (a0_2s : Nat) (a0_3 : Int) (a0_4 : Int) (a0_5 : Int) (a0_6 : Int) (a0_7 : Int) (a0_8 : Int) : ev30 r (n + 1) 59 [.agg #[.slice a0_0 a0_0n a0_0s, .slice a0_1 a0_1n a0_1s, .slice a0_2 a0_2n a0_2s, .int .i64 a0_3, .int .i64 a0_4, .int .i64 a0_5, .int .i64 a0_6, .int .i64 a0_7, .int .i64 a0_8]] h =
  jumpK
    (jmp30 r n 59 0 (pc [1] (bd Tryz.f59)) (E59_3 (Value.pointer (some { block := h.1, off := 0 })))
      (h.new
        (Blk.cells
          [Value.slice a0_0 a0_0n a0_0s, Value.slice a0_1 a0_1n a0_1s, Value.slice a0_2 a0_2n a0_2s, Value.int IntKind.i64 a0_3, Value.int IntKind.i64 a0_4, Value.int IntKind.i64 a0_5,
            Value.int IntKind.i64 a0_6, Value.int IntKind.i64 a0_7, Value.int IntKind.i64 a0_8]
          false)))
    (finK P30 [ResultVar.tmp 2]) := by kernel_rfl

theorem e59_3c (r n : Nat) (h : H) (x1 : Nat) : jmp30 r (n + 1) 59 0 (pc [1] (bd Tryz.f59)) (E59_3 (.pointer (some ⟨x1, 0, none⟩))) h =
  evLoop (evCode P30 (ev30 r n) (jmp30 r n 59) (dead30 59) r 0 (pc [1, 1, 0, 1, 0, 0] (bd Tryz.f59))) (dead30 59 (4 * 0)) (dead30 59 (4 * 0 + 2))
    (dead30 59 1000002) r (E59_0 (Value.pointer (some { block := x1, off := 0 })) (Value.slice none 0 0) (Value.int IntKind.i64 0)) h
    (blockK 0
      (seqK (after P30 (ev30 r n) (jmp30 r n 59) (dead30 59) r 0 (pc [1, 1, 1] (bd Tryz.f59)) (outK (dead30 59) (key (pc [1] (bd Tryz.f59)))))
        (outK (dead30 59) (key (pc [1] (bd Tryz.f59)))))) := by kernel_rfl

theorem e59_3r (h : H) (x2 : Option Addr) (x2n : Nat) (x2s : Nat) : (finK P30 [.tmp 2]) .ret (E59_r (.slice x2 x2n x2s)) h =
  some (Value.slice x2 x2n x2s, h) := by kernel_rfl

theorem e59_0 (r n : Nat) (h : H) {R : Type} (x1 : Nat) (x3 : Option Addr) (x3n : Nat) (x3s : Nat) (x4 : Int) (nx : Env → H → Option R) (K : Exit → Env → H → Option R) : evCode P30 (ev30 r n) (jmp30 r n 59) (dead30 59) r 0 (pc [1, 1, 0, 1, 0, 0] (bd Tryz.f59)) (E59_0 (.pointer (some ⟨x1, 0, none⟩)) (.slice x3 x3n x3s) (.int .i64 x4)) h (loopK nx (dead30 59 (4 * 0)) (dead30 59 (4 * 0 + 2)) (dead30 59 1000002) K) =
  optK (ldV P30 36 x1 0 h) fun v0 =>
    castSl v0 fun _ o2 _ =>
      bif decide (x4 < (↑o2 : Int)) then
        optK (ldV P30 36 x1 0 h) fun v4 =>
          castSl v4 fun a5 o6 o7 =>
            indexAddrA P30 36 (Value.slice a5 o6 o7) (Value.int IntKind.i64 x4) fun v8 =>
              addrK v8 fun o9 o10 =>
                optK (ldV P30 9 o9 (o10 + 0) h) fun v11 =>
                  castS v11 fun s12 =>
                    appendA P30 { toList := [83, 83] } (Value.slice x3 x3n x3s) (Value.slice (some { block := h.1, off := 0 }) 1 1) (h.new (Blk.cells [Value.string s12] false)) fun v13 h14 =>
                      castSl v13 fun a15 o16 o17 => nx (E59_0 (Value.pointer (some { block := x1, off := 0 })) (Value.slice a15 o16 o17) (Value.int IntKind.i64 (IntKind.i64.wrap (x4 + 1)))) h14
      else K (Exit.exit 0) (E59_2 (Value.slice x3 x3n x3s)) h := by kernel_rfl

theorem e59_0x0 (r n : Nat) (h : H) (x3 : Option Addr) (x3n : Nat) (x3s : Nat) : (blockK 0 (seqK (after P30 (ev30 r n) (jmp30 r n 59) (dead30 59) r 0 (pc [1, 1, 1] (bd Tryz.f59)) (outK (dead30 59) (key (pc [1] (bd Tryz.f59))))) (outK (dead30 59) (key (pc [1] (bd Tryz.f59)))))) (.exit 0) (E59_2 (.slice x3 x3n x3s)) h =
  some (Exit.ret, E59_r (Value.slice x3 x3n x3s), h) := by kernel_rfl

theorem e60 (r n : Nat) (h : H) (a0_0 : ByteArray) (a0_1 : ByteArray) (a0_2 : Int) (a0_3 : Int) (a0_4 : Int) (a0_5 : Int) (a0_6 : Int) (a0_7 : Int) (a0_8 : Int) (a0_9 : Int) : ev30 r (n + 1) 60 [.agg #[.string a0_0, .string a0_1, .int .i64 a0_2, .int .i64 a0_3, .int .i64 a0_4, .int .i64 a0_5, .int .i64 a0_6, .int .i64 a0_7, .int .i64 a0_8, .int .i64 a0_9]] h =
  jumpK
    (jmp30 r n 60 0 (pc [1] (bd Tryz.f60)) (E60_3 (Value.pointer (some { block := h.1, off := 0 })))
      (h.new
        (Blk.cells
          [Value.string a0_0, Value.string a0_1, Value.int IntKind.i64 a0_2, Value.int IntKind.i64 a0_3, Value.int IntKind.i64 a0_4, Value.int IntKind.i64 a0_5, Value.int IntKind.i64 a0_6,
            Value.int IntKind.i64 a0_7, Value.int IntKind.i64 a0_8, Value.int IntKind.i64 a0_9]
          false)))
    (finK P30 [ResultVar.tmp 2]) := by kernel_rfl

theorem e60_3c (r n : Nat) (h : H) (x1 : Nat) : jmp30 r (n + 1) 60 0 (pc [1] (bd Tryz.f60)) (E60_3 (.pointer (some ⟨x1, 0, none⟩))) h =
  optK (ldV P30 3 x1 8 h) fun v0 =>
    castI IntKind.i64 v0 fun n1 =>
      bif decide (n1 < 0) then some (Exit.ret, E60_r (Value.bool false), h)
      else
        optK (ldV P30 3 x1 3 h) fun v2 =>
          castI IntKind.i64 v2 fun n3 =>
            callK (ev30 r n) 93 [Value.int IntKind.i64 n3] h fun v4 h5 =>
              castV v4 fun b6 =>
                bif b6 then
                  optK (ldV P30 3 x1 4 h5) fun v7 =>
                    castI IntKind.i64 v7 fun n8 =>
                      optK (ldV P30 3 x1 3 h5) fun v9 =>
                        castI IntKind.i64 v9 fun n10 =>
                          bif n10 == 5 then
                            optK (ldV P30 3 x1 6 h5) fun v11 =>
                              castI IntKind.i64 v11 fun n12 =>
                                bif decide (n12 > n8) then
                                  optK (ldV P30 3 x1 6 h5) fun v13 =>
                                    castI IntKind.i64 v13 fun n14 =>
                                      jumpK
                                        (jmp30 r n 60 0 (pc [1, 1, 1, 0, 1, 0, 1, 1] (bd Tryz.f60))
                                          (E60_17 (Value.pointer (some { block := x1, off := 0 })) (Value.int IntKind.i64 n14)) h5)
                                        (seqK
                                          (after P30 (ev30 r n) (jmp30 r n 60) (dead30 60) r 0 (pc [1, 1, 1, 1] (bd Tryz.f60))
                                            (outK (dead30 60) (key (pc [1] (bd Tryz.f60)))))
                                          (outK (dead30 60) (key (pc [1] (bd Tryz.f60)))))
                                else
                                  jumpK
                                    (jmp30 r n 60 0 (pc [1, 1, 1, 0, 1, 0, 1, 1] (bd Tryz.f60))
                                      (E60_17 (Value.pointer (some { block := x1, off := 0 })) (Value.int IntKind.i64 n8)) h5)
                                    (seqK
                                      (after P30 (ev30 r n) (jmp30 r n 60) (dead30 60) r 0 (pc [1, 1, 1, 1] (bd Tryz.f60))
                                        (outK (dead30 60) (key (pc [1] (bd Tryz.f60)))))
                                      (outK (dead30 60) (key (pc [1] (bd Tryz.f60)))))
                          else
                            jumpK
                              (jmp30 r n 60 0 (pc [1, 1, 1, 0, 1, 0, 1, 1] (bd Tryz.f60)) (E60_17 (Value.pointer (some { block := x1, off := 0 })) (Value.int IntKind.i64 n8)) h5)
                              (seqK
                                (after P30 (ev30 r n) (jmp30 r n 60) (dead30 60) r 0 (pc [1, 1, 1, 1] (bd Tryz.f60))
                                  (outK (dead30 60) (key (pc [1] (bd Tryz.f60)))))
                                (outK (dead30 60) (key (pc [1] (bd Tryz.f60)))))
                else
                  jumpK (jmp30 r n 60 0 (pc [1, 1, 1, 1] (bd Tryz.f60)) (E60_23 (Value.pointer (some { block := x1, off := 0 })) (Value.int IntKind.i64 0)) h5)
                    (outK (dead30 60) (key (pc [1] (bd Tryz.f60)))) := by kernel_rfl

theorem e60_3r (h : H) (x2 : Bool) : (finK P30 [.tmp 2]) .ret (E60_r (.bool x2)) h =
  some (Value.bool x2, h) := by kernel_rfl

theorem e60_17c (r n : Nat) (h : H) (x1 : Nat) (x4 : Int) : jmp30 r (n + 1) 60 0 (pc [1, 1, 1, 0, 1, 0, 1, 1] (bd Tryz.f60)) (E60_17 (.pointer (some ⟨x1, 0, none⟩)) (.int .i64 x4)) h =
  optK (ldV P30 3 x1 8 h) fun v0 =>
    castI IntKind.i64 v0 fun n1 =>
      bif decide (x4 < n1) then some (Exit.ret, E60_r (Value.bool false), h)
      else
        optK (ldV P30 3 x1 8 h) fun v2 =>
          castI IntKind.i64 v2 fun n3 => some (Exit.normal, E60_23 (Value.pointer (some { block := x1, off := 0 })) (Value.int IntKind.i64 (IntKind.i64.wrap (x4 - n3))), h) := by kernel_rfl

theorem e60_17n (r n : Nat) (h : H) (x1 : Nat) (x3 : Int) : (seqK (after P30 (ev30 r n) (jmp30 r n 60) (dead30 60) r 0 (pc [1, 1, 1, 1] (bd Tryz.f60)) (outK (dead30 60) (key (pc [1] (bd Tryz.f60))))) (outK (dead30 60) (key (pc [1] (bd Tryz.f60))))) .normal (E60_23 (.pointer (some ⟨x1, 0, none⟩)) (.int .i64 x3)) h =
  jumpK (jmp30 r n 60 0 (pc [1, 1, 1, 1] (bd Tryz.f60)) (E60_23 (Value.pointer (some { block := x1, off := 0 })) (Value.int IntKind.i64 x3)) h) (outK (dead30 60) (key (pc [1] (bd Tryz.f60)))) := by kernel_rfl

theorem e60_17r (r n : Nat) (h : H) (x2 : Bool) : (seqK (after P30 (ev30 r n) (jmp30 r n 60) (dead30 60) r 0 (pc [1, 1, 1, 1] (bd Tryz.f60)) (outK (dead30 60) (key (pc [1] (bd Tryz.f60))))) (outK (dead30 60) (key (pc [1] (bd Tryz.f60))))) .ret (E60_r (.bool x2)) h =
  some (Exit.ret, E60_r (Value.bool x2), h) := by kernel_rfl

theorem e60_23c (r n : Nat) (h : H) (x1 : Nat) (x3 : Int) : jmp30 r (n + 1) 60 0 (pc [1, 1, 1, 1] (bd Tryz.f60)) (E60_23 (.pointer (some ⟨x1, 0, none⟩)) (.int .i64 x3)) h =
  optK (ldV P30 3 x1 9 h) fun v0 => castI IntKind.i64 v0 fun n1 => some (Exit.ret, E60_r (Value.bool (n1 == x3)), h) := by kernel_rfl

theorem e60_23r (h : H) (x2 : Bool) : (outK (dead30 60) (key (pc [1] (bd Tryz.f60)))) .ret (E60_r (.bool x2)) h =
  some (Exit.ret, E60_r (Value.bool x2), h) := by kernel_rfl

theorem e61 (r n : Nat) (h : H) (a0 : Int) (a1 : Option Addr) (a1n : Nat) (a1s : Nat) : ev30 r (n + 1) 61 [.int .i64 a0, .slice a1 a1n a1s] h =
  callK (ev30 r n) 64 [Value.slice a1 a1n a1s] h fun v0 h1 =>
    castA v0 fun cs2 =>
      callK (ev30 r n) 94 [Value.agg cs2] h1 fun v3 h4 =>
        castTup v3 fun l5 =>
          headK l5 fun v6 l7 =>
            castI IntKind.i64 v6 fun n8 => headK l7 fun v9 l10 => castV v9 fun b11 => nilK l10 fun _ => bif b11 then some (Value.bool (n8 == a0), h4) else some (Value.bool false, h4) := by kernel_rfl

theorem e62 (r n : Nat) (h : H) (a0_0 : Bool) (a0_1 : Option Addr) (a0_1n : Nat) (a0_1s : Nat) (a1_0 : Bool) (a1_1 : Option Addr) (a1_1n : Nat) (a1_1s : Nat) : ev30 r (n + 1) 62 [.agg #[.bool a0_0, .slice a0_1 a0_1n a0_1s], .agg #[.bool a1_0, .slice a1_1 a1_1n a1_1s]] h =
  optK (ldV P30 143 (h.1 + 1) 0 ((h.new (Blk.cells [Value.bool a0_0, Value.slice a0_1 a0_1n a0_1s] false)).new (Blk.cells [Value.bool a1_0, Value.slice a1_1 a1_1n a1_1s] false))) fun v0 =>
    castA v0 fun cs1 =>
      callK (ev30 r n) 96 [Value.agg cs1]
        ((h.new (Blk.cells [Value.bool a0_0, Value.slice a0_1 a0_1n a0_1s] false)).new (Blk.cells [Value.bool a1_0, Value.slice a1_1 a1_1n a1_1s] false)) fun v2 h3 =>
        castA v2 fun cs4 =>
          optK (ldV P30 143 h.1 0 h3) fun v5 =>
            castA v5 fun cs6 =>
              bif
                  sameLd P30 143 h.1 0 (Value.agg cs6)
                    ((h.new (Blk.cells (Value.agg #[Value.bool a0_0, Value.slice a0_1 a0_1n a0_1s]).cells.toList false)).new
                      (Blk.cells (Value.agg #[Value.bool a1_0, Value.slice a1_1 a1_1n a1_1s]).cells.toList false)) then
                callK (ev30 r n) 95 [Value.agg cs6, Value.agg cs4] h3 fun v7 h8 =>
                  castA v7 fun cs9 =>
                    ifK (cellsOf P30 143 = some (Value.agg cs9).cells.size)
                      (optK (stCells (h8.new (Blk.cells [Value.bool false, Value.slice none 0 0] false)) h8.1 0 (Value.agg cs9).cells.toList) fun h10 =>
                        optK (ldV P30 4 h8.1 0 h10) fun v11 => castV v11 fun b12 => some (Value.bool b12, h10))
              else none := by kernel_rfl

theorem e63 (r n : Nat) (h : H) (a0 : Int) : ev30 r (n + 1) 63 [.int .i64 a0] h =
  bif decide (a0 < 0) then
    jumpK
      (jmp30 r n 63 0 (pc [1, 1, 1] (bd Tryz.f63))
        (E63_9 (Value.int IntKind.i64 a0) (Value.pointer (some { block := h.1, off := 0 })) (Value.int IntKind.u64 (IntKind.u64.wrap (0 - IntKind.u64.wrap a0))))
        (h.new (Blk.cells [Value.bool false, Value.slice none 0 0] false)))
      (finK P30 [ResultVar.cell 2 143])
  else
    jumpK
      (jmp30 r n 63 0 (pc [1, 1, 1] (bd Tryz.f63))
        (E63_9 (Value.int IntKind.i64 a0) (Value.pointer (some { block := h.1, off := 0 })) (Value.int IntKind.u64 (IntKind.u64.wrap a0)))
        (h.new (Blk.cells [Value.bool false, Value.slice none 0 0] false)))
      (finK P30 [ResultVar.cell 2 143]) := by kernel_rfl

theorem e63_9c (r n : Nat) (h : H) (x0 : Int) (x2 : Nat) (x3 : Int) : jmp30 r (n + 1) 63 0 (pc [1, 1, 1] (bd Tryz.f63)) (E63_9 (.int .i64 x0) (.pointer (some ⟨x2, 0, none⟩)) (.int .u64 x3)) h =
  evLoop (evCode P30 (ev30 r n) (jmp30 r n 63) (dead30 63) r 0 (pc [1, 1, 1, 1, 0, 0, 0] (bd Tryz.f63))) (dead30 63 (4 * 0)) (dead30 63 (4 * 0 + 2))
    (dead30 63 1000002) r (E63_0 (Value.int IntKind.i64 x0) (Value.pointer (some { block := x2, off := 0 })) (Value.int IntKind.u64 x3) (Value.slice none 0 0)) h
    (blockK 0
      (seqK (after P30 (ev30 r n) (jmp30 r n 63) (dead30 63) r 0 (pc [1, 1, 1, 1, 1] (bd Tryz.f63)) (outK (dead30 63) (key (pc [1, 1, 1] (bd Tryz.f63)))))
        (outK (dead30 63) (key (pc [1, 1, 1] (bd Tryz.f63)))))) := by kernel_rfl

theorem e63_9r (h : H) (x2 : Nat) : (finK P30 [.cell 2 143]) .ret (E63_r (.pointer (some ⟨x2, 0, none⟩))) h =
  optK (ldV P30 143 x2 0 h) fun v0 => some (v0, h) := by kernel_rfl

theorem e63_0 (r n : Nat) (h : H) {R : Type} (x0 : Int) (x2 : Nat) (x3 : Int) (x4 : Option Addr) (x4n : Nat) (x4s : Nat) (nx : Env → H → Option R) (K : Exit → Env → H → Option R) : evCode P30 (ev30 r n) (jmp30 r n 63) (dead30 63) r 0 (pc [1, 1, 1, 1, 0, 0, 0] (bd Tryz.f63)) (E63_0 (.int .i64 x0) (.pointer (some ⟨x2, 0, none⟩)) (.int .u64 x3) (.slice x4 x4n x4s)) h (loopK nx (dead30 63 (4 * 0)) (dead30 63 (4 * 0 + 2)) (dead30 63 1000002) K) =
  bif decide (x3 > 0) then
    appendA P30 { toList := [141, 141] } (Value.slice x4 x4n x4s) (Value.slice (some { block := h.1, off := 0 }) 1 1) (h.new (Blk.cells [Value.bool (x3.tmod 2 == 1)] false)) fun v0 h1 =>
      castSl v0 fun a2 o3 o4 => nx (E63_0 (Value.int IntKind.i64 x0) (Value.pointer (some { block := x2, off := 0 })) (Value.int IntKind.u64 (IntKind.u64.wrap (x3.tdiv 2))) (Value.slice a2 o3 o4)) h1
  else K (Exit.exit 0) (E63_2 (Value.int IntKind.i64 x0) (Value.pointer (some { block := x2, off := 0 })) (Value.slice x4 x4n x4s)) h := by kernel_rfl

theorem e63_0x0 (r n : Nat) (h : H) (x0 : Int) (x2 : Nat) (x4 : Option Addr) (x4n : Nat) (x4s : Nat) : (blockK 0 (seqK (after P30 (ev30 r n) (jmp30 r n 63) (dead30 63) r 0 (pc [1, 1, 1, 1, 1] (bd Tryz.f63)) (outK (dead30 63) (key (pc [1, 1, 1] (bd Tryz.f63))))) (outK (dead30 63) (key (pc [1, 1, 1] (bd Tryz.f63)))))) (.exit 0) (E63_2 (.int .i64 x0) (.pointer (some ⟨x2, 0, none⟩)) (.slice x4 x4n x4s)) h =
  optK (stCells h x2 0 [Value.bool (decide (x0 < 0)), Value.slice x4 x4n x4s]) fun h0 => some (Exit.ret, E63_r (Value.pointer (some { block := x2, off := 0 })), h0) := by kernel_rfl

theorem e64 (r n : Nat) (h : H) (a0 : Option Addr) (a0n : Nat) (a0s : Nat) : ev30 r (n + 1) 64 [.slice a0 a0n a0s] h =
  optK (stCells ((h.new (Blk.cells [Value.bool false, Value.slice none 0 0] false)).new (Blk.cells [Value.bool false, Value.slice none 0 0] false)) (h.1 + 1) 0 [Value.bool false, Value.slice none 0 0])
    fun h0 =>
    evLoop (evCode P30 (ev30 r n) (jmp30 r n 64) (dead30 64) r 0 (pc [1, 1, 0, 1, 0, 0] (bd Tryz.f64))) (dead30 64 (4 * 0)) (dead30 64 (4 * 0 + 2))
      (dead30 64 1000002) r (E64_0 (Value.slice a0 a0n a0s) (Value.pointer (some { block := h.1, off := 0 })) (Value.pointer (some { block := h.1 + 1, off := 0 })) (Value.int IntKind.i64 0)) h0
      (blockK 0
        (seqK (after P30 (ev30 r n) (jmp30 r n 64) (dead30 64) r 0 (pc [1, 1, 1] (bd Tryz.f64)) (finK P30 [ResultVar.cell 2 143]))
          (finK P30 [ResultVar.cell 2 143]))) := by kernel_rfl

theorem e64_0 (r n : Nat) (h : H) {R : Type} (x0 : Option Addr) (x0n : Nat) (x0s : Nat) (x2 : Nat) (x3 : Nat) (x4 : Int) (nx : Env → H → Option R) (K : Exit → Env → H → Option R) : evCode P30 (ev30 r n) (jmp30 r n 64) (dead30 64) r 0 (pc [1, 1, 0, 1, 0, 0] (bd Tryz.f64)) (E64_0 (.slice x0 x0n x0s) (.pointer (some ⟨x2, 0, none⟩)) (.pointer (some ⟨x3, 0, none⟩)) (.int .i64 x4)) h (loopK nx (dead30 64 (4 * 0)) (dead30 64 (4 * 0 + 2)) (dead30 64 1000002) K) =
  bif decide (x4 < (↑x0n : Int)) then
    indexAddrA P30 28 (Value.slice x0 x0n x0s) (Value.int IntKind.i64 x4) fun v0 =>
      addrK v0 fun o1 o2 =>
        optK (ldV P30 3 o1 o2 h) fun v3 =>
          castI IntKind.i64 v3 fun n4 =>
            callK (ev30 r n) 63 [Value.int IntKind.i64 n4] h fun v5 h6 =>
              castA v5 fun cs7 =>
                optK (ldV P30 143 x3 0 h6) fun v8 =>
                  castA v8 fun cs9 =>
                    bif sameLd P30 143 x3 0 (Value.agg cs9) h then
                      callK (ev30 r n) 95 [Value.agg cs9, Value.agg cs7] h6 fun v10 h11 =>
                        castA v10 fun cs12 =>
                          ifK (cellsOf P30 143 = some (Value.agg cs12).cells.size)
                            (optK (stCells h11 x3 0 (Value.agg cs12).cells.toList) fun h13 =>
                              nx
                                (E64_0 (Value.slice x0 x0n x0s) (Value.pointer (some { block := x2, off := 0 })) (Value.pointer (some { block := x3, off := 0 }))
                                  (Value.int IntKind.i64 (IntKind.i64.wrap (x4 + 1))))
                                h13)
                    else none
  else K (Exit.exit 0) (E64_2 (Value.pointer (some { block := x2, off := 0 })) (Value.pointer (some { block := x3, off := 0 }))) h := by kernel_rfl

theorem e64_0x0 (r n : Nat) (h : H) (x2 : Nat) (x3 : Nat) : (blockK 0 (seqK (after P30 (ev30 r n) (jmp30 r n 64) (dead30 64) r 0 (pc [1, 1, 1] (bd Tryz.f64)) (finK P30 [.cell 2 143])) (finK P30 [.cell 2 143]))) (.exit 0) (E64_2 (.pointer (some ⟨x2, 0, none⟩)) (.pointer (some ⟨x3, 0, none⟩))) h =
  optK (ldV P30 143 x3 0 h) fun v0 =>
    castA v0 fun cs1 => ifK (cellsOf P30 143 = some (Value.agg cs1).cells.size) (optK (stCells h x2 0 (Value.agg cs1).cells.toList) fun h2 => optK (ldV P30 143 x2 0 h2) fun v3 => some (v3, h2)) := by kernel_rfl

theorem e65 (r n : Nat) (h : H) (a0_0 : ByteArray) (a0_1 : ByteArray) (a0_2 : ByteArray) (a0_3 : Int) (a0_4 : Int) (a0_5 : Int) (a0_6 : Int) (a0_7 : Int) (a0_8 : Int) (a0_9 : Int) (a0_10 : Int) (a0_11 : Int) (a0_12 : Int) (a0_13 : Int) (a0_14 : Int) (a0_15 : Int) (a0_16 : Option Addr) (a0_16n : Nat) (a0_16s : Nat) (a1_0 : ByteArray) (a1_1 : ByteArray) (a1_2 : ByteArray) (a1_3 : Int) (a1_4 : Int) (a1_5 : Int) (a1_6 : Int) (a1_7 : Int) (a1_8 : Int) (a1_9 : Int) (a1_10 : Int) (a1_11 : Int) (a1_12 : Int) (a1_13 : Int) (a1_14 : Int) (a1_15 : Int) (a1_16 : Option Addr) (a1_16n : Nat) (a1_16s : Nat) : ev30 r (n + 1) 65 [.agg #[.string a0_0, .string a0_1, .string a0_2, .int .i64 a0_3, .int .i64 a0_4, .int .i64 a0_5, .int .i64 a0_6, .int .i64 a0_7, .int .i64 a0_8, .int .i64 a0_9, .int .i64 a0_10, .int .i64 a0_11, .int .i64 a0_12, .int .i64 a0_13, .int .i64 a0_14, .int .i64 a0_15, .slice a0_16 a0_16n a0_16s], .agg #[.string a1_0, .string a1_1, .string a1_2, .int .i64 a1_3, .int .i64 a1_4, .int .i64 a1_5, .int .i64 a1_6, .int .i64 a1_7, .int .i64 a1_8, .int .i64 a1_9, .int .i64 a1_10, .int .i64 a1_11, .int .i64 a1_12, .int .i64 a1_13, .int .i64 a1_14, .int .i64 a1_15, .slice a1_16 a1_16n a1_16s]] h =
  jumpK
    (jmp30 r n 65 0 (pc [1] (bd Tryz.f65)) (E65_3 (Value.pointer (some { block := h.1, off := 0 })) (Value.pointer (some { block := h.1 + 1, off := 0 })))
      ((h.new
            (Blk.cells
              [Value.string a0_0, Value.string a0_1, Value.string a0_2, Value.int IntKind.i64 a0_3, Value.int IntKind.i64 a0_4, Value.int IntKind.i64 a0_5, Value.int IntKind.i64 a0_6,
                Value.int IntKind.i64 a0_7, Value.int IntKind.i64 a0_8, Value.int IntKind.i64 a0_9, Value.int IntKind.i64 a0_10, Value.int IntKind.i64 a0_11, Value.int IntKind.i64 a0_12,
                Value.int IntKind.i64 a0_13, Value.int IntKind.i64 a0_14, Value.int IntKind.i64 a0_15, Value.slice a0_16 a0_16n a0_16s]
              false)).new
        (Blk.cells
          [Value.string a1_0, Value.string a1_1, Value.string a1_2, Value.int IntKind.i64 a1_3, Value.int IntKind.i64 a1_4, Value.int IntKind.i64 a1_5, Value.int IntKind.i64 a1_6,
            Value.int IntKind.i64 a1_7, Value.int IntKind.i64 a1_8, Value.int IntKind.i64 a1_9, Value.int IntKind.i64 a1_10, Value.int IntKind.i64 a1_11, Value.int IntKind.i64 a1_12,
            Value.int IntKind.i64 a1_13, Value.int IntKind.i64 a1_14, Value.int IntKind.i64 a1_15, Value.slice a1_16 a1_16n a1_16s]
          false)))
    (finK P30 [ResultVar.tmp 4]) := by kernel_rfl

theorem e65_3c (r n : Nat) (h : H) (x2 : Nat) (x3 : Nat) : jmp30 r (n + 1) 65 0 (pc [1] (bd Tryz.f65)) (E65_3 (.pointer (some ⟨x2, 0, none⟩)) (.pointer (some ⟨x3, 0, none⟩))) h =
  optK (ldV P30 9 x2 0 h) fun v0 =>
    castS v0 fun s1 =>
      optK (ldV P30 9 x3 0 h) fun v2 =>
        castS v2 fun s3 =>
          bif !s1.toList == s3.toList then some (Exit.ret, E65_r (Value.bool false), h)
          else
            optK (ldV P30 9 x2 1 h) fun v4 =>
              castS v4 fun s5 =>
                optK (ldV P30 9 x3 1 h) fun v6 =>
                  castS v6 fun s7 =>
                    bif !s5.toList == s7.toList then some (Exit.ret, E65_r (Value.bool false), h)
                    else
                      optK (ldV P30 9 x2 2 h) fun v8 =>
                        castS v8 fun s9 =>
                          optK (ldV P30 9 x3 2 h) fun v10 =>
                            castS v10 fun s11 =>
                              bif !s9.toList == s11.toList then some (Exit.ret, E65_r (Value.bool false), h)
                              else
                                optK (ldV P30 3 x2 3 h) fun v12 =>
                                  castI IntKind.i64 v12 fun n13 =>
                                    optK (ldV P30 3 x3 3 h) fun v14 =>
                                      castI IntKind.i64 v14 fun n15 =>
                                        bif n13 != n15 then some (Exit.ret, E65_r (Value.bool false), h)
                                        else
                                          optK (ldV P30 3 x2 5 h) fun v16 =>
                                            castI IntKind.i64 v16 fun n17 =>
                                              optK (ldV P30 3 x3 5 h) fun v18 =>
                                                castI IntKind.i64 v18 fun n19 =>
                                                  bif n17 != n19 then some (Exit.ret, E65_r (Value.bool false), h)
                                                  else
                                                    optK (ldV P30 3 x2 8 h) fun v20 =>
                                                      castI IntKind.i64 v20 fun n21 =>
                                                        optK (ldV P30 3 x3 8 h) fun v22 =>
                                                          castI IntKind.i64 v22 fun n23 =>
                                                            bif n21 != n23 then some (Exit.ret, E65_r (Value.bool false), h)
                                                            else
                                                              jumpK
                                                                (jmp30 r n 65 0 (pc [1, 1] (bd Tryz.f65))
                                                                  (E65_3 (Value.pointer (some { block := x2, off := 0 })) (Value.pointer (some { block := x3, off := 0 }))) h)
                                                                (outK (dead30 65) (key (pc [1] (bd Tryz.f65)))) := by kernel_rfl

theorem e65_3r (h : H) (x4 : Bool) : (finK P30 [.tmp 4]) .ret (E65_r (.bool x4)) h =
  some (Value.bool x4, h) := by kernel_rfl

theorem e65_7c (r n : Nat) (h : H) (x2 : Nat) (x3 : Nat) : jmp30 r (n + 1) 65 0 (pc [1, 1] (bd Tryz.f65)) (E65_3 (.pointer (some ⟨x2, 0, none⟩)) (.pointer (some ⟨x3, 0, none⟩))) h =
  optK (ldV P30 3 x3 10 h) fun v0 =>
    castI IntKind.i64 v0 fun n1 =>
      optK (ldV P30 3 x2 10 h) fun v2 =>
        castI IntKind.i64 v2 fun n3 =>
          bif decide (n1 < n3) then some (Exit.ret, E65_r (Value.bool false), h)
          else
            optK (ldV P30 3 x2 4 h) fun v4 =>
              castI IntKind.i64 v4 fun n5 =>
                bif decide (n5 > 4) then
                  optK (ldV P30 3 x3 4 h) fun v6 =>
                    castI IntKind.i64 v6 fun n7 =>
                      optK (ldV P30 3 x2 4 h) fun v8 =>
                        castI IntKind.i64 v8 fun n9 =>
                          bif n7 != n9 then some (Exit.ret, E65_r (Value.bool false), h)
                          else
                            optK (ldV P30 3 x3 12 h) fun v10 =>
                              castI IntKind.i64 v10 fun n11 =>
                                optK (ldV P30 3 x2 12 h) fun v12 =>
                                  castI IntKind.i64 v12 fun n13 =>
                                    bif decide (n11 < n13) then some (Exit.ret, E65_r (Value.bool false), h)
                                    else
                                      optK (ldV P30 3 x3 11 h) fun v14 =>
                                        castI IntKind.i64 v14 fun n15 =>
                                          optK (ldV P30 3 x3 12 h) fun v16 =>
                                            castI IntKind.i64 v16 fun n17 =>
                                              optK (ldV P30 3 x2 11 h) fun v18 =>
                                                castI IntKind.i64 v18 fun n19 =>
                                                  optK (ldV P30 3 x2 12 h) fun v20 =>
                                                    castI IntKind.i64 v20 fun n21 =>
                                                      bif decide (IntKind.i64.wrap (n15 + n17) < IntKind.i64.wrap (n19 + n21)) then some (Exit.ret, E65_r (Value.bool false), h)
                                                      else
                                                        optK (ldV P30 63 x3 16 h) fun v22 =>
                                                          castSl v22 fun _ o24 _ =>
                                                            optK (ldV P30 63 x2 16 h) fun v26 =>
                                                              castSl v26 fun _ o28 _ =>
                                                                bif decide ((↑o24 : Int) < (↑o28 : Int)) then some (Exit.ret, E65_r (Value.bool false), h)
                                                                else
                                                                  jumpK
                                                                    (jmp30 r n 65 0 (pc [1, 1, 1] (bd Tryz.f65))
                                                                      (E65_3 (Value.pointer (some { block := x2, off := 0 })) (Value.pointer (some { block := x3, off := 0 }))) h)
                                                                    (outK (dead30 65) (key (pc [1, 1] (bd Tryz.f65))))
                else
                  optK (ldV P30 3 x3 12 h) fun v30 =>
                    castI IntKind.i64 v30 fun n31 =>
                      optK (ldV P30 3 x2 12 h) fun v32 =>
                        castI IntKind.i64 v32 fun n33 =>
                          bif decide (n31 < n33) then some (Exit.ret, E65_r (Value.bool false), h)
                          else
                            optK (ldV P30 3 x3 11 h) fun v34 =>
                              castI IntKind.i64 v34 fun n35 =>
                                optK (ldV P30 3 x3 12 h) fun v36 =>
                                  castI IntKind.i64 v36 fun n37 =>
                                    optK (ldV P30 3 x2 11 h) fun v38 =>
                                      castI IntKind.i64 v38 fun n39 =>
                                        optK (ldV P30 3 x2 12 h) fun v40 =>
                                          castI IntKind.i64 v40 fun n41 =>
                                            bif decide (IntKind.i64.wrap (n35 + n37) < IntKind.i64.wrap (n39 + n41)) then some (Exit.ret, E65_r (Value.bool false), h)
                                            else
                                              optK (ldV P30 63 x3 16 h) fun v42 =>
                                                castSl v42 fun _ o44 _ =>
                                                  optK (ldV P30 63 x2 16 h) fun v46 =>
                                                    castSl v46 fun _ o48 _ =>
                                                      bif decide ((↑o44 : Int) < (↑o48 : Int)) then some (Exit.ret, E65_r (Value.bool false), h)
                                                      else
                                                        jumpK
                                                          (jmp30 r n 65 0 (pc [1, 1, 1] (bd Tryz.f65))
                                                            (E65_3 (Value.pointer (some { block := x2, off := 0 })) (Value.pointer (some { block := x3, off := 0 }))) h)
                                                          (outK (dead30 65) (key (pc [1, 1] (bd Tryz.f65)))) := by kernel_rfl

theorem e65_7r (h : H) (x4 : Bool) : (outK (dead30 65) (key (pc [1] (bd Tryz.f65)))) .ret (E65_r (.bool x4)) h =
  some (Exit.ret, E65_r (Value.bool x4), h) := by kernel_rfl

theorem e65_11c (r n : Nat) (h : H) (x2 : Nat) (x3 : Nat) : jmp30 r (n + 1) 65 0 (pc [1, 1, 1] (bd Tryz.f65)) (E65_3 (.pointer (some ⟨x2, 0, none⟩)) (.pointer (some ⟨x3, 0, none⟩))) h =
  optK (ldV P30 63 x2 16 h) fun v0 =>
    castSl v0 fun a1 o2 o3 =>
      evLoop (evCode P30 (ev30 r n) (jmp30 r n 65) (dead30 65) r 0 (pc [1, 1, 1, 0, 1, 0, 0] (bd Tryz.f65))) (dead30 65 (4 * 0)) (dead30 65 (4 * 0 + 2))
        (dead30 65 1000002) r (E65_0 (Value.pointer (some { block := x3, off := 0 })) (Value.slice a1 o2 o3) (Value.int IntKind.i64 (↑o2 : Int)) (Value.int IntKind.i64 0)) h
        (blockK 0
          (seqK (after P30 (ev30 r n) (jmp30 r n 65) (dead30 65) r 0 (pc [1, 1, 1, 1] (bd Tryz.f65)) (outK (dead30 65) (key (pc [1, 1, 1] (bd Tryz.f65)))))
            (outK (dead30 65) (key (pc [1, 1, 1] (bd Tryz.f65)))))) := by kernel_rfl

theorem e65_11r (h : H) (x4 : Bool) : (outK (dead30 65) (key (pc [1, 1] (bd Tryz.f65)))) .ret (E65_r (.bool x4)) h =
  some (Exit.ret, E65_r (Value.bool x4), h) := by kernel_rfl

theorem e65_0 (r n : Nat) (h : H) {R : Type} (x3 : Nat) (x95 : Option Addr) (x95n : Nat) (x95s : Nat) (x96 : Int) (x97 : Int) (nx : Env → H → Option R) (K : Exit → Env → H → Option R) : evCode P30 (ev30 r n) (jmp30 r n 65) (dead30 65) r 0 (pc [1, 1, 1, 0, 1, 0, 0] (bd Tryz.f65)) (E65_0 (.pointer (some ⟨x3, 0, none⟩)) (.slice x95 x95n x95s) (.int .i64 x96) (.int .i64 x97)) h (loopK nx (dead30 65 (4 * 0)) (dead30 65 (4 * 0 + 2)) (dead30 65 1000002) K) =
  bif decide (x97 < x96) then
    indexAddrA P30 63 (Value.slice x95 x95n x95s) (Value.int IntKind.i64 x97) fun v0 =>
      addrK v0 fun o1 o2 =>
        optK (ldV P30 81 o1 o2 h) fun v3 =>
          castA v3 fun cs4 =>
            ifK (cellsOf P30 81 = some (Value.agg cs4).cells.size)
              (optK
                (stCells
                  (h.new
                    (Blk.cells
                      [Value.string (txt []), Value.string (txt []), Value.int IntKind.i64 0, Value.int IntKind.i64 0, Value.int IntKind.i64 0,
                        Value.int IntKind.i64 0, Value.int IntKind.i64 0, Value.int IntKind.i64 0, Value.int IntKind.i64 0, Value.int IntKind.i64 0]
                      false))
                  h.1 0 (Value.agg cs4).cells.toList)
                fun h5 =>
                optK (ldV P30 63 x3 16 h5) fun v6 =>
                  castSl v6 fun a7 o8 o9 =>
                    indexAddrA P30 63 (Value.slice a7 o8 o9) (Value.int IntKind.i64 x97) fun v10 =>
                      addrK v10 fun o11 o12 =>
                        optK (ldV P30 81 o11 o12 h5) fun v13 =>
                          castA v13 fun cs14 =>
                            ifK (cellsOf P30 81 = some (Value.agg cs14).cells.size)
                              (optK
                                (stCells
                                  (h5.new
                                    (Blk.cells
                                      [Value.string (txt []), Value.string (txt []), Value.int IntKind.i64 0, Value.int IntKind.i64 0, Value.int IntKind.i64 0,
                                        Value.int IntKind.i64 0, Value.int IntKind.i64 0, Value.int IntKind.i64 0, Value.int IntKind.i64 0, Value.int IntKind.i64 0]
                                      false))
                                  h5.1 0 (Value.agg cs14).cells.toList)
                                fun h15 =>
                                optK (ldV P30 9 h.1 0 h15) fun v16 =>
                                  castS v16 fun s17 =>
                                    optK (ldV P30 9 h5.1 0 h15) fun v18 =>
                                      castS v18 fun s19 =>
                                        bif !s17.toList == s19.toList then K Exit.ret (E65_r (Value.bool false)) h15
                                        else
                                          optK (ldV P30 9 h.1 1 h15) fun v20 =>
                                            castS v20 fun s21 =>
                                              optK (ldV P30 9 h5.1 1 h15) fun v22 =>
                                                castS v22 fun s23 =>
                                                  bif !s21.toList == s23.toList then K Exit.ret (E65_r (Value.bool false)) h15
                                                  else
                                                    optK (ldV P30 3 h.1 2 h15) fun v24 =>
                                                      castI IntKind.i64 v24 fun n25 =>
                                                        optK (ldV P30 3 h5.1 2 h15) fun v26 =>
                                                          castI IntKind.i64 v26 fun n27 =>
                                                            bif n25 != n27 then K Exit.ret (E65_r (Value.bool false)) h15
                                                            else
                                                              nx
                                                                (E65_0 (Value.pointer (some { block := x3, off := 0 })) (Value.slice x95 x95n x95s) (Value.int IntKind.i64 x96)
                                                                  (Value.int IntKind.i64 (IntKind.i64.wrap (x97 + 1))))
                                                                h15))
  else K (Exit.exit 0) E65_2 h := by kernel_rfl

theorem e65_0x0 (r n : Nat) (h : H) : (blockK 0 (seqK (after P30 (ev30 r n) (jmp30 r n 65) (dead30 65) r 0 (pc [1, 1, 1, 1] (bd Tryz.f65)) (outK (dead30 65) (key (pc [1, 1, 1] (bd Tryz.f65))))) (outK (dead30 65) (key (pc [1, 1, 1] (bd Tryz.f65)))))) (.exit 0) (E65_2) h =
  some (Exit.ret, E65_r (Value.bool true), h) := by kernel_rfl

theorem e65_0r (r n : Nat) (h : H) (x4 : Bool) : (blockK 0 (seqK (after P30 (ev30 r n) (jmp30 r n 65) (dead30 65) r 0 (pc [1, 1, 1, 1] (bd Tryz.f65)) (outK (dead30 65) (key (pc [1, 1, 1] (bd Tryz.f65))))) (outK (dead30 65) (key (pc [1, 1, 1] (bd Tryz.f65)))))) .ret (E65_r (.bool x4)) h =
  some (Exit.ret, E65_r (Value.bool x4), h) := by kernel_rfl

theorem e66 (r n : Nat) (h : H) (a0_0 : ByteArray) (a0_1 : ByteArray) (a0_2 : ByteArray) (a0_3 : Int) (a0_4 : Int) (a0_5 : Int) (a0_6 : Int) (a0_7 : Int) (a0_8 : Int) (a0_9 : Int) (a0_10 : Int) (a0_11 : Int) (a0_12 : Int) (a0_13 : Int) (a0_14 : Int) (a0_15 : Int) (a0_16 : Option Addr) (a0_16n : Nat) (a0_16s : Nat) (a1_0 : ByteArray) (a1_1 : ByteArray) (a1_2 : ByteArray) (a1_3 : Int) (a1_4 : Int) (a1_5 : Int) (a1_6 : Int) (a1_7 : Int) (a1_8 : Int) (a1_9 : Int) (a1_10 : Int) (a1_11 : Int) (a1_12 : Int) (a1_13 : Int) (a1_14 : Int) (a1_15 : Int) (a1_16 : Option Addr) (a1_16n : Nat) (a1_16s : Nat) : ev30 r (n + 1) 66 [.agg #[.string a0_0, .string a0_1, .string a0_2, .int .i64 a0_3, .int .i64 a0_4, .int .i64 a0_5, .int .i64 a0_6, .int .i64 a0_7, .int .i64 a0_8, .int .i64 a0_9, .int .i64 a0_10, .int .i64 a0_11, .int .i64 a0_12, .int .i64 a0_13, .int .i64 a0_14, .int .i64 a0_15, .slice a0_16 a0_16n a0_16s], .agg #[.string a1_0, .string a1_1, .string a1_2, .int .i64 a1_3, .int .i64 a1_4, .int .i64 a1_5, .int .i64 a1_6, .int .i64 a1_7, .int .i64 a1_8, .int .i64 a1_9, .int .i64 a1_10, .int .i64 a1_11, .int .i64 a1_12, .int .i64 a1_13, .int .i64 a1_14, .int .i64 a1_15, .slice a1_16 a1_16n a1_16s]] h =
  jumpK
    (jmp30 r n 66 0 (pc [1] (bd Tryz.f66)) (E66_3 (Value.pointer (some { block := h.1, off := 0 })) (Value.pointer (some { block := h.1 + 1, off := 0 })))
      ((h.new
            (Blk.cells
              [Value.string a0_0, Value.string a0_1, Value.string a0_2, Value.int IntKind.i64 a0_3, Value.int IntKind.i64 a0_4, Value.int IntKind.i64 a0_5, Value.int IntKind.i64 a0_6,
                Value.int IntKind.i64 a0_7, Value.int IntKind.i64 a0_8, Value.int IntKind.i64 a0_9, Value.int IntKind.i64 a0_10, Value.int IntKind.i64 a0_11, Value.int IntKind.i64 a0_12,
                Value.int IntKind.i64 a0_13, Value.int IntKind.i64 a0_14, Value.int IntKind.i64 a0_15, Value.slice a0_16 a0_16n a0_16s]
              false)).new
        (Blk.cells
          [Value.string a1_0, Value.string a1_1, Value.string a1_2, Value.int IntKind.i64 a1_3, Value.int IntKind.i64 a1_4, Value.int IntKind.i64 a1_5, Value.int IntKind.i64 a1_6,
            Value.int IntKind.i64 a1_7, Value.int IntKind.i64 a1_8, Value.int IntKind.i64 a1_9, Value.int IntKind.i64 a1_10, Value.int IntKind.i64 a1_11, Value.int IntKind.i64 a1_12,
            Value.int IntKind.i64 a1_13, Value.int IntKind.i64 a1_14, Value.int IntKind.i64 a1_15, Value.slice a1_16 a1_16n a1_16s]
          false)))
    (finK P30 [ResultVar.tmp 4]) := by kernel_rfl

theorem e66_3c (r n : Nat) (h : H) (x2 : Nat) (x3 : Nat) : jmp30 r (n + 1) 66 0 (pc [1] (bd Tryz.f66)) (E66_3 (.pointer (some ⟨x2, 0, none⟩)) (.pointer (some ⟨x3, 0, none⟩))) h =
  optK (ldV P30 9 x2 0 h) fun v0 =>
    castS v0 fun s1 =>
      optK (ldV P30 9 x3 0 h) fun v2 =>
        castS v2 fun s3 =>
          bif !s1.toList == s3.toList then some (Exit.ret, E66_r (Value.bool false), h)
          else
            optK (ldV P30 9 x2 1 h) fun v4 =>
              castS v4 fun s5 =>
                optK (ldV P30 9 x3 1 h) fun v6 =>
                  castS v6 fun s7 =>
                    bif !s5.toList == s7.toList then some (Exit.ret, E66_r (Value.bool false), h)
                    else
                      optK (ldV P30 9 x2 2 h) fun v8 =>
                        castS v8 fun s9 =>
                          optK (ldV P30 9 x3 2 h) fun v10 =>
                            castS v10 fun s11 =>
                              bif !s9.toList == s11.toList then some (Exit.ret, E66_r (Value.bool false), h)
                              else
                                optK (ldV P30 3 x2 3 h) fun v12 =>
                                  castI IntKind.i64 v12 fun n13 =>
                                    optK (ldV P30 3 x3 3 h) fun v14 =>
                                      castI IntKind.i64 v14 fun n15 =>
                                        bif n13 != n15 then some (Exit.ret, E66_r (Value.bool false), h)
                                        else
                                          optK (ldV P30 3 x2 5 h) fun v16 =>
                                            castI IntKind.i64 v16 fun n17 =>
                                              optK (ldV P30 3 x3 5 h) fun v18 =>
                                                castI IntKind.i64 v18 fun n19 =>
                                                  bif n17 != n19 then some (Exit.ret, E66_r (Value.bool false), h)
                                                  else
                                                    optK (ldV P30 3 x2 8 h) fun v20 =>
                                                      castI IntKind.i64 v20 fun n21 =>
                                                        optK (ldV P30 3 x3 8 h) fun v22 =>
                                                          castI IntKind.i64 v22 fun n23 =>
                                                            bif n21 != n23 then some (Exit.ret, E66_r (Value.bool false), h)
                                                            else
                                                              optK (ldV P30 3 x3 10 h) fun v24 =>
                                                                castI IntKind.i64 v24 fun n25 =>
                                                                  optK (ldV P30 3 x2 10 h) fun v26 =>
                                                                    castI IntKind.i64 v26 fun n27 =>
                                                                      bif decide (n25 < n27) then some (Exit.ret, E66_r (Value.bool false), h)
                                                                      else
                                                                        optK (ldV P30 73 x3 16 h) fun v28 =>
                                                                          castSl v28 fun _ o30 _ =>
                                                                            optK (ldV P30 73 x2 16 h) fun v32 =>
                                                                              castSl v32 fun _ o34 _ =>
                                                                                bif decide ((↑o30 : Int) < (↑o34 : Int)) then some (Exit.ret, E66_r (Value.bool false), h)
                                                                                else
                                                                                  jumpK
                                                                                    (jmp30 r n 66 0 (pc [1, 1] (bd Tryz.f66))
                                                                                      (E66_3 (Value.pointer (some { block := x2, off := 0 })) (Value.pointer (some { block := x3, off := 0 }))) h)
                                                                                    (outK (dead30 66) (key (pc [1] (bd Tryz.f66)))) := by kernel_rfl

theorem e66_3r (h : H) (x4 : Bool) : (finK P30 [.tmp 4]) .ret (E66_r (.bool x4)) h =
  some (Value.bool x4, h) := by kernel_rfl

theorem e66_7c (r n : Nat) (h : H) (x2 : Nat) (x3 : Nat) : jmp30 r (n + 1) 66 0 (pc [1, 1] (bd Tryz.f66)) (E66_3 (.pointer (some ⟨x2, 0, none⟩)) (.pointer (some ⟨x3, 0, none⟩))) h =
  optK (ldV P30 3 x2 4 h) fun v0 =>
    castI IntKind.i64 v0 fun n1 =>
      bif decide (n1 > 4) then
        optK (ldV P30 3 x2 4 h) fun v2 =>
          castI IntKind.i64 v2 fun n3 =>
            optK (ldV P30 3 x3 4 h) fun v4 =>
              castI IntKind.i64 v4 fun n5 =>
                bif n3 != n5 then some (Exit.ret, E66_r (Value.bool false), h)
                else
                  optK (ldV P30 3 x3 12 h) fun v6 =>
                    castI IntKind.i64 v6 fun n7 =>
                      optK (ldV P30 3 x2 12 h) fun v8 =>
                        castI IntKind.i64 v8 fun n9 =>
                          bif decide (n7 < n9) then some (Exit.ret, E66_r (Value.bool false), h)
                          else
                            optK (ldV P30 3 x3 11 h) fun v10 =>
                              castI IntKind.i64 v10 fun n11 =>
                                optK (ldV P30 3 x3 12 h) fun v12 =>
                                  castI IntKind.i64 v12 fun n13 =>
                                    optK (ldV P30 3 x2 11 h) fun v14 =>
                                      castI IntKind.i64 v14 fun n15 =>
                                        optK (ldV P30 3 x2 12 h) fun v16 =>
                                          castI IntKind.i64 v16 fun n17 =>
                                            bif decide (IntKind.i64.wrap (n11 + n13) < IntKind.i64.wrap (n15 + n17)) then some (Exit.ret, E66_r (Value.bool false), h)
                                            else
                                              jumpK
                                                (jmp30 r n 66 0 (pc [1, 1, 1] (bd Tryz.f66))
                                                  (E66_3 (Value.pointer (some { block := x2, off := 0 })) (Value.pointer (some { block := x3, off := 0 }))) h)
                                                (outK (dead30 66) (key (pc [1, 1] (bd Tryz.f66))))
      else
        optK (ldV P30 3 x3 12 h) fun v18 =>
          castI IntKind.i64 v18 fun n19 =>
            optK (ldV P30 3 x2 12 h) fun v20 =>
              castI IntKind.i64 v20 fun n21 =>
                bif decide (n19 < n21) then some (Exit.ret, E66_r (Value.bool false), h)
                else
                  optK (ldV P30 3 x3 11 h) fun v22 =>
                    castI IntKind.i64 v22 fun n23 =>
                      optK (ldV P30 3 x3 12 h) fun v24 =>
                        castI IntKind.i64 v24 fun n25 =>
                          optK (ldV P30 3 x2 11 h) fun v26 =>
                            castI IntKind.i64 v26 fun n27 =>
                              optK (ldV P30 3 x2 12 h) fun v28 =>
                                castI IntKind.i64 v28 fun n29 =>
                                  bif decide (IntKind.i64.wrap (n23 + n25) < IntKind.i64.wrap (n27 + n29)) then some (Exit.ret, E66_r (Value.bool false), h)
                                  else
                                    jumpK
                                      (jmp30 r n 66 0 (pc [1, 1, 1] (bd Tryz.f66))
                                        (E66_3 (Value.pointer (some { block := x2, off := 0 })) (Value.pointer (some { block := x3, off := 0 }))) h)
                                      (outK (dead30 66) (key (pc [1, 1] (bd Tryz.f66)))) := by kernel_rfl

theorem e66_7r (h : H) (x4 : Bool) : (outK (dead30 66) (key (pc [1] (bd Tryz.f66)))) .ret (E66_r (.bool x4)) h =
  some (Exit.ret, E66_r (Value.bool x4), h) := by kernel_rfl

theorem e66_11c (r n : Nat) (h : H) (x2 : Nat) (x3 : Nat) : jmp30 r (n + 1) 66 0 (pc [1, 1, 1] (bd Tryz.f66)) (E66_3 (.pointer (some ⟨x2, 0, none⟩)) (.pointer (some ⟨x3, 0, none⟩))) h =
  evLoop (evCode P30 (ev30 r n) (jmp30 r n 66) (dead30 66) r 0 (pc [1, 1, 1, 0, 1, 0, 0] (bd Tryz.f66))) (dead30 66 (4 * 0)) (dead30 66 (4 * 0 + 2))
    (dead30 66 1000002) r (E66_0 (Value.pointer (some { block := x2, off := 0 })) (Value.pointer (some { block := x3, off := 0 })) (Value.int IntKind.i64 0)) h
    (blockK 0
      (seqK (after P30 (ev30 r n) (jmp30 r n 66) (dead30 66) r 0 (pc [1, 1, 1, 1] (bd Tryz.f66)) (outK (dead30 66) (key (pc [1, 1, 1] (bd Tryz.f66)))))
        (outK (dead30 66) (key (pc [1, 1, 1] (bd Tryz.f66)))))) := by kernel_rfl

theorem e66_11r (h : H) (x4 : Bool) : (outK (dead30 66) (key (pc [1, 1] (bd Tryz.f66)))) .ret (E66_r (.bool x4)) h =
  some (Exit.ret, E66_r (Value.bool x4), h) := by kernel_rfl

theorem e66_0 (r n : Nat) (h : H) {R : Type} (x2 : Nat) (x3 : Nat) (x5 : Int) (nx : Env → H → Option R) (K : Exit → Env → H → Option R) : evCode P30 (ev30 r n) (jmp30 r n 66) (dead30 66) r 0 (pc [1, 1, 1, 0, 1, 0, 0] (bd Tryz.f66)) (E66_0 (.pointer (some ⟨x2, 0, none⟩)) (.pointer (some ⟨x3, 0, none⟩)) (.int .i64 x5)) h (loopK nx (dead30 66 (4 * 0)) (dead30 66 (4 * 0 + 2)) (dead30 66 1000002) K) =
  optK (ldV P30 73 x2 16 h) fun v0 =>
    castSl v0 fun _ o2 _ =>
      bif decide (x5 < (↑o2 : Int)) then
        optK (ldV P30 73 x2 16 h) fun v4 =>
          castSl v4 fun a5 o6 o7 =>
            indexAddrA P30 73 (Value.slice a5 o6 o7) (Value.int IntKind.i64 x5) fun v8 =>
              addrK v8 fun o9 o10 =>
                optK (ldV P30 82 o9 o10 h) fun v11 =>
                  castA v11 fun cs12 =>
                    ifK (cellsOf P30 82 = some (Value.agg cs12).cells.size)
                      (optK
                        (stCells
                          (h.new
                            (Blk.cells
                              [Value.string (txt []), Value.string (txt []), Value.int IntKind.i64 0, Value.int IntKind.i64 0, Value.int IntKind.i64 0,
                                Value.int IntKind.i64 0, Value.int IntKind.i64 0, Value.int IntKind.i64 0, Value.int IntKind.i64 0, Value.int IntKind.i64 0]
                              false))
                          h.1 0 (Value.agg cs12).cells.toList)
                        fun h13 =>
                        optK (ldV P30 73 x3 16 h13) fun v14 =>
                          castSl v14 fun a15 o16 o17 =>
                            indexAddrA P30 73 (Value.slice a15 o16 o17) (Value.int IntKind.i64 x5) fun v18 =>
                              addrK v18 fun o19 o20 =>
                                optK (ldV P30 82 o19 o20 h13) fun v21 =>
                                  castA v21 fun cs22 =>
                                    ifK (cellsOf P30 82 = some (Value.agg cs22).cells.size)
                                      (optK
                                        (stCells
                                          (h13.new
                                            (Blk.cells
                                              [Value.string (txt []), Value.string (txt []), Value.int IntKind.i64 0, Value.int IntKind.i64 0,
                                                Value.int IntKind.i64 0, Value.int IntKind.i64 0, Value.int IntKind.i64 0, Value.int IntKind.i64 0, Value.int IntKind.i64 0, Value.int IntKind.i64 0]
                                              false))
                                          h13.1 0 (Value.agg cs22).cells.toList)
                                        fun h23 =>
                                        optK (ldV P30 9 h.1 0 h23) fun v24 =>
                                          castS v24 fun s25 =>
                                            optK (ldV P30 9 h13.1 0 h23) fun v26 =>
                                              castS v26 fun s27 =>
                                                bif !s25.toList == s27.toList then K Exit.ret (E66_r (Value.bool false)) h23
                                                else
                                                  optK (ldV P30 9 h.1 1 h23) fun v28 =>
                                                    castS v28 fun s29 =>
                                                      optK (ldV P30 9 h13.1 1 h23) fun v30 =>
                                                        castS v30 fun s31 =>
                                                          bif !s29.toList == s31.toList then K Exit.ret (E66_r (Value.bool false)) h23
                                                          else
                                                            optK (ldV P30 3 h.1 2 h23) fun v32 =>
                                                              castI IntKind.i64 v32 fun n33 =>
                                                                optK (ldV P30 3 h13.1 2 h23) fun v34 =>
                                                                  castI IntKind.i64 v34 fun n35 =>
                                                                    bif n33 != n35 then K Exit.ret (E66_r (Value.bool false)) h23
                                                                    else
                                                                      nx
                                                                        (E66_0 (Value.pointer (some { block := x2, off := 0 })) (Value.pointer (some { block := x3, off := 0 }))
                                                                          (Value.int IntKind.i64 (IntKind.i64.wrap (x5 + 1))))
                                                                        h23))
      else K (Exit.exit 0) E66_2 h := by kernel_rfl

theorem e66_0x0 (r n : Nat) (h : H) : (blockK 0 (seqK (after P30 (ev30 r n) (jmp30 r n 66) (dead30 66) r 0 (pc [1, 1, 1, 1] (bd Tryz.f66)) (outK (dead30 66) (key (pc [1, 1, 1] (bd Tryz.f66))))) (outK (dead30 66) (key (pc [1, 1, 1] (bd Tryz.f66)))))) (.exit 0) (E66_2) h =
  some (Exit.ret, E66_r (Value.bool true), h) := by kernel_rfl

theorem e66_0r (r n : Nat) (h : H) (x4 : Bool) : (blockK 0 (seqK (after P30 (ev30 r n) (jmp30 r n 66) (dead30 66) r 0 (pc [1, 1, 1, 1] (bd Tryz.f66)) (outK (dead30 66) (key (pc [1, 1, 1] (bd Tryz.f66))))) (outK (dead30 66) (key (pc [1, 1, 1] (bd Tryz.f66)))))) .ret (E66_r (.bool x4)) h =
  some (Exit.ret, E66_r (Value.bool x4), h) := by kernel_rfl

theorem e88 (r n : Nat) (h : H) (a0 : Int) : ev30 r (n + 1) 88 [.int .i64 a0] h =
  bif decide (a0 ≥ 1) then some (Value.bool (decide (a0 ≤ 5)), h) else some (Value.bool false, h) := by kernel_rfl

theorem e89 (r n : Nat) (h : H) (a0_0 : Int) (a0_1 : Int) (a0_2 : Int) (a0_3 : Int) (a1 : Int) : ev30 r (n + 1) 89 [.agg #[.int .u64 a0_0, .int .u64 a0_1, .int .u64 a0_2, .int .u64 a0_3], .iface 3 (.int .i64 a1)] h =
  jumpK
    (jmp30 r n 89 0 (pc [1] (bd Tryz.f89))
      (E89_3 (Value.iface 3 (Value.int IntKind.i64 a1)) (Value.pointer (some { block := h.1, off := 0 })) (Value.pointer (some { block := h.1 + 1, off := 0 })))
      ((h.new (Blk.cells [Value.int IntKind.u64 a0_0, Value.int IntKind.u64 a0_1, Value.int IntKind.u64 a0_2, Value.int IntKind.u64 a0_3] false)).new
        (Blk.cells [Value.int IntKind.u64 0, Value.int IntKind.u64 0, Value.int IntKind.u64 0, Value.int IntKind.u64 0] false)))
    (finK P30 [ResultVar.cell 4 207]) := by kernel_rfl

theorem e89_3c (r n : Nat) (h : H) (x1 : Int) (x2 : Nat) (x4 : Nat) : jmp30 r (n + 1) 89 0 (pc [1] (bd Tryz.f89)) (E89_3 (.iface 3 (.int .i64 x1)) (.pointer (some ⟨x2, 0, none⟩)) (.pointer (some ⟨x4, 0, none⟩))) h =
  bif decide (x1 < 0) then
    callK (ev30 r n) 113 [Value.int IntKind.i64 x1] h fun v0 h1 =>
      castI IntKind.u64 v0 fun n2 =>
        optK (ldV P30 205 x2 2 h1) fun v3 =>
          castA v3 fun cs4 =>
            bif sameLd P30 205 x2 2 (Value.agg cs4) h then
              callK (ev30 r n) 112 [Value.agg cs4, Value.int IntKind.u64 n2] h1 fun v5 h6 =>
                castA v5 fun cs7 =>
                  ifK (cellsOf P30 205 = some (Value.agg cs7).cells.size)
                    (optK (stCells h6 x2 2 (Value.agg cs7).cells.toList) fun h8 =>
                      optK (ldV P30 207 x2 0 h8) fun v9 =>
                        castA v9 fun cs10 =>
                          ifK (cellsOf P30 207 = some (Value.agg cs10).cells.size)
                            (optK (stCells h8 x4 0 (Value.agg cs10).cells.toList) fun h11 => some (Exit.ret, E89_r (Value.pointer (some { block := x4, off := 0 })), h11)))
            else none
  else
    callK (ev30 r n) 113 [Value.int IntKind.i64 x1] h fun v12 h13 =>
      castI IntKind.u64 v12 fun n14 =>
        optK (ldV P30 205 x2 0 h13) fun v15 =>
          castA v15 fun cs16 =>
            bif sameLd P30 205 x2 0 (Value.agg cs16) h then
              callK (ev30 r n) 112 [Value.agg cs16, Value.int IntKind.u64 n14] h13 fun v17 h18 =>
                castA v17 fun cs19 =>
                  ifK (cellsOf P30 205 = some (Value.agg cs19).cells.size)
                    (optK (stCells h18 x2 0 (Value.agg cs19).cells.toList) fun h20 =>
                      optK (ldV P30 207 x2 0 h20) fun v21 =>
                        castA v21 fun cs22 =>
                          ifK (cellsOf P30 207 = some (Value.agg cs22).cells.size)
                            (optK (stCells h20 x4 0 (Value.agg cs22).cells.toList) fun h23 => some (Exit.ret, E89_r (Value.pointer (some { block := x4, off := 0 })), h23)))
            else none := by kernel_rfl

theorem e89_3r (h : H) (x4 : Nat) : (finK P30 [.cell 4 207]) .ret (E89_r (.pointer (some ⟨x4, 0, none⟩))) h =
  optK (ldV P30 207 x4 0 h) fun v0 => some (v0, h) := by kernel_rfl

theorem e90 (r n : Nat) (h : H) (a0_0 : Int) (a0_1 : Int) (a1_0 : Int) (a1_1 : Int) : ev30 r (n + 1) 90 [.agg #[.int .u64 a0_0, .int .u64 a0_1], .agg #[.int .u64 a1_0, .int .u64 a1_1]] h =
  jumpK
    (jmp30 r n 90 0 (pc [1] (bd Tryz.f90)) (E90_3 (Value.pointer (some { block := h.1, off := 0 })) (Value.pointer (some { block := h.1 + 1, off := 0 })))
      ((h.new (Blk.cells [Value.int IntKind.u64 a0_0, Value.int IntKind.u64 a0_1] false)).new (Blk.cells [Value.int IntKind.u64 a1_0, Value.int IntKind.u64 a1_1] false)))
    (finK P30 [ResultVar.tmp 4]) := by kernel_rfl

theorem e90_3c (r n : Nat) (h : H) (x2 : Nat) (x3 : Nat) : jmp30 r (n + 1) 90 0 (pc [1] (bd Tryz.f90)) (E90_3 (.pointer (some ⟨x2, 0, none⟩)) (.pointer (some ⟨x3, 0, none⟩))) h =
  optK (ldV P30 203 x2 0 h) fun v0 =>
    castI IntKind.u64 v0 fun n1 =>
      optK (ldV P30 203 x3 0 h) fun v2 =>
        castI IntKind.u64 v2 fun n3 =>
          bif decide (n1 < n3) then some (Exit.ret, E90_r (Value.bool true), h)
          else
            optK (ldV P30 203 x2 0 h) fun v4 =>
              castI IntKind.u64 v4 fun n5 =>
                optK (ldV P30 203 x3 0 h) fun v6 =>
                  castI IntKind.u64 v6 fun n7 =>
                    bif n5 == n7 then
                      optK (ldV P30 203 x2 1 h) fun v8 =>
                        castI IntKind.u64 v8 fun n9 => optK (ldV P30 203 x3 1 h) fun v10 => castI IntKind.u64 v10 fun n11 => some (Exit.ret, E90_r (Value.bool (decide (n9 < n11))), h)
                    else some (Exit.ret, E90_r (Value.bool false), h) := by kernel_rfl

theorem e90_3r (h : H) (x4 : Bool) : (finK P30 [.tmp 4]) .ret (E90_r (.bool x4)) h =
  some (Value.bool x4, h) := by kernel_rfl

theorem e91 (r n : Nat) (h : H) (a0_0 : Int) (a0_1 : Int) (a1_0 : Int) (a1_1 : Int) : ev30 r (n + 1) 91 [.agg #[.int .u64 a0_0, .int .u64 a0_1], .agg #[.int .u64 a1_0, .int .u64 a1_1]] h =
  jumpK
    (jmp30 r n 91 0 (pc [1] (bd Tryz.f91))
      (E91_3 (Value.pointer (some { block := h.1, off := 0 })) (Value.pointer (some { block := h.1 + 1, off := 0 })) (Value.pointer (some { block := h.1 + 1 + 1, off := 0 })))
      (((h.new (Blk.cells [Value.int IntKind.u64 a0_0, Value.int IntKind.u64 a0_1] false)).new (Blk.cells [Value.int IntKind.u64 a1_0, Value.int IntKind.u64 a1_1] false)).new
        (Blk.cells [Value.int IntKind.u64 0, Value.int IntKind.u64 0] false)))
    (finK P30 [ResultVar.cell 4 205]) := by kernel_rfl

theorem e91_3c (r n : Nat) (h : H) (x2 : Nat) (x3 : Nat) (x4 : Nat) : jmp30 r (n + 1) 91 0 (pc [1] (bd Tryz.f91)) (E91_3 (.pointer (some ⟨x2, 0, none⟩)) (.pointer (some ⟨x3, 0, none⟩)) (.pointer (some ⟨x4, 0, none⟩))) h =
  optK (ldV P30 203 x2 1 h) fun v0 =>
    castI IntKind.u64 v0 fun n1 =>
      optK (ldV P30 203 x3 1 h) fun v2 =>
        castI IntKind.u64 v2 fun n3 =>
          optK (ldV P30 203 x2 0 h) fun v4 =>
            castI IntKind.u64 v4 fun n5 =>
              optK (ldV P30 203 x3 0 h) fun v6 =>
                castI IntKind.u64 v6 fun n7 =>
                  optK
                    (stCells h x4 0
                      [Value.int IntKind.u64
                          (IntKind.u64.wrap (IntKind.u64.wrap (n5 - n7) - Int.ofNat (if (n1 : Int).toNat < (n3 : Int).toNat + (0 : Int).toNat then 1 else 0))),
                        Value.int IntKind.u64 (Int.ofNat (((n1 : Int).toNat + 18446744073709551616 - (n3 : Int).toNat - 0) % 18446744073709551616))])
                    fun h8 => some (Exit.ret, E91_r (Value.pointer (some { block := x4, off := 0 })), h8) := by kernel_rfl

theorem e91_3r (h : H) (x4 : Nat) : (finK P30 [.cell 4 205]) .ret (E91_r (.pointer (some ⟨x4, 0, none⟩))) h =
  optK (ldV P30 205 x4 0 h) fun v0 => some (v0, h) := by kernel_rfl

theorem e92 (r n : Nat) (h : H) (a0_0 : Int) (a0_1 : Int) (a1 : Bool) : ev30 r (n + 1) 92 [.agg #[.int .u64 a0_0, .int .u64 a0_1], .bool a1] h =
  jumpK
    (jmp30 r n 92 0 (pc [1] (bd Tryz.f92)) (E92_3 (Value.bool a1) (Value.pointer (some { block := h.1, off := 0 })))
      (h.new (Blk.cells [Value.int IntKind.u64 a0_0, Value.int IntKind.u64 a0_1] false)))
    (finK P30 [ResultVar.tmp 4, ResultVar.tmp 5]) := by kernel_rfl

theorem e92_3c (r n : Nat) (h : H) (x1 : Bool) (x2 : Nat) : jmp30 r (n + 1) 92 0 (pc [1] (bd Tryz.f92)) (E92_3 (.bool x1) (.pointer (some ⟨x2, 0, none⟩))) h =
  bif x1 then
    jumpK (jmp30 r n 92 0 (pc [1, 1, 1] (bd Tryz.f92)) (E92_9 (Value.bool x1) (Value.pointer (some { block := x2, off := 0 })) (Value.int IntKind.u64 9223372036854775808)) h)
      (outK (dead30 92) (key (pc [1] (bd Tryz.f92))))
  else
    jumpK (jmp30 r n 92 0 (pc [1, 1, 1] (bd Tryz.f92)) (E92_9 (Value.bool x1) (Value.pointer (some { block := x2, off := 0 })) (Value.int IntKind.u64 9223372036854775807)) h)
      (outK (dead30 92) (key (pc [1] (bd Tryz.f92)))) := by kernel_rfl

theorem e92_3r (h : H) (x4 : Int) (x5 : Int) : (finK P30 [.tmp 4, .tmp 5]) .ret (E92_r (.int .i64 x4) (.int .i64 x5)) h =
  some (Value.tuple { toList := [Value.int IntKind.i64 x4, Value.int IntKind.i64 x5] }, h) := by kernel_rfl

theorem e92_9c (r n : Nat) (h : H) (x1 : Bool) (x2 : Nat) (x6 : Int) : jmp30 r (n + 1) 92 0 (pc [1, 1, 1] (bd Tryz.f92)) (E92_9 (.bool x1) (.pointer (some ⟨x2, 0, none⟩)) (.int .u64 x6)) h =
  optK (ldV P30 203 x2 0 h) fun v0 =>
    castI IntKind.u64 v0 fun n1 =>
      bif decide (n1 > 0) then some (Exit.ret, E92_r (Value.int IntKind.i64 0) (Value.int IntKind.i64 10), h)
      else
        optK (ldV P30 203 x2 1 h) fun v2 =>
          castI IntKind.u64 v2 fun n3 =>
            bif decide (n3 > x6) then some (Exit.ret, E92_r (Value.int IntKind.i64 0) (Value.int IntKind.i64 10), h)
            else
              jumpK (jmp30 r n 92 0 (pc [1, 1, 1, 1] (bd Tryz.f92)) (E92_3 (Value.bool x1) (Value.pointer (some { block := x2, off := 0 }))) h)
                (outK (dead30 92) (key (pc [1, 1, 1] (bd Tryz.f92)))) := by kernel_rfl

theorem e92_9r (h : H) (x4 : Int) (x5 : Int) : (outK (dead30 92) (key (pc [1] (bd Tryz.f92)))) .ret (E92_r (.int .i64 x4) (.int .i64 x5)) h =
  some (Exit.ret, E92_r (Value.int IntKind.i64 x4) (Value.int IntKind.i64 x5), h) := by kernel_rfl

theorem e92_13c (r n : Nat) (h : H) (x1 : Bool) (x2 : Nat) : jmp30 r (n + 1) 92 0 (pc [1, 1, 1, 1] (bd Tryz.f92)) (E92_3 (.bool x1) (.pointer (some ⟨x2, 0, none⟩))) h =
  bif x1 then
    optK (ldV P30 203 x2 1 h) fun v0 => castI IntKind.u64 v0 fun n1 => some (Exit.ret, E92_r (Value.int IntKind.i64 (IntKind.i64.wrap (IntKind.u64.wrap (0 - n1)))) (Value.int IntKind.i64 0), h)
  else optK (ldV P30 203 x2 1 h) fun v2 => castI IntKind.u64 v2 fun n3 => some (Exit.ret, E92_r (Value.int IntKind.i64 (IntKind.i64.wrap n3)) (Value.int IntKind.i64 0), h) := by kernel_rfl

theorem e92_13r (h : H) (x4 : Int) (x5 : Int) : (outK (dead30 92) (key (pc [1, 1, 1] (bd Tryz.f92)))) .ret (E92_r (.int .i64 x4) (.int .i64 x5)) h =
  some (Exit.ret, E92_r (Value.int IntKind.i64 x4) (Value.int IntKind.i64 x5), h) := by kernel_rfl

theorem e93 (r n : Nat) (h : H) (a0 : Int) : ev30 r (n + 1) 93 [.int .i64 a0] h =
  bif decide (a0 ≥ 1) then some (Value.bool (decide (a0 ≤ 5)), h) else some (Value.bool false, h) := by kernel_rfl

theorem e94 (r n : Nat) (h : H) (a0_0 : Bool) (a0_1 : Option Addr) (a0_1n : Nat) (a0_1s : Nat) : ev30 r (n + 1) 94 [.agg #[.bool a0_0, .slice a0_1 a0_1n a0_1s]] h =
  optK (ldV P30 141 h.1 1 (h.new (Blk.cells [Value.bool a0_0, Value.slice a0_1 a0_1n a0_1s] false))) fun v0 =>
    castSl v0 fun _ o2 _ =>
      bif decide ((↑o2 : Int) > 64) then some (Value.tuple { toList := [Value.int IntKind.i64 0, Value.bool false] }, h.new (Blk.cells [Value.bool a0_0, Value.slice a0_1 a0_1n a0_1s] false))
      else
        optK (ldV P30 141 h.1 1 (h.new (Blk.cells [Value.bool a0_0, Value.slice a0_1 a0_1n a0_1s] false))) fun v4 =>
          castSl v4 fun _ o6 _ =>
            evLoop (evCode P30 (ev30 r n) (jmp30 r n 94) (dead30 94) r 0 (pc [1, 1, 1, 0, 1, 0, 0] (bd Tryz.f94))) (dead30 94 (4 * 0))
              (dead30 94 (4 * 0 + 2)) (dead30 94 1000002) r
              (E94_0 (Value.pointer (some { block := h.1, off := 0 })) (Value.int IntKind.u64 0) (Value.int IntKind.i64 (IntKind.i64.wrap ((↑o6 : Int) - 1))))
              (h.new (Blk.cells [Value.bool a0_0, Value.slice a0_1 a0_1n a0_1s] false))
              (blockK 0
                (seqK (after P30 (ev30 r n) (jmp30 r n 94) (dead30 94) r 0 (pc [1, 1, 1, 1] (bd Tryz.f94)) (finK P30 [ResultVar.tmp 2, ResultVar.tmp 3]))
                  (finK P30 [ResultVar.tmp 2, ResultVar.tmp 3]))) := by kernel_rfl

theorem e94_0 (r n : Nat) (h : H) {R : Type} (x1 : Nat) (x4 : Int) (x5 : Int) (nx : Env → H → Option R) (K : Exit → Env → H → Option R) : evCode P30 (ev30 r n) (jmp30 r n 94) (dead30 94) r 0 (pc [1, 1, 1, 0, 1, 0, 0] (bd Tryz.f94)) (E94_0 (.pointer (some ⟨x1, 0, none⟩)) (.int .u64 x4) (.int .i64 x5)) h (loopK nx (dead30 94 (4 * 0)) (dead30 94 (4 * 0 + 2)) (dead30 94 1000002) K) =
  bif decide (x5 ≥ 0) then
    optK (ldV P30 141 x1 1 h) fun v0 =>
      castSl v0 fun a1 o2 o3 =>
        indexAddrA P30 141 (Value.slice a1 o2 o3) (Value.int IntKind.i64 x5) fun v4 =>
          addrK v4 fun o5 o6 =>
            optK (ldV P30 4 o5 o6 h) fun v7 =>
              castV v7 fun b8 =>
                bif b8 then
                  nx
                    (E94_0 (Value.pointer (some { block := x1, off := 0 })) (Value.int IntKind.u64 (IntKind.u64.wrap (IntKind.u64.wrap (2 * x4) + 1)))
                      (Value.int IntKind.i64 (IntKind.i64.wrap (x5 - 1))))
                    h
                else nx (E94_0 (Value.pointer (some { block := x1, off := 0 })) (Value.int IntKind.u64 (IntKind.u64.wrap (2 * x4))) (Value.int IntKind.i64 (IntKind.i64.wrap (x5 - 1)))) h
  else K (Exit.exit 0) (E94_2 (Value.pointer (some { block := x1, off := 0 })) (Value.int IntKind.u64 x4)) h := by kernel_rfl

theorem e94_0x0 (r n : Nat) (h : H) (x1 : Nat) (x4 : Int) : (blockK 0 (seqK (after P30 (ev30 r n) (jmp30 r n 94) (dead30 94) r 0 (pc [1, 1, 1, 1] (bd Tryz.f94)) (finK P30 [.tmp 2, .tmp 3])) (finK P30 [.tmp 2, .tmp 3]))) (.exit 0) (E94_2 (.pointer (some ⟨x1, 0, none⟩)) (.int .u64 x4)) h =
  optK (ldV P30 4 x1 0 h) fun v0 =>
    castV v0 fun b1 =>
      bif b1 then some (Value.tuple { toList := [Value.int IntKind.i64 (IntKind.i64.wrap (IntKind.u64.wrap (0 - x4))), Value.bool (decide (x4 ≤ 9223372036854775808))] }, h)
      else some (Value.tuple { toList := [Value.int IntKind.i64 (IntKind.i64.wrap x4), Value.bool (decide (x4 < 9223372036854775808))] }, h) := by kernel_rfl

theorem e95 (r n : Nat) (h : H) (a0_0 : Bool) (a0_1 : Option Addr) (a0_1n : Nat) (a0_1s : Nat) (a1_0 : Bool) (a1_1 : Option Addr) (a1_1n : Nat) (a1_1s : Nat) : ev30 r (n + 1) 95 [.agg #[.bool a0_0, .slice a0_1 a0_1n a0_1s], .agg #[.bool a1_0, .slice a1_1 a1_1n a1_1s]] h =
  optK
    (ldV P30 4 h.1 0
      (((h.new (Blk.cells [Value.bool a0_0, Value.slice a0_1 a0_1n a0_1s] false)).new (Blk.cells [Value.bool a1_0, Value.slice a1_1 a1_1n a1_1s] false)).new
        (Blk.cells [Value.bool false, Value.slice none 0 0] false)))
    fun v0 =>
    castV v0 fun b1 =>
      optK
        (ldV P30 4 (h.1 + 1) 0
          (((h.new (Blk.cells [Value.bool a0_0, Value.slice a0_1 a0_1n a0_1s] false)).new (Blk.cells [Value.bool a1_0, Value.slice a1_1 a1_1n a1_1s] false)).new
            (Blk.cells [Value.bool false, Value.slice none 0 0] false)))
        fun v2 =>
        castV v2 fun b3 =>
          bif b1 == b3 then
            optK
              (ldV P30 141 h.1 1
                (((h.new (Blk.cells [Value.bool a0_0, Value.slice a0_1 a0_1n a0_1s] false)).new (Blk.cells [Value.bool a1_0, Value.slice a1_1 a1_1n a1_1s] false)).new
                  (Blk.cells [Value.bool false, Value.slice none 0 0] false)))
              fun v4 =>
              castSl v4 fun a5 o6 o7 =>
                optK
                  (ldV P30 141 (h.1 + 1) 1
                    (((h.new (Blk.cells [Value.bool a0_0, Value.slice a0_1 a0_1n a0_1s] false)).new (Blk.cells [Value.bool a1_0, Value.slice a1_1 a1_1n a1_1s] false)).new
                      (Blk.cells [Value.bool false, Value.slice none 0 0] false)))
                  fun v8 =>
                  castSl v8 fun a9 o10 o11 =>
                    callK (ev30 r n) 115 [Value.slice a5 o6 o7, Value.slice a9 o10 o11]
                      (((h.new (Blk.cells [Value.bool a0_0, Value.slice a0_1 a0_1n a0_1s] false)).new (Blk.cells [Value.bool a1_0, Value.slice a1_1 a1_1n a1_1s] false)).new
                        (Blk.cells [Value.bool false, Value.slice none 0 0] false))
                      fun v12 h13 =>
                      castSl v12 fun a14 o15 o16 =>
                        optK (ldV P30 4 h.1 0 h13) fun v17 =>
                          castV v17 fun b18 =>
                            bif
                                sameLd P30 4 h.1 0 (Value.bool b18)
                                  (((h.new (Blk.cells (Value.agg #[Value.bool a0_0, Value.slice a0_1 a0_1n a0_1s]).cells.toList false)).new
                                        (Blk.cells (Value.agg #[Value.bool a1_0, Value.slice a1_1 a1_1n a1_1s]).cells.toList false)).new
                                    (Blk.cells (Value.agg #[Value.bool false, Value.slice none 0 0]).cells.toList false)) then
                              optK (stCells h13 (h.1 + 1 + 1) 0 [Value.bool b18, Value.slice a14 o15 o16]) fun h19 => optK (ldV P30 143 (h.1 + 1 + 1) 0 h19) fun v20 => some (v20, h19)
                            else none
          else
            optK
              (ldV P30 141 h.1 1
                (((h.new (Blk.cells [Value.bool a0_0, Value.slice a0_1 a0_1n a0_1s] false)).new (Blk.cells [Value.bool a1_0, Value.slice a1_1 a1_1n a1_1s] false)).new
                  (Blk.cells [Value.bool false, Value.slice none 0 0] false)))
              fun v21 =>
              castSl v21 fun a22 o23 o24 =>
                optK
                  (ldV P30 141 (h.1 + 1) 1
                    (((h.new (Blk.cells [Value.bool a0_0, Value.slice a0_1 a0_1n a0_1s] false)).new (Blk.cells [Value.bool a1_0, Value.slice a1_1 a1_1n a1_1s] false)).new
                      (Blk.cells [Value.bool false, Value.slice none 0 0] false)))
                  fun v25 =>
                  castSl v25 fun a26 o27 o28 =>
                    callK (ev30 r n) 116 [Value.slice a22 o23 o24, Value.slice a26 o27 o28]
                      (((h.new (Blk.cells [Value.bool a0_0, Value.slice a0_1 a0_1n a0_1s] false)).new (Blk.cells [Value.bool a1_0, Value.slice a1_1 a1_1n a1_1s] false)).new
                        (Blk.cells [Value.bool false, Value.slice none 0 0] false))
                      fun v29 h30 =>
                      castI IntKind.i64 v29 fun n31 =>
                        bif decide (n31 < 0) then
                          optK (ldV P30 141 (h.1 + 1) 1 h30) fun v32 =>
                            castSl v32 fun a33 o34 o35 =>
                              optK (ldV P30 141 h.1 1 h30) fun v36 =>
                                castSl v36 fun a37 o38 o39 =>
                                  callK (ev30 r n) 117 [Value.slice a33 o34 o35, Value.slice a37 o38 o39] h30 fun v40 h41 =>
                                    castSl v40 fun a42 o43 o44 =>
                                      optK (ldV P30 4 (h.1 + 1) 0 h41) fun v45 =>
                                        castV v45 fun b46 =>
                                          bif sameLd P30 4 (h.1 + 1) 0 (Value.bool b46) h30 then
                                            optK (stCells h41 (h.1 + 1 + 1) 0 [Value.bool b46, Value.slice a42 o43 o44]) fun h47 => optK (ldV P30 143 (h.1 + 1 + 1) 0 h47) fun v48 => some (v48, h47)
                                          else none
                        else
                          optK (ldV P30 141 h.1 1 h30) fun v49 =>
                            castSl v49 fun a50 o51 o52 =>
                              optK (ldV P30 141 (h.1 + 1) 1 h30) fun v53 =>
                                castSl v53 fun a54 o55 o56 =>
                                  callK (ev30 r n) 117 [Value.slice a50 o51 o52, Value.slice a54 o55 o56] h30 fun v57 h58 =>
                                    castSl v57 fun a59 o60 o61 =>
                                      optK (ldV P30 4 h.1 0 h58) fun v62 =>
                                        castV v62 fun b63 =>
                                          bif b63 then
                                            optK (stCells h58 (h.1 + 1 + 1) 0 [Value.bool (decide ((↑o60 : Int) > 0)), Value.slice a59 o60 o61]) fun h64 =>
                                              optK (ldV P30 143 (h.1 + 1 + 1) 0 h64) fun v65 => some (v65, h64)
                                          else optK (stCells h58 (h.1 + 1 + 1) 0 [Value.bool false, Value.slice a59 o60 o61]) fun h66 => optK (ldV P30 143 (h.1 + 1 + 1) 0 h66) fun v67 => some (v67, h66) := by kernel_rfl

theorem e96 (r n : Nat) (h : H) (a0_0 : Bool) (a0_1 : Option Addr) (a0_1n : Nat) (a0_1s : Nat) : ev30 r (n + 1) 96 [.agg #[.bool a0_0, .slice a0_1 a0_1n a0_1s]] h =
  optK (ldV P30 4 h.1 0 ((h.new (Blk.cells [Value.bool a0_0, Value.slice a0_1 a0_1n a0_1s] false)).new (Blk.cells [Value.bool false, Value.slice none 0 0] false))) fun v0 =>
    castV v0 fun b1 =>
      bif !b1 then
        optK (ldV P30 141 h.1 1 ((h.new (Blk.cells [Value.bool a0_0, Value.slice a0_1 a0_1n a0_1s] false)).new (Blk.cells [Value.bool false, Value.slice none 0 0] false))) fun v2 =>
          castSl v2 fun _ o4 _ =>
            optK (ldV P30 141 h.1 1 ((h.new (Blk.cells [Value.bool a0_0, Value.slice a0_1 a0_1n a0_1s] false)).new (Blk.cells [Value.bool false, Value.slice none 0 0] false))) fun v6 =>
              castSl v6 fun a7 o8 o9 =>
                optK
                  (stCells ((h.new (Blk.cells [Value.bool a0_0, Value.slice a0_1 a0_1n a0_1s] false)).new (Blk.cells [Value.bool false, Value.slice none 0 0] false)) (h.1 + 1) 0
                    [Value.bool (decide ((↑o4 : Int) > 0)), Value.slice a7 o8 o9])
                  fun h10 => optK (ldV P30 143 (h.1 + 1) 0 h10) fun v11 => some (v11, h10)
      else
        optK (ldV P30 141 h.1 1 ((h.new (Blk.cells [Value.bool a0_0, Value.slice a0_1 a0_1n a0_1s] false)).new (Blk.cells [Value.bool false, Value.slice none 0 0] false))) fun v12 =>
          castSl v12 fun a13 o14 o15 =>
            optK
              (stCells ((h.new (Blk.cells [Value.bool a0_0, Value.slice a0_1 a0_1n a0_1s] false)).new (Blk.cells [Value.bool false, Value.slice none 0 0] false)) (h.1 + 1) 0
                [Value.bool false, Value.slice a13 o14 o15])
              fun h16 => optK (ldV P30 143 (h.1 + 1) 0 h16) fun v17 => some (v17, h16) := by kernel_rfl

theorem e112 (r n : Nat) (h : H) (a0_0 : Int) (a0_1 : Int) (a1 : Int) : ev30 r (n + 1) 112 [.agg #[.int .u64 a0_0, .int .u64 a0_1], .int .u64 a1] h =
  jumpK
    (jmp30 r n 112 0 (pc [1] (bd Tryz.f112))
      (E112_3 (Value.int IntKind.u64 a1) (Value.pointer (some { block := h.1, off := 0 })) (Value.pointer (some { block := h.1 + 1, off := 0 })))
      ((h.new (Blk.cells [Value.int IntKind.u64 a0_0, Value.int IntKind.u64 a0_1] false)).new (Blk.cells [Value.int IntKind.u64 0, Value.int IntKind.u64 0] false)))
    (finK P30 [ResultVar.cell 4 205]) := by kernel_rfl

theorem e112_3c (r n : Nat) (h : H) (x1 : Int) (x2 : Nat) (x4 : Nat) : jmp30 r (n + 1) 112 0 (pc [1] (bd Tryz.f112)) (E112_3 (.int .u64 x1) (.pointer (some ⟨x2, 0, none⟩)) (.pointer (some ⟨x4, 0, none⟩))) h =
  optK (ldV P30 203 x2 1 h) fun v0 =>
    castI IntKind.u64 v0 fun n1 =>
      optK (ldV P30 203 x2 0 h) fun v2 =>
        castI IntKind.u64 v2 fun n3 =>
          optK
            (stCells h x4 0
              [Value.int IntKind.u64 (IntKind.u64.wrap (n3 + Int.ofNat (((n1 : Int).toNat + (x1 : Int).toNat + 0) / 18446744073709551616))),
                Value.int IntKind.u64 (Int.ofNat (((n1 : Int).toNat + (x1 : Int).toNat + 0) % 18446744073709551616))])
            fun h4 => some (Exit.ret, E112_r (Value.pointer (some { block := x4, off := 0 })), h4) := by kernel_rfl

theorem e112_3r (h : H) (x4 : Nat) : (finK P30 [.cell 4 205]) .ret (E112_r (.pointer (some ⟨x4, 0, none⟩))) h =
  optK (ldV P30 205 x4 0 h) fun v0 => some (v0, h) := by kernel_rfl

theorem e113 (r n : Nat) (h : H) (a0 : Int) : ev30 r (n + 1) 113 [.int .i64 a0] h =
  bif decide (a0 < 0) then some (Value.int IntKind.u64 (IntKind.u64.wrap (0 - IntKind.u64.wrap a0)), h) else some (Value.int IntKind.u64 (IntKind.u64.wrap a0), h) := by kernel_rfl

theorem e115 (r n : Nat) (h : H) (a0 : Option Addr) (a0n : Nat) (a0s : Nat) (a1 : Option Addr) (a1n : Nat) (a1s : Nat) : ev30 r (n + 1) 115 [.slice a0 a0n a0s, .slice a1 a1n a1s] h =
  evLoop (evCode P30 (ev30 r n) (jmp30 r n 115) (dead30 115) r 0 (pc [1, 1, 1, 0, 1, 0, 0] (bd Tryz.f115))) (dead30 115 (4 * 0)) (dead30 115 (4 * 0 + 2))
    (dead30 115 1000002) r (E115_0 (Value.slice a0 a0n a0s) (Value.slice a1 a1n a1s) (Value.slice none 0 0) (Value.bool false) (Value.int IntKind.i64 0)) h
    (blockK 0
      (seqK (after P30 (ev30 r n) (jmp30 r n 115) (dead30 115) r 0 (pc [1, 1, 1, 1] (bd Tryz.f115)) (finK P30 [ResultVar.tmp 4]))
        (finK P30 [ResultVar.tmp 4]))) := by kernel_rfl

theorem e115_0 (r n : Nat) (h : H) {R : Type} (x0 : Option Addr) (x0n : Nat) (x0s : Nat) (x1 : Option Addr) (x1n : Nat) (x1s : Nat) (x5 : Option Addr) (x5n : Nat) (x5s : Nat) (x6 : Bool) (x7 : Int) (nx : Env → H → Option R) (K : Exit → Env → H → Option R) : evCode P30 (ev30 r n) (jmp30 r n 115) (dead30 115) r 0 (pc [1, 1, 1, 0, 1, 0, 0] (bd Tryz.f115)) (E115_0 (.slice x0 x0n x0s) (.slice x1 x1n x1s) (.slice x5 x5n x5s) (.bool x6) (.int .i64 x7)) h (loopK nx (dead30 115 (4 * 0)) (dead30 115 (4 * 0 + 2)) (dead30 115 1000002) K) =
  bif decide (x7 < if (↑x1n : Int) > (↑x0n : Int) then (↑x1n : Int) else (↑x0n : Int)) then
    jumpK (jmp30 r n 115 0 (pc [1, 1, 1, 0, 1, 0, 0, 1] (bd Tryz.f115)) (E115_0 (Value.slice x0 x0n x0s) (Value.slice x1 x1n x1s) (Value.slice x5 x5n x5s) (Value.bool x6) (Value.int IntKind.i64 x7)) h)
      (loopK nx (dead30 115 (4 * 0)) (dead30 115 (4 * 0 + 2)) (dead30 115 1000002) K)
  else
    bif x6 then
      jumpK
        (jmp30 r n 115 0 (pc [1, 1, 1, 0, 1, 0, 0, 1] (bd Tryz.f115)) (E115_0 (Value.slice x0 x0n x0s) (Value.slice x1 x1n x1s) (Value.slice x5 x5n x5s) (Value.bool x6) (Value.int IntKind.i64 x7)) h)
        (loopK nx (dead30 115 (4 * 0)) (dead30 115 (4 * 0 + 2)) (dead30 115 1000002) K)
    else K (Exit.exit 0) (E115_2 (Value.slice x5 x5n x5s)) h := by kernel_rfl

theorem e115_0x0 (r n : Nat) (h : H) (x5 : Option Addr) (x5n : Nat) (x5s : Nat) : (blockK 0 (seqK (after P30 (ev30 r n) (jmp30 r n 115) (dead30 115) r 0 (pc [1, 1, 1, 1] (bd Tryz.f115)) (finK P30 [.tmp 4])) (finK P30 [.tmp 4]))) (.exit 0) (E115_2 (.slice x5 x5n x5s)) h =
  callK (ev30 r n) 127 [Value.slice x5 x5n x5s] h fun v0 h1 => castSl v0 fun a2 o3 o4 => some (Value.slice a2 o3 o4, h1) := by kernel_rfl

theorem e115_4000004c (r n : Nat) (h : H) (x0 : Option Addr) (x0n : Nat) (x0s : Nat) (x1 : Option Addr) (x1n : Nat) (x1s : Nat) (x5 : Option Addr) (x5n : Nat) (x5s : Nat) (x6 : Bool) (x7 : Int) : jmp30 r (n + 1) 115 0 (pc [1, 1, 1, 0, 1, 0, 0, 1] (bd Tryz.f115)) (E115_0 (.slice x0 x0n x0s) (.slice x1 x1n x1s) (.slice x5 x5n x5s) (.bool x6) (.int .i64 x7)) h =
  callK (ev30 r n) 126 [Value.slice x0 x0n x0s, Value.int IntKind.i64 x7] h fun v0 h1 =>
    castV v0 fun b2 =>
      callK (ev30 r n) 126 [Value.slice x1 x1n x1s, Value.int IntKind.i64 x7] h1 fun v3 h4 =>
        castV v3 fun b5 =>
          appendA P30 { toList := [141, 141] } (Value.slice x5 x5n x5s) (Value.slice (some { block := h4.1, off := 0 }) 1 1) (h4.new (Blk.cells [Value.bool !(!b2 == b5) == x6] false)) fun v6 h7 =>
            castSl v6 fun a8 o9 o10 =>
              bif b2 then
                bif b5 then some (Exit.normal, E115_0 (Value.slice x0 x0n x0s) (Value.slice x1 x1n x1s) (Value.slice a8 o9 o10) (Value.bool true) (Value.int IntKind.i64 (IntKind.i64.wrap (x7 + 1))), h7)
                else
                  bif x6 then
                    bif b2 then
                      some (Exit.normal, E115_0 (Value.slice x0 x0n x0s) (Value.slice x1 x1n x1s) (Value.slice a8 o9 o10) (Value.bool true) (Value.int IntKind.i64 (IntKind.i64.wrap (x7 + 1))), h7)
                    else some (Exit.normal, E115_0 (Value.slice x0 x0n x0s) (Value.slice x1 x1n x1s) (Value.slice a8 o9 o10) (Value.bool b5) (Value.int IntKind.i64 (IntKind.i64.wrap (x7 + 1))), h7)
                  else some (Exit.normal, E115_0 (Value.slice x0 x0n x0s) (Value.slice x1 x1n x1s) (Value.slice a8 o9 o10) (Value.bool false) (Value.int IntKind.i64 (IntKind.i64.wrap (x7 + 1))), h7)
              else
                bif x6 then
                  bif b2 then
                    some (Exit.normal, E115_0 (Value.slice x0 x0n x0s) (Value.slice x1 x1n x1s) (Value.slice a8 o9 o10) (Value.bool true) (Value.int IntKind.i64 (IntKind.i64.wrap (x7 + 1))), h7)
                  else some (Exit.normal, E115_0 (Value.slice x0 x0n x0s) (Value.slice x1 x1n x1s) (Value.slice a8 o9 o10) (Value.bool b5) (Value.int IntKind.i64 (IntKind.i64.wrap (x7 + 1))), h7)
                else some (Exit.normal, E115_0 (Value.slice x0 x0n x0s) (Value.slice x1 x1n x1s) (Value.slice a8 o9 o10) (Value.bool false) (Value.int IntKind.i64 (IntKind.i64.wrap (x7 + 1))), h7) := by kernel_rfl

theorem e115_4000004n (h : H) {R : Type} (x0 : Option Addr) (x0n : Nat) (x0s : Nat) (x1 : Option Addr) (x1n : Nat) (x1s : Nat) (x5 : Option Addr) (x5n : Nat) (x5s : Nat) (x6 : Bool) (x7 : Int) (nx : Env → H → Option R) (K : Exit → Env → H → Option R) : (loopK nx (dead30 115 (4 * 0)) (dead30 115 (4 * 0 + 2)) (dead30 115 1000002) K) .normal (E115_0 (.slice x0 x0n x0s) (.slice x1 x1n x1s) (.slice x5 x5n x5s) (.bool x6) (.int .i64 x7)) h =
  nx (E115_0 (Value.slice x0 x0n x0s) (Value.slice x1 x1n x1s) (Value.slice x5 x5n x5s) (Value.bool x6) (Value.int IntKind.i64 x7)) h := by kernel_rfl

theorem e116 (r n : Nat) (h : H) (a0 : Option Addr) (a0n : Nat) (a0s : Nat) (a1 : Option Addr) (a1n : Nat) (a1s : Nat) : ev30 r (n + 1) 116 [.slice a0 a0n a0s, .slice a1 a1n a1s] h =
  evLoop (evCode P30 (ev30 r n) (jmp30 r n 116) (dead30 116) r 0 (pc [1, 0, 1, 0, 0] (bd Tryz.f116))) (dead30 116 (4 * 0)) (dead30 116 (4 * 0 + 2))
    (dead30 116 1000002) r
    (E116_0 (Value.slice a0 a0n a0s) (Value.slice a1 a1n a1s) (Value.int IntKind.i64 (IntKind.i64.wrap ((if (↑a1n : Int) > (↑a0n : Int) then (↑a1n : Int) else (↑a0n : Int)) - 1)))) h
    (blockK 0
      (seqK (after P30 (ev30 r n) (jmp30 r n 116) (dead30 116) r 0 (pc [1, 1] (bd Tryz.f116)) (finK P30 [ResultVar.tmp 4])) (finK P30 [ResultVar.tmp 4]))) := by kernel_rfl

theorem e116_0 (r n : Nat) (h : H) {R : Type} (x0 : Option Addr) (x0n : Nat) (x0s : Nat) (x1 : Option Addr) (x1n : Nat) (x1s : Nat) (x5 : Int) (nx : Env → H → Option R) (K : Exit → Env → H → Option R) : evCode P30 (ev30 r n) (jmp30 r n 116) (dead30 116) r 0 (pc [1, 0, 1, 0, 0] (bd Tryz.f116)) (E116_0 (.slice x0 x0n x0s) (.slice x1 x1n x1s) (.int .i64 x5)) h (loopK nx (dead30 116 (4 * 0)) (dead30 116 (4 * 0 + 2)) (dead30 116 1000002) K) =
  bif decide (x5 ≥ 0) then
    callK (ev30 r n) 126 [Value.slice x0 x0n x0s, Value.int IntKind.i64 x5] h fun v0 h1 =>
      castV v0 fun b2 =>
        callK (ev30 r n) 126 [Value.slice x1 x1n x1s, Value.int IntKind.i64 x5] h1 fun v3 h4 =>
          castV v3 fun b5 =>
            bif !b2 == b5 then
              callK (ev30 r n) 126 [Value.slice x0 x0n x0s, Value.int IntKind.i64 x5] h4 fun v6 h7 =>
                castV v6 fun b8 => bif b8 then K Exit.ret (E116_r (Value.int IntKind.i64 1)) h7 else K Exit.ret (E116_r (Value.int IntKind.i64 (-1))) h7
            else nx (E116_0 (Value.slice x0 x0n x0s) (Value.slice x1 x1n x1s) (Value.int IntKind.i64 (IntKind.i64.wrap (x5 - 1)))) h4
  else K (Exit.exit 0) E116_2 h := by kernel_rfl

theorem e116_0x0 (r n : Nat) (h : H) : (blockK 0 (seqK (after P30 (ev30 r n) (jmp30 r n 116) (dead30 116) r 0 (pc [1, 1] (bd Tryz.f116)) (finK P30 [.tmp 4])) (finK P30 [.tmp 4]))) (.exit 0) (E116_2) h =
  some (Value.int IntKind.i64 0, h) := by kernel_rfl

theorem e116_0r (r n : Nat) (h : H) (x4 : Int) : (blockK 0 (seqK (after P30 (ev30 r n) (jmp30 r n 116) (dead30 116) r 0 (pc [1, 1] (bd Tryz.f116)) (finK P30 [.tmp 4])) (finK P30 [.tmp 4]))) .ret (E116_r (.int .i64 x4)) h =
  some (Value.int IntKind.i64 x4, h) := by kernel_rfl

theorem e117 (r n : Nat) (h : H) (a0 : Option Addr) (a0n : Nat) (a0s : Nat) (a1 : Option Addr) (a1n : Nat) (a1s : Nat) : ev30 r (n + 1) 117 [.slice a0 a0n a0s, .slice a1 a1n a1s] h =
  evLoop (evCode P30 (ev30 r n) (jmp30 r n 117) (dead30 117) r 0 (pc [1, 1, 1, 0, 1, 0, 0] (bd Tryz.f117))) (dead30 117 (4 * 0)) (dead30 117 (4 * 0 + 2))
    (dead30 117 1000002) r (E117_0 (Value.slice a0 a0n a0s) (Value.slice a1 a1n a1s) (Value.slice none 0 0) (Value.bool false) (Value.int IntKind.i64 0)) h
    (blockK 0
      (seqK (after P30 (ev30 r n) (jmp30 r n 117) (dead30 117) r 0 (pc [1, 1, 1, 1] (bd Tryz.f117)) (finK P30 [ResultVar.tmp 4]))
        (finK P30 [ResultVar.tmp 4]))) := by kernel_rfl

theorem e117_0 (r n : Nat) (h : H) {R : Type} (x0 : Option Addr) (x0n : Nat) (x0s : Nat) (x1 : Option Addr) (x1n : Nat) (x1s : Nat) (x5 : Option Addr) (x5n : Nat) (x5s : Nat) (x6 : Bool) (x7 : Int) (nx : Env → H → Option R) (K : Exit → Env → H → Option R) : evCode P30 (ev30 r n) (jmp30 r n 117) (dead30 117) r 0 (pc [1, 1, 1, 0, 1, 0, 0] (bd Tryz.f117)) (E117_0 (.slice x0 x0n x0s) (.slice x1 x1n x1s) (.slice x5 x5n x5s) (.bool x6) (.int .i64 x7)) h (loopK nx (dead30 117 (4 * 0)) (dead30 117 (4 * 0 + 2)) (dead30 117 1000002) K) =
  bif decide (x7 < (↑x0n : Int)) then
    indexAddrA P30 141 (Value.slice x0 x0n x0s) (Value.int IntKind.i64 x7) fun v0 =>
      addrK v0 fun o1 o2 =>
        optK (ldV P30 4 o1 o2 h) fun v3 =>
          castV v3 fun b4 =>
            callK (ev30 r n) 126 [Value.slice x1 x1n x1s, Value.int IntKind.i64 x7] h fun v5 h6 =>
              castV v5 fun b7 =>
                appendA P30 { toList := [141, 141] } (Value.slice x5 x5n x5s) (Value.slice (some { block := h6.1, off := 0 }) 1 1) (h6.new (Blk.cells [Value.bool !(!b4 == b7) == x6] false)) fun v8 h9 =>
                  castSl v8 fun a10 o11 o12 =>
                    bif !b4 then
                      bif b7 then nx (E117_0 (Value.slice x0 x0n x0s) (Value.slice x1 x1n x1s) (Value.slice a10 o11 o12) (Value.bool true) (Value.int IntKind.i64 (IntKind.i64.wrap (x7 + 1)))) h9
                      else
                        bif x6 then nx (E117_0 (Value.slice x0 x0n x0s) (Value.slice x1 x1n x1s) (Value.slice a10 o11 o12) (Value.bool true) (Value.int IntKind.i64 (IntKind.i64.wrap (x7 + 1)))) h9
                        else
                          bif b4 then
                            bif b7 then nx (E117_0 (Value.slice x0 x0n x0s) (Value.slice x1 x1n x1s) (Value.slice a10 o11 o12) (Value.bool x6) (Value.int IntKind.i64 (IntKind.i64.wrap (x7 + 1)))) h9
                            else nx (E117_0 (Value.slice x0 x0n x0s) (Value.slice x1 x1n x1s) (Value.slice a10 o11 o12) (Value.bool false) (Value.int IntKind.i64 (IntKind.i64.wrap (x7 + 1)))) h9
                          else nx (E117_0 (Value.slice x0 x0n x0s) (Value.slice x1 x1n x1s) (Value.slice a10 o11 o12) (Value.bool false) (Value.int IntKind.i64 (IntKind.i64.wrap (x7 + 1)))) h9
                    else
                      bif b4 then
                        bif b7 then nx (E117_0 (Value.slice x0 x0n x0s) (Value.slice x1 x1n x1s) (Value.slice a10 o11 o12) (Value.bool x6) (Value.int IntKind.i64 (IntKind.i64.wrap (x7 + 1)))) h9
                        else nx (E117_0 (Value.slice x0 x0n x0s) (Value.slice x1 x1n x1s) (Value.slice a10 o11 o12) (Value.bool false) (Value.int IntKind.i64 (IntKind.i64.wrap (x7 + 1)))) h9
                      else nx (E117_0 (Value.slice x0 x0n x0s) (Value.slice x1 x1n x1s) (Value.slice a10 o11 o12) (Value.bool false) (Value.int IntKind.i64 (IntKind.i64.wrap (x7 + 1)))) h9
  else K (Exit.exit 0) (E117_2 (Value.slice x5 x5n x5s)) h := by kernel_rfl

theorem e117_0x0 (r n : Nat) (h : H) (x5 : Option Addr) (x5n : Nat) (x5s : Nat) : (blockK 0 (seqK (after P30 (ev30 r n) (jmp30 r n 117) (dead30 117) r 0 (pc [1, 1, 1, 1] (bd Tryz.f117)) (finK P30 [.tmp 4])) (finK P30 [.tmp 4]))) (.exit 0) (E117_2 (.slice x5 x5n x5s)) h =
  callK (ev30 r n) 127 [Value.slice x5 x5n x5s] h fun v0 h1 => castSl v0 fun a2 o3 o4 => some (Value.slice a2 o3 o4, h1) := by kernel_rfl

theorem e126 (r n : Nat) (h : H) (a0 : Option Addr) (a0n : Nat) (a0s : Nat) (a1 : Int) : ev30 r (n + 1) 126 [.slice a0 a0n a0s, .int .i64 a1] h =
  bif decide (a1 < (↑a0n : Int)) then
    indexAddrA P30 141 (Value.slice a0 a0n a0s) (Value.int IntKind.i64 a1) fun v0 => addrK v0 fun o1 o2 => optK (ldV P30 4 o1 o2 h) fun v3 => castV v3 fun b4 => some (Value.bool b4, h)
  else some (Value.bool false, h) := by kernel_rfl

theorem e127 (r n : Nat) (h : H) (a0 : Option Addr) (a0n : Nat) (a0s : Nat) : ev30 r (n + 1) 127 [.slice a0 a0n a0s] h =
  evLoop (evCode P30 (ev30 r n) (jmp30 r n 127) (dead30 127) r 0 (pc [1, 1, 0, 0, 0] (bd Tryz.f127))) (dead30 127 (4 * 0)) (dead30 127 (4 * 0 + 2))
    (dead30 127 1000002) r (E127_0 (Value.slice a0 a0n a0s) (Value.int IntKind.i64 (↑a0n : Int))) h
    (blockK 0
      (seqK (after P30 (ev30 r n) (jmp30 r n 127) (dead30 127) r 0 (pc [1, 1, 1] (bd Tryz.f127)) (finK P30 [ResultVar.tmp 2]))
        (finK P30 [ResultVar.tmp 2]))) := by kernel_rfl

theorem e127_0 (r n : Nat) (h : H) {R : Type} (x0 : Option Addr) (x0n : Nat) (x0s : Nat) (x3 : Int) (nx : Env → H → Option R) (K : Exit → Env → H → Option R) : evCode P30 (ev30 r n) (jmp30 r n 127) (dead30 127) r 0 (pc [1, 1, 0, 0, 0] (bd Tryz.f127)) (E127_0 (.slice x0 x0n x0s) (.int .i64 x3)) h (loopK nx (dead30 127 (4 * 0)) (dead30 127 (4 * 0 + 2)) (dead30 127 1000002) K) =
  bif decide (x3 > 0) then
    indexAddrA P30 141 (Value.slice x0 x0n x0s) (Value.int IntKind.i64 (IntKind.i64.wrap (x3 - 1))) fun v0 =>
      addrK v0 fun o1 o2 =>
        optK (ldV P30 4 o1 o2 h) fun v3 =>
          castV v3 fun b4 =>
            bif !b4 then
              jumpK (jmp30 r n 127 0 (pc [1, 1, 0, 0, 0, 1] (bd Tryz.f127)) (E127_0 (Value.slice x0 x0n x0s) (Value.int IntKind.i64 x3)) h)
                (loopK nx (dead30 127 (4 * 0)) (dead30 127 (4 * 0 + 2)) (dead30 127 1000002) K)
            else K (Exit.exit 0) (E127_0 (Value.slice x0 x0n x0s) (Value.int IntKind.i64 x3)) h
  else K (Exit.exit 0) (E127_0 (Value.slice x0 x0n x0s) (Value.int IntKind.i64 x3)) h := by kernel_rfl

theorem e127_0x0 (r n : Nat) (h : H) (x0 : Option Addr) (x0n : Nat) (x0s : Nat) (x3 : Int) : (blockK 0 (seqK (after P30 (ev30 r n) (jmp30 r n 127) (dead30 127) r 0 (pc [1, 1, 1] (bd Tryz.f127)) (finK P30 [.tmp 2])) (finK P30 [.tmp 2]))) (.exit 0) (E127_0 (.slice x0 x0n x0s) (.int .i64 x3)) h =
  sliceA P30 141 (Value.slice x0 x0n x0s) none (some (Value.int IntKind.i64 x3)) fun v0 => castSl v0 fun a1 o2 o3 => some (Value.slice a1 o2 o3, h) := by kernel_rfl

theorem e127_4000004c (r n : Nat) (h : H) (x0 : Option Addr) (x0n : Nat) (x0s : Nat) (x3 : Int) : jmp30 r (n + 1) 127 0 (pc [1, 1, 0, 0, 0, 1] (bd Tryz.f127)) (E127_0 (.slice x0 x0n x0s) (.int .i64 x3)) h =
  some (Exit.normal, E127_0 (Value.slice x0 x0n x0s) (Value.int IntKind.i64 (IntKind.i64.wrap (x3 - 1))), h) := by kernel_rfl

theorem e127_4000004n (h : H) {R : Type} (x0 : Option Addr) (x0n : Nat) (x0s : Nat) (x3 : Int) (nx : Env → H → Option R) (K : Exit → Env → H → Option R) : (loopK nx (dead30 127 (4 * 0)) (dead30 127 (4 * 0 + 2)) (dead30 127 1000002) K) .normal (E127_0 (.slice x0 x0n x0s) (.int .i64 x3)) h =
  nx (E127_0 (Value.slice x0 x0n x0s) (Value.int IntKind.i64 x3)) h := by kernel_rfl

end Go.Ev
