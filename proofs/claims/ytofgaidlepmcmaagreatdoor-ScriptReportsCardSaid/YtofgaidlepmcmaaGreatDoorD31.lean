/-
  spigotref08.Digits: a number from 0 on, written out.
-/
import Derived.WalkKit
import Derived.Deep.RegionWith
import Derived.Below
import Derived.Lib.ItoaNum
import Derived.Laws.BytesString
import Derived.Laws.Concat
import Derived.Test.YtofgaidlepmcmaaGreatDoorProg
namespace Go.Proofs
open Go.RowKit
set_option maxRecDepth 100000
set_option maxHeartbeats 400000

def one (x : Int) : ByteArray := ByteArray.empty.push (UInt8.ofNat x.toNat)
theorem one_size (x : Int) : (one x).size = 1 := rfl
theorem conv1 {b : Nat} {x : Int} {W : World} (hb : W.cell? ⟨b, 0, none⟩ = some (.int .u8 x)) : (convert 46 9 (.slice (some ⟨b, 0, none⟩) 1 1)).run Tryz.prog W = .ok (.string (one x)) W := by
  rw [run_convert_bytes_string W 46 9 5 _ _ _ (by kernel_rfl) (by kernel_rfl) (by kernel_rfl)]
  refine run_bytesToString W ⟨b, 0, none⟩ 1 1 [x] ?_
  go_simp
@[local go_sem] theorem conv_fresh (x : Int) (W : World) (t : TypeId) : (convert 46 9 (.slice (some ⟨W.heap.size, 0, none⟩) 1 1)).run Tryz.prog (W.alloc (.cells #[.int .u8 x] t)) = .ok (.string (one x)) (W.alloc (.cells #[.int .u8 x] t)) :=
  conv1 (by go_simp)
@[local go_sem] theorem conv_fresh' (x : Int) (W : World) (t : TypeId) : (convert 46 9 (.slice (some ⟨W.heap.size, 0, none⟩) 1 1)).run Tryz.prog ((W.alloc (.cells #[.int .u8 x] t)).drew) = .ok (.string (one x)) ((W.alloc (.cells #[.int .u8 x] t)).drew) :=
  conv1 (by go_simp)
theorem conv_bel {x : Int} {W W' : World} {t : TypeId} (bel : Below ((W.alloc (.cells #[.int .u8 x] t)).drew).heap.size ((W.alloc (.cells #[.int .u8 x] t)).drew) W') : (convert 46 9 (.slice (some ⟨W.heap.size, 0, none⟩) 1 1)).run Tryz.prog W' = .ok (.string (one x)) W' := by
  refine conv1 ?_
  have h1 : (W.alloc (.cells #[.int .u8 x] t)).cell? ⟨W.heap.size, 0, none⟩ = some (.int .u8 x) := by go_simp
  have hb : W'.heap[W.heap.size]? = (W.alloc (.cells #[.int .u8 x] t)).heap[W.heap.size]? := bel.block W.heap.size (by show W.heap.size < (W.heap.push _).size; rw [Array.size_push]; omega)
  unfold World.cell? at h1 ⊢
  simp only at h1 ⊢
  rw [hb]; exact h1
theorem below_a {w w' : World} (o : Obj) (bel : Below w.drew.heap.size w.drew w') : Below w.heap.size w (w'.alloc o) := by
  refine ⟨bel.os, bel.tape, bel.output, ?_, fun b hb => ?_⟩
  · have h1 : w.heap.size ≤ w'.heap.size := bel.size
    show w.heap.size ≤ (w'.heap.push o).size
    rw [Array.size_push]; omega
  · have h1 : w.heap.size ≤ w'.heap.size := bel.size
    have h2 : w'.heap[b]? = w.heap[b]? := bel.block b hb
    show (w'.heap.push o)[b]? = w.heap[b]?
    rw [Array.getElem?_push, if_neg (by omega)]
    exact h2
theorem below_b {w w' : World} {o : Obj} (bel : Below ((w.alloc o).drew).heap.size ((w.alloc o).drew) w') : Below w.heap.size w w' := by
  have hs : w.heap.size + 1 ≤ w'.heap.size := by
    have h1 : (w.heap.push o).size ≤ w'.heap.size := bel.size
    rwa [Array.size_push] at h1
  refine ⟨bel.os, bel.tape, bel.output, by omega, fun b hb => ?_⟩
  have h2 : w'.heap[b]? = (w.heap.push o)[b]? := bel.block b (by show b < (w.heap.push o).size; rw [Array.size_push]; omega)
  rw [h2, Array.getElem?_push, if_neg (by omega)]
theorem below_c (w : World) (o : Obj) : Below w.heap.size w (w.alloc o) := by
  refine ⟨rfl, rfl, rfl, ?_, fun b hb => ?_⟩
  · show w.heap.size ≤ (w.heap.push o).size
    rw [Array.size_push]; omega
  · show (w.heap.push o)[b]? = w.heap[b]?
    rw [Array.getElem?_push, if_neg (by omega)]

theorem run_short {P : Program} {w : World} {a : ByteArray} (h : a.size ≤ 1000) (x : Int) : (Op.stringOp .add a (one x)).run P w = .ok (.string (a ++ one x)) w :=
  run_string_add_sum (w := w) (P := P) a (one x) (by rw [one_size]; omega)
theorem one_data (x : Int) : one x = ⟨#[UInt8.ofNat x.toNat]⟩ := rfl
theorem dec_len : ∀ (k n : Nat), n < 10 ^ k → 0 < k → (Lib.decDigits n).length ≤ k := by
  intro k
  induction k with
  | zero => intro n _ h; omega
  | succ k ih =>
    intro n hn _
    rw [Lib.decDigits]
    split
    · simp
    · rw [List.length_append, List.length_singleton]
      have hk : 0 < k := by
        rcases Nat.eq_zero_or_pos k with rfl | h
        · simp at hn; omega
        · exact h
      have := ih (n / 10) (by rw [Nat.pow_succ] at hn; omega) hk
      omega
theorem small_wrap {m : Nat} (hm : m < 10) : IntKind.u8.wrap (IntKind.i64.wrap (48 + ((m : Nat) : Int))) = ((48 + m : Nat) : Int) := by
  have h : m = 0 ∨ m = 1 ∨ m = 2 ∨ m = 3 ∨ m = 4 ∨ m = 5 ∨ m = 6 ∨ m = 7 ∨ m = 8 ∨ m = 9 := by omega
  rcases h with rfl | rfl | rfl | rfl | rfl | rfl | rfl | rfl | rfl | rfl <;> decide
theorem wrap_nat {m : Nat} (hm : m ≤ 9223372036854775807) : IntKind.i64.wrap ((m : Nat) : Int) = ((m : Nat) : Int) := by
  unfold IntKind.wrap
  have q1 : IntKind.i64.bits = 64 := rfl
  have q2 : IntKind.i64.signed = true := rfl
  rw [q1, q2]
  simp only [Bool.true_and]
  split <;> simp_all <;> omega

theorem digits_small (n : Nat) (hn : n < 10) (w : World) : Calls Tryz.prog 63 #[.int .i64 (n : Int)] w fun e w' => e = .returned (.string ⟨(Lib.decDigits n).toArray⟩) ∧ Below w.heap.size w w' := by
  have h10 : ((n : Int) < 10) := by omega
  have ht : one (48 + (n : Int)) = ⟨(Lib.decDigits n).toArray⟩ := by
    rw [Lib.decDigits, dif_pos hn, one_data]
    have : (48 + (n : Int)).toNat = 48 + n := by omega
    rw [this]
  go_enter Tryz.func63, Tryz.ntmps63
  go_wp2
  all_goals go_ret
  all_goals exact ⟨rfl, below_c _ _⟩

theorem digits_calls : ∀ (m n : Nat), n < m → n ≤ 9223372036854775807 → ∀ (w : World), Calls Tryz.prog 63 #[.int .i64 (n : Int)] w fun e w' => e = .returned (.string ⟨(Lib.decDigits n).toArray⟩) ∧ Below w.heap.size w w' := by
  intro m
  induction m with
  | zero => intro n h; omega
  | succ m ih =>
    intro n hn hmax w
    by_cases h9 : n < 10
    · exact digits_small n h9 w
    · have h10 : ¬ ((n : Int) < 10) := by omega
      have hq : IntKind.i64.wrap ((n : Int) / 10) = ((n / 10 : Nat) : Int) := by
        have : (n : Int) / 10 = ((n / 10 : Nat) : Int) := by omega
        rw [this, wrap_nat (by omega)]
      have hr : IntKind.u8.wrap (IntKind.i64.wrap (48 + (n : Int).tmod 10)) = ((48 + n % 10 : Nat) : Int) := by
        have : (n : Int).tmod 10 = ((n % 10 : Nat) : Int) := by
          rw [Int.tmod_eq_emod_of_nonneg (by omega)]; omega
        rw [this, small_wrap (by omega)]
      have ht : (⟨(Lib.decDigits (IntKind.i64.wrap ((n : Int) / 10)).toNat).toArray⟩ : ByteArray) ++ one (IntKind.u8.wrap (IntKind.i64.wrap (48 + (n : Int).tmod 10))) = ⟨(Lib.decDigits n).toArray⟩ := by
        rw [hq, hr, one_data, Int.toNat_natCast, Int.toNat_natCast, Lib.decDigits.eq_def n, dif_neg h9]
        simp [ByteArray.ext_iff]
      have ih' : ∀ w : World, Calls Tryz.prog 63 #[.int .i64 (IntKind.i64.wrap ((n : Int) / 10))] w fun e w' => e = .returned (.string ⟨(Lib.decDigits (IntKind.i64.wrap ((n : Int) / 10)).toNat).toArray⟩) ∧ Below w.heap.size w w' := by
        rw [hq, Int.toNat_natCast]
        exact ih (n / 10) (by omega) (by omega)
      have hsz : (⟨(Lib.decDigits (IntKind.i64.wrap ((n : Int) / 10)).toNat).toArray⟩ : ByteArray).size ≤ 1000 := by
        rw [hq, Int.toNat_natCast]
        have := dec_len 19 (n / 10) (by omega) (by omega)
        show ((Lib.decDigits (n / 10)).toArray).size ≤ 1000
        simp; omega
      clear hq hr
      go_enter Tryz.func63, Tryz.ntmps63
      go_wp2_with fail
      go_region_with (go_at_call 63; refine (ih' _).mono ?_; rintro e w' ⟨rfl, bel⟩; have hadd := fun (x : Int) (w : World) => run_short (P := Tryz.prog) (w := w) hsz x; first | (have hcv := conv_bel bel) | skip)
      all_goals go_wp2_with fail
      all_goals go_ret
      all_goals refine ⟨rfl, ?_⟩
      all_goals first | exact below_a _ bel | exact below_b bel
end Go.Proofs
