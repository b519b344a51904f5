/-
  Whole numbers as lists of bits, the lowest first: the plain law under the reference's numbers.
-/
import Derived.Test.YtofgaidlepmcmaaGreatDoorEvP
namespace Go.Ev
open Go

def b2n (b : Bool) : Nat := if b then 1 else 0
def val : List Bool → Nat
  | [] => 0
  | b :: l => b2n b + 2 * val l
def bitsF : Nat → Nat → List Bool
  | 0, _ => []
  | f + 1, n => if n = 0 then [] else (n % 2 == 1) :: bitsF f (n / 2)
def bits (n : Nat) : List Bool := bitsF n n

theorem bitsF_enough : ∀ (f g n : Nat), n ≤ f → n ≤ g → bitsF f n = bitsF g n := by
  intro f
  induction f with
  | zero => intro g n hf hg; have : n = 0 := by omega
            subst this; cases g <;> simp [bitsF]
  | succ f ih =>
    intro g n hf hg
    cases g with
    | zero => have : n = 0 := by omega
              subst this; simp [bitsF]
    | succ g =>
      simp only [bitsF]
      by_cases h : n = 0
      · simp [h]
      · rw [if_neg h, if_neg h, ih g (n / 2) (by omega) (by omega)]
theorem bits_zero : bits 0 = [] := rfl
theorem bits_pos {n : Nat} (h : n ≠ 0) : bits n = (n % 2 == 1) :: bits (n / 2) := by
  unfold bits
  cases n with
  | zero => exact absurd rfl h
  | succ n =>
    rw [bitsF, if_neg h, bitsF_enough n ((n + 1) / 2) _ (by omega) (by omega)]
theorem val_bits (n : Nat) : val (bits n) = n := by
  induction n using Nat.strongRecOn with
  | _ n ih =>
    by_cases h : n = 0
    · subst h; rfl
    · rw [bits_pos h, val, ih (n / 2) (by omega)]
      unfold b2n
      by_cases h1 : n % 2 = 1
      · simp [h1]; omega
      · have : n % 2 = 0 := by omega
        simp [this]; omega
theorem bits_length {k : Nat} : ∀ {n : Nat}, n < 2 ^ k → (bits n).length ≤ k := by
  induction k with
  | zero => intro n h; have : n = 0 := by simpa using h
            subst this; simp [bits_zero]
  | succ k ih =>
    intro n h
    by_cases h0 : n = 0
    · subst h0; simp [bits_zero]
    · rw [bits_pos h0, List.length_cons]
      have := ih (n := n / 2) (by rw [Nat.pow_succ] at h; omega)
      omega
theorem bits_nil {n : Nat} : bits n = [] ↔ n = 0 := by
  constructor
  · intro h; have := val_bits n; rw [h] at this; simpa [val] using this.symm
  · intro h; subst h; rfl
theorem val_lt (l : List Bool) : val l < 2 ^ l.length := by
  induction l with
  | nil => simp [val]
  | cons b l ih =>
    have : b2n b ≤ 1 := by unfold b2n; split <;> omega
    simp only [val, List.length_cons, Nat.pow_succ]; omega
theorem val_append (l m : List Bool) : val (l ++ m) = val l + 2 ^ l.length * val m := by
  induction l with
  | nil => simp [val]
  | cons b l ih =>
    simp only [List.cons_append, val, ih, List.length_cons]
    have : 2 ^ (l.length + 1) * val m = 2 * (2 ^ l.length * val m) := by rw [Nat.pow_succ, Nat.mul_comm (2 ^ l.length) 2, Nat.mul_assoc]
    omega
theorem val_snoc (l : List Bool) (b : Bool) : val (l ++ [b]) = val l + 2 ^ l.length * b2n b := by
  rw [val_append]; simp [val]
/-- What ends in a bit that is set is its number's own. -/
theorem bits_val : ∀ (l : List Bool), (l = [] ∨ l.getLast? = some true) → bits (val l) = l := by
  intro l
  induction l with
  | nil => intro _; rfl
  | cons b l ih =>
    intro h
    have hb : b2n b ≤ 1 := by unfold b2n; split <;> omega
    cases l with
    | nil =>
      have : b = true := by simpa using h
      subst this
      decide
    | cons c l =>
      have hl : bits (val (c :: l)) = c :: l := ih (by simpa using h)
      have hpos : val (c :: l) ≠ 0 := by
        intro e
        rw [e] at hl; simp [bits_zero] at hl
      rw [val, bits_pos (by omega)]
      have e1 : (b2n b + 2 * val (c :: l)) % 2 = b2n b := by omega
      have e2 : (b2n b + 2 * val (c :: l)) / 2 = val (c :: l) := by omega
      rw [e1, e2, hl]
      cases b <;> simp [b2n]
def bitAt (l : List Bool) (i : Nat) : Bool := l.getD i false
theorem bitAt_lt {l : List Bool} {i : Nat} (h : i < l.length) : l[i]? = some (bitAt l i) := by
  simp [bitAt, List.getD_eq_getElem?_getD, h]
theorem bitAt_ge {l : List Bool} {i : Nat} (h : l.length ≤ i) : bitAt l i = false := by
  simp [bitAt, List.getD_eq_getElem?_getD, h]
/-- The lower bits. -/
def lower (l : List Bool) (i : Nat) : Nat := val (l.take i)
theorem lower_zero (l : List Bool) : lower l 0 = 0 := by simp [lower, val]
theorem lower_succ (l : List Bool) (i : Nat) : lower l (i + 1) = lower l i + 2 ^ i * b2n (bitAt l i) := by
  unfold lower
  by_cases h : i < l.length
  · rw [List.take_succ_eq_append_getElem h, val_snoc]
    have : bitAt l i = l[i] := by simp [bitAt, List.getD_eq_getElem?_getD, h]
    rw [this, List.length_take, Nat.min_eq_left (by omega)]
  · rw [List.take_of_length_le (by omega), List.take_of_length_le (by omega), bitAt_ge (by omega)]
    simp [b2n]
theorem lower_all {l : List Bool} {i : Nat} (h : l.length ≤ i) : lower l i = val l := by
  unfold lower; rw [List.take_of_length_le h]
theorem lower_lt (l : List Bool) (i : Nat) : lower l i < 2 ^ i := by
  have h1 := val_lt (l.take i)
  have h2 : 2 ^ (l.take i).length ≤ 2 ^ i := Nat.pow_le_pow_right (by omega) (by rw [List.length_take]; omega)
  unfold lower; omega
theorem val_testBit (l : List Bool) : ∀ i, (val l).testBit i = bitAt l i := by
  induction l with
  | nil => intro i; simp [val, bitAt]
  | cons b l ih =>
    intro i
    cases i with
    | zero => cases b <;> simp [val, bitAt, b2n, Nat.testBit_zero, Nat.add_mul_mod_self_left]
    | succ i =>
      rw [Nat.testBit_succ]
      have : (val (b :: l)) / 2 = val l := by
        have : b2n b ≤ 1 := by unfold b2n; split <;> omega
        rw [val]; omega
      rw [this, ih]
      simp [bitAt]
theorem lt_of_top : ∀ (i x y : Nat), x.testBit i = false → y.testBit i = true → (∀ j, i < j → x.testBit j = y.testBit j) → x < y := by
  intro i
  induction i with
  | zero =>
    intro x y hx hy h
    have e : x / 2 = y / 2 := Nat.eq_of_testBit_eq fun j => by rw [← Nat.testBit_succ, ← Nat.testBit_succ]; exact h (j + 1) (by omega)
    rw [Nat.testBit_zero] at hx hy
    simp at hx hy
    omega
  | succ i ih =>
    intro x y hx hy h
    have := ih (x / 2) (y / 2) (by rw [← Nat.testBit_succ]; exact hx) (by rw [← Nat.testBit_succ]; exact hy) fun j hj => by rw [← Nat.testBit_succ, ← Nat.testBit_succ]; exact h (j + 1) (by omega)
    omega
/-- Nothing set from a place on. -/
theorem bits_take {l : List Bool} {n : Nat} (hn : n ≤ l.length) (h : ∀ i, n ≤ i → bitAt l i = false) (hl : n = 0 ∨ bitAt l (n - 1) = true) : l.take n = bits (val l) := by
  have e : val l = val (l.take n) := by
    have key : ∀ m, lower l (n + m) = lower l n := by
      intro m
      induction m with
      | zero => rfl
      | succ m ih => rw [← Nat.add_assoc, lower_succ, h (n + m) (by omega), ih]; simp [b2n]
    have := key (l.length - n)
    rw [show n + (l.length - n) = l.length from by omega, lower_all (Nat.le_refl _)] at this
    exact this
  rw [e, bits_val]
  rcases Nat.eq_zero_or_pos n with h0 | h0
  · left; simp [h0]
  · right
    rcases hl with hl | hl
    · omega
    · rw [List.getLast?_eq_getElem?, List.length_take, Nat.min_eq_left hn, List.getElem?_take, if_pos (by omega), bitAt_lt (by omega), hl]

/-- One place of a sum. -/
theorem add_step {x y c : Bool} : b2n ((x != y) != c) + 2 * b2n (x && y || c && (x || y)) = b2n x + b2n y + b2n c := by cases x <;> cases y <;> cases c <;> rfl
/-- One place of a difference. -/
theorem sub_step {x y c : Bool} : b2n ((x != y) != c) + b2n y + b2n c = b2n x + 2 * b2n (!x && (y || c) || x && y && c) := by cases x <;> cases y <;> cases c <;> rfl

theorem wrap_id {n : Int} (h : -9223372036854775808 ≤ n) (h' : n < 9223372036854775808) : IntKind.i64.wrap n = n := by
  unfold IntKind.wrap
  have e1 : IntKind.i64.bits = 64 := rfl
  have e2 : IntKind.i64.signed = true := rfl
  rw [e1, e2]
  simp only [Bool.true_and]
  rcases Int.lt_or_le n 0 with hn | hn
  · have : n % (2 ^ 64 : Int) = n + 2 ^ 64 := by omega
    rw [this]; split <;> simp_all <;> omega
  · have : n % (2 ^ 64 : Int) = n := by omega
    rw [this]; split <;> simp_all <;> omega
theorem wrapu_eq (n : Int) : IntKind.u64.wrap n = n % 18446744073709551616 := by
  unfold IntKind.wrap
  have e1 : IntKind.u64.bits = 64 := rfl
  have e2 : IntKind.u64.signed = false := rfl
  rw [e1, e2]
  simp
theorem wrapu_id {n : Int} (h : 0 ≤ n) (h' : n < 18446744073709551616) : IntKind.u64.wrap n = n := by rw [wrapu_eq]; omega
/-- One more. -/
theorem wrap_succ {k : Nat} (h : k < 9000000000000000000) : IntKind.i64.wrap ((k : Int) + 1) = ((k + 1 : Nat) : Int) := by rw [wrap_id (by omega) (by omega)]; omega
theorem wrap_pred {k : Nat} (h0 : 0 < k) (h : k < 9000000000000000000) : IntKind.i64.wrap ((k : Int) - 1) = ((k - 1 : Nat) : Int) := by rw [wrap_id (by omega) (by omega)]; omega

/-- A whole number's sign and bits. -/
def sgn (z : Int) : Bool := decide (z < 0)
def mag (z : Int) : List Bool := bits z.natAbs
end Go.Ev
