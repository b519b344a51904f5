/-
  Audit: sums that are checked.
-/
import Derived.Test.YtmblcddkoeaaeaaGreatG30
namespace Go.Ev
open Go Go.Proofs

theorem agg203 : aggT P30 203 = some false := by kernel_rfl
theorem agg205 : aggT P30 205 = some true := by kernel_rfl
theorem cel205 : cellsOf P30 205 = some 2 := by kernel_rfl
theorem agg207 : aggT P30 207 = some true := by kernel_rfl
theorem cel207 : cellsOf P30 207 = some 4 := by kernel_rfl
theorem agg3 : aggT P30 3 = some false := by kernel_rfl
theorem und28 : P30.underlying 28 = some (.slice 3) := by kernel_rfl
theorem cel3 : cellsOf P30 3 = some 1 := by kernel_rfl

/-- A number from 0 on, in two words. -/
def wd (w : Nat) : List Value := [.int .u64 ((w / 18446744073709551616 : Nat) : Int), .int .u64 ((w % 18446744073709551616 : Nat) : Int)]

section
variable {r n : Nat} {h : H} {a b : Option Addr} {sa sb : Nat}

theorem c_wplus {w x : Nat} (hw : w < 340282366920938463463374607431768211456) (hx : x < 18446744073709551616) (hs : w + x < 340282366920938463463374607431768211456) :
    Gives (ev30 r (n + 2) 112 [.agg ⟨wd w⟩, .int .u64 (x : Int)] h) fun v h' => v = .agg ⟨wd (w + x)⟩ ∧ Ext h h' := by
  show Gives (ev30 r (n + 1 + 1) 112 [.agg #[.int .u64 ((w / 18446744073709551616 : Nat) : Int), .int .u64 ((w % 18446744073709551616 : Nat) : Int)], .int .u64 (x : Int)] h) _
  rw [e112]
  generalize hX : Blk.cells [Value.int IntKind.u64 ((w / 18446744073709551616 : Nat) : Int), Value.int IntKind.u64 ((w % 18446744073709551616 : Nat) : Int)] false = X
  have HX : Has ((h.new X).new (.cells [.int .u64 0, .int .u64 0] false)) h.next X := (Has.here _ _).new _
  have HZ : Has ((h.new X).new (.cells [.int .u64 0, .int .u64 0] false)) (h.next + 1) (.cells [.int .u64 0, .int .u64 0] false) := Has.here (h.new X) _
  have E2 : Ext h ((h.new X).new (.cells [.int .u64 0, .int .u64 0] false)) := ((Ext.refl h).new _).new _
  generalize hv : (h.new X).new (.cells [.int .u64 0, .int .u64 0] false) = v at *
  subst hX
  have l0 : ldV P30 203 h.next 0 v = some (.int .u64 ((w / 18446744073709551616 : Nat) : Int)) := ld_at agg203 HX
  have l1 : ldV P30 203 h.next 1 v = some (.int .u64 ((w % 18446744073709551616 : Nat) : Int)) := ld_at agg203 HX
  have e1 : IntKind.u64.wrap (((w / 18446744073709551616 : Nat) : Int) + Int.ofNat (((((w % 18446744073709551616 : Nat) : Int)).toNat + ((x : Int)).toNat + 0) / 18446744073709551616)) = (((w + x) / 18446744073709551616 : Nat) : Int) := by
    rw [Int.toNat_natCast, Int.toNat_natCast, Nat.add_zero]
    show IntKind.u64.wrap (((w / 18446744073709551616 : Nat) : Int) + (((w % 18446744073709551616 + x) / 18446744073709551616 : Nat) : Int)) = _
    rw [wrapu_id (by omega) (by omega)]
    omega
  have e2 : Int.ofNat (((((w % 18446744073709551616 : Nat) : Int)).toNat + ((x : Int)).toNat + 0) % 18446744073709551616) = (((w + x) % 18446744073709551616 : Nat) : Int) := by
    rw [Int.toNat_natCast, Int.toNat_natCast, Nat.add_zero]
    show (((w % 18446744073709551616 + x) % 18446744073709551616 : Nat) : Int) = _
    omega
  refine Gives.jump (Q := fun y env h' => y = .ret ∧ env = E112_r (.pointer (some ⟨h.next + 1, 0, none⟩)) ∧ Ext h h' ∧ Has h' (h.next + 1) (.cells (wd (w + x)) false)) ?_ ?_
  · rw [e112_3c, l1, optK_mk, castI_mk, l0, optK_mk, castI_mk, e1, e2]
    rw [st_all (vs := [Value.int IntKind.u64 (((w + x) / 18446744073709551616 : Nat) : Int), Value.int IntKind.u64 (((w + x) % 18446744073709551616 : Nat) : Int)]) HZ rfl, optK_mk]
    exact .mk ⟨rfl, rfl, E2.put (by omega) _, HZ.over _⟩
  · rintro y env h' ⟨rfl, rfl, E, H⟩
    rw [e112_3r, ld_agg agg205 cel205 H (by simp [wd]), optK_mk]
    exact .mk ⟨rfl, E⟩

theorem c_size {z : Int} (hz : -9223372036854775808 ≤ z ∧ z < 9223372036854775808) : ev30 r (n + 1) 113 [.int .i64 z] h = some (.int .u64 ((z.natAbs : Nat) : Int), h) := by
  rw [e113]
  by_cases h0 : z < 0
  · rw [decide_eq_true h0, cond_true]
    have : IntKind.u64.wrap (0 - IntKind.u64.wrap z) = ((z.natAbs : Nat) : Int) := by rw [wrapu_eq, wrapu_eq]; omega
    rw [this]
  · rw [decide_eq_false h0, cond_false, wrapu_id (by omega) (by omega)]
    have : z = ((z.natAbs : Nat) : Int) := by omega
    rw [← this]

theorem c_wless {w v : Nat} (hw : w < 340282366920938463463374607431768211456) (hv : v < 340282366920938463463374607431768211456) :
    Gives (ev30 r (n + 2) 90 [.agg ⟨wd w⟩, .agg ⟨wd v⟩] h) fun y h' => y = .bool (decide (w < v)) ∧ Ext h h' := by
  show Gives (ev30 r (n + 1 + 1) 90 [.agg #[.int .u64 ((w / 18446744073709551616 : Nat) : Int), .int .u64 ((w % 18446744073709551616 : Nat) : Int)], .agg #[.int .u64 ((v / 18446744073709551616 : Nat) : Int), .int .u64 ((v % 18446744073709551616 : Nat) : Int)]] h) _
  rw [e90]
  generalize hX : Blk.cells [Value.int IntKind.u64 ((w / 18446744073709551616 : Nat) : Int), Value.int IntKind.u64 ((w % 18446744073709551616 : Nat) : Int)] false = X
  generalize hY : Blk.cells [Value.int IntKind.u64 ((v / 18446744073709551616 : Nat) : Int), Value.int IntKind.u64 ((v % 18446744073709551616 : Nat) : Int)] false = Y
  have HX : Has ((h.new X).new Y) h.next X := (Has.here _ _).new _
  have HY : Has ((h.new X).new Y) (h.next + 1) Y := Has.here (h.new X) _
  have E2 : Ext h ((h.new X).new Y) := ((Ext.refl h).new _).new _
  generalize hm : (h.new X).new Y = m at *
  subst hX hY
  have l0 : ldV P30 203 h.next 0 m = some (.int .u64 ((w / 18446744073709551616 : Nat) : Int)) := ld_at agg203 HX
  have l1 : ldV P30 203 h.next 1 m = some (.int .u64 ((w % 18446744073709551616 : Nat) : Int)) := ld_at agg203 HX
  have k0 : ldV P30 203 (h.next + 1) 0 m = some (.int .u64 ((v / 18446744073709551616 : Nat) : Int)) := ld_at agg203 HY
  have k1 : ldV P30 203 (h.next + 1) 1 m = some (.int .u64 ((v % 18446744073709551616 : Nat) : Int)) := ld_at agg203 HY
  refine Gives.jump (Q := fun y env h' => y = .ret ∧ env = E90_r (.bool (decide (w < v))) ∧ h' = m) ?_ ?_
  · rw [e90_3c, l0, optK_mk, castI_mk, k0, optK_mk, castI_mk]
    by_cases h1 : ((w / 18446744073709551616 : Nat) : Int) < ((v / 18446744073709551616 : Nat) : Int)
    · rw [decide_eq_true h1, cond_true]
      exact .mk ⟨rfl, by rw [decide_eq_true (by omega)], rfl⟩
    · rw [decide_eq_false h1, cond_false, optK_mk, castI_mk, optK_mk, castI_mk]
      by_cases h2 : ((w / 18446744073709551616 : Nat) : Int) = ((v / 18446744073709551616 : Nat) : Int)
      · have e : (((w / 18446744073709551616 : Nat) : Int) == ((v / 18446744073709551616 : Nat) : Int)) = true := by simp only [beq_iff_eq]; exact h2
        rw [e, cond_true, l1, optK_mk, castI_mk, k1, optK_mk, castI_mk]
        have e5 : decide (((w % 18446744073709551616 : Nat) : Int) < ((v % 18446744073709551616 : Nat) : Int)) = decide (w < v) := by rw [decide_eq_decide]; omega
        rw [e5]
        exact .mk ⟨rfl, rfl, rfl⟩
      · have e : (((w / 18446744073709551616 : Nat) : Int) == ((v / 18446744073709551616 : Nat) : Int)) = false := by rw [beq_eq_false_iff_ne]; exact h2
        rw [e, cond_false]
        exact .mk ⟨rfl, by rw [decide_eq_false (by omega)], rfl⟩
  · rintro y env h' ⟨rfl, rfl, rfl⟩
    rw [e90_3r]; exact .mk ⟨rfl, E2⟩

theorem c_wminus {w v : Nat} (hw : w < 340282366920938463463374607431768211456) (hv : v ≤ w) :
    Gives (ev30 r (n + 2) 91 [.agg ⟨wd w⟩, .agg ⟨wd v⟩] h) fun y h' => y = .agg ⟨wd (w - v)⟩ ∧ Ext h h' := by
  show Gives (ev30 r (n + 1 + 1) 91 [.agg #[.int .u64 ((w / 18446744073709551616 : Nat) : Int), .int .u64 ((w % 18446744073709551616 : Nat) : Int)], .agg #[.int .u64 ((v / 18446744073709551616 : Nat) : Int), .int .u64 ((v % 18446744073709551616 : Nat) : Int)]] h) _
  rw [e91]
  generalize hX : Blk.cells [Value.int IntKind.u64 ((w / 18446744073709551616 : Nat) : Int), Value.int IntKind.u64 ((w % 18446744073709551616 : Nat) : Int)] false = X
  generalize hY : Blk.cells [Value.int IntKind.u64 ((v / 18446744073709551616 : Nat) : Int), Value.int IntKind.u64 ((v % 18446744073709551616 : Nat) : Int)] false = Y
  have HX : Has (((h.new X).new Y).new (.cells [.int .u64 0, .int .u64 0] false)) h.next X := ((Has.here _ _).new _).new _
  have HY : Has (((h.new X).new Y).new (.cells [.int .u64 0, .int .u64 0] false)) (h.next + 1) Y := (Has.here (h.new X) _).new _
  have HZ : Has (((h.new X).new Y).new (.cells [.int .u64 0, .int .u64 0] false)) (h.next + 1 + 1) (.cells [.int .u64 0, .int .u64 0] false) := Has.here ((h.new X).new Y) _
  have E2 : Ext h (((h.new X).new Y).new (.cells [.int .u64 0, .int .u64 0] false)) := (((Ext.refl h).new _).new _).new _
  generalize hm : ((h.new X).new Y).new (.cells [.int .u64 0, .int .u64 0] false) = m at *
  subst hX hY
  have l0 : ldV P30 203 h.next 0 m = some (.int .u64 ((w / 18446744073709551616 : Nat) : Int)) := ld_at agg203 HX
  have l1 : ldV P30 203 h.next 1 m = some (.int .u64 ((w % 18446744073709551616 : Nat) : Int)) := ld_at agg203 HX
  have k0 : ldV P30 203 (h.next + 1) 0 m = some (.int .u64 ((v / 18446744073709551616 : Nat) : Int)) := ld_at agg203 HY
  have k1 : ldV P30 203 (h.next + 1) 1 m = some (.int .u64 ((v % 18446744073709551616 : Nat) : Int)) := ld_at agg203 HY
  have e2 : Int.ofNat (((((w % 18446744073709551616 : Nat) : Int)).toNat + 18446744073709551616 - (((v % 18446744073709551616 : Nat) : Int)).toNat - 0) % 18446744073709551616) = (((w - v) % 18446744073709551616 : Nat) : Int) := by
    rw [Int.toNat_natCast, Int.toNat_natCast]
    show (((w % 18446744073709551616 + 18446744073709551616 - v % 18446744073709551616 - 0) % 18446744073709551616 : Nat) : Int) = _
    omega
  have e1 : IntKind.u64.wrap (IntKind.u64.wrap (((w / 18446744073709551616 : Nat) : Int) - ((v / 18446744073709551616 : Nat) : Int)) - Int.ofNat (if (((w % 18446744073709551616 : Nat) : Int)).toNat < (((v % 18446744073709551616 : Nat) : Int)).toNat + ((0 : Int)).toNat then 1 else 0)) = (((w - v) / 18446744073709551616 : Nat) : Int) := by
    rw [Int.toNat_natCast, Int.toNat_natCast]
    rw [wrapu_id (n := ((w / 18446744073709551616 : Nat) : Int) - ((v / 18446744073709551616 : Nat) : Int)) (by omega) (by omega)]
    by_cases hb : w % 18446744073709551616 < v % 18446744073709551616 + (0 : Int).toNat
    · rw [if_pos hb]
      have hb' : w % 18446744073709551616 < v % 18446744073709551616 := hb
      rw [wrapu_id (by show (0 : Int) ≤ _ - (((1 : Nat) : Int)); omega) (by show _ - (((1 : Nat) : Int)) < _; omega)]
      show _ - (((1 : Nat) : Int)) = _
      omega
    · rw [if_neg hb]
      have hb' : ¬ w % 18446744073709551616 < v % 18446744073709551616 := hb
      rw [wrapu_id (by show (0 : Int) ≤ _ - (((0 : Nat) : Int)); omega) (by show _ - (((0 : Nat) : Int)) < _; omega)]
      show _ - (((0 : Nat) : Int)) = _
      omega
  refine Gives.jump (Q := fun y env h' => y = .ret ∧ env = E91_r (.pointer (some ⟨h.next + 1 + 1, 0, none⟩)) ∧ Ext h h' ∧ Has h' (h.next + 1 + 1) (.cells (wd (w - v)) false)) ?_ ?_
  · rw [e91_3c, l1, optK_mk, castI_mk, k1, optK_mk, castI_mk, l0, optK_mk, castI_mk, k0, optK_mk, castI_mk, e1, e2]
    rw [st_all (vs := [Value.int IntKind.u64 (((w - v) / 18446744073709551616 : Nat) : Int), Value.int IntKind.u64 (((w - v) % 18446744073709551616 : Nat) : Int)]) HZ rfl, optK_mk]
    exact .mk ⟨rfl, rfl, E2.put (by omega) _, HZ.over _⟩
  · rintro y env h' ⟨rfl, rfl, E, H⟩
    rw [e91_3r, ld_agg agg205 cel205 H (by simp [wd]), optK_mk]
    exact .mk ⟨rfl, E⟩

theorem c_signed {w : Nat} (b : Bool) (hw : w < 340282366920938463463374607431768211456) : Gives (ev30 r (n + 4) 92 [.agg ⟨wd w⟩, .bool b] h) fun y h' => Ext h h' ∧ ∃ q e : Int, y = .tuple ⟨[.int .i64 q, .int .i64 e]⟩ ∧
    ((w < 9223372036854775808 + (if b then 1 else 0) ∧ e = 0 ∧ q = if b then -(w : Int) else (w : Int)) ∨ (¬ w < 9223372036854775808 + (if b then 1 else 0) ∧ e = 10)) := by
  show Gives (ev30 r (n + 3 + 1) 92 [.agg #[.int .u64 ((w / 18446744073709551616 : Nat) : Int), .int .u64 ((w % 18446744073709551616 : Nat) : Int)], .bool b] h) _
  rw [e92]
  generalize hX : Blk.cells [Value.int IntKind.u64 ((w / 18446744073709551616 : Nat) : Int), Value.int IntKind.u64 ((w % 18446744073709551616 : Nat) : Int)] false = X
  have HX : Has (h.new X) h.next X := Has.here _ _
  have E2 : Ext h (h.new X) := (Ext.refl h).new _
  generalize hm : h.new X = m at *
  subst hX
  have l0 : ldV P30 203 h.next 0 m = some (.int .u64 ((w / 18446744073709551616 : Nat) : Int)) := ld_at agg203 HX
  have l1 : ldV P30 203 h.next 1 m = some (.int .u64 ((w % 18446744073709551616 : Nat) : Int)) := ld_at agg203 HX
  have last : ∀ q : Int, (q = if b then -(w : Int) else (w : Int)) → w < 9223372036854775808 + (if b then 1 else 0) → jmp30 r (n + 1) 92 0 (pc [1, 1, 1, 1] (bd Tryz.f92)) (E92_3 (.bool b) (.pointer (some ⟨h.next, 0, none⟩))) m = some (.ret, E92_r (.int .i64 q) (.int .i64 0), m) := by
    intro q hq hlt
    rw [e92_13c]
    cases b with
    | true =>
      simp only [if_true] at hq hlt
      rw [cond_true, l1, optK_mk, castI_mk, wrapu_eq]
      have : IntKind.i64.wrap ((0 - ((w % 18446744073709551616 : Nat) : Int)) % 18446744073709551616) = q := by
        rw [hq]
        unfold IntKind.wrap
        have q1 : IntKind.i64.bits = 64 := rfl
        have q2 : IntKind.i64.signed = true := rfl
        rw [q1, q2]
        simp only [Bool.true_and]
        split <;> simp_all <;> omega
      rw [this]
    | false =>
      simp only [Bool.false_eq_true, if_false] at hq hlt
      rw [cond_false, l1, optK_mk, castI_mk, wrap_id (by omega) (by omega)]
      have : ((w % 18446744073709551616 : Nat) : Int) = q := by rw [hq]; omega
      rw [this]
  have mid : ∀ most : Nat, most = 9223372036854775808 - (if b then 0 else 1) → GivesX (jmp30 r (n + 2) 92 0 (pc [1, 1, 1] (bd Tryz.f92)) (E92_9 (.bool b) (.pointer (some ⟨h.next, 0, none⟩)) (.int .u64 (most : Int))) m) fun y env h' => y = .ret ∧ h' = m ∧ ∃ q e : Int, env = E92_r (.int .i64 q) (.int .i64 e) ∧
      ((w < 9223372036854775808 + (if b then 1 else 0) ∧ e = 0 ∧ q = if b then -(w : Int) else (w : Int)) ∨ (¬ w < 9223372036854775808 + (if b then 1 else 0) ∧ e = 10)) := by
    intro most hmost
    have hmm : (w > most) ↔ ¬ w < 9223372036854775808 + (if b then 1 else 0) := by cases b <;> simp at hmost ⊢ <;> omega
    have hm2 : most ≤ 9223372036854775808 := by omega
    rw [e92_9c, l0, optK_mk, castI_mk]
    by_cases h1 : ((w / 18446744073709551616 : Nat) : Int) > 0
    · rw [decide_eq_true h1, cond_true]
      exact .mk ⟨rfl, rfl, 0, 10, rfl, .inr ⟨hmm.1 (by omega), rfl⟩⟩
    · rw [decide_eq_false h1, cond_false, l1, optK_mk, castI_mk]
      by_cases h2 : ((w % 18446744073709551616 : Nat) : Int) > (most : Int)
      · rw [decide_eq_true h2, cond_true]
        exact .mk ⟨rfl, rfl, 0, 10, rfl, .inr ⟨hmm.1 (by omega), rfl⟩⟩
      · rw [decide_eq_false h2, cond_false]
        have hlt : w < 9223372036854775808 + (if b then 1 else 0) := Classical.byContradiction fun hc => by have := hmm.2 hc; omega
        rw [jumpK_mk (last _ rfl hlt), e92_13r]
        exact .mk ⟨rfl, rfl, _, 0, rfl, .inl ⟨hlt, rfl, rfl⟩⟩
  refine Gives.jump (Q := fun y env h' => y = .ret ∧ h' = m ∧ ∃ q e : Int, env = E92_r (.int .i64 q) (.int .i64 e) ∧
      ((w < 9223372036854775808 + (if b then 1 else 0) ∧ e = 0 ∧ q = if b then -(w : Int) else (w : Int)) ∨ (¬ w < 9223372036854775808 + (if b then 1 else 0) ∧ e = 10))) ?_ ?_
  · rw [e92_3c]
    cases b with
    | true =>
      rw [cond_true]
      refine GivesX.jump (mid 9223372036854775808 (by simp)) ?_
      rintro y env h' ⟨rfl, rfl, q, e, rfl, hq⟩
      rw [e92_9r]; exact .mk ⟨rfl, rfl, q, e, rfl, hq⟩
    | false =>
      rw [cond_false]
      refine GivesX.jump (mid 9223372036854775807 (by simp)) ?_
      rintro y env h' ⟨rfl, rfl, q, e, rfl, hq⟩
      rw [e92_9r]; exact .mk ⟨rfl, rfl, q, e, rfl, hq⟩
  · rintro y env h' ⟨rfl, rfl, q, e, rfl, hq⟩
    rw [e92_3r]; exact .mk ⟨E2, q, e, rfl, hq⟩

/-- What is above, and what is below 0. -/
def up (l : List Int) : Nat := (l.map fun z => if z < 0 then 0 else z.natAbs).sum
def down (l : List Int) : Nat := (l.map fun z => if z < 0 then z.natAbs else 0).sum
theorem up_down (l : List Int) : ((up l : Nat) : Int) - ((down l : Nat) : Int) = l.sum := by
  induction l with
  | nil => rfl
  | cons z l ih =>
    simp only [up, down, List.map_cons, List.sum_cons] at ih ⊢
    split <;> omega
theorem up_snoc (l : List Int) (z : Int) : up (l ++ [z]) = up l + (if z < 0 then 0 else z.natAbs) := by simp [up]
theorem down_snoc (l : List Int) (z : Int) : down (l ++ [z]) = down l + (if z < 0 then z.natAbs else 0) := by simp [down]
def fits (z : Int) : Prop := -9223372036854775808 ≤ z ∧ z < 9223372036854775808
theorem up_le {l : List Int} (hl : ∀ z ∈ l, fits z) : up l ≤ l.length * 9223372036854775808 ∧ down l ≤ l.length * 9223372036854775808 := by
  induction l with
  | nil => simp [up, down]
  | cons z l ih =>
    have h1 := hl z (List.mem_cons_self ..)
    have h2 := ih fun y hy => hl y (List.mem_cons_of_mem _ hy)
    unfold fits at h1
    simp only [up, down, List.map_cons, List.sum_cons, List.length_cons] at h2 ⊢
    rw [Nat.succ_mul]
    split <;> omega

theorem c_take {u d : Nat} {z : Int} (hu : u < 170141183460469231731687303715884105728) (hd : d < 170141183460469231731687303715884105728) (hz : fits z) :
    Gives (ev30 r (n + 4) 89 [.agg ⟨wd u ++ wd d⟩, .iface 3 (.int .i64 z)] h) fun y h' => y = .agg ⟨wd (u + if z < 0 then 0 else z.natAbs) ++ wd (d + if z < 0 then z.natAbs else 0)⟩ ∧ Ext h h' := by
  unfold fits at hz
  show Gives (ev30 r (n + 3 + 1) 89 [.agg #[.int .u64 ((u / 18446744073709551616 : Nat) : Int), .int .u64 ((u % 18446744073709551616 : Nat) : Int), .int .u64 ((d / 18446744073709551616 : Nat) : Int), .int .u64 ((d % 18446744073709551616 : Nat) : Int)], .iface 3 (.int .i64 z)] h) _
  rw [e89]
  have eX : Blk.cells [Value.int IntKind.u64 ((u / 18446744073709551616 : Nat) : Int), Value.int IntKind.u64 ((u % 18446744073709551616 : Nat) : Int), Value.int IntKind.u64 ((d / 18446744073709551616 : Nat) : Int), Value.int IntKind.u64 ((d % 18446744073709551616 : Nat) : Int)] false = .cells (wd u ++ wd d) false := rfl
  rw [eX]
  generalize hX : Blk.cells (wd u ++ wd d) false = X
  generalize hZ : Blk.cells [Value.int IntKind.u64 0, Value.int IntKind.u64 0, Value.int IntKind.u64 0, Value.int IntKind.u64 0] false = Z
  have HX : Has ((h.new X).new Z) h.next X := (Has.here _ _).new _
  have HZ : Has ((h.new X).new Z) (h.next + 1) Z := Has.here (h.new X) _
  have E2 : Ext h ((h.new X).new Z) := ((Ext.refl h).new _).new _
  have hn2 : ((h.new X).new Z).next = h.next + 2 := rfl
  generalize hm : (h.new X).new Z = m at *
  subst hX hZ
  have lU : ldV P30 205 h.next 0 m = some (.agg ⟨wd u⟩) := ld_agg agg205 cel205 HX (by simp [wd])
  have lD : ldV P30 205 h.next 2 m = some (.agg ⟨wd d⟩) := ld_agg agg205 cel205 HX (by simp [wd])
  have same : ∀ (o w : Nat), ldV P30 205 h.next o m = some (.agg ⟨wd w⟩) → sameLd P30 205 h.next o (.agg ⟨wd w⟩) m = true := by
    intro o w e
    unfold sameLd
    rw [e]
    simp [eqV, eqV.eqVs, wd]
  have part0 : ∀ (m1 : H) (u' : Nat), Has m1 h.next (.cells (wd u ++ wd d) false) → stCells m1 h.next 0 (wd u') = some (m1.put h.next (.cells (wd u' ++ wd d) false)) := fun m1 u' H => by
    rw [stCells_of H.2 (by simp [wd])]; rfl
  have part2 : ∀ (m1 : H) (d' : Nat), Has m1 h.next (.cells (wd u ++ wd d) false) → stCells m1 h.next 2 (wd d') = some (m1.put h.next (.cells (wd u ++ wd d') false)) := fun m1 d' H => by
    rw [stCells_of H.2 (by simp [wd])]; rfl
  -- what is stored last
  have fin : ∀ (u' d' : Nat) (m1 : H), Ext m m1 → GivesX (optK (ldV P30 207 h.next 0 (m1.put h.next (.cells (wd u' ++ wd d') false))) fun v9 => castA v9 fun cs10 => ifK (cellsOf P30 207 = some (Value.agg cs10).cells.size)
      (optK (stCells (m1.put h.next (.cells (wd u' ++ wd d') false)) (h.next + 1) 0 (Value.agg cs10).cells.toList) fun h11 => some (Exit.ret, E89_r (.pointer (some ⟨h.next + 1, 0, none⟩)), h11))) fun y env h' =>
        y = .ret ∧ env = E89_r (.pointer (some ⟨h.next + 1, 0, none⟩)) ∧ Ext h h' ∧ Has h' (h.next + 1) (.cells (wd u' ++ wd d') false) := by
    intro u' d' m1 E1
    have HX1 := HX.ext E1
    have HZ1 := HZ.ext E1
    rw [ld_agg agg207 cel207 (HX1.over _) (by simp [wd]), optK_mk, castA_mk, ifK_pos (by rw [cel207]; simp [wd, Value.cells])]
    have HZ2 := HZ1.put (j := h.next) (by omega) (.cells (wd u' ++ wd d') false)
    have e9 : (Value.agg (List.take 4 (List.drop 0 (wd u' ++ wd d'))).toArray).cells.toList = wd u' ++ wd d' := by simp [wd, Value.cells]
    rw [e9, st_all (vs := wd u' ++ wd d') HZ2 (by simp [wd]), optK_mk]
    exact .mk ⟨rfl, rfl, ((E2.trans E1).put (Nat.le_refl _) _).put (by omega) _, HZ2.over _⟩
  refine Gives.jump (Q := fun y env h' => y = .ret ∧ env = E89_r (.pointer (some ⟨h.next + 1, 0, none⟩)) ∧ Ext h h' ∧ Has h' (h.next + 1) (.cells (wd (u + if z < 0 then 0 else z.natAbs) ++ wd (d + if z < 0 then z.natAbs else 0)) false)) ?_ ?_
  · rw [e89_3c]
    by_cases h0 : z < 0
    · rw [decide_eq_true h0, cond_true, callK_mk (c_size (n := n + 1) hz), castI_mk, lD, optK_mk, castA_mk, same 2 d lD, cond_true]
      obtain ⟨v, h1, q1, rfl, E1⟩ := c_wplus (r := r) (n := n) (h := m) (w := d) (x := z.natAbs) (by omega) (by omega) (by omega)
      have e8 : (Value.agg ⟨wd (d + z.natAbs)⟩).cells.toList = wd (d + z.natAbs) := rfl
      rw [callK_mk q1, castA_mk, ifK_pos (by rw [cel205]; rfl), e8, part2 _ _ (HX.ext E1), optK_mk, if_pos h0, if_pos h0, Nat.add_zero]
      exact fin u (d + z.natAbs) h1 E1
    · rw [decide_eq_false h0, cond_false, callK_mk (c_size (n := n + 1) hz), castI_mk, lU, optK_mk, castA_mk, same 0 u lU, cond_true]
      obtain ⟨v, h1, q1, rfl, E1⟩ := c_wplus (r := r) (n := n) (h := m) (w := u) (x := z.natAbs) (by omega) (by omega) (by omega)
      have e8 : (Value.agg ⟨wd (u + z.natAbs)⟩).cells.toList = wd (u + z.natAbs) := rfl
      rw [callK_mk q1, castA_mk, ifK_pos (by rw [cel205]; rfl), e8, part0 _ _ (HX.ext E1), optK_mk, if_neg h0, if_neg h0, Nat.add_zero]
      exact fin (u + z.natAbs) d h1 E1
  · rintro y env h' ⟨rfl, rfl, E, H⟩
    rw [e89_3r, ld_agg agg207 cel207 H (by simp [wd]), optK_mk]
    exact ⟨_, _, rfl, by simp [wd], E⟩

abbrev Is (h : H) (a : Option Addr) (st : Nat) (l : List Int) : Prop := Sl (fun z => [Value.int .i64 z]) 1 h a st l
/-- checked.Sum -/
theorem c_sum {l : List Int} (S : Is h a sa l) (hl : l.length < 1000000) (hf : ∀ z ∈ l, fits z) (hr : 1000000 ≤ r) : Gives (ev30 r (n + 6) 56 [.slice a l.length sa] h) fun y h' => Ext h h' ∧ ∃ q e : Int,
    y = .tuple ⟨[.int .i64 q, .int .i64 e]⟩ ∧ ((fits l.sum ∧ e = 0 ∧ q = l.sum) ∨ (¬ fits l.sum ∧ e = 10)) := by
  rw [e56]
  have bnd : ∀ k, up (l.take k) < 170141183460469231731687303715884105728 ∧ down (l.take k) < 170141183460469231731687303715884105728 := by
    intro k
    have h1 := up_le (l := l.take k) fun z hz => hf z (List.mem_of_mem_take hz)
    have h2 : (l.take k).length ≤ 1000000 := by rw [List.length_take]; omega
    have h3 : (l.take k).length * 9223372036854775808 ≤ 1000000 * 9223372036854775808 := Nat.mul_le_mul_right _ h2
    omega
  refine Gives.loop (fun k env hh => env = E56_0 (.pointer (some ⟨h.next, 0, none⟩)) (.slice a l.length sa) (.int .i64 (l.length : Int)) (.int .i64 (k : Int)) ∧ Ext h hh ∧ Has hh h.next (.cells (wd (up (l.take k)) ++ wd (down (l.take k))) false)) l.length
    (fun x env hh => x = .exit 0 ∧ env = E56_2 (.pointer (some ⟨h.next, 0, none⟩)) ∧ Ext h hh ∧ Has hh h.next (.cells (wd (up l) ++ wd (down l)) false))
    (fun k env hh hk hI => ?_) ⟨rfl, (Ext.refl h).new _, by rw [List.take_zero]; exact Has.here _ _⟩ (by omega) ?_
  · obtain ⟨rfl, E, HX⟩ := hI
    by_cases hg : k < l.length
    · have hget : l[k]? = some l[k] := List.getElem?_eq_getElem hg
      have hz := hf l[k] (List.getElem_mem _)
      have htk : l.take (k + 1) = l.take k ++ [l[k]] := by rw [List.take_add_one, hget]; rfl
      generalize l[k] = z at hget hz htk
      obtain ⟨v, h1, q1, rfl, E1⟩ := c_take (r := r) (n := n + 1) (h := hh) (bnd k).1 (bnd k).2 hz
      have lX : ldV P30 207 h.next 0 hh = some (.agg ⟨wd (up (l.take k)) ++ wd (down (l.take k))⟩) := ld_agg agg207 cel207 HX (by simp [wd])
      have e8 : ∀ x y, (Value.agg ⟨wd x ++ wd y⟩).cells.toList = wd x ++ wd y := fun _ _ => rfl
      refine ⟨.on _ (h1.put h.next (.cells (wd (up (l.take (k + 1))) ++ wd (down (l.take (k + 1)))) false)), fun nx K => ?_, hg, rfl, (E.trans E1).put (Nat.le_refl _) _, (HX.ext E1).over _⟩
      rw [e56_0, decide_eq_true (by omega), cond_true, (S.ext E).read und28 cel3 agg3 hget, castI_mk, lX, optK_mk, castA_mk, callK_mk q1, castA_mk, ifK_pos (by rw [cel207]; rfl), e8]
      rw [st_all (HX.ext E1) (by simp [wd]), optK_mk, wrap_succ (by omega), htk, up_snoc, down_snoc]
      rfl
    · have hkk : k = l.length := by omega
      rw [hkk, List.take_length] at HX
      refine ⟨.off (.exit 0) _ _, fun nx K => ?_, rfl, rfl, E, HX⟩
      rw [e56_0, decide_eq_false (by omega), cond_false]; rfl
  · rintro x env h' ⟨rfl, rfl, E, HX⟩
    have b := bnd l.length
    rw [List.take_length] at b
    have hud := up_down l
    have lU : ∀ {w}, Ext h' w → ldV P30 205 h.next 0 w = some (.agg ⟨wd (up l)⟩) := fun E => ld_agg agg205 cel205 (HX.ext E) (by simp [wd])
    have lD : ∀ {w}, Ext h' w → ldV P30 205 h.next 2 w = some (.agg ⟨wd (down l)⟩) := fun E => ld_agg agg205 cel205 (HX.ext E) (by simp [wd])
    obtain ⟨v1, h1, q1, rfl, E1⟩ := c_wless (r := r) (n := n + 3) (h := h') (w := up l) (v := down l) (by omega) (by omega)
    rw [e56_0x0, lU (.refl _), optK_mk, castA_mk, lD (.refl _), optK_mk, castA_mk, callK_mk q1, castV_mk]
    by_cases hlt : up l < down l
    · rw [decide_eq_true hlt, cond_true, lD E1, optK_mk, castA_mk, lU E1, optK_mk, castA_mk]
      obtain ⟨v2, h2, q2, rfl, E2⟩ := c_wminus (r := r) (n := n + 3) (h := h1) (w := down l) (v := up l) (by omega) (by omega)
      obtain ⟨v3, h3, q3, E3, q, e, rfl, hq⟩ := c_signed (r := r) (n := n + 1) (h := h2) (w := down l - up l) true (by omega)
      rw [callK_mk q2, castA_mk, callK_mk q3]
      simp only [castTup_mk, headK_mk, castI_mk, nilK_mk]
      refine .mk ⟨E.trans (E1.trans (E2.trans E3)), q, e, rfl, ?_⟩
      unfold fits
      simp only [if_true] at hq
      omega
    · rw [decide_eq_false hlt, cond_false, lU E1, optK_mk, castA_mk, lD E1, optK_mk, castA_mk]
      obtain ⟨v2, h2, q2, rfl, E2⟩ := c_wminus (r := r) (n := n + 3) (h := h1) (w := up l) (v := down l) (by omega) (by omega)
      obtain ⟨v3, h3, q3, E3, q, e, rfl, hq⟩ := c_signed (r := r) (n := n + 1) (h := h2) (w := up l - down l) false (by omega)
      rw [callK_mk q2, castA_mk, callK_mk q3]
      simp only [castTup_mk, headK_mk, castI_mk, nilK_mk]
      refine .mk ⟨E.trans (E1.trans (E2.trans E3)), q, e, rfl, ?_⟩
      unfold fits
      simp only [Bool.false_eq_true, if_false] at hq
      omega
end
end Go.Ev
