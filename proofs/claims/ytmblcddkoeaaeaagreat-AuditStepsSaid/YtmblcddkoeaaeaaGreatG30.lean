/-
  The reference's whole numbers: turned about 0, compared.
-/
import Derived.Test.YtmblcddkoeaaeaaGreatN30
namespace Go.Ev
open Go Go.Proofs

section
variable {r n : Nat} {h : H} {a b : Option Addr} {sa sb : Nat} {xs ys : List Bool}

theorem mag_neg (z : Int) : mag (-z) = mag z := by unfold mag; rw [Int.natAbs_neg]
theorem mag_pos {z : Int} : (((mag z).length : Nat) : Int) > 0 ↔ z ≠ 0 := by
  constructor
  · intro h9 h8; rw [h8] at h9; simp [mag, bits_zero] at h9
  · intro h9
    have : mag z ≠ [] := fun e => h9 (by have := bits_nil.1 e; omega)
    have := List.length_pos_iff.2 this
    omega

theorem c_neg {z : Int} {va : Option Addr} (A : Bs h va sa (mag z)) : Gives (ev30 r (n + 1) 96 [.agg #[.bool (sgn z), .slice va (mag z).length sa]] h) fun v h' =>
    v = .agg #[.bool (sgn (-z)), .slice va (mag (-z)).length sa] ∧ Ext h h' := by
  rw [e96]
  generalize hX : Blk.cells [Value.bool (sgn z), Value.slice va (mag z).length sa] false = X
  have HX : Has ((h.new X).new (.cells [.bool false, .slice none 0 0] false)) h.next X := (Has.here _ _).new _
  have HZ : Has ((h.new X).new (.cells [.bool false, .slice none 0 0] false)) (h.next + 1) (.cells [.bool false, .slice none 0 0] false) := Has.here (h.new X) _
  have E2 : Ext h ((h.new X).new (.cells [.bool false, .slice none 0 0] false)) := ((Ext.refl h).new _).new _
  generalize hw : (h.new X).new (.cells [.bool false, .slice none 0 0] false) = w at *
  subst hX
  have l0 : ldV P30 4 h.next 0 w = some (.bool (sgn z)) := ld_at agg_b HX
  have l1 : ldV P30 141 h.next 1 w = some (.slice va (mag z).length sa) := ld_at agg_bs HX
  have fin : ∀ s : Bool, s = sgn (-z) → Gives (optK (stCells w (h.next + 1) 0 [.bool s, .slice va (mag z).length sa]) fun h1 => optK (ldV P30 143 (h.next + 1) 0 h1) fun v => some (v, h1)) fun v h' =>
      v = .agg #[.bool (sgn (-z)), .slice va (mag (-z)).length sa] ∧ Ext h h' := by
    intro s hs
    rw [st_all (vs := [.bool s, .slice va (mag z).length sa]) HZ rfl, optK_mk, ld_agg agg_num cel_num (HZ.over _) (by simp), optK_mk, hs, mag_neg]
    exact .mk ⟨rfl, E2.put (by omega) _⟩
  rw [l0, optK_mk, castV_mk]
  by_cases h0 : z < 0
  · have e1 : sgn z = true := by simp [sgn, h0]
    rw [e1, Bool.not_true, cond_false, l1, optK_mk, castSl_mk]
    exact fin false (by unfold sgn; rw [decide_eq_false (by omega)])
  · have e1 : sgn z = false := by simp [sgn, h0]
    rw [e1, Bool.not_false, cond_true, l1, optK_mk, castSl_mk, optK_mk, castSl_mk]
    refine fin _ ?_
    unfold sgn
    rw [decide_eq_decide, mag_pos]
    omega

theorem c_below {x y : Int} {va vb : Option Addr} (A : Bs h va sa (mag x)) (B : Bs h vb sb (mag y)) (hx : (mag x).length < 800000) (hy : (mag y).length < 800000) (hr : 1000000 ≤ r) :
    Gives (ev30 r (n + 5) 62 [.agg #[.bool (sgn x), .slice va (mag x).length sa], .agg #[.bool (sgn y), .slice vb (mag y).length sb]] h) fun v h' => v = .bool (decide (x < y)) ∧ Ext h h' := by
  rw [e62]
  generalize hX : Blk.cells [Value.bool (sgn x), Value.slice va (mag x).length sa] false = X
  generalize hY : Blk.cells [Value.bool (sgn y), Value.slice vb (mag y).length sb] false = Y
  have HX : Has ((h.new X).new Y) h.next X := (Has.here _ _).new _
  have HY : Has ((h.new X).new Y) (h.next + 1) Y := Has.here (h.new X) _
  have E2 : Ext h ((h.new X).new Y) := ((Ext.refl h).new _).new _
  have e0 : (Blk.cells (Value.agg #[Value.bool (sgn x), Value.slice va (mag x).length sa]).cells.toList false) = X := hX
  have e1 : (Blk.cells (Value.agg #[Value.bool (sgn y), Value.slice vb (mag y).length sb]).cells.toList false) = Y := hY
  rw [e0, e1]
  generalize hw : (h.new X).new Y = w at *
  subst hX hY
  have l0 : ∀ {w'}, Ext w w' → ldV P30 143 h.next 0 w' = some (.agg #[.bool (sgn x), .slice va (mag x).length sa]) := fun E => by rw [ld_agg agg_num cel_num (HX.ext E) (by simp)]; rfl
  have l1 : ldV P30 143 (h.next + 1) 0 w = some (.agg #[.bool (sgn y), .slice vb (mag y).length sb]) := by rw [ld_agg agg_num cel_num HY (by simp)]; rfl
  obtain ⟨v, h1, q1, rfl, E3⟩ := c_neg (r := r) (n := n + 3) (h := w) (z := y) (B.ext E2)
  obtain ⟨v2, h2, q2, c, sc, rfl, E4, V⟩ := c_add (r := r) (n := n) (h := h1) (x := x) (y := -y) (A.ext (E2.trans E3)) (by rw [mag_neg]; exact B.ext (E2.trans E3)) hx (by rw [mag_neg]; exact hy) hr
  have hsame : sameLd P30 143 h.next 0 (.agg #[.bool (sgn x), .slice va (mag x).length sa]) w = true := by
    unfold sameLd
    rw [l0 (.refl w)]
    have : eqA va va = true := by
      rcases A with ⟨_, rfl, _⟩ | ⟨_, j, o, rfl, _⟩
      · rfl
      · simp [Go.Ev.eqA]
    simp [eqV, eqV.eqVs, this]
  rw [l1, optK_mk, castA_mk, callK_mk q1, castA_mk, l0 E3, optK_mk, castA_mk, hsame, cond_true, callK_mk q2, castA_mk, ifK_pos (by rw [cel_num]; rfl)]
  have HN : Has (h2.new (.cells [.bool false, .slice none 0 0] false)) h2.next (.cells [.bool false, .slice none 0 0] false) := Has.here _ _
  erw [st_new (zs := [.bool false, .slice none 0 0]) (cs := [.bool (sgn (x + -y)), .slice c (mag (x + -y)).length sc]) rfl]
  rw [optK_mk]
  have l4 : ldV P30 4 h2.next 0 (h2.new (.cells [.bool (sgn (x + -y)), .slice c (mag (x + -y)).length sc] false)) = some (.bool (sgn (x + -y))) := ld_at agg_b (Has.here _ _)
  rw [l4, optK_mk, castV_mk]
  have e5 : sgn (x + -y) = decide (x < y) := by unfold sgn; rw [decide_eq_decide]; omega
  have EE : Ext h (h2.new (.cells [.bool (sgn (x + -y)), .slice c (mag (x + -y)).length sc] false)) := (E2.trans (E3.trans E4)).new _
  exact ⟨_, _, rfl, by rw [e5], EE⟩
end
end Go.Ev
