/-
  Audit: a child's claim.
-/
import Derived.Test.YtmblcddkoeaaeaaGreatE30
namespace Go.Ev
open Go Go.Proofs

/-- A child. -/
structure Kid where
  id : ByteArray
  venue : ByteArray
  side : Int
  state : Int
  qty : Int
  price : Int
  next : Int
  nprice : Int
  cum : Int
  claim : Int
def kidC (k : Kid) : List Value := [.string k.id, .string k.venue, .int .i64 k.side, .int .i64 k.state, .int .i64 k.qty, .int .i64 k.price, .int .i64 k.next, .int .i64 k.nprice, .int .i64 k.cum, .int .i64 k.claim]
def kidFits (k : Kid) : Prop := fits k.state ∧ fits k.qty ∧ fits k.next ∧ fits k.cum ∧ fits k.claim
/-- How many it may have at most. -/
def kidMost (k : Kid) : Int := if k.state = 5 ∧ k.next > k.qty then k.next else k.qty
/-- What it claims. -/
def want (k : Kid) : Option Int :=
  if k.cum < 0 then none else if ¬ (1 ≤ k.state ∧ k.state ≤ 5) then some 0 else if kidMost k < k.cum then none else some (kidMost k - k.cum)

section
variable {r n : Nat} {h : H} {a b : Option Addr} {sa sb : Nat}

theorem c_open {z : Int} : ev30 r (n + 1) 88 [.int .i64 z] h = some (.bool (decide (1 ≤ z ∧ z ≤ 5)), h) := by
  rw [e88]
  by_cases h1 : 1 ≤ z
  · rw [decide_eq_true (by omega), cond_true]; simp [h1]
  · rw [decide_eq_false (by omega), cond_false]; simp [h1]
theorem c_ropen {z : Int} : ev30 r (n + 1) 93 [.int .i64 z] h = some (.bool (decide (1 ≤ z ∧ z ≤ 5)), h) := by
  rw [e93]
  by_cases h1 : 1 ≤ z
  · rw [decide_eq_true (by omega), cond_true]; simp [h1]
  · rw [decide_eq_false (by omega), cond_false]; simp [h1]

theorem c_claim {k : Kid} (hk : kidFits k) : Gives (ev30 r (n + 3) 54 [.agg ⟨kidC k⟩] h) fun y h' => Ext h h' ∧ ∃ (q : Int) (ok : Bool), y = .tuple ⟨[.int .i64 q, .bool ok]⟩ ∧ match want k with | some w => ok = true ∧ q = w | none => ok = false := by
  obtain ⟨f1, f2, f3, f4, _⟩ := hk
  unfold fits at f1 f2 f3 f4
  show Gives (ev30 r (n + 2 + 1) 54 [.agg #[.string k.id, .string k.venue, .int .i64 k.side, .int .i64 k.state, .int .i64 k.qty, .int .i64 k.price, .int .i64 k.next, .int .i64 k.nprice, .int .i64 k.cum, .int .i64 k.claim]] h) _
  rw [e54]
  have E : Ext h (h.new (.cells (kidC k) false)) := (Ext.refl h).new _
  have HX : Has (h.new (.cells (kidC k) false)) h.next (.cells (kidC k) false) := Has.here _ _
  show Gives (jumpK (jmp30 r (n + 2) 54 0 (pc [1] (bd Tryz.f54)) (E54_3 (.pointer (some ⟨h.next, 0, none⟩))) (h.new (.cells (kidC k) false))) _) _
  generalize h.new (.cells (kidC k) false) = m at *
  have l3 : ldV P30 3 h.next 3 m = some (.int .i64 k.state) := ld_at agg3 HX
  have l4 : ldV P30 3 h.next 4 m = some (.int .i64 k.qty) := ld_at agg3 HX
  have l6 : ldV P30 3 h.next 6 m = some (.int .i64 k.next) := ld_at agg3 HX
  have l8 : ldV P30 3 h.next 8 m = some (.int .i64 k.cum) := ld_at agg3 HX
  refine Gives.jump (Q := fun x env h' => x = .ret ∧ h' = m ∧ ∃ (q : Int) (ok : Bool), env = E54_r (.int .i64 q) (.bool ok) ∧ match want k with | some w => ok = true ∧ q = w | none => ok = false) ?_ ?_
  · rw [e54_3c, l8, optK_mk, castI_mk]
    by_cases h1 : k.cum < 0
    · rw [decide_eq_true h1, cond_true]
      exact .mk ⟨rfl, rfl, 0, false, rfl, by unfold want; rw [if_pos h1]⟩
    · rw [decide_eq_false h1, cond_false, l3, optK_mk, castI_mk, callK_mk c_open, castV_mk]
      by_cases h2 : 1 ≤ k.state ∧ k.state ≤ 5
      · rw [decide_eq_true h2, Bool.not_true, cond_false, l4, optK_mk, castI_mk, l3, optK_mk, castI_mk]
        have last : ∀ q : Int, q = kidMost k → GivesX (jumpK (jmp30 r (n + 1) 54 0 (pc [1, 1, 1, 1, 1] (bd Tryz.f54)) (E54_17 (.pointer (some ⟨h.next, 0, none⟩)) (.int .i64 q)) m) (outK (dead30 54) (key (pc [1] (bd Tryz.f54))))) fun x env h' =>
            x = .ret ∧ h' = m ∧ ∃ (q : Int) (ok : Bool), env = E54_r (.int .i64 q) (.bool ok) ∧ match want k with | some w => ok = true ∧ q = w | none => ok = false := by
          intro q hq
          have hb : q < 9223372036854775808 := by rw [hq]; unfold kidMost; split <;> omega
          have e : jmp30 r (n + 1) 54 0 (pc [1, 1, 1, 1, 1] (bd Tryz.f54)) (E54_17 (.pointer (some ⟨h.next, 0, none⟩)) (.int .i64 q)) m = some (.ret, E54_r (.int .i64 (IntKind.i64.wrap (q - k.cum))) (.bool (decide (q ≥ k.cum))), m) := by
            rw [e54_17c, l8, optK_mk, castI_mk, optK_mk, castI_mk]
          rw [jumpK_mk e, e54_17r]
          refine .mk ⟨rfl, rfl, _, _, rfl, ?_⟩
          unfold want
          rw [if_neg h1, if_neg (by simpa using h2), ← hq]
          by_cases h3 : q < k.cum
          · rw [if_pos h3]; simp only; rw [decide_eq_false (by omega)]
          · rw [if_neg h3]; simp only
            exact ⟨decide_eq_true (by omega), wrap_id (by omega) (by omega)⟩
        by_cases h5 : k.state = 5
        · have e5 : (k.state == 5) = true := by simp [h5]
          rw [e5, cond_true, l6, optK_mk, castI_mk]
          exact last _ (by unfold kidMost; simp [h5])
        · have e5 : (k.state == 5) = false := by simp [h5]
          rw [e5, cond_false]
          exact last _ (by unfold kidMost; simp [h5])
      · rw [decide_eq_false h2, Bool.not_false, cond_true]
        exact .mk ⟨rfl, rfl, 0, true, rfl, by unfold want; rw [if_neg h1, if_pos h2]; exact ⟨rfl, rfl⟩⟩
  · rintro x env h' ⟨rfl, rfl, q, ok, rfl, hq⟩
    rw [e54_3r]; exact .mk ⟨E, q, ok, rfl, hq⟩

/-- Is a child's claim what it should be? -/
def kidOk (k : Kid) : Bool := match want k with
  | some w => k.claim == w
  | none => false
/-- spigotref30.child -/
theorem c_child {k : Kid} (hk : kidFits k) : Gives (ev30 r (n + 4) 60 [.agg ⟨kidC k⟩] h) fun y h' => Ext h h' ∧ y = .bool (kidOk k) := by
  obtain ⟨f1, f2, f3, f4, _⟩ := hk
  unfold fits at f1 f2 f3 f4
  show Gives (ev30 r (n + 3 + 1) 60 [.agg #[.string k.id, .string k.venue, .int .i64 k.side, .int .i64 k.state, .int .i64 k.qty, .int .i64 k.price, .int .i64 k.next, .int .i64 k.nprice, .int .i64 k.cum, .int .i64 k.claim]] h) _
  rw [e60]
  have E : Ext h (h.new (.cells (kidC k) false)) := (Ext.refl h).new _
  have HX : Has (h.new (.cells (kidC k) false)) h.next (.cells (kidC k) false) := Has.here _ _
  show Gives (jumpK (jmp30 r (n + 3) 60 0 (pc [1] (bd Tryz.f60)) (E60_3 (.pointer (some ⟨h.next, 0, none⟩))) (h.new (.cells (kidC k) false))) _) _
  generalize h.new (.cells (kidC k) false) = m at *
  have l3 : ldV P30 3 h.next 3 m = some (.int .i64 k.state) := ld_at agg3 HX
  have l4 : ldV P30 3 h.next 4 m = some (.int .i64 k.qty) := ld_at agg3 HX
  have l6 : ldV P30 3 h.next 6 m = some (.int .i64 k.next) := ld_at agg3 HX
  have l8 : ldV P30 3 h.next 8 m = some (.int .i64 k.cum) := ld_at agg3 HX
  have l9 : ldV P30 3 h.next 9 m = some (.int .i64 k.claim) := ld_at agg3 HX
  refine Gives.jump (Q := fun x env h' => x = .ret ∧ h' = m ∧ env = E60_r (.bool (kidOk k))) ?_ ?_
  · rw [e60_3c, l8, optK_mk, castI_mk]
    by_cases h1 : k.cum < 0
    · rw [decide_eq_true h1, cond_true]
      exact .mk ⟨rfl, rfl, by unfold kidOk want; rw [if_pos h1]⟩
    · rw [decide_eq_false h1, cond_false, l3, optK_mk, castI_mk, callK_mk c_ropen, castV_mk]
      have tail : ∀ q : Int, want k = some q → GivesX (jumpK (jmp30 r (n + 2) 60 0 (pc [1, 1, 1, 1] (bd Tryz.f60)) (E60_23 (.pointer (some ⟨h.next, 0, none⟩)) (.int .i64 q)) m) (outK (dead30 60) (key (pc [1] (bd Tryz.f60))))) fun x env h' =>
          x = .ret ∧ h' = m ∧ env = E60_r (.bool (kidOk k)) := by
        intro q hq
        have e : jmp30 r (n + 2) 60 0 (pc [1, 1, 1, 1] (bd Tryz.f60)) (E60_23 (.pointer (some ⟨h.next, 0, none⟩)) (.int .i64 q)) m = some (.ret, E60_r (.bool (k.claim == q)), m) := by
          rw [e60_23c, l9, optK_mk, castI_mk]
        rw [jumpK_mk e, e60_23r]
        exact .mk ⟨rfl, rfl, by unfold kidOk; rw [hq]⟩
      by_cases h2 : 1 ≤ k.state ∧ k.state ≤ 5
      · rw [decide_eq_true h2, cond_true, l4, optK_mk, castI_mk, l3, optK_mk, castI_mk]
        have last : ∀ q : Int, q = kidMost k → GivesX (jumpK (jmp30 r (n + 2) 60 0 (pc [1, 1, 1, 0, 1, 0, 1, 1] (bd Tryz.f60)) (E60_17 (.pointer (some ⟨h.next, 0, none⟩)) (.int .i64 q)) m)
            (seqK (after P30 (ev30 r (n + 2)) (jmp30 r (n + 2) 60) (dead30 60) r 0 (pc [1, 1, 1, 1] (bd Tryz.f60)) (outK (dead30 60) (key (pc [1] (bd Tryz.f60))))) (outK (dead30 60) (key (pc [1] (bd Tryz.f60)))))) fun x env h' =>
            x = .ret ∧ h' = m ∧ env = E60_r (.bool (kidOk k)) := by
          intro q hq
          have hb : q < 9223372036854775808 := by rw [hq]; unfold kidMost; split <;> omega
          by_cases h3 : q < k.cum
          · have e : jmp30 r (n + 2) 60 0 (pc [1, 1, 1, 0, 1, 0, 1, 1] (bd Tryz.f60)) (E60_17 (.pointer (some ⟨h.next, 0, none⟩)) (.int .i64 q)) m = some (.ret, E60_r (.bool false), m) := by
              rw [e60_17c, l8, optK_mk, castI_mk, decide_eq_true h3, cond_true]
            rw [jumpK_mk e, e60_17r]
            exact .mk ⟨rfl, rfl, by unfold kidOk want; rw [if_neg h1, if_neg (by simpa using h2), ← hq, if_pos h3]⟩
          · have e : jmp30 r (n + 2) 60 0 (pc [1, 1, 1, 0, 1, 0, 1, 1] (bd Tryz.f60)) (E60_17 (.pointer (some ⟨h.next, 0, none⟩)) (.int .i64 q)) m = some (.normal, E60_23 (.pointer (some ⟨h.next, 0, none⟩)) (.int .i64 (q - k.cum)), m) := by
              rw [e60_17c, l8, optK_mk, castI_mk, decide_eq_false h3, cond_false, optK_mk, castI_mk, wrap_id (by omega) (by omega)]
            rw [jumpK_mk e, e60_17n]
            exact tail _ (by unfold want; rw [if_neg h1, if_neg (by simpa using h2), ← hq, if_neg h3])
        by_cases h5 : k.state = 5
        · have e5 : (k.state == 5) = true := by simp [h5]
          rw [e5, cond_true, l6, optK_mk, castI_mk]
          by_cases h6 : k.next > k.qty
          · rw [decide_eq_true h6, cond_true, optK_mk, castI_mk]
            exact last _ (by unfold kidMost; rw [if_pos ⟨h5, h6⟩])
          · rw [decide_eq_false h6, cond_false]
            exact last _ (by unfold kidMost; rw [if_neg fun h => h6 h.2])
        · have e5 : (k.state == 5) = false := by simp [h5]
          rw [e5, cond_false]
          exact last _ (by unfold kidMost; rw [if_neg fun h => h5 h.1])
      · rw [decide_eq_false h2, cond_false]
        exact tail 0 (by unfold want; rw [if_neg h1, if_pos h2])
  · rintro x env h' ⟨rfl, rfl, rfl⟩
    rw [e60_3r]; exact .mk ⟨E, rfl⟩
end
end Go.Ev
