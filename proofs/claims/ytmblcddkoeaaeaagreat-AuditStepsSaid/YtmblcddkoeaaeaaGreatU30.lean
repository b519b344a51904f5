/-
  Audit: what a law asks first: is it small; rules' words.
-/
import Derived.Test.YtmblcddkoeaaeaaGreatR30
namespace Go.Ev
open Go Go.Proofs

theorem agg60 : aggT P30 60 = some true := by kernel_rfl
theorem agg62 : aggT P30 62 = some true := by kernel_rfl
theorem cel60 : cellsOf P30 60 = some 7 := by kernel_rfl
theorem cel62 : cellsOf P30 62 = some 5 := by kernel_rfl
theorem und23 : P30.underlying 23 = some (.slice 60) := by kernel_rfl
theorem und24 : P30.underlying 24 = some (.slice 62) := by kernel_rfl

theorem wrap_succ' {k : Nat} (h : k + 1 < 9223372036854775808) : IntKind.i64.wrap ((k : Int) + 1) = ((k + 1 : Nat) : Int) := by
  rw [wrap_id (by omega) (by omega)]; rfl

def wordsL : List (List UInt8) := [[], [115, 105, 122, 101], [112, 97, 114, 101, 110, 116], [99, 104, 105, 108, 100], [115, 117, 109], [109, 111, 115, 116], [100, 111, 110, 101], [110, 101, 101, 100], [97, 99, 99, 111, 117, 110, 116], [116, 105, 109, 101],
  [115, 116, 97, 121], [104, 101, 108, 100], [110, 101, 119]]
def wordOf (z : Int) : List UInt8 := if 0 ≤ z ∧ z < 13 then wordsL.getD z.toNat [] else []

section
variable {r n : Nat} {h m m' : H} {s : Su} {v : Vw} {p : Pr}


theorem word_ld (h : H) {z : Int} (h0 : 0 ≤ z ∧ z < 13) : ldV P30 9 h.next (0 + z.toNat * 1) (h.new (.cells (wordsL.map fun w => .string (txt w)) false)) = some (.string (txt (wordOf z))) := by
  rw [ld_here agg9]
  have h1 : 0 + z.toNat * 1 < wordsL.length := by show _ < 13; omega
  unfold wordOf
  rw [if_pos h0, List.getElem?_map, List.getElem?_eq_getElem h1, Option.map_some, List.getD_eq_getElem?_getD, List.getElem?_eq_getElem (by show _ < 13; omega)]
  simp
theorem c_word {z : Int} : Gives (ev30 r (n + 1) 12 [.int .i64 z] h) fun y h' => y = .string (txt (wordOf z)) ∧ Ext h h' := by
  rw [e12]
  have E : Ext h (h.new (.cells (wordsL.map fun w => .string (txt w)) false)) := (Ext.refl h).new _
  by_cases h0 : z < 0
  · rw [decide_eq_true h0, cond_true]
    exact .mk ⟨by unfold wordOf; rw [if_neg (by omega)], E⟩
  rw [decide_eq_false h0, cond_false]
  by_cases h1 : z ≥ 13
  · rw [decide_eq_true h1, cond_true]
    exact .mk ⟨by unfold wordOf; rw [if_neg (by omega)], E⟩
  rw [decide_eq_false h1, cond_false, ifK_pos ⟨by omega, by omega⟩]
  erw [word_ld h ⟨by omega, by omega⟩]
  rw [optK_mk, castS_mk]
  exact .mk ⟨rfl, E⟩
theorem c_rword {z : Int} : Gives (ev30 r (n + 1) 13 [.int .i64 z] h) fun y h' => y = .string (txt (wordOf z)) ∧ Ext h h' := by
  rw [e13]
  have E : Ext h (h.new (.cells (wordsL.map fun w => .string (txt w)) false)) := (Ext.refl h).new _
  by_cases h0 : z < 0
  · rw [decide_eq_true h0, cond_true]
    exact .mk ⟨by unfold wordOf; rw [if_neg (by omega)], E⟩
  rw [decide_eq_false h0, cond_false]
  by_cases h1 : z > 12
  · rw [decide_eq_true h1, cond_true]
    exact .mk ⟨by unfold wordOf; rw [if_neg (by omega)], E⟩
  rw [decide_eq_false h1, cond_false, ifK_pos ⟨by omega, by omega⟩]
  erw [word_ld h ⟨by omega, by omega⟩]
  rw [optK_mk, castS_mk]
  exact .mk ⟨rfl, E⟩

theorem c_small (S : SuIn h s) (hr : 1000000 ≤ r) : Gives (ev30 r (n + 3) 6 [suV s] h) fun y h' => Ext h h' ∧ ∃ b, y = .bool b ∧ (b = true → SuFew s) := by
  unfold suV
  rw [e6]
  obtain ⟨m, hm, E, HX⟩ := new_row h (suC s)
  have l0 : ldV P30 22 h.next 0 m = some (.slice s.aa s.ac.length s.at') := ld_at agg22 HX
  have l1 : ∀ {m'}, Ext m m' → ldV P30 23 h.next 1 m' = some (.slice s.sa s.sy.length s.st) := fun E => ld_at agg23 (HX.ext E)
  have l2 : ∀ {m'}, Ext m m' → ldV P30 24 h.next 2 m' = some (.slice s.va s.ve.length s.vt) := fun E => ld_at agg24 (HX.ext E)
  unfold suC at hm
  rw [hm]
  have S1 := S.ext E
  refine Gives.jump (Q := (fun x env hh => x = .ret ∧ Ext m hh ∧ ∃ b, env = E6_r (.bool b) ∧ (b = true → SuFew s))) ?_ (by rintro x env h' ⟨rfl, E2, b, rfl, hb⟩; rw [e6_3r]; exact .mk ⟨E.trans E2, b, rfl, hb⟩)
  have no : ∀ {m2 : H}, Ext m m2 → GivesX (some (Exit.ret, E6_r (Value.bool false), m2)) (fun x env hh => x = .ret ∧ Ext m hh ∧ ∃ b, env = E6_r (.bool b) ∧ (b = true → SuFew s)) := fun E => .mk ⟨rfl, E, false, rfl, fun h => by cases h⟩
  rw [e6_3c, l0, optK_mk, castSl_mk]
  by_cases g1 : (s.ac.length : Int) > 20
  · rw [decide_eq_true g1, cond_true]; exact no (.refl _)
  rw [decide_eq_false g1, cond_false, l1 (.refl _), optK_mk, castSl_mk]
  by_cases g2 : (s.sy.length : Int) > 20
  · rw [decide_eq_true g2, cond_true]; exact no (.refl _)
  rw [decide_eq_false g2, cond_false, l2 (.refl _), optK_mk, castSl_mk]
  by_cases g3 : (s.ve.length : Int) > 20
  · rw [decide_eq_true g3, cond_true]; exact no (.refl _)
  rw [decide_eq_false g3, cond_false]
  refine GivesX.jump (Q := (fun x env hh => x = .ret ∧ Ext m hh ∧ ∃ b, env = E6_r (.bool b) ∧ (b = true → SuFew s))) ?_ (by rintro x env h' ⟨rfl, E2, b, rfl, hb⟩; rw [e6_7r]; exact .mk ⟨rfl, E2, b, rfl, hb⟩)
  rw [e6_7c, l0, optK_mk, castSl_mk]
  refine GivesX.all s.ac.length (fun k => (s.ac[k]?).elim true fun x => !decide (((txt x.1).size : Int) > 100)) (fun hh => Ext m hh) (fun k => E6_0 (.pointer (some ⟨h.next, 0, none⟩)) (.slice s.aa s.ac.length s.at') (.int .i64 (s.ac.length : Int)) (.int .i64 (k : Int))) (xT := .exit 0) (xF := .ret)
    (envT := E6_2 (.pointer (some ⟨h.next, 0, none⟩))) (envF := E6_r (.bool false)) (fun k hh hlt E1 => ?_) (fun hh _ {R} nx K => by rw [e6_0, decide_eq_false (by omega), cond_false]) (.refl m) (by omega) (fun hh E1 _ => ?_) (fun hh E1 _ => by rw [e6_0r]; exact no E1)
  · have hget : s.ac[k]? = some s.ac[k] := List.getElem?_eq_getElem hlt
    generalize s.ac[k] = x at hget
    simp only [hget, Option.elim]
    obtain ⟨m2, hm2, E2, H2⟩ := new_row hh (acC x)
    have k1 : ldV P30 9 hh.next 0 m2 = some (.string (txt x.1)) := ld_at agg9 H2
    refine ⟨m2, E1.trans E2, ?_⟩
    by_cases g : ((txt x.1).size : Int) > 100
    · refine .inr ⟨by rw [decide_eq_true g]; rfl, fun {R} nx K => ?_⟩
      rw [e6_0, decide_eq_true (by omega), cond_true, (S1.ac.ext E1).row und22 cel58 agg58 (by omega) hget rfl rfl, hm2, k1, optK_mk, castS_mk, decide_eq_true g, cond_true]
    · refine .inl ⟨by rw [decide_eq_false g]; rfl, fun {R} nx K => ?_⟩
      rw [e6_0, decide_eq_true (by omega), cond_true, (S1.ac.ext E1).row und22 cel58 agg58 (by omega) hget rfl rfl, hm2, k1, optK_mk, castS_mk, decide_eq_false g, cond_false, wrap_succ (by omega)]
  rw [e6_0x0, l1 E1, optK_mk, castSl_mk]
  refine GivesX.all s.sy.length (fun k => (s.sy[k]?).elim true fun x => !decide ((x.name.size : Int) > 100)) (fun hh => Ext m hh) (fun k => E6_8 (.pointer (some ⟨h.next, 0, none⟩)) (.slice s.sa s.sy.length s.st) (.int .i64 (s.sy.length : Int)) (.int .i64 (k : Int))) (xT := .exit 2) (xF := .ret)
    (envT := E6_2 (.pointer (some ⟨h.next, 0, none⟩))) (envF := E6_r (.bool false)) (fun k hh hlt E1 => ?_) (fun hh _ {R} nx K => by rw [e6_8, decide_eq_false (by omega), cond_false]) E1 (by omega) (fun hh E1 _ => ?_) (fun hh E1 _ => by rw [e6_8r]; exact no E1)
  · have hget : s.sy[k]? = some s.sy[k] := List.getElem?_eq_getElem hlt
    generalize s.sy[k] = x at hget
    simp only [hget, Option.elim]
    obtain ⟨m2, hm2, E2, H2⟩ := new_row hh (syC x)
    have k1 : ldV P30 9 hh.next 0 m2 = some (.string x.name) := ld_at agg9 H2
    refine ⟨m2, E1.trans E2, ?_⟩
    by_cases g : (x.name.size : Int) > 100
    · refine .inr ⟨by rw [decide_eq_true g]; rfl, fun {R} nx K => ?_⟩
      rw [e6_8, decide_eq_true (by omega), cond_true, (S1.sy.ext E1).row und23 cel60 agg60 (by omega) hget rfl rfl, hm2, k1, optK_mk, castS_mk, decide_eq_true g, cond_true]
    · refine .inl ⟨by rw [decide_eq_false g]; rfl, fun {R} nx K => ?_⟩
      rw [e6_8, decide_eq_true (by omega), cond_true, (S1.sy.ext E1).row und23 cel60 agg60 (by omega) hget rfl rfl, hm2, k1, optK_mk, castS_mk, decide_eq_false g, cond_false, wrap_succ (by omega)]
  rw [e6_8x2, l2 E1, optK_mk, castSl_mk]
  refine GivesX.all s.ve.length (fun k => (s.ve[k]?).elim true fun x => !decide ((x.name.size : Int) > 100)) (fun hh => Ext m hh) (fun k => E6_16 (.slice s.va s.ve.length s.vt) (.int .i64 (s.ve.length : Int)) (.int .i64 (k : Int))) (xT := .exit 4) (xF := .ret)
    (envT := E6_18) (envF := E6_r (.bool false)) (fun k hh hlt E1 => ?_) (fun hh _ {R} nx K => by rw [e6_16, decide_eq_false (by omega), cond_false]) E1 (by omega) (fun hh E1 _ => by rw [e6_16x4]; exact .mk ⟨rfl, E1, true, rfl, fun _ => ⟨by omega, by omega, by omega⟩⟩)
    (fun hh E1 _ => by rw [e6_16r]; exact no E1)
  · have hget : s.ve[k]? = some s.ve[k] := List.getElem?_eq_getElem hlt
    generalize s.ve[k] = x at hget
    simp only [hget, Option.elim]
    obtain ⟨m2, hm2, E2, H2⟩ := new_row hh (veC x)
    have k1 : ldV P30 9 hh.next 0 m2 = some (.string x.name) := ld_at agg9 H2
    refine ⟨m2, E1.trans E2, ?_⟩
    by_cases g : (x.name.size : Int) > 100
    · refine .inr ⟨by rw [decide_eq_true g]; rfl, fun {R} nx K => ?_⟩
      rw [e6_16, decide_eq_true (by omega), cond_true, (S1.ve.ext E1).row und24 cel62 agg62 (by omega) hget rfl rfl, hm2, k1, optK_mk, castS_mk, decide_eq_true g, cond_true]
    · refine .inl ⟨by rw [decide_eq_false g]; rfl, fun {R} nx K => ?_⟩
      rw [e6_16, decide_eq_true (by omega), cond_true, (S1.ve.ext E1).row und24 cel62 agg62 (by omega) hget rfl rfl, hm2, k1, optK_mk, castS_mk, decide_eq_false g, cond_false, wrap_succ (by omega)]

/-- What a view's numbers are, and how many there are. -/
structure VwInts (v : Vw) : Prop where
  ps : ∀ p ∈ v.ps, fits p.filled ∧ fits p.busted ∧ fits p.claims ∧ fits p.worth ∧ fits p.most ∧ ∀ k ∈ p.kids, kidFits k
  real : ∀ z ∈ v.real, fits z
  held : ∀ z ∈ v.held, fits z
structure VwFew (v : Vw) : Prop where
  kids : ∀ p ∈ v.ps, p.kids.length ≤ 60
  few : v.ps.length ≤ 40
  fu : v.used.length ≤ 60
  fr : v.real.length ≤ 60
  fh : v.held.length ≤ 60
  ff : v.faults.length ≤ 60
theorem VwFit.of (a : VwInts v) (b : VwFew v) : VwFit v :=
  ⟨fun p hp => let ⟨h1, h2, h3, h4, h5, h6⟩ := a.ps p hp; ⟨h1, h2, h3, h4, h5, h6, b.kids p hp⟩, a.real, a.held, b.few, b.fu, b.fr, b.fh, b.ff⟩

theorem c_few (V : VwIn h v) (hl : v.ps.length < 9223372036854775808) (hr : 9223372036854775808 ≤ r) : Gives (ev30 r (n + 2) 7 [vwV v] h) fun y h' => Ext h h' ∧ ∃ b, y = .bool b ∧ (b = true → VwFew v) := by
  unfold vwV
  rw [e7]
  obtain ⟨m, hm, E, HX⟩ := new_row h (vwC v)
  have l2 : ∀ {m'}, Ext m m' → ldV P30 27 h.next 2 m' = some (.slice v.pa v.ps.length v.pt) := fun E => ld_at agg27 (HX.ext E)
  have A : VwAt m h.next v := ⟨HX⟩
  unfold vwC at hm
  rw [hm]
  have V1 := V.ext E
  refine Gives.jump (Q := (fun x env hh => x = .ret ∧ Ext m hh ∧ ∃ b, env = E7_r (.bool b) ∧ (b = true → VwFew v))) ?_ (by rintro x env h' ⟨rfl, E2, b, rfl, hb⟩; rw [e7_3r]; exact .mk ⟨E.trans E2, b, rfl, hb⟩)
  have no : ∀ {m2 : H}, Ext m m2 → GivesX (some (Exit.ret, E7_r (Value.bool false), m2)) (fun x env hh => x = .ret ∧ Ext m hh ∧ ∃ b, env = E7_r (.bool b) ∧ (b = true → VwFew v)) := fun E => .mk ⟨rfl, E, false, rfl, fun h => by cases h⟩
  rw [e7_3c, l2 (.refl _), optK_mk, castSl_mk]
  refine GivesX.all v.ps.length (fun k => (v.ps[k]?).elim true fun p => decide (¬ ((p.kids.length : Int) > 60) ∧ ¬ (((txt p.acc).size : Int) > 100) ∧ ¬ ((p.id.size : Int) > 100) ∧ ¬ ((p.sym.size : Int) > 100))) (fun hh => Ext m hh)
    (fun k => E7_0 (.pointer (some ⟨h.next, 0, none⟩)) (.slice v.pa v.ps.length v.pt) (.int .i64 (v.ps.length : Int)) (.int .i64 (k : Int))) (xT := .exit 0) (xF := .ret)
    (envT := E7_2 (.pointer (some ⟨h.next, 0, none⟩))) (envF := E7_r (.bool false)) (fun k hh hlt E1 => ?_) (fun hh _ {R} nx K => by rw [e7_0, decide_eq_false (by omega), cond_false]) (.refl m) (by omega) (fun hh E1 ha => ?_) (fun hh E1 _ => by rw [e7_0r]; exact no E1)
  · have hget : v.ps[k]? = some v.ps[k] := List.getElem?_eq_getElem hlt
    generalize v.ps[k] = p at hget
    simp only [hget, Option.elim]
    obtain ⟨m2, hm2, E2, H2⟩ := new_row hh (prC p)
    have B : PrAt m2 hh.next p := ⟨H2⟩
    have hk : decide ((k : Int) < (v.ps.length : Int)) = true := decide_eq_true (by omega)
    refine ⟨m2, E1.trans E2, ?_⟩
    by_cases g1 : (p.kids.length : Int) > 60
    · refine .inr ⟨decide_eq_false (fun h => h.1 g1), fun {R} nx K => ?_⟩
      rw [e7_0, hk, cond_true, (V1.ps.ext E1).row (P := P30) und27 cel65 agg65 (by omega) hget rfl rfl, hm2, B.l16, optK_mk, castSl_mk, decide_eq_true g1, cond_true]
    by_cases g2 : ((txt p.acc).size : Int) > 100
    · refine .inr ⟨decide_eq_false (fun h => h.2.1 g2), fun {R} nx K => ?_⟩
      rw [e7_0, hk, cond_true, (V1.ps.ext E1).row (P := P30) und27 cel65 agg65 (by omega) hget rfl rfl, hm2, B.l16, optK_mk, castSl_mk, decide_eq_false g1, cond_false, B.l1, optK_mk, castS_mk, decide_eq_true g2, cond_true]
    by_cases g3 : (p.id.size : Int) > 100
    · refine .inr ⟨decide_eq_false (fun h => h.2.2.1 g3), fun {R} nx K => ?_⟩
      rw [e7_0, hk, cond_true, (V1.ps.ext E1).row (P := P30) und27 cel65 agg65 (by omega) hget rfl rfl, hm2, B.l16, optK_mk, castSl_mk, decide_eq_false g1, cond_false, B.l1, optK_mk, castS_mk, decide_eq_false g2, cond_false, B.l0, optK_mk, castS_mk,
        decide_eq_true g3, cond_true]
    by_cases g4 : (p.sym.size : Int) > 100
    · refine .inr ⟨decide_eq_false (fun h => h.2.2.2 g4), fun {R} nx K => ?_⟩
      rw [e7_0, hk, cond_true, (V1.ps.ext E1).row (P := P30) und27 cel65 agg65 (by omega) hget rfl rfl, hm2, B.l16, optK_mk, castSl_mk, decide_eq_false g1, cond_false, B.l1, optK_mk, castS_mk, decide_eq_false g2, cond_false, B.l0, optK_mk, castS_mk,
        decide_eq_false g3, cond_false, B.l2, optK_mk, castS_mk, decide_eq_true g4, cond_true]
    · refine .inl ⟨decide_eq_true ⟨g1, g2, g3, g4⟩, fun {R} nx K => ?_⟩
      rw [e7_0, hk, cond_true, (V1.ps.ext E1).row (P := P30) und27 cel65 agg65 (by omega) hget rfl rfl, hm2, B.l16, optK_mk, castSl_mk, decide_eq_false g1, cond_false, B.l1, optK_mk, castS_mk, decide_eq_false g2, cond_false, B.l0, optK_mk, castS_mk,
        decide_eq_false g3, cond_false, B.l2, optK_mk, castS_mk, decide_eq_false g4, cond_false, wrap_succ' (by omega)]
  have A1 := A.ext E1
  rw [e7_0x0, l2 E1, optK_mk, castSl_mk]
  by_cases g1 : (v.ps.length : Int) ≤ 40
  rotate_left
  · rw [decide_eq_false g1, cond_false]; exact no E1
  rw [decide_eq_true g1, cond_true, A1.l3, optK_mk, castSl_mk]
  by_cases g2 : (v.used.length : Int) ≤ 60
  rotate_left
  · rw [decide_eq_false g2, cond_false]; exact no E1
  rw [decide_eq_true g2, cond_true, A1.l4, optK_mk, castSl_mk]
  by_cases g3 : (v.real.length : Int) ≤ 60
  rotate_left
  · rw [decide_eq_false g3, cond_false]; exact no E1
  rw [decide_eq_true g3, cond_true, A1.l5, optK_mk, castSl_mk]
  by_cases g4 : (v.held.length : Int) ≤ 60
  rotate_left
  · rw [decide_eq_false g4, cond_false]; exact no E1
  rw [decide_eq_true g4, cond_true, A1.l6, optK_mk, castSl_mk]
  refine .mk ⟨rfl, E1, _, rfl, fun hb => ⟨fun p hp => ?_, by omega, by omega, by omega, by omega, by have := of_decide_eq_true hb; omega⟩⟩
  obtain ⟨k, hk, rfl⟩ := List.mem_iff_getElem.1 hp
  have h1 := allN_at ha hk
  rw [List.getElem?_eq_getElem hk] at h1
  have h2 := of_decide_eq_true h1
  omega
end
end Go.Ev
