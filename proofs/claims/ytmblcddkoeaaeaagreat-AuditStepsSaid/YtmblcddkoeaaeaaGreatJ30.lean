/-
  Audit: the program's rules 1 to 3.
-/
import Derived.Test.YtmblcddkoeaaeaaGreatI30
namespace Go.Ev
open Go Go.Proofs

/-! ### the rules -/
def sizeOk (s : Su) (v : Vw) : Bool := decide (v.used.length = s.ac.length ∧ v.real.length = s.ac.length ∧ v.faults.length = s.ve.length ∧ v.held.length = v.ps.length ∧ (v.ps.length : Int) ≤ s.z3 ∧ 0 ≤ v.now ∧ v.now ≤ 1099511627776) &&
  (atLeast 0 v.used && atLeast 0 v.real && atLeast 0 v.held && atLeast 0 v.faults)
def ok2 (s : Su) (p : Pr) : Bool := decide (1 ≤ p.state ∧ p.state ≤ 6 ∧ 1 ≤ p.qty ∧ 0 ≤ p.filled ∧ 0 ≤ p.busted ∧ 0 ≤ p.claims ∧ 0 ≤ p.worth ∧ 0 ≤ p.need ∧ 0 ≤ placeIn s p.acc ∧ p.qty ≤ p.most ∧ p.most ≤ 1099511627776)
def ok3 (p : Pr) : Bool := allN (fun k => (p.kids[k]?).elim true kidOk) p.kids.length
def ok4 (p : Pr) : Bool := isSum p.claims (p.kids.map (·.claim)) && isSum p.filled (p.kids.map (·.cum))
def ok5 (p : Pr) : Bool := decide (p.filled + p.busted + p.claims ≤ p.most)
def ok6 (p : Pr) (z : Int) : Bool := decide (¬ (4 < p.state ∧ (p.claims ≠ 0 ∨ z ≠ 0)) ∧ ¬ (p.state = 5 ∧ IntKind.i64.wrap (p.filled + p.busted) < p.qty))
def ok7 (p : Pr) (z : Int) : Bool := decide (4 < p.state ∨ (p.need ≤ z ∧ p.worth ≤ p.need))
/-- A rule of all parents. -/
def every (v : Vw) (q : Pr → Int → Bool) (k : Nat) : Bool := (v.ps[k]?).elim true fun p => q p (v.held.getD k 0)
def rule (v : Vw) (q : Pr → Int → Bool) : Bool := allN (every v q) v.ps.length
theorem every_at {v : Vw} {q : Pr → Int → Bool} {k : Nat} {p : Pr} (hp : v.ps[k]? = some p) : every v q k = q p (v.held.getD k 0) := by unfold every; rw [hp]; rfl

theorem neI {a b : Nat} (h : a ≠ b) : ((a : Int) != (b : Int)) = true := by simp; omega
theorem eqI {a b : Nat} (h : a = b) : ((a : Int) != (b : Int)) = false := by simp; omega
section
variable {r n : Nat} {h : H} {s : Su} {v : Vw}


theorem c_r1 (F : VwFit v) (S : SuIn h s) (V : VwIn h v) (hr : 1000000 ≤ r) : Gives (ev30 r (n + 4) 20 [stV s v] h) fun y h' => y = .bool (sizeOk s v) ∧ Ext h h' := by
  unfold stV
  rw [e20]
  obtain ⟨m, hm, E, HX⟩ := new_row h (suC s ++ vwC v)
  simp only [suC, vwC, List.cons_append, List.nil_append] at hm
  rw [hm]
  have A : StillAt m h.next s v := ⟨HX⟩
  clear HX hm
  refine Gives.jump (Q := fun x env hh => x = .ret ∧ env = E20_r (.bool (sizeOk s v)) ∧ Ext h hh) ?_ (by rintro x env h' ⟨rfl, rfl, E⟩; rw [e20_3r]; exact .mk ⟨rfl, E⟩)
  obtain ⟨m2, hm2, E2, H2⟩ := new_row m (vwC v)
  have A2 := A.ext E2
  have k3 : ldV P30 28 m.next 3 m2 = some (.slice v.ua v.used.length v.ut) := ld_at agg28 H2
  have k4 : ldV P30 28 m.next 4 m2 = some (.slice v.ra v.real.length v.rt) := ld_at agg28 H2
  have k5 : ldV P30 28 m.next 5 m2 = some (.slice v.ha v.held.length v.ht) := ld_at agg28 H2
  have k6 : ldV P30 28 m.next 6 m2 = some (.slice v.fa v.faults.length v.ft) := ld_at agg28 H2
  have k2 : ldV P30 27 m.next 2 m2 = some (.slice v.pa v.ps.length v.pt) := ld_at agg27 H2
  have k0 : ldV P30 3 m.next 0 m2 = some (.int .i64 v.now) := ld_at agg3 H2
  have V2 := V.ext (E.trans E2)
  have E' := E.trans E2
  obtain ⟨_, _, _, f1, f2, f3, f4, f5⟩ := F
  have q1 := c_least (r := r) (n := n) (low := 0) V2.used (by omega) hr
  have q2 := c_least (r := r) (n := n) (low := 0) V2.real (by omega) hr
  have q3 := c_least (r := r) (n := n) (low := 0) V2.held (by omega) hr
  have q4 := c_least (r := r) (n := n) (low := 0) V2.faults (by omega) hr
  have st : stCells (m.new (Blk.cells [Value.int IntKind.i64 0, Value.bool false, Value.slice none 0 0, Value.slice none 0 0, Value.slice none 0 0, Value.slice none 0 0, Value.slice none 0 0] false)) m.next 0 (vwV v).cells.toList = some m2 := by
    rw [← hm2]; exact st_new (cs := vwC v) rfl
  rw [e20_3c, A.view, optK_mk, show vwV v = .agg (vwV v).cells from rfl, castA_mk, ifK_pos (by rw [cel30]; rfl)]
  simp only [show (Value.agg (vwV v).cells).cells = (vwV v).cells from rfl]
  rw [st, optK_mk, A2.l0, optK_mk, castSl_mk, same_sl (S.ac.ext E) A.l0, cond_true, k3, optK_mk, castSl_mk]
  have no : ∀ b : Bool, b = false → sizeOk s v = b → GivesX (some (Exit.ret, E20_r (Value.bool false), m2)) fun x env hh => x = .ret ∧ env = E20_r (.bool (sizeOk s v)) ∧ Ext h hh := fun b hb hs => by rw [hs, hb]; exact .mk ⟨rfl, rfl, E'⟩
  by_cases g1 : v.used.length = s.ac.length
  rotate_left
  · rw [neI g1, cond_true]; exact no _ rfl (by unfold sizeOk; rw [decide_eq_false (by omega)]; rfl)
  rw [eqI g1, cond_false, k4, optK_mk, castSl_mk]
  by_cases g2 : v.real.length = s.ac.length
  rotate_left
  · rw [neI g2, cond_true]; exact no _ rfl (by unfold sizeOk; rw [decide_eq_false (by omega)]; rfl)
  rw [eqI g2, cond_false, k6, optK_mk, castSl_mk, A2.l2, optK_mk, castSl_mk]
  by_cases g3 : v.faults.length = s.ve.length
  rotate_left
  · rw [neI g3, cond_true]; exact no _ rfl (by unfold sizeOk; rw [decide_eq_false (by omega)]; rfl)
  rw [eqI g3, cond_false, k5, optK_mk, castSl_mk, k2, optK_mk, castSl_mk]
  by_cases g4 : v.held.length = v.ps.length
  rotate_left
  · rw [neI g4, cond_true]; exact no _ rfl (by unfold sizeOk; rw [decide_eq_false (by omega)]; rfl)
  rw [eqI g4, cond_false, optK_mk, castSl_mk, A2.l3, optK_mk, castI_mk]
  by_cases g5 : (v.ps.length : Int) > s.z3
  · rw [decide_eq_true g5, cond_true]; exact no _ rfl (by unfold sizeOk; rw [decide_eq_false (by omega)]; rfl)
  rw [decide_eq_false g5, cond_false]
  refine GivesX.jump (Q := fun x env hh => x = .ret ∧ env = E20_r (.bool (sizeOk s v)) ∧ Ext h hh) ?_ (by rintro x env h' ⟨rfl, rfl, E⟩; rw [e20_9r]; exact .mk ⟨rfl, rfl, E⟩)
  rw [e20_9c, k0, optK_mk, castI_mk]
  by_cases g6 : v.now ≥ 0
  rotate_left
  · rw [decide_eq_false g6, cond_false]; exact no _ rfl (by unfold sizeOk; rw [decide_eq_false (by omega)]; rfl)
  rw [decide_eq_true g6, cond_true, optK_mk, castI_mk]
  by_cases g7 : v.now ≤ 1099511627776
  rotate_left
  · rw [decide_eq_false g7, cond_false]; exact no _ rfl (by unfold sizeOk; rw [decide_eq_false (by omega)]; rfl)
  have key : sizeOk s v = (atLeast 0 v.used && atLeast 0 v.real && atLeast 0 v.held && atLeast 0 v.faults) := by unfold sizeOk; rw [decide_eq_true (by omega)]; rfl
  rw [decide_eq_true g7, cond_true, k3, optK_mk, castSl_mk, callK_mk q1, castV_mk]
  cases c1 : atLeast 0 v.used with
  | false => rw [cond_false]; exact no _ rfl (by rw [key, c1]; rfl)
  | true =>
  rw [cond_true, k4, optK_mk, castSl_mk, callK_mk q2, castV_mk]
  cases c2 : atLeast 0 v.real with
  | false => rw [cond_false]; exact no _ rfl (by rw [key, c1, c2]; rfl)
  | true =>
  rw [cond_true, k5, optK_mk, castSl_mk, callK_mk q3, castV_mk]
  cases c3 : atLeast 0 v.held with
  | false => rw [cond_false]; exact no _ rfl (by rw [key, c1, c2, c3]; rfl)
  | true =>
  rw [cond_true, k6, optK_mk, castSl_mk, callK_mk q4, castV_mk]
  exact .mk ⟨rfl, by rw [key, c1, c2, c3]; rfl, E'⟩

theorem c_r2 (F : VwFit v) (S : SuIn h s) (SF : SuFew s) (V : VwIn h v) (hr : 1000000 ≤ r) : Gives (ev30 r (n + 4) 21 [stV s v] h) fun y h' => y = .bool (rule v fun p _ => ok2 s p) ∧ Ext h h' := by
  unfold stV
  rw [e21]
  obtain ⟨m, hm, E, HX⟩ := new_row h (suC s ++ vwC v)
  simp only [suC, vwC, List.cons_append, List.nil_append] at hm
  rw [hm]
  have A : StillAt m h.next s v := ⟨HX⟩
  clear HX hm
  refine Gives.jump (Q := fun x env hh => x = .ret ∧ env = E21_r (.bool (rule v fun p _ => ok2 s p)) ∧ Ext h hh) ?_ (by rintro x env h' ⟨rfl, rfl, E⟩; rw [e21_3r]; exact .mk ⟨rfl, E⟩)
  rw [e21_3c, A.l11, optK_mk, castSl_mk]
  refine GivesX.all v.ps.length (every v (fun p _ => ok2 s p)) (fun hh => Ext m hh) (fun k => E21_0 (.pointer (some ⟨h.next, 0, none⟩)) (.slice v.pa v.ps.length v.pt) (.int .i64 (v.ps.length : Int)) (.int .i64 (k : Int))) (fun k hh hlt E1 => ?_)
    (fun hh _ {R} nx K => by rw [e21_0, decide_eq_false (by omega), cond_false]) (.refl m) (by have := F.few; omega)
    (fun hh E1 ha => by rw [e21_0x0]; exact .mk ⟨rfl, by unfold rule; rw [ha], E.trans E1⟩) (fun hh E1 ha => by rw [e21_0r]; exact .mk ⟨rfl, by unfold rule; rw [ha], E.trans E1⟩)
  have hget : v.ps[k]? = some v.ps[k] := List.getElem?_eq_getElem hlt
  have hmem : v.ps[k] ∈ v.ps := List.getElem_mem hlt
  generalize v.ps[k] = p at hget hmem
  rw [every_at hget]
  have hl40 := F.few
  obtain ⟨m2, hm2, E2, H2⟩ := new_row hh (prC p)
  have B : PrAt m2 hh.next p := ⟨H2⟩
  have hk : decide ((k : Int) < (v.ps.length : Int)) = true := decide_eq_true (by omega)
  obtain ⟨m3, hm3, E3, H3⟩ := new_row m2 [.int .i64 p.state, .int .i64 p.qty]
  have I3 : Is m3 (some ⟨m2.next, 0, none⟩) 1 [p.state, p.qty] := Is.of H3
  have q3 : ev30 r (n + 2) 52 [.int .i64 1, .slice (some ⟨m2.next, 0, none⟩) 2 1] m3 = some (.bool (atLeast 1 [p.state, p.qty]), m3) := c_least (r := r) (n := n + 1) (low := 1) (a := some ⟨m2.next, 0, none⟩) (sa := 1) (l := [p.state, p.qty]) I3 (by simp) hr
  have B3 := B.ext E3
  have X3 : Ext m m3 := E1.trans (E2.trans E3)
  have A3 := A.ext X3
  obtain ⟨_, m4, q4, rfl, E4⟩ := c_place (r := r) (n := n) (w := p.acc) (S.ext (E.trans X3)) SF hr
  have B4 := B3.ext E4
  obtain ⟨m5, hm5, E5, H5⟩ := new_row m4 [.int .i64 p.filled, .int .i64 p.busted, .int .i64 p.claims, .int .i64 p.worth, .int .i64 p.need, .int .i64 (placeIn s p.acc)]
  have I5 : Is m5 (some ⟨m4.next, 0, none⟩) 1 [p.filled, p.busted, p.claims, p.worth, p.need, placeIn s p.acc] := Is.of H5
  have q5 : ev30 r (n + 2) 52 [.int .i64 0, .slice (some ⟨m4.next, 0, none⟩) 6 1] m5 = some (.bool (atLeast 0 [p.filled, p.busted, p.claims, p.worth, p.need, placeIn s p.acc]), m5) := c_least (r := r) (n := n + 1) (low := 0) (a := some ⟨m4.next, 0, none⟩) (sa := 1) (l := [p.filled, p.busted, p.claims, p.worth, p.need, placeIn s p.acc]) I5 (by simp) hr
  have B5 := B4.ext E5
  have X5 : Ext m m5 := X3.trans (E4.trans E5)
  have a1 : atLeast 1 [p.state, p.qty] = decide (1 ≤ p.state ∧ 1 ≤ p.qty) := by simp [atLeast]
  have a2 : atLeast 0 [p.filled, p.busted, p.claims, p.worth, p.need, placeIn s p.acc] = decide (0 ≤ p.filled ∧ 0 ≤ p.busted ∧ 0 ≤ p.claims ∧ 0 ≤ p.worth ∧ 0 ≤ p.need ∧ 0 ≤ placeIn s p.acc) := by simp [atLeast]
  by_cases g1 : 1 ≤ p.state ∧ 1 ≤ p.qty
  rotate_left
  · refine ⟨m3, X3, .inr ⟨by unfold ok2; rw [decide_eq_false (by omega)], fun {R} nx K => ?_⟩⟩
    rw [decide_eq_false g1] at a1
    rw [e21_0, hk, cond_true, (V.ps.ext (E.trans E1)).row (P := P30) und27 cel65 agg65 (by omega) hget rfl rfl, hm2, B.l4, optK_mk, castI_mk, B.l6, optK_mk, castI_mk, hm3, callK_mk q3, castV_mk, a1, Bool.not_false, cond_true]
  rw [decide_eq_true g1] at a1
  by_cases g2 : p.state > 6
  · refine ⟨m3, X3, .inr ⟨by unfold ok2; rw [decide_eq_false (by omega)], fun {R} nx K => ?_⟩⟩
    rw [e21_0, hk, cond_true, (V.ps.ext (E.trans E1)).row (P := P30) und27 cel65 agg65 (by omega) hget rfl rfl, hm2, B.l4, optK_mk, castI_mk, B.l6, optK_mk, castI_mk, hm3, callK_mk q3, castV_mk, a1, Bool.not_true, cond_false, B3.l4, optK_mk, castI_mk, decide_eq_true g2, cond_true]
  have pre : ∀ {R : Type} (nx : Env → H → Option R) (K : Exit → Env → H → Option R), evCode P30 (ev30 r (n + 2)) (jmp30 r (n + 2) 21) (dead30 21) r 0 (pc [1, 0, 1, 0, 0] (bd Tryz.f21)) (E21_0 (.pointer (some ⟨h.next, 0, none⟩)) (.slice v.pa v.ps.length v.pt) (.int .i64 (v.ps.length : Int)) (.int .i64 (k : Int))) hh (loopK nx (dead30 21 (4 * 0)) (dead30 21 (4 * 0 + 2)) (dead30 21 1000002) K) =
      bif !atLeast 0 [p.filled, p.busted, p.claims, p.worth, p.need, placeIn s p.acc] then K .ret (E21_r (.bool false)) m5 else bif decide (p.most < p.qty) then K .ret (E21_r (.bool false)) m5 else bif decide (p.most > 1099511627776) then K .ret (E21_r (.bool false)) m5 else
        nx (E21_0 (.pointer (some ⟨h.next, 0, none⟩)) (.slice v.pa v.ps.length v.pt) (.int .i64 (v.ps.length : Int)) (.int .i64 ((k + 1 : Nat) : Int))) m5 := by
    intro R nx K
    rw [e21_0, hk, cond_true, (V.ps.ext (E.trans E1)).row (P := P30) und27 cel65 agg65 (by omega) hget rfl rfl, hm2, B.l4, optK_mk, castI_mk, B.l6, optK_mk, castI_mk, hm3, callK_mk q3, castV_mk, a1, Bool.not_true, cond_false, B3.l4, optK_mk, castI_mk, decide_eq_false g2, cond_false,
      A3.setup, optK_mk, show suV s = .agg (suV s).cells from rfl, castA_mk, B3.l1, optK_mk, castS_mk, show Value.agg (suV s).cells = suV s from rfl, callK_mk q4, castI_mk,
      B4.l11, optK_mk, castI_mk, same_int B3.l11, cond_true, B4.l12, optK_mk, castI_mk, same_int B3.l12, cond_true, B4.l14, optK_mk, castI_mk, same_int B3.l14, cond_true, B4.l13, optK_mk, castI_mk, same_int B3.l13, cond_true,
      B4.l15, optK_mk, castI_mk, same_int B3.l15, cond_true, hm5, callK_mk q5, castV_mk, B5.l10, optK_mk, castI_mk, B5.l6, optK_mk, castI_mk, optK_mk, castI_mk, wrap_succ (by omega)]
  rw [a2] at pre
  by_cases g3 : 0 ≤ p.filled ∧ 0 ≤ p.busted ∧ 0 ≤ p.claims ∧ 0 ≤ p.worth ∧ 0 ≤ p.need ∧ 0 ≤ placeIn s p.acc
  rotate_left
  · exact ⟨m5, X5, .inr ⟨by unfold ok2; rw [decide_eq_false (by omega)], fun {R} nx K => by rw [pre, decide_eq_false g3]; rfl⟩⟩
  by_cases g4 : p.most < p.qty
  · exact ⟨m5, X5, .inr ⟨by unfold ok2; rw [decide_eq_false (by omega)], fun {R} nx K => by rw [pre, decide_eq_true g3, decide_eq_true g4]; rfl⟩⟩
  by_cases g5 : p.most > 1099511627776
  · exact ⟨m5, X5, .inr ⟨by unfold ok2; rw [decide_eq_false (by omega)], fun {R} nx K => by rw [pre, decide_eq_true g3, decide_eq_false g4, decide_eq_true g5]; rfl⟩⟩
  · exact ⟨m5, X5, .inl ⟨by unfold ok2; rw [decide_eq_true (by omega)], fun {R} nx K => by rw [pre, decide_eq_true g3, decide_eq_false g4, decide_eq_false g5]; rfl⟩⟩

theorem c_r3 (F : VwFit v) (V : VwIn h v) (hr : 1000000 ≤ r) : Gives (ev30 r (n + 5) 22 [stV s v] h) fun y h' => y = .bool (rule v fun p _ => ok3 p) ∧ Ext h h' := by
  unfold stV
  rw [e22]
  obtain ⟨m, hm, E, HX⟩ := new_row h (suC s ++ vwC v)
  simp only [suC, vwC, List.cons_append, List.nil_append] at hm
  rw [hm]
  have A : StillAt m h.next s v := ⟨HX⟩
  clear HX hm
  refine Gives.jump (Q := fun x env hh => x = .ret ∧ env = E22_r (.bool (rule v fun p _ => ok3 p)) ∧ Ext h hh) ?_ (by rintro x env h' ⟨rfl, rfl, E⟩; rw [e22_3r]; exact .mk ⟨rfl, E⟩)
  rw [e22_3c, A.l11, optK_mk, castSl_mk]
  refine GivesX.all v.ps.length (every v (fun p _ => ok3 p)) (fun hh => Ext m hh) (fun k => E22_0 (.slice v.pa v.ps.length v.pt) (.int .i64 (v.ps.length : Int)) (.int .i64 (k : Int))) (fun k hh hlt E1 => ?_)
    (fun hh _ {R} nx K => by rw [e22_0, decide_eq_false (by omega), cond_false]) (.refl m) (by have := F.few; omega)
    (fun hh E1 ha => by rw [e22_0x0]; exact .mk ⟨rfl, by unfold rule; rw [ha], E.trans E1⟩) (fun hh E1 ha => by rw [e22_0r]; exact .mk ⟨rfl, by unfold rule; rw [ha], E.trans E1⟩)
  have hget : v.ps[k]? = some v.ps[k] := List.getElem?_eq_getElem hlt
  have hmem : v.ps[k] ∈ v.ps := List.getElem_mem hlt
  generalize v.ps[k] = p at hget hmem
  rw [every_at hget]
  have hl40 := F.few
  obtain ⟨m2, hm2, E2, H2⟩ := new_row hh (prC p)
  have B : PrAt m2 hh.next p := ⟨H2⟩
  have hk : decide ((k : Int) < (v.ps.length : Int)) = true := decide_eq_true (by omega)
  have PF := F.ps p hmem
  have hl60 := PF.few
  have KS := ((V.kids p hmem).ext (E.trans E1)).ext E2
  obtain ⟨m3, E3, hin⟩ := loop_all (P := P30) (call := ev30 r (n + 3)) (jmp := jmp30 r (n + 3) 22) (dead := dead30 22) (rounds := r) (c := 2) (code := pc [1, 0, 1, 0, 0, 1, 1, 0, 0, 1, 1, 0, 0] (bd Tryz.f22)) (d := dead30 22 (4 * 2)) (d' := dead30 22 (4 * 2 + 2)) (dr := dead30 22 1000002) p.kids.length (fun k => (p.kids[k]?).elim true kidOk) (fun hh => Ext m2 hh)
    (fun j => E22_8 (.slice v.pa v.ps.length v.pt) (.int .i64 (v.ps.length : Int)) (.int .i64 (k : Int)) (.slice p.ka p.kids.length p.kt) (.int .i64 (p.kids.length : Int)) (.int .i64 (j : Int))) (xT := .exit 2) (xF := .ret) (envT := E22_0 (.slice v.pa v.ps.length v.pt) (.int .i64 (v.ps.length : Int)) (.int .i64 (k : Int))) (envF := E22_r (.bool false)) (h := m2) (fun j hj hlt2 E3 => by
      have hget2 : p.kids[j]? = some p.kids[j] := List.getElem?_eq_getElem hlt2
      have hfit := PF.kids p.kids[j] (List.getElem_mem hlt2)
      generalize p.kids[j] = c at hget2 hfit
      simp only [hget2, Option.elim]
      obtain ⟨m4, hm4, E4, H4⟩ := new_row hj (kidC c)
      have C : KidAt m4 hj.next c := ⟨H4⟩
      obtain ⟨_, m5, q5, E5, q, ok, rfl, hq⟩ := c_claim (r := r) (n := n) (h := m4) hfit
      have C5 := C.ext E5
      have hk2 : decide ((j : Int) < (p.kids.length : Int)) = true := decide_eq_true (by omega)
      have pre : ∀ {R : Type} (nx : Env → H → Option R) (K : Exit → Env → H → Option R), evCode P30 (ev30 r (n + 3)) (jmp30 r (n + 3) 22) (dead30 22) r 2 (pc [1, 0, 1, 0, 0, 1, 1, 0, 0, 1, 1, 0, 0] (bd Tryz.f22)) (E22_8 (.slice v.pa v.ps.length v.pt) (.int .i64 (v.ps.length : Int)) (.int .i64 (k : Int)) (.slice p.ka p.kids.length p.kt) (.int .i64 (p.kids.length : Int)) (.int .i64 (j : Int))) hj (loopK nx (dead30 22 (4 * 2)) (dead30 22 (4 * 2 + 2)) (dead30 22 1000002) K) =
          bif !ok then K .ret (E22_r (.bool false)) m5 else bif q != c.claim then K .ret (E22_r (.bool false)) m5 else nx (E22_8 (.slice v.pa v.ps.length v.pt) (.int .i64 (v.ps.length : Int)) (.int .i64 (k : Int)) (.slice p.ka p.kids.length p.kt) (.int .i64 (p.kids.length : Int)) (.int .i64 ((j + 1 : Nat) : Int))) m5 := by
        intro R nx K
        rw [e22_8, hk2, cond_true, (KS.ext E3).row (P := P30) und63 cel81 agg81 (by omega) hget2 rfl rfl, hm4, C.whole, optK_mk, castA_mk, callK_mk q5, castTup_mk, headK_mk, castI_mk, headK_mk, castV_mk, nilK_mk, C5.l9, optK_mk, castI_mk, wrap_succ (by omega)]
      refine ⟨m5, E3.trans (E4.trans E5), ?_⟩
      unfold kidOk
      cases hw : want c with
      | none =>
        rw [hw] at hq; simp only at hq; subst hq
        exact .inr ⟨rfl, fun {R} nx K => by rw [pre]; rfl⟩
      | some w =>
        rw [hw] at hq; simp only at hq; obtain ⟨rfl, rfl⟩ := hq
        by_cases g : c.claim = q
        · exact .inl ⟨by simp [g], fun {R} nx K => by rw [pre, Bool.not_true, cond_false, show (q != c.claim) = false by simp [g], cond_false]⟩
        · exact .inr ⟨by simp [g], fun {R} nx K => by rw [pre, Bool.not_true, cond_false, bne_iff_ne.2 (fun e => g e.symm), cond_true]⟩)
    (fun hj _ {R} nx K => by rw [e22_8, decide_eq_false (by omega), cond_false]) (.refl m2) (r := r) (by omega)
  refine ⟨m3, E1.trans (E2.trans E3), ?_⟩
  rw [show ((0 : Nat) : Int) = 0 from rfl] at hin
  unfold ok3
  rcases hin with ⟨ha, e⟩ | ⟨ha, e⟩
  · refine .inl ⟨ha, fun {R} nx K => ?_⟩
    rw [e22_0, hk, cond_true, (V.ps.ext (E.trans E1)).row (P := P30) und27 cel65 agg65 (by omega) hget rfl rfl, hm2, B.l16, optK_mk, castSl_mk, e, e22_8x2, wrap_succ (by omega)]
  · refine .inr ⟨ha, fun {R} nx K => ?_⟩
    rw [e22_0, hk, cond_true, (V.ps.ext (E.trans E1)).row (P := P30) und27 cel65 agg65 (by omega) hget rfl rfl, hm2, B.l16, optK_mk, castSl_mk, e, e22_8r]
end
end Go.Ev
