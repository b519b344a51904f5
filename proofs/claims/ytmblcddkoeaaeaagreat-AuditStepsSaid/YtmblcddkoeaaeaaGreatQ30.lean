/-
  Audit: the reference's one.
-/
import Derived.Test.YtmblcddkoeaaeaaGreatO30
namespace Go.Ev
open Go Go.Proofs

/-- A rule of a parent, by its number. -/
def oneAt (s : Su) (k : Nat) (p : Pr) (z : Int) : Bool := match k with
  | 2 => ok2 s p
  | 3 => ok3 p
  | 4 => ok4 p
  | 5 => ok5 p
  | 6 => ok6 p z
  | 7 => ok7 p z
  | _ => true

section
variable {r n : Nat} {h m : H} {s : Su} {p : Pr} {z : Int} {ip is : Nat}

theorem one2 (SF : SuFew s) (S : SuIn m s) (A : SuAt m is s) (B : PrAt m ip p) (hr : 1000000 ≤ r) : GivesX (jmp30 r (n + 8) 29 0 (pc [1] (bd Tryz.f29)) (E29_3 (.int .i64 z) (.int .i64 2) (.pointer (some ⟨is, 0, none⟩)) (.pointer (some ⟨ip, 0, none⟩))) m) (fun x env hh => x = .ret ∧ env = E29_r (.bool (oneAt s 2 p z)) ∧ Ext m hh) := by
  rw [e29_3c, show ((2 : Int) == 2) = true from rfl, cond_true, B.l4, optK_mk, castI_mk]
  have no : ∀ {m2 : H}, Ext m m2 → ok2 s p = false → GivesX (some (Exit.ret, E29_r (Value.bool false), m2)) (fun x env hh => x = .ret ∧ env = E29_r (.bool (oneAt s 2 p z)) ∧ Ext m hh) := fun E h => .mk ⟨rfl, by show _ = E29_r (.bool (ok2 s p)); rw [h], E⟩
  by_cases g1 : p.state ≥ 1
  rotate_left
  · rw [decide_eq_false g1, cond_false]; exact no (.refl _) (decide_eq_false (by omega))
  rw [decide_eq_true g1, cond_true, optK_mk, castI_mk]
  by_cases g2 : p.state ≤ 6
  rotate_left
  · rw [decide_eq_false g2, cond_false]; exact no (.refl _) (decide_eq_false (by omega))
  rw [decide_eq_true g2, cond_true, B.l11, optK_mk, castI_mk, B.l12, optK_mk, castI_mk, B.l14, optK_mk, castI_mk, B.l13, optK_mk, castI_mk, B.l15, optK_mk, castI_mk]
  obtain ⟨m3, hm3, E3, H3⟩ := new_row m [.int .i64 p.filled, .int .i64 p.busted, .int .i64 p.claims, .int .i64 p.worth, .int .i64 p.need]
  have I3 : Is m3 (some ⟨m.next, 0, none⟩) 1 [p.filled, p.busted, p.claims, p.worth, p.need] := Is.of H3
  have q3 : ev30 r (n + 7) 57 [.slice (some ⟨m.next, 0, none⟩) 5 1] m3 = some (.bool (!atLeast 0 [p.filled, p.busted, p.claims, p.worth, p.need]), m3) := c_low (r := r) (n := n + 6) (a := some ⟨m.next, 0, none⟩) (sa := 1) (l := [p.filled, p.busted, p.claims, p.worth, p.need]) I3 (by simp) hr
  have a2 : atLeast 0 [p.filled, p.busted, p.claims, p.worth, p.need] = decide (0 ≤ p.filled ∧ 0 ≤ p.busted ∧ 0 ≤ p.claims ∧ 0 ≤ p.worth ∧ 0 ≤ p.need) := by simp [atLeast]
  have B3 := B.ext E3
  rw [hm3, callK_mk q3, castV_mk, Bool.not_not, a2]
  by_cases g3 : 0 ≤ p.filled ∧ 0 ≤ p.busted ∧ 0 ≤ p.claims ∧ 0 ≤ p.worth ∧ 0 ≤ p.need
  rotate_left
  · rw [decide_eq_false g3, cond_false]; exact no E3 (decide_eq_false (by omega))
  rw [decide_eq_true g3, cond_true, B3.l6, optK_mk, castI_mk]
  by_cases g4 : p.qty ≥ 1
  rotate_left
  · rw [decide_eq_false g4, cond_false]; exact no E3 (decide_eq_false (by omega))
  rw [decide_eq_true g4, cond_true, B3.l10, optK_mk, castI_mk, optK_mk, castI_mk]
  by_cases g5 : p.most ≥ p.qty
  rotate_left
  · rw [decide_eq_false g5, cond_false]; exact no E3 (decide_eq_false (by omega))
  rw [decide_eq_true g5, cond_true, optK_mk, castI_mk]
  by_cases g6 : p.most ≤ 1099511627776
  rotate_left
  · rw [decide_eq_false g6, cond_false]; exact no E3 (decide_eq_false (by omega))
  obtain ⟨_, m4, q4, E4, a, st, rfl, N4⟩ := c_names (r := r) (n := n + 5) (S.ext E3) SF hr
  have q5 := c_find (r := r) (n := n + 6) (w := p.acc) N4 (by have := SF.ac; simp; omega) hr
  rw [show (s.ac.map (·.1)).length = s.ac.length by simp] at q5
  rw [decide_eq_true g6, cond_true, (A.ext E3).whole, optK_mk, show suV s = .agg (suV s).cells from rfl, castA_mk, show Value.agg (suV s).cells = suV s from rfl, callK_mk q4, castSl_mk, (B3.ext E4).l1, optK_mk, castS_mk]
  have hs : sameLd P30 9 ip 1 (.string (txt p.acc)) m3 = true := by unfold sameLd; rw [B3.l1]; simp [eqV]
  rw [hs, cond_true, callK_mk q5, castI_mk]
  have e1 : decide (placeOf p.acc (s.ac.map (·.1)) ≥ 0) = ok2 s p := by
    unfold ok2 placeIn; rw [decide_eq_decide]; omega
  rw [e1]
  exact .mk ⟨rfl, rfl, E3.trans E4⟩

theorem one3 (PF : PrFit p) (K : Ks m p.ka p.kt p.kids) (B : PrAt m ip p) (hr : 1000000 ≤ r) : GivesX (jmp30 r (n + 8) 29 0 (pc [1] (bd Tryz.f29)) (E29_3 (.int .i64 z) (.int .i64 3) (.pointer (some ⟨is, 0, none⟩)) (.pointer (some ⟨ip, 0, none⟩))) m) (fun x env hh => x = .ret ∧ env = E29_r (.bool (oneAt s 3 p z)) ∧ Ext m hh) := by
  rw [e29_3c, show ((3 : Int) == 2) = false from rfl, cond_false, show ((3 : Int) == 3) = true from rfl, cond_true]
  have hl60 := PF.few
  refine GivesX.all p.kids.length (fun k => (p.kids[k]?).elim true kidOk) (fun hh => Ext m hh) (fun j => E29_4 (.pointer (some ⟨ip, 0, none⟩)) (.int .i64 (j : Int))) (xT := .exit 1) (xF := .ret) (envT := E29_6) (envF := E29_r (.bool false)) (fun j hj hlt E1 => ?_)
    (fun hj E1 {R} nx K => by rw [e29_4, (B.ext E1).r16, optK_mk, castSl_mk, decide_eq_false (by omega), cond_false]) (.refl m) (by omega)
    (fun hh E1 ha => by rw [e29_4x1]; exact .mk ⟨rfl, by show _ = E29_r (.bool (ok3 p)); unfold ok3; rw [ha], E1⟩) (fun hh E1 ha => by rw [e29_4r]; exact .mk ⟨rfl, by show _ = E29_r (.bool (ok3 p)); unfold ok3; rw [ha], E1⟩)
  have hget : p.kids[j]? = some p.kids[j] := List.getElem?_eq_getElem hlt
  have hfit := PF.kids p.kids[j] (List.getElem_mem hlt)
  generalize p.kids[j] = c at hget hfit
  simp only [hget, Option.elim]
  obtain ⟨_, m5, q5, E5, rfl⟩ := c_child (r := r) (n := n + 3) (h := hj) hfit
  have hk : decide ((j : Int) < (p.kids.length : Int)) = true := decide_eq_true (by omega)
  have pre : ∀ {R : Type} (nx : Env → H → Option R) (K : Exit → Env → H → Option R), evCode P30 (ev30 r (n + 7)) (jmp30 r (n + 7) 29) (dead30 29) r 1 (pc [1, 0, 1, 0, 1, 1, 1, 0, 1, 0, 0] (bd Tryz.f29)) (E29_4 (.pointer (some ⟨ip, 0, none⟩)) (.int .i64 (j : Int))) hj (loopK nx (dead30 29 (4 * 1)) (dead30 29 (4 * 1 + 2)) (dead30 29 1000002) K) =
      bif !kidOk c then K .ret (E29_r (.bool false)) m5 else nx (E29_4 (.pointer (some ⟨ip, 0, none⟩)) (.int .i64 ((j + 1 : Nat) : Int))) m5 := by
    intro R nx K
    rw [e29_4, (B.ext E1).r16, optK_mk, castSl_mk, hk, cond_true, optK_mk, castSl_mk, (‹Ks m p.ka p.kt p.kids›.ext E1).aggr (P := P30) und73 cel82 agg82 (by omega) hget rfl, castA_mk]
    erw [callK_mk q5]
    rw [castV_mk, wrap_succ (by omega)]
  refine ⟨m5, E1.trans E5, ?_⟩
  cases g : kidOk c with
  | true => exact .inl ⟨rfl, fun {R} nx K => by rw [pre, g]; rfl⟩
  | false => exact .inr ⟨rfl, fun {R} nx K => by rw [pre, g]; rfl⟩

theorem one4 (PF : PrFit p) (K : Ks m p.ka p.kt p.kids) (B : PrAt m ip p) (hr : 1000000 ≤ r) : GivesX (jmp30 r (n + 8) 29 0 (pc [1] (bd Tryz.f29)) (E29_3 (.int .i64 z) (.int .i64 4) (.pointer (some ⟨is, 0, none⟩)) (.pointer (some ⟨ip, 0, none⟩))) m) (fun x env hh => x = .ret ∧ env = E29_r (.bool (oneAt s 4 p z)) ∧ Ext m hh) := by
  rw [e29_3c, show ((4 : Int) == 2) = false from rfl, cond_false, show ((4 : Int) == 3) = false from rfl, cond_false, show ((4 : Int) == 4) = true from rfl, cond_true]
  have hl60 := PF.few
  obtain ⟨⟨a5, s5, a6, s6⟩, m3, ⟨E3, X5, X6, hap⟩, e⟩ := loop_run (P := P30) (call := ev30 r (n + 7)) (jmp := jmp30 r (n + 7) 29) (dead := dead30 29) (rounds := r) (c := 3) (code := pc [1, 0, 1, 0, 1, 1, 1, 1, 1, 0, 1, 1, 0, 1, 0, 0] (bd Tryz.f29)) (d := dead30 29 (4 * 3)) (d' := dead30 29 (4 * 3 + 2)) (dr := dead30 29 1000002) (σ := Option Addr × Nat × Option Addr × Nat) p.kids.length
    (fun j x hh => Ext m hh ∧ AccI m hh x.1 x.2.1 ((p.kids.take j).map (·.claim)) ∧ AccI m hh x.2.2.1 x.2.2.2 ((p.kids.take j).map (·.cum)) ∧ Apart x.1 x.2.2.1)
    (fun j x => E29_12 (.pointer (some ⟨ip, 0, none⟩)) (.slice x.1 j x.2.1) (.slice x.2.2.1 j x.2.2.2) (.int .i64 (j : Int))) (xT := .exit 3)
    (envT := fun x => E29_14 (.pointer (some ⟨ip, 0, none⟩)) (.slice x.1 p.kids.length x.2.1) (.slice x.2.2.1 p.kids.length x.2.2.2)) (s0 := (none, 0, none, 0)) (h := m) (fun j ⟨a5, s5, a6, s6⟩ hj hlt2 ⟨E3, X5, X6, hap⟩ => by
      simp only at X5 X6 hap ⊢
      have hget2 : p.kids[j]? = some p.kids[j] := List.getElem?_eq_getElem hlt2
      have htk : p.kids.take (j + 1) = p.kids.take j ++ [p.kids[j]] := by rw [List.take_add_one, hget2]; rfl
      generalize p.kids[j] = c at hget2 htk
      have hk2 : decide ((j : Int) < (p.kids.length : Int)) = true := decide_eq_true (by omega)
      have n5 : ((p.kids.take j).map (·.claim)).length = j := by simp; omega
      have n6 : ((p.kids.take j).map (·.cum)).length = j := by simp; omega
      obtain ⟨b5, m5, q5, P5⟩ := X5.push (P := P30) (x := c.claim) E3 rfl app28 (by omega) (by rw [n5]; omega)
      have Y := X6.other (.refl _) hap P5
      obtain ⟨b6, m6, q6, P6⟩ := Y.1.push (P := P30) (x := c.cum) P5.ext rfl app28 (by omega) (by rw [n6]; omega)
      have Z := P5.acc.other (.refl _) Y.2.symm P6
      rw [n5] at q5
      rw [n6] at q6
      refine ⟨(b5, 1, b6, 1), m6, ⟨P6.ext, ?_, ?_, Z.2.symm⟩, fun {R} nx K => ?_⟩
      · rw [htk, List.map_append]; exact Z.1
      · rw [htk, List.map_append]; exact P6.acc
      · rw [e29_12, (B.ext E3).r16, optK_mk, castSl_mk, hk2, cond_true, optK_mk, castSl_mk, (‹Ks m p.ka p.kt p.kids›.ext E3).readf (P := P30) und73 cel82 agg3 hget2 (f := 9) rfl, castI_mk, q5, castSl_mk,
          (B.ext P5.ext).r16, optK_mk, castSl_mk, (‹Ks m p.ka p.kt p.kids›.ext P5.ext).readf (P := P30) und73 cel82 agg3 hget2 (f := 8) rfl, castI_mk, q6, castSl_mk, wrap_succ (by omega)])
    (fun x hj ⟨E3, _⟩ {R} nx K => by rw [e29_12, (B.ext E3).r16, optK_mk, castSl_mk, decide_eq_false (by omega), cond_false]) ⟨.refl _, .nil _ _, .nil _ _, .nil _⟩ (r := r) (by omega)
  rw [show ((0 : Nat) : Int) = 0 from rfl] at e
  rw [List.take_length] at X5 X6
  simp only at X5 X6 e
  have n5 : (p.kids.map (·.claim)).length = p.kids.length := by simp
  have n6 : (p.kids.map (·.cum)).length = p.kids.length := by simp
  obtain ⟨_, m4, q4, rfl, E4⟩ := c_is (r := r) (n := n) (z := p.claims) X5.sl (by rw [n5]; omega) (fun z hz => by
    obtain ⟨c, hc, rfl⟩ := List.mem_map.1 hz; exact (PF.kids c hc).2.2.2.2) hr
  rw [n5] at q4
  obtain ⟨_, m5, q5, rfl, E5⟩ := c_is (r := r) (n := n) (z := p.filled) (X6.sl.ext E4) (by rw [n6]; omega) (fun z hz => by
    obtain ⟨c, hc, rfl⟩ := List.mem_map.1 hz; exact (PF.kids c hc).2.2.2.1) hr
  rw [n6] at q5
  rw [e, e29_12x3, (B.ext E3).l14, optK_mk, castI_mk, callK_mk q4, castV_mk]
  cases g1 : isSum p.claims (p.kids.map (·.claim)) with
  | false => rw [cond_false]; exact .mk ⟨rfl, by show _ = E29_r (.bool (ok4 p)); unfold ok4; rw [g1]; rfl, E3.trans E4⟩
  | true =>
    rw [cond_true, ((B.ext E3).ext E4).l11, optK_mk, castI_mk, callK_mk q5, castV_mk]
    exact .mk ⟨rfl, by show _ = E29_r (.bool (ok4 p)); unfold ok4; rw [g1]; rfl, E3.trans (E4.trans E5)⟩

theorem one5 (PF : PrFit p) (hm : fits p.most) (B : PrAt m ip p) (hr : 1000000 ≤ r) : GivesX (jmp30 r (n + 8) 29 0 (pc [1] (bd Tryz.f29)) (E29_3 (.int .i64 z) (.int .i64 5) (.pointer (some ⟨is, 0, none⟩)) (.pointer (some ⟨ip, 0, none⟩))) m) (fun x env hh => x = .ret ∧ env = E29_r (.bool (oneAt s 5 p z)) ∧ Ext m hh) := by
  rw [e29_3c, show ((5 : Int) == 2) = false from rfl, cond_false, show ((5 : Int) == 3) = false from rfl, cond_false, show ((5 : Int) == 4) = false from rfl, cond_false, show ((5 : Int) == 5) = true from rfl, cond_true, B.l10, optK_mk, castI_mk]
  obtain ⟨_, m2, q2, c1, s1, rfl, E2, V2⟩ := c_of (r := r) (n := n + 5) (h := m) hm hr
  obtain ⟨m3, hm3, E3, H3⟩ := new_row m2 [.int .i64 p.filled, .int .i64 p.busted, .int .i64 p.claims]
  have I3 : Is m3 (some ⟨m2.next, 0, none⟩) 1 [p.filled, p.busted, p.claims] := Is.of H3
  have hf : ∀ z ∈ [p.filled, p.busted, p.claims], fits z := by
    intro z hz
    simp only [List.mem_cons, List.mem_nil_iff, or_false] at hz
    rcases hz with rfl | rfl | rfl
    · exact PF.filled
    · exact PF.busted
    · exact PF.claims
  obtain ⟨_, m4, q4, E4, c4, s4, rfl, V4⟩ := c_refsum (r := r) (n := n + 1) (a := some ⟨m2.next, 0, none⟩) (sa := 1) (l := [p.filled, p.busted, p.claims]) I3 (by simp) hf hr
  have hs : [p.filled, p.busted, p.claims].sum = p.filled + p.busted + p.claims := by simp; omega
  rw [hs] at q4 V4
  have q4' : ev30 r (n + 7) 64 [.slice (some ⟨m2.next, 0, none⟩) 3 1] m3 = some (.agg #[.bool (sgn (p.filled + p.busted + p.claims)), .slice c4 (mag (p.filled + p.busted + p.claims)).length s4], m4) := q4
  have f1 := PF.filled
  have f2 := PF.busted
  have f3 := PF.claims
  unfold fits at f1 f2 f3 hm
  obtain ⟨_, m5, q5, rfl, E5⟩ := c_below (r := r) (n := n + 2) (h := m4) (x := p.most) (y := p.filled + p.busted + p.claims) (V2.sl.ext (E3.trans E4)) V4.sl (Nat.lt_of_le_of_lt (mag_fit (k := 64) (by omega)) (by omega)) (Nat.lt_of_le_of_lt (mag_fit (k := 70) (by omega)) (by omega)) hr
  have B2 := B.ext E2
  rw [callK_mk q2, castA_mk, B2.l11, optK_mk, castI_mk, same_int B.l11, cond_true, B2.l12, optK_mk, castI_mk, same_int B.l12, cond_true, B2.l14, optK_mk, castI_mk, same_int B.l14, cond_true, hm3, callK_mk q4', castA_mk]
  erw [callK_mk q5]
  have hx : (!decide (p.most < p.filled + p.busted + p.claims)) = ok5 p := by
    unfold ok5
    by_cases g : p.most < p.filled + p.busted + p.claims
    · rw [decide_eq_true g, decide_eq_false (by omega)]; rfl
    · rw [decide_eq_false g, decide_eq_true (by omega)]; rfl
  rw [castV_mk, hx]
  exact .mk ⟨rfl, rfl, E2.trans (E3.trans (E4.trans E5))⟩

theorem one6 (B : PrAt m ip p) : GivesX (jmp30 r (n + 8) 29 0 (pc [1] (bd Tryz.f29)) (E29_3 (.int .i64 z) (.int .i64 6) (.pointer (some ⟨is, 0, none⟩)) (.pointer (some ⟨ip, 0, none⟩))) m) (fun x env hh => x = .ret ∧ env = E29_r (.bool (oneAt s 6 p z)) ∧ Ext m hh) := by
  rw [e29_3c, show ((6 : Int) == 2) = false from rfl, cond_false, show ((6 : Int) == 3) = false from rfl, cond_false, show ((6 : Int) == 4) = false from rfl, cond_false, show ((6 : Int) == 5) = false from rfl, cond_false,
    show ((6 : Int) == 6) = true from rfl, cond_true, B.l4, optK_mk, castI_mk]
  have tail : ¬ (4 < p.state ∧ (p.claims ≠ 0 ∨ z ≠ 0)) → GivesX (jmp30 r (n + 7) 29 0 (pc [1, 0, 1, 0, 1, 1, 1, 1, 1, 1, 1, 1, 1, 0, 1] (bd Tryz.f29)) (E29_49 (.pointer (some ⟨ip, 0, none⟩))) m) (fun x env hh => x = .ret ∧ env = E29_r (.bool (oneAt s 6 p z)) ∧ Ext m hh) := by
    intro h1
    rw [e29_49c, B.l4, optK_mk, castI_mk]
    by_cases g1 : p.state = 5
    · rw [show (p.state != 5) = false by simp [g1], cond_false, B.l11, optK_mk, castI_mk, B.l12, optK_mk, castI_mk, B.l6, optK_mk, castI_mk]
      refine .mk ⟨rfl, ?_, .refl _⟩
      show _ = E29_r (.bool (ok6 p z))
      unfold ok6
      by_cases g2 : IntKind.i64.wrap (p.filled + p.busted) ≥ p.qty
      · rw [decide_eq_true g2, decide_eq_true ⟨h1, fun h => by have := h.2; omega⟩]
      · rw [decide_eq_false g2, decide_eq_false (fun h => h.2 ⟨g1, by omega⟩)]
    · rw [bne_iff_ne.2 g1, cond_true]
      exact .mk ⟨rfl, by show _ = E29_r (.bool (ok6 p z)); unfold ok6; rw [decide_eq_true ⟨h1, fun h => g1 h.1⟩], .refl _⟩
  by_cases g1 : p.state > 4
  · rw [decide_eq_true g1, cond_true, B.l14, optK_mk, castI_mk]
    by_cases g2 : p.claims = 0
    · rw [show (p.claims != 0) = false by simp [g2], cond_false]
      by_cases g3 : z = 0
      · rw [show (z != 0) = false by simp [g3], cond_false]
        refine GivesX.jump (tail fun h => by rcases h.2 with h | h; exact h g2; exact h g3) ?_
        rintro x env h' ⟨rfl, rfl, E⟩
        rw [e29_49r]; exact .mk ⟨rfl, rfl, E⟩
      · rw [bne_iff_ne.2 g3, cond_true]
        exact .mk ⟨rfl, by show _ = E29_r (.bool (ok6 p z)); unfold ok6; rw [decide_eq_false (fun h => h.1 ⟨g1, .inr g3⟩)], .refl _⟩
    · rw [bne_iff_ne.2 g2, cond_true]
      exact .mk ⟨rfl, by show _ = E29_r (.bool (ok6 p z)); unfold ok6; rw [decide_eq_false (fun h => h.1 ⟨g1, .inl g2⟩)], .refl _⟩
  · rw [decide_eq_false g1, cond_false]
    refine GivesX.jump (tail fun h => g1 h.1) ?_
    rintro x env h' ⟨rfl, rfl, E⟩
    rw [e29_49r]; exact .mk ⟨rfl, rfl, E⟩

theorem one7 (B : PrAt m ip p) : GivesX (jmp30 r (n + 8) 29 0 (pc [1] (bd Tryz.f29)) (E29_3 (.int .i64 z) (.int .i64 7) (.pointer (some ⟨is, 0, none⟩)) (.pointer (some ⟨ip, 0, none⟩))) m) (fun x env hh => x = .ret ∧ env = E29_r (.bool (oneAt s 7 p z)) ∧ Ext m hh) := by
  rw [e29_3c, show ((7 : Int) == 2) = false from rfl, cond_false, show ((7 : Int) == 3) = false from rfl, cond_false, show ((7 : Int) == 4) = false from rfl, cond_false, show ((7 : Int) == 5) = false from rfl, cond_false,
    show ((7 : Int) == 6) = false from rfl, cond_false, show ((7 : Int) == 7) = true from rfl, cond_true, B.l4, optK_mk, castI_mk]
  by_cases g1 : p.state > 4
  · rw [decide_eq_true g1, cond_true]
    exact .mk ⟨rfl, by show _ = E29_r (.bool (ok7 p z)); unfold ok7; rw [decide_eq_true (.inl g1)], .refl _⟩
  · rw [decide_eq_false g1, cond_false, B.l15, optK_mk, castI_mk]
    by_cases g2 : p.need ≤ z
    · rw [decide_eq_true g2, cond_true, B.l13, optK_mk, castI_mk, optK_mk, castI_mk]
      have hx : decide (p.worth ≤ p.need) = ok7 p z := by unfold ok7; rw [decide_eq_decide]; omega
      rw [hx]
      exact .mk ⟨rfl, rfl, .refl _⟩
    · rw [decide_eq_false g2, cond_false]
      exact .mk ⟨rfl, by show _ = E29_r (.bool (ok7 p z)); unfold ok7; rw [decide_eq_false (by omega)], .refl _⟩

/-- spigotref30.one -/
theorem c_one (k : Nat) (hk : 2 ≤ k ∧ k < 8) (SF : SuFew s) (S : SuIn h s) (K : Ks h p.ka p.kt p.kids) (PF : PrFit p) (hm : fits p.most) (hr : 1000000 ≤ r) :
    Gives (ev30 r (n + 9) 29 [suV s, prV p, .int .i64 z, .int .i64 (k : Int)] h) fun y h' => y = .bool (oneAt s k p z) ∧ Ext h h' := by
  unfold suV prV
  rw [e29]
  obtain ⟨m0, hm0, E0, H0⟩ := new_row h (suC s)
  obtain ⟨m, hm', E1, H1⟩ := new_row m0 (prC p)
  have hn : h.next + 1 = m0.next := by rw [← hm0]; rfl
  rw [hn]
  unfold suC at hm0
  unfold prC at hm'
  rw [hm0, hm']
  have E := E0.trans E1
  have A : SuAt m h.next s := ⟨H0.ext E1⟩
  have B : PrAt m m0.next p := ⟨H1⟩
  refine Gives.jump (Q := fun x env hh => x = .ret ∧ env = E29_r (.bool (oneAt s k p z)) ∧ Ext m hh) ?_ (by rintro x env h' ⟨rfl, rfl, E2⟩; rw [e29_3r]; exact .mk ⟨rfl, E.trans E2⟩)
  have : k = 2 ∨ k = 3 ∨ k = 4 ∨ k = 5 ∨ k = 6 ∨ k = 7 := by omega
  rcases this with rfl | rfl | rfl | rfl | rfl | rfl
  · exact one2 (n := n) SF (S.ext E) A B hr
  · exact one3 (n := n) PF (K.ext E) B hr
  · exact one4 (n := n) PF (K.ext E) B hr
  · exact one5 (n := n) PF hm B hr
  · exact one6 (n := n) B
  · exact one7 (n := n) B
end
end Go.Ev
