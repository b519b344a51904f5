/-
  Audit: the program's rules 4 to 7.
-/
import Derived.Test.YtmblcddkoeaaeaaGreatJ30
namespace Go.Ev
open Go Go.Proofs

theorem app28 : appOk P30 ⟨[28, 28]⟩ 1 8 = true := by kernel_rfl
abbrev AccI (h0 h : H) (a : Option Addr) (st : Nat) (l : List Int) : Prop := Acc (fun z => [Value.int .i64 z]) 1 h0 h a st l
/-- Two addresses in two blocks. -/
def Apart (a b : Option Addr) : Prop := ∀ i o o', a = some ⟨i, o, none⟩ → b = some ⟨i, o', none⟩ → False
theorem Apart.symm {a b : Option Addr} (h : Apart a b) : Apart b a := fun i o o' x y => h i o' o y x
theorem Apart.nil (b : Option Addr) : Apart none b := fun i o o' x => by cases x
/-- An append leaves another list as it is, in another block. -/
theorem Acc.other {α β : Type} {e : α → List Value} {e2 : β → List Value} {k k2 : Nat} {h0 h h1 h' : H} {a b a' : Option Addr} {st : Nat} {l : List α} {l2 : List β} (B : Acc e2 k2 h0 h1 b st l2) (E : Ext h h1)
    (hd : Apart a b) (p : Pushed e k h0 h1 a a' h' l) : Acc e2 k2 h0 h' b st l2 ∧ Apart a' b := by
  refine ⟨B.keep fun j bl hb hj => p.old j bl hj fun o e => hd j o 0 e hb, fun i o o' e1 e2 => ?_⟩
  obtain ⟨j, hj, hle⟩ := p.own
  rw [hj] at e1; cases e1
  rcases B with ⟨_, h1, _⟩ | ⟨_, j2, c, h1, _, h2, _⟩
  · rw [h1] at e2; cases e2
  · rw [h1] at e2; cases e2; have := h2.1; omega

section
variable {r n : Nat} {h : H} {s : Su} {v : Vw}


theorem c_r4 (F : VwFit v) (V : VwIn h v) (hr : 1000000 ≤ r) : Gives (ev30 r (n + 9) 23 [stV s v] h) fun y h' => y = .bool (rule v fun p _ => ok4 p) ∧ Ext h h' := by
  unfold stV
  rw [e23]
  obtain ⟨m, hm, E, HX⟩ := new_row h (suC s ++ vwC v)
  simp only [suC, vwC, List.cons_append, List.nil_append] at hm
  rw [hm]
  have A : StillAt m h.next s v := ⟨HX⟩
  clear HX hm
  refine Gives.jump (Q := fun x env hh => x = .ret ∧ env = E23_r (.bool (rule v fun p _ => ok4 p)) ∧ Ext h hh) ?_ (by rintro x env h' ⟨rfl, rfl, E⟩; rw [e23_3r]; exact .mk ⟨rfl, E⟩)
  rw [e23_3c, A.l11, optK_mk, castSl_mk]
  refine GivesX.all v.ps.length (every v (fun p _ => ok4 p)) (fun hh => Ext m hh) (fun k => E23_0 (.slice v.pa v.ps.length v.pt) (.int .i64 (v.ps.length : Int)) (.int .i64 (k : Int))) (fun k hh hlt E1 => ?_)
    (fun hh _ {R} nx K => by rw [e23_0, decide_eq_false (by omega), cond_false]) (.refl m) (by have := F.few; omega)
    (fun hh E1 ha => by rw [e23_0x0]; exact .mk ⟨rfl, by unfold rule; rw [ha], E.trans E1⟩) (fun hh E1 ha => by rw [e23_0r]; exact .mk ⟨rfl, by unfold rule; rw [ha], E.trans E1⟩)
  have hget : v.ps[k]? = some v.ps[k] := List.getElem?_eq_getElem hlt
  have hmem : v.ps[k] ∈ v.ps := List.getElem_mem hlt
  generalize v.ps[k] = p at hget hmem
  rw [every_at hget]
  have hl40 := F.few
  obtain ⟨m2, hm2, E2, H2⟩ := new_row hh (prC p)
  have B : PrAt m2 hh.next p := ⟨H2⟩
  have hk : decide ((k : Int) < (v.ps.length : Int)) = true := decide_eq_true (by omega)
  have PF := F.ps p hmem
  have hl60 := PF.few
  have KS := ((V.kids p hmem).ext (E.trans E1)).ext E2
  obtain ⟨⟨a5, s5, a6, s6⟩, m3, ⟨E3, X5, X6, hap⟩, e⟩ := loop_run (P := P30) (call := ev30 r (n + 7)) (jmp := jmp30 r (n + 7) 23) (dead := dead30 23) (rounds := r) (c := 2) (code := pc [1, 0, 1, 0, 0, 1, 1, 0, 0, 1, 1, 0, 1, 0, 0] (bd Tryz.f23)) (d := dead30 23 (4 * 2)) (d' := dead30 23 (4 * 2 + 2)) (dr := dead30 23 1000002) (σ := Option Addr × Nat × Option Addr × Nat) p.kids.length
    (fun j x hh => Ext m2 hh ∧ AccI m2 hh x.1 x.2.1 ((p.kids.take j).map (·.claim)) ∧ AccI m2 hh x.2.2.1 x.2.2.2 ((p.kids.take j).map (·.cum)) ∧ Apart x.1 x.2.2.1)
    (fun j x => E23_8 (.pointer (some ⟨hh.next, 0, none⟩)) (.slice x.1 j x.2.1) (.slice x.2.2.1 j x.2.2.2) (.slice v.pa v.ps.length v.pt) (.int .i64 (v.ps.length : Int)) (.int .i64 (k : Int)) (.slice p.ka p.kids.length p.kt) (.int .i64 (p.kids.length : Int)) (.int .i64 (j : Int))) (xT := .exit 2)
    (envT := fun x => E23_10 (.pointer (some ⟨hh.next, 0, none⟩)) (.slice x.1 p.kids.length x.2.1) (.slice x.2.2.1 p.kids.length x.2.2.2) (.slice v.pa v.ps.length v.pt) (.int .i64 (v.ps.length : Int)) (.int .i64 (k : Int))) (s0 := (none, 0, none, 0)) (h := m2) (fun j ⟨a5, s5, a6, s6⟩ hj hlt2 ⟨E3, X5, X6, hap⟩ => by
      simp only at X5 X6 hap ⊢
      have hget2 : p.kids[j]? = some p.kids[j] := List.getElem?_eq_getElem hlt2
      have htk : p.kids.take (j + 1) = p.kids.take j ++ [p.kids[j]] := by rw [List.take_add_one, hget2]; rfl
      generalize p.kids[j] = c at hget2 htk
      obtain ⟨m4, hm4, E4, H4⟩ := new_row hj (kidC c)
      have C : KidAt m4 hj.next c := ⟨H4⟩
      have hk2 : decide ((j : Int) < (p.kids.length : Int)) = true := decide_eq_true (by omega)
      have n5 : ((p.kids.take j).map (·.claim)).length = j := by simp; omega
      have n6 : ((p.kids.take j).map (·.cum)).length = j := by simp; omega
      obtain ⟨b5, m5, q5, P5⟩ := (X5.ext E4).push (P := P30) (x := c.claim) (E3.trans E4) rfl app28 (by omega) (by rw [n5]; omega)
      have Y := (X6.ext E4).other (.refl _) hap P5
      have C5 : KidAt m5 hj.next c := ⟨P5.old _ _ H4 (fun o ho => by
        rcases X5 with ⟨_, h1, _⟩ | ⟨_, j2, c2, h1, _, h2, _⟩
        · rw [h1] at ho; cases ho
        · rw [h1] at ho; cases ho; exact absurd h2.1 (Nat.lt_irrefl _))⟩
      obtain ⟨b6, m6, q6, P6⟩ := Y.1.push (P := P30) (x := c.cum) P5.ext rfl app28 (by omega) (by rw [n6]; omega)
      have Z := P5.acc.other (.refl _) Y.2.symm P6
      rw [n5] at q5
      rw [n6] at q6
      refine ⟨(b5, 1, b6, 1), m6, ⟨P6.ext, ?_, ?_, Z.2.symm⟩, fun {R} nx K => ?_⟩
      · rw [htk, List.map_append]; exact Z.1
      · rw [htk, List.map_append]; exact P6.acc
      · rw [e23_8, hk2, cond_true, (KS.ext E3).row (P := P30) und63 cel81 agg81 (by omega) hget2 rfl rfl, hm4, C.l9, optK_mk, castI_mk, q5, castSl_mk, C5.l8, optK_mk, castI_mk, same_int C.l8, cond_true, q6, castSl_mk, wrap_succ (by omega)])
    (fun x hj _ {R} nx K => by rw [e23_8, decide_eq_false (by omega), cond_false]) ⟨.refl _, .nil _ _, .nil _ _, .nil _⟩ (r := r) (by omega)
  rw [show ((0 : Nat) : Int) = 0 from rfl] at e
  rw [List.take_length] at X5 X6
  simp only at X5 X6 e
  have n5 : (p.kids.map (·.claim)).length = p.kids.length := by simp
  have n6 : (p.kids.map (·.cum)).length = p.kids.length := by simp
  obtain ⟨_, m4, q4, rfl, E4⟩ := c_asum (r := r) (n := n) (z := p.claims) X5.sl (by rw [n5]; omega) (fun z hz => by
    obtain ⟨c, hc, rfl⟩ := List.mem_map.1 hz; exact (PF.kids c hc).2.2.2.2) hr
  rw [n5] at q4
  have B3 := B.ext E3
  have B4 := B3.ext E4
  obtain ⟨_, m5, q5, rfl, E5⟩ := c_asum (r := r) (n := n) (z := p.filled) (X6.sl.ext E4) (by rw [n6]; omega) (fun z hz => by
    obtain ⟨c, hc, rfl⟩ := List.mem_map.1 hz; exact (PF.kids c hc).2.2.2.1) hr
  rw [n6] at q5
  have EE := E1.trans (E2.trans (E3.trans E4))
  cases g1 : isSum p.claims (p.kids.map (·.claim)) with
  | false =>
    rw [g1] at q4
    refine ⟨m4, EE, .inr ⟨by unfold ok4; rw [g1]; rfl, fun {R} nx K => ?_⟩⟩
    rw [e23_0, hk, cond_true, (V.ps.ext (E.trans E1)).row (P := P30) und27 cel65 agg65 (by omega) hget rfl rfl, hm2, B.l16, optK_mk, castSl_mk, e, e23_8x2, B3.l14, optK_mk, castI_mk, callK_mk q4, castV_mk, Bool.not_false, cond_true]
  | true =>
    rw [g1] at q4
    cases g2 : isSum p.filled (p.kids.map (·.cum)) with
    | false =>
      rw [g2] at q5
      refine ⟨m5, EE.trans E5, .inr ⟨by unfold ok4; rw [g1, g2]; rfl, fun {R} nx K => ?_⟩⟩
      rw [e23_0, hk, cond_true, (V.ps.ext (E.trans E1)).row (P := P30) und27 cel65 agg65 (by omega) hget rfl rfl, hm2, B.l16, optK_mk, castSl_mk, e, e23_8x2, B3.l14, optK_mk, castI_mk, callK_mk q4, castV_mk, Bool.not_true, cond_false, B4.l11, optK_mk, castI_mk, callK_mk q5, castV_mk, Bool.not_false, cond_true]
    | true =>
      rw [g2] at q5
      refine ⟨m5, EE.trans E5, .inl ⟨by unfold ok4; rw [g1, g2]; rfl, fun {R} nx K => ?_⟩⟩
      rw [e23_0, hk, cond_true, (V.ps.ext (E.trans E1)).row (P := P30) und27 cel65 agg65 (by omega) hget rfl rfl, hm2, B.l16, optK_mk, castSl_mk, e, e23_8x2, B3.l14, optK_mk, castI_mk, callK_mk q4, castV_mk, Bool.not_true, cond_false, B4.l11, optK_mk, castI_mk, callK_mk q5, castV_mk, Bool.not_true, cond_false, wrap_succ (by omega)]

theorem rule_at {q : Pr → Int → Bool} {k : Nat} {p : Pr} (h : rule v q = true) (hp : v.ps[k]? = some p) : q p (v.held.getD k 0) = true := by
  rw [← every_at (q := q) hp]; exact allN_at h (List.getElem?_eq_some_iff.1 hp).1

theorem c_r5 (F : VwFit v) (V : VwIn h v) (hr : 1000000 ≤ r) (h2 : rule v (fun p _ => ok2 s p) = true) : Gives (ev30 r (n + 8) 24 [stV s v] h) fun y h' => y = .bool (rule v fun p _ => ok5 p) ∧ Ext h h' := by
  unfold stV
  rw [e24]
  obtain ⟨m, hm, E, HX⟩ := new_row h (suC s ++ vwC v)
  simp only [suC, vwC, List.cons_append, List.nil_append] at hm
  rw [hm]
  have A : StillAt m h.next s v := ⟨HX⟩
  clear HX hm
  refine Gives.jump (Q := fun x env hh => x = .ret ∧ env = E24_r (.bool (rule v fun p _ => ok5 p)) ∧ Ext h hh) ?_ (by rintro x env h' ⟨rfl, rfl, E⟩; rw [e24_3r]; exact .mk ⟨rfl, E⟩)
  rw [e24_3c, A.l11, optK_mk, castSl_mk]
  refine GivesX.all v.ps.length (every v (fun p _ => ok5 p)) (fun hh => Ext m hh) (fun k => E24_0 (.slice v.pa v.ps.length v.pt) (.int .i64 (v.ps.length : Int)) (.int .i64 (k : Int))) (fun k hh hlt E1 => ?_)
    (fun hh _ {R} nx K => by rw [e24_0, decide_eq_false (by omega), cond_false]) (.refl m) (by have := F.few; omega)
    (fun hh E1 ha => by rw [e24_0x0]; exact .mk ⟨rfl, by unfold rule; rw [ha], E.trans E1⟩) (fun hh E1 ha => by rw [e24_0r]; exact .mk ⟨rfl, by unfold rule; rw [ha], E.trans E1⟩)
  have hget : v.ps[k]? = some v.ps[k] := List.getElem?_eq_getElem hlt
  have hmem : v.ps[k] ∈ v.ps := List.getElem_mem hlt
  generalize v.ps[k] = p at hget hmem
  rw [every_at hget]
  have hl40 := F.few
  obtain ⟨m2, hm2, E2, H2⟩ := new_row hh (prC p)
  have B : PrAt m2 hh.next p := ⟨H2⟩
  have hk : decide ((k : Int) < (v.ps.length : Int)) = true := decide_eq_true (by omega)
  have PF := F.ps p hmem
  have ho := of_decide_eq_true (rule_at h2 hget)
  obtain ⟨m3, hm3, E3, H3⟩ := new_row m2 [.int .i64 p.filled, .int .i64 p.busted, .int .i64 p.claims]
  have I3 : Is m3 (some ⟨m2.next, 0, none⟩) 1 [p.filled, p.busted, p.claims] := Is.of H3
  obtain ⟨_, m4, q4, E4, q, e, rfl, hq⟩ := c_sum (r := r) (n := n) (a := some ⟨m2.next, 0, none⟩) (sa := 1) (l := [p.filled, p.busted, p.claims]) I3 (by simp) (by
    intro z hz
    simp only [List.mem_cons, List.mem_nil_iff, or_false] at hz
    rcases hz with rfl | rfl | rfl
    · exact PF.filled
    · exact PF.busted
    · exact PF.claims) hr
  have B4 := (B.ext E3).ext E4
  have EE := E1.trans (E2.trans (E3.trans E4))
  have hs : [p.filled, p.busted, p.claims].sum = p.filled + p.busted + p.claims := by simp; omega
  rw [hs] at hq
  have q4' : ev30 r (n + 6) 56 [.slice (some ⟨m2.next, 0, none⟩) 3 1] m3 = some (.tuple ⟨[.int .i64 q, .int .i64 e]⟩, m4) := q4
  rcases hq with ⟨hfit, rfl, rfl⟩ | ⟨hno, rfl⟩
  · by_cases g : p.filled + p.busted + p.claims > p.most
    · refine ⟨m4, EE, .inr ⟨decide_eq_false (by omega), fun {R} nx K => ?_⟩⟩
      rw [e24_0, hk, cond_true, (V.ps.ext (E.trans E1)).row (P := P30) und27 cel65 agg65 (by omega) hget rfl rfl, hm2, B.l11, optK_mk, castI_mk, B.l12, optK_mk, castI_mk, B.l14, optK_mk, castI_mk, hm3, callK_mk q4', castTup_mk, headK_mk, castI_mk, headK_mk, castI_mk, nilK_mk,
        show ((0 : Int) != 0) = false from rfl, cond_false, B4.l10, optK_mk, castI_mk, decide_eq_true g, cond_true]
    · refine ⟨m4, EE, .inl ⟨decide_eq_true (by omega), fun {R} nx K => ?_⟩⟩
      rw [e24_0, hk, cond_true, (V.ps.ext (E.trans E1)).row (P := P30) und27 cel65 agg65 (by omega) hget rfl rfl, hm2, B.l11, optK_mk, castI_mk, B.l12, optK_mk, castI_mk, B.l14, optK_mk, castI_mk, hm3, callK_mk q4', castTup_mk, headK_mk, castI_mk, headK_mk, castI_mk, nilK_mk,
        show ((0 : Int) != 0) = false from rfl, cond_false, B4.l10, optK_mk, castI_mk, decide_eq_false g, cond_false, wrap_succ (by omega)]
  · refine ⟨m4, EE, .inr ⟨decide_eq_false (by unfold fits at hno; omega), fun {R} nx K => ?_⟩⟩
    rw [e24_0, hk, cond_true, (V.ps.ext (E.trans E1)).row (P := P30) und27 cel65 agg65 (by omega) hget rfl rfl, hm2, B.l11, optK_mk, castI_mk, B.l12, optK_mk, castI_mk, B.l14, optK_mk, castI_mk, hm3, callK_mk q4', castTup_mk, headK_mk, castI_mk, headK_mk, castI_mk, nilK_mk,
      show ((10 : Int) != 0) = true from rfl, cond_true]

theorem held_at {k : Nat} (hk : k < v.ps.length) (hh : v.held.length = v.ps.length) : v.held[k]? = some (v.held.getD k 0) := by
  rw [List.getD_eq_getElem?_getD, List.getElem?_eq_getElem (by omega)]; rfl

theorem c_r6 (F : VwFit v) (V : VwIn h v) (hr : 1000000 ≤ r) (hh0 : v.held.length = v.ps.length) : Gives (ev30 r (n + 3) 25 [stV s v] h) fun y h' => y = .bool (rule v ok6) ∧ Ext h h' := by
  unfold stV
  rw [e25]
  obtain ⟨m, hm, E, HX⟩ := new_row h (suC s ++ vwC v)
  simp only [suC, vwC, List.cons_append, List.nil_append] at hm
  rw [hm]
  have A : StillAt m h.next s v := ⟨HX⟩
  clear HX hm
  refine Gives.jump (Q := fun x env hh => x = .ret ∧ env = E25_r (.bool (rule v ok6)) ∧ Ext h hh) ?_ (by rintro x env h' ⟨rfl, rfl, E⟩; rw [e25_3r]; exact .mk ⟨rfl, E⟩)
  rw [e25_3c, A.l11, optK_mk, castSl_mk]
  refine GivesX.all v.ps.length (every v ok6) (fun hh => Ext m hh) (fun k => E25_0 (.pointer (some ⟨h.next, 0, none⟩)) (.slice v.pa v.ps.length v.pt) (.int .i64 (v.ps.length : Int)) (.int .i64 (k : Int))) (fun k hh hlt E1 => ?_)
    (fun hh _ {R} nx K => by rw [e25_0, decide_eq_false (by omega), cond_false]) (.refl m) (by have := F.few; omega)
    (fun hh E1 ha => by rw [e25_0x0]; exact .mk ⟨rfl, by unfold rule; rw [ha], E.trans E1⟩) (fun hh E1 ha => by rw [e25_0r]; exact .mk ⟨rfl, by unfold rule; rw [ha], E.trans E1⟩)
  have hget : v.ps[k]? = some v.ps[k] := List.getElem?_eq_getElem hlt
  have hmem : v.ps[k] ∈ v.ps := List.getElem_mem hlt
  generalize v.ps[k] = p at hget hmem
  rw [every_at hget]
  have hl40 := F.few
  obtain ⟨m2, hm2, E2, H2⟩ := new_row hh (prC p)
  have B : PrAt m2 hh.next p := ⟨H2⟩
  have hk : decide ((k : Int) < (v.ps.length : Int)) = true := decide_eq_true (by omega)
  have hz := held_at hlt hh0
  generalize v.held.getD k 0 = z at hz
  have A2 := A.ext (E1.trans E2)
  have EE := E1.trans E2
  have rd := fun (R : Type) (K : Value → Option R) => (V.held.ext (E.trans EE)).read und28 cel3 agg3 hz K .i64
  have tail : ∀ (b : Bool), b = decide (p.state = 5 ∧ IntKind.i64.wrap (p.filled + p.busted) < p.qty) → ∀ {R : Type} (nx : Env → H → Option R) (K : Exit → Env → H → Option R),
      (bif p.state == 5 then optK (ldV P30 3 hh.next 11 m2) fun v21 => castI .i64 v21 fun n22 => optK (ldV P30 3 hh.next 12 m2) fun v23 => castI .i64 v23 fun n24 => optK (ldV P30 3 hh.next 6 m2) fun v25 => castI .i64 v25 fun n26 =>
        bif decide (IntKind.i64.wrap (n22 + n24) < n26) then K .ret (E25_r (.bool false)) m2 else nx (E25_0 (.pointer (some ⟨h.next, 0, none⟩)) (.slice v.pa v.ps.length v.pt) (.int .i64 (v.ps.length : Int)) (.int .i64 (IntKind.i64.wrap ((k : Int) + 1)))) m2
       else nx (E25_0 (.pointer (some ⟨h.next, 0, none⟩)) (.slice v.pa v.ps.length v.pt) (.int .i64 (v.ps.length : Int)) (.int .i64 (IntKind.i64.wrap ((k : Int) + 1)))) m2) =
      bif b then K .ret (E25_r (.bool false)) m2 else nx (E25_0 (.pointer (some ⟨h.next, 0, none⟩)) (.slice v.pa v.ps.length v.pt) (.int .i64 (v.ps.length : Int)) (.int .i64 ((k + 1 : Nat) : Int))) m2 := by
    intro b hb R nx K
    rw [B.l11, optK_mk, castI_mk, B.l12, optK_mk, castI_mk, B.l6, optK_mk, castI_mk, wrap_succ (by omega), hb]
    by_cases g1 : p.state = 5
    · by_cases g2 : IntKind.i64.wrap (p.filled + p.busted) < p.qty
      · rw [decide_eq_true g2, decide_eq_true ⟨g1, g2⟩, beq_iff_eq.2 g1]; rfl
      · rw [decide_eq_false g2, decide_eq_false (fun h => g2 h.2), beq_iff_eq.2 g1]; rfl
    · rw [decide_eq_false (fun h : p.state = 5 ∧ _ => g1 h.1), beq_eq_false_iff_ne.2 g1]; rfl
  have pre : ∀ {R : Type} (nx : Env → H → Option R) (K : Exit → Env → H → Option R), evCode P30 (ev30 r (n + 1)) (jmp30 r (n + 1) 25) (dead30 25) r 0 (pc [1, 0, 1, 0, 0] (bd Tryz.f25)) (E25_0 (.pointer (some ⟨h.next, 0, none⟩)) (.slice v.pa v.ps.length v.pt) (.int .i64 (v.ps.length : Int)) (.int .i64 (k : Int))) hh (loopK nx (dead30 25 (4 * 0)) (dead30 25 (4 * 0 + 2)) (dead30 25 1000002) K) =
      bif decide (4 < p.state ∧ (p.claims ≠ 0 ∨ z ≠ 0)) then K .ret (E25_r (.bool false)) m2 else bif decide (p.state = 5 ∧ IntKind.i64.wrap (p.filled + p.busted) < p.qty) then K .ret (E25_r (.bool false)) m2 else nx (E25_0 (.pointer (some ⟨h.next, 0, none⟩)) (.slice v.pa v.ps.length v.pt) (.int .i64 (v.ps.length : Int)) (.int .i64 ((k + 1 : Nat) : Int))) m2 := by
    intro R nx K
    rw [e25_0, hk, cond_true, (V.ps.ext (E.trans E1)).row (P := P30) und27 cel65 agg65 (by omega) hget rfl rfl, hm2, B.l4, optK_mk, castI_mk]
    by_cases g1 : p.state > 4
    · rw [decide_eq_true g1, cond_true, B.l14, optK_mk, castI_mk]
      by_cases g2 : p.claims = 0
      · rw [show (p.claims != 0) = false by simp [g2], cond_false, A2.l14, optK_mk, castSl_mk, rd, castI_mk]
        by_cases g3 : z = 0
        · rw [show (z != 0) = false by simp [g3], cond_false, optK_mk, castI_mk, decide_eq_false (fun h => by rcases h.2 with h | h; exact h g2; exact h g3), cond_false]
          exact tail _ rfl nx K
        · rw [bne_iff_ne.2 g3, cond_true, decide_eq_true ⟨g1, .inr g3⟩, cond_true]
      · rw [bne_iff_ne.2 g2, cond_true, decide_eq_true ⟨g1, .inl g2⟩, cond_true]
    · rw [decide_eq_false g1, cond_false, optK_mk, castI_mk, decide_eq_false (fun h => g1 h.1), cond_false]
      exact tail _ rfl nx K
  by_cases g1 : 4 < p.state ∧ (p.claims ≠ 0 ∨ z ≠ 0)
  · exact ⟨m2, EE, .inr ⟨decide_eq_false (fun h => h.1 g1), fun {R} nx K => by rw [pre, decide_eq_true g1]; rfl⟩⟩
  by_cases g2 : p.state = 5 ∧ IntKind.i64.wrap (p.filled + p.busted) < p.qty
  · exact ⟨m2, EE, .inr ⟨decide_eq_false (fun h => h.2 g2), fun {R} nx K => by rw [pre, decide_eq_false g1, decide_eq_true g2]; rfl⟩⟩
  · exact ⟨m2, EE, .inl ⟨decide_eq_true ⟨g1, g2⟩, fun {R} nx K => by rw [pre, decide_eq_false g1, decide_eq_false g2]; rfl⟩⟩

theorem c_r7 (F : VwFit v) (V : VwIn h v) (hr : 1000000 ≤ r) (hh0 : v.held.length = v.ps.length) : Gives (ev30 r (n + 2) 26 [stV s v] h) fun y h' => y = .bool (rule v ok7) ∧ Ext h h' := by
  unfold stV
  rw [e26]
  obtain ⟨m, hm, E, HX⟩ := new_row h (suC s ++ vwC v)
  simp only [suC, vwC, List.cons_append, List.nil_append] at hm
  rw [hm]
  have A : StillAt m h.next s v := ⟨HX⟩
  clear HX hm
  refine Gives.jump (Q := fun x env hh => x = .ret ∧ env = E26_r (.bool (rule v ok7)) ∧ Ext h hh) ?_ (by rintro x env h' ⟨rfl, rfl, E⟩; rw [e26_3r]; exact .mk ⟨rfl, E⟩)
  rw [e26_3c, A.l11, optK_mk, castSl_mk]
  refine GivesX.all v.ps.length (every v ok7) (fun hh => Ext m hh) (fun k => E26_0 (.pointer (some ⟨h.next, 0, none⟩)) (.slice v.pa v.ps.length v.pt) (.int .i64 (v.ps.length : Int)) (.int .i64 (k : Int))) (fun k hh hlt E1 => ?_)
    (fun hh _ {R} nx K => by rw [e26_0, decide_eq_false (by omega), cond_false]) (.refl m) (by have := F.few; omega)
    (fun hh E1 ha => by rw [e26_0x0]; exact .mk ⟨rfl, by unfold rule; rw [ha], E.trans E1⟩) (fun hh E1 ha => by rw [e26_0r]; exact .mk ⟨rfl, by unfold rule; rw [ha], E.trans E1⟩)
  have hget : v.ps[k]? = some v.ps[k] := List.getElem?_eq_getElem hlt
  have hmem : v.ps[k] ∈ v.ps := List.getElem_mem hlt
  generalize v.ps[k] = p at hget hmem
  rw [every_at hget]
  have hl40 := F.few
  obtain ⟨m2, hm2, E2, H2⟩ := new_row hh (prC p)
  have B : PrAt m2 hh.next p := ⟨H2⟩
  have hk : decide ((k : Int) < (v.ps.length : Int)) = true := decide_eq_true (by omega)
  have hz := held_at hlt hh0
  generalize v.held.getD k 0 = z at hz
  have A2 := A.ext (E1.trans E2)
  have EE := E1.trans E2
  have rd := fun (R : Type) (K : Value → Option R) => (V.held.ext (E.trans EE)).read und28 cel3 agg3 hz K .i64
  by_cases g1 : p.state ≤ 4
  rotate_left
  · refine ⟨m2, EE, .inl ⟨decide_eq_true (.inl (by omega)), fun {R} nx K => ?_⟩⟩
    rw [e26_0, hk, cond_true, (V.ps.ext (E.trans E1)).row (P := P30) und27 cel65 agg65 (by omega) hget rfl rfl, hm2, B.l4, optK_mk, castI_mk, decide_eq_false g1, cond_false, wrap_succ (by omega)]
  by_cases g2 : p.need > z
  · refine ⟨m2, EE, .inr ⟨decide_eq_false (by omega), fun {R} nx K => ?_⟩⟩
    rw [e26_0, hk, cond_true, (V.ps.ext (E.trans E1)).row (P := P30) und27 cel65 agg65 (by omega) hget rfl rfl, hm2, B.l4, optK_mk, castI_mk, decide_eq_true g1, cond_true, B.l15, optK_mk, castI_mk, A2.l14, optK_mk, castSl_mk, rd, castI_mk, decide_eq_true g2, cond_true]
  by_cases g3 : p.worth > p.need
  · refine ⟨m2, EE, .inr ⟨decide_eq_false (by omega), fun {R} nx K => ?_⟩⟩
    rw [e26_0, hk, cond_true, (V.ps.ext (E.trans E1)).row (P := P30) und27 cel65 agg65 (by omega) hget rfl rfl, hm2, B.l4, optK_mk, castI_mk, decide_eq_true g1, cond_true, B.l15, optK_mk, castI_mk, A2.l14, optK_mk, castSl_mk, rd, castI_mk, decide_eq_false g2, cond_false, B.l13, optK_mk, castI_mk, optK_mk, castI_mk,
      decide_eq_true g3, cond_true]
  · refine ⟨m2, EE, .inl ⟨decide_eq_true (by omega), fun {R} nx K => ?_⟩⟩
    rw [e26_0, hk, cond_true, (V.ps.ext (E.trans E1)).row (P := P30) und27 cel65 agg65 (by omega) hget rfl rfl, hm2, B.l4, optK_mk, castI_mk, decide_eq_true g1, cond_true, B.l15, optK_mk, castI_mk, A2.l14, optK_mk, castSl_mk, rd, castI_mk, decide_eq_false g2, cond_false, B.l13, optK_mk, castI_mk, optK_mk, castI_mk,
      decide_eq_false g3, cond_false, wrap_succ (by omega)]
end
end Go.Ev
