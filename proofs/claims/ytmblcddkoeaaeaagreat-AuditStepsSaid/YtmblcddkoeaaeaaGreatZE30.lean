/-
  Audit: the law AuditSteps over any memory, and its call.
-/
import Derived.Test.YtmblcddkoeaaeaaGreatZD30
import Derived.Test.YtmblcddkoeaaeaaGreatY30
set_option maxRecDepth 100000
namespace Go.Ev
open Go Go.Proofs

section
variable {s s' : Su} {a a' b b' : Vw}
theorem pairAt_like {f f' : Pr → Pr → Int → Int → Bool} (LA : VwLike a a') (LB : VwLike b b') (hf : ∀ p p' q q' x y, strip p' = strip p → strip q' = strip q → f' p' q' x y = f p q x y) (k : Nat) : pairAt a' b' f' k = pairAt a b f k := by
  have h := congrArg (fun l => l[k]?) LA.ps
  have g := congrArg (fun l => l[k]?) LB.ps
  simp only [List.getElem?_map] at h g
  unfold pairAt
  rw [LA.held, LB.held]
  cases h1 : a'.ps[k]? with
  | none =>
    rw [h1] at h
    cases h2 : a.ps[k]? with
    | none => rfl
    | some p => rw [h2] at h; cases h
  | some p' =>
    rw [h1] at h
    cases h2 : a.ps[k]? with
    | none => rw [h2] at h; cases h
    | some p =>
      rw [h2] at h
      simp only [Option.map_some, Option.some.injEq] at h
      cases g1 : b'.ps[k]? with
      | none =>
        rw [g1] at g
        cases g2 : b.ps[k]? with
        | none => rfl
        | some q => rw [g2] at g; cases g
      | some q' =>
        rw [g1] at g
        cases g2 : b.ps[k]? with
        | none => rw [g2] at g; cases g
        | some q =>
          rw [g2] at g
          simp only [Option.map_some, Option.some.injEq] at g
          exact hf p p' q q' _ _ h g
theorem pairs_like {f f' : Pr → Pr → Int → Int → Bool} (LA : VwLike a a') (LB : VwLike b b') (hf : ∀ p p' q q' x y, strip p' = strip p → strip q' = strip q → f' p' q' x y = f p q x y) : pairs a' b' f' = pairs a b f := by
  unfold pairs
  rw [LA.len]
  exact allN_congr fun k _ => pairAt_like LA LB hf k
theorem stayOk_like {p p' q q' : Pr} (h : strip p' = strip p) (g : strip q' = strip q) : stayOk p' q' = stayOk p q := by
  simp only [strip, Pr.mk.injEq] at h g
  obtain ⟨h1, h2, h3, h4, h5, h6, h7, h8, h9, h10, h11, h12, h13, h14, h15, h16, h17, _⟩ := h
  obtain ⟨g1, g2, g3, g4, g5, g6, g7, g8, g9, g10, g11, g12, g13, g14, g15, g16, g17, _⟩ := g
  have e3 : kidsAt p' q' = kidsAt p q := by funext k; unfold kidsAt; rw [h17, g17]
  unfold stayOk stay1 stay2 stay3
  rw [e3, h1, h2, h3, h4, h5, h6, h9, h11, h12, h13, h17, g1, g2, g3, g4, g5, g6, g9, g11, g12, g13, g17]
theorem heldOk_like {p p' q q' : Pr} {x y : Int} (h : strip p' = strip p) (g : strip q' = strip q) : heldOk p' q' x y = heldOk p q x y := by
  simp only [strip, Pr.mk.injEq] at h g
  obtain ⟨h1, h2, h3, h4, h5, h6, h7, h8, h9, h10, h11, h12, h13, h14, h15, h16, h17, _⟩ := h
  obtain ⟨g1, g2, g3, g4, g5, g6, g7, g8, g9, g10, g11, g12, g13, g14, g15, g16, g17, _⟩ := g
  unfold heldOk sameP
  rw [h5, h7, h8, h10, h13, g5, g7, g8, g10, g13]
theorem freshOk_like {p p' q q' : Pr} (LA : VwLike a a') (LB : VwLike b b') (h : strip p' = strip p) (g : strip q' = strip q) : freshOk a' b' p' q' = freshOk a b p q := by
  simp only [strip, Pr.mk.injEq] at h g
  obtain ⟨h1, h2, h3, h4, h5, h6, h7, h8, h9, h10, h11, h12, h13, h14, h15, h16, h17, _⟩ := h
  obtain ⟨g1, g2, g3, g4, g5, g6, g7, g8, g9, g10, g11, g12, g13, g14, g15, g16, g17, _⟩ := g
  unfold freshOk idle
  rw [h5, h17, g5, g17, LA.killed, LB.killed]
theorem stepAt_like (LA : VwLike a a') (LB : VwLike b b') (k : Nat) : stepAt a' b' k = stepAt a b k := by
  match k with
  | 0 => show timesOk a' b' = timesOk a b; unfold timesOk; rw [LA.faults, LB.faults, LA.now, LB.now]
  | 1 =>
    show (decide (a'.ps.length ≤ b'.ps.length) && pairs a' b' fun p q _ _ => stayOk p q) = (decide (a.ps.length ≤ b.ps.length) && pairs a b fun p q _ _ => stayOk p q)
    rw [LA.len, LB.len, pairs_like LA LB fun p p' q q' x y h g => stayOk_like h g]
  | 2 => exact pairs_like LA LB fun p p' q q' x y h g => heldOk_like h g
  | 3 => exact pairs_like LA LB fun p p' q q' x y h g => freshOk_like LA LB h g
  | k + 4 => rfl
theorem step_like (LS : SuLike s s') (LA : VwLike a a') (LB : VwLike b b') : stepOf s' a' b' = stepOf s a b := by
  unfold stepOf
  rw [check_like LS LA, check_like LS LB, funext (stepAt_like LA LB)]
theorem stay_self (p : Pr) : stayOk p p = true := by
  have h3 : stay3 p p = true := allN_yes fun k hk => by unfold kidsAt kidSame; rw [List.getElem?_eq_getElem hk]; simp
  unfold stayOk stay1 stay2
  rw [h3]
  simp
theorem step_self : stepOf s a a = checkOf s a := by
  have hc := check_range (s := s) (a := a)
  by_cases g : checkOf s a > 0
  · unfold stepOf; rw [if_pos g]
  · have all : ∀ i, i < 4 → stepAt a a i = true := by
      have self : ∀ f : Pr → Pr → Int → Int → Bool, (∀ p x, f p p x x = true) → pairs a a f = true := fun f hf => allN_yes fun k hk => by
        unfold pairAt; rw [List.getElem?_eq_getElem hk]; exact hf _ _
      intro i hi
      have : i = 0 ∨ i = 1 ∨ i = 2 ∨ i = 3 := by omega
      rcases this with rfl | rfl | rfl | rfl
      · show timesOk a a = true
        unfold timesOk
        rw [allN_yes fun k hk => by rw [decide_eq_false (by omega)]; rfl, decide_eq_true (by omega)]; rfl
      · show (decide _ && pairs a a _) = true
        rw [decide_eq_true (by omega), self _ fun p x => stay_self p]; rfl
      · exact self _ fun p x => by unfold heldOk; simp
      · exact self _ fun p x => by unfold freshOk; simp
    have h0 := step_none all
    have : stepOf s a a = stepZ a a := by unfold stepOf stepZ; rw [if_neg g, if_neg g]
    rw [this, h0]; omega
end

section
variable {r n : Nat} {h m m' : H} {s : Su} {a b : Vw}
theorem c_law4 (S : SuIn h s) (VA : VwIn h a) (VB : VwIn h b) (IA : VwInts a) (IB : VwInts b) (la : a.ps.length < 9223372036854775808) (lb : b.ps.length < 9223372036854775808) (hr : 9223372036854775808 ≤ r) :
    Gives (ev30 r (n + 18) 4 [suV s, vwV a, vwV b] h) fun y h' => y = .bool true ∧ Ext h h' := by
  unfold suV vwV
  rw [e4]
  obtain ⟨m0, hm0, E0, H0⟩ := new_row h (suC s)
  obtain ⟨m1, hm1, E1, H1⟩ := new_row m0 (vwC a)
  obtain ⟨m, hm, E2, H2⟩ := new_row m1 (vwC b)
  have hn : h.next + 1 = m0.next := by rw [← hm0]; rfl
  have hn1 : m0.next + 1 = m1.next := by rw [← hm1]; rfl
  rw [hn, hn1]
  unfold suC at hm0
  unfold vwC at hm1 hm
  rw [hm0, hm1, hm]
  have E := E0.trans (E1.trans E2)
  have l0 : ∀ {w}, Ext m w → ldV P30 26 h.next 0 w = some (suV s) := fun X => by rw [ld_agg agg26 cel26 (H0.ext (E1.trans (E2.trans X))) (by simp [suC])]; rfl
  have l1 : ∀ {w}, Ext m w → ldV P30 30 m0.next 0 w = some (vwV a) := fun X => by rw [ld_agg agg30 cel30 (H1.ext (E2.trans X)) (by simp [vwC])]; rfl
  have l2 : ∀ {w}, Ext m w → ldV P30 30 m1.next 0 w = some (vwV b) := fun X => by rw [ld_agg agg30 cel30 (H2.ext X) (by simp [vwC])]; rfl
  have sv : suV s = .agg (suV s).cells := rfl
  have va : vwV a = .agg (vwV a).cells := rfl
  have vb : vwV b = .agg (vwV b).cells := rfl
  have sv' : Value.agg (suV s).cells = suV s := rfl
  have va' : Value.agg (vwV a).cells = vwV a := rfl
  have vb' : Value.agg (vwV b).cells = vwV b := rfl
  refine Gives.jump (Q := fun x env hh => x = .ret ∧ env = E4_r (.bool true) ∧ Ext m hh) ?_ (by rintro x env h' ⟨rfl, rfl, E2⟩; rw [e4_3r]; exact .mk ⟨rfl, E.trans E2⟩)
  obtain ⟨_, m2, q2, F2, b2, rfl, hb2⟩ := c_small (r := r) (n := n + 13) (S.ext E) (by omega)
  rw [e4_3c, callK_mk c_awake, castV_mk, Bool.not_true, cond_false, l0 (.refl m), optK_mk, sv, castA_mk, sv', callK_mk q2, castV_mk]
  cases b2 with
  | false => rw [Bool.not_false, cond_true]; exact .mk ⟨rfl, rfl, F2⟩
  | true =>
  have SF := hb2 rfl
  obtain ⟨_, m3, q3, F3, b3, rfl, hb3⟩ := c_few (r := r) (n := n + 14) (VA.ext (E.trans F2)) la hr
  have G3 := F2.trans F3
  rw [Bool.not_true, cond_false, l1 F2, optK_mk, va, castA_mk, va', callK_mk q3, castV_mk]
  cases b3 with
  | false => rw [Bool.not_false, cond_true]; exact .mk ⟨rfl, rfl, G3⟩
  | true =>
  obtain ⟨_, m4, q4, F4, b4, rfl, hb4⟩ := c_few (r := r) (n := n + 14) (VB.ext (E.trans G3)) lb hr
  have G4 := G3.trans F4
  rw [Bool.not_true, cond_false, l2 G3, optK_mk, vb, castA_mk, vb', callK_mk q4, castV_mk]
  cases b4 with
  | false => rw [Bool.not_false, cond_true]; exact .mk ⟨rfl, rfl, G4⟩
  | true =>
  have FA := VwFit.of IA (hb3 rfl)
  have FB := VwFit.of IB (hb4 rfl)
  rw [Bool.not_true, cond_false]
  refine GivesX.jump (Q := fun x env hh => x = .ret ∧ env = E4_r (.bool true) ∧ Ext m hh) ?_ (by rintro x env h' ⟨rfl, rfl, E⟩; rw [e4_11r]; exact .mk ⟨rfl, rfl, E⟩)
  have hr' : 1000000 ≤ r := by omega
  obtain ⟨_, m5, q5, rfl, F5⟩ := c_step (r := r) (n := n) FA FB (S.ext (E.trans G4)) SF (VA.ext (E.trans G4)) (VB.ext (E.trans G4)) hr'
  have G5 := G4.trans F5
  obtain ⟨_, m6, q6, F6, s', rfl, S6, LS⟩ := c_plainS (r := r) (n := n + 13) (S.ext (E.trans G5)) SF hr'
  have G6 := G5.trans F6
  obtain ⟨_, m7, q7, F7, a', rfl, V7, LA⟩ := c_plainV (r := r) (n := n + 13) (VA.ext (E.trans G6)) FA hr'
  have G7 := G6.trans F7
  obtain ⟨_, m8, q8, F8, b', rfl, V8, LB⟩ := c_plainV (r := r) (n := n + 13) (VB.ext (E.trans G7)) FB hr'
  have G8 := G7.trans F8
  obtain ⟨_, m9, q9, rfl, F9⟩ := c_refstep (r := r) (n := n + 2) (FA.like LA) (FB.like LB) (S6.ext (F7.trans F8)) (SF.like LS) (V7.ext F8) V8 hr'
  have G9 := G8.trans F9
  rw [step_like LS LA LB] at q9
  obtain ⟨_, m10, q10, rfl, F10⟩ := c_step (r := r) (n := n) FA FA (S.ext (E.trans G9)) SF (VA.ext (E.trans G9)) (VA.ext (E.trans G9)) hr'
  have G10 := G9.trans F10
  obtain ⟨_, m11, q11, rfl, F11⟩ := c_check (r := r) (n := n + 2) FA (S.ext (E.trans G10)) SF (VA.ext (E.trans G10)) hr'
  rw [e4_11c, l0 G4, optK_mk, sv, castA_mk, l1 G4, optK_mk, va, castA_mk, l2 G4, optK_mk, vb, castA_mk, sv', va', vb', callK_mk q5, castI_mk, l0 G5, optK_mk, sv, castA_mk, sv', same_su S (l0 G4), cond_true, callK_mk q6,
    show suV s' = .agg (suV s').cells from rfl, castA_mk, l1 G6, optK_mk, va, castA_mk, va', same_vw VA (l1 G5), cond_true, same_vw VA (l1 G4), cond_true, callK_mk q7, show vwV a' = .agg (vwV a').cells from rfl, castA_mk,
    l2 G7, optK_mk, vb, castA_mk, vb', same_vw VB (l2 G6), cond_true, same_vw VB (l2 G5), cond_true, same_vw VB (l2 G4), cond_true, callK_mk q8, show vwV b' = .agg (vwV b').cells from rfl, castA_mk,
    show Value.agg (suV s').cells = suV s' from rfl, show Value.agg (vwV a').cells = vwV a' from rfl, show Value.agg (vwV b').cells = vwV b' from rfl, callK_mk q9, castI_mk, beq_self_eq_true, cond_true,
    l0 G9, optK_mk, sv, castA_mk, l1 G9, optK_mk, va, castA_mk, optK_mk, castA_mk, sv', va', callK_mk q10, castI_mk, l0 G10, optK_mk, sv, castA_mk, sv', same_su S (l0 G9), cond_true, l1 G10, optK_mk, va, castA_mk, va', same_vw VA (l1 G9), cond_true,
    callK_mk q11, castI_mk, step_self, beq_self_eq_true]
  exact .mk ⟨rfl, rfl, G10.trans F11⟩
end

/-- A setup and two views that came in. -/
theorem walk30s {HH : Type} {enc : TypeId × Value → HH} {held : Bool} {w : World} {cs ca cb : Array Value} {f1 f2 f3 : Nat} {x1 x2 x3 : DataW HH × List MemPlace}
    (h1 : DataW.trod enc P30 w 0 (fun _ => true) held f1 26 cs.toList = some x1) (h2 : DataW.trod enc P30 w 0 (fun _ => true) held f2 30 ca.toList = some x2) (h3 : DataW.trod enc P30 w 0 (fun _ => true) held f3 30 cb.toList = some x3) :
    Calls P30 4 #[.agg cs, .agg ca, .agg cb] w fun e w' => e = .returned (.bool true) ∧ RowKit.Below w.heap.size w w' := by
  obtain ⟨ρ1, m1, ac1, R1, V1, D1⟩ := read_trod (P := P30) (fun _ => rfl) 4 26 ok26 f1 _ _ _ ⟨0, .nil⟩ h1 sim_empty (fun i x hi => by simp [H.get, Tr.get_nil] at hi)
  obtain ⟨ρ2, m2, ac2, R2, V2, D2⟩ := read_trod (P := P30) (fun _ => rfl) 6 30 ok30 f2 _ _ _ m1 h2 R1.sim R1.ro
  obtain ⟨ρ3, m3, ac3, R3, V3, D3⟩ := read_trod (P := P30) (fun _ => rfl) 6 30 ok30 f3 _ _ _ m2 h3 R2.sim R2.ro
  have O1 := D1.one _ _ _
  have O2 := D2.one _ _ _
  have O3 := D3.one _ _ _
  obtain ⟨s, rfl, S⟩ := rd_setup D1
  obtain ⟨a, rfl, VA, IA, la⟩ := rd_view D2
  obtain ⟨b, rfl, VB, IB, lb⟩ := rd_view D3
  refine call30 (r := 9223372036854775808) (n := 18) (h := m3) (ρ := ρ3) (args := [suV s, vwV a, vwV b]) (args' := [.agg cs, .agg ca, .agg cb])
    (c_law4 (n := 0) (S.ext (R2.ext.trans R3.ext)) (VA.ext R3.ext) VB IA IB (by unfold maxLen at la; omega) (by unfold maxLen at lb; omega) (Nat.le_refl _)) R3.sim
    (.cons (.agg' (xs := ⟨suC s⟩) (V1.mono (R2.le.trans R3.le)) O1) (.cons (.agg' (xs := ⟨vwC a⟩) (V2.mono R3.le) O2) (.cons (.agg' (xs := ⟨vwC b⟩) V3 O3) (.nil _)))) R3.ro
end Go.Ev
