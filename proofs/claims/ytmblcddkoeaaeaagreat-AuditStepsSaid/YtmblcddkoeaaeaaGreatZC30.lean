/-
  Audit: Step, by the program.
-/
import Derived.Test.YtmblcddkoeaaeaaGreatZB30
namespace Go.Ev
open Go Go.Proofs

section
variable {r n : Nat} {h m m' : H} {s : Su} {a b : Vw} {p q : Pr} {i : Nat}


theorem c_srule (FA : VwFit a) (VA : VwIn h a) (VB : VwIn h b) (hf : a.faults.length = b.faults.length) (ha0 : a.held.length = a.ps.length) (hb0 : b.held.length = b.ps.length) (hr : 1000000 ≤ r) {k : Nat} (hk : k < 4) (hp : ∀ i, i < k → stepAt a b i = true) :
    Gives (ev30 r (n + 6) (32 + k) [mvV a b] h) fun y h' => y = .bool (stepAt a b k) ∧ Ext h h' := by
  have h1 : 1 < k → a.ps.length ≤ b.ps.length := fun h0 => by
    have := hp 1 h0
    have h2 : (decide (a.ps.length ≤ b.ps.length) && pairs a b fun p q _ _ => stayOk p q) = true := this
    rw [Bool.and_eq_true] at h2
    exact of_decide_eq_true h2.1
  have : k = 0 ∨ k = 1 ∨ k = 2 ∨ k = 3 := by omega
  rcases this with rfl | rfl | rfl | rfl
  · exact c_times (n := n + 5) FA VA VB hf hr
  · exact c_stayAll (n := n) FA VA VB hr
  · exact c_heldAll (n := n + 4) FA VA VB (h1 (by omega)) ha0 hb0 hr
  · exact c_freshAll (n := n + 4) FA VA VB (h1 (by omega)) hr

theorem c_first2 {d : Option Addr} (FA : VwFit a) (VA : VwIn h a) (VB : VwIn h b) (hf : a.faults.length = b.faults.length) (ha0 : a.held.length = a.ps.length) (hb0 : b.held.length = b.ps.length) (hr : 1000000 ≤ r) (L : Sl funC 1 h d 1 [32, 33, 34, 35]) :
    Gives (ev30 r (n + 7) 31 [mvV a b, .slice d 4 1] h) fun y h' => y = .int .i64 (firstF (stepAt a b) 4 0) ∧ Ext h h' := by
  unfold mvV
  rw [e31]
  obtain ⟨m, hm, E, HX⟩ := new_row h (vwC a ++ vwC b)
  simp only [vwC, List.cons_append, List.nil_append] at hm
  rw [hm]
  have A : MvAt m h.next a b := ⟨HX⟩
  clear HX hm
  refine Gives.loop (fun k env hh => env = E31_0 (.pointer (some ⟨h.next, 0, none⟩)) (.slice d 4 1) (.int .i64 (4 : Nat)) (.int .i64 (k : Int)) ∧ Ext m hh ∧ (∀ i, i < k → stepAt a b i = true) ∧ firstF (stepAt a b) 4 0 = firstF (stepAt a b) (4 - k) k) 4
    (fun x env hh => Ext m hh ∧ ((x = .exit 0 ∧ env = E31_2 ∧ firstF (stepAt a b) 4 0 = 0) ∨ (x = .ret ∧ env = E31_r (.int .i64 (firstF (stepAt a b) 4 0)))))
    (fun k env hh hk hI => ?_) ⟨rfl, .refl _, fun i hi => by omega, rfl⟩ (by omega) ?_
  · obtain ⟨rfl, E1, hp, hc⟩ := hI
    by_cases hg : k < 4
    · have hget : [32, 33, 34, 35][k]? = some (32 + k) := by
        have : k = 0 ∨ k = 1 ∨ k = 2 ∨ k = 3 := by omega
        rcases this with rfl | rfl | rfl | rfl <;> rfl
      obtain ⟨_, m2, q2, rfl, E2⟩ := c_srule (r := r) (n := n) FA (VA.ext (E.trans E1)) (VB.ext (E.trans E1)) hf ha0 hb0 hr hg hp
      have hk1 : decide ((k : Int) < ((4 : Nat) : Int)) = true := decide_eq_true (by omega)
      have rd := fun (R : Type) (K : Value → Option R) => (L.ext (E.trans E1)).read (P := P30) und88 cel87 agg87 hget K .i64
      obtain ⟨j, hj⟩ : ∃ j, 4 - k = j + 1 := ⟨3 - k, by omega⟩
      have pre : ∀ {R : Type} (nx : Env → H → Option R) (K : Exit → Env → H → Option R), evCode P30 (ev30 r (n + 6)) (jmp30 r (n + 6) 31) (dead30 31) r 0 (pc [1, 0, 1, 0, 0] (bd Tryz.f31)) (E31_0 (.pointer (some ⟨h.next, 0, none⟩)) (.slice d 4 1) (.int .i64 (4 : Nat)) (.int .i64 (k : Int))) hh (loopK nx (dead30 31 (4 * 0)) (dead30 31 (4 * 0 + 2)) (dead30 31 1000002) K) =
          bif !stepAt a b k then K .ret (E31_r (.int .i64 ((k + 1 : Nat) : Int))) m2 else nx (E31_0 (.pointer (some ⟨h.next, 0, none⟩)) (.slice d 4 1) (.int .i64 (4 : Nat)) (.int .i64 ((k + 1 : Nat) : Int))) m2 := by
        intro R nx K
        rw [e31_0, hk1, cond_true]
        erw [rd]
        rw [(A.ext E1).whole, optK_mk, show mvV a b = .agg (mvV a b).cells from rfl, castA_mk, callV (has_body (by omega)), show Value.agg (mvV a b).cells = mvV a b from rfl, callK_mk q2, castBool, castV_mk, wrap_succ (by omega)]
      cases g : stepAt a b k with
      | true =>
        refine ⟨.on _ m2, fun nx K => ?_, hg, rfl, E1.trans E2, fun i hi => ?_, ?_⟩
        · rw [pre, g]; rfl
        · by_cases e : i = k
          · rw [e]; exact g
          · exact hp i (by omega)
        · rw [hc, hj, firstF_step g, show 4 - (k + 1) = j from by omega]
      | false =>
        refine ⟨.off .ret _ m2, fun nx K => ?_, E1.trans E2, .inr ⟨rfl, rfl⟩⟩
        rw [pre, g, hc, hj, firstF_no g]; rfl
    · have hkk : k = 4 := by omega
      subst hkk
      refine ⟨.off (.exit 0) _ hh, fun nx K => ?_, E1, .inl ⟨rfl, rfl, by rw [hc]; rfl⟩⟩
      rw [e31_0, decide_eq_false (by omega), cond_false]; rfl
  · rintro x env h' ⟨E1, ⟨rfl, rfl, hv⟩ | ⟨rfl, rfl⟩⟩
    · rw [e31_0x0, hv]; exact .mk ⟨rfl, E.trans E1⟩
    · rw [e31_0r]; exact .mk ⟨rfl, E.trans E1⟩

theorem firstF_range (f : Nat → Bool) : ∀ (m k : Nat), firstF f m k = 0 ∨ ((k : Int) < firstF f m k ∧ firstF f m k ≤ (k : Int) + m) := by
  intro m
  induction m with
  | zero => intro k; exact .inl rfl
  | succ m ih =>
    intro k
    rw [firstF]
    split
    · rcases ih (k + 1) with h1 | h1
      · exact .inl h1
      · exact .inr ⟨by omega, by omega⟩
    · exact .inr ⟨by omega, by omega⟩
theorem check_zero_all (h : checkOf s a = 0) {k : Nat} (hk : k < 8) : ruleAt s a k = true := by
  apply Classical.byContradiction
  intro hn
  have : ∃ k, k < 8 ∧ ruleAt s a k = false ∧ ∀ i, i < k → ruleAt s a i = true := by
    revert k
    intro k
    induction k using Nat.strongRecOn with
    | ind k ih =>
      intro hk hn
      by_cases hall : ∀ i, i < k → ruleAt s a i = true
      · exact ⟨k, hk, by simpa using hn, hall⟩
      · obtain ⟨i, hi⟩ := Classical.not_forall.1 hall
        have h1 : i < k := Classical.byContradiction fun h => hi fun h2 => absurd h2 h
        exact ih i h1 (by omega) fun h => hi fun _ => h
  obtain ⟨k, h1, h2, h3⟩ := this
  rw [check_first h1 h3 h2] at h
  omega
theorem check_range : 0 ≤ checkOf s a ∧ checkOf s a ≤ 8 := by
  rcases firstF_range (ruleAt s a) 8 0 with h1 | h1
  · unfold checkOf; omega
  · unfold checkOf; omega

/-- audit.Step -/
theorem c_step (FA : VwFit a) (FB : VwFit b) (S : SuIn h s) (SF : SuFew s) (VA : VwIn h a) (VB : VwIn h b) (hr : 1000000 ≤ r) : Gives (ev30 r (n + 15) 14 [suV s, vwV a, vwV b] h) fun y h' => y = .int .i64 (stepOf s a b) ∧ Ext h h' := by
  unfold suV vwV
  rw [e14]
  obtain ⟨m0, hm0, E0, H0⟩ := new_row h (suC s)
  obtain ⟨m1, hm1, E1, H1⟩ := new_row m0 (vwC a)
  obtain ⟨m, hm, E2, H2⟩ := new_row m1 (vwC b)
  have hn : h.next + 1 = m0.next := by rw [← hm0]; rfl
  have hn1 : m0.next + 1 = m1.next := by rw [← hm1]; rfl
  rw [hn, hn1]
  unfold suC at hm0
  unfold vwC at hm1 hm
  rw [hm0, hm1, hm]
  have E := E0.trans (E1.trans E2)
  have l0 : ∀ {w}, Ext m w → ldV P30 26 h.next 0 w = some (suV s) := fun X => by rw [ld_agg agg26 cel26 (H0.ext (E1.trans (E2.trans X))) (by simp [suC])]; rfl
  have l1 : ∀ {w}, Ext m w → ldV P30 30 m0.next 0 w = some (vwV a) := fun X => by rw [ld_agg agg30 cel30 (H1.ext (E2.trans X)) (by simp [vwC])]; rfl
  have l2 : ∀ {w}, Ext m w → ldV P30 30 m1.next 0 w = some (vwV b) := fun X => by rw [ld_agg agg30 cel30 (H2.ext X) (by simp [vwC])]; rfl
  have sv : suV s = .agg (suV s).cells := rfl
  have va : vwV a = .agg (vwV a).cells := rfl
  have vb : vwV b = .agg (vwV b).cells := rfl
  refine Gives.jump (Q := fun x env hh => x = .ret ∧ env = E14_r (.int .i64 (stepOf s a b)) ∧ Ext m hh) ?_ (by rintro x env h' ⟨rfl, rfl, E3⟩; rw [e14_3r]; exact .mk ⟨rfl, E.trans E3⟩)
  obtain ⟨_, m3, q3, rfl, E3⟩ := c_check (r := r) (n := n) FA (S.ext E) SF (VA.ext E) hr
  rw [e14_3c, l0 (.refl m), optK_mk, sv, castA_mk, l1 (.refl m), optK_mk, va, castA_mk, show Value.agg (suV s).cells = suV s from rfl, show Value.agg (vwV a).cells = vwV a from rfl, callK_mk q3, castI_mk]
  have hc := check_range (s := s) (a := a)
  by_cases g1 : checkOf s a > 0
  · rw [decide_eq_true g1, cond_true]
    exact .mk ⟨rfl, by unfold stepOf; rw [if_pos g1], E3⟩
  have hca : checkOf s a = 0 := by omega
  obtain ⟨_, m4, q4, rfl, E4⟩ := c_check (r := r) (n := n) FB (S.ext (E.trans E3)) SF (VB.ext (E.trans E3)) hr
  have E34 := E3.trans E4
  rw [decide_eq_false g1, cond_false, l0 E3, optK_mk, sv, castA_mk, l2 E3, optK_mk, vb, castA_mk, show Value.agg (suV s).cells = suV s from rfl, show Value.agg (vwV b).cells = vwV b from rfl, callK_mk q4, castI_mk]
  have hc2 := check_range (s := s) (a := b)
  by_cases g2 : checkOf s b > 0
  · rw [decide_eq_true g2, cond_true]
    exact .mk ⟨rfl, by unfold stepOf; rw [if_neg g1, if_pos g2], E34⟩
  have hcb : checkOf s b = 0 := by omega
  obtain ⟨_, _, fa, ha0⟩ := sizeOk_all (check_zero_all hca (k := 0) (by omega))
  obtain ⟨_, _, fb, hb0⟩ := sizeOk_all (check_zero_all hcb (k := 0) (by omega))
  rw [decide_eq_false g2, cond_false, l1 E34, optK_mk, va, castA_mk, l2 E34, optK_mk, vb, castA_mk]
  refine GivesX.opt (v := mvV a b) (by kernel_rfl) ?_
  obtain ⟨m5, hm5, E5, H5⟩ := new_row m4 (List.flatMap funC [32, 33, 34, 35])
  simp only [List.flatMap_cons, List.flatMap_nil, funC, List.cons_append, List.nil_append, List.append_nil] at hm5
  rw [hm5]
  have L : Sl funC 1 m5 (some ⟨m4.next, 0, none⟩) 1 [32, 33, 34, 35] := .inr ⟨rfl, _, 0, rfl, fun i x hx => ⟨_, _, H5, fun f y hy => by
    have := flatMap_get (e := funC) (k := 1) (fun _ _ => rfl) hx f y hy
    rw [Nat.zero_add]; exact this⟩⟩
  have E35 := E34.trans E5
  obtain ⟨_, m6, q6, rfl, E6⟩ := c_first2 (r := r) (n := n + 6) FA (VA.ext (E.trans E35)) (VB.ext (E.trans E35)) (by omega) ha0 hb0 hr L
  rw [callK_mk q6, castI_mk]
  have hf := firstF_range (stepAt a b) 4 0
  by_cases g3 : firstF (stepAt a b) 4 0 > 0
  · rw [decide_eq_true g3, cond_true, wrap_id (by omega) (by omega)]
    exact .mk ⟨rfl, by unfold stepOf; rw [if_neg g1, if_neg g2, if_pos g3], E35.trans E6⟩
  · rw [decide_eq_false g3, cond_false]
    exact .mk ⟨rfl, by unfold stepOf; rw [if_neg g1, if_neg g2, if_neg g3], E35.trans E6⟩
end
end Go.Ev
