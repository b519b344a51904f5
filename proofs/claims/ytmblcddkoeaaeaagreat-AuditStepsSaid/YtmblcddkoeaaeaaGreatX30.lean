/-
  Audit: AuditChecks over any memory.
-/
import Derived.Test.YtmblcddkoeaaeaaGreatW30
namespace Go.Ev
open Go Go.Proofs

section
variable {s s' : Su} {v v' : Vw}
theorem every_like {q q' : Pr → Int → Bool} (L : VwLike v v') (hq : ∀ p p' z, strip p' = strip p → q' p' z = q p z) (k : Nat) : every v' q' k = every v q k := by
  have h := congrArg (fun l => l[k]?) L.ps
  simp only [List.getElem?_map] at h
  unfold every
  rw [L.held]
  cases h1 : v'.ps[k]? with
  | none =>
    rw [h1] at h
    cases h2 : v.ps[k]? with
    | none => rfl
    | some p => rw [h2] at h; cases h
  | some p' =>
    rw [h1] at h
    cases h2 : v.ps[k]? with
    | none => rw [h2] at h; cases h
    | some p =>
      rw [h2] at h
      simp only [Option.map_some, Option.some.injEq] at h
      exact hq p p' _ h
theorem rule_like {q q' : Pr → Int → Bool} (L : VwLike v v') (hq : ∀ p p' z, strip p' = strip p → q' p' z = q p z) : rule v' q' = rule v q := by
  unfold rule
  rw [L.len]
  exact allN_congr fun k _ => every_like L hq k
theorem at_like {β : Type} {f f' : Pr → Option β} (L : VwLike v v') (hq : ∀ p p', strip p' = strip p → f' p' = f p) (k : Nat) : (v'.ps[k]?).bind f' = (v.ps[k]?).bind f := by
  have h := congrArg (fun l => l[k]?) L.ps
  simp only [List.getElem?_map] at h
  cases h1 : v'.ps[k]? with
  | none =>
    rw [h1] at h
    cases h2 : v.ps[k]? with
    | none => rfl
    | some p => rw [h2] at h; cases h
  | some p' =>
    rw [h1] at h
    cases h2 : v.ps[k]? with
    | none => rw [h2] at h; cases h
    | some p =>
      rw [h2] at h
      simp only [Option.map_some, Option.some.injEq] at h
      exact hq p p' h
theorem place_like (L : SuLike s s') (w : List UInt8) : placeIn s' w = placeIn s w := by unfold placeIn; rw [L.ac]

theorem ruleAt_like (LS : SuLike s s') (LV : VwLike v v') (k : Nat) : ruleAt s' v' k = ruleAt s v k := by
  match k with
  | 0 =>
    show sizeOk s' v' = sizeOk s v
    unfold sizeOk
    rw [LV.used, LV.real, LV.faults, LV.held, LV.now, LV.len, LS.ac, LS.ve, LS.z3]
  | 1 =>
    refine rule_like LV fun p p' z h => ?_
    simp only [strip, Pr.mk.injEq] at h
    obtain ⟨_, h2, _, _, h5, _, h7, _, _, _, h11, h12, h13, h14, h15, h16, _⟩ := h
    unfold ok2
    rw [place_like LS, h2, h5, h7, h11, h12, h13, h14, h15, h16]
  | 2 =>
    refine rule_like LV fun p p' z h => ?_
    simp only [strip, Pr.mk.injEq] at h
    unfold ok3
    rw [h.2.2.2.2.2.2.2.2.2.2.2.2.2.2.2.2.1]
  | 3 =>
    refine rule_like LV fun p p' z h => ?_
    simp only [strip, Pr.mk.injEq] at h
    obtain ⟨_, h2, _, _, h5, _, h7, _, _, _, h11, h12, h13, h14, h15, h16, h17, _⟩ := h
    unfold ok4
    rw [h12, h15, h17]
  | 4 =>
    refine rule_like LV fun p p' z h => ?_
    simp only [strip, Pr.mk.injEq] at h
    obtain ⟨_, h2, _, _, h5, _, h7, _, _, _, h11, h12, h13, h14, h15, h16, _⟩ := h
    unfold ok5
    rw [h11, h12, h13, h15]
  | 5 =>
    refine rule_like LV fun p p' z h => ?_
    simp only [strip, Pr.mk.injEq] at h
    obtain ⟨_, h2, _, _, h5, _, h7, _, _, _, h11, h12, h13, h14, h15, h16, _⟩ := h
    unfold ok6
    rw [h5, h7, h12, h13, h15]
  | 6 =>
    refine rule_like LV fun p p' z h => ?_
    simp only [strip, Pr.mk.injEq] at h
    obtain ⟨_, h2, _, _, h5, _, h7, _, _, _, h11, h12, h13, h14, h15, h16, _⟩ := h
    unfold ok7
    rw [h5, h14, h16]
  | 7 =>
    show allN (acOk s' v') s'.ac.length = allN (acOk s v) s.ac.length
    rw [LS.ac]
    refine allN_congr fun i _ => ?_
    have e1 : ∀ k, worthAt s' v' i k = worthAt s v i k := fun k => at_like LV (fun p p' h => by
      simp only [strip, Pr.mk.injEq] at h
      obtain ⟨_, h2, _, _, h5, _, h7, _, _, _, h11, h12, h13, h14, h15, h16, _⟩ := h
      rw [place_like LS, h2, h5, h14]) k
    have e2 : ∀ k, heldAt s' v' i k = heldAt s v i k := fun k => at_like LV (fun p p' h => by
      simp only [strip, Pr.mk.injEq] at h
      obtain ⟨_, h2, _, _, h5, _, h7, _, _, _, h11, h12, h13, h14, h15, h16, _⟩ := h
      rw [place_like LS, h2, LV.held]) k
    unfold acOk
    rw [funext e1, funext e2, LV.real, LV.used, LV.len, LS.ac]
  | k + 8 => rfl
theorem check_like (LS : SuLike s s') (LV : VwLike v v') : checkOf s' v' = checkOf s v := by
  unfold checkOf
  rw [funext (ruleAt_like LS LV)]
theorem SuFew.like (F : SuFew s) (L : SuLike s s') : SuFew s' := ⟨by rw [L.ac]; exact F.ac, by rw [L.sy]; exact F.sy, by rw [L.ve]; exact F.ve⟩
theorem VwFit.like (F : VwFit v) (L : VwLike v v') : VwFit v' := by
  refine ⟨fun p' hp => ?_, by rw [L.real]; exact F.real, by rw [L.held]; exact F.held, by rw [L.len]; exact F.few, by rw [L.used]; exact F.fu, by rw [L.real]; exact F.fr, by rw [L.held]; exact F.fh, by rw [L.faults]; exact F.ff⟩
  have h1 : strip p' ∈ v.ps.map strip := by rw [← L.ps]; exact List.mem_map.2 ⟨p', hp, rfl⟩
  obtain ⟨p, hp2, h⟩ := List.mem_map.1 h1
  have f := F.ps p hp2
  simp only [strip, Pr.mk.injEq] at h
  obtain ⟨_, h2, _, _, h5, _, h7, _, _, _, h11, h12, h13, h14, h15, h16, h17, _⟩ := h
  exact ⟨by rw [← h12]; exact f.filled, by rw [← h13]; exact f.busted, by rw [← h15]; exact f.claims, by rw [← h14]; exact f.worth, by rw [← h11]; exact f.most, by rw [← h17]; exact f.kids, by rw [← h17]; exact f.few⟩
end

section
variable {r n : Nat} {h m m' : H} {s : Su} {v : Vw} {z : Int}

theorem eqA_sl {α : Type} {e : α → List Value} {k : Nat} {a : Option Addr} {st : Nat} {l : List α} (S : Sl e k h a st l) : eqA a a = true := by
  rcases S with ⟨_, rfl, _⟩ | ⟨_, j, o, rfl, _⟩
  · rfl
  · simp [eqA]
theorem same_su {t i o : Nat} (S : SuIn h s) (e : ldV P30 t i o m = some (suV s)) : sameLd P30 t i o (suV s) m = true := by
  unfold sameLd; rw [e]
  simp [suV, eqV, eqV.eqVs, eqA_sl S.ac, eqA_sl S.sy, eqA_sl S.ve]
theorem same_vw {t i o : Nat} (V : VwIn h v) (e : ldV P30 t i o m = some (vwV v)) : sameLd P30 t i o (vwV v) m = true := by
  unfold sameLd; rw [e]
  simp [vwV, eqV, eqV.eqVs, eqA_sl V.ps, eqA_sl V.used, eqA_sl V.real, eqA_sl V.held, eqA_sl V.faults]

theorem c_awake : ev30 r (n + 1) 5 [] h = some (.bool true, h) := by kernel_rfl

/-- What the program and the reference say of a view. -/
theorem both (F : VwFit v) (S : SuIn h s) (SF : SuFew s) (V : VwIn h v) (hr : 1000000 ≤ r) : Gives (ev30 r (n + 13) 8 [suV s, vwV v] h) fun y h' => y = .int .i64 (checkOf s v) ∧ Ext h h' := c_check F S SF V hr

theorem c_law3 (S : SuIn h s) (V : VwIn h v) (VI : VwInts v) (hl : v.ps.length < 9223372036854775808) (hr : 9223372036854775808 ≤ r) : Gives (ev30 r (n + 16) 3 [suV s, vwV v, .int .i64 z] h) fun y h' => y = .bool true ∧ Ext h h' := by
  unfold suV vwV
  rw [e3]
  obtain ⟨m0, hm0, E0, H0⟩ := new_row h (suC s)
  obtain ⟨m, hm, E1, H1⟩ := new_row m0 (vwC v)
  have hn : h.next + 1 = m0.next := by rw [← hm0]; rfl
  rw [hn]
  unfold suC at hm0
  unfold vwC at hm
  rw [hm0, hm]
  have E := E0.trans E1
  have HA := H0.ext E1
  have l26 : ∀ {w}, Ext m w → ldV P30 26 h.next 0 w = some (suV s) := fun X => by rw [ld_agg agg26 cel26 (HA.ext X) (by simp [suC])]; rfl
  have l30 : ∀ {w}, Ext m w → ldV P30 30 m0.next 0 w = some (vwV v) := fun X => by rw [ld_agg agg30 cel30 (H1.ext X) (by simp [vwC])]; rfl
  have sv : suV s = .agg (suV s).cells := rfl
  have vv : vwV v = .agg (vwV v).cells := rfl
  have sv' : Value.agg (suV s).cells = suV s := rfl
  have vv' : Value.agg (vwV v).cells = vwV v := rfl
  refine Gives.jump (Q := fun x env hh => x = .ret ∧ env = E3_r (.bool true) ∧ Ext m hh) ?_ (by rintro x env h' ⟨rfl, rfl, E2⟩; rw [e3_3r]; exact .mk ⟨rfl, E.trans E2⟩)
  obtain ⟨_, m2, q2, E2, b2, rfl, hb2⟩ := c_small (r := r) (n := n + 11) (S.ext E) (by omega)
  rw [e3_3c, callK_mk c_awake, castV_mk, Bool.not_true, cond_false, l26 (.refl m), optK_mk, sv, castA_mk, sv', callK_mk q2, castV_mk]
  cases b2 with
  | false => rw [Bool.not_false, cond_true]; exact .mk ⟨rfl, rfl, E2⟩
  | true =>
  have SF := hb2 rfl
  obtain ⟨_, m3, q3, E3, b3, rfl, hb3⟩ := c_few (r := r) (n := n + 12) (V.ext (E.trans E2)) hl hr
  have E3' := E2.trans E3
  rw [Bool.not_true, cond_false, l30 E2, optK_mk, vv, castA_mk, vv', callK_mk q3, castV_mk]
  cases b3 with
  | false => rw [Bool.not_false, cond_true]; exact .mk ⟨rfl, rfl, E3'⟩
  | true =>
  have VF := VwFit.of VI (hb3 rfl)
  rw [Bool.not_true, cond_false]
  refine GivesX.jump (Q := fun x env hh => x = .ret ∧ env = E3_r (.bool true) ∧ Ext m hh) ?_ (by rintro x env h' ⟨rfl, rfl, E⟩; rw [e3_11r]; exact .mk ⟨rfl, rfl, E⟩)
  have hr' : 1000000 ≤ r := by omega
  obtain ⟨_, m4, q4, rfl, E4⟩ := c_check (r := r) (n := n) VF (S.ext (E.trans E3')) SF (V.ext (E.trans E3')) hr'
  have E4' := E3'.trans E4
  obtain ⟨_, m5, q5, E5, s', rfl, S5, LS⟩ := c_plainS (r := r) (n := n + 11) (S.ext (E.trans E4')) SF hr'
  have E5' := E4'.trans E5
  obtain ⟨_, m6, q6, E6, v', rfl, V6, LV⟩ := c_plainV (r := r) (n := n + 11) (V.ext (E.trans E5')) VF hr'
  have E6' := E5'.trans E6
  obtain ⟨_, m7, q7, rfl, E7⟩ := c_refcheck (r := r) (n := n + 2) (VF.like LV) (S5.ext E6) (SF.like LS) V6 hr'
  have E7' := E6'.trans E7
  obtain ⟨_, m8, q8, rfl, E8⟩ := c_word (r := r) (n := n + 12) (h := m7) (z := z)
  obtain ⟨_, m9, q9, rfl, E9⟩ := c_rword (r := r) (n := n + 12) (h := m8) (z := z)
  rw [check_like LS LV] at q7
  rw [e3_11c, l26 E3', optK_mk, sv, castA_mk, l30 E3', optK_mk, vv, castA_mk, sv', vv', callK_mk q4, castI_mk, l26 E4', optK_mk, sv, castA_mk, sv', same_su S (l26 E3'), cond_true, callK_mk q5,
    show suV s' = .agg (suV s').cells from rfl, castA_mk, l30 E5', optK_mk, vv, castA_mk, vv', same_vw V (l30 E4'), cond_true, same_vw V (l30 E3'), cond_true, callK_mk q6, show vwV v' = .agg (vwV v').cells from rfl, castA_mk,
    show Value.agg (suV s').cells = suV s' from rfl, show Value.agg (vwV v').cells = vwV v' from rfl, callK_mk q7, castI_mk, beq_self_eq_true, cond_true, callK_mk q8, castS_mk, callK_mk q9, castS_mk, beq_self_eq_true]
  exact .mk ⟨rfl, rfl, E7'.trans (E8.trans E9)⟩
end
end Go.Ev
