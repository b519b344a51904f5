/-
  ScriptReports: the law; what came in; the call.
-/
import Derived.Test.YtofgaidlepmcmaaGreatDoorY31
import Derived.Test.YtofgaidlepmcmaaGreatDoorA31
set_option maxRecDepth 100000
namespace Go.Ev
open Go Go.Proofs

section
variable {r n : Nat} {h m m' : H} {v v' : Vw}
/-! ### a view's copy tells the same -/
theorem PrFit.strip_iff {p : Pr} : PrFit (strip p) ↔ PrFit p := ⟨fun ⟨a, b, c, d, e, f, g, i, j, k⟩ => ⟨a, b, c, d, e, f, g, i, j, k⟩, fun ⟨a, b, c, d, e, f, g, i, j, k⟩ => ⟨a, b, c, d, e, f, g, i, j, k⟩⟩
theorem PrFew.strip_iff {p : Pr} : PrFew (strip p) ↔ PrFew p := ⟨fun ⟨a, b, c⟩ => ⟨a, b, c⟩, fun ⟨a, b, c⟩ => ⟨a, b, c⟩⟩
theorem VwLike.mem (L : VwLike v v') {p : Pr} (hp : p ∈ v'.ps) : ∃ q ∈ v.ps, strip q = strip p := by
  have : strip p ∈ v'.ps.map strip := List.mem_map.2 ⟨p, hp, rfl⟩
  rw [L.ps] at this
  exact List.mem_map.1 this
theorem VwInts.like (VI : VwInts v) (L : VwLike v v') : VwInts v' :=
  ⟨by rw [L.now]; exact VI.now, fun p hp => by
    obtain ⟨q, hq, e⟩ := L.mem hp
    have := PrFit.strip_iff.2 (VI.ps q hq)
    rw [e] at this; exact PrFit.strip_iff.1 this, by rw [L.used]; exact VI.used, by rw [L.real]; exact VI.real, by rw [L.held]; exact VI.held, by rw [L.faults]; exact VI.faults⟩
theorem VwFew.like (VF : VwFew v) (L : VwLike v v') : VwFew v' :=
  ⟨fun p hp => by
    obtain ⟨q, hq, e⟩ := L.mem hp
    have := PrFew.strip_iff.2 (VF.ps q hq)
    rw [e] at this; exact PrFew.strip_iff.1 this, by rw [L.len]; exact VF.few, by rw [L.used]; exact VF.fu, by rw [L.faults]; exact VF.ff⟩
theorem psT_like (L : VwLike v v') : ∀ k, psT v' k = psT v k := by
  intro k
  induction k with
  | zero => rfl
  | succ k ih =>
    rw [psT, psT, ih, L.held]
    have hg : (v'.ps[k]?).map strip = (v.ps[k]?).map strip := by rw [← List.getElem?_map, ← List.getElem?_map, L.ps]
    cases h1 : v'.ps[k]? with
    | none =>
      cases h2 : v.ps[k]? with
      | none => rfl
      | some q => rw [h1, h2] at hg; cases hg
    | some p =>
      cases h2 : v.ps[k]? with
      | none => rw [h1, h2] at hg; cases hg
      | some q =>
        rw [h1, h2] at hg
        have e : strip p = strip q := by simpa using hg
        have a1 : ∀ z, parT p z = parT (strip p) z := fun _ => rfl
        have a2 : ∀ z, parT q z = parT (strip q) z := fun _ => rfl
        have b1 : kidsT p p.kids.length = kidsT (strip p) (strip p).kids.length := rfl
        have b2 : kidsT q q.kids.length = kidsT (strip q) (strip q).kids.length := rfl
        show _ ++ (parT p _ ++ kidsT p p.kids.length) = _ ++ (parT q _ ++ kidsT q q.kids.length)
        rw [a1, a2, b1, b2, e]
theorem usT_like (L : VwLike v v') : ∀ k, usT v' k = usT v k := by
  intro k
  induction k with
  | zero => rfl
  | succ k ih => rw [usT, usT, ih, L.used, L.real]
theorem faT_like (L : VwLike v v') : ∀ k, faT v' k = faT v k := by
  intro k
  induction k with
  | zero => rfl
  | succ k ih => rw [faT, faT, ih, L.faults]
theorem report_like (L : VwLike v v') : reportT v' = reportT v := by
  unfold reportT headT
  rw [psT_like L, usT_like L, faT_like L, L.now, L.killed, L.len, L.used, L.faults]

theorem eqA_sl {α : Type} {e : α → List Value} {k : Nat} {a : Option Addr} {st : Nat} {l : List α} (S : Sl e k h a st l) : eqA a a = true := by
  rcases S with ⟨_, rfl, _⟩ | ⟨_, j, o, rfl, _⟩
  · rfl
  · simp [eqA]
theorem same_vw {t i o : Nat} (V : VwIn h v) (e : ldV P31 t i o m = some (vwV v)) : sameLd P31 t i o (vwV v) m = true := by
  unfold sameLd; rw [e]
  simp [vwV, eqV, eqV.eqVs, eqA_sl V.ps, eqA_sl V.used, eqA_sl V.real, eqA_sl V.held, eqA_sl V.faults]

theorem c_awake : ev31 r (n + 1) 4 [] h = some (.bool true, h) := by kernel_rfl

theorem c_doc (V : VwIn h v) (VI : VwInts v) (VF : VwFew v) (hr : 1000000 ≤ r) : Gives (ev31 r (n + 6) 7 [vwV v] h) fun y h' => y = .string (txt (reportT v)) ∧ Ext h h' := by
  unfold vwV
  rw [e7]
  obtain ⟨m, hm, E, HX⟩ := new_row h (vwC v)
  have A : VwAt m h.next v := ⟨HX⟩
  unfold vwC at hm
  rw [hm]
  obtain ⟨_, m2, q2, E2, v', rfl, V2, L⟩ := c_plainV (r := r) (n := n + 3) (V.ext E) VF hr
  have vv : vwV v = .agg (vwV v).cells := rfl
  have vv' : Value.agg (vwV v).cells = vwV v := rfl
  have ww : vwV v' = .agg (vwV v').cells := rfl
  have ww' : Value.agg (vwV v').cells = vwV v' := rfl
  have e2 : (vwV v').cells.toList = vwC v' := rfl
  have q3 := st_new (h := m2) (zs := [Value.int IntKind.i64 0, Value.bool false, Value.slice none 0 0, Value.slice none 0 0, Value.slice none 0 0, Value.slice none 0 0, Value.slice none 0 0]) (cs := vwC v') rfl
  obtain ⟨m3, hm3, E3, H3⟩ := new_row m2 (vwC v')
  have A3 : VwAt m3 m2.next v' := ⟨H3⟩
  obtain ⟨_, m4, q4, rfl, E4⟩ := c_rreport (r := r) (n := n) (V2.ext E3) (VI.like L) (VF.like L) hr
  rw [A.whole, optK_mk, vv, castA_mk, vv', callK_mk q2, ww, castA_mk, ww', ifK_pos (by rw [cel60]; rfl), e2, q3, optK_mk, hm3, A3.rwhole, optK_mk, ww, castA_mk, ww', callK_mk q4, castS_mk]
  exact .mk ⟨by rw [report_like L], ((E.trans E2).trans E3).trans E4⟩

theorem c_law3 (V : VwIn h v) (VI : VwInts v) (hl : v.ps.length < 9223372036854775808) (hr : 9223372036854775808 ≤ r) : Gives (ev31 r (n + 7) 3 [vwV v] h) fun y h' => y = .bool true ∧ Ext h h' := by
  unfold vwV
  rw [e3]
  obtain ⟨m, hm, E, HX⟩ := new_row h (vwC v)
  have A : VwAt m h.next v := ⟨HX⟩
  unfold vwC at hm
  rw [hm]
  have vv : vwV v = .agg (vwV v).cells := rfl
  have vv' : Value.agg (vwV v).cells = vwV v := rfl
  have hr' : 1000000 ≤ r := by omega
  obtain ⟨_, m2, q2, E2, b, rfl, hb⟩ := c_few (r := r) (n := n + 4) (V.ext E) hl hr
  have A2 := A.ext E2
  rw [callK_mk c_awake, castV_mk, Bool.not_true, cond_false, A.whole, optK_mk, vv, castA_mk, vv', callK_mk q2, castV_mk]
  cases b with
  | false => rw [Bool.not_false, cond_true]; exact .mk ⟨rfl, E.trans E2⟩
  | true =>
    have VF := hb rfl
    obtain ⟨_, m3, q3, rfl, E3⟩ := c_report (r := r) (n := n + 2) (V.ext (E.trans E2)) VI VF hr'
    have A3 := A2.ext E3
    obtain ⟨_, m4, q4, rfl, E4⟩ := c_doc (r := r) (n := n) (V.ext ((E.trans E2).trans E3)) VI VF hr'
    rw [Bool.not_true, cond_false, A2.whole, optK_mk, vv, castA_mk, vv', callK_mk q3, castS_mk, A3.whole, optK_mk, vv, castA_mk, vv', same_vw V A2.whole, cond_true, callK_mk q4, castS_mk]
    exact .mk ⟨by simp, ((E.trans E2).trans E3).trans E4⟩
end
end Go.Ev
