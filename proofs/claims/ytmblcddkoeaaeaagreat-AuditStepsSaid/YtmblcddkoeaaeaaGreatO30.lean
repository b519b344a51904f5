/-
  Audit: the reference's size and one.
-/
import Derived.Test.YtmblcddkoeaaeaaGreatM30
namespace Go.Ev
open Go Go.Proofs

theorem agg36 : aggT P30 36 = some false := by kernel_rfl
theorem agg37 : aggT P30 37 = some false := by kernel_rfl
theorem agg38 : aggT P30 38 = some false := by kernel_rfl
theorem agg42 : aggT P30 42 = some false := by kernel_rfl
theorem agg73 : aggT P30 73 = some false := by kernel_rfl
theorem agg40 : aggT P30 40 = some true := by kernel_rfl
theorem agg44 : aggT P30 44 = some true := by kernel_rfl
theorem agg75 : aggT P30 75 = some true := by kernel_rfl
theorem agg82 : aggT P30 82 = some true := by kernel_rfl
theorem cel40 : cellsOf P30 40 = some 9 := by kernel_rfl
theorem cel44 : cellsOf P30 44 = some 7 := by kernel_rfl
theorem cel75 : cellsOf P30 75 = some 17 := by kernel_rfl
theorem cel82 : cellsOf P30 82 = some 10 := by kernel_rfl
theorem und36 : (P30.underlying 36).bind (fun d => match d with | .slice e => cellsOf P30 e | _ => none) = some 2 := by kernel_rfl
theorem und42 : P30.underlying 42 = some (.slice 75) := by kernel_rfl
theorem und73 : P30.underlying 73 = some (.slice 82) := by kernel_rfl
theorem app83 : appOk P30 ⟨[83, 83]⟩ 1 16 = true := by kernel_rfl
theorem und36' : ∃ e, P30.underlying 36 = some (.slice e) ∧ cellsOf P30 e = some 2 := by
  have h := und36
  cases e : P30.underlying 36 with
  | none => rw [e] at h; cases h
  | some d =>
    rw [e] at h
    cases d <;> simp at h
    exact ⟨_, rfl, h⟩

section
variable {P : Program} {R : Type} {α : Type} {e : α → List Value} {k : Nat} {h h' : H} {a : Option Addr} {st : Nat} {l : List α}
/-- A cell of a thing, read. -/
theorem Sl.readf (S : Sl e k h a st l) {t et ct : TypeId} (hu : P.underlying t = some (.slice et)) (hc : cellsOf P et = some k) (ha : aggT P ct = some false) {i : Nat} {x : α} (hx : l[i]? = some x) {f : Nat} {y : Value} (hy : (e x)[f]? = some y)
    (K : Value → Option R) (kk : IntKind) : (indexAddrA P t (.slice a l.length st) (.int kk i) fun v => addrK v fun o p => optK (ldV P ct o (p + f) h) K) = K y := by
  obtain ⟨j, o, e1, e2⟩ := S.cell hu hc ha hx hy
  rw [e1]; simp only [addrK_mk, e2, optK_mk]
end

section
variable {r n : Nat} {h m m' : H} {i : Nat} {s : Su} {v : Vw} {p : Pr}

structure SuAt (m : H) (i : Nat) (s : Su) : Prop where
  has : Has m i (.cells (suC s) false)
theorem SuAt.ext (A : SuAt m i s) (E : Ext m m') : SuAt m' i s := ⟨A.has.ext E⟩
theorem SuAt.l0 (A : SuAt m i s) : ldV P30 36 i 0 m = some (.slice s.aa s.ac.length s.at') := ld_at agg36 A.has
theorem SuAt.l2 (A : SuAt m i s) : ldV P30 38 i 2 m = some (.slice s.va s.ve.length s.vt) := ld_at agg38 A.has
theorem SuAt.l3 (A : SuAt m i s) : ldV P30 3 i 3 m = some (.int .i64 s.z3) := ld_at agg3 A.has
theorem SuAt.whole (A : SuAt m i s) : ldV P30 40 i 0 m = some (suV s) := by rw [ld_agg agg40 cel40 A.has (by simp [suC])]; rfl
structure VwAt (m : H) (i : Nat) (v : Vw) : Prop where
  has : Has m i (.cells (vwC v) false)
theorem VwAt.ext (A : VwAt m i v) (E : Ext m m') : VwAt m' i v := ⟨A.has.ext E⟩
theorem VwAt.l0 (A : VwAt m i v) : ldV P30 3 i 0 m = some (.int .i64 v.now) := ld_at agg3 A.has
theorem VwAt.l1 (A : VwAt m i v) : ldV P30 4 i 1 m = some (.bool v.killed) := ld_at agg4 A.has
theorem VwAt.l2 (A : VwAt m i v) : ldV P30 42 i 2 m = some (.slice v.pa v.ps.length v.pt) := ld_at agg42 A.has
theorem VwAt.l3 (A : VwAt m i v) : ldV P30 28 i 3 m = some (.slice v.ua v.used.length v.ut) := ld_at agg28 A.has
theorem VwAt.l4 (A : VwAt m i v) : ldV P30 28 i 4 m = some (.slice v.ra v.real.length v.rt) := ld_at agg28 A.has
theorem VwAt.l5 (A : VwAt m i v) : ldV P30 28 i 5 m = some (.slice v.ha v.held.length v.ht) := ld_at agg28 A.has
theorem VwAt.l6 (A : VwAt m i v) : ldV P30 28 i 6 m = some (.slice v.fa v.faults.length v.ft) := ld_at agg28 A.has
theorem VwAt.whole (A : VwAt m i v) : ldV P30 44 i 0 m = some (vwV v) := by rw [ld_agg agg44 cel44 A.has (by simp [vwC])]; rfl
theorem PrAt.r16 (A : PrAt m i p) : ldV P30 73 i 16 m = some (.slice p.ka p.kids.length p.kt) := ld_at agg73 A.has

/-- Accounts' names. -/
theorem c_names (S : SuIn h s) (SF : SuFew s) (hr : 1000000 ≤ r) : Gives (ev30 r (n + 2) 59 [suV s] h) fun y h' => Ext h h' ∧ ∃ a st, y = .slice a s.ac.length st ∧ Ss h' a st (s.ac.map (·.1)) := by
  unfold suV
  rw [e59]
  obtain ⟨m, hm, E, HX⟩ := new_row h (suC s)
  unfold suC at hm
  rw [hm]
  have A : SuAt m h.next s := ⟨HX⟩
  have SF1 := SF.ac
  obtain ⟨et, hu, hc⟩ := und36'
  refine Gives.jump (Q := fun x env hh => x = .ret ∧ Ext h hh ∧ ∃ a st, env = E59_r (.slice a s.ac.length st) ∧ Ss hh a st (s.ac.map (·.1))) ?_ (by rintro x env h' ⟨rfl, E, a, st, rfl, hs⟩; rw [e59_3r]; exact .mk ⟨E, a, st, rfl, hs⟩)
  rw [e59_3c]
  obtain ⟨⟨a3, s3⟩, m3, ⟨E3, X3⟩, e⟩ := loop_run (P := P30) (call := ev30 r (n + 0)) (jmp := jmp30 r (n + 0) 59) (dead := dead30 59) (rounds := r) (c := 0) (code := pc [1, 1, 0, 1, 0, 0] (bd Tryz.f59)) (d := dead30 59 (4 * 0)) (d' := dead30 59 (4 * 0 + 2)) (dr := dead30 59 1000002) (σ := Option Addr × Nat) s.ac.length
    (fun j x hj => Ext m hj ∧ Acc (fun w => [Value.string (txt w)]) 1 m hj x.1 x.2 ((s.ac.take j).map (·.1)))
    (fun j x => E59_0 (.pointer (some ⟨h.next, 0, none⟩)) (.slice x.1 j x.2) (.int .i64 (j : Int))) (xT := .exit 0)
    (envT := fun x => E59_2 (.slice x.1 s.ac.length x.2)) (s0 := (none, 0)) (h := m) (fun j ⟨a3, s3⟩ hj hlt2 ⟨E3, X3⟩ => by
      simp only at X3 ⊢
      have hget2 : s.ac[j]? = some s.ac[j] := List.getElem?_eq_getElem hlt2
      have htk : s.ac.take (j + 1) = s.ac.take j ++ [s.ac[j]] := by rw [List.take_add_one, hget2]; rfl
      generalize s.ac[j] = x at hget2 htk
      have n5 : ((s.ac.take j).map (·.1)).length = j := by simp; omega
      have hk2 : decide ((j : Int) < (s.ac.length : Int)) = true := decide_eq_true (by omega)
      obtain ⟨b5, m5, q5, P5⟩ := X3.push (P := P30) (x := x.1) E3 rfl app83 (by omega) (by rw [n5]; omega)
      rw [n5] at q5
      refine ⟨(b5, 1), m5, ⟨P5.ext, by rw [htk, List.map_append]; exact P5.acc⟩, fun {R} nx K => ?_⟩
      show evCode P30 (ev30 r n) (jmp30 r n 59) (dead30 59) r 0 (pc [1, 1, 0, 1, 0, 0] (bd Tryz.f59)) (E59_0 (.pointer (some ⟨h.next, 0, none⟩)) (.slice a3 j s3) (.int .i64 (j : Int))) hj (loopK nx (dead30 59 (4 * 0)) (dead30 59 (4 * 0 + 2)) (dead30 59 1000002) K) = _
      rw [e59_0, (A.ext E3).l0, optK_mk, castSl_mk, hk2, cond_true, optK_mk, castSl_mk, (S.ac.ext (E.trans E3)).readf (P := P30) (f := 0) hu hc agg9 hget2 rfl, castS_mk, q5, castSl_mk, wrap_succ (by omega)])
    (fun x hj ⟨E3, _⟩ {R} nx K => by
      show evCode P30 (ev30 r n) (jmp30 r n 59) (dead30 59) r 0 (pc [1, 1, 0, 1, 0, 0] (bd Tryz.f59)) (E59_0 (.pointer (some ⟨h.next, 0, none⟩)) (.slice x.1 s.ac.length x.2) (.int .i64 (s.ac.length : Int))) hj (loopK nx (dead30 59 (4 * 0)) (dead30 59 (4 * 0 + 2)) (dead30 59 1000002) K) = _
      rw [e59_0, (A.ext E3).l0, optK_mk, castSl_mk, decide_eq_false (by omega), cond_false]) ⟨.refl _, .nil _ _⟩ (r := r) (by omega)
  rw [show ((0 : Nat) : Int) = 0 from rfl] at e
  simp only [Nat.add_zero] at X3 e
  rw [List.take_length] at X3
  rw [e, e59_0x0]
  exact .mk ⟨rfl, E.trans E3, _, _, rfl, X3.sl⟩

theorem c_refsize (F : VwFit v) (V : VwIn h v) (hr : 1000000 ≤ r) : Gives (ev30 r (n + 4) 28 [suV s, vwV v] h) fun y h' => y = .bool (sizeOk s v) ∧ Ext h h' := by
  unfold suV vwV
  rw [e28]
  obtain ⟨m0, hm0, E0, H0⟩ := new_row h (suC s)
  obtain ⟨m, hm, E1, H1⟩ := new_row m0 (vwC v)
  have hn : h.next + 1 = m0.next := by rw [← hm0]; rfl
  rw [hn]
  unfold suC at hm0
  unfold vwC at hm
  rw [hm0, hm]
  have E := E0.trans E1
  have A : SuAt m h.next s := ⟨H0.ext E1⟩
  have B : VwAt m m0.next v := ⟨H1⟩
  have V2 := V.ext E
  obtain ⟨_, _, _, f1, f2, f3, f4, f5⟩ := F
  have q1 := c_low (r := r) (n := n) V2.used (by omega) hr
  have q2 := c_low (r := r) (n := n) V2.real (by omega) hr
  have q3 := c_low (r := r) (n := n) V2.held (by omega) hr
  have q4 := c_low (r := r) (n := n) V2.faults (by omega) hr
  refine Gives.jump (Q := fun x env hh => x = .ret ∧ env = E28_r (.bool (sizeOk s v)) ∧ Ext h hh) ?_ (by rintro x env h' ⟨rfl, rfl, E⟩; rw [e28_3r]; exact .mk ⟨rfl, E⟩)
  have no : ∀ b : Bool, b = false → sizeOk s v = b → GivesX (some (Exit.ret, E28_r (Value.bool false), m)) fun x env hh => x = .ret ∧ env = E28_r (.bool (sizeOk s v)) ∧ Ext h hh := fun b hb hs => by rw [hs, hb]; exact .mk ⟨rfl, rfl, E⟩
  rw [e28_3c, B.l3, optK_mk, castSl_mk, A.l0, optK_mk, castSl_mk]
  by_cases g1 : v.used.length = s.ac.length
  rotate_left
  · rw [neI g1, cond_true]; exact no _ rfl (by unfold sizeOk; rw [decide_eq_false (by omega)]; rfl)
  rw [eqI g1, cond_false, B.l4, optK_mk, castSl_mk, optK_mk, castSl_mk]
  by_cases g2 : v.real.length = s.ac.length
  rotate_left
  · rw [neI g2, cond_true]; exact no _ rfl (by unfold sizeOk; rw [decide_eq_false (by omega)]; rfl)
  rw [eqI g2, cond_false, B.l6, optK_mk, castSl_mk, A.l2, optK_mk, castSl_mk]
  by_cases g3 : v.faults.length = s.ve.length
  rotate_left
  · rw [neI g3, cond_true]; exact no _ rfl (by unfold sizeOk; rw [decide_eq_false (by omega)]; rfl)
  rw [eqI g3, cond_false, B.l5, optK_mk, castSl_mk, B.l2, optK_mk, castSl_mk]
  by_cases g4 : v.held.length = v.ps.length
  rotate_left
  · rw [neI g4, cond_true]; exact no _ rfl (by unfold sizeOk; rw [decide_eq_false (by omega)]; rfl)
  rw [eqI g4, cond_false, optK_mk, castSl_mk, A.l3, optK_mk, castI_mk]
  by_cases g5 : (v.ps.length : Int) > s.z3
  · rw [decide_eq_true g5, cond_true]; exact no _ rfl (by unfold sizeOk; rw [decide_eq_false (by omega)]; rfl)
  rw [decide_eq_false g5, cond_false]
  refine GivesX.jump (Q := fun x env hh => x = .ret ∧ env = E28_r (.bool (sizeOk s v)) ∧ Ext h hh) ?_ (by rintro x env h' ⟨rfl, rfl, E⟩; rw [e28_7r]; exact .mk ⟨rfl, rfl, E⟩)
  rw [e28_7c, B.l0, optK_mk, castI_mk]
  by_cases g6 : v.now ≥ 0
  rotate_left
  · rw [decide_eq_false g6, cond_false]; exact no _ rfl (by unfold sizeOk; rw [decide_eq_false (by omega)]; rfl)
  rw [decide_eq_true g6, cond_true, optK_mk, castI_mk]
  by_cases g7 : v.now ≤ 1099511627776
  rotate_left
  · rw [decide_eq_false g7, cond_false]; exact no _ rfl (by unfold sizeOk; rw [decide_eq_false (by omega)]; rfl)
  have key : sizeOk s v = (atLeast 0 v.used && atLeast 0 v.real && atLeast 0 v.held && atLeast 0 v.faults) := by unfold sizeOk; rw [decide_eq_true (by omega)]; rfl
  rw [decide_eq_true g7, cond_true, B.l3, optK_mk, castSl_mk, callK_mk q1, castV_mk, Bool.not_not]
  cases c1 : atLeast 0 v.used with
  | false => rw [cond_false]; exact no _ rfl (by rw [key, c1]; rfl)
  | true =>
  rw [cond_true, B.l4, optK_mk, castSl_mk, callK_mk q2, castV_mk, Bool.not_not]
  cases c2 : atLeast 0 v.real with
  | false => rw [cond_false]; exact no _ rfl (by rw [key, c1, c2]; rfl)
  | true =>
  rw [cond_true, B.l5, optK_mk, castSl_mk, callK_mk q3, castV_mk, Bool.not_not]
  cases c3 : atLeast 0 v.held with
  | false => rw [cond_false]; exact no _ rfl (by rw [key, c1, c2, c3]; rfl)
  | true =>
  rw [cond_true, B.l6, optK_mk, castSl_mk, callK_mk q4, castV_mk, Bool.not_not]
  exact .mk ⟨rfl, by rw [key, c1, c2, c3]; rfl, E⟩
end
end Go.Ev
