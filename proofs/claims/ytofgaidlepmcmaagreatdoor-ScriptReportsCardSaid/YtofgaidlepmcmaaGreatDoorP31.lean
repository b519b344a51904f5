/-
  ScriptReports: a view's, a parent's, a child's row; few.
-/
import Derived.Test.YtofgaidlepmcmaaGreatDoorO31
namespace Go.Ev
open Go Go.Proofs

section
variable {r n : Nat} {h h0 m m' : H} {i : Nat} {v : Vw} {p : Pr} {c : Kid}
structure VwAt (m : H) (i : Nat) (v : Vw) : Prop where
  has : Has m i (.cells (vwC v) false)
theorem VwAt.ext (A : VwAt m i v) (E : Ext m m') : VwAt m' i v := ⟨A.has.ext E⟩
theorem VwAt.l0 (A : VwAt m i v) : ldV P31 3 i 0 m = some (.int .i64 v.now) := ld_at agg3 A.has
theorem VwAt.l1 (A : VwAt m i v) : ldV P31 4 i 1 m = some (.bool v.killed) := ld_at agg4 A.has
theorem VwAt.l2 (A : VwAt m i v) : ldV P31 22 i 2 m = some (.slice v.pa v.ps.length v.pt) := ld_at agg22 A.has
theorem VwAt.r2 (A : VwAt m i v) : ldV P31 58 i 2 m = some (.slice v.pa v.ps.length v.pt) := ld_at agg58 A.has
theorem VwAt.l3 (A : VwAt m i v) : ldV P31 23 i 3 m = some (.slice v.ua v.used.length v.ut) := ld_at agg23 A.has
theorem VwAt.l4 (A : VwAt m i v) : ldV P31 23 i 4 m = some (.slice v.ra v.real.length v.rt) := ld_at agg23 A.has
theorem VwAt.l5 (A : VwAt m i v) : ldV P31 23 i 5 m = some (.slice v.ha v.held.length v.ht) := ld_at agg23 A.has
theorem VwAt.l6 (A : VwAt m i v) : ldV P31 23 i 6 m = some (.slice v.fa v.faults.length v.ft) := ld_at agg23 A.has
theorem VwAt.whole (A : VwAt m i v) : ldV P31 25 i 0 m = some (vwV v) := by rw [ld_agg agg25 cel25 A.has (by simp [vwC])]; rfl
theorem VwAt.rwhole (A : VwAt m i v) : ldV P31 60 i 0 m = some (vwV v) := by rw [ld_agg agg60 cel60 A.has (by simp [vwC])]; rfl
structure PrAt (m : H) (i : Nat) (p : Pr) : Prop where
  has : Has m i (.cells (prC p) false)
theorem PrAt.ext (A : PrAt m i p) (E : Ext m m') : PrAt m' i p := ⟨A.has.ext E⟩
theorem PrAt.l0 (A : PrAt m i p) : ldV P31 9 i 0 m = some (.string (txt p.id)) := ld_at agg9 A.has
theorem PrAt.l1 (A : PrAt m i p) : ldV P31 9 i 1 m = some (.string (txt p.acc)) := ld_at agg9 A.has
theorem PrAt.l2 (A : PrAt m i p) : ldV P31 9 i 2 m = some (.string (txt p.sym)) := ld_at agg9 A.has
theorem PrAt.l3 (A : PrAt m i p) : ldV P31 3 i 3 m = some (.int .i64 p.side) := ld_at agg3 A.has
theorem PrAt.l4 (A : PrAt m i p) : ldV P31 3 i 4 m = some (.int .i64 p.state) := ld_at agg3 A.has
theorem PrAt.l5 (A : PrAt m i p) : ldV P31 3 i 5 m = some (.int .i64 p.algo) := ld_at agg3 A.has
theorem PrAt.l6 (A : PrAt m i p) : ldV P31 3 i 6 m = some (.int .i64 p.qty) := ld_at agg3 A.has
theorem PrAt.l7 (A : PrAt m i p) : ldV P31 3 i 7 m = some (.int .i64 p.price) := ld_at agg3 A.has
theorem PrAt.l8 (A : PrAt m i p) : ldV P31 3 i 8 m = some (.int .i64 p.start) := ld_at agg3 A.has
theorem PrAt.l9 (A : PrAt m i p) : ldV P31 3 i 9 m = some (.int .i64 p.stop) := ld_at agg3 A.has
theorem PrAt.l10 (A : PrAt m i p) : ldV P31 3 i 10 m = some (.int .i64 p.most) := ld_at agg3 A.has
theorem PrAt.l11 (A : PrAt m i p) : ldV P31 3 i 11 m = some (.int .i64 p.filled) := ld_at agg3 A.has
theorem PrAt.l12 (A : PrAt m i p) : ldV P31 3 i 12 m = some (.int .i64 p.busted) := ld_at agg3 A.has
theorem PrAt.l13 (A : PrAt m i p) : ldV P31 3 i 13 m = some (.int .i64 p.worth) := ld_at agg3 A.has
theorem PrAt.l14 (A : PrAt m i p) : ldV P31 3 i 14 m = some (.int .i64 p.claims) := ld_at agg3 A.has
theorem PrAt.l15 (A : PrAt m i p) : ldV P31 3 i 15 m = some (.int .i64 p.need) := ld_at agg3 A.has
theorem PrAt.l16 (A : PrAt m i p) : ldV P31 40 i 16 m = some (.slice p.ka p.kids.length p.kt) := ld_at agg40 A.has
theorem PrAt.r16 (A : PrAt m i p) : ldV P31 85 i 16 m = some (.slice p.ka p.kids.length p.kt) := ld_at agg85 A.has
theorem PrAt.rwhole (A : PrAt m i p) : ldV P31 87 i 0 m = some (.agg ⟨prC p⟩) := by rw [ld_agg agg87 cel87 A.has (by simp [prC])]; rfl
structure KidAt (m : H) (i : Nat) (c : Kid) : Prop where
  has : Has m i (.cells (kidC c) false)
theorem KidAt.ext (A : KidAt m i c) (E : Ext m m') : KidAt m' i c := ⟨A.has.ext E⟩
theorem KidAt.l0 (A : KidAt m i c) : ldV P31 9 i 0 m = some (.string (txt c.id)) := ld_at agg9 A.has
theorem KidAt.l1 (A : KidAt m i c) : ldV P31 9 i 1 m = some (.string (txt c.venue)) := ld_at agg9 A.has
theorem KidAt.l3 (A : KidAt m i c) : ldV P31 3 i 3 m = some (.int .i64 c.state) := ld_at agg3 A.has
theorem KidAt.l4 (A : KidAt m i c) : ldV P31 3 i 4 m = some (.int .i64 c.qty) := ld_at agg3 A.has
theorem KidAt.l5 (A : KidAt m i c) : ldV P31 3 i 5 m = some (.int .i64 c.price) := ld_at agg3 A.has
theorem KidAt.l8 (A : KidAt m i c) : ldV P31 3 i 8 m = some (.int .i64 c.cum) := ld_at agg3 A.has
theorem KidAt.l9 (A : KidAt m i c) : ldV P31 3 i 9 m = some (.int .i64 c.claim) := ld_at agg3 A.has
theorem KidAt.whole (A : KidAt m i c) : ldV P31 44 i 0 m = some (.agg ⟨kidC c⟩) := by rw [ld_agg agg44 cel44 A.has (by simp [kidC])]; rfl

theorem wrap_succ' {k : Nat} (h : k + 1 < 9223372036854775808) : IntKind.i64.wrap ((k : Int) + 1) = ((k + 1 : Nat) : Int) := by
  rw [wrap_id (by omega) (by omega)]; omega

def kidOk (c : Kid) : Bool := decide (¬ (((txt c.id).size : Int) > 100) ∧ ¬ (((txt c.venue).size : Int) > 100))
theorem few_kids {x1 x4 : Nat} {x8 : Option Addr} {x8n x8s : Nat} {x9 x10 : Int} (B : PrAt h x4 p) (KS : Ks h p.ka p.kt p.kids) (hl : p.kids.length ≤ 40) (hr : 1000000 ≤ r) :
    ∃ h', Ext h h' ∧ ((p.kids.all kidOk = true ∧ jmp31 r (n + 1) 5 1 (pc [1, 0, 1, 0, 0, 1, 1, 0, 0, 1, 1] (bd Tryz.f5)) (E5_13 (.pointer (some ⟨x1, 0, none⟩)) (.pointer (some ⟨x4, 0, none⟩)) (.slice x8 x8n x8s) (.int .i64 x9) (.int .i64 x10)) h = some (.normal, E5_0 (.pointer (some ⟨x1, 0, none⟩)) (.slice x8 x8n x8s) (.int .i64 x9) (.int .i64 x10), h')) ∨
      (p.kids.all kidOk = false ∧ jmp31 r (n + 1) 5 1 (pc [1, 0, 1, 0, 0, 1, 1, 0, 0, 1, 1] (bd Tryz.f5)) (E5_13 (.pointer (some ⟨x1, 0, none⟩)) (.pointer (some ⟨x4, 0, none⟩)) (.slice x8 x8n x8s) (.int .i64 x9) (.int .i64 x10)) h = some (.ret, E5_r (.bool false), h'))) := by
  obtain ⟨m, E, H⟩ := loop_all (P := P31) (call := ev31 r (n)) (jmp := jmp31 r (n) 5) (dead := dead31 5) (rounds := r) (c := 2) (code := pc [1, 0, 1, 0, 0, 1, 1, 0, 0, 1, 1, 1, 0, 0] (bd Tryz.f5)) (d := dead31 5 (4 * 2)) (d' := dead31 5 (4 * 2 + 2)) (dr := dead31 5 1000002) p.kids.length (fun k => (p.kids[k]?).elim true kidOk) (fun hh => Ext h hh)
    (fun k => E5_8 (.pointer (some ⟨x1, 0, none⟩)) (.slice x8 x8n x8s) (.int .i64 x9) (.int .i64 x10) (.slice p.ka p.kids.length p.kt) (.int .i64 (p.kids.length : Int)) (.int .i64 (k : Int))) (xT := .exit 2) (xF := .ret)
    (envT := E5_0 (.pointer (some ⟨x1, 0, none⟩)) (.slice x8 x8n x8s) (.int .i64 x9) (.int .i64 x10)) (envF := E5_r (.bool false)) (h := h) (fun k hh hlt E1 => by
      have hget : p.kids[k]? = some p.kids[k] := List.getElem?_eq_getElem hlt
      generalize p.kids[k] = c at hget
      simp only [hget, Option.elim]
      obtain ⟨m2, hm2, E2, H2⟩ := new_row hh (kidC c)
      have C : KidAt m2 hh.next c := ⟨H2⟩
      have hk : decide ((k : Int) < (p.kids.length : Int)) = true := decide_eq_true (by omega)
      refine ⟨m2, E1.trans E2, ?_⟩
      by_cases g1 : ((txt c.id).size : Int) > 100
      · refine .inr ⟨decide_eq_false (fun h => h.1 g1), fun {R} nx K => ?_⟩
        rw [e5_8, hk, cond_true, (KS.ext E1).row (P := P31) und40 cel44 agg44 (by omega) hget rfl rfl, hm2, C.l0, optK_mk, castS_mk, decide_eq_true g1, cond_true]
      by_cases g2 : ((txt c.venue).size : Int) > 100
      · refine .inr ⟨decide_eq_false (fun h => h.2 g2), fun {R} nx K => ?_⟩
        rw [e5_8, hk, cond_true, (KS.ext E1).row (P := P31) und40 cel44 agg44 (by omega) hget rfl rfl, hm2, C.l0, optK_mk, castS_mk, decide_eq_false g1, cond_false, C.l1, optK_mk, castS_mk, decide_eq_true g2, cond_true]
      · refine .inl ⟨decide_eq_true ⟨g1, g2⟩, fun {R} nx K => ?_⟩
        rw [e5_8, hk, cond_true, (KS.ext E1).row (P := P31) und40 cel44 agg44 (by omega) hget rfl rfl, hm2, C.l0, optK_mk, castS_mk, decide_eq_false g1, cond_false, C.l1, optK_mk, castS_mk, decide_eq_false g2, cond_false, wrap_succ (by omega)])
    (fun hh _ {R} nx K => by rw [e5_8, decide_eq_false (by omega), cond_false]) (.refl h) (r := r) (by omega)
  rw [allN_list] at H
  rw [show ((0 : Nat) : Int) = 0 from rfl] at H
  rw [e5_13c, B.l16, optK_mk, castSl_mk]
  rcases H with ⟨h1, e⟩ | ⟨h1, e⟩
  · exact ⟨m, E, .inl ⟨h1, by rw [e, e5_8x2]⟩⟩
  · exact ⟨m, E, .inr ⟨h1, by rw [e, e5_8r]⟩⟩

def parOk (p : Pr) : Bool := decide (¬ (((txt p.id).size : Int) > 100) ∧ ¬ ((p.kids.length : Int) > 40)) && p.kids.all kidOk
theorem c_few (V : VwIn h v) (hl : v.ps.length < 9223372036854775808) (hr : 9223372036854775808 ≤ r) : Gives (ev31 r (n + 2) 5 [vwV v] h) fun y h' => Ext h h' ∧ ∃ b, y = .bool b ∧ (b = true → VwFew v) := by
  unfold vwV
  rw [e5]
  obtain ⟨m, hm, E, HX⟩ := new_row h (vwC v)
  have A : VwAt m h.next v := ⟨HX⟩
  unfold vwC at hm
  rw [hm]
  have V1 := V.ext E
  rw [A.l2, optK_mk, castSl_mk]
  refine Gives.all v.ps.length (fun k => (v.ps[k]?).elim true parOk) (fun hh => Ext m hh)
    (fun k => E5_0 (.pointer (some ⟨h.next, 0, none⟩)) (.slice v.pa v.ps.length v.pt) (.int .i64 (v.ps.length : Int)) (.int .i64 (k : Int))) (xT := .exit 0) (xF := .ret)
    (envT := E5_2 (.pointer (some ⟨h.next, 0, none⟩))) (envF := E5_r (.bool false)) (fun k hh hlt E1 => ?_) (fun hh _ {R} nx K => by rw [e5_0, decide_eq_false (by omega), cond_false]) (.refl m) (by omega) (fun hh E1 ha => ?_) (fun hh E1 _ => by rw [e5_0r]; exact .mk ⟨E.trans E1, false, rfl, fun h => by cases h⟩)
  · have hget : v.ps[k]? = some v.ps[k] := List.getElem?_eq_getElem hlt
    have hmem : v.ps[k] ∈ v.ps := List.getElem_mem hlt
    generalize v.ps[k] = p at hget hmem
    simp only [hget, Option.elim]
    obtain ⟨m2, hm2, E2, H2⟩ := new_row hh (prC p)
    have B : PrAt m2 hh.next p := ⟨H2⟩
    have hk : decide ((k : Int) < (v.ps.length : Int)) = true := decide_eq_true (by omega)
    by_cases g1 : ((txt p.id).size : Int) > 100
    · refine ⟨m2, E1.trans E2, .inr ⟨by unfold parOk; rw [decide_eq_false (fun h => h.1 g1)]; rfl, fun {R} nx K => ?_⟩⟩
      rw [e5_0, hk, cond_true, (V1.ps.ext E1).row (P := P31) und22 cel42 agg42 (by omega) hget rfl rfl, hm2, B.l0, optK_mk, castS_mk, decide_eq_true g1, cond_true]
    by_cases g2 : (p.kids.length : Int) > 40
    · refine ⟨m2, E1.trans E2, .inr ⟨by unfold parOk; rw [decide_eq_false (fun h => h.2 g2)]; rfl, fun {R} nx K => ?_⟩⟩
      rw [e5_0, hk, cond_true, (V1.ps.ext E1).row (P := P31) und22 cel42 agg42 (by omega) hget rfl rfl, hm2, B.l0, optK_mk, castS_mk, decide_eq_false g1, cond_false, B.l16, optK_mk, castSl_mk, decide_eq_true g2, cond_true]
    obtain ⟨m3, E3, ⟨h1, e⟩ | ⟨h1, e⟩⟩ := few_kids (n := n) (x1 := h.next) (x8 := v.pa) (x8n := v.ps.length) (x8s := v.pt) (x9 := (v.ps.length : Int)) (x10 := (k : Int)) B ((V1.kids p hmem).ext (E1.trans E2)) (by omega) (by omega : 1000000 ≤ r)
    · refine ⟨m3, (E1.trans E2).trans E3, .inl ⟨by unfold parOk; rw [decide_eq_true ⟨g1, g2⟩, h1]; rfl, fun {R} nx K => ?_⟩⟩
      rw [e5_0, hk, cond_true, (V1.ps.ext E1).row (P := P31) und22 cel42 agg42 (by omega) hget rfl rfl, hm2, B.l0, optK_mk, castS_mk, decide_eq_false g1, cond_false, B.l16, optK_mk, castSl_mk, decide_eq_false g2, cond_false, jumpK_mk e, e5_13n, wrap_succ' (k := k) (by omega)]
    · refine ⟨m3, (E1.trans E2).trans E3, .inr ⟨by unfold parOk; rw [decide_eq_true ⟨g1, g2⟩, h1]; rfl, fun {R} nx K => ?_⟩⟩
      rw [e5_0, hk, cond_true, (V1.ps.ext E1).row (P := P31) und22 cel42 agg42 (by omega) hget rfl rfl, hm2, B.l0, optK_mk, castS_mk, decide_eq_false g1, cond_false, B.l16, optK_mk, castSl_mk, decide_eq_false g2, cond_false, jumpK_mk e, e5_13r]
  · have A1 := A.ext E1
    have no : Gives (some (Value.bool false, hh)) fun y h' => Ext h h' ∧ ∃ b, y = .bool b ∧ (b = true → VwFew v) := .mk ⟨E.trans E1, false, rfl, fun h => by cases h⟩
    rw [e5_0x0, A1.l2, optK_mk, castSl_mk]
    by_cases g1 : (v.ps.length : Int) ≤ 30
    · rw [decide_eq_true g1, cond_true, A1.l3, optK_mk, castSl_mk]
      by_cases g2 : (v.used.length : Int) ≤ 60
      · rw [decide_eq_true g2, cond_true, A1.l6, optK_mk, castSl_mk]
        refine .mk ⟨E.trans E1, _, rfl, fun hb => ?_⟩
        have g3 := of_decide_eq_true hb
        rw [allN_list] at ha
        refine ⟨fun p hp => ?_, by omega, by omega, by omega⟩
        have hq := List.all_eq_true.1 ha p hp
        unfold parOk at hq
        rw [Bool.and_eq_true] at hq
        have h1 := of_decide_eq_true hq.1
        rw [txt_size] at h1
        refine ⟨by omega, by omega, fun c hc => ?_⟩
        have h2 := of_decide_eq_true (List.all_eq_true.1 hq.2 c hc)
        rw [txt_size, txt_size] at h2
        omega
      · rw [decide_eq_false g2, cond_false]; exact no
    · rw [decide_eq_false g1, cond_false]; exact no
end
end Go.Ev
