/-
  ScriptReports: the program's report, its loops.
-/
import Derived.Test.YtofgaidlepmcmaaGreatDoorR31
namespace Go.Ev
open Go Go.Proofs

section
variable {r n : Nat} {h h0 m m' : H} {i x1 : Nat} {v : Vw} {p : Pr} {c : Kid}
/-- What holds between two steps. -/
structure RepAt (h0 : H) (x1 i : Nat) (v : Vw) (bs : List UInt8) (h : H) : Prop where
  ext : Ext h0 h
  vw : VwAt h x1 v
  bld : BldAt h0 h i bs

theorem kids_run {bs : List UInt8} {x27 : Option Addr} {x27n x27s : Nat} {x28 x29 : Int} (A : RepAt h0 x1 i v bs h) (KS : Ks h p.ka p.kt p.kids) (hf : ∀ c ∈ p.kids, KidFit c) (pf : PrFew p) (hl : bs.length ≤ 10000000000) (hr : 1000000 ≤ r) :
    ∃ m, RepAt h0 x1 i v (bs ++ kidsT p p.kids.length) m ∧ ∀ {R : Type} (K : Exit → Env → H → Option R),
      evLoop (evCode P31 (ev31 r (n + 2)) (jmp31 r (n + 2) 6) (dead31 6) r 2 (pc [1, 1, 1, 0, 1, 0, 0, 1, 1, 0, 0, 1, 1, 1, 0, 0] (bd Tryz.f6))) (dead31 6 (4 * 2)) (dead31 6 (4 * 2 + 2)) (dead31 6 1000002) r
        (E6_8 (.pointer (some ⟨x1, 0, none⟩)) (.pointer (some ⟨i, 0, none⟩)) (.slice x27 x27n x27s) (.int .i64 x28) (.int .i64 x29) (.slice p.ka p.kids.length p.kt) (.int .i64 (p.kids.length : Int)) (.int .i64 0)) h K = K (.exit 2) (E6_0 (.pointer (some ⟨x1, 0, none⟩)) (.pointer (some ⟨i, 0, none⟩)) (.slice x27 x27n x27s) (.int .i64 x28) (.int .i64 x29)) m := by
  have hk40 := pf.few
  obtain ⟨_, m, A', e⟩ := loop_run (P := P31) (call := ev31 r (n + 2)) (jmp := jmp31 r (n + 2) 6) (dead := dead31 6) (rounds := r) (c := 2) (code := pc [1, 1, 1, 0, 1, 0, 0, 1, 1, 0, 0, 1, 1, 1, 0, 0] (bd Tryz.f6)) (d := dead31 6 (4 * 2)) (d' := dead31 6 (4 * 2 + 2)) (dr := dead31 6 1000002) (σ := Unit) p.kids.length
    (fun j _ hh => RepAt h0 x1 i v (bs ++ kidsT p j) hh ∧ Ks hh p.ka p.kt p.kids)
    (fun j _ => E6_8 (.pointer (some ⟨x1, 0, none⟩)) (.pointer (some ⟨i, 0, none⟩)) (.slice x27 x27n x27s) (.int .i64 x28) (.int .i64 x29) (.slice p.ka p.kids.length p.kt) (.int .i64 (p.kids.length : Int)) (.int .i64 (j : Int))) (xT := .exit 2)
    (envT := fun _ => E6_0 (.pointer (some ⟨x1, 0, none⟩)) (.pointer (some ⟨i, 0, none⟩)) (.slice x27 x27n x27s) (.int .i64 x28) (.int .i64 x29)) (s0 := ()) (h := h) (fun j _ hh hlt ⟨A1, K1⟩ => by
      have hget : p.kids[j]? = some p.kids[j] := List.getElem?_eq_getElem hlt
      have htk : p.kids.take (j + 1) = p.kids.take j ++ [p.kids[j]] := by rw [List.take_add_one, hget]; rfl
      have hmem : p.kids[j] ∈ p.kids := List.getElem_mem hlt
      generalize p.kids[j] = c at hget htk hmem
      obtain ⟨g1, g2⟩ := pf.kids c hmem
      have hkl := kidsT_len pf j
      obtain ⟨m, E, B, F, e⟩ := kid_step (r := r) (n := n) (x1 := x1) (x27 := x27) (x27n := x27n) (x27s := x27s) (x28 := x28) (x29 := x29) A1.ext A1.bld K1 hget (hf c hmem) g1 g2 hk40 (by rw [List.length_append]; omega) hr
      have hkt : bs ++ kidsT p (j + 1) = bs ++ kidsT p j ++ kidT c := by unfold kidsT; rw [htk]; simp
      refine ⟨(), m, ⟨⟨E, ⟨F _ _ _ A1.vw.has⟩, by rw [hkt]; exact B⟩, ?_⟩, e⟩
      rcases K1 with h1 | ⟨h1, a, o, h2, h3⟩
      · exact .inl h1
      · refine .inr ⟨h1, a, o, h2, fun q x hx => ?_⟩
        obtain ⟨cs, ro, h4, h5⟩ := h3 q x hx
        exact ⟨cs, ro, F _ _ _ h4, h5⟩)
    (fun _ hh _ {R} nx K => by rw [e6_8, decide_eq_false (by omega), cond_false]) ⟨by simpa [kidsT] using A, KS⟩ (r := r) (by omega)
  rw [show ((0 : Nat) : Int) = 0 from rfl] at e
  exact ⟨m, A'.1, e⟩

theorem par_step {bs : List UInt8} {k : Nat} (A : RepAt h0 x1 i v bs h) (V : VwIn h0 v) (VI : VwInts v) (VF : VwFew v) (hget : v.ps[k]? = some p) (hl : bs.length ≤ 1000000000) (hr : 1000000 ≤ r) :
    ∃ m, RepAt h0 x1 i v (bs ++ (parT p (atL v.held k) ++ kidsT p p.kids.length)) m ∧ ∀ {R : Type} (nx : Env → H → Option R) (K : Exit → Env → H → Option R),
      evCode P31 (ev31 r (n + 2)) (jmp31 r (n + 2) 6) (dead31 6) r 0 (pc [1, 1, 1, 0, 1, 0, 0] (bd Tryz.f6)) (E6_0 (.pointer (some ⟨x1, 0, none⟩)) (.pointer (some ⟨i, 0, none⟩)) (.slice v.pa v.ps.length v.pt) (.int .i64 (v.ps.length : Int)) (.int .i64 (k : Int))) h (loopK nx (dead31 6 (4 * 0)) (dead31 6 (4 * 0 + 2)) (dead31 6 1000002) K) =
      nx (E6_0 (.pointer (some ⟨x1, 0, none⟩)) (.pointer (some ⟨i, 0, none⟩)) (.slice v.pa v.ps.length v.pt) (.int .i64 (v.ps.length : Int)) (.int .i64 ((k + 1 : Nat) : Int))) m := by
  have hk : k < v.ps.length := (List.getElem?_eq_some_iff.1 hget).1
  have hmem := List.mem_of_getElem? hget
  have hl30 := VF.few
  have PI := VI.ps p hmem
  have PF := VF.ps p hmem
  obtain ⟨m2, hm2, E2, H2⟩ := new_row h (prC p)
  have C : PrAt m2 h.next p := ⟨H2⟩
  have VW := A.vw.ext E2
  have E02 := A.ext.trans E2
  have fh := atL_fits VI.held k
  obtain ⟨m6, m7, q6, q7, E7, B7, F7⟩ := c_rw (r := r) (n := n) (ws := [[112, 97, 114, 101, 110, 116], p.id]) (zs := [p.state, p.qty, p.price, p.most, p.filled, p.busted, p.worth, p.claims, p.need, atL v.held k]) E02 (A.bld.ext E2) (by simp)
    (fun z hz => by
      simp only [List.mem_cons, List.not_mem_nil, or_false] at hz
      rcases hz with rfl | rfl | rfl | rfl | rfl | rfl | rfl | rfl | rfl | rfl
      · exact PI.state
      · exact PI.qty
      · exact PI.price
      · exact PI.most
      · exact PI.filled
      · exact PI.busted
      · exact PI.worth
      · exact PI.claims
      · exact PI.need
      · exact fh)
    (fun w hw => by
      simp only [List.mem_cons, List.not_mem_nil, or_false] at hw
      rcases hw with rfl | rfl
      · simp
      · exact PF.id) (by simp) (by simp) (by omega) hr
  have ht : rowT (joined [32] [[112, 97, 114, 101, 110, 116], p.id]) [p.state, p.qty, p.price, p.most, p.filled, p.busted, p.worth, p.claims, p.need, atL v.held k] = parT p (atL v.held k) := by
    rw [joined2]; unfold parT; simp
  rw [ht] at q6 q7 B7
  have A7 : RepAt h0 x1 i v (bs ++ parT p (atL v.held k)) m7 := ⟨E7, ⟨F7 _ _ _ VW.has⟩, B7⟩
  have C7 : PrAt m7 h.next p := ⟨F7 _ _ _ H2⟩
  have hpl := parT_len PF (atL v.held k)
  obtain ⟨m8, A8, e8⟩ := kids_run (n := n) (r := r) (x27 := v.pa) (x27n := v.ps.length) (x27s := v.pt) (x28 := (v.ps.length : Int)) (x29 := (k : Int)) A7 ((V.kids p hmem).ext E7) PI.kids PF (by rw [List.length_append]; omega) hr
  refine ⟨m8, by rw [← List.append_assoc]; exact A8, fun {R} nx K => ?_⟩
  rw [e6_0, decide_eq_true (by omega), cond_true, (V.ps.ext A.ext).row (P := P31) und22 cel42 agg42 (by omega) hget rfl rfl, hm2, VW.l5, optK_mk, castSl_mk, callK_mk (c_at (V.held.ext E02) k), castI_mk,
    C.l0, optK_mk, castS_mk, same_str C.l0, cond_true, C.l4, optK_mk, castI_mk, same_int C.l4, cond_true, C.l6, optK_mk, castI_mk, same_int C.l6, cond_true, C.l7, optK_mk, castI_mk, same_int C.l7, cond_true,
    C.l10, optK_mk, castI_mk, same_int C.l10, cond_true, C.l11, optK_mk, castI_mk, same_int C.l11, cond_true, C.l12, optK_mk, castI_mk, same_int C.l12, cond_true, C.l13, optK_mk, castI_mk, same_int C.l13, cond_true,
    C.l14, optK_mk, castI_mk, same_int C.l14, cond_true, C.l15, optK_mk, castI_mk, same_int C.l15, cond_true]
  erw [callK_mk q6]
  rw [castS_mk, callK_mk q7, castTup_mk, headK_mk, castI_mk, headK_mk, nilK_mk, C7.l16, optK_mk, castSl_mk, e8, e6_8x2, wrap_succ (by omega)]
end
end Go.Ev
