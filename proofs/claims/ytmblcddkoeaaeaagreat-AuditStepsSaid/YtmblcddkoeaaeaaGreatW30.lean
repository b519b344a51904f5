/-
  Audit: a view, copied for the reference.
-/
import Derived.Test.YtmblcddkoeaaeaaGreatV30
namespace Go.Ev
open Go Go.Proofs

/-- A parent without its addresses. -/
def strip (p : Pr) : Pr := { p with ka := none, kt := 0 }
structure VwLike (v v' : Vw) : Prop where
  now : v'.now = v.now
  killed : v'.killed = v.killed
  used : v'.used = v.used
  real : v'.real = v.real
  held : v'.held = v.held
  faults : v'.faults = v.faults
  ps : v'.ps.map strip = v.ps.map strip
theorem VwLike.len {v v' : Vw} (L : VwLike v v') : v'.ps.length = v.ps.length := by have := congrArg List.length L.ps; simpa using this

section
variable {r n : Nat} {h m m' : H} {s : Su} {v : Vw} {p : Pr}

theorem c_plainV (V : VwIn h v) (VF : VwFit v) (hr : 1000000 ≤ r) : Gives (ev30 r (n + 2) 11 [vwV v] h) fun y h' => Ext h h' ∧ ∃ v', y = vwV v' ∧ VwIn h' v' ∧ VwLike v v' := by
  unfold vwV
  rw [e11]
  obtain ⟨m0, hm0, E0, H0⟩ := new_row h (vwC v)
  obtain ⟨m1, hm1, E1, H1⟩ := new_row m0 [Value.int .i64 0, Value.bool false, Value.slice none 0 0, Value.slice none 0 0, Value.slice none 0 0, Value.slice none 0 0, Value.slice none 0 0]
  have hn : h.next + 1 = m0.next := by rw [← hm0]; rfl
  have hn1 : m1.next = h.next + 2 := by rw [← hm1, ← hm0]; rfl
  unfold vwC at hm0
  rw [hm0, hm1]
  rw [← hn] at H1
  have A1 : VwAt m1 h.next v := ⟨H0.ext E1⟩
  have E01 := E0.trans E1
  refine Gives.jump (Q := fun x env hh => x = .ret ∧ env = E11_r (.pointer (some ⟨h.next + 1, 0, none⟩)) ∧ Ext h hh ∧ ∃ v', Has hh (h.next + 1) (.cells (vwC v') false) ∧ VwIn hh v' ∧ VwLike v v') ?_ (by
    rintro x env h' ⟨rfl, rfl, E2, v', H2, V2, L⟩
    rw [e11_3r, ld_agg agg44 cel44 H2 (by simp [vwC]), optK_mk]
    exact .mk ⟨E2, v', rfl, V2, L⟩)
  rw [e11_3c, A1.l0, optK_mk, castI_mk, A1.l1, optK_mk, castV_mk, A1.l3, optK_mk, castSl_mk, A1.l4, optK_mk, castSl_mk, A1.l5, optK_mk, castSl_mk, A1.l6, optK_mk, castSl_mk]
  rw [st_new (zs := [Value.int .i64 0, Value.bool false, Value.slice none 0 0, Value.slice none 0 0, Value.slice none 0 0, Value.slice none 0 0, Value.slice none 0 0]) (cs := [.int .i64 v.now, .bool v.killed, .slice none 0 0, .slice v.ua v.used.length v.ut, .slice v.ra v.real.length v.rt, .slice v.ha v.held.length v.ht, .slice v.fa v.faults.length v.ft]) rfl, optK_mk]
  obtain ⟨m2, hm2, E2, H2⟩ := new_row m1 [.int .i64 v.now, .bool v.killed, .slice none 0 0, .slice v.ua v.used.length v.ut, .slice v.ra v.real.length v.rt, .slice v.ha v.held.length v.ht, .slice v.fa v.faults.length v.ft]
  rw [hm2]
  have hx3 : m1.next = h.next + 2 := hn1
  have E02 := E01.trans E2
  have l2 : ldV P30 27 h.next 2 m2 = some (.slice v.pa v.ps.length v.pt) := ld_at agg27 (A1.has.ext E2)
  rw [l2, optK_mk, castSl_mk]
  generalize hx3g : m1.next = x3 at *
  have hl40 := VF.few
  obtain ⟨⟨pa', pt', qs⟩, m3, ⟨E3, H3, C3, A3, F3, K3, S3⟩, e⟩ := loop_run (P := P30) (call := ev30 r (n + 0)) (jmp := jmp30 r (n + 0) 11) (dead := dead30 11) (rounds := r) (c := 0) (code := pc [1, 1, 0, 1, 0, 0] (bd Tryz.f11)) (d := dead30 11 (4 * 0)) (d' := dead30 11 (4 * 0 + 2)) (dr := dead30 11 1000002) (σ := Option Addr × Nat × List Pr) v.ps.length
    (fun k x hh => Ext h hh ∧ Has hh (h.next + 1) (.cells [Value.int .i64 0, Value.bool false, Value.slice none 0 0, Value.slice none 0 0, Value.slice none 0 0, Value.slice none 0 0, Value.slice none 0 0] false) ∧ Has hh x3 (.cells [.int .i64 v.now, .bool v.killed, .slice x.1 k x.2.1, .slice v.ua v.used.length v.ut, .slice v.ra v.real.length v.rt, .slice v.ha v.held.length v.ht, .slice v.fa v.faults.length v.ft] false) ∧ Acc prC 17 h hh x.1 x.2.1 x.2.2 ∧ Far x.1 x3 ∧
      (∀ q ∈ x.2.2, Acc kidC 10 h hh q.ka q.kt q.kids ∧ Far q.ka x3 ∧ Apart x.1 q.ka) ∧ x.2.2.map strip = (v.ps.take k).map strip)
    (fun k x => E11_0 (.pointer (some ⟨h.next + 1, 0, none⟩)) (.pointer (some ⟨x3, 0, none⟩)) (.slice v.pa v.ps.length v.pt) (.int .i64 (v.ps.length : Int)) (.int .i64 (k : Int))) (xT := .exit 0) (envT := fun x => E11_2 (.pointer (some ⟨h.next + 1, 0, none⟩)) (.pointer (some ⟨x3, 0, none⟩))) (s0 := (none, 0, [])) (h := m2) (fun k ⟨pa', pt', qs⟩ hh hlt ⟨E3, H3, C3, A3, F3, K3, S3⟩ => by
      simp only at C3 A3 F3 K3 S3 ⊢
      have hget : v.ps[k]? = some v.ps[k] := List.getElem?_eq_getElem hlt
      have htk : v.ps.take (k + 1) = v.ps.take k ++ [v.ps[k]] := by rw [List.take_add_one, hget]; rfl
      have hmem : v.ps[k] ∈ v.ps := List.getElem_mem hlt
      generalize v.ps[k] = p at hget htk hmem
      have hqs : qs.length = k := by have := congrArg List.length S3; simp at this; omega
      have PF := VF.ps p hmem
      have hl60 := PF.few
      obtain ⟨m4, hm4, E4, H4⟩ := new_row hh (prC p)
      have B : PrAt m4 hh.next p := ⟨H4⟩
      let q0 : Pr := { p with kids := [], ka := none, kt := 0 }
      obtain ⟨m5, hm5, E5, H5⟩ := new_row m4 (prC q0)
      have E35 := E4.trans E5
      have KS := (V.kids p hmem).ext (E3.trans E35)
      -- its children
      obtain ⟨⟨ka', kt'⟩, m6, ⟨E6, C6, A6, F6⟩, e6⟩ := loop_run (P := P30) (call := ev30 r (n + 0)) (jmp := jmp30 r (n + 0) 11) (dead := dead30 11) (rounds := r) (c := 2) (code := pc [1, 1, 0, 1, 0, 0, 1, 1, 0, 0, 1, 1, 0, 1, 0, 0] (bd Tryz.f11)) (d := dead30 11 (4 * 2)) (d' := dead30 11 (4 * 2 + 2)) (dr := dead30 11 1000002) (σ := Option Addr × Nat) p.kids.length
        (fun j x hj => Ext hh hj ∧ Has hj m4.next (.cells (prC { p with kids := p.kids.take j, ka := x.1, kt := x.2 }) false) ∧ Acc kidC 10 hh hj x.1 x.2 (p.kids.take j) ∧ Far x.1 m4.next)
        (fun j x => E11_8 (.pointer (some ⟨h.next + 1, 0, none⟩)) (.pointer (some ⟨x3, 0, none⟩)) (.pointer (some ⟨m4.next, 0, none⟩)) (.slice v.pa v.ps.length v.pt) (.int .i64 (v.ps.length : Int)) (.int .i64 (k : Int)) (.slice p.ka p.kids.length p.kt) (.int .i64 (p.kids.length : Int)) (.int .i64 (j : Int))) (xT := .exit 2)
        (envT := fun x => E11_10 (.pointer (some ⟨h.next + 1, 0, none⟩)) (.pointer (some ⟨x3, 0, none⟩)) (.pointer (some ⟨m4.next, 0, none⟩)) (.slice v.pa v.ps.length v.pt) (.int .i64 (v.ps.length : Int)) (.int .i64 (k : Int))) (s0 := (none, 0)) (h := m5) (fun j ⟨ka', kt'⟩ hj hlt2 ⟨E6, C6, A6, F6⟩ => by
          simp only at C6 A6 F6 ⊢
          have hget2 : p.kids[j]? = some p.kids[j] := List.getElem?_eq_getElem hlt2
          have htk2 : p.kids.take (j + 1) = p.kids.take j ++ [p.kids[j]] := by rw [List.take_add_one, hget2]; rfl
          generalize p.kids[j] = c at hget2 htk2
          have hlen : (p.kids.take j).length = j := by rw [List.length_take]; omega
          obtain ⟨m7, hm7, E7, H7⟩ := new_row hj (kidC c)
          have k1 : ldV P30 73 m4.next 16 m7 = some (.slice ka' j kt') := by
            have : ldV P30 73 m4.next 16 m7 = some (.slice ka' (p.kids.take j).length kt') := ld_at agg73 (C6.ext E7)
            rw [hlen] at this; exact this
          have k2 : ldV P30 81 hj.next 0 m7 = some (.agg ⟨kidC c⟩) := by rw [ld_agg agg81 cel81 H7 (by simp [kidC])]; rfl
          obtain ⟨b, m8, m9, cp⟩ := copy_core (P := P30) (f := 16) (E6.trans E7) E4.1 (C6.ext E7) (by simp [prC]) (A6.ext E7) F6 c rfl app73 (by omega) (by omega)
          have q1 := fun (R : Type) => cp.app (R := R)
          have q2 := cp.st
          rw [hlen] at q1 q2
          refine ⟨(b, 10), m9, ⟨cp.ext, ?_, by rw [htk2]; exact cp.acc, cp.far⟩, fun {R} nx K => ?_⟩
          · have := cp.has
            have hl2 : (p.kids.take (j + 1)).length = (p.kids.take j).length + 1 := by rw [htk2]; simp
            show Has m9 m4.next (.cells [.string p.id, .string (txt p.acc), .string p.sym, .int .i64 p.side, .int .i64 p.state, .int .i64 p.algo, .int .i64 p.qty, .int .i64 p.price, .int .i64 p.start, .int .i64 p.stop, .int .i64 p.most, .int .i64 p.filled,
              .int .i64 p.busted, .int .i64 p.worth, .int .i64 p.claims, .int .i64 p.need, .slice b (p.kids.take (j + 1)).length 10] false)
            rw [hl2]; exact this
          · show evCode P30 (ev30 r n) (jmp30 r n 11) (dead30 11) r 2 (pc [1, 1, 0, 1, 0, 0, 1, 1, 0, 0, 1, 1, 0, 1, 0, 0] (bd Tryz.f11)) (E11_8 (.pointer (some ⟨h.next + 1, 0, none⟩)) (.pointer (some ⟨x3, 0, none⟩)) (.pointer (some ⟨m4.next, 0, none⟩)) (.slice v.pa v.ps.length v.pt) (.int .i64 (v.ps.length : Int)) (.int .i64 (k : Int)) (.slice p.ka p.kids.length p.kt) (.int .i64 (p.kids.length : Int)) (.int .i64 (j : Int))) hj (loopK nx (dead30 11 (4 * 2)) (dead30 11 (4 * 2 + 2)) (dead30 11 1000002) K) = _
            rw [e11_8, decide_eq_true (by omega), cond_true, ((V.kids p hmem).ext (E3.trans E6)).row und63 cel81 agg81 (by omega) hget2 rfl rfl, hm7, k1, optK_mk, castSl_mk, k2, optK_mk, castA_mk, ifK_pos (show (Value.agg ⟨kidC c⟩).cells.size = 10 from rfl)]
            erw [q1]
            rw [castSl_mk, q2, optK_mk, wrap_succ (by omega)])
        (fun x hj _ {R} nx K => by
          show evCode P30 (ev30 r n) (jmp30 r n 11) (dead30 11) r 2 (pc [1, 1, 0, 1, 0, 0, 1, 1, 0, 0, 1, 1, 0, 1, 0, 0] (bd Tryz.f11)) (E11_8 (.pointer (some ⟨h.next + 1, 0, none⟩)) (.pointer (some ⟨x3, 0, none⟩)) (.pointer (some ⟨m4.next, 0, none⟩)) (.slice v.pa v.ps.length v.pt) (.int .i64 (v.ps.length : Int)) (.int .i64 (k : Int)) (.slice p.ka p.kids.length p.kt) (.int .i64 (p.kids.length : Int)) (.int .i64 (p.kids.length : Int))) hj (loopK nx (dead30 11 (4 * 2)) (dead30 11 (4 * 2 + 2)) (dead30 11 1000002) K) = _
          rw [e11_8, decide_eq_false (by omega), cond_false]) ⟨E35, H5, .nil _ _, .nil _⟩ (r := r) (by omega)
      simp only [Nat.add_zero] at e6 C6 A6 F6
      rw [show ((0 : Nat) : Int) = 0 from rfl] at e6
      rw [List.take_length] at C6 A6
      let q : Pr := { p with ka := ka', kt := kt' }
      have C6' : Has m6 m4.next (.cells (prC q) false) := C6
      have lq : ldV P30 75 m4.next 0 m6 = some (.agg ⟨prC q⟩) := by rw [ld_agg agg75 cel75 C6' (by simp [prC])]; rfl
      have l42 : ldV P30 42 x3 2 m6 = some (.slice pa' k pt') := ld_at agg42 (C3.ext E6)
      have E36 := E3.trans E6
      obtain ⟨b, m8, m9, cp⟩ := copy_core (P := P30) (f := 2) E36 (by omega) (C3.ext E6) (by simp) (A3.ext E6) F3 q rfl app42 (by omega) (by omega)
      have q1 := fun (R : Type) => cp.app (R := R)
      have q2 := cp.st
      rw [hqs] at q1 q2
      have hlt3 : x3 < hh.next := C3.1
      have apq : Apart pa' ka' := fun i o o' e1 e2 => by
        have h1 := F6 i o' e2
        rcases A3 with ⟨_, h2, _⟩ | ⟨_, j2, c2, h2, _, h3, _⟩
        · rw [h2] at e1; cases e1
        · rw [h2] at e1; cases e1; have := h3.1; have := E4.1; omega
      have farq : Far ka' x3 := fun i o e1 => by have h1 := F6 i o e1; have := E4.1; omega
      have kq := cp.keep (A6.below E3.1) apq farq
      refine ⟨(b, 17, qs ++ [q]), m9, ⟨cp.ext, cp.old _ _ (H3.ext E6) (by omega) (F3.ne (by omega)), ?_, cp.acc, cp.far, fun y hy => ?_, ?_⟩, fun {R} nx K => ?_⟩
      · have := cp.has; rw [hqs] at this; exact this
      · rcases List.mem_append.1 hy with hy | hy
        · obtain ⟨h1, h2, h3⟩ := K3 y hy
          have kk := cp.keep (h1.ext E6) h3 h2
          exact ⟨kk.1, h2, kk.2⟩
        · simp only [List.mem_singleton] at hy
          subst hy
          exact ⟨kq.1, farq, kq.2⟩
      · rw [htk, List.map_append, List.map_append, S3]; rfl
      · show evCode P30 (ev30 r n) (jmp30 r n 11) (dead30 11) r 0 (pc [1, 1, 0, 1, 0, 0] (bd Tryz.f11)) (E11_0 (.pointer (some ⟨h.next + 1, 0, none⟩)) (.pointer (some ⟨x3, 0, none⟩)) (.slice v.pa v.ps.length v.pt) (.int .i64 (v.ps.length : Int)) (.int .i64 (k : Int))) hh (loopK nx (dead30 11 (4 * 0)) (dead30 11 (4 * 0 + 2)) (dead30 11 1000002) K) = _
        rw [e11_0, decide_eq_true (by omega), cond_true, (V.ps.ext E3).row (P := P30) und27 cel65 agg65 (by omega) hget rfl rfl, hm4, B.l0, optK_mk, castS_mk, B.l1, optK_mk, castS_mk, B.l2, optK_mk, castS_mk, B.l3, optK_mk, castI_mk, B.l4, optK_mk, castI_mk,
          B.l5, optK_mk, castI_mk, B.l6, optK_mk, castI_mk, B.l7, optK_mk, castI_mk, B.l8, optK_mk, castI_mk, B.l9, optK_mk, castI_mk, B.l10, optK_mk, castI_mk, B.l11, optK_mk, castI_mk, B.l12, optK_mk, castI_mk, B.l13, optK_mk, castI_mk,
          B.l14, optK_mk, castI_mk, B.l15, optK_mk, castI_mk]
        have st5 : stCells (m4.new (.cells [Value.string (txt []), Value.string (txt []), Value.string (txt []), Value.int .i64 0, Value.int .i64 0, Value.int .i64 0, Value.int .i64 0, Value.int .i64 0, Value.int .i64 0, Value.int .i64 0, Value.int .i64 0, Value.int .i64 0, Value.int .i64 0, Value.int .i64 0, Value.int .i64 0, Value.int .i64 0, Value.slice none 0 0] false)) m4.next 0 (prC q0) = some m5 := by rw [← hm5]; exact st_new rfl
        erw [st5]
        rw [optK_mk, (B.ext E5).l16, optK_mk, castSl_mk, e6, e11_8x2, l42, optK_mk, castSl_mk, lq, optK_mk, castA_mk, ifK_pos (show (Value.agg ⟨prC q⟩).cells.size = 17 from rfl)]
        erw [q1]
        rw [castSl_mk, q2, optK_mk, wrap_succ (by omega)])
    (fun x hj _ {R} nx K => by
      show evCode P30 (ev30 r n) (jmp30 r n 11) (dead30 11) r 0 (pc [1, 1, 0, 1, 0, 0] (bd Tryz.f11)) (E11_0 (.pointer (some ⟨h.next + 1, 0, none⟩)) (.pointer (some ⟨x3, 0, none⟩)) (.slice v.pa v.ps.length v.pt) (.int .i64 (v.ps.length : Int)) (.int .i64 (v.ps.length : Int))) hj (loopK nx (dead30 11 (4 * 0)) (dead30 11 (4 * 0 + 2)) (dead30 11 1000002) K) = _
      rw [e11_0, decide_eq_false (by omega), cond_false]) ⟨E02, H1.ext E2, H2, .nil _ _, .nil _, fun q hq => by simp at hq, rfl⟩ (r := r) (by omega)
  simp only [Nat.add_zero] at e C3 A3 F3 K3 S3
  rw [show ((0 : Nat) : Int) = 0 from rfl] at e
  rw [List.take_length] at S3
  have hqs : qs.length = v.ps.length := by have := congrArg List.length S3; simpa using this
  let v' : Vw := { v with ps := qs, pa := pa', pt := pt' }
  have C3' : Has m3 x3 (.cells (vwC v') false) := by
    show Has m3 x3 (.cells [.int .i64 v.now, .bool v.killed, .slice pa' qs.length pt', .slice v.ua v.used.length v.ut, .slice v.ra v.real.length v.rt, .slice v.ha v.held.length v.ht, .slice v.fa v.faults.length v.ft] false)
    rw [hqs]; exact C3
  have l44 : ldV P30 44 x3 0 m3 = some (.agg ⟨vwC v'⟩) := by rw [ld_agg agg44 cel44 C3' (by simp [vwC])]; rfl
  have EE : Ext h (m3.put (h.next + 1) (.cells (vwC v') false)) := E3.put (by omega) _
  rw [e, e11_0x0, l44, optK_mk, castA_mk, ifK_pos (by rw [cel44]; rfl), show (Value.agg ⟨vwC v'⟩).cells.toList = vwC v' from rfl, st_all (vs := vwC v') H3 rfl, optK_mk]
  exact .mk ⟨rfl, rfl, EE, v', H3.over _, ⟨(A3.put (F3.ne (by omega)) _).sl, fun q hq => ((K3 q hq).1.put ((K3 q hq).2.1.ne (by omega)) _).sl, V.used.ext EE, V.real.ext EE, V.held.ext EE, V.faults.ext EE⟩, ⟨rfl, rfl, rfl, rfl, rfl, rfl, S3⟩⟩
end
end Go.Ev
