/-
  ScriptReports: the program's report, whole.
-/
import Derived.Test.YtofgaidlepmcmaaGreatDoorU31
namespace Go.Ev
open Go Go.Proofs

section
variable {r n : Nat} {h h0 m m' : H} {i x1 : Nat} {v : Vw} {p : Pr} {c : Kid}
theorem joined1 (a : List UInt8) : joined [32] [a] = a := by simp [joined]
theorem atL_of {l : List Int} {k : Nat} {z : Int} (h : l[k]? = some z) : atL l k = z := by unfold atL; rw [h]; rfl

theorem used_step {bs : List UInt8} {k : Nat} (A : RepAt h0 x1 i v bs h) (V : VwIn h0 v) (VI : VwInts v) (hk : k < v.used.length) (hl60 : v.used.length ≤ 60) (hl : bs.length ≤ 1000000000) (hr : 1000000 ≤ r) :
    ∃ m, RepAt h0 x1 i v (bs ++ rowT [117, 115, 101, 100] [atL v.used k, atL v.real k]) m ∧ ∀ {R : Type} (nx : Env → H → Option R) (K : Exit → Env → H → Option R),
      evCode P31 (ev31 r (n + 2)) (jmp31 r (n + 2) 6) (dead31 6) r 4 (pc [1, 1, 1, 1, 0, 1, 0, 0] (bd Tryz.f6)) (E6_16 (.pointer (some ⟨x1, 0, none⟩)) (.pointer (some ⟨i, 0, none⟩)) (.slice v.ua v.used.length v.ut) (.int .i64 (v.used.length : Int)) (.int .i64 (k : Int))) h (loopK nx (dead31 6 (4 * 4)) (dead31 6 (4 * 4 + 2)) (dead31 6 1000002) K) =
      nx (E6_16 (.pointer (some ⟨x1, 0, none⟩)) (.pointer (some ⟨i, 0, none⟩)) (.slice v.ua v.used.length v.ut) (.int .i64 (v.used.length : Int)) (.int .i64 ((k + 1 : Nat) : Int))) m := by
  have hget : v.used[k]? = some v.used[k] := List.getElem?_eq_getElem hk
  have fu := atL_fits VI.used k
  have fr := atL_fits VI.real k
  have hz := atL_of hget
  generalize v.used[k] = z at hget hz
  rw [hz] at fu ⊢
  obtain ⟨m6, m7, q6, q7, E7, B7, F7⟩ := c_rw (r := r) (n := n) (ws := [[117, 115, 101, 100]]) (zs := [z, atL v.real k]) A.ext A.bld (by simp)
    (fun y hy => by
      simp only [List.mem_cons, List.not_mem_nil, or_false] at hy
      rcases hy with rfl | rfl
      · exact fu
      · exact fr) (fun w hw => by simp only [List.mem_singleton] at hw; subst hw; simp) (by simp) (by simp) (by omega) hr
  rw [joined1] at q6 q7 B7
  obtain ⟨m1, hm1, E1, H1⟩ := new_row h [Value.string (txt [117, 115, 101, 100])]
  refine ⟨m7, ⟨E7, ⟨F7 _ _ _ A.vw.has⟩, B7⟩, fun {R} nx K => ?_⟩
  obtain ⟨j, o, q1, q2⟩ := (V.used.ext A.ext).cell (P := P31) (f := 0) und23 cel3 agg3 hget rfl
  rw [Nat.add_zero] at q2
  have l4 := (A.vw.ext E1).l4
  have qa := c_at (r := r) (n := n + 1) (V.real.ext (A.ext.trans E1)) k
  rw [← hm1] at l4 qa
  rw [e6_16, decide_eq_true (by omega), cond_true, q1]
  simp only [addrK_mk]
  rw [q2, optK_mk, castI_mk, l4, optK_mk, castSl_mk, callK_mk qa, castI_mk]
  erw [callK_mk q6]
  rw [castS_mk, callK_mk q7, castTup_mk, headK_mk, castI_mk, headK_mk, nilK_mk, wrap_succ (by omega)]
theorem fault_step {bs : List UInt8} {k : Nat} (A : RepAt h0 x1 i v bs h) (V : VwIn h0 v) (VI : VwInts v) (hk : k < v.faults.length) (hl60 : v.faults.length ≤ 60) (hl : bs.length ≤ 1000000000) (hr : 1000000 ≤ r) :
    ∃ m, RepAt h0 x1 i v (bs ++ rowT [102, 97, 117, 108, 116, 115] [atL v.faults k]) m ∧ ∀ {R : Type} (nx : Env → H → Option R) (K : Exit → Env → H → Option R),
      evCode P31 (ev31 r (n + 2)) (jmp31 r (n + 2) 6) (dead31 6) r 6 (pc [1, 1, 1, 1, 1, 0, 1, 0, 0] (bd Tryz.f6)) (E6_24 (.pointer (some ⟨i, 0, none⟩)) (.slice v.fa v.faults.length v.ft) (.int .i64 (v.faults.length : Int)) (.int .i64 (k : Int))) h (loopK nx (dead31 6 (4 * 6)) (dead31 6 (4 * 6 + 2)) (dead31 6 1000002) K) =
      nx (E6_24 (.pointer (some ⟨i, 0, none⟩)) (.slice v.fa v.faults.length v.ft) (.int .i64 (v.faults.length : Int)) (.int .i64 ((k + 1 : Nat) : Int))) m := by
  have hget : v.faults[k]? = some v.faults[k] := List.getElem?_eq_getElem hk
  have fu := atL_fits VI.faults k
  have hz := atL_of hget
  generalize v.faults[k] = z at hget hz
  rw [hz] at fu ⊢
  obtain ⟨m6, m7, q6, q7, E7, B7, F7⟩ := c_rw (r := r) (n := n) (ws := [[102, 97, 117, 108, 116, 115]]) (zs := [z]) A.ext A.bld (by simp)
    (fun y hy => by
      simp only [List.mem_singleton] at hy
      subst hy
      exact fu) (fun w hw => by simp only [List.mem_singleton] at hw; subst hw; simp) (by simp) (by simp) (by omega) hr
  rw [joined1] at q6 q7 B7
  refine ⟨m7, ⟨E7, ⟨F7 _ _ _ A.vw.has⟩, B7⟩, fun {R} nx K => ?_⟩
  obtain ⟨j, o, q1, q2⟩ := (V.faults.ext A.ext).cell (P := P31) (f := 0) und23 cel3 agg3 hget rfl
  rw [Nat.add_zero] at q2
  rw [e6_24, decide_eq_true (by omega), cond_true, q1]
  simp only [addrK_mk]
  rw [q2, optK_mk, castI_mk]
  erw [callK_mk q6]
  rw [castS_mk, callK_mk q7, castTup_mk, headK_mk, castI_mk, headK_mk, nilK_mk, wrap_succ (by omega)]

theorem rep_tail (A : RepAt h0 x1 i v (headT v) h) (V : VwIn h0 v) (VI : VwInts v) (VF : VwFew v) (hr : 1000000 ≤ r) :
    ∃ m, Ext h0 m ∧ jmp31 r (n + 3) 6 0 (pc [1, 1, 1] (bd Tryz.f6)) (E6_2 (.pointer (some ⟨x1, 0, none⟩)) (.pointer (some ⟨i, 0, none⟩))) h = some (.ret, E6_r (.string (txt (reportT v))), m) := by
  have hl30 := VF.few
  have hlu := VF.fu
  have hlf := VF.ff
  have hh := headT_len (v := v)
  obtain ⟨_, m1, A1, e1⟩ := loop_run (P := P31) (call := ev31 r (n + 2)) (jmp := jmp31 r (n + 2) 6) (dead := dead31 6) (rounds := r) (c := 0) (code := pc [1, 1, 1, 0, 1, 0, 0] (bd Tryz.f6)) (d := dead31 6 (4 * 0)) (d' := dead31 6 (4 * 0 + 2)) (dr := dead31 6 1000002) (σ := Unit) v.ps.length (fun k _ hh => RepAt h0 x1 i v (headT v ++ psT v k) hh)
    (fun k _ => E6_0 (.pointer (some ⟨x1, 0, none⟩)) (.pointer (some ⟨i, 0, none⟩)) (.slice v.pa v.ps.length v.pt) (.int .i64 (v.ps.length : Int)) (.int .i64 (k : Int))) (xT := .exit 0) (envT := fun _ => E6_2 (.pointer (some ⟨x1, 0, none⟩)) (.pointer (some ⟨i, 0, none⟩))) (s0 := ()) (h := h) (fun k _ hh hlt A1 => by
      have hget : v.ps[k]? = some v.ps[k] := List.getElem?_eq_getElem hlt
      have hpl := psT_len VF k
      obtain ⟨m, A2, e⟩ := par_step (n := n) A1 V VI VF hget (by rw [List.length_append]; omega) hr
      refine ⟨(), m, ?_, e⟩
      rw [psT, hget, ← List.append_assoc]; exact A2)
    (fun _ hh _ {R} nx K => by rw [e6_0, decide_eq_false (by omega), cond_false]) (by simpa [psT] using A) (r := r) (by omega)
  have hpl := psT_len VF v.ps.length
  obtain ⟨_, m2, A2, e2⟩ := loop_run (P := P31) (call := ev31 r (n + 2)) (jmp := jmp31 r (n + 2) 6) (dead := dead31 6) (rounds := r) (c := 4) (code := pc [1, 1, 1, 1, 0, 1, 0, 0] (bd Tryz.f6)) (d := dead31 6 (4 * 4)) (d' := dead31 6 (4 * 4 + 2)) (dr := dead31 6 1000002) (σ := Unit) v.used.length (fun k _ hh => RepAt h0 x1 i v (headT v ++ psT v v.ps.length ++ usT v k) hh)
    (fun k _ => E6_16 (.pointer (some ⟨x1, 0, none⟩)) (.pointer (some ⟨i, 0, none⟩)) (.slice v.ua v.used.length v.ut) (.int .i64 (v.used.length : Int)) (.int .i64 (k : Int))) (xT := .exit 4) (envT := fun _ => E6_2 (.pointer (some ⟨x1, 0, none⟩)) (.pointer (some ⟨i, 0, none⟩))) (s0 := ()) (h := m1) (fun k _ hh hlt A1 => by
      have hul := usT_len (v := v) k
      obtain ⟨m, A2, e⟩ := used_step (n := n) A1 V VI hlt hlu (by rw [List.length_append, List.length_append]; omega) hr
      refine ⟨(), m, ?_, e⟩
      rw [usT, ← List.append_assoc]; exact A2)
    (fun _ hh _ {R} nx K => by rw [e6_16, decide_eq_false (by omega), cond_false]) (by simpa [usT] using A1) (r := r) (by omega)
  have hul := usT_len (v := v) v.used.length
  obtain ⟨_, m3, A3, e3⟩ := loop_run (P := P31) (call := ev31 r (n + 2)) (jmp := jmp31 r (n + 2) 6) (dead := dead31 6) (rounds := r) (c := 6) (code := pc [1, 1, 1, 1, 1, 0, 1, 0, 0] (bd Tryz.f6)) (d := dead31 6 (4 * 6)) (d' := dead31 6 (4 * 6 + 2)) (dr := dead31 6 1000002) (σ := Unit) v.faults.length (fun k _ hh => RepAt h0 x1 i v (headT v ++ psT v v.ps.length ++ usT v v.used.length ++ faT v k) hh)
    (fun k _ => E6_24 (.pointer (some ⟨i, 0, none⟩)) (.slice v.fa v.faults.length v.ft) (.int .i64 (v.faults.length : Int)) (.int .i64 (k : Int))) (xT := .exit 6) (envT := fun _ => E6_26 (.pointer (some ⟨i, 0, none⟩))) (s0 := ()) (h := m2) (fun k _ hh hlt A1 => by
      have hfl := faT_len (v := v) k
      obtain ⟨m, A2, e⟩ := fault_step (n := n) A1 V VI hlt hlf (by rw [List.length_append, List.length_append, List.length_append]; omega) hr
      refine ⟨(), m, ?_, e⟩
      rw [faT, ← List.append_assoc]; exact A2)
    (fun _ hh _ {R} nx K => by rw [e6_24, decide_eq_false (by omega), cond_false]) (by simpa [faT] using A2) (r := r) (by omega)
  rw [show ((0 : Nat) : Int) = 0 from rfl] at e1 e2 e3
  obtain ⟨m4, q4, E4⟩ := c_str (r := r) (n := n + 1) A3.ext A3.bld (by simp [headT_ne])
  refine ⟨m4, E4, ?_⟩
  rw [e6_11c, A.vw.l2, optK_mk, castSl_mk, e1, e6_0x0, A1.vw.l3, optK_mk, castSl_mk, e2, e6_16x4, A2.vw.l6, optK_mk, castSl_mk, e3, e6_24x6, callK_mk q4, castS_mk]
  rfl

theorem c_report (V : VwIn h v) (VI : VwInts v) (VF : VwFew v) (hr : 1000000 ≤ r) : Gives (ev31 r (n + 4) 6 [vwV v] h) fun y h' => y = .string (txt (reportT v)) ∧ Ext h h' := by
  unfold vwV
  rw [e6]
  obtain ⟨m0, hm0, E0, H0⟩ := new_row h (vwC v)
  have hn : h.next + 1 = m0.next := by rw [← hm0]; rfl
  have hi := itoaL_len v.now
  unfold vwC at hm0
  rw [hm0]
  have E1 : Ext m0 (m0.new (.typed 48 [.pointer none, .slice none 0 0] true)) := (Ext.refl _).new _
  have HB : Has (m0.new (.typed 48 [.pointer none, .slice none 0 0] true)) (h.next + 1) (.typed 48 [.pointer none, .slice none 0 0] true) := by rw [hn]; exact Has.here _ _
  generalize m0.new (.typed 48 [.pointer none, .slice none 0 0] true) = m1 at *
  have A : VwAt m1 h.next v := ⟨H0.ext E1⟩
  have B : BldAt h m1 (h.next + 1) [] := ⟨by omega, .inl ⟨rfl, HB⟩⟩
  have E01 := E0.trans E1
  have e0 : ({ data := #[110, 111, 119, 32] } : ByteArray) ++ txt (itoaL v.now) = txt ([110, 111, 119, 32] ++ itoaL v.now) := by
    show txt [110, 111, 119, 32] ++ txt (itoaL v.now) = _
    rw [txt_app]
  rw [A.l1, optK_mk, castV_mk]
  cases hkd : v.killed with
  | true =>
    have hT : [110, 111, 119, 32] ++ itoaL v.now ++ [32, 107, 105, 108, 108, 101, 100, 10] = headT v := by unfold headT; rw [hkd]; rfl
    have ew : ({ data := #[110, 111, 119, 32] } : ByteArray) ++ txt (itoaL v.now) ++ { data := #[32, 107, 105, 108, 108, 101, 100, 10] } = txt (headT v) := by
      rw [e0]; show txt _ ++ txt [32, 107, 105, 108, 108, 101, 100, 10] = _
      rw [txt_app, hT]
    obtain ⟨m2, q2, E2, B2, F2⟩ := c_ws (r := r) (n := n + 2) E01 B (headT_ne (v := v)) (by have := headT_len (v := v); simp; omega)
    obtain ⟨m3, E3, q3⟩ := rep_tail (r := r) (n := n) (h0 := h) (x1 := h.next) (i := h.next + 1) (v := v) (h := m2) ⟨E2, ⟨F2 _ _ _ A.has⟩, by simpa using B2⟩ V VI VF hr
    rw [cond_true, A.l0, optK_mk, castI_mk, callK_mk (c_itoa VI.now), castS_mk, ifK_pos (by rw [txt_size]; omega), ifK_pos (by rw [e0, txt_size]; simp; omega), ew, callK_mk q2, castTup_mk, headK_mk, castI_mk, headK_mk, nilK_mk, jumpK_mk q3, e6_11r]
    exact .mk ⟨rfl, E3⟩
  | false =>
    have hT : [110, 111, 119, 32] ++ itoaL v.now ++ [10] = headT v := by unfold headT; rw [hkd]; rfl
    have ew : ({ data := #[110, 111, 119, 32] } : ByteArray) ++ txt (itoaL v.now) ++ { data := #[10] } = txt (headT v) := by
      rw [e0]; show txt _ ++ txt [10] = _
      rw [txt_app, hT]
    obtain ⟨m2, q2, E2, B2, F2⟩ := c_ws (r := r) (n := n + 2) E01 B (headT_ne (v := v)) (by have := headT_len (v := v); simp; omega)
    obtain ⟨m3, E3, q3⟩ := rep_tail (r := r) (n := n) (h0 := h) (x1 := h.next) (i := h.next + 1) (v := v) (h := m2) ⟨E2, ⟨F2 _ _ _ A.has⟩, by simpa using B2⟩ V VI VF hr
    rw [cond_false, A.l0, optK_mk, castI_mk, callK_mk (c_itoa VI.now), castS_mk, ifK_pos (by rw [txt_size]; omega), ifK_pos (by rw [e0, txt_size]; simp; omega), ew, callK_mk q2, castTup_mk, headK_mk, castI_mk, headK_mk, nilK_mk, jumpK_mk q3, e6_11r]
    exact .mk ⟨rfl, E3⟩
end
end Go.Ev
