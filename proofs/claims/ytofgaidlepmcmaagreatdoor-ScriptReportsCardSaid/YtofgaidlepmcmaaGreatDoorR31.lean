/-
  ScriptReports: the program's report.
-/
import Derived.Test.YtofgaidlepmcmaaGreatDoorP31
namespace Go.Ev
open Go Go.Proofs

section
variable {r n : Nat} {h h0 m m' : H} {i : Nat} {v : Vw} {p : Pr} {c : Kid}
theorem same_str {P : Program} {t i o : Nat} {s : ByteArray} (e : ldV P t i o h = some (.string s)) : sameLd P t i o (.string s) h = true := by
  unfold sameLd; rw [e]; simp [eqV]

/-- A row is made and written. -/
theorem c_rw {bs : List UInt8} {ws : List (List UInt8)} {zs : List Int} (E : Ext h0 m) (B : BldAt h0 m i bs) (hne : ws ≠ []) (fz : ∀ z ∈ zs, fits z) (hw : ∀ w ∈ ws, w.length ≤ 100) (hwl : ws.length ≤ 10) (hzl : zs.length ≤ 10) (hl : bs.length ≤ 100000000000) (hr : 1000000 ≤ r) :
    ∃ m6 m7, ev31 r (n + 2) 13 [.slice (some ⟨m.next, 0, none⟩) ws.length 1, .slice (some ⟨m.next + 1, 0, none⟩) zs.length 1] ((m.new (.cells (ws.map fun w => .string (txt w)) false)).new (.cells (zs.map (Value.int .i64)) false)) = some (.string (txt (rowT (joined [32] ws) zs)), m6) ∧
      ev31 r (n + 2) 11 [.pointer (some ⟨i, 0, none⟩), .string (txt (rowT (joined [32] ws) zs))] m6 = some (.tuple #[.int .i64 ((rowT (joined [32] ws) zs).length : Int), .nilIface], m7) ∧ Ext h0 m7 ∧ BldAt h0 m7 i (bs ++ rowT (joined [32] ws) zs) ∧
      ∀ k c ro, Has m k (.cells c ro) → Has m7 k (.cells c ro) := by
  have E1 : Ext m (m.new (.cells (ws.map fun w => .string (txt w)) false)) := (Ext.refl m).new _
  have H2 := Has.here (m.new (.cells (ws.map fun w => .string (txt w)) false)) (.cells (zs.map (Value.int .i64)) false)
  have E2 : Ext m ((m.new (.cells (ws.map fun w => .string (txt w)) false)).new (.cells (zs.map (Value.int .i64)) false)) := E1.new _
  have A := (acc_lit m ws).ext ((Ext.refl _).new (.cells (zs.map (Value.int .i64)) false))
  obtain ⟨y, m6, q1, rfl, E6⟩ := c_row (r := r) (n := n) (jb := m.next + 1) E2 A hne H2 (fun o e => by simp at e) fz hw hwl hzl hr
  have hjl : (joined [32] ws).length ≤ 1010 := by
    have := joined_len [32] 100 ws hw
    simp only [List.length_singleton] at this
    omega
  have hrl := rowT_len (joined [32] ws) zs
  obtain ⟨m7, q2, E7, B7, F7⟩ := c_ws (r := r) (n := n + 1) (h0 := h0) (E.trans E6) (B.ext E6) (rowT_ne (joined [32] ws) zs) (by omega)
  exact ⟨m6, m7, q1, q2, E7, B7, fun k c ro hk => F7 k c ro (hk.ext E6)⟩

theorem joined4 (a b c d : List UInt8) : joined [32] [a, b, c, d] = a ++ [32] ++ b ++ [32] ++ c ++ [32] ++ d := by simp [joined, List.append_assoc]
theorem joined2 (a b : List UInt8) : joined [32] [a, b] = a ++ [32] ++ b := by simp [joined]

/-- A child is told. -/
theorem kid_step {x1 : Nat} {x27 : Option Addr} {x27n x27s : Nat} {x28 x29 : Int} {bs : List UInt8} {l : List Kid} {la : Option Addr} {lt j : Nat} (E : Ext h0 h) (B : BldAt h0 h i bs) (KS : Ks h la lt l) (hget : l[j]? = some c) (hf : KidFit c) (h1 : c.id.length ≤ 100) (h2 : c.venue.length ≤ 100)
    (hlt : l.length ≤ 40) (hl : bs.length ≤ 100000000000) (hr : 1000000 ≤ r) :
    ∃ m, Ext h0 m ∧ BldAt h0 m i (bs ++ kidT c) ∧ (∀ k c ro, Has h k (.cells c ro) → Has m k (.cells c ro)) ∧ ∀ {R : Type} (nx : Env → H → Option R) (K : Exit → Env → H → Option R),
      evCode P31 (ev31 r (n + 2)) (jmp31 r (n + 2) 6) (dead31 6) r 2 (pc [1, 1, 1, 0, 1, 0, 0, 1, 1, 0, 0, 1, 1, 1, 0, 0] (bd Tryz.f6)) (E6_8 (.pointer (some ⟨x1, 0, none⟩)) (.pointer (some ⟨i, 0, none⟩)) (.slice x27 x27n x27s) (.int .i64 x28) (.int .i64 x29) (.slice la l.length lt) (.int .i64 (l.length : Int)) (.int .i64 (j : Int))) h
        (loopK nx (dead31 6 (4 * 2)) (dead31 6 (4 * 2 + 2)) (dead31 6 1000002) K) =
      nx (E6_8 (.pointer (some ⟨x1, 0, none⟩)) (.pointer (some ⟨i, 0, none⟩)) (.slice x27 x27n x27s) (.int .i64 x28) (.int .i64 x29) (.slice la l.length lt) (.int .i64 (l.length : Int)) (.int .i64 ((j + 1 : Nat) : Int))) m := by
  have hj : j < l.length := (List.getElem?_eq_some_iff.1 hget).1
  obtain ⟨m2, hm2, E2, H2⟩ := new_row h (kidC c)
  have C : KidAt m2 h.next c := ⟨H2⟩
  obtain ⟨y, m3, q3, rfl, E3⟩ := c_word (r := r) (n := n + 1) (h := m2) c.state
  have C3 := C.ext E3
  have E03 := E.trans (E2.trans E3)
  obtain ⟨m6, m7, q6, q7, E7, B7, F7⟩ := c_rw (r := r) (n := n) (ws := [[99, 104, 105, 108, 100], c.id, c.venue, stW c.state]) (zs := [c.qty, c.price, c.cum, c.claim]) E03 (B.ext (E2.trans E3)) (by simp)
    (fun z hz => by
      simp only [List.mem_cons, List.not_mem_nil, or_false] at hz
      rcases hz with rfl | rfl | rfl | rfl
      · exact hf.qty
      · exact hf.price
      · exact hf.cum
      · exact hf.claim)
    (fun w hw => by
      simp only [List.mem_cons, List.not_mem_nil, or_false] at hw
      rcases hw with rfl | rfl | rfl | rfl
      · simp
      · exact h1
      · exact h2
      · have := stW_len c.state; omega) (by simp) (by simp) hl hr
  have ht : rowT (joined [32] [[99, 104, 105, 108, 100], c.id, c.venue, stW c.state]) [c.qty, c.price, c.cum, c.claim] = kidT c := by
    rw [joined4]; unfold kidT; simp [List.append_assoc]
  rw [ht] at q6 q7 B7
  refine ⟨m7, E7, B7, fun k c ro hk => F7 k c ro (hk.ext (E2.trans E3)), fun {R} nx K => ?_⟩
  rw [e6_8, decide_eq_true (by omega), cond_true, KS.row (P := P31) und40 cel44 agg44 (by omega) hget rfl rfl, hm2, C.l3, optK_mk, castI_mk, callK_mk q3, castS_mk, C3.l0, optK_mk, castS_mk, same_str C.l0, cond_true, C3.l1, optK_mk, castS_mk, same_str C.l1, cond_true,
    C3.l4, optK_mk, castI_mk, same_int C.l4, cond_true, C3.l5, optK_mk, castI_mk, same_int C.l5, cond_true, C3.l8, optK_mk, castI_mk, same_int C.l8, cond_true, C3.l9, optK_mk, castI_mk, same_int C.l9, cond_true]
  erw [callK_mk q6]
  rw [castS_mk, callK_mk q7, castTup_mk, headK_mk, castI_mk, headK_mk, nilK_mk, wrap_succ (by omega)]

theorem kidT_len {c : Kid} (h1 : c.id.length ≤ 100) (h2 : c.venue.length ≤ 100) : (kidT c).length ≤ 400 := by
  unfold kidT
  have := rowT_len ([99, 104, 105, 108, 100, 32] ++ c.id ++ [32] ++ c.venue ++ [32] ++ stW c.state) [c.qty, c.price, c.cum, c.claim]
  have := stW_len c.state
  simp at *; omega
theorem kidsT_len (hf : PrFew p) : ∀ j, (kidsT p j).length ≤ 400 * j := by
  intro j
  unfold kidsT
  induction j with
  | zero => simp
  | succ j ih =>
    rw [List.take_add_one, List.flatMap_append, List.length_append]
    cases hx : p.kids[j]? with
    | none =>
      have : ((none : Option Kid).toList.flatMap kidT).length = 0 := rfl
      omega
    | some c =>
      obtain ⟨h1, h2⟩ := hf.kids c (List.mem_of_getElem? hx)
      have := kidT_len h1 h2
      have e : ((some c).toList.flatMap kidT) = kidT c := by simp [Option.toList]
      rw [e]; omega
theorem parT_len (hf : PrFew p) (z : Int) : (parT p z).length ≤ 400 := by
  unfold parT
  have := rowT_len ([112, 97, 114, 101, 110, 116, 32] ++ p.id) [p.state, p.qty, p.price, p.most, p.filled, p.busted, p.worth, p.claims, p.need, z]
  have := hf.id
  simp at *; omega
theorem psT_len (hf : VwFew v) : ∀ k, (psT v k).length ≤ 20000 * k := by
  intro k
  induction k with
  | zero => simp [psT]
  | succ k ih =>
    rw [psT, List.length_append]
    cases hx : v.ps[k]? with
    | none => simp; omega
    | some p =>
      have hp := hf.ps p (List.mem_of_getElem? hx)
      have := parT_len hp (atL v.held k)
      have := kidsT_len hp p.kids.length
      have := hp.few
      simp; omega
theorem usT_len : ∀ k, (usT v k).length ≤ 100 * k := by
  intro k
  induction k with
  | zero => simp [usT]
  | succ k ih =>
    have := rowT_len [117, 115, 101, 100] [atL v.used k, atL v.real k]
    rw [usT, List.length_append]; simp at *; omega
theorem faT_len : ∀ k, (faT v k).length ≤ 100 * k := by
  intro k
  induction k with
  | zero => simp [faT]
  | succ k ih =>
    have := rowT_len [102, 97, 117, 108, 116, 115] [atL v.faults k]
    rw [faT, List.length_append]; simp at *; omega
theorem headT_len : (headT v).length ≤ 40 := by
  have := itoaL_len v.now
  unfold headT; split <;> simp <;> omega
theorem headT_ne : headT v ≠ [] := by unfold headT; simp
end
end Go.Ev
