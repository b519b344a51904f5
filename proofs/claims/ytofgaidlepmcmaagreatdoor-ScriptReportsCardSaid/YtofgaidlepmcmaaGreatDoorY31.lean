/-
  ScriptReports: the reference's report, its loops.
-/
import Derived.Test.YtofgaidlepmcmaaGreatDoorX31
namespace Go.Ev
open Go Go.Proofs

section
variable {r n : Nat} {h h0 m m' : H} {i x1 : Nat} {v : Vw} {p : Pr} {c : Kid}
theorem rkids_run {x5 : Nat} {x4 : Int} {s : List UInt8} (B : PrAt h x5 p) (KS : Ks h p.ka p.kt p.kids) (hf : ∀ c ∈ p.kids, KidFit c) (pf : PrFew p) (hl : s.length ≤ 10000000000) (hr : 1000000 ≤ r) :
    ∃ m, Ext h m ∧ ∀ {R : Type} (K : Exit → Env → H → Option R),
      evLoop (evCode P31 (ev31 r (n + 3)) (jmp31 r (n + 3) 18) (dead31 18) r 2 (pc [1, 1, 1, 1, 0, 1, 0, 0, 1, 0, 0, 1, 1, 1, 0, 0] (bd Tryz.f18))) (dead31 18 (4 * 2)) (dead31 18 (4 * 2 + 2)) (dead31 18 1000002) r
        (E18_8 (.pointer (some ⟨x1, 0, none⟩)) (.string (txt s)) (.int .i64 x4) (.pointer (some ⟨x5, 0, none⟩)) (.int .i64 0)) h K = K (.exit 2) (E18_0 (.pointer (some ⟨x1, 0, none⟩)) (.string (txt (s ++ kidsT p p.kids.length))) (.int .i64 x4)) m := by
  have hk40 := pf.few
  obtain ⟨_, m, A', e⟩ := loop_run (P := P31) (call := ev31 r (n + 3)) (jmp := jmp31 r (n + 3) 18) (dead := dead31 18) (rounds := r) (c := 2) (code := pc [1, 1, 1, 1, 0, 1, 0, 0, 1, 0, 0, 1, 1, 1, 0, 0] (bd Tryz.f18)) (d := dead31 18 (4 * 2)) (d' := dead31 18 (4 * 2 + 2)) (dr := dead31 18 1000002) (σ := Unit) p.kids.length (fun j _ hh => Ext h hh)
    (fun j _ => E18_8 (.pointer (some ⟨x1, 0, none⟩)) (.string (txt (s ++ kidsT p j))) (.int .i64 x4) (.pointer (some ⟨x5, 0, none⟩)) (.int .i64 (j : Int))) (xT := .exit 2)
    (envT := fun _ => E18_0 (.pointer (some ⟨x1, 0, none⟩)) (.string (txt (s ++ kidsT p p.kids.length))) (.int .i64 x4)) (s0 := ()) (h := h) (fun j _ hh hlt A1 => by
      have hget : p.kids[j]? = some p.kids[j] := List.getElem?_eq_getElem hlt
      have htk : p.kids.take (j + 1) = p.kids.take j ++ [p.kids[j]] := by rw [List.take_add_one, hget]; rfl
      have hmem : p.kids[j] ∈ p.kids := List.getElem_mem hlt
      generalize p.kids[j] = c at hget htk hmem
      obtain ⟨g1, g2⟩ := pf.kids c hmem
      have hkl := kidsT_len pf j
      obtain ⟨m, E, e⟩ := rkid_step (r := r) (n := n) (x1 := x1) (x4 := x4) (s := s ++ kidsT p j) (B.ext A1) (KS.ext A1) hget (hf c hmem) g1 g2 hk40 (by rw [List.length_append]; omega) hr
      have hkt : s ++ kidsT p (j + 1) = s ++ kidsT p j ++ kidT c := by unfold kidsT; rw [htk]; simp
      refine ⟨(), m, A1.trans E, fun {R} nx K => ?_⟩
      rw [hkt]; exact e nx K)
    (fun _ hh A1 {R} nx K => by
      rw [e18_8, (B.ext A1).r16, optK_mk, castSl_mk, decide_eq_false (by omega), cond_false]) (.refl h) (r := r) (by omega)
  have e0 : s ++ kidsT p 0 = s := by simp [kidsT]
  rw [e0, show ((0 : Nat) : Int) = 0 from rfl] at e
  exact ⟨m, A', e⟩

theorem rpar_step {s : List UInt8} {k : Nat} (A : RefAt h0 x1 v h) (V : VwIn h0 v) (VI : VwInts v) (VF : VwFew v) (hget : v.ps[k]? = some p) (hl : s.length ≤ 1000000000) (hr : 1000000 ≤ r) :
    ∃ m, RefAt h0 x1 v m ∧ ∀ {R : Type} (nx : Env → H → Option R) (K : Exit → Env → H → Option R),
      evCode P31 (ev31 r (n + 3)) (jmp31 r (n + 3) 18) (dead31 18) r 0 (pc [1, 1, 1, 1, 0, 1, 0, 0] (bd Tryz.f18)) (E18_0 (.pointer (some ⟨x1, 0, none⟩)) (.string (txt s)) (.int .i64 (k : Int))) h (loopK nx (dead31 18 (4 * 0)) (dead31 18 (4 * 0 + 2)) (dead31 18 1000002) K) =
      nx (E18_0 (.pointer (some ⟨x1, 0, none⟩)) (.string (txt (s ++ (parT p (atL v.held k) ++ kidsT p p.kids.length)))) (.int .i64 ((k + 1 : Nat) : Int))) m := by
  have hk : k < v.ps.length := (List.getElem?_eq_some_iff.1 hget).1
  have hmem := List.mem_of_getElem? hget
  have hl30 := VF.few
  have PI := VI.ps p hmem
  have PF := VF.ps p hmem
  obtain ⟨m2, hm2, E2, H2⟩ := new_row h (prC p)
  have C : PrAt m2 h.next p := ⟨H2⟩
  have VW := A.vw.ext E2
  have E02 := A.ext.trans E2
  have fh := atL_fits VI.held k
  have hid := PF.id
  have Z := Has.here m2 (.cells ([p.state, p.qty, p.price, p.most, p.filled, p.busted, p.worth, p.claims, p.need, atL v.held k].map (Value.int .i64)) false)
  have EZ : Ext m2 (m2.new (.cells ([p.state, p.qty, p.price, p.most, p.filled, p.busted, p.worth, p.claims, p.need, atL v.held k].map (Value.int .i64)) false)) := (Ext.refl _).new _
  have q6 := c_rrow (r := r) (n := n) (s := [112, 97, 114, 101, 110, 116, 32] ++ p.id) (Is.of Z)
    (fun z hz => by
      simp only [List.mem_cons, List.not_mem_nil, or_false] at hz
      rcases hz with rfl | rfl | rfl | rfl | rfl | rfl | rfl | rfl | rfl | rfl
      · exact PI.state
      · exact PI.qty
      · exact PI.price
      · exact PI.most
      · exact PI.filled
      · exact PI.busted
      · exact PI.worth
      · exact PI.claims
      · exact PI.need
      · exact fh) (by simp; omega) (by simp) hr
  have hpl := parT_len PF (atL v.held k)
  obtain ⟨m8, E8, e8⟩ := rkids_run (n := n) (r := r) (x1 := x1) (x4 := (k : Int)) (s := s ++ parT p (atL v.held k)) (C.ext EZ) (((V.kids p hmem).ext E02).ext EZ) PI.kids PF (by rw [List.length_append]; omega) hr
  have hs : ({ data := #[112, 97, 114, 101, 110, 116, 32] } : ByteArray) ++ txt p.id = txt ([112, 97, 114, 101, 110, 116, 32] ++ p.id) := by
    show txt [112, 97, 114, 101, 110, 116, 32] ++ txt p.id = _
    simp only [txt_app]
  refine ⟨m8, A.on ((E2.trans EZ).trans E8), fun {R} nx K => ?_⟩
  rw [e18_0, A.vw.r2, optK_mk, castSl_mk, decide_eq_true (by omega), cond_true, optK_mk, castSl_mk, (V.ps.ext A.ext).row (P := P31) und58 cel87 agg87 (by omega) hget rfl rfl, hm2, VW.l5, optK_mk, castSl_mk, callK_mk (c_rat (V.held.ext E02) k), castI_mk,
    C.l0, optK_mk, castS_mk, same_str C.l0, cond_true, ifK_pos (by rw [txt_size]; omega), C.l4, optK_mk, castI_mk, same_int C.l4, cond_true, C.l6, optK_mk, castI_mk, same_int C.l6, cond_true, C.l7, optK_mk, castI_mk, same_int C.l7, cond_true,
    C.l10, optK_mk, castI_mk, same_int C.l10, cond_true, C.l11, optK_mk, castI_mk, same_int C.l11, cond_true, C.l12, optK_mk, castI_mk, same_int C.l12, cond_true, C.l13, optK_mk, castI_mk, same_int C.l13, cond_true,
    C.l14, optK_mk, castI_mk, same_int C.l14, cond_true, C.l15, optK_mk, castI_mk, same_int C.l15, cond_true, hs]
  erw [callK_mk q6]
  show (castS (.string (txt (parT p (atL v.held k)))) fun s43 => _) = _
  rw [castS_mk, ifK_pos (by rw [txt_size, txt_size]; omega), txt_app]
  erw [e8]
  rw [e18_8x2, wrap_succ (by omega), List.append_assoc]

theorem rused_step {s : List UInt8} {k : Nat} (A : RefAt h0 x1 v h) (V : VwIn h0 v) (VI : VwInts v) (hk : k < v.used.length) (hl60 : v.used.length ≤ 60) (hl : s.length ≤ 1000000000) (hr : 1000000 ≤ r) :
    ∃ m, RefAt h0 x1 v m ∧ ∀ {R : Type} (nx : Env → H → Option R) (K : Exit → Env → H → Option R),
      evCode P31 (ev31 r (n + 3)) (jmp31 r (n + 3) 18) (dead31 18) r 4 (pc [1, 1, 1, 1, 1, 0, 1, 0, 0] (bd Tryz.f18)) (E18_16 (.pointer (some ⟨x1, 0, none⟩)) (.string (txt s)) (.int .i64 (k : Int))) h (loopK nx (dead31 18 (4 * 4)) (dead31 18 (4 * 4 + 2)) (dead31 18 1000002) K) =
      nx (E18_16 (.pointer (some ⟨x1, 0, none⟩)) (.string (txt (s ++ rowT [117, 115, 101, 100] [atL v.used k, atL v.real k]))) (.int .i64 ((k + 1 : Nat) : Int))) m := by
  have hget : v.used[k]? = some v.used[k] := List.getElem?_eq_getElem hk
  have fu := atL_fits VI.used k
  have fr := atL_fits VI.real k
  have hz := atL_of hget
  generalize v.used[k] = z at hget hz
  rw [hz] at fu ⊢
  have Z := Has.here h (.cells ([z, atL v.real k].map (Value.int .i64)) false)
  have EZ : Ext h (h.new (.cells ([z, atL v.real k].map (Value.int .i64)) false)) := (Ext.refl _).new _
  have q6 := c_rrow (r := r) (n := n) (s := [117, 115, 101, 100]) (Is.of Z) (fun y hy => by
      simp only [List.mem_cons, List.not_mem_nil, or_false] at hy
      rcases hy with rfl | rfl
      · exact fu
      · exact fr) (by simp) (by simp) hr
  have hrl := rowT_len [117, 115, 101, 100] [z, atL v.real k]
  simp only [List.length_cons, List.length_nil] at hrl
  refine ⟨_, A.on EZ, fun {R} nx K => ?_⟩
  have US := V.used.ext A.ext
  obtain ⟨j, o, q1, q2⟩ := US.cell (P := P31) (f := 0) und23 cel3 agg3 hget rfl
  rw [Nat.add_zero] at q2
  have l3 := A.vw.l3
  rw [e18_16, l3, optK_mk, castSl_mk, decide_eq_true (by omega), cond_true, A.vw.l4, optK_mk, castSl_mk, callK_mk (c_rat (V.real.ext A.ext) k), castI_mk, l3, optK_mk, castSl_mk, same_sl US l3, cond_true, q1]
  simp only [addrK_mk]
  rw [q2, optK_mk, castI_mk, same_int q2, cond_true]
  erw [callK_mk q6]
  rw [castS_mk, ifK_pos (by rw [txt_size, txt_size]; omega), txt_app, wrap_succ (by omega)]

theorem rfault_step {s : List UInt8} {k : Nat} (A : RefAt h0 x1 v h) (V : VwIn h0 v) (VI : VwInts v) (hk : k < v.faults.length) (hl60 : v.faults.length ≤ 60) (hl : s.length ≤ 1000000000) (hr : 1000000 ≤ r) :
    ∃ m, RefAt h0 x1 v m ∧ ∀ {R : Type} (nx : Env → H → Option R) (K : Exit → Env → H → Option R),
      evCode P31 (ev31 r (n + 3)) (jmp31 r (n + 3) 18) (dead31 18) r 6 (pc [1, 1, 1, 1, 1, 1, 0, 1, 0, 0] (bd Tryz.f18)) (E18_24 (.pointer (some ⟨x1, 0, none⟩)) (.string (txt s)) (.int .i64 (k : Int))) h (loopK nx (dead31 18 (4 * 6)) (dead31 18 (4 * 6 + 2)) (dead31 18 1000002) K) =
      nx (E18_24 (.pointer (some ⟨x1, 0, none⟩)) (.string (txt (s ++ rowT [102, 97, 117, 108, 116, 115] [atL v.faults k]))) (.int .i64 ((k + 1 : Nat) : Int))) m := by
  have hget : v.faults[k]? = some v.faults[k] := List.getElem?_eq_getElem hk
  have fu := atL_fits VI.faults k
  have hz := atL_of hget
  generalize v.faults[k] = z at hget hz
  rw [hz] at fu ⊢
  have Z := Has.here h (.cells ([z].map (Value.int .i64)) false)
  have EZ : Ext h (h.new (.cells ([z].map (Value.int .i64)) false)) := (Ext.refl _).new _
  have q6 := c_rrow (r := r) (n := n) (s := [102, 97, 117, 108, 116, 115]) (Is.of Z) (fun y hy => by
      simp only [List.mem_singleton] at hy
      subst hy
      exact fu) (by simp) (by simp) hr
  have hrl := rowT_len [102, 97, 117, 108, 116, 115] [z]
  simp only [List.length_cons, List.length_nil] at hrl
  refine ⟨_, A.on EZ, fun {R} nx K => ?_⟩
  have FS := V.faults.ext A.ext
  obtain ⟨j, o, q1, q2⟩ := FS.cell (P := P31) (f := 0) und23 cel3 agg3 hget rfl
  rw [Nat.add_zero] at q2
  have l6 := A.vw.l6
  rw [e18_24, l6, optK_mk, castSl_mk, decide_eq_true (by omega), cond_true, optK_mk, castSl_mk, q1]
  simp only [addrK_mk]
  rw [q2, optK_mk, castI_mk]
  erw [callK_mk q6]
  rw [castS_mk, ifK_pos (by rw [txt_size, txt_size]; omega), txt_app, wrap_succ (by omega)]

theorem ref_tail {s : List UInt8} (A : RefAt h0 x1 v h) (V : VwIn h0 v) (VI : VwInts v) (VF : VwFew v) (hs : s ++ [10] = headT v) (hr : 1000000 ≤ r) :
    ∃ m, Ext h0 m ∧ jmp31 r (n + 4) 18 0 (pc [1, 1, 1] (bd Tryz.f18)) (E18_2 (.pointer (some ⟨x1, 0, none⟩)) (.string (txt s))) h = some (.ret, E18_r (.string (txt (reportT v))), m) := by
  have hl30 := VF.few
  have hlu := VF.fu
  have hlf := VF.ff
  have hh := headT_len (v := v)
  have hsl : s.length ≤ 40 := by rw [← hs] at hh; simp at hh; omega
  obtain ⟨_, m1, A1, e1⟩ := loop_run (P := P31) (call := ev31 r (n + 3)) (jmp := jmp31 r (n + 3) 18) (dead := dead31 18) (rounds := r) (c := 0) (code := pc [1, 1, 1, 1, 0, 1, 0, 0] (bd Tryz.f18)) (d := dead31 18 (4 * 0)) (d' := dead31 18 (4 * 0 + 2)) (dr := dead31 18 1000002) (σ := Unit) v.ps.length (fun k _ hh => RefAt h0 x1 v hh)
    (fun k _ => E18_0 (.pointer (some ⟨x1, 0, none⟩)) (.string (txt (headT v ++ psT v k))) (.int .i64 (k : Int))) (xT := .exit 0) (envT := fun _ => E18_2 (.pointer (some ⟨x1, 0, none⟩)) (.string (txt (headT v ++ psT v v.ps.length)))) (s0 := ()) (h := h) (fun k _ hh hlt A1 => by
      have hget : v.ps[k]? = some v.ps[k] := List.getElem?_eq_getElem hlt
      have hpl := psT_len VF k
      obtain ⟨m, A2, e⟩ := rpar_step (n := n) (s := headT v ++ psT v k) A1 V VI VF hget (by rw [List.length_append]; omega) hr
      refine ⟨(), m, A2, fun {R} nx K => ?_⟩
      rw [psT, hget, ← List.append_assoc]; exact e nx K)
    (fun _ hh A1 {R} nx K => by rw [e18_0, A1.vw.r2, optK_mk, castSl_mk, decide_eq_false (by omega), cond_false]) A (r := r) (by omega)
  have hpl := psT_len VF v.ps.length
  obtain ⟨_, m2, A2, e2⟩ := loop_run (P := P31) (call := ev31 r (n + 3)) (jmp := jmp31 r (n + 3) 18) (dead := dead31 18) (rounds := r) (c := 4) (code := pc [1, 1, 1, 1, 1, 0, 1, 0, 0] (bd Tryz.f18)) (d := dead31 18 (4 * 4)) (d' := dead31 18 (4 * 4 + 2)) (dr := dead31 18 1000002) (σ := Unit) v.used.length (fun k _ hh => RefAt h0 x1 v hh)
    (fun k _ => E18_16 (.pointer (some ⟨x1, 0, none⟩)) (.string (txt (headT v ++ psT v v.ps.length ++ usT v k))) (.int .i64 (k : Int))) (xT := .exit 4) (envT := fun _ => E18_2 (.pointer (some ⟨x1, 0, none⟩)) (.string (txt (headT v ++ psT v v.ps.length ++ usT v v.used.length)))) (s0 := ()) (h := m1) (fun k _ hh hlt A1 => by
      have hul := usT_len (v := v) k
      obtain ⟨m, A2, e⟩ := rused_step (n := n) (s := headT v ++ psT v v.ps.length ++ usT v k) A1 V VI hlt hlu (by rw [List.length_append, List.length_append]; omega) hr
      refine ⟨(), m, A2, fun {R} nx K => ?_⟩
      rw [usT, ← List.append_assoc]; exact e nx K)
    (fun _ hh A1 {R} nx K => by rw [e18_16, A1.vw.l3, optK_mk, castSl_mk, decide_eq_false (by omega), cond_false]) A1 (r := r) (by omega)
  have hul := usT_len (v := v) v.used.length
  obtain ⟨_, m3, A3, e3⟩ := loop_run (P := P31) (call := ev31 r (n + 3)) (jmp := jmp31 r (n + 3) 18) (dead := dead31 18) (rounds := r) (c := 6) (code := pc [1, 1, 1, 1, 1, 1, 0, 1, 0, 0] (bd Tryz.f18)) (d := dead31 18 (4 * 6)) (d' := dead31 18 (4 * 6 + 2)) (dr := dead31 18 1000002) (σ := Unit) v.faults.length (fun k _ hh => RefAt h0 x1 v hh)
    (fun k _ => E18_24 (.pointer (some ⟨x1, 0, none⟩)) (.string (txt (headT v ++ psT v v.ps.length ++ usT v v.used.length ++ faT v k))) (.int .i64 (k : Int))) (xT := .exit 6) (envT := fun _ => E18_26 (.string (txt (reportT v)))) (s0 := ()) (h := m2) (fun k _ hh hlt A1 => by
      have hfl := faT_len (v := v) k
      obtain ⟨m, A2, e⟩ := rfault_step (n := n) (s := headT v ++ psT v v.ps.length ++ usT v v.used.length ++ faT v k) A1 V VI hlt hlf (by rw [List.length_append, List.length_append, List.length_append]; omega) hr
      refine ⟨(), m, A2, fun {R} nx K => ?_⟩
      rw [faT, ← List.append_assoc]; exact e nx K)
    (fun _ hh A1 {R} nx K => by rw [e18_24, A1.vw.l6, optK_mk, castSl_mk, decide_eq_false (by omega), cond_false]; rfl) A2 (r := r) (by omega)
  simp only [psT, List.append_nil] at e1
  simp only [usT, List.append_nil] at e2
  simp only [faT, List.append_nil] at e3
  rw [show ((0 : Nat) : Int) = 0 from rfl] at e1 e2 e3
  refine ⟨m3, A3.ext, ?_⟩
  have hc : txt s ++ ({ data := #[10] } : ByteArray) = txt (headT v) := by
    show txt s ++ txt [10] = _
    rw [txt_app, hs]
  rw [e18_9c, ifK_pos (by rw [txt_size]; omega), hc, e1, e18_0x0, e2, e18_16x4, e3, e18_24x6]

theorem c_rreport (V : VwIn h v) (VI : VwInts v) (VF : VwFew v) (hr : 1000000 ≤ r) : Gives (ev31 r (n + 5) 18 [vwV v] h) fun y h' => y = .string (txt (reportT v)) ∧ Ext h h' := by
  unfold vwV
  rw [e18]
  obtain ⟨m0, hm0, E0, H0⟩ := new_row h (vwC v)
  have hi := itoaL_len v.now
  unfold vwC at hm0
  rw [hm0]
  have A : VwAt m0 h.next v := ⟨H0⟩
  have e0 : ({ data := #[110, 111, 119, 32] } : ByteArray) ++ txt (itoaL v.now) = txt ([110, 111, 119, 32] ++ itoaL v.now) := by
    show txt [110, 111, 119, 32] ++ txt (itoaL v.now) = _
    rw [txt_app]
  rw [A.l0, optK_mk, castI_mk, callK_mk (c_number VI.now), castS_mk, ifK_pos (by rw [txt_size]; omega), A.l1, optK_mk, castV_mk]
  cases hkd : v.killed with
  | true =>
    have hT : [110, 111, 119, 32] ++ itoaL v.now ++ [32, 107, 105, 108, 108, 101, 100] ++ [10] = headT v := by unfold headT; rw [hkd]; simp
    have ew : ({ data := #[110, 111, 119, 32] } : ByteArray) ++ txt (itoaL v.now) ++ { data := #[32, 107, 105, 108, 108, 101, 100] } = txt ([110, 111, 119, 32] ++ itoaL v.now ++ [32, 107, 105, 108, 108, 101, 100]) := by
      rw [e0]; show txt _ ++ txt [32, 107, 105, 108, 108, 101, 100] = _
      rw [txt_app]
    obtain ⟨m3, E3, q3⟩ := ref_tail (r := r) (n := n) (h0 := h) (x1 := h.next) (v := v) (h := m0) ⟨E0, A⟩ V VI VF hT hr
    rw [cond_true, ifK_pos (by rw [e0, txt_size]; simp; omega), ew, jumpK_mk q3, e18_9r]
    exact .mk ⟨rfl, E3⟩
  | false =>
    have hT : [110, 111, 119, 32] ++ itoaL v.now ++ [10] = headT v := by unfold headT; rw [hkd]; rfl
    obtain ⟨m3, E3, q3⟩ := ref_tail (r := r) (n := n) (h0 := h) (x1 := h.next) (v := v) (h := m0) ⟨E0, A⟩ V VI VF hT hr
    rw [cond_false, e0, jumpK_mk q3, e18_9r]
    exact .mk ⟨rfl, E3⟩
end
end Go.Ev
