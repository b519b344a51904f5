/-
  ScriptReports: a view, copied for the reference.
-/
import Derived.Test.YtofgaidlepmcmaaGreatDoorV31
namespace Go.Ev
open Go Go.Proofs

def Apart (a b : Option Addr) : Prop := ∀ i o o', a = some ⟨i, o, none⟩ → b = some ⟨i, o', none⟩ → False
theorem Acc.below {α : Type} {e : α → List Value} {k : Nat} {h0 h1 h : H} {a : Option Addr} {st : Nat} {l : List α} (A : Acc e k h1 h a st l) (E : h0.next ≤ h1.next) : Acc e k h0 h a st l :=
  A.imp id fun ⟨q1, j, c, q2, q3, q4⟩ => ⟨q1, j, c, q2, Nat.le_trans E q3, q4⟩

/-- An address behind a block's number, or none. -/
def Far (a : Option Addr) (n : Nat) : Prop := ∀ i o, a = some ⟨i, o, none⟩ → n < i
theorem Far.nil (n : Nat) : Far none n := fun i o h => by cases h
theorem Far.ne {a : Option Addr} {n i : Nat} (h : Far a n) (hi : i ≤ n) (o : Nat) : a ≠ some ⟨i, o, none⟩ := fun e => by have := h i o e; omega
/-- An append to a list whose slice lies in a block's cell. -/
structure Copied {α : Type} (P : Program) (e : α → List Value) (k : Nat) (ts : Array TypeId) (h m : H) (a : Option Addr) (st : Nat) (l : List α) (x : α) (x3 f : Nat) (c : List Value) (b : Option Addr) (m5 m6 : H) : Prop where
  app : ∀ {R : Type} (K : Value → H → Option R), appendA P ts (.slice a l.length st) (.slice (some ⟨m.next, 0, none⟩) 1 k) (m.new (.cells (e x) false)) K = K (.slice b (l.length + 1) k) m5
  st : stCells m5 x3 f [.slice b (l.length + 1) k] = some m6
  ext : Ext h m6
  acc : Acc e k h m6 b k (l ++ [x])
  far : Far b x3
  has : Has m6 x3 (.cells (c.set f (.slice b (l.length + 1) k)) false)
  old : ∀ i bl, Has m i bl → i ≠ x3 → (∀ o, a ≠ some ⟨i, o, none⟩) → Has m6 i bl
  own : Far b (m.next - 1)
theorem copy_core {α : Type} {P : Program} {e : α → List Value} {k : Nat} {ts : Array TypeId} {h m : H} {a : Option Addr} {st : Nat} {l : List α} {x3 f bytes : Nat} {c : List Value} (E : Ext h m) (h3 : h.next ≤ x3) (H3 : Has m x3 (.cells c false)) (hf : f < c.length)
    (A : Acc e k h m a st l) (far : Far a x3) (x : α) (hk : (e x).length = k) (hok : appOk P ts k bytes = true) (hb : bytes ≤ 1000) (hl : l.length < 1000000000) : ∃ b m5 m6, Copied P e k ts h m a st l x x3 f c b m5 m6 := by
  obtain ⟨b, m5, q, p⟩ := A.push (P := P) (x := x) E hk hok hb hl
  obtain ⟨jb, ej, hle⟩ := p.own
  have H5 : Has m5 x3 (.cells c false) := p.old _ _ H3 (far.ne (Nat.le_refl _))
  have hlt : x3 < m.next := H3.1
  have farb : Far b x3 := fun i o hi => by rw [ej] at hi; cases hi; omega
  refine ⟨b, m5, m5.put x3 (.cells (c.set f (.slice b (l.length + 1) k)) false), fun {R} K => q K, st_one H5 hf, p.ext.put h3 _, p.acc.put (farb.ne (Nat.le_refl _)) _, farb, H5.over _, fun i bl hi hne ho => (p.old i bl hi ho).put hne _, fun i o hi => by rw [ej] at hi; cases hi; omega⟩

/-- Another list stays. -/
theorem Copied.keep {α β : Type} {P : Program} {e : α → List Value} {e2 : β → List Value} {k k2 : Nat} {ts : Array TypeId} {h m m5 m6 : H} {a b a2 : Option Addr} {st st2 : Nat} {l : List α} {l2 : List β} {x : α} {x3 f : Nat} {c : List Value}
    (p : Copied P e k ts h m a st l x x3 f c b m5 m6) (B : Acc e2 k2 h m a2 st2 l2) (hd : Apart a a2) (hf : Far a2 x3) : Acc e2 k2 h m6 a2 st2 l2 ∧ Apart b a2 := by
  refine ⟨B.keep fun j bl hb hj => p.old j bl hj (fun e => hf.ne (i := j) (by omega) 0 hb) fun o e => hd j o 0 e hb, fun i o o' e1 e2 => ?_⟩
  have h1 := p.own i o e1
  rcases B with ⟨_, h2, _⟩ | ⟨_, j2, c2, h2, _, h3, _⟩
  · rw [h2] at e2; cases e2
  · rw [h2] at e2; cases e2; have := h3.1; omega


/-- A parent without its addresses. -/
def strip (p : Pr) : Pr := { p with ka := none, kt := 0 }
structure VwLike (v v' : Vw) : Prop where
  now : v'.now = v.now
  killed : v'.killed = v.killed
  used : v'.used = v.used
  real : v'.real = v.real
  held : v'.held = v.held
  faults : v'.faults = v.faults
  ps : v'.ps.map strip = v.ps.map strip
theorem VwLike.len {v v' : Vw} (L : VwLike v v') : v'.ps.length = v.ps.length := by have := congrArg List.length L.ps; simpa using this

section
variable {r n : Nat} {h m m' : H} {v : Vw} {p : Pr}
theorem c_plainV (V : VwIn h v) (VF : VwFew v) (hr : 1000000 ≤ r) : Gives (ev31 r (n + 2) 17 [vwV v] h) fun y h' => Ext h h' ∧ ∃ v', y = vwV v' ∧ VwIn h' v' ∧ VwLike v v' := by
  unfold vwV
  rw [e17]
  obtain ⟨m0, hm0, E0, H0⟩ := new_row h (vwC v)
  obtain ⟨m1, hm1, E1, H1⟩ := new_row m0 [Value.int .i64 0, Value.bool false, Value.slice none 0 0, Value.slice none 0 0, Value.slice none 0 0, Value.slice none 0 0, Value.slice none 0 0]
  have hn : h.next + 1 = m0.next := by rw [← hm0]; rfl
  have hn1 : m1.next = h.next + 2 := by rw [← hm1, ← hm0]; rfl
  unfold vwC at hm0
  rw [hm0, hm1]
  rw [← hn] at H1
  have A1 : VwAt m1 h.next v := ⟨H0.ext E1⟩
  have E01 := E0.trans E1
  rw [A1.l0, optK_mk, castI_mk, A1.l1, optK_mk, castV_mk, A1.l3, optK_mk, castSl_mk, A1.l4, optK_mk, castSl_mk, A1.l5, optK_mk, castSl_mk, A1.l6, optK_mk, castSl_mk]
  rw [show h.next + 1 + 1 = m1.next by omega, st_new (zs := [Value.int .i64 0, Value.bool false, Value.slice none 0 0, Value.slice none 0 0, Value.slice none 0 0, Value.slice none 0 0, Value.slice none 0 0]) (cs := [.int .i64 v.now, .bool v.killed, .slice none 0 0, .slice v.ua v.used.length v.ut, .slice v.ra v.real.length v.rt, .slice v.ha v.held.length v.ht, .slice v.fa v.faults.length v.ft]) rfl, optK_mk]
  obtain ⟨m2, hm2, E2, H2⟩ := new_row m1 [.int .i64 v.now, .bool v.killed, .slice none 0 0, .slice v.ua v.used.length v.ut, .slice v.ra v.real.length v.rt, .slice v.ha v.held.length v.ht, .slice v.fa v.faults.length v.ft]
  rw [hm2]
  have hx3 : m1.next = h.next + 2 := hn1
  have E02 := E01.trans E2
  have l2 : ldV P31 22 h.next 2 m2 = some (.slice v.pa v.ps.length v.pt) := ld_at agg22 (A1.has.ext E2)
  rw [l2, optK_mk, castSl_mk]
  generalize hx3g : m1.next = x3 at *
  have hl40 := VF.few
  obtain ⟨⟨pa', pt', qs⟩, m3, ⟨E3, H3, C3, A3, F3, K3, S3⟩, e⟩ := loop_run (P := P31) (call := ev31 r (n + 1)) (jmp := jmp31 r (n + 1) 17) (dead := dead31 17) (rounds := r) (c := 0) (code := pc [1, 1, 0, 1, 0, 0] (bd Tryz.f17)) (d := dead31 17 (4 * 0)) (d' := dead31 17 (4 * 0 + 2)) (dr := dead31 17 1000002) (σ := Option Addr × Nat × List Pr) v.ps.length
    (fun k x hh => Ext h hh ∧ Has hh (h.next + 1) (.cells [Value.int .i64 0, Value.bool false, Value.slice none 0 0, Value.slice none 0 0, Value.slice none 0 0, Value.slice none 0 0, Value.slice none 0 0] false) ∧ Has hh x3 (.cells [.int .i64 v.now, .bool v.killed, .slice x.1 k x.2.1, .slice v.ua v.used.length v.ut, .slice v.ra v.real.length v.rt, .slice v.ha v.held.length v.ht, .slice v.fa v.faults.length v.ft] false) ∧ Acc prC 17 h hh x.1 x.2.1 x.2.2 ∧ Far x.1 x3 ∧
      (∀ q ∈ x.2.2, Acc kidC 10 h hh q.ka q.kt q.kids ∧ Far q.ka x3 ∧ Apart x.1 q.ka) ∧ x.2.2.map strip = (v.ps.take k).map strip)
    (fun k x => E17_0 (.pointer (some ⟨h.next + 1, 0, none⟩)) (.pointer (some ⟨x3, 0, none⟩)) (.slice v.pa v.ps.length v.pt) (.int .i64 (v.ps.length : Int)) (.int .i64 (k : Int))) (xT := .exit 0) (envT := fun x => E17_2 (.pointer (some ⟨h.next + 1, 0, none⟩)) (.pointer (some ⟨x3, 0, none⟩))) (s0 := (none, 0, [])) (h := m2) (fun k ⟨pa', pt', qs⟩ hh hlt ⟨E3, H3, C3, A3, F3, K3, S3⟩ => by
      simp only at C3 A3 F3 K3 S3 ⊢
      have hget : v.ps[k]? = some v.ps[k] := List.getElem?_eq_getElem hlt
      have htk : v.ps.take (k + 1) = v.ps.take k ++ [v.ps[k]] := by rw [List.take_add_one, hget]; rfl
      have hmem : v.ps[k] ∈ v.ps := List.getElem_mem hlt
      generalize v.ps[k] = p at hget htk hmem
      have hqs : qs.length = k := by have := congrArg List.length S3; simp at this; omega
      have PF := VF.ps p hmem
      have hl60 := PF.few
      obtain ⟨m4, hm4, E4, H4⟩ := new_row hh (prC p)
      have B : PrAt m4 hh.next p := ⟨H4⟩
      let q0 : Pr := { p with kids := [], ka := none, kt := 0 }
      obtain ⟨m5, hm5, E5, H5⟩ := new_row m4 (prC q0)
      have E35 := E4.trans E5
      have KS := (V.kids p hmem).ext (E3.trans E35)
      -- its children
      obtain ⟨⟨ka', kt'⟩, m6, ⟨E6, C6, A6, F6⟩, e6⟩ := loop_run (P := P31) (call := ev31 r (n + 1)) (jmp := jmp31 r (n + 1) 17) (dead := dead31 17) (rounds := r) (c := 2) (code := pc [1, 1, 0, 1, 0, 0, 1, 1, 0, 0, 1, 1, 0, 1, 0, 0] (bd Tryz.f17)) (d := dead31 17 (4 * 2)) (d' := dead31 17 (4 * 2 + 2)) (dr := dead31 17 1000002) (σ := Option Addr × Nat) p.kids.length
        (fun j x hj => Ext hh hj ∧ Has hj m4.next (.cells (prC { p with kids := p.kids.take j, ka := x.1, kt := x.2 }) false) ∧ Acc kidC 10 hh hj x.1 x.2 (p.kids.take j) ∧ Far x.1 m4.next)
        (fun j x => E17_8 (.pointer (some ⟨h.next + 1, 0, none⟩)) (.pointer (some ⟨x3, 0, none⟩)) (.pointer (some ⟨m4.next, 0, none⟩)) (.slice v.pa v.ps.length v.pt) (.int .i64 (v.ps.length : Int)) (.int .i64 (k : Int)) (.slice p.ka p.kids.length p.kt) (.int .i64 (p.kids.length : Int)) (.int .i64 (j : Int))) (xT := .exit 2)
        (envT := fun x => E17_10 (.pointer (some ⟨h.next + 1, 0, none⟩)) (.pointer (some ⟨x3, 0, none⟩)) (.pointer (some ⟨m4.next, 0, none⟩)) (.slice v.pa v.ps.length v.pt) (.int .i64 (v.ps.length : Int)) (.int .i64 (k : Int))) (s0 := (none, 0)) (h := m5) (fun j ⟨ka', kt'⟩ hj hlt2 ⟨E6, C6, A6, F6⟩ => by
          simp only at C6 A6 F6 ⊢
          have hget2 : p.kids[j]? = some p.kids[j] := List.getElem?_eq_getElem hlt2
          have htk2 : p.kids.take (j + 1) = p.kids.take j ++ [p.kids[j]] := by rw [List.take_add_one, hget2]; rfl
          generalize p.kids[j] = c at hget2 htk2
          have hlen : (p.kids.take j).length = j := by rw [List.length_take]; omega
          obtain ⟨m7, hm7, E7, H7⟩ := new_row hj (kidC c)
          have k1 : ldV P31 85 m4.next 16 m7 = some (.slice ka' j kt') := by
            have : ldV P31 85 m4.next 16 m7 = some (.slice ka' (p.kids.take j).length kt') := ld_at agg85 (C6.ext E7)
            rw [hlen] at this; exact this
          have k2 : ldV P31 44 hj.next 0 m7 = some (.agg ⟨kidC c⟩) := by rw [ld_agg agg44 cel44 H7 (by simp [kidC])]; rfl
          obtain ⟨b, m8, m9, cp⟩ := copy_core (P := P31) (f := 16) (E6.trans E7) E4.1 (C6.ext E7) (by simp [prC]) (A6.ext E7) F6 c rfl app85 (by omega) (by omega)
          have q1 := fun (R : Type) => cp.app (R := R)
          have q2 := cp.st
          rw [hlen] at q1 q2
          refine ⟨(b, 10), m9, ⟨cp.ext, ?_, by rw [htk2]; exact cp.acc, cp.far⟩, fun {R} nx K => ?_⟩
          · have := cp.has
            have hl2 : (p.kids.take (j + 1)).length = (p.kids.take j).length + 1 := by rw [htk2]; simp
            show Has m9 m4.next (.cells [.string (txt p.id), .string (txt p.acc), .string (txt p.sym), .int .i64 p.side, .int .i64 p.state, .int .i64 p.algo, .int .i64 p.qty, .int .i64 p.price, .int .i64 p.start, .int .i64 p.stop, .int .i64 p.most, .int .i64 p.filled,
              .int .i64 p.busted, .int .i64 p.worth, .int .i64 p.claims, .int .i64 p.need, .slice b (p.kids.take (j + 1)).length 10] false)
            rw [hl2]; exact this
          · show evCode P31 (ev31 r (n + 1)) (jmp31 r (n + 1) 17) (dead31 17) r 2 (pc [1, 1, 0, 1, 0, 0, 1, 1, 0, 0, 1, 1, 0, 1, 0, 0] (bd Tryz.f17)) (E17_8 (.pointer (some ⟨h.next + 1, 0, none⟩)) (.pointer (some ⟨x3, 0, none⟩)) (.pointer (some ⟨m4.next, 0, none⟩)) (.slice v.pa v.ps.length v.pt) (.int .i64 (v.ps.length : Int)) (.int .i64 (k : Int)) (.slice p.ka p.kids.length p.kt) (.int .i64 (p.kids.length : Int)) (.int .i64 (j : Int))) hj (loopK nx (dead31 17 (4 * 2)) (dead31 17 (4 * 2 + 2)) (dead31 17 1000002) K) = _
            rw [e17_8, decide_eq_true (by omega), cond_true, ((V.kids p hmem).ext (E3.trans E6)).row und40 cel44 agg44 (by omega) hget2 rfl rfl, hm7, k1, optK_mk, castSl_mk, k2, optK_mk, castA_mk, ifK_pos (show (Value.agg ⟨kidC c⟩).cells.size = 10 from rfl)]
            erw [q1]
            rw [castSl_mk, q2, optK_mk, wrap_succ (by omega)])
        (fun x hj _ {R} nx K => by
          show evCode P31 (ev31 r (n + 1)) (jmp31 r (n + 1) 17) (dead31 17) r 2 (pc [1, 1, 0, 1, 0, 0, 1, 1, 0, 0, 1, 1, 0, 1, 0, 0] (bd Tryz.f17)) (E17_8 (.pointer (some ⟨h.next + 1, 0, none⟩)) (.pointer (some ⟨x3, 0, none⟩)) (.pointer (some ⟨m4.next, 0, none⟩)) (.slice v.pa v.ps.length v.pt) (.int .i64 (v.ps.length : Int)) (.int .i64 (k : Int)) (.slice p.ka p.kids.length p.kt) (.int .i64 (p.kids.length : Int)) (.int .i64 (p.kids.length : Int))) hj (loopK nx (dead31 17 (4 * 2)) (dead31 17 (4 * 2 + 2)) (dead31 17 1000002) K) = _
          rw [e17_8, decide_eq_false (by omega), cond_false]) ⟨E35, H5, .nil _ _, .nil _⟩ (r := r) (by omega)
      simp only at e6 C6 A6 F6
      rw [show ((0 : Nat) : Int) = 0 from rfl] at e6
      rw [List.take_length] at C6 A6
      let q : Pr := { p with ka := ka', kt := kt' }
      have C6' : Has m6 m4.next (.cells (prC q) false) := C6
      have lq : ldV P31 87 m4.next 0 m6 = some (.agg ⟨prC q⟩) := by rw [ld_agg agg87 cel87 C6' (by simp [prC])]; rfl
      have l42 : ldV P31 58 x3 2 m6 = some (.slice pa' k pt') := ld_at agg58 (C3.ext E6)
      have E36 := E3.trans E6
      obtain ⟨b, m8, m9, cp⟩ := copy_core (P := P31) (f := 2) E36 (by omega) (C3.ext E6) (by simp) (A3.ext E6) F3 q rfl app58 (by omega) (by omega)
      have q1 := fun (R : Type) => cp.app (R := R)
      have q2 := cp.st
      rw [hqs] at q1 q2
      have hlt3 : x3 < hh.next := C3.1
      have apq : Apart pa' ka' := fun i o o' e1 e2 => by
        have h1 := F6 i o' e2
        rcases A3 with ⟨_, h2, _⟩ | ⟨_, j2, c2, h2, _, h3, _⟩
        · rw [h2] at e1; cases e1
        · rw [h2] at e1; cases e1; have := h3.1; have := E4.1; omega
      have farq : Far ka' x3 := fun i o e1 => by have h1 := F6 i o e1; have := E4.1; omega
      have kq := cp.keep (A6.below E3.1) apq farq
      refine ⟨(b, 17, qs ++ [q]), m9, ⟨cp.ext, cp.old _ _ (H3.ext E6) (by omega) (F3.ne (by omega)), ?_, cp.acc, cp.far, fun y hy => ?_, ?_⟩, fun {R} nx K => ?_⟩
      · have := cp.has; rw [hqs] at this; exact this
      · rcases List.mem_append.1 hy with hy | hy
        · obtain ⟨h1, h2, h3⟩ := K3 y hy
          have kk := cp.keep (h1.ext E6) h3 h2
          exact ⟨kk.1, h2, kk.2⟩
        · simp only [List.mem_singleton] at hy
          subst hy
          exact ⟨kq.1, farq, kq.2⟩
      · rw [htk, List.map_append, List.map_append, S3]; rfl
      · show evCode P31 (ev31 r (n + 1)) (jmp31 r (n + 1) 17) (dead31 17) r 0 (pc [1, 1, 0, 1, 0, 0] (bd Tryz.f17)) (E17_0 (.pointer (some ⟨h.next + 1, 0, none⟩)) (.pointer (some ⟨x3, 0, none⟩)) (.slice v.pa v.ps.length v.pt) (.int .i64 (v.ps.length : Int)) (.int .i64 (k : Int))) hh (loopK nx (dead31 17 (4 * 0)) (dead31 17 (4 * 0 + 2)) (dead31 17 1000002) K) = _
        rw [e17_0, decide_eq_true (by omega), cond_true, (V.ps.ext E3).row (P := P31) und22 cel42 agg42 (by omega) hget rfl rfl, hm4, B.l0, optK_mk, castS_mk, B.l1, optK_mk, castS_mk, B.l2, optK_mk, castS_mk, B.l3, optK_mk, castI_mk, B.l4, optK_mk, castI_mk,
          B.l5, optK_mk, castI_mk, B.l6, optK_mk, castI_mk, B.l7, optK_mk, castI_mk, B.l8, optK_mk, castI_mk, B.l9, optK_mk, castI_mk, B.l10, optK_mk, castI_mk, B.l11, optK_mk, castI_mk, B.l12, optK_mk, castI_mk, B.l13, optK_mk, castI_mk,
          B.l14, optK_mk, castI_mk, B.l15, optK_mk, castI_mk]
        have st5 : stCells (m4.new (.cells [Value.string (txt []), Value.string (txt []), Value.string (txt []), Value.int .i64 0, Value.int .i64 0, Value.int .i64 0, Value.int .i64 0, Value.int .i64 0, Value.int .i64 0, Value.int .i64 0, Value.int .i64 0, Value.int .i64 0, Value.int .i64 0, Value.int .i64 0, Value.int .i64 0, Value.int .i64 0, Value.slice none 0 0] false)) m4.next 0 (prC q0) = some m5 := by rw [← hm5]; exact st_new rfl
        erw [st5]
        rw [optK_mk, (B.ext E5).l16, optK_mk, castSl_mk, e6, e17_8x2, l42, optK_mk, castSl_mk, lq, optK_mk, castA_mk, ifK_pos (show (Value.agg ⟨prC q⟩).cells.size = 17 from rfl)]
        erw [q1]
        rw [castSl_mk, q2, optK_mk, wrap_succ (by omega)])
    (fun x hj _ {R} nx K => by
      show evCode P31 (ev31 r (n + 1)) (jmp31 r (n + 1) 17) (dead31 17) r 0 (pc [1, 1, 0, 1, 0, 0] (bd Tryz.f17)) (E17_0 (.pointer (some ⟨h.next + 1, 0, none⟩)) (.pointer (some ⟨x3, 0, none⟩)) (.slice v.pa v.ps.length v.pt) (.int .i64 (v.ps.length : Int)) (.int .i64 (v.ps.length : Int))) hj (loopK nx (dead31 17 (4 * 0)) (dead31 17 (4 * 0 + 2)) (dead31 17 1000002) K) = _
      rw [e17_0, decide_eq_false (by omega), cond_false]) ⟨E02, H1.ext E2, H2, .nil _ _, .nil _, fun q hq => by simp at hq, rfl⟩ (r := r) (by omega)
  simp only at e C3 A3 F3 K3 S3
  rw [show ((0 : Nat) : Int) = 0 from rfl] at e
  rw [List.take_length] at S3
  have hqs : qs.length = v.ps.length := by have := congrArg List.length S3; simpa using this
  let v' : Vw := { v with ps := qs, pa := pa', pt := pt' }
  have C3' : Has m3 x3 (.cells (vwC v') false) := by
    show Has m3 x3 (.cells [.int .i64 v.now, .bool v.killed, .slice pa' qs.length pt', .slice v.ua v.used.length v.ut, .slice v.ra v.real.length v.rt, .slice v.ha v.held.length v.ht, .slice v.fa v.faults.length v.ft] false)
    rw [hqs]; exact C3
  have l44 : ldV P31 60 x3 0 m3 = some (.agg ⟨vwC v'⟩) := by rw [ld_agg agg60 cel60 C3' (by simp [vwC])]; rfl
  have EE : Ext h (m3.put (h.next + 1) (.cells (vwC v') false)) := E3.put (by omega) _
  have lf : ldV P31 60 (h.next + 1) 0 (m3.put (h.next + 1) (.cells (vwC v') false)) = some (.agg ⟨vwC v'⟩) := by rw [ld_agg agg60 cel60 (H3.over (.cells (vwC v') false)) (by simp [vwC])]; rfl
  rw [e, e17_0x0, l44, optK_mk, castA_mk, ifK_pos (by rw [cel60]; rfl), show (Value.agg ⟨vwC v'⟩).cells.toList = vwC v' from rfl, st_all (vs := vwC v') H3 rfl, optK_mk, lf, optK_mk]
  exact .mk ⟨EE, v', rfl, ⟨(A3.put (F3.ne (by omega)) _).sl, fun q hq => ((K3 q hq).1.put ((K3 q hq).2.1.ne (by omega)) _).sl, V.used.ext EE, V.real.ext EE, V.held.ext EE, V.faults.ext EE⟩, ⟨rfl, rfl, rfl, rfl, rfl, rfl, S3⟩⟩
end
end Go.Ev
