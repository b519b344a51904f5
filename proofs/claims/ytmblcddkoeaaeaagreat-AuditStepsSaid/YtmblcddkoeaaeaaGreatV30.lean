/-
  Audit: a setup and a view, copied for the reference.
-/
import Derived.Test.YtmblcddkoeaaeaaGreatU30
namespace Go.Ev
open Go Go.Proofs

/-- An address behind a block's number, or none. -/
def Far (a : Option Addr) (n : Nat) : Prop := ∀ i o, a = some ⟨i, o, none⟩ → n < i
theorem Far.nil (n : Nat) : Far none n := fun i o h => by cases h
theorem Far.ne {a : Option Addr} {n i : Nat} (h : Far a n) (hi : i ≤ n) (o : Nat) : a ≠ some ⟨i, o, none⟩ := fun e => by have := h i o e; omega
/-- An append to a list whose slice lies in a block's cell. -/
structure Copied {α : Type} (P : Program) (e : α → List Value) (k : Nat) (ts : Array TypeId) (h m : H) (a : Option Addr) (st : Nat) (l : List α) (x : α) (x3 f : Nat) (c : List Value) (b : Option Addr) (m5 m6 : H) : Prop where
  app : ∀ {R : Type} (K : Value → H → Option R), appendA P ts (.slice a l.length st) (.slice (some ⟨m.next, 0, none⟩) 1 k) (m.new (.cells (e x) false)) K = K (.slice b (l.length + 1) k) m5
  st : stCells m5 x3 f [.slice b (l.length + 1) k] = some m6
  ext : Ext h m6
  acc : Acc e k h m6 b k (l ++ [x])
  far : Far b x3
  has : Has m6 x3 (.cells (c.set f (.slice b (l.length + 1) k)) false)
  old : ∀ i bl, Has m i bl → i ≠ x3 → (∀ o, a ≠ some ⟨i, o, none⟩) → Has m6 i bl
  own : Far b (m.next - 1)
theorem copy_core {α : Type} {P : Program} {e : α → List Value} {k : Nat} {ts : Array TypeId} {h m : H} {a : Option Addr} {st : Nat} {l : List α} {x3 f bytes : Nat} {c : List Value} (E : Ext h m) (h3 : h.next ≤ x3) (H3 : Has m x3 (.cells c false)) (hf : f < c.length)
    (A : Acc e k h m a st l) (far : Far a x3) (x : α) (hk : (e x).length = k) (hok : appOk P ts k bytes = true) (hb : bytes ≤ 1000) (hl : l.length < 1000000000) : ∃ b m5 m6, Copied P e k ts h m a st l x x3 f c b m5 m6 := by
  obtain ⟨b, m5, q, p⟩ := A.push (P := P) (x := x) E hk hok hb hl
  obtain ⟨jb, ej, hle⟩ := p.own
  have H5 : Has m5 x3 (.cells c false) := p.old _ _ H3 (far.ne (Nat.le_refl _))
  have hlt : x3 < m.next := H3.1
  have farb : Far b x3 := fun i o hi => by rw [ej] at hi; cases hi; omega
  refine ⟨b, m5, m5.put x3 (.cells (c.set f (.slice b (l.length + 1) k)) false), fun {R} K => q K, st_one H5 hf, p.ext.put h3 _, p.acc.put (farb.ne (Nat.le_refl _)) _, farb, H5.over _, fun i bl hi hne ho => (p.old i bl hi ho).put hne _, fun i o hi => by rw [ej] at hi; cases hi; omega⟩

/-- Another list stays. -/
theorem Copied.keep {α β : Type} {P : Program} {e : α → List Value} {e2 : β → List Value} {k k2 : Nat} {ts : Array TypeId} {h m m5 m6 : H} {a b a2 : Option Addr} {st st2 : Nat} {l : List α} {l2 : List β} {x : α} {x3 f : Nat} {c : List Value}
    (p : Copied P e k ts h m a st l x x3 f c b m5 m6) (B : Acc e2 k2 h m a2 st2 l2) (hd : Apart a a2) (hf : Far a2 x3) : Acc e2 k2 h m6 a2 st2 l2 ∧ Apart b a2 := by
  refine ⟨B.keep fun j bl hb hj => p.old j bl hj (fun e => hf.ne (i := j) (by omega) 0 hb) fun o e => hd j o 0 e hb, fun i o o' e1 e2 => ?_⟩
  have h1 := p.own i o e1
  rcases B with ⟨_, h2, _⟩ | ⟨_, j2, c2, h2, _, h3, _⟩
  · rw [h2] at e2; cases e2
  · rw [h2] at e2; cases e2; have := h3.1; omega

theorem app36 : appOk P30 ⟨[36, 36]⟩ 2 24 = true := by kernel_rfl
theorem app37 : appOk P30 ⟨[37, 37]⟩ 7 64 = true := by kernel_rfl
theorem app38 : appOk P30 ⟨[38, 38]⟩ 5 48 = true := by kernel_rfl
theorem app42 : appOk P30 ⟨[42, 42]⟩ 17 176 = true := by kernel_rfl
theorem app73 : appOk P30 ⟨[73, 73]⟩ 10 96 = true := by kernel_rfl

/-- The same setup, for the rules. -/
structure SuLike (s s' : Su) : Prop where
  ac : s'.ac = s.ac
  ve : s'.ve.length = s.ve.length
  sy : s'.sy.length = s.sy.length
  z3 : s'.z3 = s.z3

section
variable {r n : Nat} {h m m' : H} {s : Su} {v : Vw} {p : Pr}

theorem c_plainS (S : SuIn h s) (SF : SuFew s) (hr : 1000000 ≤ r) : Gives (ev30 r (n + 2) 10 [suV s] h) fun y h' => Ext h h' ∧ ∃ s', y = suV s' ∧ SuIn h' s' ∧ SuLike s s' := by
  unfold suV
  rw [e10]
  obtain ⟨m0, hm0, E0, H0⟩ := new_row h (suC s)
  obtain ⟨m1, hm1, E1, H1⟩ := new_row m0 [Value.slice none 0 0, Value.slice none 0 0, Value.slice none 0 0, Value.int IntKind.i64 0, Value.int IntKind.i64 0, Value.int IntKind.i64 0, Value.int IntKind.i64 0, Value.int IntKind.i64 0, Value.int IntKind.i64 0]
  have hn : h.next + 1 = m0.next := by rw [← hm0]; rfl
  have hn1 : m1.next = h.next + 2 := by rw [← hm1, ← hm0]; rfl
  unfold suC at hm0
  rw [hm0, hm1]
  rw [← hn] at H1
  have X1 := H0.ext E1
  have e10_ := E0.trans E1
  refine Gives.jump (Q := fun x env hh => x = .ret ∧ env = E10_r (.pointer (some ⟨h.next + 1, 0, none⟩)) ∧ Ext h hh ∧ ∃ s', Has hh (h.next + 1) (.cells (suC s') false) ∧ SuIn hh s' ∧ SuLike s s') ?_ (by
    rintro x env h' ⟨rfl, rfl, E2, s', H2, S2, L⟩
    rw [e10_3r, ld_agg agg40 cel40 H2 (by simp [suC]), optK_mk]
    exact .mk ⟨E2, s', rfl, S2, L⟩)
  have l0 : ldV P30 22 h.next 0 m1 = some (.slice s.aa s.ac.length s.at') := ld_at agg22 X1
  have l3 : ldV P30 3 h.next 3 m1 = some (.int .i64 s.z3) := ld_at agg3 X1
  have l4 : ldV P30 3 h.next 4 m1 = some (.int .i64 s.z4) := ld_at agg3 X1
  have l5 : ldV P30 3 h.next 5 m1 = some (.int .i64 s.z5) := ld_at agg3 X1
  have l6 : ldV P30 3 h.next 6 m1 = some (.int .i64 s.z6) := ld_at agg3 X1
  have l7 : ldV P30 3 h.next 7 m1 = some (.int .i64 s.z7) := ld_at agg3 X1
  have l8 : ldV P30 3 h.next 8 m1 = some (.int .i64 s.z8) := ld_at agg3 X1
  rw [e10_3c, l3, optK_mk, castI_mk, l4, optK_mk, castI_mk, l5, optK_mk, castI_mk, l6, optK_mk, castI_mk, l7, optK_mk, castI_mk, l8, optK_mk, castI_mk]
  rw [st_new (zs := [Value.slice none 0 0, Value.slice none 0 0, Value.slice none 0 0, Value.int IntKind.i64 0, Value.int IntKind.i64 0, Value.int IntKind.i64 0, Value.int IntKind.i64 0, Value.int IntKind.i64 0, Value.int IntKind.i64 0]) (cs := [Value.slice none 0 0, Value.slice none 0 0, Value.slice none 0 0, .int .i64 s.z3, .int .i64 s.z4, .int .i64 s.z5, .int .i64 s.z6, .int .i64 s.z7, .int .i64 s.z8]) rfl, optK_mk]
  obtain ⟨m2, hm2, E2, H2⟩ := new_row m1 [Value.slice none 0 0, Value.slice none 0 0, Value.slice none 0 0, .int .i64 s.z3, .int .i64 s.z4, .int .i64 s.z5, .int .i64 s.z6, .int .i64 s.z7, .int .i64 s.z8]
  rw [hm2]
  have hx3 : m1.next = h.next + 2 := hn1
  have E02 := e10_.trans E2
  have l0' : ldV P30 22 h.next 0 m2 = some (.slice s.aa s.ac.length s.at') := ld_at agg22 (X1.ext E2)
  rw [l0', optK_mk, castSl_mk]
  generalize hx3g : m1.next = x3 at *
  have SF1 := SF.ac
  have SF2 := SF.sy
  have SF3 := SF.ve
  -- accounts
  obtain ⟨⟨a1, t1⟩, ma, ⟨Ea, Xa, Ha, Ca, Aa, Fa⟩, ea⟩ := loop_run (P := P30) (call := ev30 r (n + 0)) (jmp := jmp30 r (n + 0) 10) (dead := dead30 10) (rounds := r) (c := 0) (code := pc [1, 1, 0, 1, 0, 0] (bd Tryz.f10)) (d := dead30 10 (4 * 0)) (d' := dead30 10 (4 * 0 + 2)) (dr := dead30 10 1000002) (σ := Option Addr × Nat) s.ac.length
    (fun j x hj => Ext h hj ∧ Has hj h.next (.cells (suC s) false) ∧ Has hj (h.next + 1) (.cells [Value.slice none 0 0, Value.slice none 0 0, Value.slice none 0 0, Value.int IntKind.i64 0, Value.int IntKind.i64 0, Value.int IntKind.i64 0, Value.int IntKind.i64 0, Value.int IntKind.i64 0, Value.int IntKind.i64 0] false) ∧
      Has hj x3 (.cells [.slice x.1 j x.2, .slice none 0 0, .slice none 0 0, .int .i64 s.z3, .int .i64 s.z4, .int .i64 s.z5, .int .i64 s.z6, .int .i64 s.z7, .int .i64 s.z8] false) ∧ Acc acC 2 h hj x.1 x.2 (s.ac.take j) ∧ Far x.1 x3)
    (fun j x => E10_0 (.pointer (some ⟨h.next, 0, none⟩)) (.pointer (some ⟨h.next + 1, 0, none⟩)) (.pointer (some ⟨x3, 0, none⟩)) (.slice s.aa s.ac.length s.at') (.int .i64 (s.ac.length : Int)) (.int .i64 (j : Int))) (xT := .exit 0) (envT := fun x => E10_2 (.pointer (some ⟨h.next, 0, none⟩)) (.pointer (some ⟨h.next + 1, 0, none⟩)) (.pointer (some ⟨x3, 0, none⟩))) (s0 := (none, 0)) (h := m2) (fun j ⟨a1, t1⟩ hj hlt ⟨Ej, Xj, Hj, Cj, Aj, Fj⟩ => by
      simp only at Cj Aj Fj ⊢
      have hget : s.ac[j]? = some s.ac[j] := List.getElem?_eq_getElem hlt
      have htk : s.ac.take (j + 1) = s.ac.take j ++ [s.ac[j]] := by rw [List.take_add_one, hget]; rfl
      generalize s.ac[j] = x at hget htk
      have hlen : (s.ac.take j).length = j := by rw [List.length_take]; omega
      obtain ⟨m4, hm4, E4, H4⟩ := new_row hj (acC x)
      have k1 : ldV P30 36 x3 0 m4 = some (.slice a1 j t1) := ld_at agg36 (Cj.ext E4)
      have k2 : ldV P30 58 hj.next 0 m4 = some (.agg ⟨acC x⟩) := by rw [ld_agg agg58 cel58 H4 (by simp [acC])]; rfl
      obtain ⟨b, m5, m6, p⟩ := copy_core (P := P30) (f := 0) (Ej.trans E4) (by omega) (Cj.ext E4) (by simp) (Aj.ext E4) Fj x rfl app36 (by omega) (by omega)
      have q1 := fun (R : Type) => p.app (R := R)
      have q2 := p.st
      rw [hlen] at q1 q2
      refine ⟨(b, 2), m6, ⟨p.ext, p.old _ _ (Xj.ext E4) (by omega) (Fj.ne (by omega)), p.old _ _ (Hj.ext E4) (by omega) (Fj.ne (by omega)), ?_, by rw [htk]; exact p.acc, p.far⟩, fun {R} nx K => ?_⟩
      · have := p.has; rw [hlen] at this; exact this
      · show evCode P30 (ev30 r n) (jmp30 r n 10) (dead30 10) r 0 (pc [1, 1, 0, 1, 0, 0] (bd Tryz.f10)) (E10_0 (.pointer (some ⟨h.next, 0, none⟩)) (.pointer (some ⟨h.next + 1, 0, none⟩)) (.pointer (some ⟨x3, 0, none⟩)) (.slice s.aa s.ac.length s.at') (.int .i64 (s.ac.length : Int)) (.int .i64 (j : Int))) hj (loopK nx (dead30 10 (4 * 0)) (dead30 10 (4 * 0 + 2)) (dead30 10 1000002) K) = _
        rw [e10_0, decide_eq_true (by omega), cond_true, (S.ac.ext Ej).row und22 cel58 agg58 (by omega) hget rfl rfl, hm4, k1, optK_mk, castSl_mk, k2, optK_mk, castA_mk, ifK_pos (show (Value.agg ⟨acC x⟩).cells.size = 2 from rfl)]
        erw [q1]
        rw [castSl_mk, q2, optK_mk, wrap_succ (by omega)])
    (fun x hj _ {R} nx K => by
      show evCode P30 (ev30 r n) (jmp30 r n 10) (dead30 10) r 0 (pc [1, 1, 0, 1, 0, 0] (bd Tryz.f10)) (E10_0 (.pointer (some ⟨h.next, 0, none⟩)) (.pointer (some ⟨h.next + 1, 0, none⟩)) (.pointer (some ⟨x3, 0, none⟩)) (.slice s.aa s.ac.length s.at') (.int .i64 (s.ac.length : Int)) (.int .i64 (s.ac.length : Int))) hj (loopK nx (dead30 10 (4 * 0)) (dead30 10 (4 * 0 + 2)) (dead30 10 1000002) K) = _
      rw [e10_0, decide_eq_false (by omega), cond_false]) ⟨E02, X1.ext E2, H1.ext E2, H2, .nil _ _, .nil _⟩ (r := r) (by omega)
  simp only [Nat.add_zero] at ea Ca Aa Fa
  rw [show ((0 : Nat) : Int) = 0 from rfl] at ea
  rw [List.take_length] at Aa
  have la : ldV P30 23 h.next 1 ma = some (.slice s.sa s.sy.length s.st) := ld_at agg23 Xa
  rw [ea, e10_0x0, la, optK_mk, castSl_mk]
  -- symbols
  obtain ⟨⟨a2, t2⟩, mb, ⟨Eb, Xb, Hb, Cb, Ab, Fb, A2, P2⟩, eb⟩ := loop_run (P := P30) (call := ev30 r (n + 0)) (jmp := jmp30 r (n + 0) 10) (dead := dead30 10) (rounds := r) (c := 2) (code := pc [1, 1, 1, 0, 1, 0, 0] (bd Tryz.f10)) (d := dead30 10 (4 * 2)) (d' := dead30 10 (4 * 2 + 2)) (dr := dead30 10 1000002) (σ := Option Addr × Nat) s.sy.length
    (fun j x hj => Ext h hj ∧ Has hj h.next (.cells (suC s) false) ∧ Has hj (h.next + 1) (.cells [Value.slice none 0 0, Value.slice none 0 0, Value.slice none 0 0, Value.int IntKind.i64 0, Value.int IntKind.i64 0, Value.int IntKind.i64 0, Value.int IntKind.i64 0, Value.int IntKind.i64 0, Value.int IntKind.i64 0] false) ∧
      Has hj x3 (.cells [.slice a1 s.ac.length t1, .slice x.1 j x.2, .slice none 0 0, .int .i64 s.z3, .int .i64 s.z4, .int .i64 s.z5, .int .i64 s.z6, .int .i64 s.z7, .int .i64 s.z8] false) ∧ Acc syC 7 h hj x.1 x.2 (s.sy.take j) ∧ Far x.1 x3 ∧
      Acc acC 2 h hj a1 t1 s.ac ∧ Apart x.1 a1)
    (fun j x => E10_8 (.pointer (some ⟨h.next, 0, none⟩)) (.pointer (some ⟨h.next + 1, 0, none⟩)) (.pointer (some ⟨x3, 0, none⟩)) (.slice s.sa s.sy.length s.st) (.int .i64 (s.sy.length : Int)) (.int .i64 (j : Int))) (xT := .exit 2) (envT := fun x => E10_2 (.pointer (some ⟨h.next, 0, none⟩)) (.pointer (some ⟨h.next + 1, 0, none⟩)) (.pointer (some ⟨x3, 0, none⟩))) (s0 := (none, 0)) (h := ma) (fun j ⟨a2, t2⟩ hj hlt ⟨Ej, Xj, Hj, Cj, Aj, Fj, A1j, P1j⟩ => by
      simp only at Cj Aj Fj P1j ⊢
      have hget : s.sy[j]? = some s.sy[j] := List.getElem?_eq_getElem hlt
      have htk : s.sy.take (j + 1) = s.sy.take j ++ [s.sy[j]] := by rw [List.take_add_one, hget]; rfl
      generalize s.sy[j] = x at hget htk
      have hlen : (s.sy.take j).length = j := by rw [List.length_take]; omega
      obtain ⟨m4, hm4, E4, H4⟩ := new_row hj (syC x)
      have k1 : ldV P30 37 x3 1 m4 = some (.slice a2 j t2) := ld_at agg37 (Cj.ext E4)
      have k2 : ldV P30 60 hj.next 0 m4 = some (.agg ⟨syC x⟩) := by rw [ld_agg agg60 cel60 H4 (by simp [syC])]; rfl
      obtain ⟨b, m5, m6, p⟩ := copy_core (P := P30) (f := 1) (Ej.trans E4) (by omega) (Cj.ext E4) (by simp) (Aj.ext E4) Fj x rfl app37 (by omega) (by omega)
      have q1 := fun (R : Type) => p.app (R := R)
      have q2 := p.st
      rw [hlen] at q1 q2
      have kp := p.keep (A1j.ext E4) P1j Fa
      refine ⟨(b, 7), m6, ⟨p.ext, p.old _ _ (Xj.ext E4) (by omega) (Fj.ne (by omega)), p.old _ _ (Hj.ext E4) (by omega) (Fj.ne (by omega)), ?_, by rw [htk]; exact p.acc, p.far, kp.1, kp.2⟩, fun {R} nx K => ?_⟩
      · have := p.has; rw [hlen] at this; exact this
      · show evCode P30 (ev30 r n) (jmp30 r n 10) (dead30 10) r 2 (pc [1, 1, 1, 0, 1, 0, 0] (bd Tryz.f10)) (E10_8 (.pointer (some ⟨h.next, 0, none⟩)) (.pointer (some ⟨h.next + 1, 0, none⟩)) (.pointer (some ⟨x3, 0, none⟩)) (.slice s.sa s.sy.length s.st) (.int .i64 (s.sy.length : Int)) (.int .i64 (j : Int))) hj (loopK nx (dead30 10 (4 * 2)) (dead30 10 (4 * 2 + 2)) (dead30 10 1000002) K) = _
        rw [e10_8, decide_eq_true (by omega), cond_true, (S.sy.ext Ej).row und23 cel60 agg60 (by omega) hget rfl rfl, hm4, k1, optK_mk, castSl_mk, k2, optK_mk, castA_mk, ifK_pos (show (Value.agg ⟨syC x⟩).cells.size = 7 from rfl)]
        erw [q1]
        rw [castSl_mk, q2, optK_mk, wrap_succ (by omega)])
    (fun x hj _ {R} nx K => by
      show evCode P30 (ev30 r n) (jmp30 r n 10) (dead30 10) r 2 (pc [1, 1, 1, 0, 1, 0, 0] (bd Tryz.f10)) (E10_8 (.pointer (some ⟨h.next, 0, none⟩)) (.pointer (some ⟨h.next + 1, 0, none⟩)) (.pointer (some ⟨x3, 0, none⟩)) (.slice s.sa s.sy.length s.st) (.int .i64 (s.sy.length : Int)) (.int .i64 (s.sy.length : Int))) hj (loopK nx (dead30 10 (4 * 2)) (dead30 10 (4 * 2 + 2)) (dead30 10 1000002) K) = _
      rw [e10_8, decide_eq_false (by omega), cond_false]) ⟨Ea, Xa, Ha, Ca, .nil _ _, .nil _, Aa, .nil _⟩ (r := r) (by omega)
  simp only [Nat.add_zero] at eb Cb Ab Fb P2
  rw [show ((0 : Nat) : Int) = 0 from rfl] at eb
  rw [List.take_length] at Ab
  have lb : ldV P30 24 h.next 2 mb = some (.slice s.va s.ve.length s.vt) := ld_at agg24 Xb
  rw [eb, e10_8x2, lb, optK_mk, castSl_mk]
  -- venues
  obtain ⟨⟨a3, t3⟩, mc, ⟨Ec, Hc, Cc, Ac, Fc, A1c, P1c, A2c, P2c⟩, ec⟩ := loop_run (P := P30) (call := ev30 r (n + 0)) (jmp := jmp30 r (n + 0) 10) (dead := dead30 10) (rounds := r) (c := 4) (code := pc [1, 1, 1, 1, 0, 1, 0, 0] (bd Tryz.f10)) (d := dead30 10 (4 * 4)) (d' := dead30 10 (4 * 4 + 2)) (dr := dead30 10 1000002) (σ := Option Addr × Nat) s.ve.length
    (fun j x hj => Ext h hj ∧ Has hj (h.next + 1) (.cells [Value.slice none 0 0, Value.slice none 0 0, Value.slice none 0 0, Value.int IntKind.i64 0, Value.int IntKind.i64 0, Value.int IntKind.i64 0, Value.int IntKind.i64 0, Value.int IntKind.i64 0, Value.int IntKind.i64 0] false) ∧
      Has hj x3 (.cells [.slice a1 s.ac.length t1, .slice a2 s.sy.length t2, .slice x.1 j x.2, .int .i64 s.z3, .int .i64 s.z4, .int .i64 s.z5, .int .i64 s.z6, .int .i64 s.z7, .int .i64 s.z8] false) ∧ Acc veC 5 h hj x.1 x.2 (s.ve.take j) ∧ Far x.1 x3 ∧
      Acc acC 2 h hj a1 t1 s.ac ∧ Apart x.1 a1 ∧ Acc syC 7 h hj a2 t2 s.sy ∧ Apart x.1 a2)
    (fun j x => E10_16 (.pointer (some ⟨h.next + 1, 0, none⟩)) (.pointer (some ⟨x3, 0, none⟩)) (.slice s.va s.ve.length s.vt) (.int .i64 (s.ve.length : Int)) (.int .i64 (j : Int))) (xT := .exit 4) (envT := fun x => E10_18 (.pointer (some ⟨h.next + 1, 0, none⟩)) (.pointer (some ⟨x3, 0, none⟩))) (s0 := (none, 0)) (h := mb) (fun j ⟨a3, t3⟩ hj hlt ⟨Ej, Hj, Cj, Aj, Fj, A1j, P1j, A2j, P2j⟩ => by
      simp only at Cj Aj Fj P1j P2j ⊢
      have hget : s.ve[j]? = some s.ve[j] := List.getElem?_eq_getElem hlt
      have htk : s.ve.take (j + 1) = s.ve.take j ++ [s.ve[j]] := by rw [List.take_add_one, hget]; rfl
      generalize s.ve[j] = x at hget htk
      have hlen : (s.ve.take j).length = j := by rw [List.length_take]; omega
      obtain ⟨m4, hm4, E4, H4⟩ := new_row hj (veC x)
      have k1 : ldV P30 38 x3 2 m4 = some (.slice a3 j t3) := ld_at agg38 (Cj.ext E4)
      have k2 : ldV P30 62 hj.next 0 m4 = some (.agg ⟨veC x⟩) := by rw [ld_agg agg62 cel62 H4 (by simp [veC])]; rfl
      obtain ⟨b, m5, m6, p⟩ := copy_core (P := P30) (f := 2) (Ej.trans E4) (by omega) (Cj.ext E4) (by simp) (Aj.ext E4) Fj x rfl app38 (by omega) (by omega)
      have q1 := fun (R : Type) => p.app (R := R)
      have q2 := p.st
      rw [hlen] at q1 q2
      have kp := p.keep (A1j.ext E4) P1j Fa
      have kq := p.keep (A2j.ext E4) P2j Fb
      refine ⟨(b, 5), m6, ⟨p.ext, p.old _ _ (Hj.ext E4) (by omega) (Fj.ne (by omega)), ?_, by rw [htk]; exact p.acc, p.far, kp.1, kp.2, kq.1, kq.2⟩, fun {R} nx K => ?_⟩
      · have := p.has; rw [hlen] at this; exact this
      · show evCode P30 (ev30 r n) (jmp30 r n 10) (dead30 10) r 4 (pc [1, 1, 1, 1, 0, 1, 0, 0] (bd Tryz.f10)) (E10_16 (.pointer (some ⟨h.next + 1, 0, none⟩)) (.pointer (some ⟨x3, 0, none⟩)) (.slice s.va s.ve.length s.vt) (.int .i64 (s.ve.length : Int)) (.int .i64 (j : Int))) hj (loopK nx (dead30 10 (4 * 4)) (dead30 10 (4 * 4 + 2)) (dead30 10 1000002) K) = _
        rw [e10_16, decide_eq_true (by omega), cond_true, (S.ve.ext Ej).row und24 cel62 agg62 (by omega) hget rfl rfl, hm4, k1, optK_mk, castSl_mk, k2, optK_mk, castA_mk, ifK_pos (show (Value.agg ⟨veC x⟩).cells.size = 5 from rfl)]
        erw [q1]
        rw [castSl_mk, q2, optK_mk, wrap_succ (by omega)])
    (fun x hj _ {R} nx K => by
      show evCode P30 (ev30 r n) (jmp30 r n 10) (dead30 10) r 4 (pc [1, 1, 1, 1, 0, 1, 0, 0] (bd Tryz.f10)) (E10_16 (.pointer (some ⟨h.next + 1, 0, none⟩)) (.pointer (some ⟨x3, 0, none⟩)) (.slice s.va s.ve.length s.vt) (.int .i64 (s.ve.length : Int)) (.int .i64 (s.ve.length : Int))) hj (loopK nx (dead30 10 (4 * 4)) (dead30 10 (4 * 4 + 2)) (dead30 10 1000002) K) = _
      rw [e10_16, decide_eq_false (by omega), cond_false]) ⟨Eb, Hb, Cb, .nil _ _, .nil _, A2, .nil _, Ab, .nil _⟩ (r := r) (by omega)
  simp only [Nat.add_zero] at ec Cc Ac Fc P1c P2c
  rw [show ((0 : Nat) : Int) = 0 from rfl] at ec
  rw [List.take_length] at Ac
  let s' : Su := ⟨s.ac, a1, t1, s.sy, a2, t2, s.ve, a3, t3, s.z3, s.z4, s.z5, s.z6, s.z7, s.z8⟩
  have Cc' : Has mc x3 (.cells (suC s') false) := Cc
  have lc : ldV P30 40 x3 0 mc = some (.agg ⟨suC s'⟩) := by rw [ld_agg agg40 cel40 Cc' (by simp [suC])]; rfl
  rw [ec, e10_16x4, lc, optK_mk, castA_mk, ifK_pos (by rw [cel40]; rfl), show (Value.agg ⟨suC s'⟩).cells.toList = suC s' from rfl, st_all (vs := suC s') Hc rfl, optK_mk]
  exact .mk ⟨rfl, rfl, Ec.put (by omega) _, s', Hc.over _, ⟨(A1c.put (Fa.ne (by omega)) _).sl, (A2c.put (Fb.ne (by omega)) _).sl, (Ac.put (Fc.ne (by omega)) _).sl⟩, ⟨rfl, rfl, rfl, rfl⟩⟩
end
end Go.Ev
