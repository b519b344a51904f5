/-
  Audit: what of two views: the program's rules 9 to 12, and Step.
-/
import Derived.Test.YtmblcddkoeaaeaaGreatZA30
namespace Go.Ev
open Go Go.Proofs

def timesOk (a b : Vw) : Bool := allN (fun k => !decide (b.faults.getD k 0 < a.faults.getD k 0)) a.faults.length && decide (a.now ≤ b.now)
def sameP (p q : Pr) : Bool := p.qty == q.qty && (p.price == q.price && (p.stop == q.stop && p.busted == q.busted))
def heldOk (p q : Pr) (x y : Int) : Bool := !(sameP p q && (decide (p.state ≤ 4) && (decide (q.state ≤ 4) && x != y)))
def idle (a b : Vw) (p q : Pr) : Bool := decide (p.state > 4) || ((p.state != 1 && q.state != 1) || (a.killed && b.killed))
def freshOk (a b : Vw) (p q : Pr) : Bool := !(idle a b p q && decide ((q.kids.length : Int) > (p.kids.length : Int)))
/-- A rule of all pairs. -/
def pairAt (a b : Vw) (f : Pr → Pr → Int → Int → Bool) (k : Nat) : Bool := (a.ps[k]?).elim true fun p => (b.ps[k]?).elim true fun q => f p q (a.held.getD k 0) (b.held.getD k 0)
def pairs (a b : Vw) (f : Pr → Pr → Int → Int → Bool) : Bool := allN (pairAt a b f) a.ps.length
theorem pairAt_eq {a b : Vw} {f : Pr → Pr → Int → Int → Bool} {k : Nat} {p q : Pr} (h1 : a.ps[k]? = some p) (h2 : b.ps[k]? = some q) : pairAt a b f k = f p q (a.held.getD k 0) (b.held.getD k 0) := by unfold pairAt; rw [h1, h2]; rfl
def stepAt (a b : Vw) : Nat → Bool
  | 0 => timesOk a b
  | 1 => decide (a.ps.length ≤ b.ps.length) && pairs a b fun p q _ _ => stayOk p q
  | 2 => pairs a b heldOk
  | 3 => pairs a b fun p q _ _ => freshOk a b p q
  | _ => true
def stepOf (s : Su) (a b : Vw) : Int :=
  if checkOf s a > 0 then checkOf s a else if checkOf s b > 0 then checkOf s b else if firstF (stepAt a b) 4 0 > 0 then firstF (stepAt a b) 4 0 + 8 else 0

theorem agg86 : aggT P30 86 = some true := by kernel_rfl
theorem cel86 : cellsOf P30 86 = some 14 := by kernel_rfl
theorem und88 : P30.underlying 88 = some (.slice 87) := by kernel_rfl
theorem cel87 : cellsOf P30 87 = some 1 := by kernel_rfl
theorem agg87 : aggT P30 87 = some false := by kernel_rfl

def mvV (a b : Vw) : Value := .agg #[.int .i64 a.now, .bool a.killed, .slice a.pa a.ps.length a.pt, .slice a.ua a.used.length a.ut, .slice a.ra a.real.length a.rt, .slice a.ha a.held.length a.ht, .slice a.fa a.faults.length a.ft,
  .int .i64 b.now, .bool b.killed, .slice b.pa b.ps.length b.pt, .slice b.ua b.used.length b.ut, .slice b.ra b.real.length b.rt, .slice b.ha b.held.length b.ht, .slice b.fa b.faults.length b.ft]

section
variable {r n : Nat} {h m m' : H} {s : Su} {a b : Vw} {p q : Pr} {i : Nat}
structure MvAt (m : H) (i : Nat) (a b : Vw) : Prop where
  has : Has m i (.cells (vwC a ++ vwC b) false)
theorem MvAt.ext (A : MvAt m i a b) (E : Ext m m') : MvAt m' i a b := ⟨A.has.ext E⟩
theorem MvAt.l0 (A : MvAt m i a b) : ldV P30 3 i 0 m = some (.int .i64 a.now) := ld_at agg3 A.has
theorem MvAt.l1 (A : MvAt m i a b) : ldV P30 4 i 1 m = some (.bool a.killed) := ld_at agg4 A.has
theorem MvAt.l2 (A : MvAt m i a b) : ldV P30 27 i 2 m = some (.slice a.pa a.ps.length a.pt) := ld_at agg27 A.has
theorem MvAt.l5 (A : MvAt m i a b) : ldV P30 28 i 5 m = some (.slice a.ha a.held.length a.ht) := ld_at agg28 A.has
theorem MvAt.l6 (A : MvAt m i a b) : ldV P30 28 i 6 m = some (.slice a.fa a.faults.length a.ft) := ld_at agg28 A.has
theorem MvAt.l7 (A : MvAt m i a b) : ldV P30 3 i 7 m = some (.int .i64 b.now) := ld_at agg3 A.has
theorem MvAt.l8 (A : MvAt m i a b) : ldV P30 4 i 8 m = some (.bool b.killed) := ld_at agg4 A.has
theorem MvAt.l9 (A : MvAt m i a b) : ldV P30 27 i 9 m = some (.slice b.pa b.ps.length b.pt) := ld_at agg27 A.has
theorem MvAt.l12 (A : MvAt m i a b) : ldV P30 28 i 12 m = some (.slice b.ha b.held.length b.ht) := ld_at agg28 A.has
theorem MvAt.l13 (A : MvAt m i a b) : ldV P30 28 i 13 m = some (.slice b.fa b.faults.length b.ft) := ld_at agg28 A.has
theorem MvAt.whole (A : MvAt m i a b) : ldV P30 86 i 0 m = some (mvV a b) := by rw [ld_agg agg86 cel86 A.has (by simp [vwC])]; rfl


theorem c_times (FA : VwFit a) (VA : VwIn h a) (VB : VwIn h b) (hf : a.faults.length = b.faults.length) (hr : 1000000 ≤ r) : Gives (ev30 r (n + 1) 32 [mvV a b] h) fun y h' => y = .bool (timesOk a b) ∧ Ext h h' := by
  unfold mvV
  rw [e32]
  obtain ⟨m, hm, E, HX⟩ := new_row h (vwC a ++ vwC b)
  simp only [vwC, List.cons_append, List.nil_append] at hm
  rw [hm]
  have A : MvAt m h.next a b := ⟨HX⟩
  clear HX hm
  have hff := FA.ff
  rw [A.l6, optK_mk, castSl_mk]
  refine Gives.all a.faults.length (fun k => !decide (b.faults.getD k 0 < a.faults.getD k 0)) (fun hh => hh = m) (fun k => E32_0 (.pointer (some ⟨h.next, 0, none⟩)) (.slice a.fa a.faults.length a.ft) (.int .i64 (a.faults.length : Int)) (.int .i64 (k : Int))) (xT := .exit 0) (xF := .ret) (envT := E32_2 (.pointer (some ⟨h.next, 0, none⟩))) (envF := E32_r (.bool false))
    (fun k hh hlt E1 => ?_) (fun hh _ {R} nx K => by rw [e32_0, decide_eq_false (by omega), cond_false]) rfl (by omega)
    (fun hh E1 ha => by rw [E1, e32_0x0, A.l7, optK_mk, castI_mk, A.l0, optK_mk, castI_mk]; exact .mk ⟨by unfold timesOk; rw [ha]; rfl, E⟩) (fun hh E1 ha => by rw [E1, e32_0r]; exact .mk ⟨by unfold timesOk; rw [ha]; rfl, E⟩)
  subst E1
  refine ⟨hh, rfl, ?_⟩
  have g1 := getD_at hlt
  have g2 : b.faults[k]? = some (b.faults.getD k 0) := getD_at (by omega)
  generalize a.faults.getD k 0 = x at g1 ⊢
  generalize b.faults.getD k 0 = y at g2 ⊢
  have pre : ∀ {R : Type} (nx : Env → H → Option R) (K : Exit → Env → H → Option R), evCode P30 (ev30 r n) (jmp30 r n 32) (dead30 32) r 0 (pc [1, 0, 1, 0, 0] (bd Tryz.f32)) (E32_0 (.pointer (some ⟨h.next, 0, none⟩)) (.slice a.fa a.faults.length a.ft) (.int .i64 (a.faults.length : Int)) (.int .i64 (k : Int))) hh (loopK nx (dead30 32 (4 * 0)) (dead30 32 (4 * 0 + 2)) (dead30 32 1000002) K) =
      bif decide (y < x) then K .ret (E32_r (.bool false)) hh else nx (E32_0 (.pointer (some ⟨h.next, 0, none⟩)) (.slice a.fa a.faults.length a.ft) (.int .i64 (a.faults.length : Int)) (.int .i64 ((k + 1 : Nat) : Int))) hh := by
    intro R nx K
    rw [e32_0, decide_eq_true (by omega), cond_true, (VA.faults.ext E).read und28 cel3 agg3 g1, castI_mk, A.l13, optK_mk, castSl_mk, (VB.faults.ext E).read und28 cel3 agg3 g2, castI_mk, wrap_succ (by omega)]
  cases g : decide (y < x) with
  | false => exact .inl ⟨rfl, fun {R} nx K => by rw [pre, g]; rfl⟩
  | true => exact .inr ⟨rfl, fun {R} nx K => by rw [pre, g]; rfl⟩

theorem c_stayAll (FA : VwFit a) (VA : VwIn h a) (VB : VwIn h b) (hr : 1000000 ≤ r) : Gives (ev30 r (n + 6) 33 [mvV a b] h) fun y h' => y = .bool (stepAt a b 1) ∧ Ext h h' := by
  unfold mvV
  rw [e33]
  obtain ⟨m, hm, E, HX⟩ := new_row h (vwC a ++ vwC b)
  simp only [vwC, List.cons_append, List.nil_append] at hm
  rw [hm]
  have A : MvAt m h.next a b := ⟨HX⟩
  clear HX hm
  have hl40 := FA.few
  rw [A.l9, optK_mk, castSl_mk, A.l2, optK_mk, castSl_mk]
  by_cases hle : (b.ps.length : Int) < (a.ps.length : Int)
  · rw [decide_eq_true hle, cond_true]
    exact .mk ⟨by show _ = Value.bool (decide _ && _); rw [decide_eq_false (by omega)]; rfl, E⟩
  rw [decide_eq_false hle, cond_false, optK_mk, castSl_mk]
  have hs : stepAt a b 1 = pairs a b fun p q _ _ => stayOk p q := by show (decide _ && _) = _; rw [decide_eq_true (by omega)]; rfl
  refine Gives.all a.ps.length (pairAt a b fun p q _ _ => stayOk p q) (fun hh => Ext m hh) (fun k => E33_0 (.pointer (some ⟨h.next, 0, none⟩)) (.slice a.pa a.ps.length a.pt) (.int .i64 (a.ps.length : Int)) (.int .i64 (k : Int))) (xT := .exit 0) (xF := .ret) (envT := E33_2) (envF := E33_r (.bool false))
    (fun k hh hlt E1 => ?_) (fun hh _ {R} nx K => by rw [e33_0, decide_eq_false (by omega), cond_false]) (.refl m) (by omega)
    (fun hh E1 ha => by rw [e33_0x0]; exact .mk ⟨by rw [hs]; unfold pairs; rw [ha], E.trans E1⟩) (fun hh E1 ha => by rw [e33_0r]; exact .mk ⟨by rw [hs]; unfold pairs; rw [ha], E.trans E1⟩)
  have g1 : a.ps[k]? = some a.ps[k] := List.getElem?_eq_getElem hlt
  have g2 : b.ps[k]? = some (b.ps[k]'(by omega)) := List.getElem?_eq_getElem (by omega)
  have q1 : a.ps[k] ∈ a.ps := List.getElem_mem hlt
  have q2 : b.ps[k]'(by omega) ∈ b.ps := List.getElem_mem (by omega)
  generalize a.ps[k] = p at g1 q1
  generalize b.ps[k]'(by omega) = q at g2 q2
  rw [pairAt_eq g1 g2]
  obtain ⟨m1, hm1, F1, H1⟩ := new_row hh (prC p)
  have Y1 : ldV P30 65 hh.next 0 m1 = some (prV p) := by rw [ld_agg agg65 cel65 H1 (by simp [prC])]; rfl
  have E2 := E.trans (E1.trans F1)
  obtain ⟨_, m2, q3, rfl, F2⟩ := c_kept (r := r) (n := n) (h := m1) ((VA.kids p q1).ext E2) ((VB.kids q q2).ext E2) (FA.ps p q1).few hr
  have pre : ∀ {R : Type} (nx : Env → H → Option R) (K : Exit → Env → H → Option R), evCode P30 (ev30 r (n + 5)) (jmp30 r (n + 5) 33) (dead30 33) r 0 (pc [1, 1, 0, 1, 0, 0] (bd Tryz.f33)) (E33_0 (.pointer (some ⟨h.next, 0, none⟩)) (.slice a.pa a.ps.length a.pt) (.int .i64 (a.ps.length : Int)) (.int .i64 (k : Int))) hh (loopK nx (dead30 33 (4 * 0)) (dead30 33 (4 * 0 + 2)) (dead30 33 1000002) K) =
      bif !stayOk p q then K .ret (E33_r (.bool false)) m2 else nx (E33_0 (.pointer (some ⟨h.next, 0, none⟩)) (.slice a.pa a.ps.length a.pt) (.int .i64 (a.ps.length : Int)) (.int .i64 ((k + 1 : Nat) : Int))) m2 := by
    intro R nx K
    rw [e33_0, decide_eq_true (by omega), cond_true, (VA.ps.ext (E.trans E1)).row (P := P30) und27 cel65 agg65 (by omega) g1 rfl rfl, hm1, Y1, optK_mk, show prV p = .agg (prV p).cells from rfl, castA_mk, (A.ext (E1.trans F1)).l9, optK_mk, castSl_mk,
      (VB.ps.ext E2).aggr (P := P30) und27 cel65 agg65 (by omega) g2 rfl, castA_mk, show Value.agg (prV p).cells = prV p from rfl]
    erw [callK_mk q3]
    rw [castV_mk, wrap_succ (by omega)]
  refine ⟨m2, E1.trans (F1.trans F2), ?_⟩
  cases g : stayOk p q with
  | true => exact .inl ⟨rfl, fun {R} nx K => by rw [pre, g]; rfl⟩
  | false => exact .inr ⟨rfl, fun {R} nx K => by rw [pre, g]; rfl⟩

theorem held13 {k x4 x5 : Nat} {x y : Int} (E : Ext h m) (A : MvAt m h.next a b) (B : PrAt m x4 p) (C : PrAt m x5 q) (VA : VwIn h a) (VB : VwIn h b) (h1 : a.held[k]? = some x) (h2 : b.held[k]? = some y) :
    jmp30 r (n + 1) 34 1 (pc [1, 0, 1, 0, 0, 1, 1, 0, 0, 1, 1, 1] (bd Tryz.f34)) (E34_13 (.pointer (some ⟨h.next, 0, none⟩)) (.int .i64 (k : Int)) (.pointer (some ⟨x4, 0, none⟩)) (.pointer (some ⟨x5, 0, none⟩)) (.bool (sameP p q)) (.slice a.pa a.ps.length a.pt) (.int .i64 (a.ps.length : Int)) (.int .i64 (k : Int))) m = bif heldOk p q x y then some (.normal, E34_0 (.pointer (some ⟨h.next, 0, none⟩)) (.slice a.pa a.ps.length a.pt) (.int .i64 (a.ps.length : Int)) (.int .i64 (k : Int)), m) else some (.ret, E34_r (.bool false), m) := by
  rw [e34_13c]
  unfold heldOk
  cases g1 : sameP p q with
  | false => rfl
  | true =>
    rw [cond_true, B.l4, optK_mk, castI_mk]
    cases g2 : decide (p.state ≤ 4) with
    | false => rfl
    | true =>
      rw [cond_true, C.l4, optK_mk, castI_mk]
      cases g3 : decide (q.state ≤ 4) with
      | false => rfl
      | true =>
        rw [cond_true, A.l5, optK_mk, castSl_mk, (VA.held.ext E).read und28 cel3 agg3 h1, castI_mk, A.l12, optK_mk, castSl_mk, (VB.held.ext E).read und28 cel3 agg3 h2, castI_mk]
        cases g4 : x != y <;> rfl

theorem c_heldAll (FA : VwFit a) (VA : VwIn h a) (VB : VwIn h b) (hle : a.ps.length ≤ b.ps.length) (ha0 : a.held.length = a.ps.length) (hb0 : b.held.length = b.ps.length) (hr : 1000000 ≤ r) :
    Gives (ev30 r (n + 2) 34 [mvV a b] h) fun y h' => y = .bool (pairs a b heldOk) ∧ Ext h h' := by
  unfold mvV
  rw [e34]
  obtain ⟨m, hm, E, HX⟩ := new_row h (vwC a ++ vwC b)
  simp only [vwC, List.cons_append, List.nil_append] at hm
  rw [hm]
  have A : MvAt m h.next a b := ⟨HX⟩
  clear HX hm
  have hl40 := FA.few
  rw [A.l2, optK_mk, castSl_mk]
  refine Gives.all a.ps.length (pairAt a b heldOk) (fun hh => Ext m hh) (fun k => E34_0 (.pointer (some ⟨h.next, 0, none⟩)) (.slice a.pa a.ps.length a.pt) (.int .i64 (a.ps.length : Int)) (.int .i64 (k : Int))) (xT := .exit 0) (xF := .ret) (envT := E34_2) (envF := E34_r (.bool false))
    (fun k hh hlt E1 => ?_) (fun hh _ {R} nx K => by rw [e34_0, decide_eq_false (by omega), cond_false]) (.refl m) (by omega)
    (fun hh E1 ha => by rw [e34_0x0]; exact .mk ⟨by unfold pairs; rw [ha], E.trans E1⟩) (fun hh E1 ha => by rw [e34_0r]; exact .mk ⟨by unfold pairs; rw [ha], E.trans E1⟩)
  have g1 : a.ps[k]? = some a.ps[k] := List.getElem?_eq_getElem hlt
  have g2 : b.ps[k]? = some (b.ps[k]'(by omega)) := List.getElem?_eq_getElem (by omega)
  generalize a.ps[k] = p at g1
  generalize b.ps[k]'(by omega) = q at g2
  have z1 := held_at hlt ha0
  have z2 := held_at (v := b) (k := k) (by omega) hb0
  rw [pairAt_eq g1 g2]
  generalize a.held.getD k 0 = x at z1 ⊢
  generalize b.held.getD k 0 = y at z2 ⊢
  obtain ⟨m1, hm1, F1, H1⟩ := new_row hh (prC p)
  obtain ⟨m2, hm2, F2, H2⟩ := new_row m1 (prC q)
  have B : PrAt m2 hh.next p := ⟨H1.ext F2⟩
  have C : PrAt m2 m1.next q := ⟨H2⟩
  have E2 := E1.trans (F1.trans F2)
  have key := held13 (r := r) (n := n) (k := k) (E.trans E2) (A.ext E2) B C VA VB z1 z2
  have pre : ∀ {R : Type} (nx : Env → H → Option R) (K : Exit → Env → H → Option R), evCode P30 (ev30 r (n + 1)) (jmp30 r (n + 1) 34) (dead30 34) r 0 (pc [1, 0, 1, 0, 0] (bd Tryz.f34)) (E34_0 (.pointer (some ⟨h.next, 0, none⟩)) (.slice a.pa a.ps.length a.pt) (.int .i64 (a.ps.length : Int)) (.int .i64 (k : Int))) hh (loopK nx (dead30 34 (4 * 0)) (dead30 34 (4 * 0 + 2)) (dead30 34 1000002) K) =
      jumpK (bif heldOk p q x y then some (.normal, E34_0 (.pointer (some ⟨h.next, 0, none⟩)) (.slice a.pa a.ps.length a.pt) (.int .i64 (a.ps.length : Int)) (.int .i64 (k : Int)), m2) else some (.ret, E34_r (.bool false), m2)) (blockK 1 (seqK (after P30 (ev30 r (n + 1)) (jmp30 r (n + 1) 34) (dead30 34) r 0 (pc [1, 0, 1, 0, 0, 1, 1, 1] (bd Tryz.f34)) (loopK nx (dead30 34 (4 * 0)) (dead30 34 (4 * 0 + 2)) (dead30 34 1000002) K)) (loopK nx (dead30 34 (4 * 0)) (dead30 34 (4 * 0 + 2)) (dead30 34 1000002) K))) := by
    intro R nx K
    rw [e34_0, decide_eq_true (by omega), cond_true, (VA.ps.ext (E.trans E1)).row (P := P30) und27 cel65 agg65 (by omega) g1 rfl rfl, hm1, (A.ext (E1.trans F1)).l9, optK_mk, castSl_mk, (VB.ps.ext (E.trans (E1.trans F1))).row (P := P30) und27 cel65 agg65 (by omega) g2 rfl rfl, hm2,
      B.l6, optK_mk, castI_mk, C.l6, optK_mk, castI_mk, B.l7, optK_mk, castI_mk, C.l7, optK_mk, castI_mk, B.l9, optK_mk, castI_mk, C.l9, optK_mk, castI_mk, B.l12, optK_mk, castI_mk, C.l12, optK_mk, castI_mk, ← key]
    unfold sameP
    cases p.qty == q.qty with
    | false => simp only [cond_false, Bool.false_and]
    | true =>
      cases p.price == q.price with
      | false => simp only [cond_false, cond_true, Bool.false_and, Bool.true_and]
      | true =>
        cases p.stop == q.stop with
        | false => simp only [cond_false, cond_true, Bool.false_and, Bool.true_and]
        | true => simp only [cond_true, Bool.true_and]
  refine ⟨m2, E2, ?_⟩
  cases g : heldOk p q x y with
  | true => exact .inl ⟨rfl, fun {R} nx K => by rw [pre, g, cond_true, jumpK_mk rfl, e34_13n, wrap_succ (by omega)]⟩
  | false => exact .inr ⟨rfl, fun {R} nx K => by rw [pre, g, cond_false, jumpK_mk rfl, e34_13r]⟩

theorem fresh13 {k x4 x5 : Nat} (B : PrAt m x4 p) (C : PrAt m x5 q) :
    jmp30 r (n + 1) 35 1 (pc [1, 0, 1, 0, 0, 1, 1, 0, 0, 1, 1, 1] (bd Tryz.f35)) (E35_13 (.pointer (some ⟨h.next, 0, none⟩)) (.pointer (some ⟨x4, 0, none⟩)) (.pointer (some ⟨x5, 0, none⟩)) (.bool (idle a b p q)) (.slice a.pa a.ps.length a.pt) (.int .i64 (a.ps.length : Int)) (.int .i64 (k : Int))) m = bif freshOk a b p q then some (.normal, E35_0 (.pointer (some ⟨h.next, 0, none⟩)) (.slice a.pa a.ps.length a.pt) (.int .i64 (a.ps.length : Int)) (.int .i64 (k : Int)), m) else some (.ret, E35_r (.bool false), m) := by
  rw [e35_13c]
  unfold freshOk
  cases g1 : idle a b p q with
  | false => rfl
  | true =>
    rw [cond_true, C.l16, optK_mk, castSl_mk, B.l16, optK_mk, castSl_mk]
    cases g2 : decide ((q.kids.length : Int) > (p.kids.length : Int)) <;> rfl

theorem c_freshAll (FA : VwFit a) (VA : VwIn h a) (VB : VwIn h b) (hle : a.ps.length ≤ b.ps.length) (hr : 1000000 ≤ r) : Gives (ev30 r (n + 2) 35 [mvV a b] h) fun y h' => y = .bool (pairs a b fun p q _ _ => freshOk a b p q) ∧ Ext h h' := by
  unfold mvV
  rw [e35]
  obtain ⟨m, hm, E, HX⟩ := new_row h (vwC a ++ vwC b)
  simp only [vwC, List.cons_append, List.nil_append] at hm
  rw [hm]
  have A : MvAt m h.next a b := ⟨HX⟩
  clear HX hm
  have hl40 := FA.few
  rw [A.l2, optK_mk, castSl_mk]
  refine Gives.all a.ps.length (pairAt a b fun p q _ _ => freshOk a b p q) (fun hh => Ext m hh) (fun k => E35_0 (.pointer (some ⟨h.next, 0, none⟩)) (.slice a.pa a.ps.length a.pt) (.int .i64 (a.ps.length : Int)) (.int .i64 (k : Int))) (xT := .exit 0) (xF := .ret) (envT := E35_2) (envF := E35_r (.bool false))
    (fun k hh hlt E1 => ?_) (fun hh _ {R} nx K => by rw [e35_0, decide_eq_false (by omega), cond_false]) (.refl m) (by omega)
    (fun hh E1 ha => by rw [e35_0x0]; exact .mk ⟨by unfold pairs; rw [ha], E.trans E1⟩) (fun hh E1 ha => by rw [e35_0r]; exact .mk ⟨by unfold pairs; rw [ha], E.trans E1⟩)
  have g1 : a.ps[k]? = some a.ps[k] := List.getElem?_eq_getElem hlt
  have g2 : b.ps[k]? = some (b.ps[k]'(by omega)) := List.getElem?_eq_getElem (by omega)
  generalize a.ps[k] = p at g1
  generalize b.ps[k]'(by omega) = q at g2
  rw [pairAt_eq g1 g2]
  obtain ⟨m1, hm1, F1, H1⟩ := new_row hh (prC p)
  obtain ⟨m2, hm2, F2, H2⟩ := new_row m1 (prC q)
  have B : PrAt m2 hh.next p := ⟨H1.ext F2⟩
  have C : PrAt m2 m1.next q := ⟨H2⟩
  have E2 := E1.trans (F1.trans F2)
  have key := fresh13 (r := r) (n := n) (h := h) (a := a) (b := b) (k := k) B C
  have pre : ∀ {R : Type} (nx : Env → H → Option R) (K : Exit → Env → H → Option R), evCode P30 (ev30 r (n + 1)) (jmp30 r (n + 1) 35) (dead30 35) r 0 (pc [1, 0, 1, 0, 0] (bd Tryz.f35)) (E35_0 (.pointer (some ⟨h.next, 0, none⟩)) (.slice a.pa a.ps.length a.pt) (.int .i64 (a.ps.length : Int)) (.int .i64 (k : Int))) hh (loopK nx (dead30 35 (4 * 0)) (dead30 35 (4 * 0 + 2)) (dead30 35 1000002) K) =
      jumpK (bif freshOk a b p q then some (.normal, E35_0 (.pointer (some ⟨h.next, 0, none⟩)) (.slice a.pa a.ps.length a.pt) (.int .i64 (a.ps.length : Int)) (.int .i64 (k : Int)), m2) else some (.ret, E35_r (.bool false), m2)) (blockK 1 (seqK (after P30 (ev30 r (n + 1)) (jmp30 r (n + 1) 35) (dead30 35) r 0 (pc [1, 0, 1, 0, 0, 1, 1, 1] (bd Tryz.f35)) (loopK nx (dead30 35 (4 * 0)) (dead30 35 (4 * 0 + 2)) (dead30 35 1000002) K)) (loopK nx (dead30 35 (4 * 0)) (dead30 35 (4 * 0 + 2)) (dead30 35 1000002) K))) := by
    intro R nx K
    rw [e35_0, decide_eq_true (by omega), cond_true, (VA.ps.ext (E.trans E1)).row (P := P30) und27 cel65 agg65 (by omega) g1 rfl rfl, hm1, (A.ext (E1.trans F1)).l9, optK_mk, castSl_mk, (VB.ps.ext (E.trans (E1.trans F1))).row (P := P30) und27 cel65 agg65 (by omega) g2 rfl rfl, hm2,
      B.l4, optK_mk, castI_mk, optK_mk, castI_mk, C.l4, optK_mk, castI_mk, (A.ext E2).l1, optK_mk, castV_mk, (A.ext E2).l8, optK_mk, castV_mk, ← key]
    unfold idle
    cases decide (p.state > 4) with
    | true => simp only [cond_true, Bool.true_or]
    | false =>
      cases p.state != 1 with
      | false => cases a.killed <;> simp only [cond_true, cond_false, Bool.false_or, Bool.false_and, Bool.true_and]
      | true =>
        cases q.state != 1 with
        | true => simp only [cond_true, cond_false, Bool.false_or, Bool.true_or, Bool.true_and]
        | false => cases a.killed <;> simp only [cond_true, cond_false, Bool.false_or, Bool.false_and, Bool.true_and]
  refine ⟨m2, E2, ?_⟩
  cases g : freshOk a b p q with
  | true => exact .inl ⟨rfl, fun {R} nx K => by rw [pre, g, cond_true, jumpK_mk rfl, e35_13n, wrap_succ (by omega)]⟩
  | false => exact .inr ⟨rfl, fun {R} nx K => by rw [pre, g, cond_false, jumpK_mk rfl, e35_13r]⟩
end
end Go.Ev
