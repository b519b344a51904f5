/-
  Audit: what of two views: a parent that stays, by both.
-/
import Derived.Test.YtmblcddkoeaaeaaGreatX30
namespace Go.Ev
open Go Go.Proofs

def stay1 (p q : Pr) : Bool := decide (p.id.toList = q.id.toList) && (decide (p.acc = q.acc) && (decide (p.sym.toList = q.sym.toList) && (decide (p.side = q.side) && (decide (p.algo = q.algo) && decide (p.start = q.start)))))
def stay2 (p q : Pr) : Bool := decide (p.most ≤ q.most ∧ ¬ (4 < p.state ∧ q.state ≠ p.state) ∧ p.busted ≤ q.busted ∧ IntKind.i64.wrap (p.filled + p.busted) ≤ IntKind.i64.wrap (q.filled + q.busted) ∧ p.kids.length ≤ q.kids.length)
def kidSame (c d : Kid) : Bool := c.id.toList == d.id.toList && (c.venue.toList == d.venue.toList && c.side == d.side)
def kidsAt (p q : Pr) (k : Nat) : Bool := (p.kids[k]?).elim true fun c => (q.kids[k]?).elim true fun d => kidSame c d
def stay3 (p q : Pr) : Bool := allN (kidsAt p q) p.kids.length
def stayOk (p q : Pr) : Bool := stay1 p q && (stay2 p q && stay3 p q)

theorem GivesX.bif {c : Bool} {t e : Option (Exit × Env × H)} {Q : Exit → Env → H → Prop} (ht : c = true → GivesX t Q) (he : c = false → GivesX e Q) : GivesX (bif c then t else e) Q := by
  cases c with
  | true => exact ht rfl
  | false => exact he rfl
theorem bif3 {R : Type} (a b c : Bool) (x y : R) : (bif !a then x else bif !b then x else bif !c then x else y) = bif (a && (b && c)) then y else x := by cases a <;> cases b <;> cases c <;> rfl
theorem list_beq {a b : List UInt8} : (a == b) = decide (a = b) := by
  by_cases h : a = b
  · rw [h]; simp
  · rw [beq_eq_false_iff_ne.2 h, decide_eq_false h]

section
variable {r n : Nat} {h m m' : H} {s : Su} {p q : Pr} {ip iq : Nat}

theorem KidAt.l0 {i : Nat} {c : Kid} (A : KidAt m i c) : ldV P30 9 i 0 m = some (.string c.id) := ld_at agg9 A.has
theorem KidAt.l1 {i : Nat} {c : Kid} (A : KidAt m i c) : ldV P30 9 i 1 m = some (.string c.venue) := ld_at agg9 A.has
theorem KidAt.l2 {i : Nat} {c : Kid} (A : KidAt m i c) : ldV P30 3 i 2 m = some (.int .i64 c.side) := ld_at agg3 A.has

theorem kept3 (B : PrAt m ip p) (C : PrAt m iq q) (KP : Ks m p.ka p.kt p.kids) (KQ : Ks m q.ka q.kt q.kids) (hp : p.kids.length ≤ 60) (hle : p.kids.length ≤ q.kids.length) (h1 : stay1 p q = true) (h2 : stay2 p q = true) (hr : 1000000 ≤ r) :
    GivesX (jmp30 r (n + 2) 65 0 (pc [1, 1, 1] (bd Tryz.f65)) (E65_3 (.pointer (some ⟨ip, 0, none⟩)) (.pointer (some ⟨iq, 0, none⟩))) m) (fun x env hh => x = .ret ∧ env = E65_r (.bool (stayOk p q)) ∧ Ext m hh) := by
  have hs : stayOk p q = stay3 p q := by unfold stayOk; rw [h1, h2]; rfl
  rw [e65_11c, B.l16, optK_mk, castSl_mk]
  refine GivesX.all p.kids.length (kidsAt p q) (fun hh => Ext m hh) (fun j => E65_0 (.pointer (some ⟨iq, 0, none⟩)) (.slice p.ka p.kids.length p.kt) (.int .i64 (p.kids.length : Int)) (.int .i64 (j : Int))) (xT := .exit 0) (xF := .ret) (envT := E65_2) (envF := E65_r (.bool false))
    (fun j hj hlt E1 => ?_) (fun hj E1 {R} nx K => by rw [e65_0, decide_eq_false (by omega), cond_false]) (.refl m) (by omega)
    (fun hh E1 ha => by rw [e65_0x0]; exact .mk ⟨rfl, by rw [hs]; unfold stay3; rw [ha], E1⟩) (fun hh E1 ha => by rw [e65_0r]; exact .mk ⟨rfl, by rw [hs]; unfold stay3; rw [ha], E1⟩)
  have hg1 : p.kids[j]? = some p.kids[j] := List.getElem?_eq_getElem hlt
  have hg2 : q.kids[j]? = some (q.kids[j]'(by omega)) := List.getElem?_eq_getElem (by omega)
  generalize p.kids[j] = c at hg1
  generalize q.kids[j]'(by omega) = d at hg2
  obtain ⟨m1, hm1, F1, H1⟩ := new_row hj (kidC c)
  obtain ⟨m2, hm2, F2, H2⟩ := new_row m1 (kidC d)
  have X : KidAt m2 hj.next c := ⟨H1.ext F2⟩
  have Y : KidAt m2 m1.next d := ⟨H2⟩
  have hk : kidsAt p q j = kidSame c d := by unfold kidsAt; rw [hg1, hg2]; rfl
  have E2 := E1.trans (F1.trans F2)
  have pre : ∀ {R : Type} (nx : Env → H → Option R) (K : Exit → Env → H → Option R), evCode P30 (ev30 r (n + 1)) (jmp30 r (n + 1) 65) (dead30 65) r 0 (pc [1, 1, 1, 0, 1, 0, 0] (bd Tryz.f65)) (E65_0 (.pointer (some ⟨iq, 0, none⟩)) (.slice p.ka p.kids.length p.kt) (.int .i64 (p.kids.length : Int)) (.int .i64 (j : Int))) hj (loopK nx (dead30 65 (4 * 0)) (dead30 65 (4 * 0 + 2)) (dead30 65 1000002) K) =
      bif kidSame c d then nx (E65_0 (.pointer (some ⟨iq, 0, none⟩)) (.slice p.ka p.kids.length p.kt) (.int .i64 (p.kids.length : Int)) (.int .i64 ((j + 1 : Nat) : Int))) m2 else K .ret (E65_r (.bool false)) m2 := by
    intro R nx K
    rw [e65_0, decide_eq_true (by omega), cond_true, (KP.ext E1).row (P := P30) und63 cel81 agg81 (by omega) hg1 rfl rfl, hm1, (C.ext (E1.trans F1)).l16, optK_mk, castSl_mk, (KQ.ext (E1.trans F1)).row (P := P30) und63 cel81 agg81 (by omega) hg2 rfl rfl, hm2,
      X.l0, optK_mk, castS_mk, Y.l0, optK_mk, castS_mk, X.l1, optK_mk, castS_mk, Y.l1, optK_mk, castS_mk, X.l2, optK_mk, castI_mk, Y.l2, optK_mk, castI_mk, wrap_succ (by omega)]
    exact bif3 _ _ _ _ _
  refine ⟨m2, E2, ?_⟩
  rw [hk]
  cases g : kidSame c d with
  | true => exact .inl ⟨rfl, fun {R} nx K => by rw [pre, g]; rfl⟩
  | false => exact .inr ⟨rfl, fun {R} nx K => by rw [pre, g]; rfl⟩

theorem stay1_no (h : stay1 p q = false) : stayOk p q = false := by unfold stayOk; rw [h]; rfl
theorem stay2_no (h : stay2 p q = false) : stayOk p q = false := by unfold stayOk; rw [h]; simp
theorem beq_no {a b : List UInt8} (g : (!(a == b)) = true) : a ≠ b := by intro e; rw [e] at g; simp at g
theorem beq_yes {a b : List UInt8} (g : (!(a == b)) = false) : a = b := by simpa using g
theorem bne_no {a b : Int} (g : (a != b) = true) : a ≠ b := bne_iff_ne.1 g
theorem bne_yes {a b : Int} (g : (a != b) = false) : a = b := by simpa using g

theorem kept2 (B : PrAt m ip p) (C : PrAt m iq q) (KP : Ks m p.ka p.kt p.kids) (KQ : Ks m q.ka q.kt q.kids) (hp : p.kids.length ≤ 60) (h1 : stay1 p q = true) (hr : 1000000 ≤ r) :
    GivesX (jmp30 r (n + 3) 65 0 (pc [1, 1] (bd Tryz.f65)) (E65_3 (.pointer (some ⟨ip, 0, none⟩)) (.pointer (some ⟨iq, 0, none⟩))) m) (fun x env hh => x = .ret ∧ env = E65_r (.bool (stayOk p q)) ∧ Ext m hh) := by
  have no : stay2 p q = false → GivesX (some (Exit.ret, E65_r (Value.bool false), m)) (fun x env hh => x = .ret ∧ env = E65_r (.bool (stayOk p q)) ∧ Ext m hh) := fun h => .mk ⟨rfl, by rw [stay2_no h], .refl m⟩
  rw [e65_7c, C.l10, optK_mk, castI_mk, B.l10, optK_mk, castI_mk]
  refine GivesX.bif (fun g => no (decide_eq_false (by have := of_decide_eq_true g; omega))) fun g1 => ?_
  have g1 := of_decide_eq_false g1
  rw [B.l4, optK_mk, castI_mk]
  have rest : ¬ (4 < p.state ∧ q.state ≠ p.state) → GivesX (optK (ldV P30 3 iq 12 m) fun v10 => castI .i64 v10 fun n11 => optK (ldV P30 3 ip 12 m) fun v12 => castI .i64 v12 fun n13 => bif decide (n11 < n13) then some (Exit.ret, E65_r (Value.bool false), m) else
      optK (ldV P30 3 iq 11 m) fun v14 => castI .i64 v14 fun n15 => optK (ldV P30 3 iq 12 m) fun v16 => castI .i64 v16 fun n17 => optK (ldV P30 3 ip 11 m) fun v18 => castI .i64 v18 fun n19 => optK (ldV P30 3 ip 12 m) fun v20 => castI .i64 v20 fun n21 =>
      bif decide (IntKind.i64.wrap (n15 + n17) < IntKind.i64.wrap (n19 + n21)) then some (Exit.ret, E65_r (Value.bool false), m) else
      optK (ldV P30 63 iq 16 m) fun v22 => castSl v22 fun _ o24 _ => optK (ldV P30 63 ip 16 m) fun v26 => castSl v26 fun _ o28 _ => bif decide ((o24 : Int) < (o28 : Int)) then some (Exit.ret, E65_r (Value.bool false), m) else
      jumpK (jmp30 r (n + 2) 65 0 (pc [1, 1, 1] (bd Tryz.f65)) (E65_3 (.pointer (some ⟨ip, 0, none⟩)) (.pointer (some ⟨iq, 0, none⟩))) m) (outK (dead30 65) (key (pc [1, 1] (bd Tryz.f65))))) (fun x env hh => x = .ret ∧ env = E65_r (.bool (stayOk p q)) ∧ Ext m hh) := by
    intro g2
    rw [C.l12, optK_mk, castI_mk, B.l12, optK_mk, castI_mk]
    refine GivesX.bif (fun g => no (decide_eq_false (by have := of_decide_eq_true g; omega))) fun g3 => ?_
    have g3 := of_decide_eq_false g3
    rw [C.l11, optK_mk, castI_mk, optK_mk, castI_mk, B.l11, optK_mk, castI_mk, optK_mk, castI_mk]
    refine GivesX.bif (fun g => no (decide_eq_false (by have := of_decide_eq_true g; omega))) fun g4 => ?_
    have g4 := of_decide_eq_false g4
    rw [C.l16, optK_mk, castSl_mk, B.l16, optK_mk, castSl_mk]
    refine GivesX.bif (fun g => no (decide_eq_false (by have := of_decide_eq_true g; omega))) fun g5 => ?_
    have g5 := of_decide_eq_false g5
    refine GivesX.jump (kept3 (n := n) B C KP KQ hp (by omega) h1 (decide_eq_true ⟨by omega, g2, by omega, by omega, by omega⟩) hr) ?_
    rintro x env h' ⟨rfl, rfl, E⟩; rw [e65_11r]; exact .mk ⟨rfl, rfl, E⟩
  by_cases g2 : p.state > 4
  · rw [decide_eq_true g2, cond_true, C.l4, optK_mk, castI_mk, optK_mk, castI_mk]
    refine GivesX.bif (fun g => no (decide_eq_false fun h => h.2.1 ⟨g2, bne_no g⟩)) fun g => ?_
    exact rest fun h => h.2 (bne_yes g)
  · rw [decide_eq_false g2, cond_false]
    exact rest fun h => g2 h.1

/-- kept: a parent that stays. -/
theorem c_kept (KP : Ks h p.ka p.kt p.kids) (KQ : Ks h q.ka q.kt q.kids) (hp : p.kids.length ≤ 60) (hr : 1000000 ≤ r) : Gives (ev30 r (n + 5) 65 [prV p, prV q] h) fun y h' => y = .bool (stayOk p q) ∧ Ext h h' := by
  unfold prV
  rw [e65]
  obtain ⟨m0, hm0, E0, H0⟩ := new_row h (prC p)
  obtain ⟨m, hm, E1, H1⟩ := new_row m0 (prC q)
  have hn : h.next + 1 = m0.next := by rw [← hm0]; rfl
  rw [hn]
  unfold prC at hm0 hm
  rw [hm0, hm]
  have E := E0.trans E1
  have B : PrAt m h.next p := ⟨H0.ext E1⟩
  have C : PrAt m m0.next q := ⟨H1⟩
  refine Gives.jump (Q := fun x env hh => x = .ret ∧ env = E65_r (.bool (stayOk p q)) ∧ Ext m hh) ?_ (by rintro x env h' ⟨rfl, rfl, E2⟩; rw [e65_3r]; exact .mk ⟨rfl, E.trans E2⟩)
  have no : stay1 p q = false → GivesX (some (Exit.ret, E65_r (Value.bool false), m)) (fun x env hh => x = .ret ∧ env = E65_r (.bool (stayOk p q)) ∧ Ext m hh) := fun h => .mk ⟨rfl, by rw [stay1_no h], .refl m⟩
  rw [e65_3c, B.l0, optK_mk, castS_mk, C.l0, optK_mk, castS_mk]
  refine GivesX.bif (fun g => no (by unfold stay1; rw [decide_eq_false (beq_no g)]; rfl)) fun g1 => ?_
  rw [B.l1, optK_mk, castS_mk, C.l1, optK_mk, castS_mk, txt_toList, txt_toList]
  refine GivesX.bif (fun g => no (by unfold stay1; rw [decide_eq_false (beq_no g)]; simp)) fun g2 => ?_
  rw [B.l2, optK_mk, castS_mk, C.l2, optK_mk, castS_mk]
  refine GivesX.bif (fun g => no (by unfold stay1; rw [decide_eq_false (beq_no g)]; simp)) fun g3 => ?_
  rw [B.l3, optK_mk, castI_mk, C.l3, optK_mk, castI_mk]
  refine GivesX.bif (fun g => no (by unfold stay1; rw [decide_eq_false (bne_no g)]; simp)) fun g4 => ?_
  rw [B.l5, optK_mk, castI_mk, C.l5, optK_mk, castI_mk]
  refine GivesX.bif (fun g => no (by unfold stay1; rw [decide_eq_false (bne_no g)]; simp)) fun g5 => ?_
  rw [B.l8, optK_mk, castI_mk, C.l8, optK_mk, castI_mk]
  refine GivesX.bif (fun g => no (by unfold stay1; rw [decide_eq_false (bne_no g)]; simp)) fun g6 => ?_
  refine GivesX.jump (kept2 (n := n) B C (KP.ext E) (KQ.ext E) hp (by unfold stay1; rw [decide_eq_true (beq_yes g1), decide_eq_true (beq_yes g2), decide_eq_true (beq_yes g3), decide_eq_true (bne_yes g4), decide_eq_true (bne_yes g5), decide_eq_true (bne_yes g6)]; rfl) hr) ?_
  rintro x env h' ⟨rfl, rfl, E⟩; rw [e65_7r]; exact .mk ⟨rfl, rfl, E⟩

/-! ### the same of the reference -/
theorem rstay3 (B : PrAt m ip p) (C : PrAt m iq q) (KP : Ks m p.ka p.kt p.kids) (KQ : Ks m q.ka q.kt q.kids) (hp : p.kids.length ≤ 60) (hle : p.kids.length ≤ q.kids.length) (h1 : stay1 p q = true) (h2 : stay2 p q = true) (hr : 1000000 ≤ r) :
    GivesX (jmp30 r (n + 2) 66 0 (pc [1, 1, 1] (bd Tryz.f66)) (E66_3 (.pointer (some ⟨ip, 0, none⟩)) (.pointer (some ⟨iq, 0, none⟩))) m) (fun x env hh => x = .ret ∧ env = E66_r (.bool (stayOk p q)) ∧ Ext m hh) := by
  have hs : stayOk p q = stay3 p q := by unfold stayOk; rw [h1, h2]; rfl
  rw [e66_11c]
  refine GivesX.all p.kids.length (kidsAt p q) (fun hh => Ext m hh) (fun j => E66_0 (.pointer (some ⟨ip, 0, none⟩)) (.pointer (some ⟨iq, 0, none⟩)) (.int .i64 (j : Int))) (xT := .exit 0) (xF := .ret) (envT := E66_2) (envF := E66_r (.bool false))
    (fun j hj hlt E1 => ?_) (fun hj E1 {R} nx K => by rw [e66_0, (B.ext E1).r16, optK_mk, castSl_mk, decide_eq_false (by omega), cond_false]) (.refl m) (by omega)
    (fun hh E1 ha => by rw [e66_0x0]; exact .mk ⟨rfl, by rw [hs]; unfold stay3; rw [ha], E1⟩) (fun hh E1 ha => by rw [e66_0r]; exact .mk ⟨rfl, by rw [hs]; unfold stay3; rw [ha], E1⟩)
  have hg1 : p.kids[j]? = some p.kids[j] := List.getElem?_eq_getElem hlt
  have hg2 : q.kids[j]? = some (q.kids[j]'(by omega)) := List.getElem?_eq_getElem (by omega)
  generalize p.kids[j] = c at hg1
  generalize q.kids[j]'(by omega) = d at hg2
  obtain ⟨m1, hm1, F1, H1⟩ := new_row hj (kidC c)
  obtain ⟨m2, hm2, F2, H2⟩ := new_row m1 (kidC d)
  have X : KidAt m2 hj.next c := ⟨H1.ext F2⟩
  have Y : KidAt m2 m1.next d := ⟨H2⟩
  have hk : kidsAt p q j = kidSame c d := by unfold kidsAt; rw [hg1, hg2]; rfl
  have E2 := E1.trans (F1.trans F2)
  have pre : ∀ {R : Type} (nx : Env → H → Option R) (K : Exit → Env → H → Option R), evCode P30 (ev30 r (n + 1)) (jmp30 r (n + 1) 66) (dead30 66) r 0 (pc [1, 1, 1, 0, 1, 0, 0] (bd Tryz.f66)) (E66_0 (.pointer (some ⟨ip, 0, none⟩)) (.pointer (some ⟨iq, 0, none⟩)) (.int .i64 (j : Int))) hj (loopK nx (dead30 66 (4 * 0)) (dead30 66 (4 * 0 + 2)) (dead30 66 1000002) K) =
      bif kidSame c d then nx (E66_0 (.pointer (some ⟨ip, 0, none⟩)) (.pointer (some ⟨iq, 0, none⟩)) (.int .i64 ((j + 1 : Nat) : Int))) m2 else K .ret (E66_r (.bool false)) m2 := by
    intro R nx K
    rw [e66_0, (B.ext E1).r16, optK_mk, castSl_mk, decide_eq_true (by omega), cond_true, optK_mk, castSl_mk, (KP.ext E1).row (P := P30) und73 cel82 agg82 (by omega) hg1 rfl rfl, hm1, (C.ext (E1.trans F1)).r16, optK_mk, castSl_mk,
      (KQ.ext (E1.trans F1)).row (P := P30) und73 cel82 agg82 (by omega) hg2 rfl rfl, hm2,
      X.l0, optK_mk, castS_mk, Y.l0, optK_mk, castS_mk, X.l1, optK_mk, castS_mk, Y.l1, optK_mk, castS_mk, X.l2, optK_mk, castI_mk, Y.l2, optK_mk, castI_mk, wrap_succ (by omega)]
    exact bif3 _ _ _ _ _
  refine ⟨m2, E2, ?_⟩
  rw [hk]
  cases g : kidSame c d with
  | true => exact .inl ⟨rfl, fun {R} nx K => by rw [pre, g]; rfl⟩
  | false => exact .inr ⟨rfl, fun {R} nx K => by rw [pre, g]; rfl⟩

theorem rstay2 (B : PrAt m ip p) (C : PrAt m iq q) (KP : Ks m p.ka p.kt p.kids) (KQ : Ks m q.ka q.kt q.kids) (hp : p.kids.length ≤ 60) (h1 : stay1 p q = true) (hmost : p.most ≤ q.most) (hle : p.kids.length ≤ q.kids.length) (hr : 1000000 ≤ r) :
    GivesX (jmp30 r (n + 3) 66 0 (pc [1, 1] (bd Tryz.f66)) (E66_3 (.pointer (some ⟨ip, 0, none⟩)) (.pointer (some ⟨iq, 0, none⟩))) m) (fun x env hh => x = .ret ∧ env = E66_r (.bool (stayOk p q)) ∧ Ext m hh) := by
  have no : stay2 p q = false → GivesX (some (Exit.ret, E66_r (Value.bool false), m)) (fun x env hh => x = .ret ∧ env = E66_r (.bool (stayOk p q)) ∧ Ext m hh) := fun h => .mk ⟨rfl, by rw [stay2_no h], .refl m⟩
  rw [e66_7c, B.l4, optK_mk, castI_mk]
  have rest : ¬ (4 < p.state ∧ q.state ≠ p.state) → GivesX (optK (ldV P30 3 iq 12 m) fun v10 => castI .i64 v10 fun n11 => optK (ldV P30 3 ip 12 m) fun v12 => castI .i64 v12 fun n13 => bif decide (n11 < n13) then some (Exit.ret, E66_r (Value.bool false), m) else
      optK (ldV P30 3 iq 11 m) fun v14 => castI .i64 v14 fun n15 => optK (ldV P30 3 iq 12 m) fun v16 => castI .i64 v16 fun n17 => optK (ldV P30 3 ip 11 m) fun v18 => castI .i64 v18 fun n19 => optK (ldV P30 3 ip 12 m) fun v20 => castI .i64 v20 fun n21 =>
      bif decide (IntKind.i64.wrap (n15 + n17) < IntKind.i64.wrap (n19 + n21)) then some (Exit.ret, E66_r (Value.bool false), m) else
      jumpK (jmp30 r (n + 2) 66 0 (pc [1, 1, 1] (bd Tryz.f66)) (E66_3 (.pointer (some ⟨ip, 0, none⟩)) (.pointer (some ⟨iq, 0, none⟩))) m) (outK (dead30 66) (key (pc [1, 1] (bd Tryz.f66))))) (fun x env hh => x = .ret ∧ env = E66_r (.bool (stayOk p q)) ∧ Ext m hh) := by
    intro g2
    rw [C.l12, optK_mk, castI_mk, B.l12, optK_mk, castI_mk]
    refine GivesX.bif (fun g => no (decide_eq_false (by have := of_decide_eq_true g; omega))) fun g3 => ?_
    have g3 := of_decide_eq_false g3
    rw [C.l11, optK_mk, castI_mk, optK_mk, castI_mk, B.l11, optK_mk, castI_mk, optK_mk, castI_mk]
    refine GivesX.bif (fun g => no (decide_eq_false (by have := of_decide_eq_true g; omega))) fun g4 => ?_
    have g4 := of_decide_eq_false g4
    refine GivesX.jump (rstay3 (n := n) B C KP KQ hp hle h1 (decide_eq_true ⟨by omega, g2, by omega, by omega, by omega⟩) hr) ?_
    rintro x env h' ⟨rfl, rfl, E⟩; rw [e66_11r]; exact .mk ⟨rfl, rfl, E⟩
  by_cases g2 : p.state > 4
  · rw [decide_eq_true g2, cond_true, optK_mk, castI_mk, C.l4, optK_mk, castI_mk]
    refine GivesX.bif (fun g => no (decide_eq_false fun h => h.2.1 ⟨g2, fun e => bne_no g e.symm⟩)) fun g => ?_
    exact rest fun h => h.2 (bne_yes g).symm
  · rw [decide_eq_false g2, cond_false]
    exact rest fun h => g2 h.1

theorem c_rstay (KP : Ks h p.ka p.kt p.kids) (KQ : Ks h q.ka q.kt q.kids) (hp : p.kids.length ≤ 60) (hr : 1000000 ≤ r) : Gives (ev30 r (n + 5) 66 [prV p, prV q] h) fun y h' => y = .bool (stayOk p q) ∧ Ext h h' := by
  unfold prV
  rw [e66]
  obtain ⟨m0, hm0, E0, H0⟩ := new_row h (prC p)
  obtain ⟨m, hm, E1, H1⟩ := new_row m0 (prC q)
  have hn : h.next + 1 = m0.next := by rw [← hm0]; rfl
  rw [hn]
  unfold prC at hm0 hm
  rw [hm0, hm]
  have E := E0.trans E1
  have B : PrAt m h.next p := ⟨H0.ext E1⟩
  have C : PrAt m m0.next q := ⟨H1⟩
  refine Gives.jump (Q := fun x env hh => x = .ret ∧ env = E66_r (.bool (stayOk p q)) ∧ Ext m hh) ?_ (by rintro x env h' ⟨rfl, rfl, E2⟩; rw [e66_3r]; exact .mk ⟨rfl, E.trans E2⟩)
  have no : stay1 p q = false → GivesX (some (Exit.ret, E66_r (Value.bool false), m)) (fun x env hh => x = .ret ∧ env = E66_r (.bool (stayOk p q)) ∧ Ext m hh) := fun h => .mk ⟨rfl, by rw [stay1_no h], .refl m⟩
  have no2 : stay2 p q = false → GivesX (some (Exit.ret, E66_r (Value.bool false), m)) (fun x env hh => x = .ret ∧ env = E66_r (.bool (stayOk p q)) ∧ Ext m hh) := fun h => .mk ⟨rfl, by rw [stay2_no h], .refl m⟩
  rw [e66_3c, B.l0, optK_mk, castS_mk, C.l0, optK_mk, castS_mk]
  refine GivesX.bif (fun g => no (by unfold stay1; rw [decide_eq_false (beq_no g)]; rfl)) fun g1 => ?_
  rw [B.l1, optK_mk, castS_mk, C.l1, optK_mk, castS_mk, txt_toList, txt_toList]
  refine GivesX.bif (fun g => no (by unfold stay1; rw [decide_eq_false (beq_no g)]; simp)) fun g2 => ?_
  rw [B.l2, optK_mk, castS_mk, C.l2, optK_mk, castS_mk]
  refine GivesX.bif (fun g => no (by unfold stay1; rw [decide_eq_false (beq_no g)]; simp)) fun g3 => ?_
  rw [B.l3, optK_mk, castI_mk, C.l3, optK_mk, castI_mk]
  refine GivesX.bif (fun g => no (by unfold stay1; rw [decide_eq_false (bne_no g)]; simp)) fun g4 => ?_
  rw [B.l5, optK_mk, castI_mk, C.l5, optK_mk, castI_mk]
  refine GivesX.bif (fun g => no (by unfold stay1; rw [decide_eq_false (bne_no g)]; simp)) fun g5 => ?_
  rw [B.l8, optK_mk, castI_mk, C.l8, optK_mk, castI_mk]
  refine GivesX.bif (fun g => no (by unfold stay1; rw [decide_eq_false (bne_no g)]; simp)) fun g6 => ?_
  rw [C.l10, optK_mk, castI_mk, B.l10, optK_mk, castI_mk]
  refine GivesX.bif (fun g => no2 (decide_eq_false (by have := of_decide_eq_true g; omega))) fun g7 => ?_
  have g7 := of_decide_eq_false g7
  rw [C.r16, optK_mk, castSl_mk, B.r16, optK_mk, castSl_mk]
  refine GivesX.bif (fun g => no2 (decide_eq_false (by have := of_decide_eq_true g; omega))) fun g8 => ?_
  have g8 := of_decide_eq_false g8
  refine GivesX.jump (rstay2 (n := n) B C (KP.ext E) (KQ.ext E) hp (by unfold stay1; rw [decide_eq_true (beq_yes g1), decide_eq_true (beq_yes g2), decide_eq_true (beq_yes g3), decide_eq_true (bne_yes g4), decide_eq_true (bne_yes g5), decide_eq_true (bne_yes g6)]; rfl) (by omega) (by omega) hr) ?_
  rintro x env h' ⟨rfl, rfl, E⟩; rw [e66_7r]; exact .mk ⟨rfl, rfl, E⟩
end
end Go.Ev
