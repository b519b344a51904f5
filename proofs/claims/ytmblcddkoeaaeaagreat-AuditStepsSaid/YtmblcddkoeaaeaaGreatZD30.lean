/-
  Audit: Step, by the reference; the law AuditSteps over any memory.
-/
import Derived.Test.YtmblcddkoeaaeaaGreatZC30
namespace Go.Ev
open Go Go.Proofs

def pairF (a b : Vw) (k : Nat) (p q : Pr) (x y : Int) : Bool := match k with
  | 10 => stayOk p q
  | 11 => heldOk p q x y
  | _ => freshOk a b p q

section
variable {r n : Nat} {h m m' : H} {s : Su} {a b : Vw} {p q : Pr} {i : Nat}

theorem fresh36 {x4 x5 x9 x10 : Nat} {x' y' : Int} (VA : VwAt m x4 a) (VB : VwAt m x5 b) (B : PrAt m x9 p) (C : PrAt m x10 q) :
    GivesX (jmp30 r (n + 1) 36 0 (pc [1, 1, 1, 1] (bd Tryz.f36)) (E36_21 (.pointer (some ⟨x4, 0, none⟩)) (.pointer (some ⟨x5, 0, none⟩)) (.pointer (some ⟨x9, 0, none⟩)) (.pointer (some ⟨x10, 0, none⟩))) m) (fun x env hh => x = .ret ∧ env = E36_r (.bool (pairF a b 12 p q x' y')) ∧ Ext m hh) := by
  have fin : idle a b p q = true → ∀ c : Bool, c = decide ((q.kids.length : Int) ≤ (p.kids.length : Int)) → GivesX (some (Exit.ret, E36_r (.bool c), m)) (fun x env hh => x = .ret ∧ env = E36_r (.bool (pairF a b 12 p q x' y')) ∧ Ext m hh) := by
    intro hi c hc
    refine .mk ⟨rfl, ?_, .refl m⟩
    have : pairF a b 12 p q x' y' = c := by
      show freshOk a b p q = c
      unfold freshOk
      rw [hi, hc, Bool.true_and]
      by_cases g : (q.kids.length : Int) ≤ (p.kids.length : Int)
      · rw [decide_eq_true g, decide_eq_false (by omega)]; rfl
      · rw [decide_eq_false g, decide_eq_true (by omega)]; rfl
    rw [this]
  have off : idle a b p q = false → GivesX (some (Exit.ret, E36_r (.bool true), m)) (fun x env hh => x = .ret ∧ env = E36_r (.bool (pairF a b 12 p q x' y')) ∧ Ext m hh) := by
    intro hi
    refine .mk ⟨rfl, ?_, .refl m⟩
    have : pairF a b 12 p q x' y' = true := by show freshOk a b p q = true; unfold freshOk; rw [hi]; rfl
    rw [this]
  rw [e36_21c, B.l4, optK_mk, castI_mk]
  refine GivesX.bif (fun g1 => ?_) (fun g1 => ?_)
  · rw [C.r16, optK_mk, castSl_mk, B.r16, optK_mk, castSl_mk]
    exact fin (by unfold idle; rw [g1]; rfl) _ rfl
  rw [optK_mk, castI_mk]
  refine GivesX.bif (fun g2 => ?_) (fun g2 => ?_)
  · rw [C.l4, optK_mk, castI_mk]
    refine GivesX.bif (fun g3 => ?_) (fun g3 => ?_)
    · rw [C.r16, optK_mk, castSl_mk, B.r16, optK_mk, castSl_mk]
      exact fin (by unfold idle; rw [g1, g2, g3]; rfl) _ rfl
    · rw [VA.l1, optK_mk, castV_mk]
      refine GivesX.bif (fun g4 => ?_) (fun g4 => ?_)
      · rw [VB.l1, optK_mk, castV_mk]
        refine GivesX.bif (fun g5 => ?_) (fun g5 => ?_)
        · rw [C.r16, optK_mk, castSl_mk, B.r16, optK_mk, castSl_mk]
          exact fin (by unfold idle; rw [g1, g2, g3, g4, g5]; rfl) _ rfl
        · exact off (by unfold idle; rw [g1, g2, g3, g4, g5]; rfl)
      · exact off (by unfold idle; rw [g1, g2, g3, g4]; rfl)
  · rw [VA.l1, optK_mk, castV_mk]
    refine GivesX.bif (fun g4 => ?_) (fun g4 => ?_)
    · rw [VB.l1, optK_mk, castV_mk]
      refine GivesX.bif (fun g5 => ?_) (fun g5 => ?_)
      · rw [C.r16, optK_mk, castSl_mk, B.r16, optK_mk, castSl_mk]
        exact fin (by unfold idle; rw [g1, g2, g4, g5]; rfl) _ rfl
      · exact off (by unfold idle; rw [g1, g2, g4, g5]; rfl)
    · exact off (by unfold idle; rw [g1, g2, g4]; rfl)

/-- spigotref30.pair -/
theorem c_pair {k : Nat} {x' y' : Int} (j : Nat) (hj : j = 10 ∨ j = 11 ∨ j = 12) (FA : VwFit a) (VA : VwIn h a) (VB : VwIn h b) (g1 : a.ps[k]? = some p) (g2 : b.ps[k]? = some q) (z1 : a.held[k]? = some x') (z2 : b.held[k]? = some y') (hr : 1000000 ≤ r) :
    Gives (ev30 r (n + 7) 36 [vwV a, vwV b, .int .i64 (k : Int), .int .i64 (j : Int)] h) fun y h' => y = .bool (pairF a b j p q x' y') ∧ Ext h h' := by
  unfold vwV
  rw [e36]
  obtain ⟨m0, hm0, E0, H0⟩ := new_row h (vwC a)
  obtain ⟨m1, hm1, E1, H1⟩ := new_row m0 (vwC b)
  have hn : h.next + 1 = m0.next := by rw [← hm0]; rfl
  rw [hn]
  unfold vwC at hm0 hm1
  rw [hm0, hm1]
  have E := E0.trans E1
  have A : VwAt m1 h.next a := ⟨H0.ext E1⟩
  have B : VwAt m1 m0.next b := ⟨H1⟩
  obtain ⟨m2, hm2, E2, H2⟩ := new_row m1 (prC p)
  obtain ⟨m, hm3, E3, H3⟩ := new_row m2 (prC q)
  have X : PrAt m m1.next p := ⟨H2.ext E3⟩
  have Y : PrAt m m2.next q := ⟨H3⟩
  have E23 := E2.trans E3
  have EE := E.trans E23
  refine Gives.jump (Q := (fun x env hh => x = .ret ∧ env = E36_r (.bool (pairF a b j p q x' y')) ∧ Ext m hh)) ?_ (by rintro x env h' ⟨rfl, rfl, E4⟩; rw [e36_3r]; exact .mk ⟨rfl, EE.trans E4⟩)
  rw [e36_3c, A.l2, optK_mk, castSl_mk, (VA.ps.ext E).row (P := P30) und42 cel75 agg75 (by omega) g1 rfl rfl, hm2, (B.ext E2).l2, optK_mk, castSl_mk, (VB.ps.ext (E.trans E2)).row (P := P30) und42 cel75 agg75 (by omega) g2 rfl rfl, hm3]
  rcases hj with rfl | rfl | rfl
  · have y1 : ldV P30 75 m1.next 0 m = some (prV p) := by rw [ld_agg agg75 cel75 X.has (by simp [prC])]; rfl
    have y2 : ldV P30 75 m2.next 0 m = some (prV q) := by rw [ld_agg agg75 cel75 Y.has (by simp [prC])]; rfl
    obtain ⟨_, m4, q4, rfl, E4⟩ := c_rstay (r := r) (n := n) (h := m) ((VA.kids p (List.mem_of_getElem? g1)).ext EE) ((VB.kids q (List.mem_of_getElem? g2)).ext EE) (FA.ps p (List.mem_of_getElem? g1)).few hr
    rw [show (((10 : Nat) : Int) == 10) = true from rfl, cond_true, y1, optK_mk, show prV p = .agg (prV p).cells from rfl, castA_mk, y2, optK_mk, show prV q = .agg (prV q).cells from rfl, castA_mk,
      show Value.agg (prV p).cells = prV p from rfl, show Value.agg (prV q).cells = prV q from rfl, callK_mk q4, castV_mk]
    exact .mk ⟨rfl, rfl, E4⟩
  · rw [show (((11 : Nat) : Int) == 10) = false from rfl, cond_false, show (((11 : Nat) : Int) == 11) = true from rfl, cond_true, X.l4, optK_mk, castI_mk]
    have yes : heldOk p q x' y' = true → GivesX (some (Exit.ret, E36_r (.bool true), m)) (fun x env hh => x = .ret ∧ env = E36_r (.bool (pairF a b 11 p q x' y')) ∧ Ext m hh) := fun hh => .mk ⟨rfl, by show _ = E36_r (.bool (heldOk p q x' y')); rw [hh], .refl m⟩
    refine GivesX.bif (fun g => yes (by have := of_decide_eq_true g; unfold heldOk; rw [decide_eq_false (show ¬ p.state ≤ 4 by omega)]; simp)) fun s1 => ?_
    have s1 := of_decide_eq_false s1
    rw [Y.l4, optK_mk, castI_mk]
    refine GivesX.bif (fun g => yes (by have := of_decide_eq_true g; unfold heldOk; rw [decide_eq_false (show ¬ q.state ≤ 4 by omega)]; simp)) fun s2 => ?_
    have s2 := of_decide_eq_false s2
    rw [X.l6, optK_mk, castI_mk, Y.l6, optK_mk, castI_mk]
    refine GivesX.bif (fun g => yes (by unfold heldOk sameP; rw [beq_eq_false_iff_ne.2 (bne_no g)]; rfl)) fun s3 => ?_
    rw [X.l7, optK_mk, castI_mk, Y.l7, optK_mk, castI_mk]
    refine GivesX.bif (fun g => yes (by unfold heldOk sameP; rw [beq_eq_false_iff_ne.2 (bne_no g)]; simp)) fun s4 => ?_
    rw [X.l9, optK_mk, castI_mk, Y.l9, optK_mk, castI_mk]
    refine GivesX.bif (fun g => yes (by unfold heldOk sameP; rw [beq_eq_false_iff_ne.2 (bne_no g)]; simp)) fun s5 => ?_
    rw [X.l12, optK_mk, castI_mk, Y.l12, optK_mk, castI_mk]
    refine GivesX.bif (fun g => yes (by unfold heldOk sameP; rw [beq_eq_false_iff_ne.2 (bne_no g)]; simp)) fun s6 => ?_
    refine GivesX.jump (Q := (fun x env hh => x = .ret ∧ env = E36_r (.bool (pairF a b 11 p q x' y')) ∧ Ext m hh)) ?_ (by rintro x env h' ⟨rfl, rfl, E4⟩; rw [e36_19r]; exact .mk ⟨rfl, rfl, E4⟩)
    rw [e36_19c, (A.ext E23).l5, optK_mk, castSl_mk, (VA.held.ext EE).read und28 cel3 agg3 z1, castI_mk, (B.ext E23).l5, optK_mk, castSl_mk, (VB.held.ext EE).read und28 cel3 agg3 z2, castI_mk]
    have hx : (x' == y') = heldOk p q x' y' := by
      unfold heldOk sameP
      rw [beq_iff_eq.2 (bne_yes s3), beq_iff_eq.2 (bne_yes s4), beq_iff_eq.2 (bne_yes s5), beq_iff_eq.2 (bne_yes s6), decide_eq_true (show p.state ≤ 4 by omega), decide_eq_true (show q.state ≤ 4 by omega)]
      simp [bne]
    rw [hx]
    exact .mk ⟨rfl, rfl, .refl m⟩
  · rw [show (((12 : Nat) : Int) == 10) = false from rfl, cond_false, show (((12 : Nat) : Int) == 11) = false from rfl, cond_false]
    refine GivesX.jump (fresh36 (n := n + 4) (x' := x') (y' := y') (A.ext E23) (B.ext E23) X Y) ?_
    rintro x env h' ⟨rfl, rfl, E4⟩; rw [e36_21r]; exact .mk ⟨rfl, rfl, E4⟩

theorem pairs_congr {f g : Pr → Pr → Int → Int → Bool} (hfg : ∀ p q x y, f p q x y = g p q x y) : pairs a b f = pairs a b g := by
  have : f = g := funext fun p => funext fun q => funext fun x => funext fun y => hfg p q x y
  rw [this]

/-- What the reference says behind both checks. -/
def stepZ (a b : Vw) : Int := if firstF (stepAt a b) 4 0 > 0 then firstF (stepAt a b) 4 0 + 8 else 0
theorem step_first {k : Nat} (hk : k < 4) (hp : ∀ i, i < k → stepAt a b i = true) (hn : stepAt a b k = false) : stepZ a b = ((k + 9 : Nat) : Int) := by
  have h1 : firstF (stepAt a b) 4 0 = ((k + 1 : Nat) : Int) := by
    rw [show 4 = k + ((3 - k) + 1) from by omega, firstF_skip k _ 0 (fun i _ h => hp i (by omega)), firstF_no (by rw [Nat.zero_add]; exact hn)]
    omega
  unfold stepZ
  rw [h1, if_pos (by omega)]
  omega
theorem step_none (hp : ∀ i, i < 4 → stepAt a b i = true) : stepZ a b = 0 := by
  have h1 : firstF (stepAt a b) 4 0 = 0 := by
    rw [show 4 = 4 + 0 from rfl, firstF_skip 4 0 0 (fun i _ h => hp i (by omega))]; rfl
  unfold stepZ
  rw [h1, if_neg (by omega)]

theorem refstep9 {x4 x5 : Nat} (FA : VwFit a) (VA : VwIn m a) (VB : VwIn m b) (A : VwAt m x4 a) (B : VwAt m x5 b) (hca : checkOf s a = 0) (hcb : checkOf s b = 0) (hr : 1000000 ≤ r) {z : Int} (hz : z ≤ 0) :
    GivesX (jmp30 r (n + 8) 15 0 (pc [1, 1, 1] (bd Tryz.f15)) (E15_9 (.pointer (some ⟨x4, 0, none⟩)) (.pointer (some ⟨x5, 0, none⟩)) (.int .i64 z)) m) fun x env hh => x = .ret ∧ env = E15_r (.int .i64 (stepZ a b)) ∧ Ext m hh := by
  obtain ⟨_, _, fa, ha0⟩ := sizeOk_all (check_zero_all hca (k := 0) (by omega))
  obtain ⟨_, _, fb, hb0⟩ := sizeOk_all (check_zero_all hcb (k := 0) (by omega))
  have hff := FA.ff
  have hl40 := FA.few
  rw [e15_9c, decide_eq_false (by omega), cond_false, B.l0, optK_mk, castI_mk, A.l0, optK_mk, castI_mk]
  by_cases g0 : b.now < a.now
  · rw [decide_eq_true g0, cond_true]
    exact .mk ⟨rfl, by rw [step_first (a := a) (b := b) (k := 0) (by omega) (fun i hi => by omega) (by show timesOk a b = false; unfold timesOk; rw [decide_eq_false (show ¬ a.now ≤ b.now by omega)]; simp)]; rfl, .refl m⟩
  rw [decide_eq_false g0, cond_false]
  refine GivesX.all a.faults.length (fun k => !decide (b.faults.getD k 0 < a.faults.getD k 0)) (fun hh => hh = m) (fun k => E15_0 (.pointer (some ⟨x4, 0, none⟩)) (.pointer (some ⟨x5, 0, none⟩)) (.int .i64 (k : Int))) (xT := .exit 0) (xF := .ret)
    (envT := E15_2 (.pointer (some ⟨x4, 0, none⟩)) (.pointer (some ⟨x5, 0, none⟩))) (envF := E15_r (.int .i64 9))
    (fun k hh hlt E1 => ?_) (fun hh E1 {R} nx K => by rw [E1, e15_0, A.l6, optK_mk, castSl_mk, decide_eq_false (by omega), cond_false]) rfl (by omega) (fun hh E1 ha => ?_)
    (fun hh E1 ha => by rw [E1, e15_0r, step_first (a := a) (b := b) (k := 0) (by omega) (fun i hi => by omega) (by show timesOk a b = false; unfold timesOk; rw [ha]; rfl)]; exact .mk ⟨rfl, rfl, .refl m⟩)
  · subst E1
    refine ⟨hh, rfl, ?_⟩
    have g1 := getD_at hlt
    have g2 : b.faults[k]? = some (b.faults.getD k 0) := getD_at (by omega)
    generalize a.faults.getD k 0 = x at g1 ⊢
    generalize b.faults.getD k 0 = y at g2 ⊢
    have pre : ∀ {R : Type} (nx : Env → H → Option R) (K : Exit → Env → H → Option R), evCode P30 (ev30 r (n + 7)) (jmp30 r (n + 7) 15) (dead30 15) r 0 (pc [1, 1, 1, 1, 1, 0, 1, 0, 0] (bd Tryz.f15)) (E15_0 (.pointer (some ⟨x4, 0, none⟩)) (.pointer (some ⟨x5, 0, none⟩)) (.int .i64 (k : Int))) hh (loopK nx (dead30 15 (4 * 0)) (dead30 15 (4 * 0 + 2)) (dead30 15 1000002) K) =
        bif decide (y < x) then K .ret (E15_r (.int .i64 9)) hh else nx (E15_0 (.pointer (some ⟨x4, 0, none⟩)) (.pointer (some ⟨x5, 0, none⟩)) (.int .i64 ((k + 1 : Nat) : Int))) hh := by
      intro R nx K
      rw [e15_0, A.l6, optK_mk, castSl_mk, decide_eq_true (by omega), cond_true, B.l6, optK_mk, castSl_mk, VB.faults.read und28 cel3 agg3 g2, castI_mk, optK_mk, castSl_mk, VA.faults.read und28 cel3 agg3 g1, castI_mk, wrap_succ (by omega)]
    cases g : decide (y < x) with
    | false => exact .inl ⟨rfl, fun {R} nx K => by rw [pre, g]; rfl⟩
    | true => exact .inr ⟨rfl, fun {R} nx K => by rw [pre, g]; rfl⟩
  have ht : stepAt a b 0 = true := by show timesOk a b = true; unfold timesOk; rw [ha, decide_eq_true (by omega)]; rfl
  have ht1 : ∀ i, i < 1 → stepAt a b i = true := fun i hi => by
    have : i = 0 := by omega
    subst this
    exact ht
  subst E1
  rw [e15_0x0, B.l2, optK_mk, castSl_mk, A.l2, optK_mk, castSl_mk]
  by_cases hle : (b.ps.length : Int) < (a.ps.length : Int)
  · rw [decide_eq_true hle, cond_true, step_first (a := a) (b := b) (k := 1) (by omega) ht1 (by show (decide _ && _) = false; rw [decide_eq_false (by omega)]; rfl)]
    exact .mk ⟨rfl, rfl, .refl hh⟩
  rw [decide_eq_false hle, cond_false]
  refine GivesX.loop (fun k env h2 => env = E15_8 (.pointer (some ⟨x4, 0, none⟩)) (.pointer (some ⟨x5, 0, none⟩)) (.int .i64 ((k + 10 : Nat) : Int)) ∧ Ext hh h2 ∧ ∀ i, i < k + 1 → stepAt a b i = true) 3
    (fun x env h2 => Ext hh h2 ∧ ((x = .exit 2 ∧ env = E15_10 ∧ ∀ i, i < 4 → stepAt a b i = true) ∨ (x = .ret ∧ env = E15_r (.int .i64 (stepZ a b)))))
    (fun k env h2 hk hI => ?_) ⟨rfl, .refl _, ht1⟩ (by omega) ?_
  · obtain ⟨rfl, E3, hp⟩ := hI
    by_cases hg : k < 3
    rotate_left
    · have : k = 3 := by omega
      subst this
      exact ⟨.off (.exit 2) _ h2, fun nx K => by rw [e15_8, decide_eq_false (by omega), cond_false]; rfl, E3, .inl ⟨rfl, rfl, fun i hi => hp i (by omega)⟩⟩
    have hrule : pairs a b (pairF a b (k + 10)) = stepAt a b (k + 1) := by
      have : k = 0 ∨ k = 1 ∨ k = 2 := by omega
      rcases this with rfl | rfl | rfl
      · show _ = (decide _ && _)
        rw [decide_eq_true (by omega)]; rfl
      · rfl
      · rfl
    obtain ⟨hj, EJ, hin⟩ := loop_all (P := P30) (call := ev30 r (n + 7)) (jmp := jmp30 r (n + 7) 15) (dead := dead30 15) (rounds := r) (c := 4) (code := pc [1, 1, 1, 1, 1, 1, 1, 0, 1, 0, 0, 1, 0, 0, 1, 0, 0] (bd Tryz.f15)) (d := dead30 15 (4 * 4)) (d' := dead30 15 (4 * 4 + 2)) (dr := dead30 15 1000002) a.ps.length (pairAt a b (pairF a b (k + 10))) (fun hj => Ext hh hj) (fun j => E15_16 (.pointer (some ⟨x4, 0, none⟩)) (.pointer (some ⟨x5, 0, none⟩)) (.int .i64 ((k + 10 : Nat) : Int)) (.int .i64 (j : Int)))
      (xT := .exit 4) (xF := .ret) (envT := E15_8 (.pointer (some ⟨x4, 0, none⟩)) (.pointer (some ⟨x5, 0, none⟩)) (.int .i64 ((k + 10 : Nat) : Int))) (envF := E15_r (.int .i64 ((k + 10 : Nat) : Int))) (h := h2) (fun j hj hlt E3 => by
        have g1 : a.ps[j]? = some a.ps[j] := List.getElem?_eq_getElem hlt
        have g2 : b.ps[j]? = some (b.ps[j]'(by omega)) := List.getElem?_eq_getElem (by omega)
        generalize a.ps[j] = p at g1
        generalize b.ps[j]'(by omega) = q at g2
        have z1 := held_at hlt ha0
        have z2 := held_at (v := b) (k := j) (by omega) hb0
        rw [pairAt_eq g1 g2]
        generalize a.held.getD j 0 = x at z1 ⊢
        generalize b.held.getD j 0 = y at z2 ⊢
        obtain ⟨_, m4, q4, rfl, E4⟩ := c_pair (r := r) (n := n) (k + 10) (by omega) FA (VA.ext E3) (VB.ext E3) g1 g2 z1 z2 hr
        have pre : ∀ {R : Type} (nx : Env → H → Option R) (K : Exit → Env → H → Option R), evCode P30 (ev30 r (n + 7)) (jmp30 r (n + 7) 15) (dead30 15) r 4 (pc [1, 1, 1, 1, 1, 1, 1, 0, 1, 0, 0, 1, 0, 0, 1, 0, 0] (bd Tryz.f15)) (E15_16 (.pointer (some ⟨x4, 0, none⟩)) (.pointer (some ⟨x5, 0, none⟩)) (.int .i64 ((k + 10 : Nat) : Int)) (.int .i64 (j : Int))) hj (loopK nx (dead30 15 (4 * 4)) (dead30 15 (4 * 4 + 2)) (dead30 15 1000002) K) =
            bif !pairF a b (k + 10) p q x y then K .ret (E15_r (.int .i64 ((k + 10 : Nat) : Int))) m4 else nx (E15_16 (.pointer (some ⟨x4, 0, none⟩)) (.pointer (some ⟨x5, 0, none⟩)) (.int .i64 ((k + 10 : Nat) : Int)) (.int .i64 ((j + 1 : Nat) : Int))) m4 := by
          intro R nx K
          rw [e15_16, (A.ext E3).l2, optK_mk, castSl_mk, decide_eq_true (by omega), cond_true, (A.ext E3).whole, optK_mk, show vwV a = .agg (vwV a).cells from rfl, castA_mk, (B.ext E3).whole, optK_mk, show vwV b = .agg (vwV b).cells from rfl, castA_mk,
            show Value.agg (vwV a).cells = vwV a from rfl, show Value.agg (vwV b).cells = vwV b from rfl, callK_mk q4, castV_mk, wrap_succ (by omega)]
        refine ⟨m4, E3.trans E4, ?_⟩
        cases g : pairF a b (k + 10) p q x y with
        | true => exact .inl ⟨rfl, fun {R} nx K => by rw [pre, g]; rfl⟩
        | false => exact .inr ⟨rfl, fun {R} nx K => by rw [pre, g]; rfl⟩)
      (fun hj E3 {R} nx K => by rw [e15_16, (A.ext E3).l2, optK_mk, castSl_mk, decide_eq_false (by omega), cond_false]) E3 (r := r) (by omega)
    rw [show ((0 : Nat) : Int) = 0 from rfl] at hin
    unfold pairs at hrule
    rw [hrule] at hin
    rcases hin with ⟨ha, e⟩ | ⟨ha, e⟩
    · refine ⟨.on _ hj, fun nx K => ?_, hg, rfl, EJ, fun i hi => ?_⟩
      · rw [e15_8, decide_eq_true (by omega), cond_true, e, e15_16x4, wrap_succ (by omega), show k + 10 + 1 = k + 1 + 10 from by omega]; rfl
      · by_cases h1 : i = k + 1
        · rw [h1]; exact ha
        · exact hp i (by omega)
    · refine ⟨.off .ret _ hj, fun nx K => ?_, EJ, .inr ⟨rfl, rfl⟩⟩
      rw [e15_8, decide_eq_true (by omega), cond_true, e, e15_16r, step_first (by omega) hp ha]; rfl
  · rintro x env h' ⟨E3, ⟨rfl, rfl, hp⟩ | ⟨rfl, rfl⟩⟩
    · rw [e15_8x2, step_none hp]; exact .mk ⟨rfl, rfl, E3⟩
    · rw [e15_8r]; exact .mk ⟨rfl, rfl, E3⟩

/-- spigotref30.Step -/
theorem c_refstep (FA : VwFit a) (FB : VwFit b) (S : SuIn h s) (SF : SuFew s) (VA : VwIn h a) (VB : VwIn h b) (hr : 1000000 ≤ r) : Gives (ev30 r (n + 13) 15 [suV s, vwV a, vwV b] h) fun y h' => y = .int .i64 (stepOf s a b) ∧ Ext h h' := by
  unfold suV vwV
  rw [e15]
  obtain ⟨m0, hm0, E0, H0⟩ := new_row h (suC s)
  obtain ⟨m1, hm1, E1, H1⟩ := new_row m0 (vwC a)
  obtain ⟨m, hm, E2, H2⟩ := new_row m1 (vwC b)
  have hn : h.next + 1 = m0.next := by rw [← hm0]; rfl
  have hn1 : m0.next + 1 = m1.next := by rw [← hm1]; rfl
  rw [hn, hn1]
  unfold suC at hm0
  unfold vwC at hm1 hm
  rw [hm0, hm1, hm]
  have E := E0.trans (E1.trans E2)
  have X : SuAt m h.next s := ⟨H0.ext (E1.trans E2)⟩
  have A : VwAt m m0.next a := ⟨H1.ext E2⟩
  have B : VwAt m m1.next b := ⟨H2⟩
  have sv : suV s = .agg (suV s).cells := rfl
  have va : vwV a = .agg (vwV a).cells := rfl
  have vb : vwV b = .agg (vwV b).cells := rfl
  refine Gives.jump (Q := fun x env hh => x = .ret ∧ env = E15_r (.int .i64 (stepOf s a b)) ∧ Ext m hh) ?_ (by rintro x env h' ⟨rfl, rfl, E3⟩; rw [e15_3r]; exact .mk ⟨rfl, E.trans E3⟩)
  obtain ⟨_, m3, q3, rfl, E3⟩ := c_refcheck (r := r) (n := n) FA (S.ext E) SF (VA.ext E) hr
  rw [e15_3c, X.whole, optK_mk, sv, castA_mk, A.whole, optK_mk, va, castA_mk, show Value.agg (suV s).cells = suV s from rfl, show Value.agg (vwV a).cells = vwV a from rfl, callK_mk q3, castI_mk]
  have hc := check_range (s := s) (a := a)
  have over : ∀ {w : H} {z : Int}, Ext m w → z > 0 → stepOf s a b = z → GivesX (jumpK (jmp30 r (n + 11) 15 0 (pc [1, 1, 1] (bd Tryz.f15)) (E15_9 (.pointer (some ⟨m0.next, 0, none⟩)) (.pointer (some ⟨m1.next, 0, none⟩)) (.int .i64 z)) w) (outK (dead30 15) (key (pc [1] (bd Tryz.f15))))) fun x env hh => x = .ret ∧ env = E15_r (.int .i64 (stepOf s a b)) ∧ Ext m hh := by
    intro w z Ew hz hs
    refine GivesX.jump (Q := fun x env hh => x = .ret ∧ env = E15_r (.int .i64 (stepOf s a b)) ∧ Ext m hh) ?_ (by rintro x env h' ⟨rfl, rfl, E⟩; rw [e15_9r]; exact .mk ⟨rfl, rfl, E⟩)
    rw [e15_9c, decide_eq_true hz, cond_true, hs]
    exact .mk ⟨rfl, rfl, Ew⟩
  by_cases g1 : checkOf s a > 0
  · rw [beq_eq_false_iff_ne.2 (show checkOf s a ≠ 0 by omega), cond_false]
    exact over E3 g1 (by unfold stepOf; rw [if_pos g1])
  have hca : checkOf s a = 0 := by omega
  obtain ⟨_, m4, q4, rfl, E4⟩ := c_refcheck (r := r) (n := n) FB (S.ext (E.trans E3)) SF (VB.ext (E.trans E3)) hr
  have E34 := E3.trans E4
  rw [beq_iff_eq.2 hca, cond_true, (X.ext E3).whole, optK_mk, sv, castA_mk, (B.ext E3).whole, optK_mk, vb, castA_mk, show Value.agg (suV s).cells = suV s from rfl, show Value.agg (vwV b).cells = vwV b from rfl, callK_mk q4, castI_mk]
  have hc2 := check_range (s := s) (a := b)
  by_cases g2 : checkOf s b > 0
  · exact over E34 g2 (by unfold stepOf; rw [if_neg g1, if_pos g2])
  have hcb : checkOf s b = 0 := by omega
  have hs : stepOf s a b = stepZ a b := by unfold stepOf stepZ; rw [if_neg g1, if_neg g2]
  rw [hs]
  refine GivesX.jump (refstep9 (n := n + 3) (s := s) FA (VA.ext (E.trans E34)) (VB.ext (E.trans E34)) (A.ext E34) (B.ext E34) hca hcb hr (by omega)) ?_
  rintro x env h' ⟨rfl, rfl, E5⟩; rw [e15_9r]; exact .mk ⟨rfl, rfl, E34.trans E5⟩
end
end Go.Ev
