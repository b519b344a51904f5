/-
  Audit: the program's rule 8.
-/
import Derived.Test.YtmblcddkoeaaeaaGreatK30
namespace Go.Ev
open Go Go.Proofs

/-- What parents of an account that are done are worth, of the first k; what is held for them. -/
def worthAt (s : Su) (v : Vw) (i : Nat) (k : Nat) : Option Int := (v.ps[k]?).bind fun p => if 4 < p.state ∧ placeIn s p.acc = (i : Int) then some p.worth else none
def heldAt (s : Su) (v : Vw) (i : Nat) (k : Nat) : Option Int := (v.ps[k]?).bind fun p => if placeIn s p.acc = (i : Int) then some (v.held.getD k 0) else none
def upto (f : Nat → Option Int) (k : Nat) : List Int := (List.range k).filterMap f
theorem upto_succ (f : Nat → Option Int) (k : Nat) : upto f (k + 1) = upto f k ++ (f k).toList := by
  unfold upto; rw [List.range_succ, List.filterMap_append]
  cases h : f k <;> simp [h]
theorem upto_len (f : Nat → Option Int) (k : Nat) : (upto f k).length ≤ k := by
  have := List.length_filterMap_le f (List.range k); simp at this; exact this
def acOk (s : Su) (v : Vw) (i : Nat) : Bool :=
  isSum (v.real.getD i 0) (upto (worthAt s v i) v.ps.length) && (isSum (v.used.getD i 0) (v.real.getD i 0 :: upto (heldAt s v i) v.ps.length) && decide (v.used.getD i 0 ≤ ((s.ac[i]?).elim 0 (·.2))))
theorem getD_at {l : List Int} {k : Nat} (hk : k < l.length) : l[k]? = some (l.getD k 0) := by
  rw [List.getD_eq_getElem?_getD, List.getElem?_eq_getElem hk]; rfl

section
variable {r n : Nat} {h : H} {s : Su} {v : Vw}


theorem c_r8 (F : VwFit v) (S : SuIn h s) (SF : SuFew s) (V : VwIn h v) (hr : 1000000 ≤ r) (hh0 : v.held.length = v.ps.length) (hu0 : v.used.length = s.ac.length) (hr0 : v.real.length = s.ac.length) :
    Gives (ev30 r (n + 9) 27 [stV s v] h) fun y h' => y = .bool (allN (acOk s v) s.ac.length) ∧ Ext h h' := by
  unfold stV
  rw [e27]
  obtain ⟨m, hm, E, HX⟩ := new_row h (suC s ++ vwC v)
  simp only [suC, vwC, List.cons_append, List.nil_append] at hm
  rw [hm]
  have A : StillAt m h.next s v := ⟨HX⟩
  clear HX hm
  refine Gives.jump (Q := fun x env hh => x = .ret ∧ env = E27_r (.bool (allN (acOk s v) s.ac.length)) ∧ Ext h hh) ?_ (by rintro x env h' ⟨rfl, rfl, E⟩; rw [e27_3r]; exact .mk ⟨rfl, E⟩)
  have SF1 := SF.ac
  have hl40 := F.few
  rw [e27_3c, A.l0, optK_mk, castSl_mk]
  refine GivesX.all s.ac.length (acOk s v) (fun hh => Ext m hh) (fun i => E27_0 (.pointer (some ⟨h.next, 0, none⟩)) (.slice s.aa s.ac.length s.at') (.int .i64 (s.ac.length : Int)) (.int .i64 (i : Int))) (fun i hh hlt E1 => ?_)
    (fun hh _ {R} nx K => by rw [e27_0, decide_eq_false (by omega), cond_false]) (.refl m) (by omega)
    (fun hh E1 ha => by rw [e27_0x0]; exact .mk ⟨rfl, by rw [ha], E.trans E1⟩) (fun hh E1 ha => by rw [e27_0r]; exact .mk ⟨rfl, by rw [ha], E.trans E1⟩)
  have hget : s.ac[i]? = some s.ac[i] := List.getElem?_eq_getElem hlt
  generalize hx : s.ac[i] = x at hget
  have hk : decide ((i : Int) < (s.ac.length : Int)) = true := decide_eq_true (by omega)
  obtain ⟨m2, hm2, E2, H2⟩ := new_row hh (acC x)
  have EE2 := E1.trans E2
  have A2 := A.ext EE2
  have V2 := V.ext (E.trans EE2)
  have S2 := S.ext (E.trans EE2)
  -- what is done
  obtain ⟨⟨a5, s5⟩, m3, ⟨E3, X5⟩, e⟩ := loop_run (P := P30) (call := ev30 r (n + 7)) (jmp := jmp30 r (n + 7) 27) (dead := dead30 27) (rounds := r) (c := 2) (code := pc [1, 0, 1, 0, 0, 1, 1, 0, 0, 1, 1, 0, 1, 0, 0] (bd Tryz.f27)) (d := dead30 27 (4 * 2)) (d' := dead30 27 (4 * 2 + 2)) (dr := dead30 27 1000002) (σ := Option Addr × Nat) v.ps.length
    (fun j x hj => Ext m2 hj ∧ AccI m2 hj x.1 x.2 (upto (worthAt s v i) j))
    (fun j x => E27_8 (.pointer (some ⟨h.next, 0, none⟩)) (.int .i64 (i : Int)) (.pointer (some ⟨hh.next, 0, none⟩)) (.slice x.1 (upto (worthAt s v i) j).length x.2) (.slice s.aa s.ac.length s.at') (.int .i64 (s.ac.length : Int)) (.int .i64 (i : Int)) (.slice v.pa v.ps.length v.pt) (.int .i64 (v.ps.length : Int)) (.int .i64 (j : Int))) (xT := .exit 2)
    (envT := fun x => E27_10 (.pointer (some ⟨h.next, 0, none⟩)) (.int .i64 (i : Int)) (.pointer (some ⟨hh.next, 0, none⟩)) (.slice x.1 (upto (worthAt s v i) v.ps.length).length x.2) (.slice s.aa s.ac.length s.at') (.int .i64 (s.ac.length : Int)) (.int .i64 (i : Int))) (s0 := (none, 0)) (h := m2) (fun j ⟨a5, s5⟩ hj hlt2 ⟨E3, X5⟩ => by
      simp only at X5 ⊢
      have hget2 : v.ps[j]? = some v.ps[j] := List.getElem?_eq_getElem hlt2
      generalize v.ps[j] = p at hget2
      have hk2 : decide ((j : Int) < (v.ps.length : Int)) = true := decide_eq_true (by omega)
      obtain ⟨m4, hm4, E4, H4⟩ := new_row hj (prC p)
      have B : PrAt m4 hj.next p := ⟨H4⟩
      have hlen := upto_len (worthAt s v i) j
      have hf : worthAt s v i j = if 4 < p.state ∧ placeIn s p.acc = (i : Int) then some p.worth else none := by unfold worthAt; rw [hget2]; rfl
      by_cases g1 : p.state > 4
      rotate_left
      · have hu : upto (worthAt s v i) (j + 1) = upto (worthAt s v i) j := by rw [upto_succ, hf, if_neg (fun h => g1 h.1)]; simp
        refine ⟨(a5, s5), m4, ⟨E3.trans E4, by rw [hu]; exact X5.ext E4⟩, fun {R} nx K => ?_⟩
        rw [hu, e27_8, hk2, cond_true, (V2.ps.ext E3).row (P := P30) und27 cel65 agg65 (by omega) hget2 rfl rfl, hm4, B.l4, optK_mk, castI_mk, decide_eq_false g1, cond_false, wrap_succ (by omega)]
      obtain ⟨_, m5, q5, rfl, E5⟩ := c_place (r := r) (n := n + 5) (w := p.acc) (S2.ext (E3.trans E4)) SF hr
      have B5 := B.ext E5
      have A4 := A2.ext (E3.trans E4)
      have pre : ∀ {R : Type} (nx : Env → H → Option R) (K : Exit → Env → H → Option R), evCode P30 (ev30 r (n + 7)) (jmp30 r (n + 7) 27) (dead30 27) r 2 (pc [1, 0, 1, 0, 0, 1, 1, 0, 0, 1, 1, 0, 1, 0, 0] (bd Tryz.f27)) (E27_8 (.pointer (some ⟨h.next, 0, none⟩)) (.int .i64 (i : Int)) (.pointer (some ⟨hh.next, 0, none⟩)) (.slice a5 (upto (worthAt s v i) j).length s5) (.slice s.aa s.ac.length s.at') (.int .i64 (s.ac.length : Int)) (.int .i64 (i : Int)) (.slice v.pa v.ps.length v.pt) (.int .i64 (v.ps.length : Int)) (.int .i64 (j : Int))) hj (loopK nx (dead30 27 (4 * 2)) (dead30 27 (4 * 2 + 2)) (dead30 27 1000002) K) =
          bif placeIn s p.acc == (i : Int) then appendA P30 ⟨[28, 28]⟩ (.slice a5 (upto (worthAt s v i) j).length s5) (.slice (some ⟨m5.next, 0, none⟩) 1 1) (m5.new (.cells [.int .i64 p.worth] false)) fun v17 h18 => castSl v17 fun a19 o20 o21 =>
            nx (E27_8 (.pointer (some ⟨h.next, 0, none⟩)) (.int .i64 (i : Int)) (.pointer (some ⟨hh.next, 0, none⟩)) (.slice a19 o20 o21) (.slice s.aa s.ac.length s.at') (.int .i64 (s.ac.length : Int)) (.int .i64 (i : Int)) (.slice v.pa v.ps.length v.pt) (.int .i64 (v.ps.length : Int)) (.int .i64 ((j + 1 : Nat) : Int))) h18
          else nx (E27_8 (.pointer (some ⟨h.next, 0, none⟩)) (.int .i64 (i : Int)) (.pointer (some ⟨hh.next, 0, none⟩)) (.slice a5 (upto (worthAt s v i) j).length s5) (.slice s.aa s.ac.length s.at') (.int .i64 (s.ac.length : Int)) (.int .i64 (i : Int)) (.slice v.pa v.ps.length v.pt) (.int .i64 (v.ps.length : Int)) (.int .i64 ((j + 1 : Nat) : Int))) m5 := by
        intro R nx K
        rw [e27_8, hk2, cond_true, (V2.ps.ext E3).row (P := P30) und27 cel65 agg65 (by omega) hget2 rfl rfl, hm4, B.l4, optK_mk, castI_mk, decide_eq_true g1, cond_true, A4.setup, optK_mk, show suV s = .agg (suV s).cells from rfl, castA_mk,
          B.l1, optK_mk, castS_mk, show Value.agg (suV s).cells = suV s from rfl, callK_mk q5, castI_mk, B5.l13, optK_mk, castI_mk, wrap_succ (by omega)]
      by_cases g2 : placeIn s p.acc = (i : Int)
      · have hu : upto (worthAt s v i) (j + 1) = upto (worthAt s v i) j ++ [p.worth] := by rw [upto_succ, hf, if_pos ⟨g1, g2⟩]; rfl
        obtain ⟨b5, m6, q6, P6⟩ := (X5.ext (E4.trans E5)).push (P := P30) (x := p.worth) (E3.trans (E4.trans E5)) rfl app28 (by omega) (by omega)
        refine ⟨(b5, 1), m6, ⟨P6.ext, by rw [hu]; exact P6.acc⟩, fun {R} nx K => ?_⟩
        rw [pre, beq_iff_eq.2 g2, cond_true, q6, castSl_mk, hu, List.length_append]; rfl
      · have hu : upto (worthAt s v i) (j + 1) = upto (worthAt s v i) j := by rw [upto_succ, hf, if_neg (fun h => g2 h.2)]; simp
        refine ⟨(a5, s5), m5, ⟨E3.trans (E4.trans E5), by rw [hu]; exact X5.ext (E4.trans E5)⟩, fun {R} nx K => ?_⟩
        rw [pre, beq_eq_false_iff_ne.2 g2, cond_false, hu])
    (fun x hj _ {R} nx K => by rw [e27_8, decide_eq_false (by omega), cond_false]) ⟨.refl _, .nil _ _⟩ (r := r) (by omega)
  rw [show ((0 : Nat) : Int) = 0 from rfl, show (upto (worthAt s v i) 0).length = 0 from rfl] at e
  simp only at X5 e
  have hlenW := upto_len (worthAt s v i) v.ps.length
  have EE3 := EE2.trans E3
  have A3 := A.ext EE3
  have V3 := V.ext (E.trans EE3)
  have hreal : v.real[i]? = some (v.real.getD i 0) := getD_at (by omega)
  have hused : v.used[i]? = some (v.used.getD i 0) := getD_at (by omega)
  have fr : fits (v.real.getD i 0) := F.real _ (List.mem_of_getElem? hreal)
  generalize hrz : v.real.getD i 0 = z at hreal fr
  generalize huz : v.used.getD i 0 = u at hused
  obtain ⟨m6, hm6, E6, H6⟩ := new_row m3 [.int .i64 z]
  have EE6 := EE3.trans E6
  have A6 := A.ext EE6
  have V6 := V.ext (E.trans EE6)
  have S6 := S.ext (E.trans EE6)
  have X6 := X5.ext E6
  have ap0 : Apart (some ⟨m3.next, 0, none⟩) a5 := fun b o o' h1 h2 => by
    cases h1
    rcases X5 with ⟨_, h3, _⟩ | ⟨_, j2, c2, h3, _, h4, _⟩
    · rw [h3] at h2; cases h2
    · rw [h3] at h2; cases h2; exact absurd h4.1 (Nat.lt_irrefl _)
  have Y0 : AccI m2 m6 (some ⟨m3.next, 0, none⟩) 1 (z :: upto (heldAt s v i) 0) := .inr ⟨rfl, m3.next, _, rfl, E3.1, H6, fun y _ => rfl, [], rfl⟩
  -- what is held
  obtain ⟨⟨a8, s8⟩, m7, ⟨E7, X7, Y7, ap7⟩, e2⟩ := loop_run (P := P30) (call := ev30 r (n + 7)) (jmp := jmp30 r (n + 7) 27) (dead := dead30 27) (rounds := r) (c := 4) (code := pc [1, 0, 1, 0, 0, 1, 1, 0, 0, 1, 1, 1, 1, 0, 1, 0, 0] (bd Tryz.f27)) (d := dead30 27 (4 * 4)) (d' := dead30 27 (4 * 4 + 2)) (dr := dead30 27 1000002) (σ := Option Addr × Nat) v.ps.length
    (fun j x hj => Ext m2 hj ∧ AccI m2 hj a5 s5 (upto (worthAt s v i) v.ps.length) ∧ AccI m2 hj x.1 x.2 (z :: upto (heldAt s v i) j) ∧ Apart x.1 a5)
    (fun j x => E27_16 (.pointer (some ⟨h.next, 0, none⟩)) (.int .i64 (i : Int)) (.pointer (some ⟨hh.next, 0, none⟩)) (.slice a5 (upto (worthAt s v i) v.ps.length).length s5) (.slice x.1 ((upto (heldAt s v i) j).length + 1) x.2) (.slice s.aa s.ac.length s.at') (.int .i64 (s.ac.length : Int)) (.int .i64 (i : Int)) (.slice v.pa v.ps.length v.pt) (.int .i64 (v.ps.length : Int)) (.int .i64 (j : Int))) (xT := .exit 4)
    (envT := fun x => E27_18 (.pointer (some ⟨h.next, 0, none⟩)) (.int .i64 (i : Int)) (.pointer (some ⟨hh.next, 0, none⟩)) (.slice a5 (upto (worthAt s v i) v.ps.length).length s5) (.slice x.1 ((upto (heldAt s v i) v.ps.length).length + 1) x.2) (.slice s.aa s.ac.length s.at') (.int .i64 (s.ac.length : Int)) (.int .i64 (i : Int))) (s0 := (some ⟨m3.next, 0, none⟩, 1)) (h := m6) (fun j ⟨a8, s8⟩ hj hlt2 ⟨E3, X5, Y5, ap⟩ => by
      simp only at Y5 ap ⊢
      have hget2 : v.ps[j]? = some v.ps[j] := List.getElem?_eq_getElem hlt2
      have hheld := held_at hlt2 hh0
      generalize v.ps[j] = p at hget2
      have hk2 : decide ((j : Int) < (v.ps.length : Int)) = true := decide_eq_true (by omega)
      obtain ⟨m4, hm4, E4, H4⟩ := new_row hj (prC p)
      have B : PrAt m4 hj.next p := ⟨H4⟩
      have hlen := upto_len (heldAt s v i) j
      have hf : heldAt s v i j = if placeIn s p.acc = (i : Int) then some (v.held.getD j 0) else none := by unfold heldAt; rw [hget2]; rfl
      generalize v.held.getD j 0 = y at hheld hf
      obtain ⟨_, m5, q5, rfl, E5⟩ := c_place (r := r) (n := n + 5) (w := p.acc) (S2.ext (E3.trans E4)) SF hr
      have A4 := A2.ext (E3.trans E4)
      have A5 := A4.ext E5
      have pre : ∀ {R : Type} (nx : Env → H → Option R) (K : Exit → Env → H → Option R), evCode P30 (ev30 r (n + 7)) (jmp30 r (n + 7) 27) (dead30 27) r 4 (pc [1, 0, 1, 0, 0, 1, 1, 0, 0, 1, 1, 1, 1, 0, 1, 0, 0] (bd Tryz.f27)) (E27_16 (.pointer (some ⟨h.next, 0, none⟩)) (.int .i64 (i : Int)) (.pointer (some ⟨hh.next, 0, none⟩)) (.slice a5 (upto (worthAt s v i) v.ps.length).length s5) (.slice a8 ((upto (heldAt s v i) j).length + 1) s8) (.slice s.aa s.ac.length s.at') (.int .i64 (s.ac.length : Int)) (.int .i64 (i : Int)) (.slice v.pa v.ps.length v.pt) (.int .i64 (v.ps.length : Int)) (.int .i64 (j : Int))) hj (loopK nx (dead30 27 (4 * 4)) (dead30 27 (4 * 4 + 2)) (dead30 27 1000002) K) =
          bif placeIn s p.acc == (i : Int) then appendA P30 ⟨[28, 28]⟩ (.slice a8 ((upto (heldAt s v i) j).length + 1) s8) (.slice (some ⟨m5.next, 0, none⟩) 1 1) (m5.new (.cells [.int .i64 y] false)) fun v17 h18 => castSl v17 fun a19 o20 o21 =>
            nx (E27_16 (.pointer (some ⟨h.next, 0, none⟩)) (.int .i64 (i : Int)) (.pointer (some ⟨hh.next, 0, none⟩)) (.slice a5 (upto (worthAt s v i) v.ps.length).length s5) (.slice a19 o20 o21) (.slice s.aa s.ac.length s.at') (.int .i64 (s.ac.length : Int)) (.int .i64 (i : Int)) (.slice v.pa v.ps.length v.pt) (.int .i64 (v.ps.length : Int)) (.int .i64 ((j + 1 : Nat) : Int))) h18
          else nx (E27_16 (.pointer (some ⟨h.next, 0, none⟩)) (.int .i64 (i : Int)) (.pointer (some ⟨hh.next, 0, none⟩)) (.slice a5 (upto (worthAt s v i) v.ps.length).length s5) (.slice a8 ((upto (heldAt s v i) j).length + 1) s8) (.slice s.aa s.ac.length s.at') (.int .i64 (s.ac.length : Int)) (.int .i64 (i : Int)) (.slice v.pa v.ps.length v.pt) (.int .i64 (v.ps.length : Int)) (.int .i64 ((j + 1 : Nat) : Int))) m5 := by
        intro R nx K
        rw [e27_16, hk2, cond_true, (V2.ps.ext E3).row (P := P30) und27 cel65 agg65 (by omega) hget2 rfl rfl, hm4, A4.setup, optK_mk, show suV s = .agg (suV s).cells from rfl, castA_mk,
          B.l1, optK_mk, castS_mk, show Value.agg (suV s).cells = suV s from rfl, callK_mk q5, castI_mk, A5.l14, optK_mk, castSl_mk, (V2.held.ext (E3.trans (E4.trans E5))).read und28 cel3 agg3 hheld, castI_mk, wrap_succ (by omega)]
      by_cases g2 : placeIn s p.acc = (i : Int)
      · have hu : upto (heldAt s v i) (j + 1) = upto (heldAt s v i) j ++ [y] := by rw [upto_succ, hf, if_pos g2]; rfl
        obtain ⟨b5, m6, q6, P6⟩ := (Y5.ext (E4.trans E5)).push (P := P30) (x := y) (E3.trans (E4.trans E5)) rfl app28 (by omega) (by simp; omega)
        have W := (X5.ext (E4.trans E5)).other (.refl _) ap P6
        refine ⟨(b5, 1), m6, ⟨P6.ext, W.1, by rw [hu]; exact P6.acc, W.2⟩, fun {R} nx K => ?_⟩
        rw [List.length_cons] at q6
        rw [pre, beq_iff_eq.2 g2, cond_true, q6, castSl_mk, hu, List.length_append]; rfl
      · have hu : upto (heldAt s v i) (j + 1) = upto (heldAt s v i) j := by rw [upto_succ, hf, if_neg g2]; simp
        refine ⟨(a8, s8), m5, ⟨E3.trans (E4.trans E5), X5.ext (E4.trans E5), by rw [hu]; exact Y5.ext (E4.trans E5), ap⟩, fun {R} nx K => ?_⟩
        rw [pre, beq_eq_false_iff_ne.2 g2, cond_false, hu])
    (fun x hj _ {R} nx K => by rw [e27_16, decide_eq_false (by omega), cond_false]) ⟨E3.trans E6, X6, Y0, ap0⟩ (r := r) (by omega)
  rw [show ((0 : Nat) : Int) = 0 from rfl, show (upto (heldAt s v i) 0).length + 1 = 1 from rfl] at e2
  simp only at Y7 e2
  have hlenH := upto_len (heldAt s v i) v.ps.length
  have EE7 := EE2.trans E7
  have A7 := A.ext EE7
  have V7 := V.ext (E.trans EE7)
  have fw : ∀ y ∈ upto (worthAt s v i) v.ps.length, fits y := fun y hy => by
    unfold upto at hy
    obtain ⟨k, _, hk⟩ := List.mem_filterMap.1 hy
    unfold worthAt at hk
    obtain ⟨p, hp, h3⟩ := Option.bind_eq_some_iff.1 hk
    split at h3
    · cases h3; exact (F.ps p (List.mem_of_getElem? hp)).worth
    · cases h3
  have fh : ∀ y ∈ z :: upto (heldAt s v i) v.ps.length, fits y := fun y hy => by
    rcases List.mem_cons.1 hy with rfl | hy
    · exact fr
    unfold upto at hy
    obtain ⟨k, _, hk⟩ := List.mem_filterMap.1 hy
    unfold heldAt at hk
    obtain ⟨p, hp, h3⟩ := Option.bind_eq_some_iff.1 hk
    split at h3
    · cases h3
      have hk2 := (List.getElem?_eq_some_iff.1 hp).1
      exact F.held _ (List.mem_of_getElem? (held_at hk2 hh0))
    · cases h3
  obtain ⟨_, m8, q8, rfl, E8⟩ := c_asum (r := r) (n := n) (z := z) X7.sl (by omega) fw hr
  have EE8 := EE7.trans E8
  have A8 := A.ext EE8
  have V8 := V.ext (E.trans EE8)
  obtain ⟨_, m9, q9, rfl, E9⟩ := c_asum (r := r) (n := n) (z := u) (Y7.sl.ext E8) (by simp; omega) fh hr
  rw [List.length_cons] at q9
  have EE9 := EE8.trans E9
  have A9 := A.ext EE9
  have V9 := V.ext (E.trans EE9)
  have l4 : ldV P30 3 hh.next 1 m9 = some (.int .i64 x.2) := ld_at agg3 (H2.ext (E7.trans (E8.trans E9)))
  have pre : ∀ {R : Type} (nx : Env → H → Option R) (K : Exit → Env → H → Option R), evCode P30 (ev30 r (n + 7)) (jmp30 r (n + 7) 27) (dead30 27) r 0 (pc [1, 0, 1, 0, 0] (bd Tryz.f27)) (E27_0 (.pointer (some ⟨h.next, 0, none⟩)) (.slice s.aa s.ac.length s.at') (.int .i64 (s.ac.length : Int)) (.int .i64 (i : Int))) hh (loopK nx (dead30 27 (4 * 0)) (dead30 27 (4 * 0 + 2)) (dead30 27 1000002) K) =
      bif !isSum z (upto (worthAt s v i) v.ps.length) then K .ret (E27_r (.bool false)) m8 else bif !isSum u (z :: upto (heldAt s v i) v.ps.length) then K .ret (E27_r (.bool false)) m9 else bif decide (u > x.2) then K .ret (E27_r (.bool false)) m9 else
        nx (E27_0 (.pointer (some ⟨h.next, 0, none⟩)) (.slice s.aa s.ac.length s.at') (.int .i64 (s.ac.length : Int)) (.int .i64 ((i + 1 : Nat) : Int))) m9 := by
    intro R nx K
    rw [e27_0, hk, cond_true, (S.ac.ext (E.trans E1)).row (P := P30) und22 cel58 agg58 (by omega) hget rfl rfl, hm2, A2.l11, optK_mk, castSl_mk, e, e27_8x2, A3.l13, optK_mk, castSl_mk, V3.real.read und28 cel3 agg3 hreal, castI_mk, hm6,
      A6.l11, optK_mk, castSl_mk, e2, e27_16x4, A7.l13, optK_mk, castSl_mk, V7.real.read und28 cel3 agg3 hreal, castI_mk, callK_mk q8, castV_mk, A8.l12, optK_mk, castSl_mk, V8.used.read und28 cel3 agg3 hused, castI_mk, callK_mk q9, castV_mk,
      A9.l12, optK_mk, castSl_mk, V9.used.read und28 cel3 agg3 hused, castI_mk, l4, optK_mk, castI_mk, wrap_succ (by omega)]
  have hok : acOk s v i = (isSum z (upto (worthAt s v i) v.ps.length) && (isSum u (z :: upto (heldAt s v i) v.ps.length) && decide (u ≤ x.2))) := by
    unfold acOk; rw [hrz, huz, hget]; rfl
  rw [hok]
  cases g1 : isSum z (upto (worthAt s v i) v.ps.length) with
  | false => exact ⟨m8, EE8, .inr ⟨rfl, fun {R} nx K => by rw [pre, g1]; rfl⟩⟩
  | true =>
    cases g2 : isSum u (z :: upto (heldAt s v i) v.ps.length) with
    | false => exact ⟨m9, EE9, .inr ⟨rfl, fun {R} nx K => by rw [pre, g1, g2]; rfl⟩⟩
    | true =>
      by_cases g3 : u > x.2
      · exact ⟨m9, EE9, .inr ⟨by rw [decide_eq_false (by omega)]; rfl, fun {R} nx K => by rw [pre, g1, g2, decide_eq_true g3]; rfl⟩⟩
      · exact ⟨m9, EE9, .inl ⟨by rw [decide_eq_true (by omega)]; rfl, fun {R} nx K => by rw [pre, g1, g2, decide_eq_false g3]; rfl⟩⟩
end
end Go.Ev
