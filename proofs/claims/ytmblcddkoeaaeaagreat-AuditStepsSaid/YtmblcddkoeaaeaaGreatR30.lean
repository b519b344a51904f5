/-
  Audit: the reference's account, and Check.
-/
import Derived.Test.YtmblcddkoeaaeaaGreatQ30
namespace Go.Ev
open Go Go.Proofs

theorem placeF_name {w : List UInt8} : ∀ (l : List (List UInt8)) (k j : Nat), placeF w k l = ((k + j : Nat) : Int) → l[j]? = some w := by
  intro l
  induction l with
  | nil => intro k j h; rw [placeF] at h; omega
  | cons x l ih =>
    intro k j h
    rw [placeF] at h
    split at h
    · rename_i hx
      have : j = 0 := by omega
      subst this
      simp [hx]
    · cases j with
      | zero =>
        rcases placeF_range (w := w) l (k + 1) with h1 | h1 <;> omega
      | succ j =>
        rw [List.getElem?_cons_succ]
        exact ih (k + 1) j (by rw [h]; omega)

section
variable {r n : Nat} {h m : H} {s : Su} {v : Vw} {i : Nat}


theorem c_racc (F : VwFit v) (S : SuIn h s) (SF : SuFew s) (V : VwIn h v) (hr : 1000000 ≤ r) (hh0 : v.held.length = v.ps.length) (hu0 : v.used.length = s.ac.length) (hr0 : v.real.length = s.ac.length) (hi : i < s.ac.length) :
    Gives (ev30 r (n + 9) 30 [suV s, vwV v, .int .i64 (i : Int)] h) fun y h' => y = .bool (acOk s v i) ∧ Ext h h' := by
  unfold suV vwV
  rw [e30]
  obtain ⟨m0, hm0, E0, H0⟩ := new_row h (suC s)
  obtain ⟨m, hm, E1, H1⟩ := new_row m0 (vwC v)
  have hn : h.next + 1 = m0.next := by rw [← hm0]; rfl
  rw [hn]
  unfold suC at hm0
  unfold vwC at hm
  rw [hm0, hm]
  have E := E0.trans E1
  have A : SuAt m h.next s := ⟨H0.ext E1⟩
  have B : VwAt m m0.next v := ⟨H1⟩
  have S1 := S.ext E
  have V1 := V.ext E
  have hl40 := F.few
  have hac := SF.ac
  refine Gives.jump (Q := fun x env hh => x = .ret ∧ env = E30_r (.bool (acOk s v i)) ∧ Ext m hh) ?_ (by rintro x env h' ⟨rfl, rfl, E2⟩; rw [e30_3r]; exact .mk ⟨rfl, E.trans E2⟩)
  have hget : s.ac[i]? = some s.ac[i] := List.getElem?_eq_getElem hi
  generalize s.ac[i] = x at hget
  have hreal : v.real[i]? = some (v.real.getD i 0) := getD_at (by omega)
  have hused : v.used[i]? = some (v.used.getD i 0) := getD_at (by omega)
  have fr : fits (v.real.getD i 0) := F.real _ (List.mem_of_getElem? hreal)
  have hok : acOk s v i = (isSum (v.real.getD i 0) (upto (worthAt s v i) v.ps.length) && (isSum (v.used.getD i 0) (v.real.getD i 0 :: upto (heldAt s v i) v.ps.length) && decide (v.used.getD i 0 ≤ x.2))) := by
    unfold acOk; rw [hget]; rfl
  generalize v.real.getD i 0 = z at hreal fr hok
  generalize v.used.getD i 0 = u at hused hok
  obtain ⟨et, hu36, hc36⟩ := und36'
  rw [e30_3c, B.l4, optK_mk, castSl_mk, V1.real.read und28 cel3 agg3 hreal, castI_mk]
  obtain ⟨m6, hm6, E6, H6⟩ := new_row m [.int .i64 z]
  rw [hm6]
  have Y0 : AccI m m6 (some ⟨m.next, 0, none⟩) 1 (z :: upto (heldAt s v i) 0) := .inr ⟨rfl, m.next, _, rfl, Nat.le_refl _, H6, fun y _ => rfl, [], rfl⟩
  obtain ⟨⟨a7, s7, a8, s8⟩, m7, ⟨E7, X7, Y7, ap7⟩, e2⟩ := loop_run (P := P30) (call := ev30 r (n + 7)) (jmp := jmp30 r (n + 7) 30) (dead := dead30 30) (rounds := r) (c := 0) (code := pc [1, 1, 1, 0, 1, 0, 0] (bd Tryz.f30)) (d := dead30 30 (4 * 0)) (d' := dead30 30 (4 * 0 + 2)) (dr := dead30 30 1000002) (σ := Option Addr × Nat × Option Addr × Nat) v.ps.length
    (fun j x hj => Ext m hj ∧ AccI m hj x.1 x.2.1 (upto (worthAt s v i) j) ∧ AccI m hj x.2.2.1 x.2.2.2 (z :: upto (heldAt s v i) j) ∧ Apart x.1 x.2.2.1)
    (fun j x => E30_0 (.int .i64 (i : Int)) (.pointer (some ⟨h.next, 0, none⟩)) (.pointer (some ⟨m0.next, 0, none⟩)) (.slice x.1 (upto (worthAt s v i) j).length x.2.1) (.slice x.2.2.1 ((upto (heldAt s v i) j).length + 1) x.2.2.2) (.int .i64 (j : Int))) (xT := .exit 0)
    (envT := fun x => E30_2 (.int .i64 (i : Int)) (.pointer (some ⟨h.next, 0, none⟩)) (.pointer (some ⟨m0.next, 0, none⟩)) (.slice x.1 (upto (worthAt s v i) v.ps.length).length x.2.1) (.slice x.2.2.1 ((upto (heldAt s v i) v.ps.length).length + 1) x.2.2.2)) (s0 := (none, 0, some ⟨m.next, 0, none⟩, 1)) (h := m6) (fun j ⟨a7, s7, a8, s8⟩ hj hlt2 ⟨E3, X5, Y5, ap⟩ => by
      simp only at X5 Y5 ap ⊢
      have hget2 : v.ps[j]? = some v.ps[j] := List.getElem?_eq_getElem hlt2
      have hheld := held_at hlt2 hh0
      generalize v.ps[j] = p at hget2
      have hk2 : decide ((j : Int) < (v.ps.length : Int)) = true := decide_eq_true (by omega)
      have hlen1 := upto_len (worthAt s v i) j
      have hlen2 := upto_len (heldAt s v i) j
      have hf1 : worthAt s v i j = if 4 < p.state ∧ placeIn s p.acc = (i : Int) then some p.worth else none := by unfold worthAt; rw [hget2]; rfl
      have hf2 : heldAt s v i j = if placeIn s p.acc = (i : Int) then some (v.held.getD j 0) else none := by unfold heldAt; rw [hget2]; rfl
      generalize v.held.getD j 0 = y at hheld hf2
      have A3 := A.ext E3
      have B3 := B.ext E3
      have V3 := V1.ext E3
      have S3 := S1.ext E3
      have skip : ∀ {m5 : H}, placeIn s p.acc ≠ (i : Int) → Ext hj m5 → (∀ {R : Type} (nx : Env → H → Option R) (K : Exit → Env → H → Option R), evCode P30 (ev30 r (n + 7)) (jmp30 r (n + 7) 30) (dead30 30) r 0 (pc [1, 1, 1, 0, 1, 0, 0] (bd Tryz.f30)) (E30_0 (.int .i64 (i : Int)) (.pointer (some ⟨h.next, 0, none⟩)) (.pointer (some ⟨m0.next, 0, none⟩)) (.slice a7 (upto (worthAt s v i) j).length s7) (.slice a8 ((upto (heldAt s v i) j).length + 1) s8) (.int .i64 (j : Int))) hj (loopK nx (dead30 30 (4 * 0)) (dead30 30 (4 * 0 + 2)) (dead30 30 1000002) K) =
          nx (E30_0 (.int .i64 (i : Int)) (.pointer (some ⟨h.next, 0, none⟩)) (.pointer (some ⟨m0.next, 0, none⟩)) (.slice a7 (upto (worthAt s v i) j).length s7) (.slice a8 ((upto (heldAt s v i) j).length + 1) s8) (.int .i64 ((j + 1 : Nat) : Int))) m5) →
          ∃ (s' : Option Addr × Nat × Option Addr × Nat) (m' : H), (Ext m m' ∧ AccI m m' s'.1 s'.2.1 (upto (worthAt s v i) (j + 1)) ∧ AccI m m' s'.2.2.1 s'.2.2.2 (z :: upto (heldAt s v i) (j + 1)) ∧ Apart s'.1 s'.2.2.1) ∧
            ∀ {R : Type} (nx : Env → H → Option R) (K : Exit → Env → H → Option R), evCode P30 (ev30 r (n + 7)) (jmp30 r (n + 7) 30) (dead30 30) r 0 (pc [1, 1, 1, 0, 1, 0, 0] (bd Tryz.f30)) (E30_0 (.int .i64 (i : Int)) (.pointer (some ⟨h.next, 0, none⟩)) (.pointer (some ⟨m0.next, 0, none⟩)) (.slice a7 (upto (worthAt s v i) j).length s7) (.slice a8 ((upto (heldAt s v i) j).length + 1) s8) (.int .i64 (j : Int))) hj (loopK nx (dead30 30 (4 * 0)) (dead30 30 (4 * 0 + 2)) (dead30 30 1000002) K) =
              nx (E30_0 (.int .i64 (i : Int)) (.pointer (some ⟨h.next, 0, none⟩)) (.pointer (some ⟨m0.next, 0, none⟩)) (.slice s'.1 (upto (worthAt s v i) (j + 1)).length s'.2.1) (.slice s'.2.2.1 ((upto (heldAt s v i) (j + 1)).length + 1) s'.2.2.2) (.int .i64 ((j + 1 : Nat) : Int))) m' := by
        intro m5 hne E4 hq
        have h1 : upto (worthAt s v i) (j + 1) = upto (worthAt s v i) j := by rw [upto_succ, hf1, if_neg (fun h => hne h.2)]; simp
        have h2 : upto (heldAt s v i) (j + 1) = upto (heldAt s v i) j := by rw [upto_succ, hf2, if_neg hne]; simp
        exact ⟨(a7, s7, a8, s8), m5, ⟨E3.trans E4, by rw [h1]; exact X5.ext E4, by rw [h2]; exact Y5.ext E4, ap⟩, fun {R} nx K => by rw [hq, h1, h2]⟩
      by_cases g1 : p.acc = x.1
      rotate_left
      · refine skip (fun hp => g1 ?_) (.refl _) fun {R} nx K => ?_
        · have := placeF_name (w := p.acc) (s.ac.map (·.1)) 0 i (by rw [Nat.zero_add]; exact hp)
          rw [List.getElem?_map, hget] at this
          simpa using this.symm
        · rw [e30_0, B3.l2, optK_mk, castSl_mk, hk2, cond_true, optK_mk, castSl_mk, V3.ps.readf (P := P30) und42 cel75 agg9 hget2 (f := 1) rfl, castS_mk, A3.l0, optK_mk, castSl_mk, S3.ac.readf (P := P30) hu36 hc36 agg9 hget (f := 0) rfl, castS_mk, txt_toList, txt_toList,
            beq_eq_false_iff_ne.2 g1, Bool.not_false, cond_true, wrap_succ (by omega)]
      obtain ⟨_, m4, q4, E4, a, st, rfl, N4⟩ := c_names (r := r) (n := n + 5) S3 SF hr
      have q5 := c_find (r := r) (n := n + 6) (w := p.acc) N4 (by simp; omega) hr
      rw [show (s.ac.map (·.1)).length = s.ac.length by simp] at q5
      have q5' : ev30 r (n + 6 + 1) 58 [.slice a s.ac.length st, .string (txt p.acc)] m4 = some (.int .i64 (placeIn s p.acc), m4) := q5
      obtain ⟨jb, jo, c1, c2⟩ := V3.ps.cell (P := P30) und42 cel75 agg9 hget2 (f := 1) rfl
      obtain ⟨jb', jo', c1', c2'⟩ := (V3.ps.ext E4).cell (P := P30) und42 cel75 agg9 hget2 (f := 1) rfl
      have hsame : sameLd P30 9 jb' (jo' + 1) (.string (txt p.acc)) hj = true := by
        have h1 := c1 (fun v => some v) .i64
        have h2 := c1' (fun v => some v) .i64
        rw [h1] at h2
        cases h2
        unfold sameLd; rw [c2]; simp [eqV]
      have pre : ∀ {R : Type} (nx : Env → H → Option R) (K : Exit → Env → H → Option R), evCode P30 (ev30 r (n + 7)) (jmp30 r (n + 7) 30) (dead30 30) r 0 (pc [1, 1, 1, 0, 1, 0, 0] (bd Tryz.f30)) (E30_0 (.int .i64 (i : Int)) (.pointer (some ⟨h.next, 0, none⟩)) (.pointer (some ⟨m0.next, 0, none⟩)) (.slice a7 (upto (worthAt s v i) j).length s7) (.slice a8 ((upto (heldAt s v i) j).length + 1) s8) (.int .i64 (j : Int))) hj (loopK nx (dead30 30 (4 * 0)) (dead30 30 (4 * 0 + 2)) (dead30 30 1000002) K) =
          bif placeIn s p.acc != (i : Int) then nx (E30_0 (.int .i64 (i : Int)) (.pointer (some ⟨h.next, 0, none⟩)) (.pointer (some ⟨m0.next, 0, none⟩)) (.slice a7 (upto (worthAt s v i) j).length s7) (.slice a8 ((upto (heldAt s v i) j).length + 1) s8) (.int .i64 ((j + 1 : Nat) : Int))) m4
          else jumpK (jmp30 r (n + 7) 30 1 (pc [1, 1, 1, 0, 1, 0, 0, 1, 0, 0, 1] (bd Tryz.f30)) (E30_0 (.int .i64 (i : Int)) (.pointer (some ⟨h.next, 0, none⟩)) (.pointer (some ⟨m0.next, 0, none⟩)) (.slice a7 (upto (worthAt s v i) j).length s7) (.slice a8 ((upto (heldAt s v i) j).length + 1) s8) (.int .i64 (j : Int))) m4)
            (blockK 1 (seqK (after P30 (ev30 r (n + 7)) (jmp30 r (n + 7) 30) (dead30 30) r 0 (pc [1, 1, 1, 0, 1, 0, 0, 1, 1] (bd Tryz.f30)) (loopK nx (dead30 30 (4 * 0)) (dead30 30 (4 * 0 + 2)) (dead30 30 1000002) K)) (loopK nx (dead30 30 (4 * 0)) (dead30 30 (4 * 0 + 2)) (dead30 30 1000002) K))) := by
        intro R nx K
        rw [e30_0, B3.l2, optK_mk, castSl_mk, hk2, cond_true, optK_mk, castSl_mk, V3.ps.readf (P := P30) und42 cel75 agg9 hget2 (f := 1) rfl, castS_mk, A3.l0, optK_mk, castSl_mk, S3.ac.readf (P := P30) hu36 hc36 agg9 hget (f := 0) rfl, castS_mk, txt_toList, txt_toList,
          beq_iff_eq.2 g1, Bool.not_true, cond_false, A3.whole, optK_mk, show suV s = .agg (suV s).cells from rfl, castA_mk, show Value.agg (suV s).cells = suV s from rfl, callK_mk q4, castSl_mk, (B3.ext E4).l2, optK_mk, castSl_mk,
          same_sl V3.ps B3.l2, cond_true, c1', addrK_mk, c2', optK_mk, castS_mk, hsame, cond_true, callK_mk q5', castI_mk, wrap_succ (by omega)]
      by_cases g2 : placeIn s p.acc = (i : Int)
      rotate_left
      · exact skip g2 E4 fun {R} nx K => by rw [pre, bne_iff_ne.2 g2, cond_true]
      have hw2 : upto (heldAt s v i) (j + 1) = upto (heldAt s v i) j ++ [y] := by rw [upto_succ, hf2, if_pos g2]; rfl
      obtain ⟨b8, m5, q8, P8⟩ := (Y5.ext E4).push (P := P30) (x := y) (E3.trans E4) rfl app28 (by omega) (by simp; omega)
      have W := (X5.ext E4).other (.refl _) ap.symm P8
      rw [List.length_cons] at q8
      by_cases g3 : p.state > 4
      · have hw1 : upto (worthAt s v i) (j + 1) = upto (worthAt s v i) j ++ [p.worth] := by rw [upto_succ, hf1, if_pos ⟨g3, g2⟩]; rfl
        obtain ⟨b7, m6, q7, P7⟩ := W.1.push (P := P30) (x := p.worth) P8.ext rfl app28 (by omega) (by omega)
        have Z := P8.acc.other (.refl _) W.2.symm P7
        refine ⟨(b7, 1, b8, 1), m6, ⟨P7.ext, by rw [hw1]; exact P7.acc, by rw [hw2]; exact Z.1, Z.2⟩, fun {R} nx K => ?_⟩
        rw [pre, show (placeIn s p.acc != (i : Int)) = false by simp [g2], cond_false, e30_15c, (B3.ext E4).l5, optK_mk, castSl_mk, (V3.held.ext E4).read und28 cel3 agg3 hheld, castI_mk, q8, castSl_mk, (B.ext P8.ext).l2, optK_mk, castSl_mk,
          (V1.ext P8.ext).ps.readf (P := P30) und42 cel75 agg3 hget2 (f := 4) rfl, castI_mk, decide_eq_true g3, cond_true, optK_mk, castSl_mk, (V1.ext P8.ext).ps.readf (P := P30) und42 cel75 agg3 hget2 (f := 13) rfl, castI_mk, q7, castSl_mk,
          jumpK_mk rfl, e30_15n, wrap_succ (by omega), hw1, hw2, List.length_append, List.length_append]; rfl
      · have hw1 : upto (worthAt s v i) (j + 1) = upto (worthAt s v i) j := by rw [upto_succ, hf1, if_neg (fun h => g3 h.1)]; simp
        refine ⟨(a7, s7, b8, 1), m5, ⟨P8.ext, by rw [hw1]; exact W.1, by rw [hw2]; exact P8.acc, W.2.symm⟩, fun {R} nx K => ?_⟩
        rw [pre, show (placeIn s p.acc != (i : Int)) = false by simp [g2], cond_false, e30_15c, (B3.ext E4).l5, optK_mk, castSl_mk, (V3.held.ext E4).read und28 cel3 agg3 hheld, castI_mk, q8, castSl_mk, (B.ext P8.ext).l2, optK_mk, castSl_mk,
          (V1.ext P8.ext).ps.readf (P := P30) und42 cel75 agg3 hget2 (f := 4) rfl, castI_mk, decide_eq_false g3, cond_false,
          jumpK_mk rfl, e30_15n, wrap_succ (by omega), hw1, hw2, List.length_append]; rfl)
    (fun x hj ⟨E3, _⟩ {R} nx K => by rw [e30_0, (B.ext E3).l2, optK_mk, castSl_mk, decide_eq_false (by omega), cond_false]) ⟨E6, .nil _ _, Y0, .nil _⟩ (r := r) (by omega)
  rw [show ((0 : Nat) : Int) = 0 from rfl, show (upto (heldAt s v i) 0).length + 1 = 1 from rfl, show (upto (worthAt s v i) 0).length = 0 from rfl] at e2
  simp only at X7 Y7 e2
  have hlenW := upto_len (worthAt s v i) v.ps.length
  have hlenH := upto_len (heldAt s v i) v.ps.length
  have fw : ∀ y ∈ upto (worthAt s v i) v.ps.length, fits y := fun y hy => by
    unfold upto at hy
    obtain ⟨k, _, hk⟩ := List.mem_filterMap.1 hy
    unfold worthAt at hk
    obtain ⟨p, hp, h3⟩ := Option.bind_eq_some_iff.1 hk
    split at h3
    · cases h3; exact (F.ps p (List.mem_of_getElem? hp)).worth
    · cases h3
  have fh : ∀ y ∈ z :: upto (heldAt s v i) v.ps.length, fits y := fun y hy => by
    rcases List.mem_cons.1 hy with rfl | hy
    · exact fr
    unfold upto at hy
    obtain ⟨k, _, hk⟩ := List.mem_filterMap.1 hy
    unfold heldAt at hk
    obtain ⟨p, hp, h3⟩ := Option.bind_eq_some_iff.1 hk
    split at h3
    · cases h3
      exact F.held _ (List.mem_of_getElem? (held_at (List.getElem?_eq_some_iff.1 hp).1 hh0))
    · cases h3
  obtain ⟨_, m8, q8, rfl, E8⟩ := c_is (r := r) (n := n) (z := z) X7.sl (by omega) fw hr
  obtain ⟨_, m9, q9, rfl, E9⟩ := c_is (r := r) (n := n) (z := u) (Y7.sl.ext E8) (by simp; omega) fh hr
  rw [List.length_cons] at q9
  have V7 := V1.ext E7
  rw [e2, e30_0x0, (B.ext E7).l4, optK_mk, castSl_mk, V7.real.read und28 cel3 agg3 hreal, castI_mk, callK_mk q8, castV_mk, hok]
  have E78 := E7.trans E8
  have E79 := E78.trans E9
  cases g1 : isSum z (upto (worthAt s v i) v.ps.length) with
  | false => rw [cond_false]; exact .mk ⟨rfl, rfl, E78⟩
  | true =>
    rw [cond_true, (B.ext E78).l3, optK_mk, castSl_mk, (V1.ext E78).used.read und28 cel3 agg3 hused, castI_mk, callK_mk q9, castV_mk]
    cases g2 : isSum u (z :: upto (heldAt s v i) v.ps.length) with
    | false => rw [cond_false]; exact .mk ⟨rfl, rfl, E79⟩
    | true =>
      rw [cond_true, (B.ext E79).l3, optK_mk, castSl_mk, (V1.ext E79).used.read und28 cel3 agg3 hused, castI_mk, (A.ext E79).l0, optK_mk, castSl_mk, (S1.ext E79).ac.readf (P := P30) hu36 hc36 agg3 hget (f := 1) rfl, castI_mk]
      exact .mk ⟨rfl, rfl, E79⟩

theorem firstF_skip {f : Nat → Bool} : ∀ (j m k : Nat), (∀ i, k ≤ i → i < k + j → f i = true) → firstF f (j + m) k = firstF f m (k + j) := by
  intro j
  induction j with
  | zero => intro m k _; simp
  | succ j ih =>
    intro m k h
    rw [show j + 1 + m = (j + m) + 1 from by omega, firstF_step (h k (by omega) (by omega)), ih m (k + 1) (fun i h1 h2 => h i (by omega) (by omega)), show k + 1 + j = k + (j + 1) from by omega]
theorem check_first {k : Nat} (hk : k < 8) (hp : ∀ i, i < k → ruleAt s v i = true) (hn : ruleAt s v k = false) : checkOf s v = ((k + 1 : Nat) : Int) := by
  unfold checkOf
  rw [show 8 = k + ((7 - k) + 1) from by omega, firstF_skip k _ 0 (fun i _ h => hp i (by omega)), firstF_no (by rw [Nat.zero_add]; exact hn)]
  omega
theorem check_zero (hp : ∀ i, i < 8 → ruleAt s v i = true) : checkOf s v = 0 := by
  unfold checkOf
  have := firstF_skip (f := ruleAt s v) 8 0 0 (fun i _ h => hp i (by omega))
  rw [show 8 = 8 + 0 from rfl, this]; rfl

/-- spigotref30.Check -/
theorem c_refcheck (F : VwFit v) (S : SuIn h s) (SF : SuFew s) (V : VwIn h v) (hr : 1000000 ≤ r) : Gives (ev30 r (n + 11) 9 [suV s, vwV v] h) fun y h' => y = .int .i64 (checkOf s v) ∧ Ext h h' := by
  unfold suV vwV
  rw [e9]
  obtain ⟨m0, hm0, E0, H0⟩ := new_row h (suC s)
  obtain ⟨m, hm, E1, H1⟩ := new_row m0 (vwC v)
  have hn : h.next + 1 = m0.next := by rw [← hm0]; rfl
  rw [hn]
  unfold suC at hm0
  unfold vwC at hm
  rw [hm0, hm]
  have E := E0.trans E1
  have A : SuAt m h.next s := ⟨H0.ext E1⟩
  have B : VwAt m m0.next v := ⟨H1⟩
  have S1 := S.ext E
  have V1 := V.ext E
  have hl40 := F.few
  have hac := SF.ac
  refine Gives.jump (Q := fun x env hh => x = .ret ∧ env = E9_r (.int .i64 (checkOf s v)) ∧ Ext m hh) ?_ (by rintro x env h' ⟨rfl, rfl, E2⟩; rw [e9_3r]; exact .mk ⟨rfl, E.trans E2⟩)
  obtain ⟨_, m2, q2, rfl, E2⟩ := c_refsize (r := r) (n := n + 5) (s := s) F V1 hr
  rw [e9_3c, A.whole, optK_mk, show suV s = .agg (suV s).cells from rfl, castA_mk, B.whole, optK_mk, show vwV v = .agg (vwV v).cells from rfl, castA_mk, show Value.agg (suV s).cells = suV s from rfl, show Value.agg (vwV v).cells = vwV v from rfl,
    callK_mk q2, castV_mk]
  cases g0 : sizeOk s v with
  | false =>
    rw [Bool.not_false, cond_true, check_first (s := s) (v := v) (k := 0) (by omega) (fun i hi => by omega) g0]
    exact .mk ⟨rfl, rfl, E2⟩
  | true =>
  obtain ⟨hu0, hr0, hf0, hh0⟩ := sizeOk_all g0
  rw [Bool.not_true, cond_false]
  refine GivesX.loop (fun k env hh => env = E9_0 (.pointer (some ⟨h.next, 0, none⟩)) (.pointer (some ⟨m0.next, 0, none⟩)) (.int .i64 ((k + 2 : Nat) : Int)) ∧ Ext m hh ∧ ∀ i, i < k + 1 → ruleAt s v i = true) 6
    (fun x env hh => Ext m hh ∧ ((x = .exit 0 ∧ env = E9_2 (.pointer (some ⟨h.next, 0, none⟩)) (.pointer (some ⟨m0.next, 0, none⟩)) ∧ ∀ i, i < 7 → ruleAt s v i = true) ∨ (x = .ret ∧ env = E9_r (.int .i64 (checkOf s v)))))
    (fun k env hh hk hI => ?_) ⟨rfl, E2, fun i hi => by have : i = 0 := by omega
                                                        subst this; exact g0⟩ (by omega) ?_
  · obtain ⟨rfl, E3, hp⟩ := hI
    by_cases hg : k < 6
    rotate_left
    · have : k = 6 := by omega
      subst this
      exact ⟨.off (.exit 0) _ hh, fun nx K => by rw [e9_0, decide_eq_false (by omega), cond_false]; rfl, E3, .inl ⟨rfl, rfl, fun i hi => hp i (by omega)⟩⟩
    have hrule : allN (every v (oneAt s (k + 2))) v.ps.length = ruleAt s v (k + 1) := by
      have : k = 0 ∨ k = 1 ∨ k = 2 ∨ k = 3 ∨ k = 4 ∨ k = 5 := by omega
      rcases this with rfl | rfl | rfl | rfl | rfl | rfl <;> rfl
    obtain ⟨hj, EJ, hin⟩ := loop_all (P := P30) (call := ev30 r (n + 9)) (jmp := jmp30 r (n + 9) 9) (dead := dead30 9) (rounds := r) (c := 2) (code := pc [1, 1, 0, 1, 0, 0, 1, 0, 0, 1, 0, 0] (bd Tryz.f9)) (d := dead30 9 (4 * 2)) (d' := dead30 9 (4 * 2 + 2)) (dr := dead30 9 1000002) v.ps.length (every v (oneAt s (k + 2))) (fun hj => Ext m hj) (fun j => E9_8 (.pointer (some ⟨h.next, 0, none⟩)) (.pointer (some ⟨m0.next, 0, none⟩)) (.int .i64 ((k + 2 : Nat) : Int)) (.int .i64 (j : Int))) (xT := .exit 2) (xF := .ret)
      (envT := E9_0 (.pointer (some ⟨h.next, 0, none⟩)) (.pointer (some ⟨m0.next, 0, none⟩)) (.int .i64 ((k + 2 : Nat) : Int))) (envF := E9_r (.int .i64 ((k + 2 : Nat) : Int))) (h := hh) (fun j hj hlt E3 => by
        have hget : v.ps[j]? = some v.ps[j] := List.getElem?_eq_getElem hlt
        have hmem : v.ps[j] ∈ v.ps := List.getElem_mem hlt
        generalize v.ps[j] = p at hget hmem
        rw [every_at hget]
        have hz := held_at hlt hh0
        generalize v.held.getD j 0 = z at hz
        have V3 := V1.ext E3
        obtain ⟨_, m4, q4, rfl, E4⟩ := c_one (r := r) (n := n) (z := z) (k + 2) (by omega) SF (S1.ext E3) (V3.kids p hmem) (F.ps p hmem) (F.ps p hmem).most hr
        have hk : decide ((j : Int) < (v.ps.length : Int)) = true := decide_eq_true (by omega)
        have pre : ∀ {R : Type} (nx : Env → H → Option R) (K : Exit → Env → H → Option R), evCode P30 (ev30 r (n + 9)) (jmp30 r (n + 9) 9) (dead30 9) r 2 (pc [1, 1, 0, 1, 0, 0, 1, 0, 0, 1, 0, 0] (bd Tryz.f9)) (E9_8 (.pointer (some ⟨h.next, 0, none⟩)) (.pointer (some ⟨m0.next, 0, none⟩)) (.int .i64 ((k + 2 : Nat) : Int)) (.int .i64 (j : Int))) hj (loopK nx (dead30 9 (4 * 2)) (dead30 9 (4 * 2 + 2)) (dead30 9 1000002) K) =
            bif !oneAt s (k + 2) p z then K .ret (E9_r (.int .i64 ((k + 2 : Nat) : Int))) m4 else nx (E9_8 (.pointer (some ⟨h.next, 0, none⟩)) (.pointer (some ⟨m0.next, 0, none⟩)) (.int .i64 ((k + 2 : Nat) : Int)) (.int .i64 ((j + 1 : Nat) : Int))) m4 := by
          intro R nx K
          rw [e9_8, (B.ext E3).l2, optK_mk, castSl_mk, hk, cond_true, (A.ext E3).whole, optK_mk, show suV s = .agg (suV s).cells from rfl, castA_mk, optK_mk, castSl_mk, V3.ps.aggr (P := P30) und42 cel75 agg75 (by omega) hget rfl, castA_mk,
            (B.ext E3).l5, optK_mk, castSl_mk, V3.held.read und28 cel3 agg3 hz, castI_mk, show Value.agg (suV s).cells = suV s from rfl]
          erw [callK_mk q4]
          rw [castV_mk, wrap_succ (by omega)]
        refine ⟨m4, E3.trans E4, ?_⟩
        cases g : oneAt s (k + 2) p z with
        | true => exact .inl ⟨rfl, fun {R} nx K => by rw [pre, g]; rfl⟩
        | false => exact .inr ⟨rfl, fun {R} nx K => by rw [pre, g]; rfl⟩)
      (fun hj E3 {R} nx K => by rw [e9_8, (B.ext E3).l2, optK_mk, castSl_mk, decide_eq_false (by omega), cond_false]) E3 (r := r) (by omega)
    rw [show ((0 : Nat) : Int) = 0 from rfl, hrule] at hin
    rcases hin with ⟨ha, e⟩ | ⟨ha, e⟩
    · refine ⟨.on _ hj, fun nx K => ?_, hg, rfl, EJ, fun i hi => ?_⟩
      · rw [e9_0, decide_eq_true (by omega), cond_true, e, e9_8x2, wrap_succ (by omega)]; rfl
      · by_cases h1 : i = k + 1
        · rw [h1]; exact ha
        · exact hp i (by omega)
    · refine ⟨.off .ret _ hj, fun nx K => ?_, EJ, .inr ⟨rfl, rfl⟩⟩
      rw [e9_0, decide_eq_true (by omega), cond_true, e, e9_8r, check_first (by omega) hp ha]; rfl
  · rintro x env h' ⟨E3, ⟨rfl, rfl, hp⟩ | ⟨rfl, rfl⟩⟩
    rotate_left
    · rw [e9_0r]; exact .mk ⟨rfl, rfl, E3⟩
    rw [e9_0x0]
    refine GivesX.all s.ac.length (acOk s v) (fun hh => Ext m hh) (fun i => E9_16 (.pointer (some ⟨h.next, 0, none⟩)) (.pointer (some ⟨m0.next, 0, none⟩)) (.int .i64 (i : Int))) (xT := .exit 4) (xF := .ret) (envT := E9_18) (envF := E9_r (.int .i64 8)) (fun i hj hlt E3 => ?_)
      (fun hj E3 {R} nx K => by rw [e9_16, (A.ext E3).l0, optK_mk, castSl_mk, decide_eq_false (by omega), cond_false]) E3 (by omega)
      (fun hh E1 ha => by
        rw [e9_16x4, check_zero (s := s) (v := v) (fun i hi => by
          by_cases h1 : i = 7
          · rw [h1]; exact ha
          · exact hp i (by omega))]
        exact .mk ⟨rfl, rfl, E1⟩)
      (fun hh E1 ha => by rw [e9_16r, check_first (s := s) (v := v) (k := 7) (by omega) (fun i hi => hp i hi) ha]; exact .mk ⟨rfl, rfl, E1⟩)
    obtain ⟨_, m4, q4, rfl, E4⟩ := c_racc (r := r) (n := n) (i := i) F (S1.ext E3) SF (V1.ext E3) hr hh0 hu0 hr0 hlt
    have hk : decide ((i : Int) < (s.ac.length : Int)) = true := decide_eq_true (by omega)
    have pre : ∀ {R : Type} (nx : Env → H → Option R) (K : Exit → Env → H → Option R), evCode P30 (ev30 r (n + 9)) (jmp30 r (n + 9) 9) (dead30 9) r 4 (pc [1, 1, 1, 0, 1, 0, 0] (bd Tryz.f9)) (E9_16 (.pointer (some ⟨h.next, 0, none⟩)) (.pointer (some ⟨m0.next, 0, none⟩)) (.int .i64 (i : Int))) hj (loopK nx (dead30 9 (4 * 4)) (dead30 9 (4 * 4 + 2)) (dead30 9 1000002) K) =
        bif !acOk s v i then K .ret (E9_r (.int .i64 8)) m4 else nx (E9_16 (.pointer (some ⟨h.next, 0, none⟩)) (.pointer (some ⟨m0.next, 0, none⟩)) (.int .i64 ((i + 1 : Nat) : Int))) m4 := by
      intro R nx K
      rw [e9_16, (A.ext E3).l0, optK_mk, castSl_mk, hk, cond_true, (A.ext E3).whole, optK_mk, show suV s = .agg (suV s).cells from rfl, castA_mk, (B.ext E3).whole, optK_mk, show vwV v = .agg (vwV v).cells from rfl, castA_mk,
        show Value.agg (suV s).cells = suV s from rfl, show Value.agg (vwV v).cells = vwV v from rfl, callK_mk q4, castV_mk, wrap_succ (by omega)]
    refine ⟨m4, E3.trans E4, ?_⟩
    cases g : acOk s v i with
    | true => exact .inl ⟨rfl, fun {R} nx K => by rw [pre, g]; rfl⟩
    | false => exact .inr ⟨rfl, fun {R} nx K => by rw [pre, g]; rfl⟩
end
end Go.Ev
