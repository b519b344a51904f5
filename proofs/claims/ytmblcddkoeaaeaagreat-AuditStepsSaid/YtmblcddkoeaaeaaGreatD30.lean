/-
  Audit: sums, by both.
-/
import Derived.Test.YtmblcddkoeaaeaaGreatC30
namespace Go.Ev
open Go Go.Proofs

section
variable {r n : Nat} {h : H} {a b : Option Addr} {sa sb : Nat}
instance (z : Int) : Decidable (fits z) := inferInstanceAs (Decidable (_ ∧ _))
/-- Is a list together that number? -/
def isSum (z : Int) (l : List Int) : Bool := decide (fits l.sum ∧ l.sum = z)

/-- audit.sum -/
theorem c_asum {l : List Int} {z : Int} (S : Is h a sa l) (hl : l.length < 1000000) (hf : ∀ z ∈ l, fits z) (hr : 1000000 ≤ r) : Gives (ev30 r (n + 7) 55 [.int .i64 z, .slice a l.length sa] h) fun y h' => y = .bool (isSum z l) ∧ Ext h h' := by
  obtain ⟨v, h1, q1, E1, q, e, rfl, hq⟩ := c_sum (r := r) (n := n) S hl hf hr
  rw [e55, callK_mk q1]
  simp only [castTup_mk, headK_mk, castI_mk, nilK_mk]
  rcases hq with ⟨hfit, rfl, rfl⟩ | ⟨hno, rfl⟩
  · rw [show ((0 : Int) == 0) = true from rfl, cond_true]
    have : (l.sum == z) = isSum z l := by
      unfold isSum
      by_cases hz : l.sum = z
      · rw [decide_eq_true ⟨hfit, hz⟩]; simp [hz]
      · rw [decide_eq_false fun h => hz h.2]; simp [hz]
    rw [this]
    exact .mk ⟨rfl, E1⟩
  · rw [show ((10 : Int) == 0) = false from rfl, cond_false]
    have : isSum z l = false := by unfold isSum; rw [decide_eq_false fun h => hno h.1]
    rw [this]
    exact .mk ⟨rfl, E1⟩

/-- A number as a struct. -/
abbrev numCs (z : Int) (c : Option Addr) (sc : Nat) : List Value := [.bool (sgn z), .slice c (mag z).length sc]
theorem mag_fit {z : Int} {k : Nat} (h : z.natAbs < 2 ^ k) : (mag z).length ≤ k := bits_length h

theorem c_refsum {l : List Int} (S : Is h a sa l) (hl : l.length < 1000000) (hf : ∀ z ∈ l, fits z) (hr : 1000000 ≤ r) : Gives (ev30 r (n + 6) 64 [.slice a l.length sa] h) fun y h' => Ext h h' ∧ ∃ c sc,
    y = .agg ⟨numCs l.sum c sc⟩ ∧ BsA h h' c sc (mag l.sum) := by
  rw [e64]
  have bnd : ∀ k, (mag (l.take k).sum).length ≤ 84 := by
    intro k
    have h1 := up_le (l := l.take k) fun z hz => hf z (List.mem_of_mem_take hz)
    have h2 : (l.take k).length ≤ 1000000 := by rw [List.length_take]; omega
    have h3 : (l.take k).length * 9223372036854775808 ≤ 1000000 * 9223372036854775808 := Nat.mul_le_mul_right _ h2
    have h4 := up_down (l.take k)
    exact mag_fit (by omega)
  have E0 : Ext h ((h.new (.cells [.bool false, .slice none 0 0] false)).new (.cells [.bool false, .slice none 0 0] false)) := ((Ext.refl h).new _).new _
  have H0 : Has ((h.new (.cells [.bool false, .slice none 0 0] false)).new (.cells [.bool false, .slice none 0 0] false)) h.next (.cells [.bool false, .slice none 0 0] false) := (Has.here _ _).new _
  have H1 : Has ((h.new (.cells [.bool false, .slice none 0 0] false)).new (.cells [.bool false, .slice none 0 0] false)) (h.next + 1) (.cells [.bool false, .slice none 0 0] false) := Has.here (h.new _) _
  have hst : stCells ((h.new (.cells [.bool false, .slice none 0 0] false)).new (.cells [.bool false, .slice none 0 0] false)) (h.next + 1) 0 [.bool false, .slice none 0 0] = some ((h.new (.cells [.bool false, .slice none 0 0] false)).new (.cells [.bool false, .slice none 0 0] false)) :=
    st_new (h := h.new (.cells [.bool false, .slice none 0 0] false)) (zs := [.bool false, .slice none 0 0]) rfl
  rw [hst, optK_mk]
  have hn2 : ((h.new (.cells [.bool false, .slice none 0 0] false)).new (.cells [.bool false, .slice none 0 0] false)).next = h.next + 2 := rfl
  generalize (h.new (.cells [.bool false, .slice none 0 0] false)).new (.cells [.bool false, .slice none 0 0] false) = m at *
  refine Gives.loop (fun k env hh => env = E64_0 (.slice a l.length sa) (.pointer (some ⟨h.next, 0, none⟩)) (.pointer (some ⟨h.next + 1, 0, none⟩)) (.int .i64 (k : Int)) ∧ Ext h hh ∧ Has hh h.next (.cells [.bool false, .slice none 0 0] false) ∧ m.next ≤ hh.next ∧
      ∃ c sc, Has hh (h.next + 1) (.cells (numCs (l.take k).sum c sc) false) ∧ BsA m hh c sc (mag (l.take k).sum)) l.length
    (fun x env hh => x = .exit 0 ∧ env = E64_2 (.pointer (some ⟨h.next, 0, none⟩)) (.pointer (some ⟨h.next + 1, 0, none⟩)) ∧ Ext h hh ∧ Has hh h.next (.cells [.bool false, .slice none 0 0] false) ∧ m.next ≤ hh.next ∧
      ∃ c sc, Has hh (h.next + 1) (.cells (numCs l.sum c sc) false) ∧ BsA m hh c sc (mag l.sum))
    (fun k env hh hk hI => ?_) ⟨rfl, E0, H0, Nat.le_refl _, none, 0, by rw [List.take_zero]; exact H1, by rw [List.take_zero]; exact .nil _ _⟩ (by omega) ?_
  · obtain ⟨rfl, E, HA, hmn, c, sc, HX, V⟩ := hI
    by_cases hg : k < l.length
    · have hget : l[k]? = some l[k] := List.getElem?_eq_getElem hg
      have hz := hf l[k] (List.getElem_mem _)
      have htk : (l.take (k + 1)).sum = (l.take k).sum + l[k] := by rw [show l.take (k + 1) = l.take k ++ [l[k]] from by rw [List.take_add_one, hget]; rfl, List.sum_append, List.sum_singleton]
      have b1 := bnd k
      generalize l[k] = z at hget hz htk
      unfold fits at hz
      obtain ⟨v1, h1, q1, c1, s1, rfl, E1, V1⟩ := c_of (r := r) (n := n + 3) (h := hh) (z := z) hz hr
      obtain ⟨v2, h2, q2, c2, s2, rfl, E2, V2⟩ := c_add (r := r) (n := n + 1) (h := h1) (x := (l.take k).sum) (y := z) (V.ext E1).sl V1.sl (by omega) (Nat.lt_of_le_of_lt (mag_fit (k := 64) (by omega)) (by omega)) hr
      have lX : ∀ {w}, Ext hh w → ldV P30 143 (h.next + 1) 0 w = some (.agg #[.bool (sgn (l.take k).sum), .slice c (mag (l.take k).sum).length sc]) := fun E => by rw [ld_agg agg_num cel_num (HX.ext E) (by simp)]; rfl
      have hsame : sameLd P30 143 (h.next + 1) 0 (.agg #[.bool (sgn (l.take k).sum), .slice c (mag (l.take k).sum).length sc]) hh = true := by
        unfold sameLd
        rw [lX (.refl _)]
        have : eqA c c = true := by
          rcases V.sl with ⟨_, rfl, _⟩ | ⟨_, j, o, rfl, _⟩
          · rfl
          · simp [Go.Ev.eqA]
        simp [eqV, eqV.eqVs, this]
      have HX2 := HX.ext (E1.trans E2)
      have hne : ∀ o, c2 ≠ some ⟨h.next + 1, o, none⟩ := fun o => V2.far (by have := E1.1; omega) o
      refine ⟨.on _ (h2.put (h.next + 1) (.cells (numCs (l.take (k + 1)).sum c2 s2) false)), fun nx K => ?_, hg, rfl, (E.trans (E1.trans E2)).put (by omega) _, (HA.ext (E1.trans E2)).put (by omega) _, Nat.le_trans hmn (E1.trans E2).1, c2, s2, HX2.over _, ?_⟩
      · rw [e64_0, decide_eq_true (by omega), cond_true, (S.ext E).read und28 cel3 agg3 hget, castI_mk, callK_mk q1, castA_mk, lX E1, optK_mk, castA_mk, hsame, cond_true, callK_mk q2, castA_mk, ifK_pos (by rw [cel_num]; rfl)]
        erw [st_all (vs := numCs ((l.take k).sum + z) c2 s2) HX2 rfl]
        rw [optK_mk, wrap_succ (by omega), htk]
        rfl
      · rw [htk]
        exact (V2.below (h0 := m) (by have := E1.1; omega)).put hne _
    · have hkk : k = l.length := by omega
      rw [hkk, List.take_length] at HX V
      refine ⟨.off (.exit 0) _ _, fun nx K => ?_, rfl, rfl, E, HA, hmn, c, sc, HX, V⟩
      rw [e64_0, decide_eq_false (by omega), cond_false]; rfl
  · rintro x env h' ⟨rfl, rfl, E, HA, hmn, c, sc, HX, V⟩
    have lX : ldV P30 143 (h.next + 1) 0 h' = some (.agg ⟨numCs l.sum c sc⟩) := by rw [ld_agg agg_num cel_num HX (by simp)]; rfl
    have e8 : (Value.agg ⟨numCs l.sum c sc⟩).cells.toList = numCs l.sum c sc := rfl
    rw [e64_0x0, lX, optK_mk, castA_mk, ifK_pos (by rw [cel_num]; rfl), e8, st_all (vs := numCs l.sum c sc) HA rfl, optK_mk, ld_agg agg_num cel_num (HA.over _) (by simp), optK_mk]
    have hne : ∀ o, c ≠ some ⟨h.next, o, none⟩ := fun o => V.far (by omega) o
    exact ⟨_, _, rfl, E.put (Nat.le_refl _) _, c, sc, rfl, (V.below (h0 := h) (by omega)).put hne _⟩

/-- spigotref30.is -/
theorem c_is {l : List Int} {z : Int} (S : Is h a sa l) (hl : l.length < 1000000) (hf : ∀ z ∈ l, fits z) (hr : 1000000 ≤ r) : Gives (ev30 r (n + 7) 61 [.int .i64 z, .slice a l.length sa] h) fun y h' => y = .bool (isSum z l) ∧ Ext h h' := by
  obtain ⟨v, h1, q1, E1, c, sc, rfl, V⟩ := c_refsum (r := r) (n := n) S hl hf hr
  have hb : (mag l.sum).length ≤ 84 := by
    have h1 := up_le hf
    have h3 : l.length * 9223372036854775808 ≤ 1000000 * 9223372036854775808 := Nat.mul_le_mul_right _ (by omega)
    have h4 := up_down l
    exact mag_fit (by omega)
  obtain ⟨v2, h2, q2, E2, q, rfl, hq⟩ := c_int (r := r) (n := n + 5) (h := h1) (z := l.sum) V.sl (by omega) hr
  rw [e61, callK_mk q1, castA_mk]
  erw [callK_mk q2]
  simp only [castTup_mk, headK_mk, castI_mk, castV_mk, nilK_mk]
  by_cases hfit : fits l.sum
  · have hd : decide (-9223372036854775808 ≤ l.sum ∧ l.sum < 9223372036854775808) = true := decide_eq_true hfit
    have hql := hq hfit
    have : (q == z) = isSum z l := by
      unfold isSum
      rw [hql]
      by_cases hz : l.sum = z
      · rw [decide_eq_true ⟨hfit, hz⟩]; simp [hz]
      · rw [decide_eq_false fun h => hz h.2]; simp [hz]
    rw [hd, cond_true, this]
    exact .mk ⟨rfl, E1.trans E2⟩
  · have hd : decide (-9223372036854775808 ≤ l.sum ∧ l.sum < 9223372036854775808) = false := decide_eq_false hfit
    have : isSum z l = false := by unfold isSum; rw [decide_eq_false fun h => hfit h.1]
    rw [hd, cond_false, this]
    exact .mk ⟨rfl, E1.trans E2⟩
end
end Go.Ev
