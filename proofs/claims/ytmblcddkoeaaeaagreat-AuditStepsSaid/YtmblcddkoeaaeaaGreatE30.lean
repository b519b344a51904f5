/-
  Audit: is a list at least that?
-/
import Derived.Test.YtmblcddkoeaaeaaGreatD30
namespace Go.Ev
open Go Go.Proofs

section
variable {r n : Nat} {h : H} {a b : Option Addr} {sa sb : Nat} {l : List Int}

def atLeast (low : Int) (l : List Int) : Bool := l.all fun z => decide (low ≤ z)
theorem atLeast_no {low : Int} {k : Nat} {z : Int} (hz : l[k]? = some z) (hlt : z < low) : atLeast low l = false := by
  cases hc : atLeast low l with
  | false => rfl
  | true =>
    have := List.all_eq_true.1 hc z (List.mem_of_getElem? hz)
    simp at this; omega
theorem atLeast_all {low : Int} (hok : ∀ k z, k < l.length → l[k]? = some z → low ≤ z) : atLeast low l = true := by
  refine List.all_eq_true.2 fun z hz => ?_
  obtain ⟨k, hk, e⟩ := List.mem_iff_getElem.1 hz
  simp only [decide_eq_true_eq]
  exact hok k z hk (by rw [List.getElem?_eq_getElem hk, e])

theorem c_least {low : Int} (S : Is h a sa l) (hl : l.length < 1000000) (hr : 1000000 ≤ r) : ev30 r (n + 1) 52 [.int .i64 low, .slice a l.length sa] h = some (.bool (atLeast low l), h) := by
  apply Gives.eq
  rw [e52]
  refine Gives.loop (fun k env hh => env = E52_0 (.int .i64 low) (.slice a l.length sa) (.int .i64 (l.length : Int)) (.int .i64 (k : Int)) ∧ hh = h ∧ ∀ i z, i < k → l[i]? = some z → low ≤ z) l.length
    (fun x env hh => hh = h ∧ ((x = .exit 0 ∧ env = E52_2 ∧ atLeast low l = true) ∨ (x = .ret ∧ env = E52_r (.bool false) ∧ atLeast low l = false)))
    (fun k env hh hk hI => ?_) ⟨rfl, rfl, fun i z hi => by omega⟩ (by omega) ?_
  · obtain ⟨rfl, rfl, hok⟩ := hI
    by_cases hg : k < l.length
    · have hget : l[k]? = some l[k] := List.getElem?_eq_getElem hg
      generalize l[k] = z at hget
      by_cases hz : z < low
      · refine ⟨.off .ret _ _, fun nx K => ?_, rfl, .inr ⟨rfl, rfl, atLeast_no hget hz⟩⟩
        rw [e52_0, decide_eq_true (by omega), cond_true, S.read und28 cel3 agg3 hget, castI_mk, decide_eq_true hz, cond_true]; rfl
      · refine ⟨.on _ _, fun nx K => ?_, hg, rfl, rfl, fun i y hi hy => ?_⟩
        · rw [e52_0, decide_eq_true (by omega), cond_true, S.read und28 cel3 agg3 hget, castI_mk, decide_eq_false hz, cond_false, wrap_succ (by omega)]; rfl
        · by_cases hik : i = k
          · rw [hik, hget] at hy; cases hy; omega
          · exact hok i y (by omega) hy
    · have hkk : k = l.length := by omega
      refine ⟨.off (.exit 0) _ _, fun nx K => ?_, rfl, .inl ⟨rfl, rfl, atLeast_all fun i z hi => hok i z (by omega)⟩⟩
      rw [e52_0, decide_eq_false (by omega), cond_false]; rfl
  · rintro x env h' ⟨rfl, ⟨rfl, rfl, hv⟩ | ⟨rfl, rfl, hv⟩⟩
    · rw [e52_0x0, hv]; exact .mk ⟨rfl, rfl⟩
    · rw [e52_0r, hv]; exact .mk ⟨rfl, rfl⟩

theorem c_low (S : Is h a sa l) (hl : l.length < 1000000) (hr : 1000000 ≤ r) : ev30 r (n + 1) 57 [.slice a l.length sa] h = some (.bool (!atLeast 0 l), h) := by
  apply Gives.eq
  rw [e57]
  refine Gives.loop (fun k env hh => env = E57_0 (.slice a l.length sa) (.int .i64 (k : Int)) ∧ hh = h ∧ ∀ i z, i < k → l[i]? = some z → 0 ≤ z) l.length
    (fun x env hh => hh = h ∧ ((x = .exit 0 ∧ env = E57_2 ∧ atLeast 0 l = true) ∨ (x = .ret ∧ env = E57_r (.bool true) ∧ atLeast 0 l = false)))
    (fun k env hh hk hI => ?_) ⟨rfl, rfl, fun i z hi => by omega⟩ (by omega) ?_
  · obtain ⟨rfl, rfl, hok⟩ := hI
    by_cases hg : k < l.length
    · have hget : l[k]? = some l[k] := List.getElem?_eq_getElem hg
      generalize l[k] = z at hget
      by_cases hz : z < 0
      · refine ⟨.off .ret _ _, fun nx K => ?_, rfl, .inr ⟨rfl, rfl, atLeast_no hget hz⟩⟩
        rw [e57_0, decide_eq_true (by omega), cond_true, S.read und28 cel3 agg3 hget, castI_mk, decide_eq_true hz, cond_true]; rfl
      · refine ⟨.on _ _, fun nx K => ?_, hg, rfl, rfl, fun i y hi hy => ?_⟩
        · rw [e57_0, decide_eq_true (by omega), cond_true, S.read und28 cel3 agg3 hget, castI_mk, decide_eq_false hz, cond_false, wrap_succ (by omega)]; rfl
        · by_cases hik : i = k
          · rw [hik, hget] at hy; cases hy; omega
          · exact hok i y (by omega) hy
    · have hkk : k = l.length := by omega
      refine ⟨.off (.exit 0) _ _, fun nx K => ?_, rfl, .inl ⟨rfl, rfl, atLeast_all fun i z hi => hok i z (by omega)⟩⟩
      rw [e57_0, decide_eq_false (by omega), cond_false]; rfl
  · rintro x env h' ⟨rfl, ⟨rfl, rfl, hv⟩ | ⟨rfl, rfl, hv⟩⟩
    · rw [e57_0x0, hv]; exact .mk ⟨rfl, rfl⟩
    · rw [e57_0r, hv]; exact .mk ⟨rfl, rfl⟩
end
end Go.Ev
