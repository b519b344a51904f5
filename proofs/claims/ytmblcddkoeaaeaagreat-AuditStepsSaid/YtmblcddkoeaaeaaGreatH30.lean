/-
  Audit: an account's place.
-/
import Derived.Test.YtmblcddkoeaaeaaGreatF30
namespace Go.Ev
open Go Go.Proofs

/-- A name's place, from 'k' on; below 0: there is none. -/
def placeF (name : List UInt8) : Nat → List (List UInt8) → Int
  | _, [] => -1
  | k, x :: r => if x = name then (k : Int) else placeF name (k + 1) r
def placeOf (name : List UInt8) (l : List (List UInt8)) : Int := placeF name 0 l
theorem placeF_step {name : List UInt8} {l : List (List UInt8)} {k : Nat} {x : List UInt8} (hx : l[k]? = some x) : placeF name k (l.drop k) = if x = name then (k : Int) else placeF name (k + 1) (l.drop (k + 1)) := by
  have hk := (List.getElem?_eq_some_iff.1 hx).1
  rw [List.drop_eq_getElem_cons hk]
  have : l[k] = x := by rw [List.getElem?_eq_getElem hk] at hx; simpa using hx
  rw [this, placeF]

theorem und83 : P30.underlying 83 = some (.slice 9) := by kernel_rfl
theorem cel9 : cellsOf P30 9 = some 1 := by kernel_rfl
theorem agg9 : aggT P30 9 = some false := by kernel_rfl
abbrev Ss (h : H) (a : Option Addr) (st : Nat) (l : List (List UInt8)) : Prop := Sl (fun w => [Value.string (txt w)]) 1 h a st l

section
variable {r n : Nat} {h : H} {a b : Option Addr} {sa sb : Nat} {l : List (List UInt8)}

theorem c_find {w : List UInt8} (S : Ss h a sa l) (hl : l.length < 1000000) (hr : 1000000 ≤ r) : ev30 r (n + 1) 58 [.slice a l.length sa, .string (txt w)] h = some (.int .i64 (placeOf w l), h) := by
  apply Gives.eq
  rw [e58]
  refine Gives.loop (fun k env hh => env = E58_0 (.slice a l.length sa) (.string (txt w)) (.int .i64 (k : Int)) ∧ hh = h ∧ k ≤ l.length ∧ placeOf w l = placeF w k (l.drop k)) l.length
    (fun x env hh => hh = h ∧ ((x = .exit 0 ∧ env = E58_2 ∧ placeOf w l = -1) ∨ (x = .ret ∧ env = E58_r (.int .i64 (placeOf w l)))))
    (fun k env hh hk hI => ?_) ⟨rfl, rfl, by omega, rfl⟩ (by omega) ?_
  · obtain ⟨rfl, rfl, hk, hp⟩ := hI
    by_cases hg : k < l.length
    · have hget : l[k]? = some l[k] := List.getElem?_eq_getElem hg
      generalize l[k] = x at hget
      have hs := placeF_step (name := w) hget
      by_cases hx : x = w
      · refine ⟨.off .ret _ _, fun nx K => ?_, rfl, .inr ⟨rfl, rfl⟩⟩
        rw [e58_0, decide_eq_true (by omega), cond_true, S.read und83 cel9 agg9 hget, castS_mk, txt_toList, txt_toList]
        have e : (x == w) = true := by simp [hx]
        rw [e, cond_true, hp, hs, if_pos hx]; rfl
      · refine ⟨.on _ _, fun nx K => ?_, hg, rfl, rfl, by omega, by rw [hp, hs, if_neg hx]⟩
        rw [e58_0, decide_eq_true (by omega), cond_true, S.read und83 cel9 agg9 hget, castS_mk, txt_toList, txt_toList]
        have e : (x == w) = false := by simp [hx]
        rw [e, cond_false, wrap_succ (by omega)]; rfl
    · have hkk : k = l.length := by omega
      refine ⟨.off (.exit 0) _ _, fun nx K => ?_, rfl, .inl ⟨rfl, rfl, ?_⟩⟩
      · rw [e58_0, decide_eq_false (by omega), cond_false]; rfl
      · rw [hp, hkk, List.drop_length]; rfl
  · rintro x env h' ⟨rfl, ⟨rfl, rfl, hv⟩ | ⟨rfl, rfl⟩⟩
    · rw [e58_0x0, hv]; exact .mk ⟨rfl, rfl⟩
    · rw [e58_0r]; exact .mk ⟨rfl, rfl⟩
end
end Go.Ev
