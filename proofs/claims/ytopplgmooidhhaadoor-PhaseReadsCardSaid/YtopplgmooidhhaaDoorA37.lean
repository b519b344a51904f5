/-
  PhaseReads: awake, and the start.
-/
import Derived.Test.YtopplgmooidhhaaDoorZ37
namespace Go.Ev
open Go Go.Proofs

/-- The memory that the law starts with. -/
def start37 (d : List Ph) : H := H.new ⟨0, .nil⟩ (.cells (d.flatMap phC) true)
def look37 (p : Option (Value × H)) : Option (Value × Bool × Option Blk) := p.map fun p => (p.1, Nat.blt 0 p.2.next, p.2.get 0)
theorem awake37 (d : List Ph) : look37 (ev37 1000000 43 4 [] (start37 d)) = some (.bool true, true, some (.cells (d.flatMap phC) true)) := by kernel_rfl
theorem awake37n : (ev37 1000000 43 4 [] ⟨0, .nil⟩).map (fun p => p.1) = some (.bool true) := by kernel_rfl

theorem law_gen {r n m k : Nat} (hm : m = n + 13) (hk : k = n + 14) (hr : 1000000 ≤ r) {h : H} {l : List UInt8} {a : Option Addr} {sa : Nat} {d : List Ph} (S : Ds h a sa d) {p : Option (Value × H)} (hp : ev37 r m 4 [] h = p)
    (hw : Gives p fun v h' => v = .bool true ∧ Ext h h') : ∃ h', ev37 r k 3 [.string (txt l), .slice a d.length sa] h = some (.bool true, h') := by
  subst hm hk hp
  obtain ⟨v, h', q, rfl, _⟩ := c_law (r := r) (n := n) (l := l) S hr hw
  exact ⟨h', q⟩
theorem law37_row (l : List UInt8) (d : List Ph) :
    ∃ h', ev37 1000000 44 3 [.string (txt l), .slice (some ⟨0, 0, none⟩) d.length 2] (start37 d) = some (.bool true, h') := by
  have S : Ds (start37 d) (some ⟨0, 0, none⟩) 2 d := by
    refine .inr ⟨rfl, 0, 0, rfl, fun i x hx => ⟨_, _, Has.here _ _, fun f y hy => ?_⟩⟩
    have := flatMap_get (e := phC) (k := 2) (fun _ _ => rfl) hx f y hy
    rw [Nat.zero_add]; exact this
  refine law_gen (m := 43) (n := 30) (by omega) (by omega) (by omega) S rfl ?_
  have e := awake37 d
  unfold look37 at e
  generalize ev37 1000000 43 4 [] (start37 d) = p at e
  cases p with
  | none => simp at e
  | some p =>
    obtain ⟨v, h1⟩ := p
    simp only [Option.map_some, Option.some.injEq, Prod.mk.injEq] at e
    obtain ⟨rfl, e2, e3⟩ := e
    refine ⟨_, _, rfl, rfl, by show 1 ≤ h1.next; rw [Nat.blt_eq] at e2; omega, fun i hi => ?_⟩
    have : i = 0 := by have h9 : i < 1 := hi; omega
    subst this
    rw [e3]; rfl
theorem law37_none (l : List UInt8) {a : Option Addr} {sa : Nat} (S : Ds ⟨0, .nil⟩ a sa []) : ∃ h', ev37 1000000 44 3 [.string (txt l), .slice a 0 sa] ⟨0, .nil⟩ = some (.bool true, h') := by
  refine law_gen (m := 43) (n := 30) (d := []) (h := ⟨0, .nil⟩) (a := a) (sa := sa) (by omega) (by omega) (by omega) S rfl ?_
  have e := awake37n
  generalize ev37 1000000 43 4 [] ⟨0, .nil⟩ = p at e
  cases p with
  | none => simp at e
  | some p =>
    obtain ⟨v, h1⟩ := p
    simp only [Option.map_some, Option.some.injEq] at e
    exact ⟨_, _, rfl, e, Nat.zero_le _, fun i hi => absurd hi (Nat.not_lt_zero _)⟩
end Go.Ev
