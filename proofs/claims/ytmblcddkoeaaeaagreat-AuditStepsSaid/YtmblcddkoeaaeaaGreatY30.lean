/-
  Audit: what came in.
-/
import Derived.Test.YtmblcddkoeaaeaaGreatX30
import Derived.Test.YtmblcddkoeaaeaaGreatEvV
set_option maxRecDepth 100000
namespace Go.Ev
open Go Go.Proofs

theorem str81 : strOfT P30 81 = some [9, 9, 3, 3, 3, 3, 3, 3, 3, 3] := by kernel_rfl
theorem str65 : strOfT P30 65 = some [9, 9, 9, 3, 3, 3, 3, 3, 3, 3, 3, 3, 3, 3, 3, 3, 63] := by kernel_rfl
theorem str30 : strOfT P30 30 = some [3, 4, 27, 28, 28, 28, 28] := by kernel_rfl
theorem str26 : strOfT P30 26 = some [22, 23, 24, 3, 3, 3, 3, 3, 3] := by kernel_rfl
theorem str58 : strOfT P30 58 = some [9, 3] := by kernel_rfl
theorem str60 : strOfT P30 60 = some [9, 3, 3, 3, 3, 3, 3] := by kernel_rfl
theorem str62 : strOfT P30 62 = some [9, 3, 3, 3, 4] := by kernel_rfl
theorem und9 : P30.underlying 9 = some .string := by kernel_rfl
theorem und3 : P30.underlying 3 = some (.int .i64) := by kernel_rfl
theorem und4 : P30.underlying 4 = some .bool := by kernel_rfl
theorem pc81 : P30.cellsOf 81 = 10 := by kernel_rfl
theorem pc65 : P30.cellsOf 65 = 17 := by kernel_rfl
theorem pc58 : P30.cellsOf 58 = 2 := by kernel_rfl
theorem pc60 : P30.cellsOf 60 = 7 := by kernel_rfl
theorem pc62 : P30.cellsOf 62 = 5 := by kernel_rfl
theorem pc3 : P30.cellsOf 3 = 1 := by kernel_rfl
theorem fits_of {n : Int} (h : IntKind.min .i64 ≤ n ∧ n ≤ IntKind.max .i64) : fits n := by
  have h1 : IntKind.min .i64 = -9223372036854775808 := by decide
  have h2 : IntKind.max .i64 = 9223372036854775807 := by decide
  rw [h1, h2] at h
  unfold fits; omega

section
variable {h : H}
theorem rd_kid {ac : List Value} (r : Rd P30 h 2 81 ac) : ∃ c : Kid, ac = kidC c ∧ kidFits c := by
  have q1 := r.str str81
  obtain ⟨x0, _, rfl, q2⟩ := q1.str und9
  obtain ⟨x1, _, rfl, q3⟩ := q2.str und9
  obtain ⟨x2, _, rfl, ix2, q4⟩ := q3.int und3
  obtain ⟨x3, _, rfl, ix3, q5⟩ := q4.int und3
  obtain ⟨x4, _, rfl, ix4, q6⟩ := q5.int und3
  obtain ⟨x5, _, rfl, ix5, q7⟩ := q6.int und3
  obtain ⟨x6, _, rfl, ix6, q8⟩ := q7.int und3
  obtain ⟨x7, _, rfl, ix7, q9⟩ := q8.int und3
  obtain ⟨x8, _, rfl, ix8, q10⟩ := q9.int und3
  obtain ⟨x9, _, rfl, ix9, q11⟩ := q10.int und3
  cases q11
  exact ⟨⟨x0, x1, x2, x3, x4, x5, x6, x7, x8, x9⟩, rfl, fits_of ix3, fits_of ix4, fits_of ix6, fits_of ix8, fits_of ix9⟩
theorem rd_ints {ac : List Value} (r : Rd P30 h 5 28 ac) : ∃ (l : List Int) (a : Option Addr) (st : Nat), ac = [.slice a l.length st] ∧ Is h a st l ∧ ∀ z ∈ l, fits z := by
  obtain ⟨l, a, st, h1, h2, h3, _⟩ := Rd.slice (P := P30) (c := fun z => [Value.int .i64 z]) (Q := fits) und28 (by rw [pc3]; omega) (fun {ac} r _ => by
    unfold Rd at r
    rw [und3] at r
    obtain ⟨n, rfl, hw⟩ := r
    simp only [Lit.wf, Bool.and_eq_true, decide_eq_true_eq] at hw
    exact ⟨n, rfl, fits_of hw⟩) r
  rw [pc3] at h2
  exact ⟨l, a, st, h1, h2, h3⟩
structure PrRd (h : H) (p : Pr) : Prop where
  kids : Ks h p.ka p.kt p.kids
  ints : fits p.filled ∧ fits p.busted ∧ fits p.claims ∧ fits p.worth ∧ fits p.most ∧ ∀ k ∈ p.kids, kidFits k
theorem rd_parent {ac : List Value} (r : Rd P30 h 4 65 ac) : ∃ p : Pr, ac = prC p ∧ PrRd h p := by
  have q12 := r.str str65
  obtain ⟨x0, _, rfl, q13⟩ := q12.str und9
  obtain ⟨x1, _, rfl, q14⟩ := q13.str und9
  obtain ⟨x2, _, rfl, q15⟩ := q14.str und9
  obtain ⟨x3, _, rfl, ix3, q16⟩ := q15.int und3
  obtain ⟨x4, _, rfl, ix4, q17⟩ := q16.int und3
  obtain ⟨x5, _, rfl, ix5, q18⟩ := q17.int und3
  obtain ⟨x6, _, rfl, ix6, q19⟩ := q18.int und3
  obtain ⟨x7, _, rfl, ix7, q20⟩ := q19.int und3
  obtain ⟨x8, _, rfl, ix8, q21⟩ := q20.int und3
  obtain ⟨x9, _, rfl, ix9, q22⟩ := q21.int und3
  obtain ⟨x10, _, rfl, ix10, q23⟩ := q22.int und3
  obtain ⟨x11, _, rfl, ix11, q24⟩ := q23.int und3
  obtain ⟨x12, _, rfl, ix12, q25⟩ := q24.int und3
  obtain ⟨x13, _, rfl, ix13, q26⟩ := q25.int und3
  obtain ⟨x14, _, rfl, ix14, q27⟩ := q26.int und3
  obtain ⟨x15, _, rfl, ix15, q28⟩ := q27.int und3
  obtain ⟨a, _, rfl, ra, q29⟩ := q28.one
  cases q29
  obtain ⟨l, ka, kt, rfl, h2, h3, _⟩ := Rd.slice (P := P30) (c := kidC) (Q := kidFits) und63 (by rw [pc81]; omega) (fun {ac} r _ => rd_kid r) ra
  rw [pc81] at h2
  refine ⟨⟨x0, x1.data.toList, x2, x3, x4, x5, x6, x7, x8, x9, x10, x11, x12, x13, x14, x15, l, ka, kt⟩, ?_, h2, fits_of ix11, fits_of ix12, fits_of ix14, fits_of ix13, fits_of ix10, h3⟩
  simp only [prC, txt_data]; rfl
theorem rd_view {ac : List Value} (r : Rd P30 h 6 30 ac) : ∃ v : Vw, ac = vwC v ∧ VwIn h v ∧ VwInts v ∧ v.ps.length ≤ maxLen := by
  have q30 := r.str str30
  obtain ⟨x0, _, rfl, ix0, q31⟩ := q30.int und3
  obtain ⟨x1, _, rfl, q32⟩ := q31.bool und4
  obtain ⟨a2, _, rfl, r2, q33⟩ := q32.one
  obtain ⟨a3, _, rfl, r3, q34⟩ := q33.one
  obtain ⟨a4, _, rfl, r4, q35⟩ := q34.one
  obtain ⟨a5, _, rfl, r5, q36⟩ := q35.one
  obtain ⟨a6, _, rfl, r6, q37⟩ := q36.one
  cases q37
  obtain ⟨l2, p2, t2, rfl, h2, q2, m2⟩ := Rd.slice (P := P30) (c := prC) (Q := PrRd h) und27 (by rw [pc65]; omega) (fun {ac} r _ => rd_parent r) r2
  obtain ⟨l3, p3, t3, rfl, h3, q3⟩ := rd_ints r3
  obtain ⟨l4, p4, t4, rfl, h4, q4⟩ := rd_ints r4
  obtain ⟨l5, p5, t5, rfl, h5, q5⟩ := rd_ints r5
  obtain ⟨l6, p6, t6, rfl, h6, q6⟩ := rd_ints r6
  rw [pc65] at h2
  exact ⟨⟨x0, x1, l2, p2, t2, l3, p3, t3, l4, p4, t4, l5, p5, t5, l6, p6, t6⟩, rfl, ⟨h2, fun p hp => (q2 p hp).kids, h3, h4, h5, h6⟩, ⟨fun p hp => (q2 p hp).ints, q4, q5⟩, m2⟩
theorem rd_setup {ac : List Value} (r : Rd P30 h 4 26 ac) : ∃ s : Su, ac = suC s ∧ SuIn h s := by
  have q38 := r.str str26
  obtain ⟨a2, _, rfl, r2, q39⟩ := q38.one
  obtain ⟨a3, _, rfl, r3, q40⟩ := q39.one
  obtain ⟨a4, _, rfl, r4, q41⟩ := q40.one
  obtain ⟨y3, _, rfl, iy3, q42⟩ := q41.int und3
  obtain ⟨y4, _, rfl, iy4, q43⟩ := q42.int und3
  obtain ⟨y5, _, rfl, iy5, q44⟩ := q43.int und3
  obtain ⟨y6, _, rfl, iy6, q45⟩ := q44.int und3
  obtain ⟨y7, _, rfl, iy7, q46⟩ := q45.int und3
  obtain ⟨y8, _, rfl, iy8, q47⟩ := q46.int und3
  cases q47
  obtain ⟨l2, p2, t2, rfl, h2, _⟩ := Rd.slice (P := P30) (c := acC) (Q := fun _ => True) und22 (by rw [pc58]; omega) (fun {ac} r _ => by
    have q48 := r.str str58
    obtain ⟨x0, _, rfl, q49⟩ := q48.str und9
    obtain ⟨x1, _, rfl, ix1, q50⟩ := q49.int und3
    cases q50
    exact ⟨(x0.data.toList, x1), by simp only [acC, txt_data], trivial⟩) r2
  obtain ⟨l3, p3, t3, rfl, h3, _⟩ := Rd.slice (P := P30) (c := syC) (Q := fun _ => True) und23 (by rw [pc60]; omega) (fun {ac} r _ => by
    have q51 := r.str str60
    obtain ⟨x0, _, rfl, q52⟩ := q51.str und9
    obtain ⟨x1, _, rfl, ix1, q53⟩ := q52.int und3
    obtain ⟨x2, _, rfl, ix2, q54⟩ := q53.int und3
    obtain ⟨x3, _, rfl, ix3, q55⟩ := q54.int und3
    obtain ⟨x4, _, rfl, ix4, q56⟩ := q55.int und3
    obtain ⟨x5, _, rfl, ix5, q57⟩ := q56.int und3
    obtain ⟨x6, _, rfl, ix6, q58⟩ := q57.int und3
    cases q58
    exact ⟨⟨x0, x1, x2, x3, x4, x5, x6⟩, rfl, trivial⟩) r3
  obtain ⟨l4, p4, t4, rfl, h4, _⟩ := Rd.slice (P := P30) (c := veC) (Q := fun _ => True) und24 (by rw [pc62]; omega) (fun {ac} r _ => by
    have q59 := r.str str62
    obtain ⟨x0, _, rfl, q60⟩ := q59.str und9
    obtain ⟨x1, _, rfl, ix1, q61⟩ := q60.int und3
    obtain ⟨x2, _, rfl, ix2, q62⟩ := q61.int und3
    obtain ⟨x3, _, rfl, ix3, q63⟩ := q62.int und3
    obtain ⟨x4, _, rfl, q64⟩ := q63.bool und4
    cases q64
    exact ⟨⟨x0, x1, x2, x3, x4⟩, rfl, trivial⟩) r4
  rw [pc58] at h2
  rw [pc60] at h3
  rw [pc62] at h4
  exact ⟨⟨l2, p2, t2, l3, p3, t3, l4, p4, t4, y3, y4, y5, y6, y7, y8⟩, rfl, h2, h3, h4⟩
end

theorem noCount_of30 {P : Program} (h : P.funcs.all (fun fn => !(fn.name == "runtime.NumGoroutine")) = true) : NoCount P := by
  intro f fn hf
  have := Array.all_eq_true_iff_forall_mem.1 h fn (Array.mem_of_getElem? hf)
  simpa using this
theorem nc30 : NoCount P30 := noCount_of30 (by kernel_rfl)
theorem mixed30 : P30.follows .mixedOrders = true := by kernel_rfl
/-- The chapter's example, run. -/
theorem awake30 : (evCall P30 (fun _ _ => none) (fun _ => none) 1000 60 5 [] ⟨0, .nil⟩).map (fun p => p.1) = some (.bool true) := by kernel_rfl
theorem intr30_ok (base : Base) : IntrOK P30 base intr30 := by
  intro f g hf
  have : f = 5 ∧ g = trueI := by
    unfold intr30 at hf
    split at hf
    · cases hf; exact ⟨rfl, rfl⟩
    · cases hf
  obtain ⟨rfl, rfl⟩ := this
  exact closed_ok (f := 5) (call := evCall P30 (fun _ _ => none) (fun _ => none) 1000 60) (fun base' => (evCall_sound (base := base') nc30 mixed30 (fun f g hf => by cases hf) 60).1) awake30
theorem sound30 (base : Base) (r n : Nat) : CallOK P30 base (ev30 r n) := (evCall_sound nc30 mixed30 (intr30_ok base) n).1
/-- What a run over blocks that are only read leaves. -/
theorem PostG.under {w : World} {ρ ρ' : Rho} {h h' : H} {w' : World} (hro : RO h) (p : Post (baseAt w) ρ h w ρ' h' w') : RowKit.Below w.heap.size w w' :=
  ⟨p.os, p.tape, p.output, p.size, fun k hk => p.frame k hk fun i x o K hi hx => by rw [hro i x hi] at hx; cases hx⟩

theorem call30 {f : FuncId} {args args' : List Value} {h : H} {r n : Nat} {ρ : Rho} {w : World} (g : Gives (ev30 r n f args h) fun y h' => y = .bool true ∧ Ext h h') (hs : Sim ρ (baseAt w) h w) (hv : VRs ρ args args') (hro : RO h) :
    Calls P30 f args'.toArray w fun e w' => e = .returned (.bool true) ∧ RowKit.Below w.heap.size w w' := by
  obtain ⟨v, h', e, rfl, _⟩ := g
  refine (sound30 (baseAt w) r n f args h _ h' e ρ w args' hs hv).mono fun x w' hx => ?_
  obtain ⟨ρ', v', rfl, hp, hv'⟩ := hx
  cases hv'
  exact ⟨rfl, PostG.under hro hp⟩
theorem ok26 : okT P30 4 26 = true := by kernel_rfl
theorem ok30 : okT P30 6 30 = true := by kernel_rfl

/-- A setup and a view that came in. -/
theorem walk30 {HH : Type} {enc : TypeId × Value → HH} {held : Bool} {w : World} {cs cv : Array Value} {z : Int} {f1 f2 : Nat} {x1 x2 : DataW HH × List MemPlace}
    (h1 : DataW.trod enc P30 w 0 (fun _ => true) held f1 26 cs.toList = some x1) (h2 : DataW.trod enc P30 w 0 (fun _ => true) held f2 30 cv.toList = some x2) :
    Calls P30 3 #[.agg cs, .agg cv, .int .i64 z] w fun e w' => e = .returned (.bool true) ∧ RowKit.Below w.heap.size w w' := by
  obtain ⟨ρ1, m1, ac1, R1, V1, D1⟩ := read_trod (P := P30) (fun _ => rfl) 4 26 ok26 f1 _ _ _ ⟨0, .nil⟩ h1 sim_empty (fun i x hi => by simp [H.get, Tr.get_nil] at hi)
  obtain ⟨ρ2, m2, ac2, R2, V2, D2⟩ := read_trod (P := P30) (fun _ => rfl) 6 30 ok30 f2 _ _ _ m1 h2 R1.sim R1.ro
  have O1 := D1.one _ _ _
  have O2 := D2.one _ _ _
  obtain ⟨s, rfl, S⟩ := rd_setup D1
  obtain ⟨v, rfl, V, VI, hl⟩ := rd_view D2
  refine call30 (r := 9223372036854775808) (n := 16) (h := m2) (ρ := ρ2) (args := [suV s, vwV v, .int .i64 z]) (args' := [.agg cs, .agg cv, .int .i64 z])
    (c_law3 (n := 0) (S.ext R2.ext) V VI (by unfold maxLen at hl; omega) (Nat.le_refl _)) R2.sim (.cons (.agg' (xs := ⟨suC s⟩) (V1.mono R2.le) O1) (.cons (.agg' (xs := ⟨vwC v⟩) V2 O2) (.cons (.int _ _) (.nil _)))) R2.ro
end Go.Ev
