/-
  ScriptReports: what came in; the call.
-/
import Derived.Test.YtofgaidlepmcmaaGreatDoorZ31
import Derived.Test.YtofgaidlepmcmaaGreatDoorEvV
import Derived.Below
set_option maxRecDepth 100000
namespace Go.Ev
open Go Go.Proofs Go.RowKit

theorem str44 : strOfT P31 44 = some [9, 9, 3, 3, 3, 3, 3, 3, 3, 3] := by kernel_rfl
theorem str42 : strOfT P31 42 = some [9, 9, 9, 3, 3, 3, 3, 3, 3, 3, 3, 3, 3, 3, 3, 3, 40] := by kernel_rfl
theorem str25 : strOfT P31 25 = some [3, 4, 22, 23, 23, 23, 23] := by kernel_rfl
theorem und9 : P31.underlying 9 = some .string := by kernel_rfl
theorem und3 : P31.underlying 3 = some (.int .i64) := by kernel_rfl
theorem und4 : P31.underlying 4 = some .bool := by kernel_rfl
theorem pc44 : P31.cellsOf 44 = 10 := by kernel_rfl
theorem pc42 : P31.cellsOf 42 = 17 := by kernel_rfl
theorem pc3 : P31.cellsOf 3 = 1 := by kernel_rfl
theorem fits_of {n : Int} (h : IntKind.min .i64 ≤ n ∧ n ≤ IntKind.max .i64) : fits n := by
  have h1 : IntKind.min .i64 = -9223372036854775808 := by decide
  have h2 : IntKind.max .i64 = 9223372036854775807 := by decide
  rw [h1, h2] at h
  unfold fits; omega

section
variable {h : H}
theorem rd_kid {ac : List Value} (r : Rd P31 h 2 44 ac) : ∃ c : Kid, ac = kidC c ∧ KidFit c := by
  have q1 := r.str str44
  obtain ⟨x0, _, rfl, q2⟩ := q1.str und9
  obtain ⟨x1, _, rfl, q3⟩ := q2.str und9
  obtain ⟨x2, _, rfl, ix2, q4⟩ := q3.int und3
  obtain ⟨x3, _, rfl, ix3, q5⟩ := q4.int und3
  obtain ⟨x4, _, rfl, ix4, q6⟩ := q5.int und3
  obtain ⟨x5, _, rfl, ix5, q7⟩ := q6.int und3
  obtain ⟨x6, _, rfl, ix6, q8⟩ := q7.int und3
  obtain ⟨x7, _, rfl, ix7, q9⟩ := q8.int und3
  obtain ⟨x8, _, rfl, ix8, q10⟩ := q9.int und3
  obtain ⟨x9, _, rfl, ix9, q11⟩ := q10.int und3
  cases q11
  exact ⟨⟨x0.data.toList, x1.data.toList, x2, x3, x4, x5, x6, x7, x8, x9⟩, by simp only [kidC, txt_data], fits_of ix3, fits_of ix4, fits_of ix5, fits_of ix8, fits_of ix9⟩
theorem rd_ints {ac : List Value} (r : Rd P31 h 5 23 ac) : ∃ (l : List Int) (a : Option Addr) (st : Nat), ac = [.slice a l.length st] ∧ Is h a st l ∧ ∀ z ∈ l, fits z := by
  obtain ⟨l, a, st, h1, h2, h3, _⟩ := Rd.slice (P := P31) (c := fun z => [Value.int .i64 z]) (Q := fits) und23 (by rw [pc3]; omega) (fun {ac} r _ => by
    unfold Rd at r
    rw [und3] at r
    obtain ⟨n, rfl, hw⟩ := r
    simp only [Lit.wf, Bool.and_eq_true, decide_eq_true_eq] at hw
    exact ⟨n, rfl, fits_of hw⟩) r
  rw [pc3] at h2
  exact ⟨l, a, st, h1, h2, h3⟩
structure PrRd (h : H) (p : Pr) : Prop where
  kids : Ks h p.ka p.kt p.kids
  ints : PrFit p
theorem rd_parent {ac : List Value} (r : Rd P31 h 4 42 ac) : ∃ p : Pr, ac = prC p ∧ PrRd h p := by
  have q12 := r.str str42
  obtain ⟨x0, _, rfl, q13⟩ := q12.str und9
  obtain ⟨x1, _, rfl, q14⟩ := q13.str und9
  obtain ⟨x2, _, rfl, q15⟩ := q14.str und9
  obtain ⟨x3, _, rfl, ix3, q16⟩ := q15.int und3
  obtain ⟨x4, _, rfl, ix4, q17⟩ := q16.int und3
  obtain ⟨x5, _, rfl, ix5, q18⟩ := q17.int und3
  obtain ⟨x6, _, rfl, ix6, q19⟩ := q18.int und3
  obtain ⟨x7, _, rfl, ix7, q20⟩ := q19.int und3
  obtain ⟨x8, _, rfl, ix8, q21⟩ := q20.int und3
  obtain ⟨x9, _, rfl, ix9, q22⟩ := q21.int und3
  obtain ⟨x10, _, rfl, ix10, q23⟩ := q22.int und3
  obtain ⟨x11, _, rfl, ix11, q24⟩ := q23.int und3
  obtain ⟨x12, _, rfl, ix12, q25⟩ := q24.int und3
  obtain ⟨x13, _, rfl, ix13, q26⟩ := q25.int und3
  obtain ⟨x14, _, rfl, ix14, q27⟩ := q26.int und3
  obtain ⟨x15, _, rfl, ix15, q28⟩ := q27.int und3
  obtain ⟨a, _, rfl, ra, q29⟩ := q28.one
  cases q29
  obtain ⟨l, ka, kt, rfl, h2, h3, _⟩ := Rd.slice (P := P31) (c := kidC) (Q := KidFit) und40 (by rw [pc44]; omega) (fun {ac} r _ => rd_kid r) ra
  rw [pc44] at h2
  refine ⟨⟨x0.data.toList, x1.data.toList, x2.data.toList, x3, x4, x5, x6, x7, x8, x9, x10, x11, x12, x13, x14, x15, l, ka, kt⟩, ?_, h2, fits_of ix4, fits_of ix6, fits_of ix7, fits_of ix10, fits_of ix11, fits_of ix12, fits_of ix13, fits_of ix14, fits_of ix15, h3⟩
  simp only [prC, txt_data]; rfl
theorem rd_view {ac : List Value} (r : Rd P31 h 6 25 ac) : ∃ v : Vw, ac = vwC v ∧ VwIn h v ∧ VwInts v ∧ v.ps.length ≤ maxLen := by
  have q30 := r.str str25
  obtain ⟨x0, _, rfl, ix0, q31⟩ := q30.int und3
  obtain ⟨x1, _, rfl, q32⟩ := q31.bool und4
  obtain ⟨a2, _, rfl, r2, q33⟩ := q32.one
  obtain ⟨a3, _, rfl, r3, q34⟩ := q33.one
  obtain ⟨a4, _, rfl, r4, q35⟩ := q34.one
  obtain ⟨a5, _, rfl, r5, q36⟩ := q35.one
  obtain ⟨a6, _, rfl, r6, q37⟩ := q36.one
  cases q37
  obtain ⟨l2, p2, t2, rfl, h2, q2, m2⟩ := Rd.slice (P := P31) (c := prC) (Q := PrRd h) und22 (by rw [pc42]; omega) (fun {ac} r _ => rd_parent r) r2
  obtain ⟨l3, p3, t3, rfl, h3, q3⟩ := rd_ints r3
  obtain ⟨l4, p4, t4, rfl, h4, q4⟩ := rd_ints r4
  obtain ⟨l5, p5, t5, rfl, h5, q5⟩ := rd_ints r5
  obtain ⟨l6, p6, t6, rfl, h6, q6⟩ := rd_ints r6
  rw [pc42] at h2
  exact ⟨⟨x0, x1, l2, p2, t2, l3, p3, t3, l4, p4, t4, l5, p5, t5, l6, p6, t6⟩, rfl, ⟨h2, fun p hp => (q2 p hp).kids, h3, h4, h5, h6⟩, ⟨fits_of ix0, fun p hp => (q2 p hp).ints, q3, q4, q5, q6⟩, m2⟩
end

theorem noCount_of31 {P : Program} (h : P.funcs.all (fun fn => !(fn.name == "runtime.NumGoroutine")) = true) : NoCount P := by
  intro f fn hf
  have := Array.all_eq_true_iff_forall_mem.1 h fn (Array.mem_of_getElem? hf)
  simpa using this
theorem nc31 : NoCount P31 := noCount_of31 (by kernel_rfl)
theorem mixed31 : P31.follows .mixedOrders = true := by kernel_rfl

/-- What was run over no memory at all stands for a call anywhere that leaves the base as it was. -/
theorem closed_ok2 {P : Program} {f : FuncId} {base : Base} {call : CallF} (hc : ∀ w : World, (∀ b, b < base.n → w.heap[b]? = base.obj b) → base.n ≤ w.heap.size → CallOK P (baseAt w) call) (e : (call f [] ⟨0, .nil⟩).map (fun p => p.1) = some (.bool true)) : StandsFor P base f trueI := by
  intro args h v h' hg
  cases args with
  | cons a l => simp [trueI] at hg
  | nil =>
    simp only [trueI, Option.some.injEq, Prod.mk.injEq] at hg
    obtain ⟨rfl, rfl⟩ := hg
    refine ⟨Nat.le_refl _, fun ρ w args' hs hv => ?_⟩
    cases ec : call f [] ⟨0, .nil⟩ with
    | none => rw [ec] at e; cases e
    | some p =>
      obtain ⟨v, h1⟩ := p
      rw [ec] at e
      simp only [Option.map_some, Option.some.injEq] at e
      subst e
      have ha : args' = [] := by have := hv.1; simp at this; exact List.eq_nil_of_length_eq_zero this.symm
      subst ha
      refine (hc w hs.still hs.based f [] _ _ _ ec (fun _ => none) w [] sim_empty (.nil _)).mono fun x w' hx => ?_
      obtain ⟨ρ', v', rfl, hp, hv'⟩ := hx
      cases hv'
      have same : ∀ b, b < w.heap.size → w'.heap[b]? = w.heap[b]? := fun b hb => hp.frame b hb fun i x o K hi => (by simp [H.get, Tr.get_nil] at hi)
      have bd : base.n ≤ w.heap.size := hs.based
      refine ⟨ρ, .bool true, rfl, ⟨.refl ρ, ⟨hs.dom, Nat.le_trans hs.based hp.size, fun b hb => ?_, fun i x hi => ?_, hs.apart⟩, Nat.le_refl _, hp.size, hp.os, hp.tape, hp.output, fun b hb _ => same b hb, fun i x b o K hi hb _ => .inr ⟨i, x, o, K, hi, hb, id⟩⟩, .bool true⟩
      · rw [same b (Nat.lt_of_lt_of_le hb bd)]; exact hs.still b hb
      · obtain ⟨b, o, K, obj, h1, h2, h3⟩ := hs.blk i x hi
        exact ⟨b, o, K, obj, h1, by rw [same b (Array.getElem?_eq_some_iff.1 h2).1]; exact h2, h3⟩

theorem tab_keep {P : Program} {w w' : World} {name : String} {k : IntKind} {zs : List Int} {g : Nat} (hg : P.globalNamed name = some g) (h : Lib.TabIs P w name k zs) (e : w'.heap[g]? = w.heap[g]?) : Lib.TabIs P w' name k zs := by
  unfold Lib.TabIs World.var? at h ⊢
  rw [hg] at h ⊢
  simp only [Option.bind_some] at h ⊢
  rw [e]; exact h
theorem g31pow : P31.globalNamed "internal/strconv.uint64pow10" = some 0 := by kernel_rfl

/-- What the call leans on in the world. -/
structure Fit31 (w : World) : Prop where
  size : 2 ≤ w.heap.size
  max : ∃ m, w.cell? ⟨1, 0, none⟩ = some (.int .i64 m)
  tab : Lib.TabIs P31 w "internal/strconv.uint64pow10" .u64 Lib.pow10Tab
theorem Fit31.still {w w' : World} (F : Fit31 w) (h : ∀ b, b < w.heap.size → w'.heap[b]? = w.heap[b]?) (hs : w.heap.size ≤ w'.heap.size) : Fit31 w' := by
  have hz := F.size
  refine ⟨by omega, ?_, tab_keep g31pow F.tab (h 0 (by omega))⟩
  obtain ⟨m, hm⟩ := F.max
  refine ⟨m, ?_⟩
  unfold World.cell? at hm ⊢
  rw [h 1 (by omega)]; exact hm

section
variable {w : World} (F : Fit31 w)
include F
theorem i_max : ∀ w' : World, (∀ b, b < (baseAt w).n → w'.heap[b]? = (baseAt w).obj b) → ∃ m, w'.cell? ⟨1, 0, none⟩ = some (.int .i64 m) := by
  intro w' hstill
  obtain ⟨m, hm⟩ := F.max
  refine ⟨m, ?_⟩
  have h0 : w'.heap[1]? = w.heap[1]? := hstill 1 (by show 1 < w.heap.size; have := F.size; omega)
  unfold World.cell? at hm ⊢
  simp only at hm ⊢
  rw [h0]; exact hm
theorem i_split : StandsFor P31 (baseAt w) 115 splitI := splitI_ok (g := 1) (te := 9) (fun s sep m w' h1 h2 h3 => Tryz.strings_Split s sep m w' h1 h2 h3) (i_max F)
theorem i_words : StandsFor P31 (baseAt w) 32 wordsI := wordsI_ok F.size (i_max F)
theorem i_itoa : StandsFor P31 (baseAt w) 12 itoaI :=
  itoaI_ok fun n w' h0 h1 hstill => Tryz.strconv_Itoa n h0 h1 w' (tab_keep g31pow F.tab (hstill 0 (by show 0 < w.heap.size; have := F.size; omega)))
end
theorem i_join (base : Base) : StandsFor P31 base 26 joinI :=
  joinI_ok (fun a c sep w' => Tryz.strings_Join_none a c sep w') fun bk o c xs sep w' h1 h2 h3 h4 h5 => Tryz.strings_Join bk o c xs sep w' h1 h2 h3 h4 h5
theorem i_digits (base : Base) : StandsFor P31 base 63 digitsI := by
  refine digitsI_ok fun n w' h0 h1 => ?_
  obtain ⟨k, rfl⟩ : ∃ k : Nat, n = (k : Int) := ⟨n.toNat, by omega⟩
  refine (digits_calls (k + 1) k (by omega) (by omega) w').mono fun e w2 ⟨he, hb⟩ => ⟨?_, hb⟩
  rw [he, Int.toNat_natCast, digs_eq 20 k (by omega) (by omega)]
  rfl
theorem i_write (base : Base) : StandsFor P31 base 11 (writeI 48 5) := writeI_ok (wsOK Tryz.lays156 Tryz.Builder_Extra_156)
theorem i_text (base : Base) : StandsFor P31 base 16 (textI 48 5) := textI_ok (strOK Tryz.lays156 Tryz.Builder_Extra_156)

theorem intrA_ok {w : World} (F : Fit31 w) : IntrOK P31 (baseAt w) intrA := by
  intro f g hf
  unfold intrA at hf
  split at hf
  · cases hf; exact i_write _
  · cases hf; exact i_itoa F
  · cases hf; exact i_text _
  · cases hf; exact i_join _
  · cases hf; exact i_words F
  · cases hf; exact i_split F
  · cases hf
theorem i_awake {w : World} (F : Fit31 w) : StandsFor P31 (baseAt w) 4 trueI :=
  closed_ok2 (f := 4) (call := evCall P31 (fun _ _ => none) intrA 1000 60) (fun w' hs hb => (evCall_sound (base := baseAt w') nc31 mixed31 (intrA_ok (F.still hs hb)) 60).1) awake31
theorem intr31_ok {w : World} (F : Fit31 w) : IntrOK P31 (baseAt w) intr31 := by
  intro f g hf
  unfold intr31 at hf
  split at hf
  · cases hf; exact i_awake F
  · cases hf; exact i_write _
  · cases hf; exact i_itoa F
  · cases hf; exact i_text _
  · cases hf; exact i_join _
  · cases hf; exact i_digits _
  · cases hf; exact i_split F
  · cases hf
theorem sound31 {w : World} (F : Fit31 w) (r n : Nat) : CallOK P31 (baseAt w) (ev31 r n) := (evCall_sound nc31 mixed31 (intr31_ok F) n).1
/-- What a run over blocks that are only read leaves. -/
theorem PostG.under {w : World} {ρ ρ' : Rho} {h h' : H} {w' : World} (hro : RO h) (p : Post (baseAt w) ρ h w ρ' h' w') : RowKit.Below w.heap.size w w' :=
  ⟨p.os, p.tape, p.output, p.size, fun k hk => p.frame k hk fun i x o K hi hx => by rw [hro i x hi] at hx; cases hx⟩

theorem call31 {f : FuncId} {args args' : List Value} {h : H} {r n : Nat} {ρ : Rho} {w : World} (F : Fit31 w) (g : Gives (ev31 r n f args h) fun y h' => y = .bool true ∧ Ext h h') (hs : Sim ρ (baseAt w) h w) (hv : VRs ρ args args') (hro : RO h) :
    Calls P31 f args'.toArray w fun e w' => e = .returned (.bool true) ∧ RowKit.Below w.heap.size w w' := by
  obtain ⟨v, h', e, rfl, _⟩ := g
  refine (sound31 F r n f args h _ h' e ρ w args' hs hv).mono fun x w' hx => ?_
  obtain ⟨ρ', v', rfl, hp, hv'⟩ := hx
  cases hv'
  exact ⟨rfl, PostG.under hro hp⟩
theorem ok25 : okT P31 6 25 = true := by kernel_rfl

/-- A view that came in. -/
theorem walk31 {HH : Type} {enc : TypeId × Value → HH} {held : Bool} {w : World} {cv : Array Value} {f2 : Nat} {x2 : DataW HH × List MemPlace} (F : Fit31 w)
    (h2 : DataW.trod enc P31 w 0 (fun _ => true) held f2 25 cv.toList = some x2) :
    Calls P31 3 #[.agg cv] w fun e w' => e = .returned (.bool true) ∧ RowKit.Below w.heap.size w w' := by
  obtain ⟨ρ2, m2, ac2, R2, V2, D2⟩ := read_trod (P := P31) (fun _ => rfl) 6 25 ok25 f2 _ _ _ ⟨0, .nil⟩ h2 sim_empty (fun i x hi => by simp [H.get, Tr.get_nil] at hi)
  have O2 := D2.one _ _ _
  obtain ⟨v, rfl, V, VI, hl⟩ := rd_view D2
  refine call31 F (r := 9223372036854775808) (n := 7) (h := m2) (ρ := ρ2) (args := [vwV v]) (args' := [.agg cv])
    (c_law3 (n := 0) V VI (by unfold maxLen at hl; omega) (Nat.le_refl _)) R2.sim (.cons (.agg' (xs := ⟨vwC v⟩) V2 O2) (.nil _)) R2.ro
end Go.Ev
