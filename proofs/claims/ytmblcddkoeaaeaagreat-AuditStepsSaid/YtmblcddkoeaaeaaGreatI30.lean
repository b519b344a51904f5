/-
  Audit: a setup, a view, their parents and children, in memory.
-/
import Derived.Test.YtmblcddkoeaaeaaGreatH30
import Derived.Test.YtmblcddkoeaaeaaGreatEvU
namespace Go.Ev
open Go Go.Proofs

/-! ### what there is -/
abbrev Ac := List UInt8 × Int
def acC (x : Ac) : List Value := [.string (txt x.1), .int .i64 x.2]
structure Sy where
  name : ByteArray
  lot : Int
  tick : Int
  mid : Int
  width : Int
  most : Int
  worth : Int
def syC (x : Sy) : List Value := [.string x.name, .int .i64 x.lot, .int .i64 x.tick, .int .i64 x.mid, .int .i64 x.width, .int .i64 x.most, .int .i64 x.worth]
structure Ve where
  name : ByteArray
  lot : Int
  shown : Int
  z3 : Int
  repl : Bool
def veC (x : Ve) : List Value := [.string x.name, .int .i64 x.lot, .int .i64 x.shown, .int .i64 x.z3, .bool x.repl]
structure Su where
  ac : List Ac
  aa : Option Addr
  at' : Nat
  sy : List Sy
  sa : Option Addr
  st : Nat
  ve : List Ve
  va : Option Addr
  vt : Nat
  z3 : Int
  z4 : Int
  z5 : Int
  z6 : Int
  z7 : Int
  z8 : Int
def suC (s : Su) : List Value := [.slice s.aa s.ac.length s.at', .slice s.sa s.sy.length s.st, .slice s.va s.ve.length s.vt, .int .i64 s.z3, .int .i64 s.z4, .int .i64 s.z5, .int .i64 s.z6, .int .i64 s.z7, .int .i64 s.z8]
def suV (s : Su) : Value := .agg #[.slice s.aa s.ac.length s.at', .slice s.sa s.sy.length s.st, .slice s.va s.ve.length s.vt, .int .i64 s.z3, .int .i64 s.z4, .int .i64 s.z5, .int .i64 s.z6, .int .i64 s.z7, .int .i64 s.z8]
structure SuIn (h : H) (s : Su) : Prop where
  ac : Sl acC 2 h s.aa s.at' s.ac
  sy : Sl syC 7 h s.sa s.st s.sy
  ve : Sl veC 5 h s.va s.vt s.ve
theorem SuIn.ext {h h' : H} {s : Su} (S : SuIn h s) (E : Ext h h') : SuIn h' s := ⟨S.ac.ext E, S.sy.ext E, S.ve.ext E⟩
structure SuFew (s : Su) : Prop where
  ac : s.ac.length ≤ 20
  sy : s.sy.length ≤ 20
  ve : s.ve.length ≤ 20

structure Pr where
  id : ByteArray
  acc : List UInt8
  sym : ByteArray
  side : Int
  state : Int
  algo : Int
  qty : Int
  price : Int
  start : Int
  stop : Int
  most : Int
  filled : Int
  busted : Int
  worth : Int
  claims : Int
  need : Int
  kids : List Kid
  ka : Option Addr
  kt : Nat
def prC (p : Pr) : List Value := [.string p.id, .string (txt p.acc), .string p.sym, .int .i64 p.side, .int .i64 p.state, .int .i64 p.algo, .int .i64 p.qty, .int .i64 p.price, .int .i64 p.start, .int .i64 p.stop, .int .i64 p.most, .int .i64 p.filled,
  .int .i64 p.busted, .int .i64 p.worth, .int .i64 p.claims, .int .i64 p.need, .slice p.ka p.kids.length p.kt]
def prV (p : Pr) : Value := .agg #[.string p.id, .string (txt p.acc), .string p.sym, .int .i64 p.side, .int .i64 p.state, .int .i64 p.algo, .int .i64 p.qty, .int .i64 p.price, .int .i64 p.start, .int .i64 p.stop, .int .i64 p.most, .int .i64 p.filled,
  .int .i64 p.busted, .int .i64 p.worth, .int .i64 p.claims, .int .i64 p.need, .slice p.ka p.kids.length p.kt]
abbrev Ks (h : H) (a : Option Addr) (st : Nat) (l : List Kid) : Prop := Sl kidC 10 h a st l
structure Vw where
  now : Int
  killed : Bool
  ps : List Pr
  pa : Option Addr
  pt : Nat
  used : List Int
  ua : Option Addr
  ut : Nat
  real : List Int
  ra : Option Addr
  rt : Nat
  held : List Int
  ha : Option Addr
  ht : Nat
  faults : List Int
  fa : Option Addr
  ft : Nat
def vwC (v : Vw) : List Value := [.int .i64 v.now, .bool v.killed, .slice v.pa v.ps.length v.pt, .slice v.ua v.used.length v.ut, .slice v.ra v.real.length v.rt, .slice v.ha v.held.length v.ht, .slice v.fa v.faults.length v.ft]
def vwV (v : Vw) : Value := .agg #[.int .i64 v.now, .bool v.killed, .slice v.pa v.ps.length v.pt, .slice v.ua v.used.length v.ut, .slice v.ra v.real.length v.rt, .slice v.ha v.held.length v.ht, .slice v.fa v.faults.length v.ft]
def stV (s : Su) (v : Vw) : Value := .agg #[.slice s.aa s.ac.length s.at', .slice s.sa s.sy.length s.st, .slice s.va s.ve.length s.vt, .int .i64 s.z3, .int .i64 s.z4, .int .i64 s.z5, .int .i64 s.z6, .int .i64 s.z7, .int .i64 s.z8,
  .int .i64 v.now, .bool v.killed, .slice v.pa v.ps.length v.pt, .slice v.ua v.used.length v.ut, .slice v.ra v.real.length v.rt, .slice v.ha v.held.length v.ht, .slice v.fa v.faults.length v.ft]
structure VwIn (h : H) (v : Vw) : Prop where
  ps : Sl prC 17 h v.pa v.pt v.ps
  kids : ∀ p ∈ v.ps, Ks h p.ka p.kt p.kids
  used : Is h v.ua v.ut v.used
  real : Is h v.ra v.rt v.real
  held : Is h v.ha v.ht v.held
  faults : Is h v.fa v.ft v.faults
theorem VwIn.ext {h h' : H} {v : Vw} (V : VwIn h v) (E : Ext h h') : VwIn h' v := ⟨V.ps.ext E, fun p hp => (V.kids p hp).ext E, V.used.ext E, V.real.ext E, V.held.ext E, V.faults.ext E⟩
structure PrFit (p : Pr) : Prop where
  filled : fits p.filled
  busted : fits p.busted
  claims : fits p.claims
  worth : fits p.worth
  most : fits p.most
  kids : ∀ k ∈ p.kids, kidFits k
  few : p.kids.length ≤ 60
structure VwFit (v : Vw) : Prop where
  ps : ∀ p ∈ v.ps, PrFit p
  real : ∀ z ∈ v.real, fits z
  held : ∀ z ∈ v.held, fits z
  few : v.ps.length ≤ 40
  fu : v.used.length ≤ 60
  fr : v.real.length ≤ 60
  fh : v.held.length ≤ 60
  ff : v.faults.length ≤ 60

theorem agg4 : aggT P30 4 = some false := by kernel_rfl
theorem agg22 : aggT P30 22 = some false := by kernel_rfl
theorem agg23 : aggT P30 23 = some false := by kernel_rfl
theorem agg24 : aggT P30 24 = some false := by kernel_rfl
theorem agg27 : aggT P30 27 = some false := by kernel_rfl
theorem agg28 : aggT P30 28 = some false := by kernel_rfl
theorem agg63 : aggT P30 63 = some false := by kernel_rfl
theorem agg26 : aggT P30 26 = some true := by kernel_rfl
theorem agg30 : aggT P30 30 = some true := by kernel_rfl
theorem agg58 : aggT P30 58 = some true := by kernel_rfl
theorem agg65 : aggT P30 65 = some true := by kernel_rfl
theorem agg68 : aggT P30 68 = some true := by kernel_rfl
theorem agg81 : aggT P30 81 = some true := by kernel_rfl
theorem cel26 : cellsOf P30 26 = some 9 := by kernel_rfl
theorem cel30 : cellsOf P30 30 = some 7 := by kernel_rfl
theorem cel58 : cellsOf P30 58 = some 2 := by kernel_rfl
theorem cel65 : cellsOf P30 65 = some 17 := by kernel_rfl
theorem cel68 : cellsOf P30 68 = some 16 := by kernel_rfl
theorem cel81 : cellsOf P30 81 = some 10 := by kernel_rfl
theorem und22 : P30.underlying 22 = some (.slice 58) := by kernel_rfl
theorem und27 : P30.underlying 27 = some (.slice 65) := by kernel_rfl
theorem und63 : P30.underlying 63 = some (.slice 81) := by kernel_rfl

section
variable {r n : Nat} {h m m' : H} {i : Nat} {s : Su} {v : Vw} {p : Pr} {c : Kid} {ro : Bool}
/-- A setup and a view, one behind the other, in a row. -/
structure StillAt (m : H) (i : Nat) (s : Su) (v : Vw) : Prop where
  has : Has m i (.cells (suC s ++ vwC v) false)
theorem StillAt.ext (A : StillAt m i s v) (E : Ext m m') : StillAt m' i s v := ⟨A.has.ext E⟩
theorem StillAt.put (A : StillAt m i s v) {j : Nat} (hne : i ≠ j) (b : Blk) : StillAt (m.put j b) i s v := ⟨A.has.put hne b⟩
theorem StillAt.l0 (A : StillAt m i s v) : ldV P30 22 i 0 m = some (.slice s.aa s.ac.length s.at') := ld_at agg22 A.has
theorem StillAt.l2 (A : StillAt m i s v) : ldV P30 24 i 2 m = some (.slice s.va s.ve.length s.vt) := ld_at agg24 A.has
theorem StillAt.l3 (A : StillAt m i s v) : ldV P30 3 i 3 m = some (.int .i64 s.z3) := ld_at agg3 A.has
theorem StillAt.l9 (A : StillAt m i s v) : ldV P30 3 i 9 m = some (.int .i64 v.now) := ld_at agg3 A.has
theorem StillAt.l11 (A : StillAt m i s v) : ldV P30 27 i 11 m = some (.slice v.pa v.ps.length v.pt) := ld_at agg27 A.has
theorem StillAt.l12 (A : StillAt m i s v) : ldV P30 28 i 12 m = some (.slice v.ua v.used.length v.ut) := ld_at agg28 A.has
theorem StillAt.l13 (A : StillAt m i s v) : ldV P30 28 i 13 m = some (.slice v.ra v.real.length v.rt) := ld_at agg28 A.has
theorem StillAt.l14 (A : StillAt m i s v) : ldV P30 28 i 14 m = some (.slice v.ha v.held.length v.ht) := ld_at agg28 A.has
theorem StillAt.whole (A : StillAt m i s v) : ldV P30 68 i 0 m = some (stV s v) := by rw [ld_agg agg68 cel68 A.has (by simp [suC, vwC])]; rfl
theorem StillAt.setup (A : StillAt m i s v) : ldV P30 26 i 0 m = some (suV s) := by rw [ld_agg agg26 cel26 A.has (by simp [suC, vwC])]; rfl
theorem StillAt.view (A : StillAt m i s v) : ldV P30 30 i 9 m = some (vwV v) := by rw [ld_agg agg30 cel30 A.has (by simp [suC, vwC])]; rfl

/-- A parent's row. -/
structure PrAt (m : H) (i : Nat) (p : Pr) : Prop where
  has : Has m i (.cells (prC p) false)
theorem PrAt.ext (A : PrAt m i p) (E : Ext m m') : PrAt m' i p := ⟨A.has.ext E⟩
theorem PrAt.l0 (A : PrAt m i p) : ldV P30 9 i 0 m = some (.string p.id) := ld_at agg9 A.has
theorem PrAt.l1 (A : PrAt m i p) : ldV P30 9 i 1 m = some (.string (txt p.acc)) := ld_at agg9 A.has
theorem PrAt.l2 (A : PrAt m i p) : ldV P30 9 i 2 m = some (.string p.sym) := ld_at agg9 A.has
theorem PrAt.l3 (A : PrAt m i p) : ldV P30 3 i 3 m = some (.int .i64 p.side) := ld_at agg3 A.has
theorem PrAt.l4 (A : PrAt m i p) : ldV P30 3 i 4 m = some (.int .i64 p.state) := ld_at agg3 A.has
theorem PrAt.l5 (A : PrAt m i p) : ldV P30 3 i 5 m = some (.int .i64 p.algo) := ld_at agg3 A.has
theorem PrAt.l6 (A : PrAt m i p) : ldV P30 3 i 6 m = some (.int .i64 p.qty) := ld_at agg3 A.has
theorem PrAt.l7 (A : PrAt m i p) : ldV P30 3 i 7 m = some (.int .i64 p.price) := ld_at agg3 A.has
theorem PrAt.l8 (A : PrAt m i p) : ldV P30 3 i 8 m = some (.int .i64 p.start) := ld_at agg3 A.has
theorem PrAt.l9 (A : PrAt m i p) : ldV P30 3 i 9 m = some (.int .i64 p.stop) := ld_at agg3 A.has
theorem PrAt.l10 (A : PrAt m i p) : ldV P30 3 i 10 m = some (.int .i64 p.most) := ld_at agg3 A.has
theorem PrAt.l11 (A : PrAt m i p) : ldV P30 3 i 11 m = some (.int .i64 p.filled) := ld_at agg3 A.has
theorem PrAt.l12 (A : PrAt m i p) : ldV P30 3 i 12 m = some (.int .i64 p.busted) := ld_at agg3 A.has
theorem PrAt.l13 (A : PrAt m i p) : ldV P30 3 i 13 m = some (.int .i64 p.worth) := ld_at agg3 A.has
theorem PrAt.l14 (A : PrAt m i p) : ldV P30 3 i 14 m = some (.int .i64 p.claims) := ld_at agg3 A.has
theorem PrAt.l15 (A : PrAt m i p) : ldV P30 3 i 15 m = some (.int .i64 p.need) := ld_at agg3 A.has
theorem PrAt.l16 (A : PrAt m i p) : ldV P30 63 i 16 m = some (.slice p.ka p.kids.length p.kt) := ld_at agg63 A.has

/-- A child's row. -/
structure KidAt (m : H) (i : Nat) (c : Kid) : Prop where
  has : Has m i (.cells (kidC c) false)
theorem KidAt.ext (A : KidAt m i c) (E : Ext m m') : KidAt m' i c := ⟨A.has.ext E⟩
theorem KidAt.l8 (A : KidAt m i c) : ldV P30 3 i 8 m = some (.int .i64 c.cum) := ld_at agg3 A.has
theorem KidAt.l9 (A : KidAt m i c) : ldV P30 3 i 9 m = some (.int .i64 c.claim) := ld_at agg3 A.has
theorem KidAt.whole (A : KidAt m i c) : ldV P30 81 i 0 m = some (.agg ⟨kidC c⟩) := by rw [ld_agg agg81 cel81 A.has (by simp [kidC])]; rfl

theorem Is.of {l : List Int} {j : Nat} (H : Has m j (.cells (l.map (Value.int .i64)) ro)) : Is m (some ⟨j, 0, none⟩) 1 l :=
  .inr ⟨rfl, j, 0, rfl, fun i x hx => ⟨_, _, H, fun f y hy => by
    cases f with
    | zero =>
      simp at hy; subst hy
      simp [hx]
    | succ f => simp at hy⟩⟩

/-! ### an account's place -/
def placeIn (s : Su) (w : List UInt8) : Int := placeOf w (s.ac.map (·.1))
theorem placeF_range {w : List UInt8} : ∀ (l : List (List UInt8)) (k : Nat), placeF w k l = -1 ∨ ((k : Int) ≤ placeF w k l ∧ placeF w k l < (k : Int) + l.length) := by
  intro l
  induction l with
  | nil => intro k; exact .inl rfl
  | cons x l ih =>
    intro k
    rw [placeF]
    split
    · exact .inr ⟨by omega, by simp; omega⟩
    · rcases ih (k + 1) with h1 | h1
      · exact .inl h1
      · refine .inr ⟨by omega, ?_⟩
        simp only [List.length_cons]; omega

theorem c_place {w : List UInt8} (S : SuIn h s) (F : SuFew s) (hr : 1000000 ≤ r) : Gives (ev30 r (n + 2) 53 [suV s, .string (txt w)] h) fun y h' => y = .int .i64 (placeIn s w) ∧ Ext h h' := by
  unfold suV
  rw [e53]
  obtain ⟨m, hm, E, HX⟩ := new_row h (suC s)
  have l0 : ldV P30 22 h.next 0 m = some (.slice s.aa s.ac.length s.at') := ld_at agg22 HX
  unfold suC at hm
  rw [hm]
  have S' := S.ac.ext E
  have hlen : (s.ac.map (·.1)).length = s.ac.length := by simp
  have F1 := F.ac
  refine Gives.jump (Q := fun x env hh => x = .ret ∧ env = E53_r (.int .i64 (placeIn s w)) ∧ Ext h hh) ?_ ?_
  · rw [e53_3c, l0, optK_mk, castSl_mk]
    refine GivesX.loop (fun k env hh => env = E53_0 (.string (txt w)) (.slice s.aa s.ac.length s.at') (.int .i64 (s.ac.length : Int)) (.int .i64 (k : Int)) ∧ Ext m hh ∧ placeIn s w = placeF w k ((s.ac.map (·.1)).drop k)) s.ac.length
      (fun x env hh => Ext m hh ∧ ((x = .exit 0 ∧ env = E53_2 ∧ placeIn s w = -1) ∨ (x = .ret ∧ env = E53_r (.int .i64 (placeIn s w)))))
      (fun k env hh hk hI => ?_) ⟨rfl, .refl _, rfl⟩ (by omega) ?_
    · obtain ⟨rfl, E1, hp⟩ := hI
      by_cases hg : k < s.ac.length
      · have hget : s.ac[k]? = some s.ac[k] := List.getElem?_eq_getElem hg
        generalize s.ac[k] = x at hget
        have hget' : (s.ac.map (·.1))[k]? = some x.1 := by rw [List.getElem?_map, hget]; rfl
        have hs := placeF_step (name := w) hget'
        obtain ⟨m2, hm2, E2, H2⟩ := new_row hh (acC x)
        have l1 : ldV P30 9 hh.next 0 m2 = some (.string (txt x.1)) := ld_at agg9 H2
        have key : ∀ {R : Type} (nx : Env → H → Option R) (K : Exit → Env → H → Option R), evCode P30 (ev30 r (n)) (jmp30 r n 53) (dead30 53) r 0 (pc [1, 0, 1, 0, 0] (bd Tryz.f53)) (E53_0 (.string (txt w)) (.slice s.aa s.ac.length s.at') (.int .i64 (s.ac.length : Int)) (.int .i64 (k : Int))) hh (loopK nx (dead30 53 (4 * 0)) (dead30 53 (4 * 0 + 2)) (dead30 53 1000002) K) =
            bif x.1 == w then K .ret (E53_r (.int .i64 (k : Int))) m2 else nx (E53_0 (.string (txt w)) (.slice s.aa s.ac.length s.at') (.int .i64 (s.ac.length : Int)) (.int .i64 ((k + 1 : Nat) : Int))) m2 := by
          intro R nx K
          rw [e53_0, decide_eq_true (by omega), cond_true, (S'.ext E1).row und22 cel58 agg58 (by omega) hget rfl rfl, hm2, l1, optK_mk, castS_mk, txt_toList, txt_toList, wrap_succ (by omega)]
        by_cases hx : x.1 = w
        · refine ⟨.off .ret _ _, fun nx K => ?_, E1.trans E2, .inr ⟨rfl, rfl⟩⟩
          rw [key, beq_iff_eq.2 hx, cond_true, hp, hs, if_pos hx]; rfl
        · refine ⟨.on _ _, fun nx K => ?_, hg, rfl, E1.trans E2, by rw [hp, hs, if_neg hx]⟩
          rw [key, beq_eq_false_iff_ne.2 hx, cond_false]; rfl
      · have hkk : k = s.ac.length := by omega
        refine ⟨.off (.exit 0) _ _, fun nx K => ?_, E1, .inl ⟨rfl, rfl, ?_⟩⟩
        · rw [e53_0, decide_eq_false (by omega), cond_false]; rfl
        · rw [hp, hkk, List.drop_of_length_le (by omega)]; rfl
    · rintro x env h' ⟨E1, ⟨rfl, rfl, hv⟩ | ⟨rfl, rfl⟩⟩
      · rw [e53_0x0, hv]; exact .mk ⟨rfl, rfl, E.trans E1⟩
      · rw [e53_0r]; exact .mk ⟨rfl, rfl, E.trans E1⟩
  · rintro x env h' ⟨rfl, rfl, E⟩
    rw [e53_3r]; exact .mk ⟨rfl, E⟩
end
end Go.Ev
