/-
  ScriptReports: what comes in; the builder, a step at a time; the small functions.
-/
import Derived.Test.YtofgaidlepmcmaaGreatDoorT31
namespace Go.Ev
open Go Go.Proofs

def fits (z : Int) : Prop := -9223372036854775808 ≤ z ∧ z < 9223372036854775808
abbrev wC (w : List UInt8) : List Value := [.string (txt w)]
abbrev zC (z : Int) : List Value := [.int .i64 z]
abbrev Is (h : H) (a : Option Addr) (st : Nat) (l : List Int) : Prop := Sl zC 1 h a st l

structure Kid where
  id : List UInt8
  venue : List UInt8
  side : Int
  state : Int
  qty : Int
  price : Int
  next : Int
  nprice : Int
  cum : Int
  claim : Int
def kidC (k : Kid) : List Value := [.string (txt k.id), .string (txt k.venue), .int .i64 k.side, .int .i64 k.state, .int .i64 k.qty, .int .i64 k.price, .int .i64 k.next, .int .i64 k.nprice, .int .i64 k.cum, .int .i64 k.claim]
abbrev Ks (h : H) (a : Option Addr) (st : Nat) (l : List Kid) : Prop := Sl kidC 10 h a st l
structure KidFit (k : Kid) : Prop where
  state : fits k.state
  qty : fits k.qty
  price : fits k.price
  cum : fits k.cum
  claim : fits k.claim
structure Pr where
  id : List UInt8
  acc : List UInt8
  sym : List UInt8
  side : Int
  state : Int
  algo : Int
  qty : Int
  price : Int
  start : Int
  stop : Int
  most : Int
  filled : Int
  busted : Int
  worth : Int
  claims : Int
  need : Int
  kids : List Kid
  ka : Option Addr
  kt : Nat
def prC (p : Pr) : List Value := [.string (txt p.id), .string (txt p.acc), .string (txt p.sym), .int .i64 p.side, .int .i64 p.state, .int .i64 p.algo, .int .i64 p.qty, .int .i64 p.price, .int .i64 p.start, .int .i64 p.stop, .int .i64 p.most, .int .i64 p.filled,
  .int .i64 p.busted, .int .i64 p.worth, .int .i64 p.claims, .int .i64 p.need, .slice p.ka p.kids.length p.kt]
structure PrFit (p : Pr) : Prop where
  state : fits p.state
  qty : fits p.qty
  price : fits p.price
  most : fits p.most
  filled : fits p.filled
  busted : fits p.busted
  worth : fits p.worth
  claims : fits p.claims
  need : fits p.need
  kids : ∀ k ∈ p.kids, KidFit k
structure Vw where
  now : Int
  killed : Bool
  ps : List Pr
  pa : Option Addr
  pt : Nat
  used : List Int
  ua : Option Addr
  ut : Nat
  real : List Int
  ra : Option Addr
  rt : Nat
  held : List Int
  ha : Option Addr
  ht : Nat
  faults : List Int
  fa : Option Addr
  ft : Nat
def vwC (v : Vw) : List Value := [.int .i64 v.now, .bool v.killed, .slice v.pa v.ps.length v.pt, .slice v.ua v.used.length v.ut, .slice v.ra v.real.length v.rt, .slice v.ha v.held.length v.ht, .slice v.fa v.faults.length v.ft]
def vwV (v : Vw) : Value := .agg #[.int .i64 v.now, .bool v.killed, .slice v.pa v.ps.length v.pt, .slice v.ua v.used.length v.ut, .slice v.ra v.real.length v.rt, .slice v.ha v.held.length v.ht, .slice v.fa v.faults.length v.ft]
structure VwIn (h : H) (v : Vw) : Prop where
  ps : Sl prC 17 h v.pa v.pt v.ps
  kids : ∀ p ∈ v.ps, Ks h p.ka p.kt p.kids
  used : Is h v.ua v.ut v.used
  real : Is h v.ra v.rt v.real
  held : Is h v.ha v.ht v.held
  faults : Is h v.fa v.ft v.faults
theorem VwIn.ext {h h' : H} {v : Vw} (V : VwIn h v) (E : Ext h h') : VwIn h' v := ⟨V.ps.ext E, fun p hp => (V.kids p hp).ext E, V.used.ext E, V.real.ext E, V.held.ext E, V.faults.ext E⟩
structure VwInts (v : Vw) : Prop where
  now : fits v.now
  ps : ∀ p ∈ v.ps, PrFit p
  used : ∀ z ∈ v.used, fits z
  real : ∀ z ∈ v.real, fits z
  held : ∀ z ∈ v.held, fits z
  faults : ∀ z ∈ v.faults, fits z
structure PrFew (p : Pr) : Prop where
  id : p.id.length ≤ 100
  few : p.kids.length ≤ 40
  kids : ∀ k ∈ p.kids, k.id.length ≤ 100 ∧ k.venue.length ≤ 100
structure VwFew (v : Vw) : Prop where
  ps : ∀ p ∈ v.ps, PrFew p
  few : v.ps.length ≤ 30
  fu : v.used.length ≤ 60
  ff : v.faults.length ≤ 60

theorem agg3 : aggT P31 3 = some false := by kernel_rfl
theorem agg4 : aggT P31 4 = some false := by kernel_rfl
theorem agg9 : aggT P31 9 = some false := by kernel_rfl
theorem agg22 : aggT P31 22 = some false := by kernel_rfl
theorem agg23 : aggT P31 23 = some false := by kernel_rfl
theorem agg40 : aggT P31 40 = some false := by kernel_rfl
theorem agg58 : aggT P31 58 = some false := by kernel_rfl
theorem agg85 : aggT P31 85 = some false := by kernel_rfl
theorem agg25 : aggT P31 25 = some true := by kernel_rfl
theorem agg42 : aggT P31 42 = some true := by kernel_rfl
theorem agg44 : aggT P31 44 = some true := by kernel_rfl
theorem agg60 : aggT P31 60 = some true := by kernel_rfl
theorem agg87 : aggT P31 87 = some true := by kernel_rfl
theorem agg88 : aggT P31 88 = some true := by kernel_rfl
theorem cel3 : cellsOf P31 3 = some 1 := by kernel_rfl
theorem cel9 : cellsOf P31 9 = some 1 := by kernel_rfl
theorem cel25 : cellsOf P31 25 = some 7 := by kernel_rfl
theorem cel42 : cellsOf P31 42 = some 17 := by kernel_rfl
theorem cel44 : cellsOf P31 44 = some 10 := by kernel_rfl
theorem cel60 : cellsOf P31 60 = some 7 := by kernel_rfl
theorem cel87 : cellsOf P31 87 = some 17 := by kernel_rfl
theorem cel88 : cellsOf P31 88 = some 10 := by kernel_rfl
theorem und22 : P31.underlying 22 = some (.slice 42) := by kernel_rfl
theorem und23 : P31.underlying 23 = some (.slice 3) := by kernel_rfl
theorem und40 : P31.underlying 40 = some (.slice 44) := by kernel_rfl
theorem und55 : P31.underlying 55 = some (.slice 9) := by kernel_rfl
theorem und58 : P31.underlying 58 = some (.slice 87) := by kernel_rfl
theorem und85 : P31.underlying 85 = some (.slice 88) := by kernel_rfl
theorem app55 : appOk P31 ⟨[55, 55]⟩ 1 16 = true := by kernel_rfl
theorem app58 : appOk P31 ⟨[58, 58]⟩ 17 176 = true := by kernel_rfl
theorem app85 : appOk P31 ⟨[85, 85]⟩ 10 96 = true := by kernel_rfl

/-! ### the texts -/
def stW (z : Int) : List UInt8 :=
  if z = 1 then [112, 101, 110, 100, 105, 110, 103] else if z = 2 then [110, 101, 119] else if z = 3 then [112, 97, 114, 116, 105, 97, 108] else if z = 4 then [99, 97, 110, 99, 101, 108, 105, 110, 103]
  else if z = 5 then [114, 101, 112, 108, 97, 99, 105, 110, 103] else if z = 6 then [102, 105, 108, 108, 101, 100] else if z = 7 then [99, 97, 110, 99, 101, 108, 101, 100] else if z = 8 then [114, 101, 106, 101, 99, 116, 101, 100] else []
theorem stW_len (z : Int) : (stW z).length ≤ 9 := by unfold stW; split <;> (try split) <;> (try split) <;> (try split) <;> (try split) <;> (try split) <;> (try split) <;> (try split) <;> simp
def numsT (zs : List Int) : List UInt8 := zs.flatMap fun z => 32 :: itoaL z
def rowT (s : List UInt8) (zs : List Int) : List UInt8 := s ++ numsT zs ++ [10]
def atL (l : List Int) (k : Nat) : Int := (l[k]?).getD 0
def kidT (c : Kid) : List UInt8 := rowT ([99, 104, 105, 108, 100, 32] ++ c.id ++ [32] ++ c.venue ++ [32] ++ stW c.state) [c.qty, c.price, c.cum, c.claim]
def parT (p : Pr) (hd : Int) : List UInt8 := rowT ([112, 97, 114, 101, 110, 116, 32] ++ p.id) [p.state, p.qty, p.price, p.most, p.filled, p.busted, p.worth, p.claims, p.need, hd]
def kidsT (p : Pr) (j : Nat) : List UInt8 := (p.kids.take j).flatMap kidT
def psT (v : Vw) : Nat → List UInt8
  | 0 => []
  | k + 1 => psT v k ++ (match v.ps[k]? with | some p => parT p (atL v.held k) ++ kidsT p p.kids.length | none => [])
def usT (v : Vw) : Nat → List UInt8
  | 0 => []
  | k + 1 => usT v k ++ rowT [117, 115, 101, 100] [atL v.used k, atL v.real k]
def faT (v : Vw) : Nat → List UInt8
  | 0 => []
  | k + 1 => faT v k ++ rowT [102, 97, 117, 108, 116, 115] [atL v.faults k]
def headT (v : Vw) : List UInt8 := [110, 111, 119, 32] ++ itoaL v.now ++ (if v.killed then [32, 107, 105, 108, 108, 101, 100, 10] else [10])
def reportT (v : Vw) : List UInt8 := headT v ++ psT v v.ps.length ++ usT v v.used.length ++ faT v v.faults.length

theorem itoaL_len (z : Int) : (itoaL z).length ≤ 21 := by
  unfold itoaL
  cases decide (z < 0) with
  | true => have := digs_len 20 z.natAbs; simp; omega
  | false => have := digs_len 20 z.toNat; simp; omega
theorem numsT_len : ∀ zs : List Int, (numsT zs).length ≤ 22 * zs.length := by
  intro zs
  induction zs with
  | nil => simp [numsT]
  | cons z zs ih =>
    have := itoaL_len z
    unfold numsT at ih ⊢
    rw [List.flatMap_cons, List.length_append, List.length_cons, List.length_cons]
    omega
theorem rowT_len (s : List UInt8) (zs : List Int) : (rowT s zs).length ≤ s.length + 22 * zs.length + 1 := by
  have := numsT_len zs
  unfold rowT; simp; omega
theorem rowT_ne (s : List UInt8) (zs : List Int) : rowT s zs ≠ [] := by unfold rowT; simp
theorem joined_nums : ∀ (zs : List Int) (ws : List (List UInt8)), ws ≠ [] → joined [32] (ws ++ zs.map itoaL) = joined [32] ws ++ numsT zs := by
  intro zs
  induction zs with
  | nil => intro ws _; simp [numsT]
  | cons z zs ih =>
    intro ws hne
    have := ih (ws ++ [itoaL z]) (by simp)
    rw [List.map_cons, show ws ++ itoaL z :: zs.map itoaL = (ws ++ [itoaL z]) ++ zs.map itoaL by simp, this, joined_snoc _ _ _ hne]
    simp [numsT, List.append_assoc]

section
variable {r n : Nat} {h h0 m : H}

theorem c_itoa {z : Int} (f : fits z) : ev31 r (n + 1) 12 [.int .i64 z] h = some (.string (txt (itoaL z)), h) := by
  have e : ev31 r (n + 1) 12 [.int .i64 z] h = itoaI [.int .i64 z] h := by kernel_rfl
  unfold fits at f
  rw [e, itoa_mk h (by omega) (by omega)]
theorem c_digits {z : Int} (h1 : 0 ≤ z) (h2 : z ≤ 9223372036854775807) : ev31 r (n + 1) 63 [.int .i64 z] h = some (.string (txt (digs 20 z.toNat)), h) := by
  have e : ev31 r (n + 1) 63 [.int .i64 z] h = digitsI [.int .i64 z] h := by kernel_rfl
  rw [e, digits_mk h h1 h2]
theorem c_join {a : Option Addr} {st : Nat} {ws : List (List UInt8)} (S : Sl wC 1 h a st ws) (hne : ws ≠ []) (hn : ws.length < 1000000) (hl : (joined [32] ws).length ≤ 140737488355328) :
    ev31 r (n + 1) 26 [.slice a ws.length st, .string (txt [32])] h = some (.string (txt (joined [32] ws)), h) := by
  have e : ∀ x y, ev31 r (n + 1) 26 [x, y] h = joinI [x, y] h := fun x y => by kernel_rfl
  rw [e, join_mk S hne hn hl]

/-- A number of a list, or 0. -/
theorem c_at {a : Option Addr} {st : Nat} {l : List Int} (S : Is h a st l) (k : Nat) : ev31 r (n + 1) 14 [.slice a l.length st, .int .i64 (k : Int)] h = some (.int .i64 (atL l k), h) := by
  rw [e14]
  by_cases hk : k < l.length
  · rw [decide_eq_false (by omega), cond_false]
    have hget : l[k]? = some l[k] := List.getElem?_eq_getElem hk
    obtain ⟨j, o, q1, q2⟩ := S.cell (P := P31) (f := 0) und23 cel3 agg3 hget rfl
    rw [q1]
    simp only [addrK_mk]
    rw [Nat.add_zero] at q2
    rw [q2, optK_mk, castI_mk]
    simp [atL, hget]
  · rw [decide_eq_true (by omega), cond_true]
    simp [atL, List.getElem?_eq_none (by omega : l.length ≤ k)]
theorem c_rat {a : Option Addr} {st : Nat} {l : List Int} (S : Is h a st l) (k : Nat) : ev31 r (n + 1) 29 [.slice a l.length st, .int .i64 (k : Int)] h = some (.int .i64 (atL l k), h) := by
  rw [e29]
  by_cases hk : k < l.length
  · rw [decide_eq_false (by omega), cond_false]
    have hget : l[k]? = some l[k] := List.getElem?_eq_getElem hk
    obtain ⟨j, o, q1, q2⟩ := S.cell (P := P31) (f := 0) und23 cel3 agg3 hget rfl
    rw [q1]
    simp only [addrK_mk]
    rw [Nat.add_zero] at q2
    rw [q2, optK_mk, castI_mk]
    simp [atL, hget]
  · rw [decide_eq_true (by omega), cond_true]
    simp [atL, List.getElem?_eq_none (by omega : l.length ≤ k)]
theorem atL_fits {l : List Int} (hl : ∀ z ∈ l, fits z) (k : Nat) : fits (atL l k) := by
  unfold atL
  cases hx : l[k]? with
  | none => simp [fits]
  | some x => exact hl x (List.mem_of_getElem? hx)

theorem digs_ten {m : Nat} (h : 10 ≤ m) (hm : m < 10 ^ 19) : digs 20 m = digs 20 (m / 10) ++ digs 20 (m % 10) := by
  have h1 : digs 20 m = Lib.decDigits m := digs_eq 20 m (by omega) (by omega)
  have h2 : digs 20 (m / 10) = Lib.decDigits (m / 10) := digs_eq 20 _ (by omega) (by omega)
  have h3 : digs 20 (m % 10) = Lib.decDigits (m % 10) := digs_eq 20 _ (by omega) (by omega)
  rw [h1, h2, h3, Lib.decDigits.eq_def m, dif_neg (by omega), Lib.decDigits.eq_def (m % 10), dif_pos (by omega)]
theorem txt_app (a b : List UInt8) : txt a ++ txt b = txt (a ++ b) := by simp [txt, ByteArray.ext_iff]

/-- A number, by the reference. -/
theorem c_number {z : Int} (f : fits z) : ev31 r (n + 2) 27 [.int .i64 z] h = some (.string (txt (itoaL z)), h) := by
  unfold fits at f
  rw [e27]
  by_cases h0 : z ≥ 0
  · rw [decide_eq_true h0, cond_true, callK_mk (c_digits (by omega) (by omega)), castS_mk]
    rw [itoaL_nat (by omega)]
  · rw [decide_eq_false h0, cond_false]
    obtain ⟨m, rfl⟩ : ∃ m : Nat, z = -((m : Nat) : Int) := ⟨z.natAbs, by omega⟩
    have hneg : (-(m : Int)) < 0 := by omega
    have hI : itoaL (-(m : Int)) = 45 :: digs 20 m := by
      unfold itoaL
      rw [decide_eq_true hneg, cond_true]
      simp
    have q1 : (-(m : Int)).tdiv 10 = -((m / 10 : Nat) : Int) := by
      rw [Int.neg_tdiv, Int.tdiv_eq_ediv_of_nonneg (by omega)]; omega
    have q2 : (-(m : Int)).tmod 10 = -((m % 10 : Nat) : Int) := by
      rw [Int.neg_tmod, Int.tmod_eq_emod_of_nonneg (by omega)]; omega
    rw [q1, q2, hI]
    have w1 : IntKind.i64.wrap (-((m / 10 : Nat) : Int)) = -((m / 10 : Nat) : Int) := wrap_id (by omega) (by omega)
    have w2 : IntKind.i64.wrap (0 - -((m % 10 : Nat) : Int)) = ((m % 10 : Nat) : Int) := by rw [wrap_id (by omega) (by omega)]; omega
    have w3 : IntKind.i64.wrap (0 - -((m / 10 : Nat) : Int)) = ((m / 10 : Nat) : Int) := by rw [wrap_id (by omega) (by omega)]; omega
    rw [w1, w2, w3]
    have d1 := digs_len 20 (m / 10)
    have d2 := digs_len 20 (m % 10)
    by_cases h10 : m < 10
    · have hq : (-((m / 10 : Nat) : Int) == 0) = true := by
        have : m / 10 = 0 := by omega
        rw [this]; rfl
      rw [hq, cond_true, callK_mk (c_digits (by omega) (by omega)), castS_mk, ifK_pos (by rw [txt_size]; simp only [Int.toNat_natCast]; omega), Int.toNat_natCast]
      have hm : m % 10 = m := by omega
      rw [hm]
      show some (Value.string (txt [45] ++ txt (digs 20 m)), h) = _
      rw [txt_app]; rfl
    · have hq : (-((m / 10 : Nat) : Int) == 0) = false := by
        simp only [beq_eq_false_iff_ne]
        omega
      rw [hq, cond_false, callK_mk (c_digits (by omega) (by omega)), castS_mk, ifK_pos (by rw [txt_size]; simp only [Int.toNat_natCast]; omega), callK_mk (c_digits (by omega) (by omega)), castS_mk]
      simp only [Int.toNat_natCast]
      have e1 : ({ data := #[45] } : ByteArray) ++ txt (digs 20 (m / 10)) = txt (45 :: digs 20 (m / 10)) := by
        show txt [45] ++ txt (digs 20 (m / 10)) = _
        rw [txt_app]; rfl
      rw [ifK_pos (by rw [e1, txt_size, txt_size]; simp; omega), e1, txt_app, digs_ten (m := m) (by omega) (by omega)]
      rfl
end
end Go.Ev
