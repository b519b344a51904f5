/-
  PhaseReads: words, days, what is right of a day.
-/
import Derived.Test.YtopplgmooidhhaaDoorR37
namespace Go.Ev
open Go Go.Proofs

theorem und22 : P37.underlying 22 = some (.slice 47) := by kernel_rfl
theorem und27 : P37.underlying 27 = some (.slice 52) := by kernel_rfl
theorem und44 : P37.underlying 44 = some (.slice 9) := by kernel_rfl
theorem und9 : P37.underlying 9 = some .string := by kernel_rfl
theorem cel47 : cellsOf P37 47 = some 2 := by kernel_rfl
theorem cel52 : cellsOf P37 52 = some 2 := by kernel_rfl
theorem cel9 : cellsOf P37 9 = some 1 := by kernel_rfl
theorem agg47 : aggT P37 47 = some true := by kernel_rfl
theorem agg52 : aggT P37 52 = some true := by kernel_rfl
theorem agg3 : aggT P37 3 = some false := by kernel_rfl
theorem agg9 : aggT P37 9 = some false := by kernel_rfl
theorem app22 : appOk P37 ⟨[22, 22]⟩ 2 16 = true := by kernel_rfl
theorem app27 : appOk P37 ⟨[27, 27]⟩ 2 16 = true := by kernel_rfl
theorem app44 : appOk P37 ⟨[44, 44]⟩ 1 16 = true := by kernel_rfl
theorem neq52 {R : Type} (a b c d : Int) (K : Value → Option R) : binA P37 BinOp.neq 52 (Operand.tmp 20) (Operand.tmp 24) (.agg #[.int .i64 a, .int .i64 b]) (.agg #[.int .i64 c, .int .i64 d]) K
   = K (.bool (!(a == c && b == d))) := by
  have e : binA P37 BinOp.neq 52 (Operand.tmp 20) (Operand.tmp 24) (.agg #[.int .i64 a, .int .i64 b]) (.agg #[.int .i64 c, .int .i64 d]) K
   = plK (pureSem P37 (do let e ← Op.equalIn (9999 + 1) 52 (.agg #[.int .i64 a, .int .i64 b]) (.agg #[.int .i64 c, .int .i64 d]); pure (.bool (!e)))) K := by kernel_rfl
  have hfs : (P37.fieldsOf 52).toList = [(P37.fieldsOf 52)[0]!, (P37.fieldsOf 52)[1]!] := by kernel_rfl
  rw [e, pureSem_bind, pure_equal_struct (fs := P37.fieldsOf 52) _ _ _ (by kernel_rfl) (by kernel_rfl), hfs,
    pure_eqf_cons (a := .int .i64 a) (b := .int .i64 c) (r := a == c) (s := (b == d) && true) (by kernel_rfl) (by kernel_rfl) (by kernel_rfl) (by kernel_rfl)
      (pure_eqf_cons (a := .int .i64 b) (b := .int .i64 d) (by kernel_rfl) (by kernel_rfl) (by kernel_rfl) (by kernel_rfl) (pure_eqf_nil _ _ _))]
  cases a == c <;> cases b == d <;> rfl

/-- A phase: where it begins, and its kind. -/
abbrev Ph := Int × Int
def phC (p : Ph) : List Value := [.int .i64 p.1, .int .i64 p.2]
abbrev Ds (h : H) (a : Option Addr) (st : Nat) (d : List Ph) : Prop := Sl phC 2 h a st d
abbrev DsA (h0 h : H) (a : Option Addr) (st : Nat) (d : List Ph) : Prop := Acc phC 2 h0 h a st d
theorem phC_len (p : Ph) : (phC p).length = 2 := rfl

/-! ### words -/

def kindAt (k : Nat) (b : UInt8) : Nat :=
  if b.toNat = 99 ∧ 1 ≤ k then 1 else if b.toNat = 111 ∧ 2 ≤ k then 2 else if b.toNat = 116 ∧ 3 ≤ k then 3 else if b.toNat = 101 ∧ 4 ≤ k then 4 else 0
/-- A letter's kind. -/
def letter (b : UInt8) : Nat := kindAt 4 b
def wordOf : List UInt8 → Option Ph
  | [] => none
  | b :: l => if letter b = 0 then none else match numOf l with
    | some m => some ((m : Int), (letter b : Int))
    | none => none
theorem letters_get {k : Nat} (hk : k < 4) : ∃ c : UInt8, [99, 111, 116, 101][k]? = some c ∧ c.toNat < 128 ∧ ∀ b : UInt8, kindAt (k + 1) b = if b.toNat = c.toNat then k + 1 else kindAt k b := by
  have h4 : k = 0 ∨ k = 1 ∨ k = 2 ∨ k = 3 := by omega
  rcases h4 with rfl | rfl | rfl | rfl
  · exact ⟨99, rfl, by decide, fun b => by
      have : (99 : UInt8).toNat = 99 := rfl
      rw [this]; unfold kindAt; split <;> simp_all⟩
  · exact ⟨111, rfl, by decide, fun b => by
      have : (111 : UInt8).toNat = 111 := rfl
      rw [this]; unfold kindAt; split <;> simp_all⟩
  · exact ⟨116, rfl, by decide, fun b => by
      have : (116 : UInt8).toNat = 116 := rfl
      rw [this]; unfold kindAt; repeat' split
      all_goals first | rfl | omega⟩
  · exact ⟨101, rfl, by decide, fun b => by
      have : (101 : UInt8).toNat = 101 := rfl
      rw [this]; unfold kindAt; repeat' split
      all_goals first | rfl | omega⟩

theorem wrap32 {k : Nat} (hk : k < 256) : IntKind.i32.wrap (k : Int) = (k : Int) := by
  unfold IntKind.wrap
  have q1 : IntKind.i32.bits = 32 := rfl
  have q2 : IntKind.i32.signed = true := rfl
  rw [q1, q2]
  simp only [Bool.true_and]
  split <;> simp_all <;> omega
theorem byte_lt (b : UInt8) : b.toNat < 256 := b.toNat_lt

section
variable {r n : Nat} {h : H}

theorem c_word {l : List UInt8} (hl : l.length < 1000000) (hr : 1000000 ≤ r) : Gives (ev37 r (n + 4) 17 [.string (txt l)] h) fun v h' => Ext h h' ∧ ∃ (p : Ph) (ok : Bool),
    v = .tuple ⟨[.agg #[.int .i64 p.1, .int .i64 p.2], .bool ok]⟩ ∧ match wordOf l with | some q => ok = true ∧ p = q | none => ok = false := by
  rw [e17, txt_toList, txt_toList]
  cases l with
  | nil =>
    have e1 : (([] : List UInt8) == ([] : List UInt8)) = true := rfl
    rw [e1, cond_true, st_new rfl, optK_mk, ld_agg agg47 cel47 (Has.here _ _) (by simp), optK_mk]
    exact .mk ⟨(Ext.refl h).new _, (0, 0), false, rfl, rfl⟩
  | cons b l =>
    have e1 : ((b :: l) == ([] : List UInt8)) = false := rfl
    rw [e1, cond_false]
    have e2 : ∀ (R : Type) (K : Int → Option R), idxS (txt (b :: l)) 0 K = K (b.toNat : Int) := fun R K => idx_mk (k := 0) (l := b :: l) rfl K
    refine Gives.loop (fun k env hh => env = E17_0 (.string (txt (b :: l))) (.pointer (some ⟨h.next, 0, none⟩)) (.int .i64 ((kindAt k b : Nat) : Int)) (.pointer (some ⟨h.next + 1, 0, none⟩)) ∧ Ext h hh ∧ k ≤ 4 ∧
        Has hh h.next (.cells [.int .i64 0, .int .i64 0] false) ∧ Has hh (h.next + 1) (.iter (txt [99, 111, 116, 101]) k)) 4
      (fun x env hh => x = .exit 0 ∧ env = E17_2 (.string (txt (b :: l))) (.pointer (some ⟨h.next, 0, none⟩)) (.int .i64 ((letter b : Nat) : Int)) ∧ Ext h hh ∧ Has hh h.next (.cells [.int .i64 0, .int .i64 0] false))
      (fun k env hh hk hI => ?_) ⟨?_, ((Ext.refl h).new _).new _, by omega, (Has.here _ _).new _, Has.here (h.new _) _⟩ (by omega) ?_
    · obtain ⟨rfl, E, hk, H1, H2⟩ := hI
      by_cases hg : k < 4
      · obtain ⟨c, hc, hc1, hkind⟩ := letters_get hg
        have hdec := decode_low hc hc1
        refine ⟨.on _ (hh.put (h.next + 1) (.iter (txt [99, 111, 116, 101]) (k + 1))), fun nx K => ?_, hg, rfl, E.put (by omega) _, by omega, H1.put (by omega) _, H2.over _⟩
        rw [e17_0, next_mk H2, if_pos (show k < ([99, 111, 116, 101] : List UInt8).length from hg), hdec]
        simp only
        rw [e2, wrap32 (byte_lt b), hkind b]
        by_cases hbc : b.toNat = c.toNat
        · have e3 : (((b.toNat : Nat) : Int) == ((c.toNat : Nat) : Int)) = true := by simp [hbc]
          rw [e3, cond_true, if_pos hbc, wrap_succ (by omega)]; rfl
        · have e3 : (((b.toNat : Nat) : Int) == ((c.toNat : Nat) : Int)) = false := by simp; omega
          rw [e3, cond_false, if_neg hbc]; rfl
      · have hk4 : k = 4 := by omega
        refine ⟨.off (.exit 0) _ _, fun nx K => ?_, rfl, rfl, E, H1⟩
        rw [e17_0, next_mk H2, if_neg (by simpa using hg), hk4]; rfl
    · have : kindAt 0 b = 0 := by unfold kindAt; repeat' split
                                  all_goals omega
      rw [this]; rfl
    · rintro x env h' ⟨rfl, rfl, E, H1⟩
      obtain ⟨v, h1, q1, rfl, E1⟩ := c_number (r := r) (n := n) (h := h') (l := l) (by simp at hl; omega) hr
      have H1' := H1.ext E1
      rw [e17_0x0]
      have e5 : ∀ {R : Type} (K : Value → Option R), sliceA P37 9 (.string (txt (b :: l))) (some (.int .i64 1)) none K = K (.string (txt l)) := fun K => slice_txt_from (P := P37) und9 (l := b :: l) (a := 1) .i64 (by simp) K
      rw [e5, castS_mk, callK_mk q1]
      have fin : ∀ (m : Int) (ok : Bool), Gives (optK (stCells h1 h.next 0 [.int .i64 m, .int .i64 ((letter b : Nat) : Int)]) fun h12 => optK (ldV P37 47 h.next 0 h12) fun v13 => some (Value.tuple { toList := [v13, Value.bool ok] }, h12))
          fun v h' => Ext h h' ∧ v = .tuple ⟨[.agg #[.int .i64 m, .int .i64 ((letter b : Nat) : Int)], .bool ok]⟩ := by
        intro m ok
        rw [st_all (vs := [.int .i64 m, .int .i64 ((letter b : Nat) : Int)]) H1' rfl, optK_mk, ld_agg agg47 cel47 (H1'.over _) (by simp), optK_mk]
        exact .mk ⟨(E.trans E1).put (Nat.le_refl _) _, rfl⟩
      have rest : ∀ (m e : Int), (match wordOf (b :: l) with | some q => (decide (letter b = 0) = false ∧ e = 0 ∧ ((m, ((letter b : Nat) : Int)) : Ph) = q) | none => (letter b = 0 ∨ e ≠ 0)) → Gives (bif decide (((letter b : Nat) : Int) > 0) then
            optK (stCells h1 h.next 0 [.int .i64 m, .int .i64 ((letter b : Nat) : Int)]) fun h12 => optK (ldV P37 47 h.next 0 h12) fun v13 => some (Value.tuple { toList := [v13, Value.bool (e == 0)] }, h12)
          else optK (stCells h1 h.next 0 [.int .i64 m, .int .i64 ((letter b : Nat) : Int)]) fun h12 => optK (ldV P37 47 h.next 0 h12) fun v13 => some (Value.tuple { toList := [v13, Value.bool false] }, h12))
          fun v h' => Ext h h' ∧ ∃ (p : Ph) (ok : Bool), v = .tuple ⟨[.agg #[.int .i64 p.1, .int .i64 p.2], .bool ok]⟩ ∧ match wordOf (b :: l) with | some q => ok = true ∧ p = q | none => ok = false := by
        intro m e hm
        by_cases h0 : letter b = 0
        · rw [decide_eq_false (by omega), cond_false]
          refine (fin m false).mono fun v h' ⟨E', hv⟩ => ⟨E', (m, _), false, hv, ?_⟩
          have : wordOf (b :: l) = none := by simp [wordOf, h0]
          rw [this]
        · rw [decide_eq_true (by omega), cond_true]
          refine (fin m (e == 0)).mono fun v h' ⟨E', hv⟩ => ⟨E', (m, _), e == 0, hv, ?_⟩
          cases hw : wordOf (b :: l) with
          | some q => rw [hw] at hm; exact ⟨by simp [hm.2.1], hm.2.2⟩
          | none => rw [hw] at hm; simp only at hm; simp; omega
      cases hn : numOf l with
      | some m => 
        refine rest (m : Int) 0 ?_
        simp only [wordOf, hn]
        by_cases h0 : letter b = 0 <;> simp [h0]
      | none =>
        refine rest 0 112 ?_
        simp only [wordOf, hn]
        by_cases h0 : letter b = 0 <;> simp [h0]

/-! ### what is right of a day -/

def inB (p : Ph) : Prop := (1 ≤ p.2 ∧ p.2 ≤ 4) ∧ 0 ≤ p.1 ∧ p.1 ≤ 1099511627776
def okAt (d : List Ph) (i : Nat) : Prop := ∀ p, d[i]? = some p → inB p ∧ ∀ q, 0 < i → d[i - 1]? = some q → q.1 < p.1 ∧ q.2 ≠ p.2
def dayOk (d : List Ph) : Prop := 1 ≤ d.length ∧ d.length ≤ 32 ∧ (∀ p, d[0]? = some p → p.1 = 0) ∧ ∀ i, i < d.length → okAt d i

theorem c_within {a b c : Int} : ev37 r (n + 1) 26 [.int .i64 a, .int .i64 b, .int .i64 c] h = some (.bool (decide (b ≤ a ∧ a ≤ c)), h) := by
  rw [e26]
  by_cases h1 : b ≤ a
  · rw [decide_eq_true (by omega), cond_true]; simp [h1]
  · rw [decide_eq_false (by omega), cond_false]; simp [h1]
theorem c_in {a b c : Int} : ev37 r (n + 1) 22 [.int .i64 a, .int .i64 b, .int .i64 c] h = some (.bool (decide (b ≤ a ∧ a ≤ c)), h) := by
  rw [e22]
  by_cases h1 : b ≤ a
  · rw [decide_eq_true (by omega), cond_true]; simp [h1]
  · rw [decide_eq_false (by omega), cond_false]; simp [h1]

variable {a b : Option Addr} {sa sb : Nat} {d d' : List Ph}
theorem Ds.at22 (S : Ds h a sa d) {i : Nat} {p : Ph} (hp : d[i]? = some p) : ∃ j o, Pt h j o (phC p) ∧ ∀ {R : Type} (K : Value → Option R) (kk : IntKind), indexAddrA P37 22 (.slice a d.length sa) (.int kk i) K = K (.pointer (some ⟨j, o, none⟩)) :=
  Sl.at S und22 cel47 hp
theorem Ds.at27 (S : Ds h a sa d) {i : Nat} {p : Ph} (hp : d[i]? = some p) : ∃ j o, Pt h j o (phC p) ∧ ∀ {R : Type} (K : Value → Option R) (kk : IntKind), indexAddrA P37 27 (.slice a d.length sa) (.int kk i) K = K (.pointer (some ⟨j, o, none⟩)) :=
  Sl.at S und27 cel52 hp
theorem Pt.when {j o : Nat} {p : Ph} (P : Pt h j o (phC p)) : ldV P37 3 j (o + 0) h = some (.int .i64 p.1) := P.ld (f := 0) agg3 rfl
theorem Pt.kind {j o : Nat} {p : Ph} (P : Pt h j o (phC p)) : ldV P37 3 j (o + 1) h = some (.int .i64 p.2) := P.ld (f := 1) agg3 rfl
theorem Pt.whole47 {j o : Nat} {p : Ph} (P : Pt h j o (phC p)) : ldV P37 47 j o h = some (.agg #[.int .i64 p.1, .int .i64 p.2]) := P.agg agg47 cel47 (by rw [phC_len]; omega)
theorem Pt.whole52 {j o : Nat} {p : Ph} (P : Pt h j o (phC p)) : ldV P37 52 j o h = some (.agg #[.int .i64 p.1, .int .i64 p.2]) := P.agg agg52 cel52 (by rw [phC_len]; omega)

/-- phase.Check -/
theorem c_check (S : Ds h a sa d) (hl : d.length < 1000000) (hr : 1000000 ≤ r) : Gives (ev37 r (n + 4) 18 [.slice a d.length sa] h) fun v h' => Ext h h' ∧ ∃ e : Int, v = .int .i64 e ∧ ((dayOk d ∧ e = 0) ∨ (¬ dayOk d ∧ e = 370)) := by
  rw [e18, callK_mk c_within, castV_mk]
  by_cases hlen : 1 ≤ d.length ∧ d.length ≤ 32
  · have hq : decide ((1 : Int) ≤ (d.length : Int) ∧ (d.length : Int) ≤ 32) = true := by rw [decide_eq_true_iff]; omega
    rw [hq, Bool.not_true, cond_false]
    have hd0 : d[0]? = some (d[0]'(by omega)) := List.getElem?_eq_getElem (by omega)
    generalize d[0]'(by omega) = p0 at hd0
    obtain ⟨j, o, hp, hix⟩ := S.at22 hd0
    have hix' : ∀ {R : Type} (K : Value → Option R), indexAddrA P37 22 (.slice a d.length sa) (.int .i64 0) K = K (.pointer (some ⟨j, o, none⟩)) := fun K => hix K .i64
    rw [hix', addrK_mk, hp.when, optK_mk, castI_mk]
    by_cases hz : p0.1 = 0
    · have e1 : (p0.1 != 0) = false := by simp [hz]
      rw [e1, cond_false]
      refine Gives.jump (Q := fun x env h' => x = .ret ∧ Ext h h' ∧ ∃ e : Int, env = E18_r (.int .i64 e) ∧ ((dayOk d ∧ e = 0) ∨ (¬ dayOk d ∧ e = 370))) ?_ ?_
      · rw [e18_7c]
        refine GivesX.loop (fun k env hh => env = E18_0 (.slice a d.length sa) (.slice a d.length sa) (.int .i64 (d.length : Int)) (.int .i64 (k : Int)) ∧ Ext h hh ∧ ∀ i, i < k → okAt d i) d.length
          (fun x env hh => Ext h hh ∧ ((x = .exit 0 ∧ env = E18_2 ∧ dayOk d) ∨ (x = .ret ∧ env = E18_r (.int .i64 370) ∧ ¬ dayOk d)))
          (fun k env hh hk hI => ?_) ⟨rfl, .refl h, fun i hi => by omega⟩ (by omega) ?_
        · obtain ⟨rfl, E, hok⟩ := hI
          by_cases hg : k < d.length
          · have hget : d[k]? = some d[k] := List.getElem?_eq_getElem hg
            generalize d[k] = p at hget
            obtain ⟨j, o, hp, hix⟩ := Ds.at22 (S.ext E) hget
            have bad : ¬ okAt d k → ¬ dayOk d := fun hb hd => hb (hd.2.2.2 k hg)
            have E1 : Ext h (hh.new (.cells (phC p) false)) := E.new _
            have HX : Has (hh.new (.cells (phC p) false)) hh.next (.cells (phC p) false) := Has.here _ _
            have PX := Pt.of HX
            have l0 : ldV P37 3 hh.next 0 (hh.new (.cells (phC p) false)) = some (.int .i64 p.1) := by have := PX.when; simpa using this
            have l1 : ldV P37 3 hh.next 1 (hh.new (.cells (phC p) false)) = some (.int .i64 p.2) := by have := PX.kind; simpa using this
            have start : ∀ {R : Type} (nx : Env → H → Option R) (K : Exit → Env → H → Option R), evCode P37 (ev37 r (n + 2)) (jmp37 r (n + 2) 18) (dead37 18) r 0 (pc [1, 1, 0, 1, 0, 0] (bd Tryd.f18)) (E18_0 (.slice a d.length sa) (.slice a d.length sa) (.int .i64 (d.length : Int)) (.int .i64 (k : Int))) hh (loopK nx (dead37 18 (4 * 0)) (dead37 18 (4 * 0 + 2)) (dead37 18 1000002) K) =
                bif !decide (1 ≤ p.2 ∧ p.2 ≤ 4) then K .ret (E18_r (.int .i64 370)) (hh.new (.cells (phC p) false)) else bif !decide (0 ≤ p.1 ∧ p.1 ≤ 1099511627776) then K .ret (E18_r (.int .i64 370)) (hh.new (.cells (phC p) false)) else
                jumpK (jmp37 r (n + 2) 18 1 (pc [1, 1, 0, 1, 0, 0, 1, 1, 0, 0, 1, 1] (bd Tryd.f18)) (E18_17 (.slice a d.length sa) (.int .i64 k) (.pointer (some ⟨hh.next, 0, none⟩)) (.slice a d.length sa) (.int .i64 (d.length : Int)) (.int .i64 (k : Int))) (hh.new (.cells (phC p) false)))
                  (blockK 1 (seqK (after P37 (ev37 r (n + 2)) (jmp37 r (n + 2) 18) (dead37 18) r 0 (pc [1, 1, 0, 1, 0, 0, 1, 1, 1] (bd Tryd.f18)) (loopK nx (dead37 18 (4 * 0)) (dead37 18 (4 * 0 + 2)) (dead37 18 1000002) K))
                    (loopK nx (dead37 18 (4 * 0)) (dead37 18 (4 * 0 + 2)) (dead37 18 1000002) K))) := by
              intro R nx K
              rw [e18_0, decide_eq_true (by omega), cond_true, hix, addrK_mk, hp.whole47, optK_mk, castA_mk, ifK_pos (by rw [cel47]; rfl)]
              erw [st_new (cs := phC p) (by rfl)]
              rw [optK_mk, l1, optK_mk, castI_mk, callK_mk c_within, castV_mk, l0, optK_mk, castI_mk, callK_mk c_within, castV_mk]
            by_cases hkd : 1 ≤ p.2 ∧ p.2 ≤ 4
            · by_cases hat : 0 ≤ p.1 ∧ p.1 ≤ 1099511627776
              · by_cases h0 : k = 0
                · refine ⟨.on _ (hh.new (.cells (phC p) false)), fun nx K => ?_, hg, rfl, E1, fun i hi => ?_⟩
                  · rw [start, decide_eq_true hkd, decide_eq_true hat]
                    simp only [Bool.not_true, cond_false]
                    rw [jumpK_mk (x := .normal) (h := hh.new (.cells (phC p) false)) (env := E18_0 (.slice a d.length sa) (.slice a d.length sa) (.int .i64 (d.length : Int)) (.int .i64 (k : Int))), e18_17n, wrap_succ (by omega)]
                    · rfl
                    · rw [e18_17c, decide_eq_false (by omega), cond_false]
                  · have : i = 0 := by omega
                    subst this
                    intro q hq
                    rw [h0] at hget
                    rw [hget] at hq; cases hq
                    exact ⟨⟨hkd, hat⟩, fun _ h9 => by omega⟩
                · have hk1 : k - 1 < d.length := by omega
                  have hgq : d[k - 1]? = some d[k - 1] := List.getElem?_eq_getElem hk1
                  generalize d[k - 1] = q at hgq
                  obtain ⟨j2, o2, hp2, hix2⟩ := Ds.at22 (S.ext E1) hgq
                  have piece : ∀ (x : Exit) (env : Env), (if p.1 ≤ q.1 ∨ q.2 = p.2 then (x, env) = (.ret, E18_r (.int .i64 370)) else (x, env) = (.normal, E18_0 (.slice a d.length sa) (.slice a d.length sa) (.int .i64 (d.length : Int)) (.int .i64 (k : Int)))) →
                      jmp37 r (n + 2) 18 1 (pc [1, 1, 0, 1, 0, 0, 1, 1, 0, 0, 1, 1] (bd Tryd.f18)) (E18_17 (.slice a d.length sa) (.int .i64 k) (.pointer (some ⟨hh.next, 0, none⟩)) (.slice a d.length sa) (.int .i64 (d.length : Int)) (.int .i64 (k : Int))) (hh.new (.cells (phC p) false)) =
                        some (x, env, hh.new (.cells (phC p) false)) := by
                    intro x env hx
                    rw [e18_17c, decide_eq_true (by omega), cond_true, wrap_pred (by omega) (by omega), hix2, addrK_mk, hp2.when, optK_mk, castI_mk, l0, optK_mk, castI_mk]
                    by_cases hle : p.1 ≤ q.1
                    · rw [decide_eq_true (by omega), cond_true]
                      rw [if_pos (.inl hle)] at hx; cases hx; rfl
                    · rw [decide_eq_false (by omega), cond_false, hix2, addrK_mk, hp2.kind, optK_mk, castI_mk, l1, optK_mk, castI_mk]
                      by_cases heq : q.2 = p.2
                      · have e4 : (q.2 == p.2) = true := by simp [heq]
                        rw [e4, cond_true]
                        rw [if_pos (.inr heq)] at hx; cases hx; rfl
                      · have e4 : (q.2 == p.2) = false := by simp [heq]
                        rw [e4, cond_false]
                        rw [if_neg (by omega)] at hx; cases hx; rfl
                  by_cases hst : p.1 ≤ q.1 ∨ q.2 = p.2
                  · refine ⟨.off .ret _ _, fun nx K => ?_, E1, .inr ⟨rfl, rfl, bad fun ho => ?_⟩⟩
                    · rw [start, decide_eq_true hkd, decide_eq_true hat]
                      simp only [Bool.not_true, cond_false]
                      rw [jumpK_mk (piece .ret (E18_r (.int .i64 370)) (by rw [if_pos hst])), e18_17r]
                      rfl
                    · have := (ho p hget).2 q (by omega) hgq
                      omega
                  · refine ⟨.on _ (hh.new (.cells (phC p) false)), fun nx K => ?_, hg, rfl, E1, fun i hi => ?_⟩
                    · rw [start, decide_eq_true hkd, decide_eq_true hat]
                      simp only [Bool.not_true, cond_false]
                      rw [jumpK_mk (piece .normal (E18_0 (.slice a d.length sa) (.slice a d.length sa) (.int .i64 (d.length : Int)) (.int .i64 (k : Int))) (by rw [if_neg hst])), e18_17n, wrap_succ (by omega)]
                      rfl
                    · by_cases hik : i = k
                      · subst hik
                        intro p' hp'
                        rw [hget] at hp'; cases hp'
                        refine ⟨⟨hkd, hat⟩, fun q' _ hq' => ?_⟩
                        rw [hgq] at hq'; cases hq'
                        omega
                      · exact hok i (by omega)
              · refine ⟨.off .ret _ _, fun nx K => ?_, E1, .inr ⟨rfl, rfl, bad fun ho => hat (ho p hget).1.2⟩⟩
                rw [start, decide_eq_true hkd, decide_eq_false hat]; rfl
            · refine ⟨.off .ret _ _, fun nx K => ?_, E1, .inr ⟨rfl, rfl, bad fun ho => hkd (ho p hget).1.1⟩⟩
              rw [start, decide_eq_false hkd]; rfl
          · have hkk : k = d.length := by omega
            refine ⟨.off (.exit 0) _ _, fun nx K => ?_, E, .inl ⟨rfl, rfl, hlen.1, hlen.2, fun p hp => ?_, fun i hi => hok i (by omega)⟩⟩
            · rw [e18_0, decide_eq_false (by omega), cond_false]; rfl
            · rw [hd0] at hp; cases hp; exact hz
        · rintro x env h' ⟨E, ⟨rfl, rfl, hd⟩ | ⟨rfl, rfl, hd⟩⟩
          · rw [e18_0x0]; exact .mk ⟨rfl, E, 0, rfl, .inl ⟨hd, rfl⟩⟩
          · rw [e18_0r]; exact .mk ⟨rfl, E, 370, rfl, .inr ⟨hd, rfl⟩⟩
      · rintro x env h' ⟨rfl, E, e, rfl, he⟩
        rw [e18_7r]; exact .mk ⟨E, e, rfl, he⟩
    · have e1 : (p0.1 != 0) = true := by simp [hz]
      rw [e1, cond_true]
      exact .mk ⟨.refl h, 370, rfl, .inr ⟨fun hd => hz (hd.2.2.1 p0 hd0), rfl⟩⟩
  · have hq : decide ((1 : Int) ≤ (d.length : Int) ∧ (d.length : Int) ≤ 32) = false := by rw [decide_eq_false_iff_not]; omega
    rw [hq, Bool.not_false, cond_true]
    exact .mk ⟨.refl h, 370, rfl, .inr ⟨fun hd => hlen ⟨hd.1, hd.2.1⟩, rfl⟩⟩

/-- spigotref37.Right -/
theorem c_right (S : Ds h a sa d) (hl : d.length < 1000000) (hr : 1000000 ≤ r) : ∃ b : Bool, ev37 r (n + 4) 10 [.slice a d.length sa] h = some (.bool b, h) ∧ (b = true ↔ dayOk d) := by
  suffices G : Gives (ev37 r (n + 4) 10 [.slice a d.length sa] h) fun v h' => h' = h ∧ ∃ b : Bool, v = .bool b ∧ (b = true ↔ dayOk d) by
    obtain ⟨v, h', e, rfl, b, rfl, hb⟩ := G
    exact ⟨b, e, hb⟩
  rw [e10]
  by_cases hlen : 1 ≤ d.length ∧ d.length ≤ 32
  · rw [decide_eq_false (by omega), cond_false, decide_eq_false (by omega), cond_false]
    have hd0 : d[0]? = some (d[0]'(by omega)) := List.getElem?_eq_getElem (by omega)
    generalize d[0]'(by omega) = p0 at hd0
    obtain ⟨j, o, hp, hix⟩ := S.at27 hd0
    have hix' : ∀ {R : Type} (K : Value → Option R), indexAddrA P37 27 (.slice a d.length sa) (.int .i64 0) K = K (.pointer (some ⟨j, o, none⟩)) := fun K => hix K .i64
    rw [hix', addrK_mk, hp.when, optK_mk, castI_mk]
    by_cases hz : p0.1 = 0
    · have e1 : (p0.1 != 0) = false := by simp [hz]
      rw [e1, cond_false]
      refine Gives.jump (Q := fun x env h' => x = .ret ∧ h' = h ∧ ∃ b : Bool, env = E10_r (.bool b) ∧ (b = true ↔ dayOk d)) ?_ ?_
      · rw [e10_7c]
        refine GivesX.loop (fun k env hh => env = E10_0 (.slice a d.length sa) (.int .i64 (k : Int)) ∧ hh = h ∧ ∀ i, i < k → okAt d i) d.length
          (fun x env hh => hh = h ∧ ((x = .exit 0 ∧ env = E10_2 ∧ dayOk d) ∨ (x = .ret ∧ env = E10_r (.bool false) ∧ ¬ dayOk d)))
          (fun k env hh hk hI => ?_) ⟨rfl, rfl, fun i hi => by omega⟩ (by omega) ?_
        · obtain ⟨rfl, rfl, hok⟩ := hI
          by_cases hg : k < d.length
          · have hget : d[k]? = some d[k] := List.getElem?_eq_getElem hg
            generalize d[k] = p at hget
            obtain ⟨j, o, hp, hix⟩ := S.at27 hget
            have bad : ¬ okAt d k → ¬ dayOk d := fun hb hd => hb (hd.2.2.2 k hg)
            have start : ∀ {R : Type} (nx : Env → H → Option R) (K : Exit → Env → H → Option R), evCode P37 (ev37 r (n + 2)) (jmp37 r (n + 2) 10) (dead37 10) r 0 (pc [1, 1, 0, 1, 0, 0] (bd Tryd.f10)) (E10_0 (.slice a d.length sa) (.int .i64 (k : Int))) hh (loopK nx (dead37 10 (4 * 0)) (dead37 10 (4 * 0 + 2)) (dead37 10 1000002) K) =
                bif !decide (1 ≤ p.2 ∧ p.2 ≤ 4) then K .ret (E10_r (.bool false)) hh else bif !decide (0 ≤ p.1 ∧ p.1 ≤ 1099511627776) then K .ret (E10_r (.bool false)) hh else
                jumpK (jmp37 r (n + 2) 10 1 (pc [1, 1, 0, 1, 0, 0, 1, 0, 0, 1] (bd Tryd.f10)) (E10_0 (.slice a d.length sa) (.int .i64 k)) hh)
                  (blockK 1 (seqK (after P37 (ev37 r (n + 2)) (jmp37 r (n + 2) 10) (dead37 10) r 0 (pc [1, 1, 0, 1, 0, 0, 1, 1] (bd Tryd.f10)) (loopK nx (dead37 10 (4 * 0)) (dead37 10 (4 * 0 + 2)) (dead37 10 1000002) K))
                    (loopK nx (dead37 10 (4 * 0)) (dead37 10 (4 * 0 + 2)) (dead37 10 1000002) K))) := by
              intro R nx K
              rw [e10_0, decide_eq_true (by omega), cond_true, hix, addrK_mk, hp.kind, optK_mk, castI_mk, callK_mk c_in, castV_mk, hix, addrK_mk, hp.when, optK_mk, castI_mk, callK_mk c_in, castV_mk]
            by_cases hkd : 1 ≤ p.2 ∧ p.2 ≤ 4
            · by_cases hat : 0 ≤ p.1 ∧ p.1 ≤ 1099511627776
              · by_cases h0 : k = 0
                · refine ⟨.on _ hh, fun nx K => ?_, hg, rfl, rfl, fun i hi => ?_⟩
                  · rw [start, decide_eq_true hkd, decide_eq_true hat]
                    simp only [Bool.not_true, cond_false]
                    rw [jumpK_mk (x := .normal) (h := hh) (env := E10_0 (.slice a d.length sa) (.int .i64 (k : Int))), e10_17n, wrap_succ (by omega)]
                    · rfl
                    · rw [e10_17c, decide_eq_false (by omega), cond_false]
                  · have : i = 0 := by omega
                    subst this
                    intro q hq
                    rw [h0] at hget
                    rw [hget] at hq; cases hq
                    exact ⟨⟨hkd, hat⟩, fun _ h9 => by omega⟩
                · have hk1 : k - 1 < d.length := by omega
                  have hgq : d[k - 1]? = some d[k - 1] := List.getElem?_eq_getElem hk1
                  generalize d[k - 1] = q at hgq
                  obtain ⟨j2, o2, hp2, hix2⟩ := S.at27 hgq
                  have piece : ∀ (x : Exit) (env : Env), (if p.1 ≤ q.1 ∨ q.2 = p.2 then (x, env) = (.ret, E10_r (.bool false)) else (x, env) = (.normal, E10_0 (.slice a d.length sa) (.int .i64 (k : Int)))) →
                      jmp37 r (n + 2) 10 1 (pc [1, 1, 0, 1, 0, 0, 1, 0, 0, 1] (bd Tryd.f10)) (E10_0 (.slice a d.length sa) (.int .i64 k)) hh = some (x, env, hh) := by
                    intro x env hx
                    rw [e10_17c, decide_eq_true (by omega), cond_true, hix, addrK_mk, hp.when, optK_mk, castI_mk, wrap_pred (by omega) (by omega), hix2, addrK_mk, hp2.when, optK_mk, castI_mk]
                    by_cases hle : p.1 ≤ q.1
                    · rw [decide_eq_true (by omega), cond_true]
                      rw [if_pos (.inl hle)] at hx; cases hx; rfl
                    · rw [decide_eq_false (by omega), cond_false, hix, addrK_mk, hp.kind, optK_mk, castI_mk, hix2, addrK_mk, hp2.kind, optK_mk, castI_mk]
                      by_cases heq : q.2 = p.2
                      · have e4 : (p.2 == q.2) = true := by simp [heq]
                        rw [e4, cond_true]
                        rw [if_pos (.inr heq)] at hx; cases hx; rfl
                      · have e4 : (p.2 == q.2) = false := by simp; omega
                        rw [e4, cond_false]
                        rw [if_neg (by omega)] at hx; cases hx; rfl
                  by_cases hst : p.1 ≤ q.1 ∨ q.2 = p.2
                  · refine ⟨.off .ret _ _, fun nx K => ?_, rfl, .inr ⟨rfl, rfl, bad fun ho => ?_⟩⟩
                    · rw [start, decide_eq_true hkd, decide_eq_true hat]
                      simp only [Bool.not_true, cond_false]
                      rw [jumpK_mk (piece .ret (E10_r (.bool false)) (by rw [if_pos hst])), e10_17r]
                      rfl
                    · have := (ho p hget).2 q (by omega) hgq
                      omega
                  · refine ⟨.on _ hh, fun nx K => ?_, hg, rfl, rfl, fun i hi => ?_⟩
                    · rw [start, decide_eq_true hkd, decide_eq_true hat]
                      simp only [Bool.not_true, cond_false]
                      rw [jumpK_mk (piece .normal (E10_0 (.slice a d.length sa) (.int .i64 (k : Int))) (by rw [if_neg hst])), e10_17n, wrap_succ (by omega)]
                      rfl
                    · by_cases hik : i = k
                      · subst hik
                        intro p' hp'
                        rw [hget] at hp'; cases hp'
                        refine ⟨⟨hkd, hat⟩, fun q' _ hq' => ?_⟩
                        rw [hgq] at hq'; cases hq'
                        omega
                      · exact hok i (by omega)
              · refine ⟨.off .ret _ _, fun nx K => ?_, rfl, .inr ⟨rfl, rfl, bad fun ho => hat (ho p hget).1.2⟩⟩
                rw [start, decide_eq_true hkd, decide_eq_false hat]; rfl
            · refine ⟨.off .ret _ _, fun nx K => ?_, rfl, .inr ⟨rfl, rfl, bad fun ho => hkd (ho p hget).1.1⟩⟩
              rw [start, decide_eq_false hkd]; rfl
          · have hkk : k = d.length := by omega
            refine ⟨.off (.exit 0) _ _, fun nx K => ?_, rfl, .inl ⟨rfl, rfl, hlen.1, hlen.2, fun p hp => ?_, fun i hi => hok i (by omega)⟩⟩
            · rw [e10_0, decide_eq_false (by omega), cond_false]; rfl
            · rw [hd0] at hp; cases hp; exact hz
        · rintro x env h' ⟨rfl, ⟨rfl, rfl, hd⟩ | ⟨rfl, rfl, hd⟩⟩
          · rw [e10_0x0]; exact .mk ⟨rfl, rfl, true, rfl, by simp [hd]⟩
          · rw [e10_0r]; exact .mk ⟨rfl, rfl, false, rfl, by simp [hd]⟩
      · rintro x env h' ⟨rfl, rfl, e, rfl, he⟩
        rw [e10_7r]; exact .mk ⟨rfl, e, rfl, he⟩
    · have e1 : (p0.1 != 0) = true := by simp [hz]
      rw [e1, cond_true]
      exact .mk ⟨rfl, false, rfl, by simp only [Bool.false_eq_true, false_iff]; exact fun hd => hz (hd.2.2.1 p0 hd0)⟩
  · by_cases h1 : d.length < 1
    · rw [decide_eq_true (by omega), cond_true]
      exact .mk ⟨rfl, false, rfl, by simp only [Bool.false_eq_true, false_iff]; exact fun hd => hlen ⟨hd.1, hd.2.1⟩⟩
    · rw [decide_eq_false (by omega), cond_false, decide_eq_true (by omega), cond_true]
      exact .mk ⟨rfl, false, rfl, by simp only [Bool.false_eq_true, false_iff]; exact fun hd => hlen ⟨hd.1, hd.2.1⟩⟩
end
end Go.Ev
