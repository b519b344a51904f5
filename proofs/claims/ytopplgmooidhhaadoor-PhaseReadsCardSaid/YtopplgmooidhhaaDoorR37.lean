/-
  PhaseReads: the numbers of texts.
-/
import Derived.Test.YtopplgmooidhhaaDoorEvT
import Derived.Test.YtopplgmooidhhaaDoorN37
namespace Go.Ev
open Go Go.Proofs

/-- The number of digits, behind what they have come to. -/
def numF : Nat → List UInt8 → Option Nat
  | acc, [] => some acc
  | acc, b :: l => if 48 ≤ b.toNat ∧ b.toNat ≤ 57 ∧ 10 * acc + (b.toNat - 48) < 9223372036854775808 then numF (10 * acc + (b.toNat - 48)) l else none
def numOf : List UInt8 → Option Nat
  | [] => none
  | b :: l => if b.toNat = 48 ∧ l ≠ [] then none else numF 0 (b :: l)
theorem numF_lt : ∀ {l : List UInt8} {acc m : Nat}, acc < 9223372036854775808 → numF acc l = some m → m < 9223372036854775808 := by
  intro l
  induction l with
  | nil => intro acc m h1 h2; simp [numF] at h2; omega
  | cons b l ih =>
    intro acc m h1 h2
    simp only [numF] at h2
    split at h2
    · exact ih (by omega) h2
    · cases h2
theorem numOf_lt {l : List UInt8} {m : Nat} (h : numOf l = some m) : m < 9223372036854775808 := by
  cases l with
  | nil => cases h
  | cons b l =>
    simp only [numOf] at h
    split at h
    · cases h
    · exact numF_lt (by omega) h
theorem numF_ge : ∀ {l : List UInt8} {acc m : Nat}, numF acc l = some m → acc * 10 ^ l.length ≤ m := by
  intro l
  induction l with
  | nil => intro acc m h2; simp [numF] at h2; simp; omega
  | cons b l ih =>
    intro acc m h2
    simp only [numF] at h2
    split at h2
    · have := ih h2
      rw [List.length_cons, Nat.pow_succ]
      have h3 : acc * (10 ^ l.length * 10) ≤ (10 * acc + (b.toNat - 48)) * 10 ^ l.length := by
        rw [show acc * (10 ^ l.length * 10) = (10 * acc) * 10 ^ l.length by rw [Nat.mul_comm (10 ^ l.length), ← Nat.mul_assoc, Nat.mul_comm acc]]
        exact Nat.mul_le_mul_right _ (by omega)
      omega
    · cases h2
theorem numOf_long {l : List UInt8} (h : 19 < l.length) : numOf l = none := by
  cases l with
  | nil => rfl
  | cons b l =>
    simp only [numOf]
    split
    · rfl
    · rename_i hn
      have hl : l ≠ [] := fun e => by simp [e] at h
      have hb : b.toNat ≠ 48 := fun e => hn ⟨e, hl⟩
      simp only [numF]
      split
      · rename_i h4
        cases h5 : numF (10 * 0 + (b.toNat - 48)) l with
        | none => rfl
        | some m =>
          have h6 := numF_ge h5
          have h7 := numF_lt (by omega) h5
          have h8 : 10 ^ 19 ≤ 10 ^ l.length := Nat.pow_le_pow_right (by omega) (by simp at h; omega)
          have h9 : 1 * 10 ^ l.length ≤ (10 * 0 + (b.toNat - 48)) * 10 ^ l.length := Nat.mul_le_mul_right _ (by omega)
          omega
      · rfl

/-- What body.Number answers. -/
def numV (o : Option Nat) : Value :=
  match o with
  | some m => .tuple ⟨[.int .i64 (m : Int), .int .i64 0]⟩
  | none => .tuple ⟨[.int .i64 0, .int .i64 112]⟩

section
variable {r n : Nat} {h : H}

theorem c_number_loop {l : List UInt8} (hl : l.length < 1000000) (hr : 1000000 ≤ r) :
    Gives (jumpK (jmp37 r (n + 2) 28 0 (pc [1, 1] (bd Tryd.f28)) (E28_7 (.string (txt l))) h) (finK P37 [ResultVar.tmp 2, ResultVar.tmp 3])) fun v h' => v = numV (numF 0 l) ∧ Ext h h' := by
  refine Gives.jump (Q := fun x env h' => x = .ret ∧ Ext h h' ∧ env = match numF 0 l with
      | some m => E28_r (.int .i64 (m : Int)) (.int .i64 0)
      | none => E28_r (.int .i64 0) (.int .i64 112)) ?_ ?_
  · rw [e28_7c]
    refine GivesX.loop (fun k env hh => ∃ acc : Nat, env = E28_0 (.int .i64 (acc : Int)) (.pointer (some ⟨h.next, 0, none⟩)) ∧ k ≤ l.length ∧ acc < 9223372036854775808 ∧ numF 0 l = numF acc (l.drop k) ∧ Ext h hh ∧ Has hh h.next (.iter (txt l) k)) l.length
      (fun x env hh => Ext h hh ∧ ((x = .exit 0 ∧ ∃ acc : Nat, env = E28_2 (.int .i64 (acc : Int)) ∧ numF 0 l = some acc) ∨ (x = .ret ∧ env = E28_r (.int .i64 0) (.int .i64 112) ∧ numF 0 l = none)))
      (fun k env hh hk hI => ?_) ⟨0, rfl, by omega, by omega, rfl, (Ext.refl h).new _, Has.here _ _⟩ (by omega) ?_
    · obtain ⟨acc, rfl, hk, ha, he, E, HI⟩ := hI
      by_cases hg : k < l.length
      · have hd := List.drop_eq_getElem_cons hg
        have hget : l[k]? = some l[k] := List.getElem?_eq_getElem hg
        generalize hb : l[k] = b at *
        have E' : ∀ blk, Ext h (hh.put h.next blk) := fun blk => E.put (Nat.le_refl _) blk
        by_cases h128 : b.toNat < 128
        · have hdec := decode_low hget h128
          by_cases h48 : b.toNat < 48
          · refine ⟨.off .ret _ _, fun nx K => ?_, E' (.iter (txt l) (k + 1)), .inr ⟨rfl, rfl, ?_⟩⟩
            · rw [e28_0, next_mk HI, if_pos hg, hdec]
              simp only
              rw [decide_eq_true (by omega), cond_true]; rfl
            · rw [he, hd]; simp only [numF]; rw [if_neg (by omega)]
          · by_cases h57 : 57 < b.toNat
            · refine ⟨.off .ret _ _, fun nx K => ?_, E' (.iter (txt l) (k + 1)), .inr ⟨rfl, rfl, ?_⟩⟩
              · rw [e28_0, next_mk HI, if_pos hg, hdec]
                simp only
                rw [decide_eq_false (by omega), cond_false, decide_eq_true (by omega), cond_true]; rfl
              · rw [he, hd]; simp only [numF]; rw [if_neg (by omega)]
            · have hw : IntKind.i64.wrap (IntKind.i32.wrap (((b.toNat : Nat) : Int) - 48)) = ((b.toNat - 48 : Nat) : Int) := by
                have : IntKind.i32.wrap (((b.toNat : Nat) : Int) - 48) = ((b.toNat - 48 : Nat) : Int) := by
                  have hsub : (((b.toNat : Nat) : Int) - 48) = ((b.toNat - 48 : Nat) : Int) := by omega
                  rw [hsub]
                  have : b.toNat - 48 ≤ 9 := by omega
                  generalize b.toNat - 48 = q at *
                  unfold IntKind.wrap
                  have q1 : IntKind.i32.bits = 32 := rfl
                  have q2 : IntKind.i32.signed = true := rfl
                  rw [q1, q2]
                  simp only [Bool.true_and]
                  split <;> simp_all <;> omega
                rw [this, wrap_id (by omega) (by omega)]
              have hq : IntKind.i64.wrap ((IntKind.i64.wrap (9223372036854775807 - ((b.toNat - 48 : Nat) : Int))).tdiv 10) = (((9223372036854775807 - (b.toNat - 48)) / 10 : Nat) : Int) := by
                rw [wrap_id (n := 9223372036854775807 - _) (by omega) (by omega)]
                have : (9223372036854775807 - ((b.toNat - 48 : Nat) : Int)) = ((9223372036854775807 - (b.toNat - 48) : Nat) : Int) := by omega
                rw [this, Int.tdiv_eq_ediv_of_nonneg (by omega)]
                rw [wrap_id (by omega) (by omega)]
                omega
              by_cases hbig : 10 * acc + (b.toNat - 48) < 9223372036854775808
              · refine ⟨.on _ _, fun nx K => ?_, hg, 10 * acc + (b.toNat - 48), rfl, by omega, hbig, ?_, E' (.iter (txt l) (k + 1)), HI.over _⟩
                · rw [e28_0, next_mk HI, if_pos hg, hdec]
                  simp only
                  rw [decide_eq_false (by omega), cond_false, decide_eq_false (by omega), cond_false, jumpK_mk (h := hh.put h.next (.iter (txt l) (k + 1))) (x := .normal) (env := E28_0 (.int .i64 ((10 * acc + (b.toNat - 48) : Nat) : Int)) (.pointer (some ⟨h.next, 0, none⟩))), e28_19n]
                  · rfl
                  · rw [e28_19c, hw, hq, decide_eq_false (by omega), cond_false]
                    rw [wrap_id (n := 10 * _) (by omega) (by omega), wrap_id (by omega) (by omega)]
                    congr 3
                · rw [he, hd]; simp only [numF]; rw [if_pos (by omega)]
              · refine ⟨.off .ret _ _, fun nx K => ?_, E' (.iter (txt l) (k + 1)), .inr ⟨rfl, rfl, ?_⟩⟩
                · rw [e28_0, next_mk HI, if_pos hg, hdec]
                  simp only
                  rw [decide_eq_false (by omega), cond_false, decide_eq_false (by omega), cond_false, jumpK_mk (h := hh.put h.next (.iter (txt l) (k + 1))) (x := .ret) (env := E28_r (.int .i64 0) (.int .i64 112)), e28_19r]
                  · rfl
                  · rw [e28_19c, hw, hq, decide_eq_true (by omega), cond_true]
                · rw [he, hd]; simp only [numF]; rw [if_neg (by omega)]
        · have hdec := decode_high' hget (by omega)
          refine ⟨.off .ret _ _, fun nx K => ?_, E' (.iter (txt l) (k + (Utf8.decode (txt l) k).2)), .inr ⟨rfl, rfl, ?_⟩⟩
          · rw [e28_0, next_mk HI, if_pos hg]
            rw [decide_eq_false (by omega), cond_false, decide_eq_true (by omega), cond_true]; rfl
          · rw [he, hd]; simp only [numF]; rw [if_neg (by omega)]
      · have hkk : k = l.length := by omega
        refine ⟨.off (.exit 0) _ _, fun nx K => ?_, E, .inl ⟨rfl, acc, rfl, ?_⟩⟩
        · rw [e28_0, next_mk HI, if_neg hg]; rfl
        · rw [he, hkk, List.drop_length]; rfl
    · rintro x env h' ⟨E, ⟨rfl, acc, rfl, hv⟩ | ⟨rfl, rfl, hv⟩⟩
      · rw [e28_0x0, hv]
        exact .mk ⟨rfl, E, rfl⟩
      · rw [e28_0r, hv]
        exact .mk ⟨rfl, E, rfl⟩
  · rintro x env h' ⟨rfl, E, rfl⟩
    cases numF 0 l with
    | some m => simp only; rw [e28_7r]; exact .mk ⟨rfl, E⟩
    | none => simp only; rw [e28_7r]; exact .mk ⟨rfl, E⟩
theorem c_number {l : List UInt8} (hl : l.length < 1000000) (hr : 1000000 ≤ r) : Gives (ev37 r (n + 3) 28 [.string (txt l)] h) fun v h' => v = numV (numOf l) ∧ Ext h h' := by
  rw [e28, txt_toList, txt_toList]
  cases l with
  | nil => exact .mk ⟨rfl, .refl h⟩
  | cons b l =>
    have e1 : ((b :: l) == ([] : List UInt8)) = false := rfl
    have e2 : ∀ (R : Type) (K : Int → Option R), idxS (txt (b :: l)) 0 K = K (b.toNat : Int) := fun R K => idx_mk (k := 0) (l := b :: l) rfl K
    rw [e1, cond_false, e2]
    by_cases h48 : b.toNat = 48
    · have e3 : (((b.toNat : Nat) : Int) == 48) = true := by simp [h48]
      rw [e3, cond_true, txt_size]
      cases l with
      | nil =>
        rw [decide_eq_false (by simp), cond_false]
        have : numOf [b] = numF 0 [b] := by simp [numOf]
        rw [this]
        exact c_number_loop hl hr
      | cons c l =>
        rw [decide_eq_true (by simp; omega), cond_true]
        exact .mk ⟨by simp [numOf, h48, numV], .refl h⟩
    · have e3 : (((b.toNat : Nat) : Int) == 48) = false := by simp; omega
      rw [e3, cond_false]
      have : numOf (b :: l) = numF 0 (b :: l) := by simp [numOf, h48]
      rw [this]
      exact c_number_loop hl hr

/-! ### the reference's -/

def numG : Nat → List UInt8 → Option Nat
  | acc, [] => some acc
  | acc, b :: l => if 48 ≤ b.toNat ∧ b.toNat ≤ 57 then numG (10 * acc + (b.toNat - 48)) l else none
theorem numG_ge : ∀ {l : List UInt8} {acc m : Nat}, numG acc l = some m → acc ≤ m := by
  intro l
  induction l with
  | nil => intro acc m h2; simp [numG] at h2; omega
  | cons b l ih =>
    intro acc m h2
    simp only [numG] at h2
    split at h2
    · have := ih h2; omega
    · cases h2
theorem numF_G : ∀ (l : List UInt8) (acc : Nat), acc < 9223372036854775808 → numF acc l = (numG acc l).filter fun m => decide (m < 9223372036854775808) := by
  intro l
  induction l with
  | nil => intro acc h1; simp [numF, numG, Option.filter, h1]
  | cons b l ih =>
    intro acc h1
    simp only [numF, numG]
    by_cases h2 : 48 ≤ b.toNat ∧ b.toNat ≤ 57
    · rw [if_pos h2]
      by_cases h3 : 10 * acc + (b.toNat - 48) < 9223372036854775808
      · rw [if_pos ⟨h2.1, h2.2, h3⟩, ih _ h3]
      · rw [if_neg (by omega)]
        cases h4 : numG (10 * acc + (b.toNat - 48)) l with
        | none => rfl
        | some m =>
          have := numG_ge h4
          simp [Option.filter]; omega
    · rw [if_neg h2, if_neg (by omega)]; rfl

theorem Sl.eqA {α : Type} {e : α → List Value} {k : Nat} {h : H} {a : Option Addr} {st : Nat} {l : List α} (S : Sl e k h a st l) : eqA a a = true := by
  rcases S with ⟨_, rfl, _⟩ | ⟨_, j, o, rfl, _⟩
  · rfl
  · simp [Go.Ev.eqA]

/-- A number as a struct. -/
abbrev numCs (z : Int) (c : Option Addr) (sc : Nat) : List Value := [.bool (sgn z), .slice c (mag z).length sc]
theorem mag_le {z : Nat} {k : Nat} (h : z < 2 ^ k) : (mag (z : Int)).length ≤ k := bits_length (by simpa using h)

theorem c_refnum_loop {l : List UInt8} (h0 : 0 < l.length) (hl : l.length ≤ 19) (hr : 1000000 ≤ r) :
    Gives (jumpK (jmp37 r (n + 7) 19 0 (pc [1, 1] (bd Tryd.f19)) (E19_7 (.string (txt l))) h) (finK P37 [ResultVar.tmp 2])) fun v h' =>
      v = .int .i64 (match numF 0 l with | some m => (m : Int) | none => -1) ∧ Ext h h' := by
  refine Gives.jump (Q := fun x env h' => x = .ret ∧ Ext h h' ∧ env = E19_r (.int .i64 (match numF 0 l with | some m => (m : Int) | none => -1))) ?_ ?_
  · rw [e19_7c, st_new rfl, optK_mk]
    refine GivesX.loop (fun k env hh => env = E19_0 (.string (txt l)) (.pointer (some ⟨h.next, 0, none⟩)) (.int .i64 (k : Int)) ∧ k ≤ l.length ∧ Ext h hh ∧ ∃ (z : Nat) (c : Option Addr) (sc : Nat), z < 10 ^ k ∧
        numG 0 l = numG z (l.drop k) ∧ Has hh h.next (.cells (numCs z c sc) false) ∧ BsA (h.new (.cells [.bool false, .slice none 0 0] false)) hh c sc (mag z)) l.length
      (fun x env hh => Ext h hh ∧ ((x = .exit 0 ∧ env = E19_2 (.pointer (some ⟨h.next, 0, none⟩)) ∧ ∃ (z : Nat) (c : Option Addr) (sc : Nat), z < 10 ^ 19 ∧ numG 0 l = some z ∧ Has hh h.next (.cells (numCs z c sc) false) ∧ Bs hh c sc (mag z)) ∨
        (x = .ret ∧ env = E19_r (.int .i64 (-1)) ∧ numG 0 l = none)))
      (fun k env hh hk hI => ?_) ⟨rfl, by omega, (Ext.refl h).new _, 0, none, 0, by omega, rfl, ?_, .nil _ _⟩ (by omega) ?_
    · obtain ⟨rfl, hk, E, z, c, sc, hz, he, HX, V⟩ := hI
      by_cases hg : k < l.length
      · have hd := List.drop_eq_getElem_cons hg
        have hget : l[k]? = some l[k] := List.getElem?_eq_getElem hg
        generalize l[k] = b at *
        by_cases h48 : b.toNat < 48
        · refine ⟨.off .ret _ _, fun nx K => ?_, E, .inr ⟨rfl, rfl, ?_⟩⟩
          · rw [e19_0, txt_size, decide_eq_true (by omega), cond_true, idx_mk hget, decide_eq_true (by omega), cond_true]; rfl
          · rw [he, hd]; simp only [numG]; rw [if_neg (by omega)]
        · by_cases h57 : 57 < b.toNat
          · refine ⟨.off .ret _ _, fun nx K => ?_, E, .inr ⟨rfl, rfl, ?_⟩⟩
            · rw [e19_0, txt_size, decide_eq_true (by omega), cond_true, idx_mk hget, decide_eq_false (by omega), cond_false, idx_mk hget, decide_eq_true (by omega), cond_true]; rfl
            · rw [he, hd]; simp only [numG]; rw [if_neg (by omega)]
          · have hzk : z < 10 ^ 19 := Nat.lt_of_lt_of_le hz (Nat.pow_le_pow_right (by omega) (by omega))
            obtain ⟨v1, h1, q1, c1, s1, rfl, E1, V1⟩ := c_of (r := r) (n := n + 3) (h := hh) (z := 10) (by omega) hr
            have lz : ∀ {w}, Has w h.next (.cells (numCs z c sc) false) → ldV P37 62 h.next 0 w = some (.agg #[.bool (sgn z), .slice c (mag z).length sc]) := fun H => by
              rw [ld_agg agg_num cel_num H (by simp)]; rfl
            obtain ⟨v2, h2, q2, c2, s2, rfl, E2, V2⟩ := c_mul (r := r) (n := n) (h := h1) (x := (z : Int)) (y := 10) (V.ext E1).sl V1.sl (Nat.lt_of_le_of_lt (mag_le (k := 64) (by omega)) (by omega)) (by decide) hr
            have hw : IntKind.i64.wrap (IntKind.u8.wrap (((b.toNat : Nat) : Int) - 48)) = ((b.toNat - 48 : Nat) : Int) := by
              have : IntKind.u8.wrap (((b.toNat : Nat) : Int) - 48) = ((b.toNat - 48 : Nat) : Int) := by
                have hsub : (((b.toNat : Nat) : Int) - 48) = ((b.toNat - 48 : Nat) : Int) := by omega
                rw [hsub]
                have : b.toNat - 48 ≤ 9 := by omega
                generalize b.toNat - 48 = q at *
                unfold IntKind.wrap
                have q1 : IntKind.u8.bits = 8 := rfl
                have q2 : IntKind.u8.signed = false := rfl
                rw [q1, q2]
                simp
                omega
              rw [this, wrap_id (by omega) (by omega)]
            obtain ⟨v3, h3, q3, c3, s3, rfl, E3, V3⟩ := c_of (r := r) (n := n + 3) (h := h2) (z := ((b.toNat - 48 : Nat) : Int)) (by omega) hr
            have hm10 : (z : Int) * 10 = ((10 * z : Nat) : Int) := by omega
            rw [hm10] at q2 V2
            obtain ⟨v4, h4, q4, c4, s4, rfl, E4, V4⟩ := c_add (r := r) (n := n + 1) (h := h3) (x := ((10 * z : Nat) : Int)) (y := ((b.toNat - 48 : Nat) : Int)) (V2.ext E3).sl V3.sl
              (Nat.lt_of_le_of_lt (mag_le (k := 68) (by omega)) (by omega)) (Nat.lt_of_le_of_lt (mag_le (k := 64) (by omega)) (by omega)) hr
            have hsum : ((10 * z : Nat) : Int) + ((b.toNat - 48 : Nat) : Int) = ((10 * z + (b.toNat - 48) : Nat) : Int) := by omega
            rw [hsum] at q4 V4
            have EE := (E1.trans E2).trans (E3.trans E4)
            have HX4 := HX.ext EE
            have hnn : h.next < hh.next := HX.1
            have hne : ∀ o, c4 ≠ some ⟨h.next, o, none⟩ := fun o => V4.far (by have := (E1.trans (E2.trans E3)).1; omega) o
            refine ⟨.on _ (h4.put h.next (.cells (numCs ((10 * z + (b.toNat - 48) : Nat) : Int) c4 s4) false)), fun nx K => ?_, hg, rfl, by omega, (E.trans EE).put (Nat.le_refl _) _, 10 * z + (b.toNat - 48), c4, s4, ?_, ?_, HX4.over _, ?_⟩
            · rw [e19_0, txt_size, decide_eq_true (by omega), cond_true, idx_mk hget, decide_eq_false (by omega), cond_false, idx_mk hget, decide_eq_false (by omega), cond_false,
                jumpK_mk (x := .normal) (h := h4.put h.next (.cells (numCs ((10 * z + (b.toNat - 48) : Nat) : Int) c4 s4) false)) (env := E19_0 (.string (txt l)) (.pointer (some ⟨h.next, 0, none⟩)) (.int .i64 (k : Int))), e19_19n, wrap_succ (by omega)]
              · rfl
              · rw [e19_19c, callK_mk q1, castA_mk, lz (HX.ext E1), optK_mk, castA_mk]
                have hsame : sameLd P37 62 h.next 0 (.agg #[.bool (sgn z), .slice c (mag z).length sc]) hh = true := by
                  unfold sameLd
                  rw [lz HX]
                  have := V.sl.eqA
                  simp [eqV, eqV.eqVs, this]
                rw [hsame, cond_true, callK_mk q2, castA_mk, idx_mk hget, hw, callK_mk q3, castA_mk, callK_mk q4, castA_mk]
                rw [ifK_pos (by rw [cel_num]; rfl)]
                erw [st_all (vs := numCs ((10 * z + (b.toNat - 48) : Nat) : Int) c4 s4) HX4 rfl]
                rfl
            · rw [Nat.pow_succ]; omega
            · rw [he, hd]; simp only [numG]; rw [if_pos (by omega)]
            · exact (V4.below (h0 := h.new _) (by show h.next + 1 ≤ h3.next; have := (E1.trans (E2.trans E3)).1; omega)).put hne _
      · have hkk : k = l.length := by omega
        refine ⟨.off (.exit 0) _ _, fun nx K => ?_, E, .inl ⟨rfl, rfl, z, c, sc, Nat.lt_of_lt_of_le hz (Nat.pow_le_pow_right (by omega) (by omega)), ?_, HX, V.sl⟩⟩
        · rw [e19_0, txt_size, decide_eq_false (by omega), cond_false]; rfl
        · rw [he, hkk, List.drop_length]; rfl
    · exact Has.here _ _
    · rintro x env h' ⟨E, ⟨rfl, rfl, z, c, sc, hz, hv, HX, V⟩ | ⟨rfl, rfl, hv⟩⟩
      · have lz : ldV P37 62 h.next 0 h' = some (.agg #[.bool (sgn z), .slice c (mag z).length sc]) := by rw [ld_agg agg_num cel_num HX (by simp)]; rfl
        obtain ⟨v1, h1, q1, E1, q, rfl, hq⟩ := c_int (r := r) (n := n + 5) (h := h') (z := (z : Int)) V (Nat.lt_of_le_of_lt (mag_le (k := 64) (by omega)) (by omega)) hr
        rw [e19_0x0, lz, optK_mk, castA_mk, callK_mk q1]
        have hF := numF_G l 0 (by omega)
        rw [hv] at hF
        by_cases hb : z < 9223372036854775808
        · have hd : decide (-9223372036854775808 ≤ (z : Int) ∧ (z : Int) < 9223372036854775808) = true := by rw [decide_eq_true_iff]; omega
          have hF' : numF 0 l = some z := by rw [hF]; simp [Option.filter, hb]
          have := hq (by omega)
          rw [hd, hF']
          exact .mk ⟨rfl, E.trans E1, by rw [this]⟩
        · have hd : decide (-9223372036854775808 ≤ (z : Int) ∧ (z : Int) < 9223372036854775808) = false := by rw [decide_eq_false_iff_not]; omega
          have hF' : numF 0 l = none := by rw [hF]; simp [Option.filter]; omega
          rw [hd, hF']
          exact .mk ⟨rfl, E.trans E1, rfl⟩
      · have hF := numF_G l 0 (by omega)
        rw [hv] at hF
        have hF' : numF 0 l = none := by rw [hF]; rfl
        rw [e19_0r, hF']
        exact .mk ⟨rfl, E, rfl⟩
  · rintro x env h' ⟨rfl, E, rfl⟩
    rw [e19_7r]; exact .mk ⟨rfl, E⟩
/-- What spigotref11.Number answers. -/
def refV (o : Option Nat) : Int :=
  match o with
  | some m => (m : Int)
  | none => -1
theorem c_refnum {l : List UInt8} (hr : 1000000 ≤ r) : Gives (ev37 r (n + 8) 19 [.string (txt l)] h) fun v h' => v = .int .i64 (refV (numOf l)) ∧ Ext h h' := by
  rw [e19, txt_size]
  cases l with
  | nil => exact .mk ⟨rfl, .refl h⟩
  | cons b l =>
    rw [decide_eq_false (by simp; omega), cond_false]
    by_cases hl : 19 < (b :: l).length
    · rw [decide_eq_true (by omega), cond_true, numOf_long hl]
      exact .mk ⟨rfl, .refl h⟩
    · rw [decide_eq_false (by omega), cond_false]
      have e2 : ∀ (R : Type) (K : Int → Option R), idxS (txt (b :: l)) 0 K = K (b.toNat : Int) := fun R K => idx_mk (k := 0) (l := b :: l) rfl K
      cases l with
      | nil =>
        rw [decide_eq_false (by simp), cond_false]
        have : numOf [b] = numF 0 [b] := by simp [numOf]
        rw [this]
        exact c_refnum_loop (by simp) (by omega) hr
      | cons c l =>
        rw [decide_eq_true (by simp; omega), cond_true, e2]
        by_cases h48 : b.toNat = 48
        · have e3 : (((b.toNat : Nat) : Int) == 48) = true := by simp [h48]
          rw [e3, cond_true]
          exact .mk ⟨by simp [numOf, h48, refV], .refl h⟩
        · have e3 : (((b.toNat : Nat) : Int) == 48) = false := by simp; omega
          rw [e3, cond_false]
          have : numOf (b :: c :: l) = numF 0 (b :: c :: l) := by simp [numOf, h48]
          rw [this]
          exact c_refnum_loop (by simp) (by omega) hr
end
end Go.Ev
