/-
  The reference's whole numbers: what each function does.
-/
import Derived.Test.YtmblcddkoeaaeaaGreatEvS
import Derived.Test.YtmblcddkoeaaeaaGreatT30b
namespace Go.Ev
open Go Go.Proofs

theorem und_bs : P30.underlying 141 = some (.slice 4) := by kernel_rfl
theorem cel_b : cellsOf P30 4 = some 1 := by kernel_rfl
theorem agg_b : aggT P30 4 = some false := by kernel_rfl
theorem agg_bs : aggT P30 141 = some false := by kernel_rfl
theorem agg_num : aggT P30 143 = some true := by kernel_rfl
theorem cel_num : cellsOf P30 143 = some 2 := by kernel_rfl
theorem app_bs : appOk P30 ⟨[141, 141]⟩ 1 1 = true := by kernel_rfl

abbrev Bs (h : H) (a : Option Addr) (st : Nat) (l : List Bool) : Prop := Sl (fun b => [Value.bool b]) 1 h a st l
abbrev BsA (h0 h : H) (a : Option Addr) (st : Nat) (l : List Bool) : Prop := Acc (fun b => [Value.bool b]) 1 h0 h a st l

section
variable {r n : Nat} {h : H} {a b : Option Addr} {sa sb : Nat} {xs ys : List Bool}

theorem c_at (S : Bs h a sa xs) (i : Nat) : ev30 r (n + 1) 126 [.slice a xs.length sa, .int .i64 i] h = some (.bool (bitAt xs i), h) := by
  rw [e126]
  by_cases hlt : i < xs.length
  · have e : decide ((i : Int) < (xs.length : Int)) = true := by simpa using hlt
    rw [e, cond_true, S.read und_bs cel_b agg_b (bitAt_lt hlt), castV_mk]
  · have e : decide ((i : Int) < (xs.length : Int)) = false := by simpa using hlt
    rw [e, cond_false, bitAt_ge (by omega)]

theorem c_trim {h0 : H} (A : BsA h0 h a sa xs) (hl : xs.length < 1000000) (hr : 1000000 ≤ r) :
    ev30 r (n + 2) 127 [.slice a xs.length sa] h = some (.slice a (bits (val xs)).length sa, h) ∧ BsA h0 h a sa (bits (val xs)) := by
  have S := A.sl
  have main : Gives (ev30 r (n + 2) 127 [.slice a xs.length sa] h) fun v h' => (v = .slice a (bits (val xs)).length sa ∧ h' = h) ∧ BsA h0 h a sa (bits (val xs)) := by
    rw [e127]
    refine Gives.loop (fun k env hh => env = E127_0 (.slice a xs.length sa) (.int .i64 ((xs.length - k : Nat) : Int)) ∧ hh = h ∧ k ≤ xs.length ∧ ∀ i, xs.length - k ≤ i → bitAt xs i = false) xs.length
      (fun x env hh => x = .exit 0 ∧ ∃ m, m ≤ xs.length ∧ env = E127_0 (.slice a xs.length sa) (.int .i64 ((m : Nat) : Int)) ∧ hh = h ∧ (∀ i, m ≤ i → bitAt xs i = false) ∧ (m = 0 ∨ bitAt xs (m - 1) = true))
      (fun k env hh hk hI => ?_) ⟨by simp, rfl, by omega, fun i hi => bitAt_ge (by omega)⟩ (by omega) ?_
    · obtain ⟨rfl, rfl, hk, hz⟩ := hI
      by_cases h0 : k = xs.length
      · refine ⟨.off (.exit 0) _ _, fun nx K => ?_, rfl, 0, by omega, rfl, rfl, fun i _ => hz i (by omega), .inl rfl⟩
        rw [e127_0, h0]
        simp [Out.run]
      · have hp : 0 < xs.length - k := by omega
        have hw := wrap_pred hp (by omega)
        have e1 : decide (((xs.length - k : Nat) : Int) > 0) = true := by simp; omega
        cases hb : bitAt xs (xs.length - k - 1) with
        | true =>
          refine ⟨.off (.exit 0) _ _, fun nx K => ?_, rfl, xs.length - k, by omega, rfl, rfl, hz, .inr hb⟩
          rw [e127_0, e1, cond_true, hw, S.read und_bs cel_b agg_b (bitAt_lt (by omega)), hb]
          simp [Out.run]
        | false =>
          refine ⟨.on _ _, fun nx K => ?_, by omega, rfl, rfl, by omega, fun i hi => ?_⟩
          · rw [e127_0, e1, cond_true, hw, S.read und_bs cel_b agg_b (bitAt_lt (by omega)), hb]
            simp only [castV_mk, Bool.not_false, cond_true]
            rw [jumpK_mk (e127_4000004c ..), e127_4000004n, hw]
            rfl
          · by_cases hi' : i = xs.length - k - 1
            · rw [hi']; exact hb
            · exact hz i (by omega)
    · rintro x env h' ⟨rfl, m, hm, rfl, rfl, hz, ht⟩
      have hb := bits_take hm hz ht
      have hlen : (bits (val xs)).length = m := by rw [← hb, List.length_take]; omega
      rw [e127_0x0, A.cut und_bs cel_b hm, castSl_mk]
      exact .mk ⟨⟨by rw [hlen], rfl⟩, by rw [← hb]; exact A.take m⟩
  obtain ⟨v, h', e, ⟨rfl, rfl⟩, q⟩ := main
  exact ⟨e, q⟩

theorem c_plus (A : Bs h a sa xs) (B : Bs h b sb ys) (hx : xs.length < 900000) (hy : ys.length < 900000) (hr : 1000000 ≤ r) :
    Gives (ev30 r (n + 3) 115 [.slice a xs.length sa, .slice b ys.length sb] h) fun v h' => ∃ c sc, v = .slice c (bits (val xs + val ys)).length sc ∧ Ext h h' ∧ BsA h h' c sc (bits (val xs + val ys)) := by
  rw [e115]
  refine Gives.loop (fun k env hh => ∃ v sv out c, env = E115_0 (.slice a xs.length sa) (.slice b ys.length sb) (.slice v out.length sv) (.bool c) (.int .i64 (k : Int)) ∧ out.length = k ∧
      val out + 2 ^ k * b2n c = lower xs k + lower ys k ∧ Ext h hh ∧ BsA h hh v sv out ∧ (max xs.length ys.length < k → c = false)) (max xs.length ys.length + 1)
    (fun x env hh => x = .exit 0 ∧ ∃ v sv out, env = E115_2 (.slice v out.length sv) ∧ out.length ≤ max xs.length ys.length + 1 ∧ val out = val xs + val ys ∧ Ext h hh ∧ BsA h hh v sv out)
    (fun k env hh hk hI => ?_) ⟨none, 0, [], false, rfl, rfl, by simp [val, b2n, lower_zero], .refl h, .nil h h, fun _ => rfl⟩ (by omega) ?_
  · obtain ⟨v, sv, out, c, rfl, ho, hv, E, V, hc⟩ := hI
    by_cases hg : max xs.length ys.length ≤ k ∧ c = false
    · obtain ⟨hg, rfl⟩ := hg
      refine ⟨.off (.exit 0) _ _, fun nx K => ?_, rfl, v, sv, out, rfl, by omega, ?_, E, V⟩
      · rw [e115_0]
        have e1 : decide ((k : Int) < if (ys.length : Int) > (xs.length : Int) then (ys.length : Int) else (xs.length : Int)) = false := by
          rw [decide_eq_false_iff_not]; split <;> omega
        rw [e1]; rfl
      · simpa [b2n, lower_all (l := xs) (i := k) (by omega), lower_all (l := ys) (i := k) (by omega)] using hv
    · obtain ⟨v', h', ea, pu⟩ := V.push (P := P30) E (x := !((!(bitAt xs k == bitAt ys k)) == c)) rfl app_bs (by omega) (by omega)
      have piece : jmp30 r (n + 2) 115 0 (pc [1, 1, 1, 0, 1, 0, 0, 1] (bd Tryz.f115)) (E115_0 (.slice a xs.length sa) (.slice b ys.length sb) (.slice v out.length sv) (.bool c) (.int .i64 (k : Int))) hh =
          some (.normal, E115_0 (.slice a xs.length sa) (.slice b ys.length sb) (.slice v' (out.length + 1) 1) (.bool (bitAt xs k && bitAt ys k || c && (bitAt xs k || bitAt ys k))) (.int .i64 ((k + 1 : Nat) : Int)), h') := by
        rw [e115_4000004c, callK_mk (c_at (A.ext E) k), castV_mk, callK_mk (c_at (B.ext E) k), castV_mk, ea, castSl_mk, wrap_succ (by omega)]
        cases bitAt xs k <;> cases bitAt ys k <;> cases c <;> rfl
      refine ⟨.on _ _, fun nx K => ?_, ?_, v', 1, out ++ [!((!(bitAt xs k == bitAt ys k)) == c)], bitAt xs k && bitAt ys k || c && (bitAt xs k || bitAt ys k), rfl, by simp [ho], ?_, pu.ext, pu.acc, fun hk' => ?_⟩
      · rw [e115_0]
        by_cases h1 : k < max xs.length ys.length
        · have e1 : decide ((k : Int) < if (ys.length : Int) > (xs.length : Int) then (ys.length : Int) else (xs.length : Int)) = true := by
            rw [decide_eq_true_iff]; split <;> omega
          rw [e1, cond_true, jumpK_mk piece, e115_4000004n]
          simp [Out.run]
        · have e1 : decide ((k : Int) < if (ys.length : Int) > (xs.length : Int) then (ys.length : Int) else (xs.length : Int)) = false := by
            rw [decide_eq_false_iff_not]; split <;> omega
          have hct : c = true := by cases c with
            | true => rfl
            | false => exact absurd ⟨by omega, rfl⟩ hg
          rw [e1, cond_false, jumpK_mk piece, e115_4000004n, hct]
          simp [Out.run]
      · rcases Nat.lt_or_ge k (max xs.length ys.length + 1) with h1 | h1
        · exact h1
        · exact absurd ⟨by omega, hc (by omega)⟩ hg
      · rw [val_snoc, ho, lower_succ, lower_succ, Nat.pow_succ]
        have hs := add_step (x := bitAt xs k) (y := bitAt ys k) (c := c)
        have : 2 ^ k * b2n (!((!(bitAt xs k == bitAt ys k)) == c)) + 2 ^ k * 2 * b2n (bitAt xs k && bitAt ys k || c && (bitAt xs k || bitAt ys k)) = 2 ^ k * b2n (bitAt xs k) + 2 ^ k * b2n (bitAt ys k) + 2 ^ k * b2n c := by
          rw [Nat.mul_assoc, ← Nat.mul_add, ← Nat.mul_add, ← Nat.mul_add]; exact congrArg _ hs
        omega
      · rw [bitAt_ge (by omega), bitAt_ge (by omega)]; simp
  · rintro x env h' ⟨rfl, v, sv, out, rfl, hl, hv, E, V⟩
    obtain ⟨q1, q2⟩ := c_trim (n := n) V (by omega) hr
    rw [e115_0x0, callK_mk q1, castSl_mk]
    rw [hv] at q2
    exact .mk ⟨_, _, by rw [hv], E, q2⟩

theorem c_minus (A : Bs h a sa xs) (B : Bs h b sb ys) (hx : xs.length < 900000) (hle : val ys ≤ val xs) (hr : 1000000 ≤ r) :
    Gives (ev30 r (n + 3) 117 [.slice a xs.length sa, .slice b ys.length sb] h) fun v h' => ∃ c sc, v = .slice c (bits (val xs - val ys)).length sc ∧ Ext h h' ∧ BsA h h' c sc (bits (val xs - val ys)) := by
  rw [e117]
  refine Gives.loop (fun k env hh => ∃ v sv out c, env = E117_0 (.slice a xs.length sa) (.slice b ys.length sb) (.slice v out.length sv) (.bool c) (.int .i64 (k : Int)) ∧ out.length = k ∧
      val out + lower ys k = lower xs k + 2 ^ k * b2n c ∧ Ext h hh ∧ BsA h hh v sv out) xs.length
    (fun x env hh => x = .exit 0 ∧ ∃ v sv out, env = E117_2 (.slice v out.length sv) ∧ out.length ≤ xs.length ∧ val out = val xs - val ys ∧ Ext h hh ∧ BsA h hh v sv out)
    (fun k env hh hk hI => ?_) ⟨none, 0, [], false, rfl, rfl, by simp [val, b2n, lower_zero], .refl h, .nil h h⟩ (by omega) ?_
  · obtain ⟨v, sv, out, c, rfl, ho, hv, E, V⟩ := hI
    by_cases hg : k < xs.length
    · obtain ⟨v', h', ea, pu⟩ := V.push (P := P30) E (x := !((!(bitAt xs k == bitAt ys k)) == c)) rfl app_bs (by omega) (by omega)
      have e1 : decide ((k : Int) < (xs.length : Int)) = true := by simpa using hg
      refine ⟨.on _ _, fun nx K => ?_, hg, v', 1, out ++ [!((!(bitAt xs k == bitAt ys k)) == c)], !bitAt xs k && (bitAt ys k || c) || bitAt xs k && bitAt ys k && c, rfl, by simp [ho], ?_, pu.ext, pu.acc⟩
      · rw [e117_0, e1, cond_true, (A.ext E).read und_bs cel_b agg_b (bitAt_lt hg), castV_mk, callK_mk (c_at (B.ext E) k), castV_mk, ea, castSl_mk, wrap_succ (by omega)]
        cases bitAt xs k <;> cases bitAt ys k <;> cases c <;> simp [Out.run]
      · rw [val_snoc, ho, lower_succ, lower_succ, Nat.pow_succ]
        have hs := sub_step (x := bitAt xs k) (y := bitAt ys k) (c := c)
        have : 2 ^ k * b2n (!((!(bitAt xs k == bitAt ys k)) == c)) + 2 ^ k * b2n (bitAt ys k) + 2 ^ k * b2n c = 2 ^ k * b2n (bitAt xs k) + 2 ^ k * 2 * b2n (!bitAt xs k && (bitAt ys k || c) || bitAt xs k && bitAt ys k && c) := by
          rw [Nat.mul_assoc, ← Nat.mul_add, ← Nat.mul_add, ← Nat.mul_add]; exact congrArg _ hs
        omega
    · have hkk : k = xs.length := by omega
      have e1 : decide ((k : Int) < (xs.length : Int)) = false := by simpa using hg
      refine ⟨.off (.exit 0) _ _, fun nx K => by rw [e117_0, e1]; rfl, rfl, v, sv, out, rfl, by omega, ?_, E, V⟩
      have h1 := lower_all (l := xs) (i := k) (by omega)
      have h2 : lower ys k = val ys := by
        have h3 := val_lt xs
        have h4 : val ys < 2 ^ k := by rw [hkk]; omega
        have h5 := lower_lt ys k
        apply Nat.eq_of_testBit_eq
        intro i
        rw [val_testBit]
        by_cases hi : i < k
        · unfold lower
          rw [val_testBit]
          simp [bitAt, List.getD_eq_getElem?_getD, hi]
        · have hp : 2 ^ k ≤ 2 ^ i := Nat.pow_le_pow_right (by omega) (by omega)
          rw [Nat.testBit_lt_two_pow (by omega)]
          have := val_testBit ys i
          rw [Nat.testBit_lt_two_pow (by omega)] at this
          exact this
      have h6 := val_lt out
      rw [ho] at h6
      have h7 : c = false := by
        cases c with
        | false => rfl
        | true => simp only [b2n, if_true, Nat.mul_one] at hv; omega
      rw [h7] at hv
      simp only [b2n, Bool.false_eq_true, if_false, Nat.mul_zero] at hv
      omega
  · rintro x env h' ⟨rfl, v, sv, out, rfl, hl, hv, E, V⟩
    obtain ⟨q1, q2⟩ := c_trim (n := n) V (by omega) hr
    rw [e117_0x0, callK_mk q1, castSl_mk]
    rw [hv] at q2
    exact .mk ⟨_, _, by rw [hv], E, q2⟩

theorem c_cmp (A : Bs h a sa xs) (B : Bs h b sb ys) (hx : xs.length < 900000) (hy : ys.length < 900000) (hr : 1000000 ≤ r) :
    ev30 r (n + 2) 116 [.slice a xs.length sa, .slice b ys.length sb] h = some (.int .i64 (if val xs < val ys then -1 else if val xs = val ys then 0 else 1), h) := by
  apply Gives.eq
  rw [e116]
  refine Gives.loop (fun k env hh => env = E116_0 (.slice a xs.length sa) (.slice b ys.length sb) (.int .i64 ((max xs.length ys.length : Nat) - 1 - k : Int)) ∧ hh = h ∧
      ∀ i, max xs.length ys.length - k ≤ i → bitAt xs i = bitAt ys i) (max xs.length ys.length)
    (fun x env hh => hh = h ∧ ((x = .exit 0 ∧ env = E116_2 ∧ val xs = val ys) ∨ (x = .ret ∧ env = E116_r (.int .i64 1) ∧ val ys < val xs) ∨ (x = .ret ∧ env = E116_r (.int .i64 (-1)) ∧ val xs < val ys)))
    (fun k env hh hk hI => ?_) ⟨?_, rfl, fun i hi => by rw [bitAt_ge (by omega), bitAt_ge (by omega)]⟩ (by omega) ?_
  · obtain ⟨rfl, rfl, hz⟩ := hI
    by_cases hg : k < max xs.length ys.length
    · obtain ⟨m, hm⟩ : ∃ m : Nat, max xs.length ys.length = m + 1 + k := ⟨max xs.length ys.length - 1 - k, by omega⟩
      have hi : ((max xs.length ys.length : Nat) - 1 - k : Int) = ((m : Nat) : Int) := by omega
      rw [hi]
      have e1 : decide (((m : Nat) : Int) ≥ 0) = true := by simp
      cases hxx : bitAt xs m <;> cases hyy : bitAt ys m
      · refine ⟨.on _ _, fun nx K => ?_, hg, rfl, rfl, fun i hi => ?_⟩
        · rw [e116_0, e1, cond_true, callK_mk (c_at A m), castV_mk, callK_mk (c_at B m), castV_mk, hxx, hyy, wrap_id (by omega) (by omega)]
          simp only [Out.run]
          have : ((m : Int) - 1) = ((max xs.length ys.length : Nat) - 1 - ((k + 1 : Nat) : Int) : Int) := by omega
          rw [this]; rfl
        · by_cases him : i = m
          · rw [him, hxx, hyy]
          · exact hz i (by omega)
      · refine ⟨.off .ret _ _, fun nx K => ?_, rfl, .inr (.inr ⟨rfl, rfl, ?_⟩)⟩
        · rw [e116_0, e1, cond_true, callK_mk (c_at A m), castV_mk, callK_mk (c_at B m), castV_mk, hxx, hyy]
          simp only [Bool.false_beq, Bool.not_true, Bool.not_false, cond_true]
          rw [callK_mk (c_at A m), hxx]
          rfl
        · exact lt_of_top m _ _ (by rw [val_testBit, hxx]) (by rw [val_testBit, hyy]) fun j hj => by rw [val_testBit, val_testBit]; exact hz j (by omega)
      · refine ⟨.off .ret _ _, fun nx K => ?_, rfl, .inr (.inl ⟨rfl, rfl, ?_⟩)⟩
        · rw [e116_0, e1, cond_true, callK_mk (c_at A m), castV_mk, callK_mk (c_at B m), castV_mk, hxx, hyy]
          simp only [Bool.true_beq, Bool.not_false, cond_true]
          rw [callK_mk (c_at A m), hxx]
          rfl
        · exact lt_of_top m _ _ (by rw [val_testBit, hyy]) (by rw [val_testBit, hxx]) fun j hj => by rw [val_testBit, val_testBit]; exact (hz j (by omega)).symm
      · refine ⟨.on _ _, fun nx K => ?_, hg, rfl, rfl, fun i hi => ?_⟩
        · rw [e116_0, e1, cond_true, callK_mk (c_at A m), castV_mk, callK_mk (c_at B m), castV_mk, hxx, hyy, wrap_id (by omega) (by omega)]
          simp only [Out.run]
          have : ((m : Int) - 1) = ((max xs.length ys.length : Nat) - 1 - ((k + 1 : Nat) : Int) : Int) := by omega
          rw [this]; rfl
        · by_cases him : i = m
          · rw [him, hxx, hyy]
          · exact hz i (by omega)
    · have e1 : decide (((max xs.length ys.length : Nat) - 1 - k : Int) ≥ 0) = false := by rw [decide_eq_false_iff_not]; omega
      refine ⟨.off (.exit 0) _ _, fun nx K => by rw [e116_0, e1]; rfl, rfl, .inl ⟨rfl, rfl, ?_⟩⟩
      apply Nat.eq_of_testBit_eq
      intro i
      rw [val_testBit, val_testBit]; exact hz i (by omega)
  · congr 2
    rw [wrap_id] <;> split <;> omega
  · rintro x env h' ⟨rfl, ⟨rfl, rfl, q⟩ | ⟨rfl, rfl, q⟩ | ⟨rfl, rfl, q⟩⟩
    · rw [e116_0x0, q]; exact .mk ⟨by simp, rfl⟩
    · rw [e116_0r, if_neg (by omega), if_neg (by omega)]; exact .mk ⟨rfl, rfl⟩
    · rw [e116_0r, if_pos q]; exact .mk ⟨rfl, rfl⟩

/-! ### numbers with a sign -/

theorem bits_lt {z : Int} (h0 : -18446744073709551616 < z) (h1 : z < 18446744073709551616) : (mag z).length ≤ 64 := bits_length (by omega)

theorem c_of_piece {x2 : Nat} {z : Int} {m : Nat} {hh : H} (hm : m < 18446744073709551616) (E0 : Ext h hh) (H2 : Has hh x2 (.cells [.bool false, .slice none 0 0] false)) (hx : h.next ≤ x2) (hr : 1000000 ≤ r) :
    GivesX (jmp30 r (n + 1) 63 0 (pc [1, 1, 1] (bd Tryz.f63)) (E63_9 (.int .i64 z) (.pointer (some ⟨x2, 0, none⟩)) (.int .u64 (m : Int))) hh) fun x env h' => x = .ret ∧ env = E63_r (.pointer (some ⟨x2, 0, none⟩)) ∧ Ext h h' ∧
      ∃ c sc, Has h' x2 (.cells [.bool (sgn z), .slice c (bits m).length sc] false) ∧ BsA h h' c sc (bits m) := by
  have hbl : (bits m).length ≤ 64 := bits_length hm
  rw [e63_9c]
  refine GivesX.loop (fun k env hh => ∃ v sv out m', env = E63_0 (.int .i64 z) (.pointer (some ⟨x2, 0, none⟩)) (.int .u64 ((m' : Nat) : Int)) (.slice v out.length sv) ∧ bits m = out ++ bits m' ∧ out.length = k ∧ m' < 18446744073709551616 ∧
      Ext h hh ∧ BsA h hh v sv out ∧ Has hh x2 (.cells [.bool false, .slice none 0 0] false) ∧ (∀ o, v ≠ some ⟨x2, o, none⟩)) (bits m).length
    (fun x env hh => x = .exit 0 ∧ ∃ v sv, env = E63_2 (.int .i64 z) (.pointer (some ⟨x2, 0, none⟩)) (.slice v (bits m).length sv) ∧ Ext h hh ∧ BsA h hh v sv (bits m) ∧ Has hh x2 (.cells [.bool false, .slice none 0 0] false) ∧ (∀ o, v ≠ some ⟨x2, o, none⟩))
    (fun k env hh hk hI => ?_) ⟨none, 0, [], m, rfl, rfl, rfl, hm, E0, .nil _ _, H2, fun o => by simp⟩ (by omega) ?_
  · obtain ⟨v, sv, out, m', rfl, hb, ho, hm', E, V, H2, hv⟩ := hI
    by_cases h0 : m' = 0
    · subst h0
      have hb' : bits m = out := by rw [hb, bits_zero, List.append_nil]
      refine ⟨.off (.exit 0) _ _, fun nx K => ?_, rfl, v, sv, by rw [hb'], E, by rw [hb']; exact V, H2, hv⟩
      rw [e63_0]; rfl
    · obtain ⟨v', h', ea, pu⟩ := V.push (P := P30) E (x := m' % 2 == 1) rfl app_bs (by omega) (by omega)
      have hlen : out.length + 1 + (bits (m' / 2)).length = (bits m).length := by rw [hb, bits_pos h0]; simp; omega
      have e1 : decide (((m' : Nat) : Int) > 0) = true := by simp; omega
      have e2 : (((m' : Nat) : Int).tmod 2 == 1) = (m' % 2 == 1) := by
        rw [show ((m' : Int).tmod 2) = ((m' % 2 : Nat) : Int) from by rw [Int.tmod_eq_emod_of_nonneg (by omega)]; omega]
        by_cases h : m' % 2 = 1
        · simp [h]
        · have : m' % 2 = 0 := by omega
          simp [this]
      have e3 : IntKind.u64.wrap (((m' : Nat) : Int).tdiv 2) = ((m' / 2 : Nat) : Int) := by
        rw [Int.tdiv_eq_ediv_of_nonneg (by omega), wrapu_id (by omega) (by omega)]; omega
      refine ⟨.on _ _, fun nx K => ?_, by omega, v', 1, out ++ [m' % 2 == 1], m' / 2, rfl, by rw [hb, bits_pos h0]; simp, by simp [ho], by omega, pu.ext, pu.acc, pu.old _ _ H2 hv, fun o => ?_⟩
      · rw [e63_0, e1, cond_true, e2, ea, castSl_mk, e3]
        simp [Out.run]
      · obtain ⟨j, hj, hlt⟩ := pu.own
        rw [hj]
        intro e
        cases e
        have := H2.1; omega
  · rintro x env h' ⟨rfl, v, sv, rfl, E, V, H2, hv⟩
    rw [e63_0x0, st_all (vs := [.bool (decide (z < 0)), .slice v (bits m).length sv]) H2 rfl, optK_mk]
    exact .mk ⟨rfl, rfl, E.put hx _, v, sv, H2.over _, V.put hv _⟩

theorem c_of {z : Int} (hz : -9223372036854775808 ≤ z ∧ z < 9223372036854775808) (hr : 1000000 ≤ r) :
    Gives (ev30 r (n + 2) 63 [.int .i64 z] h) fun v h' => ∃ c sc, v = .agg #[.bool (sgn z), .slice c (mag z).length sc] ∧ Ext h h' ∧ BsA h h' c sc (mag z) := by
  rw [e63]
  have key : ∀ m : Nat, m = z.natAbs → Gives (jumpK (jmp30 r (n + 1) 63 0 (pc [1, 1, 1] (bd Tryz.f63)) (E63_9 (.int .i64 z) (.pointer (some ⟨h.next, 0, none⟩)) (.int .u64 (m : Int))) (h.new (Blk.cells [Value.bool false, Value.slice none 0 0] false)))
      (finK P30 [ResultVar.cell 2 143])) fun v h' => ∃ c sc, v = .agg #[.bool (sgn z), .slice c (mag z).length sc] ∧ Ext h h' ∧ BsA h h' c sc (mag z) := by
    intro m hm
    refine Gives.jump (c_of_piece (by omega) ((Ext.refl h).new _) (Has.here _ _) (Nat.le_refl _) hr) ?_
    rintro x env h' ⟨rfl, rfl, E, c, sc, H2, V⟩
    subst hm
    rw [e63_9r, ld_agg agg_num cel_num H2 (by simp), optK_mk]
    exact .mk ⟨c, sc, rfl, E, V⟩
  by_cases h0 : z < 0
  · rw [decide_eq_true h0, cond_true]
    have e : IntKind.u64.wrap (0 - IntKind.u64.wrap z) = ((z.natAbs : Nat) : Int) := by rw [wrapu_eq, wrapu_eq]; omega
    rw [e]; exact key _ rfl
  · rw [decide_eq_false h0, cond_false]
    have e : IntKind.u64.wrap z = ((z.natAbs : Nat) : Int) := by rw [wrapu_id (by omega) (by omega)]; omega
    rw [e]; exact key _ rfl

theorem same_b {i o : Nat} {b : Bool} (e : ldV P30 4 i o h = some (.bool b)) : sameLd P30 4 i o (.bool b) h = true := by
  unfold sameLd; rw [e]; simp [eqV]

theorem c_add {x y : Int} {va vb : Option Addr} (A : Bs h va sa (mag x)) (B : Bs h vb sb (mag y)) (hx : (mag x).length < 800000) (hy : (mag y).length < 800000) (hr : 1000000 ≤ r) :
    Gives (ev30 r (n + 4) 95 [.agg #[.bool (sgn x), .slice va (mag x).length sa], .agg #[.bool (sgn y), .slice vb (mag y).length sb]] h) fun v h' =>
      ∃ c sc, v = .agg #[.bool (sgn (x + y)), .slice c (mag (x + y)).length sc] ∧ Ext h h' ∧ BsA h h' c sc (mag (x + y)) := by
  generalize hX : Blk.cells [Value.bool (sgn x), Value.slice va (mag x).length sa] false = X
  generalize hY : Blk.cells [Value.bool (sgn y), Value.slice vb (mag y).length sb] false = Y
  generalize hZ : Blk.cells [Value.bool false, Value.slice none 0 0] false = Z
  have E3 : Ext h (((h.new X).new Y).new Z) := (((Ext.refl h).new _).new _).new _
  have HX : Has (((h.new X).new Y).new Z) h.next X := ((Has.here _ _).new _).new _
  have HY : Has (((h.new X).new Y).new Z) (h.next + 1) Y := (Has.here (h.new X) Y).new _
  have HZ : Has (((h.new X).new Y).new Z) (h.next + 1 + 1) Z := Has.here ((h.new X).new Y) Z
  have hn3 : (((h.new X).new Y).new Z).next = h.next + 3 := rfl
  rw [e95]
  have cx : (Value.agg #[Value.bool (sgn x), Value.slice va (mag x).length sa]).cells.toList = [Value.bool (sgn x), Value.slice va (mag x).length sa] := rfl
  have cy : (Value.agg #[Value.bool (sgn y), Value.slice vb (mag y).length sb]).cells.toList = [Value.bool (sgn y), Value.slice vb (mag y).length sb] := rfl
  have cz : (Value.agg #[Value.bool false, Value.slice none 0 0]).cells.toList = [Value.bool false, Value.slice none 0 0] := rfl
  simp only [cx, cy, cz, hX, hY, hZ]
  generalize hw : ((h.new X).new Y).new Z = w at *
  subst hX hY hZ
  -- what is read, now and later
  have l1 : ∀ {w'}, Ext w w' → ldV P30 4 h.next 0 w' = some (.bool (sgn x)) := fun E => ld_at agg_b (HX.ext E)
  have l2 : ∀ {w'}, Ext w w' → ldV P30 4 (h.next + 1) 0 w' = some (.bool (sgn y)) := fun E => ld_at agg_b (HY.ext E)
  have l3 : ∀ {w'}, Ext w w' → ldV P30 141 h.next 1 w' = some (.slice va (mag x).length sa) := fun E => ld_at agg_bs (HX.ext E)
  have l4 : ∀ {w'}, Ext w w' → ldV P30 141 (h.next + 1) 1 w' = some (.slice vb (mag y).length sb) := fun E => ld_at agg_bs (HY.ext E)
  have fin : ∀ (s : Bool) (c : Option Addr) (sc : Nat) (l : List Bool) {w'}, Ext w w' → BsA w w' c sc l → Gives (optK (stCells w' (h.next + 1 + 1) 0 [.bool s, .slice c l.length sc]) fun h1 => optK (ldV P30 143 (h.next + 1 + 1) 0 h1) fun v => some (v, h1)) fun v h' =>
      v = .agg #[.bool s, .slice c l.length sc] ∧ Ext h h' ∧ BsA h h' c sc l := by
    intro s c sc l w' E V
    have HZ' := HZ.ext E
    have hne : ∀ o, c ≠ some ⟨h.next + 1 + 1, o, none⟩ := by
      intro o e
      rcases V with ⟨_, h2, _⟩ | ⟨_, j, _, h2, h3, _⟩
      · rw [h2] at e; cases e
      · rw [h2] at e; cases e
        rw [hn3] at h3; omega
    rw [st_all (vs := [.bool s, .slice c l.length sc]) HZ' rfl, optK_mk, ld_agg agg_num cel_num (HZ'.over _) (by simp), optK_mk]
    refine .mk ⟨rfl, (E3.trans E).put (by omega) _, ?_⟩
    have V' : BsA h w' c sc l := V.imp id fun ⟨h1, j, c, h2, h3, h4⟩ => ⟨h1, j, c, h2, by rw [hn3] at h3; omega, h4⟩
    exact V'.put hne _
  rw [l1 (.refl _), optK_mk, castV_mk, l2 (.refl _), optK_mk, castV_mk]
  by_cases hs : sgn x = sgn y
  · have e1 : (sgn x == sgn y) = true := by rw [hs]; simp
    rw [e1, cond_true, l3 (.refl _), optK_mk, castSl_mk, l4 (.refl _), optK_mk, castSl_mk]
    refine Gives.call (c_plus (n := n) (A.ext E3) (B.ext E3) (by omega) (by omega) hr) ?_
    rintro v h' ⟨c, sc, rfl, E, V⟩
    rw [castSl_mk, l1 E, optK_mk, castV_mk, same_b (l1 (.refl _)), cond_true]
    refine (fin _ _ _ _ E V).mono ?_
    rintro v h2 ⟨rfl, E2, V2⟩
    have ex : val (mag x) + val (mag y) = (x + y).natAbs := by
      unfold mag; rw [val_bits, val_bits]; unfold sgn at hs
      by_cases h0 : x < 0 <;> by_cases h1 : y < 0 <;> simp [h0, h1] at hs <;> omega
    have es : sgn x = sgn (x + y) := by
      unfold sgn at hs ⊢
      by_cases h0 : x < 0 <;> by_cases h1 : y < 0 <;> simp [h0, h1] at hs ⊢ <;> omega
    rw [ex] at V2 ⊢
    rw [es]
    exact ⟨c, sc, rfl, E2, V2⟩
  · have e1 : (sgn x == sgn y) = false := by simpa using hs
    have vx : val (mag x) = x.natAbs := val_bits _
    have vy : val (mag y) = y.natAbs := val_bits _
    rw [e1, cond_false, l3 (.refl _), optK_mk, castSl_mk, l4 (.refl _), optK_mk, castSl_mk, callK_mk (c_cmp (n := n + 1) (A.ext E3) (B.ext E3) (by omega) (by omega) hr), castI_mk]
    by_cases hlt : val (mag x) < val (mag y)
    · rw [if_pos hlt, decide_eq_true (by decide), cond_true, l4 (.refl _), optK_mk, castSl_mk, l3 (.refl _), optK_mk, castSl_mk]
      refine Gives.call (c_minus (n := n) (B.ext E3) (A.ext E3) (by omega) (by omega) hr) ?_
      rintro v h' ⟨c, sc, rfl, E, V⟩
      rw [castSl_mk, l2 E, optK_mk, castV_mk, same_b (l2 (.refl _)), cond_true]
      refine (fin _ _ _ _ E V).mono ?_
      rintro v h2 ⟨rfl, E2, V2⟩
      have ex : val (mag y) - val (mag x) = (x + y).natAbs := by
        rw [vx, vy]; rw [vx, vy] at hlt; unfold sgn at hs
        by_cases h0 : x < 0 <;> by_cases h1 : y < 0 <;> simp [h0, h1] at hs <;> omega
      have es : sgn y = sgn (x + y) := by
        rw [vx, vy] at hlt
        unfold sgn at hs ⊢
        by_cases h0 : x < 0 <;> by_cases h1 : y < 0 <;> simp [h0, h1] at hs ⊢ <;> omega
      rw [ex] at V2 ⊢
      rw [es]
      exact ⟨c, sc, rfl, E2, V2⟩
    · have e2 : decide ((if val (mag x) < val (mag y) then (-1 : Int) else if val (mag x) = val (mag y) then 0 else 1) < 0) = false := by
        rw [if_neg hlt]; split <;> decide
      rw [e2, cond_false, l3 (.refl _), optK_mk, castSl_mk, l4 (.refl _), optK_mk, castSl_mk]
      refine Gives.call (c_minus (n := n) (A.ext E3) (B.ext E3) (by omega) (by omega) hr) ?_
      rintro v h' ⟨c, sc, rfl, E, V⟩
      rw [castSl_mk, l1 E, optK_mk, castV_mk]
      have ex : val (mag x) - val (mag y) = (x + y).natAbs := by
        rw [vx, vy]; rw [vx, vy] at hlt; unfold sgn at hs
        by_cases h0 : x < 0 <;> by_cases h1 : y < 0 <;> simp [h0, h1] at hs <;> omega
      have hpos : ((((bits (x + y).natAbs).length : Nat) : Int) > 0) ↔ x + y ≠ 0 := by
        constructor
        · intro h9 h8; rw [h8] at h9; simp [bits_zero] at h9
        · intro h9
          have : bits (x + y).natAbs ≠ [] := fun e => h9 (by have := bits_nil.1 e; omega)
          have := List.length_pos_iff.2 this
          omega
      rw [ex] at V ⊢
      by_cases h0 : x < 0
      · have : sgn x = true := by simp [sgn, h0]
        rw [this, cond_true]
        refine (fin _ _ _ _ E V).mono ?_
        rintro v h2 ⟨rfl, E2, V2⟩
        have es : decide ((((bits (x + y).natAbs).length : Nat) : Int) > 0) = sgn (x + y) := by
          unfold sgn at hs ⊢
          rw [vx, vy] at hlt
          have h1 : ¬ y < 0 := fun h1 => hs (by simp [h0, h1])
          rw [decide_eq_decide, hpos]; omega
        exact ⟨c, sc, by rw [es]; rfl, E2, V2⟩
      · have : sgn x = false := by simp [sgn, h0]
        rw [this, cond_false]
        refine (fin _ _ _ _ E V).mono ?_
        rintro v h2 ⟨rfl, E2, V2⟩
        have es : false = sgn (x + y) := by
          unfold sgn at hs ⊢
          rw [vx, vy] at hlt
          by_cases h1 : y < 0 <;> simp [h0, h1] at hs ⊢ <;> omega
        exact ⟨c, sc, by rw [es]; rfl, E2, V2⟩

theorem c_int {z : Int} (A : Bs h a sa (mag z)) (hl : (mag z).length < 800000) (hr : 1000000 ≤ r) :
    Gives (ev30 r (n + 1) 94 [.agg #[.bool (sgn z), .slice a (mag z).length sa]] h) fun v h' => Ext h h' ∧ ∃ q : Int,
      v = .tuple #[.int .i64 q, .bool (decide (-9223372036854775808 ≤ z ∧ z < 9223372036854775808))] ∧ (-9223372036854775808 ≤ z ∧ z < 9223372036854775808 → q = z) := by
  rw [e94]
  generalize hX : Blk.cells [Value.bool (sgn z), Value.slice a (mag z).length sa] false = X
  have E1 : Ext h (h.new X) := (Ext.refl h).new _
  have HX : Has (h.new X) h.next X := Has.here _ _
  subst hX
  have l1 := ld_at (o := 1) agg_bs HX
  have l0 := ld_at (o := 0) agg_b HX
  have A' := A.ext E1
  generalize hw : h.new _ = w at *
  have vz : val (mag z) = z.natAbs := val_bits _
  rw [l1]
  simp only [List.getElem?_cons_succ, List.getElem?_cons_zero, optK_mk, castSl_mk]
  by_cases hb : (mag z).length > 64
  · have e1 : decide ((((mag z).length : Nat) : Int) > 64) = true := by simp; omega
    rw [e1, cond_true]
    refine .mk ⟨E1, 0, ?_, fun hz => ?_⟩
    · have : ¬ (-9223372036854775808 ≤ z ∧ z < 9223372036854775808) := fun hz => by
        have := bits_lt (z := z) (by omega) (by omega); omega
      rw [decide_eq_false this]
    · have := bits_lt (z := z) (by omega) (by omega); omega
  · have e1 : decide ((((mag z).length : Nat) : Int) > 64) = false := by simp; omega
    rw [e1, cond_false]
    have hpow : z.natAbs < 2 ^ 64 := by
      rw [← vz]
      have h1 := val_lt (mag z)
      have h2 : 2 ^ (mag z).length ≤ 2 ^ 64 := Nat.pow_le_pow_right (by omega) (by omega)
      omega
    refine Gives.loop (fun k env hh => hh = w ∧ k ≤ (mag z).length ∧ env = E94_0 (.pointer (some ⟨h.next, 0, none⟩)) (.int .u64 ((val ((mag z).drop ((mag z).length - k)) : Nat) : Int)) (.int .i64 (((mag z).length : Nat) - 1 - k : Int))) (mag z).length
      (fun x env hh => hh = w ∧ x = .exit 0 ∧ env = E94_2 (.pointer (some ⟨h.next, 0, none⟩)) (.int .u64 ((z.natAbs : Nat) : Int)))
      (fun k env hh hk hI => ?_) ⟨rfl, by omega, ?_⟩ (by omega) ?_
    · obtain ⟨rfl, hk, rfl⟩ := hI
      by_cases hg : k < (mag z).length
      · obtain ⟨m, hm⟩ : ∃ m, (mag z).length = m + 1 + k := ⟨(mag z).length - 1 - k, by omega⟩
        have hi : (((mag z).length : Nat) - 1 - k : Int) = ((m : Nat) : Int) := by omega
        have hd1 : (mag z).length - k = m + 1 := by omega
        have hd2 : (mag z).length - (k + 1) = m := by omega
        have hdrop : (mag z).drop m = bitAt (mag z) m :: (mag z).drop (m + 1) := by
          rw [List.drop_eq_getElem_cons (by omega)]
          have : (mag z)[m]'(by omega) = bitAt (mag z) m := by simp [bitAt, List.getD_eq_getElem?_getD, show m < (mag z).length by omega]
          rw [this]
        have hvl : val ((mag z).drop (m + 1)) < 2 ^ 63 := by
          have h1 := val_lt ((mag z).drop (m + 1))
          have h2 : 2 ^ ((mag z).drop (m + 1)).length ≤ 2 ^ 63 := Nat.pow_le_pow_right (by omega) (by rw [List.length_drop]; omega)
          omega
        refine ⟨.on _ _, fun nx K => ?_, hg, rfl, by omega, rfl⟩
        rw [e94_0, hi, hd1, hd2, decide_eq_true (by omega : ((m : Nat) : Int) ≥ 0), cond_true, l1]
        simp only [List.getElem?_cons_succ, List.getElem?_cons_zero, optK_mk, castSl_mk]
        rw [A'.read und_bs cel_b agg_b (bitAt_lt (by omega)), castV_mk, hdrop, val]
        have e2 : (((mag z).length : Nat) - 1 - ((k + 1 : Nat) : Int) : Int) = ((m : Nat) : Int) - 1 := by omega
        rw [e2]
        cases bitAt (mag z) m with
        | true =>
          have e3 : (2 * ((val ((mag z).drop (m + 1)) : Nat) : Int) + 1) = ((b2n true + 2 * val ((mag z).drop (m + 1)) : Nat) : Int) := by simp [b2n]; omega
          rw [cond_true, wrapu_id (n := 2 * _) (by omega) (by omega), wrapu_id (by omega) (by omega), wrap_id (by omega) (by omega), e3]
          rfl
        | false =>
          have e3 : (2 * ((val ((mag z).drop (m + 1)) : Nat) : Int)) = ((b2n false + 2 * val ((mag z).drop (m + 1)) : Nat) : Int) := by simp [b2n]
          rw [cond_false, wrapu_id (by omega) (by omega), wrap_id (by omega) (by omega), e3]
          rfl
      · have hkk : k = (mag z).length := by omega
        refine ⟨.off (.exit 0) _ _, fun nx K => ?_, rfl, rfl, rfl⟩
        rw [e94_0, decide_eq_false (by omega), cond_false, hkk, Nat.sub_self, List.drop_zero, vz]
        rfl
    · rw [wrap_id (by omega) (by omega), Nat.sub_zero, List.drop_length]
      simp [val]
    · rintro x env h' ⟨rfl, rfl, rfl⟩
      rw [e94_0x0, l0]
      simp only [List.getElem?_cons_zero, optK_mk, castV_mk]
      by_cases h0 : z < 0
      · have : sgn z = true := by simp [sgn, h0]
        rw [this, cond_true]
        have hd : decide (((z.natAbs : Nat) : Int) ≤ 9223372036854775808) = decide (-9223372036854775808 ≤ z ∧ z < 9223372036854775808) := by rw [decide_eq_decide]; omega
        refine .mk ⟨E1, IntKind.i64.wrap (IntKind.u64.wrap (0 - ((z.natAbs : Nat) : Int))), by rw [hd], fun hz => ?_⟩
        · rw [wrapu_eq]
          unfold IntKind.wrap
          have q1 : IntKind.i64.bits = 64 := rfl
          have q2 : IntKind.i64.signed = true := rfl
          rw [q1, q2]
          simp only [Bool.true_and]
          split <;> simp_all <;> omega
      · have : sgn z = false := by simp [sgn, h0]
        rw [this, cond_false]
        have hd : decide (((z.natAbs : Nat) : Int) < 9223372036854775808) = decide (-9223372036854775808 ≤ z ∧ z < 9223372036854775808) := by rw [decide_eq_decide]; omega
        exact .mk ⟨E1, IntKind.i64.wrap ((z.natAbs : Nat) : Int), by rw [hd], fun hz => by rw [wrap_id (by omega) (by omega)]; omega⟩

theorem val_shift (k : Nat) (l : List Bool) : val (List.replicate k false ++ l) = 2 ^ k * val l := by
  induction k with
  | zero => simp
  | succ k ih => rw [List.replicate_succ, List.cons_append, val, ih, Nat.pow_succ]; simp only [b2n, Bool.false_eq_true, if_false]; rw [Nat.mul_comm (2 ^ k) 2, Nat.mul_assoc]; omega
theorem Acc.mk1 {α : Type} {e : α → List Value} {k : Nat} {h0 h : H} (E : Ext h0 h) {x : α} (hk : (e x).length = k) : Acc e k h0 (h.new (.cells (e x) false)) (some ⟨h.next, 0, none⟩) k [x] :=
  .inr ⟨rfl, _, _, rfl, E.1, Has.here _ _, fun y hy => by simp at hy; subst hy; exact hk, [], by simp⟩
theorem Acc.far {α : Type} {e : α → List Value} {k : Nat} {h0 h : H} {a : Option Addr} {st : Nat} {l : List α} (A : Acc e k h0 h a st l) {i : Nat} (hi : i < h0.next) (o : Nat) : a ≠ some ⟨i, o, none⟩ := by
  intro he
  rcases A with ⟨_, h2, _⟩ | ⟨_, j, _, h2, h3, _⟩
  · rw [h2] at he; cases he
  · rw [h2] at he; cases he; omega
theorem Acc.below {α : Type} {e : α → List Value} {k : Nat} {h0 h1 h : H} {a : Option Addr} {st : Nat} {l : List α} (A : Acc e k h1 h a st l) (E : h0.next ≤ h1.next) : Acc e k h0 h a st l :=
  A.imp id fun ⟨q1, j, c, q2, q3, q4⟩ => ⟨q1, j, c, q2, Nat.le_trans E q3, q4⟩

end
end Go.Ev
