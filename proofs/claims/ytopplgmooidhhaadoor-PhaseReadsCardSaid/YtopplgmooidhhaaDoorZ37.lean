/-
  PhaseReads: the text of a day; the law.
-/
import Derived.Test.YtopplgmooidhhaaDoorY37
namespace Go.Ev
open Go Go.Proofs

/-- A phase's word. -/
def item (p : Ph) : List UInt8 := ((([99, 111, 116, 101] : List UInt8).take p.2.toNat).drop (p.2.toNat - 1)) ++ digs 20 p.1.toNat
theorem item_len (p : Ph) : (item p).length ≤ 24 := by
  unfold item
  rw [List.length_append, List.length_drop, List.length_take]
  have := digs_len 20 p.1.toNat
  simp only [List.length_cons, List.length_nil]
  omega
def dayTxt (d : List Ph) : List UInt8 := joined [32] (d.map item)
theorem dayTxt_len {d : List Ph} (hd : d.length ≤ 1000) : (dayTxt d).length ≤ 100000 := by
  have := joined_len [32] 24 (d.map item) (fun x hx => by obtain ⟨p, _, rfl⟩ := List.mem_map.1 hx; exact item_len p)
  rw [List.length_map] at this
  unfold dayTxt
  have h2 : d.length * (24 + [32].length) ≤ 1000 * (24 + ([32] : List UInt8).length) := Nat.mul_le_mul_right _ hd
  have h3 : ([32] : List UInt8).length = 1 := rfl
  rw [h3] at *
  simp only [List.length_singleton] at *
  omega

section
variable {r n : Nat} {h : H} {a b : Option Addr} {sa sb : Nat} {d d' : List Ph}

theorem cote_slice {p : Ph} (hp : inB p) {R : Type} (K : Value → Option R) : sliceA P37 9 (.string (txt [99, 111, 116, 101])) (some (.int .i64 (IntKind.i64.wrap (p.2 - 1)))) (some (.int .i64 p.2)) K =
    K (.string (txt ((([99, 111, 116, 101] : List UInt8).take p.2.toNat).drop (p.2.toNat - 1)))) := by
  obtain ⟨k, hk⟩ : ∃ k : Nat, p.2 = (k : Int) := ⟨p.2.toNat, by have := hp.1.1; omega⟩
  have h1 := hp.1
  rw [hk] at h1 ⊢
  rw [wrap_pred (by omega) (by omega), slice_txt und9 .i64 .i64 (by omega) (by show k ≤ 4; omega), Int.toNat_natCast]

/-- phase.Print -/
theorem c_print (S : Ds h a sa d) (hl : d.length < 1000000) (hr : 1000000 ≤ r) : Gives (ev37 r (n + 5) 7 [.slice a d.length sa] h) fun v h' => Ext h h' ∧
    ((dayOk d ∧ v = .tuple ⟨[.string (txt (dayTxt d)), .int .i64 0]⟩) ∨ (¬ dayOk d ∧ v = .tuple ⟨[.string (txt []), .int .i64 370]⟩)) := by
  obtain ⟨v, h1, q1, E1, e, rfl, he⟩ := c_check (r := r) (n := n) S hl hr
  rw [e7, callK_mk q1, castI_mk]
  rcases he with ⟨hok, rfl⟩ | ⟨hno, rfl⟩
  · rw [show ((0 : Int) != 0) = false from rfl, cond_false]
    have hin : ∀ {k p}, d[k]? = some p → inB p := fun {k p} hp => (hok.2.2.2 k (List.getElem?_eq_some_iff.1 hp).1 p hp).1
    refine Gives.loop (fun k env hh => ∃ c sc, env = E7_0 (.slice c ((d.take k).map item).length sc) (.slice a d.length sa) (.int .i64 (d.length : Int)) (.int .i64 (k : Int)) ∧ Ext h hh ∧ Acc (fun w => [Value.string (txt w)]) 1 h hh c sc ((d.take k).map item)) d.length
      (fun x env hh => x = .exit 0 ∧ ∃ c sc, env = E7_2 (.slice c (d.map item).length sc) ∧ Ext h hh ∧ Acc (fun w => [Value.string (txt w)]) 1 h hh c sc (d.map item))
      (fun k env hh hk hI => ?_) ⟨none, 0, rfl, E1, .nil _ _⟩ (by omega) ?_
    · obtain ⟨c, sc, rfl, E, V⟩ := hI
      by_cases hg : k < d.length
      · have hget : d[k]? = some d[k] := List.getElem?_eq_getElem hg
        have htk : (d.take (k + 1)).map item = (d.take k).map item ++ [item d[k]] := by rw [List.take_add_one, hget, List.map_append]; rfl
        generalize d[k] = p at hget htk
        have hb := hin hget
        obtain ⟨j, o, hp, hix⟩ := Ds.at22 (S.ext E) hget
        have HX : Has (hh.new (.cells (phC p) false)) hh.next (.cells (phC p) false) := Has.here _ _
        have PX := Pt.of HX
        have l0 : ldV P37 3 hh.next 0 (hh.new (.cells (phC p) false)) = some (.int .i64 p.1) := by have := PX.when; simpa using this
        have l1 : ldV P37 3 hh.next 1 (hh.new (.cells (phC p) false)) = some (.int .i64 p.2) := by have := PX.kind; simpa using this
        have hsame : sameLd P37 3 hh.next 1 (.int .i64 p.2) (hh.new (.cells (phC p) false)) = true := by unfold sameLd; rw [l1]; simp [eqV]
        obtain ⟨v', h', ea, pu⟩ := (V.ext ((Ext.refl hh).new (.cells (phC p) false))).push (P := P37) (E.new _) (x := item p) rfl app44 (by omega) (by simp; omega)
        have hit : ev37 r (n + 4) 20 [.int .i64 p.1] (hh.new (.cells (phC p) false)) = some (.string (txt (digs 20 p.1.toNat)), hh.new (.cells (phC p) false)) := by
          rw [i_itoa (n := n + 3), itoa_mk _ (by have := hb.2; omega) (by have := hb.2; omega), itoaL_nat hb.2.1]
        refine ⟨.on _ h', fun nx K => ?_, hg, v', 1, rfl, pu.ext, by rw [htk]; exact pu.acc⟩
        rw [e7_0, decide_eq_true (by omega), cond_true, hix, addrK_mk, hp.whole47, optK_mk, castA_mk, ifK_pos (by rw [cel47]; rfl)]
        erw [st_new (cs := phC p) (by rfl)]
        rw [optK_mk, l0, optK_mk, castI_mk, callK_mk hit, castS_mk, l1, optK_mk, castI_mk, hsame, cond_true, optK_mk, castI_mk, hsame, cond_true, cote_slice hb, castS_mk]
        rw [ifK_pos (by rw [txt_size, txt_size]; have := digs_len 20 p.1.toNat; rw [List.length_drop, List.length_take]; simp only [List.length_cons, List.length_nil]; omega)]
        erw [ea]
        rw [castSl_mk, wrap_succ (by omega), htk, List.length_append]
        rfl
      · have hkk : k = d.length := by omega
        rw [hkk, List.take_length] at V
        refine ⟨.off (.exit 0) _ _, fun nx K => ?_, rfl, c, sc, rfl, E, V⟩
        rw [e7_0, decide_eq_false (by omega), cond_false, hkk, List.take_length]; rfl
    · rintro x env h' ⟨rfl, c, sc, rfl, E, V⟩
      rw [e7_0x0]
      have hne : d.map item ≠ [] := fun e => by have h8 := congrArg List.length e; have h9 := hok.1; rw [List.length_map, List.length_nil] at h8; omega
      have hj : ev37 r (n + 4) 21 [.slice c (d.map item).length sc, .string (txt [32])] h' = some (.string (txt (dayTxt d)), h') := by
        rw [i_join (n := n + 3)]
        exact join_mk V.sl hne (by simp; omega) (by have := dayTxt_len (d := d) (by have := hok.2.1; omega); unfold dayTxt at this; omega)
      rw [callK_mk hj, castS_mk]
      exact .mk ⟨E, .inl ⟨hok, rfl⟩⟩
  · rw [show ((370 : Int) != 0) = true from rfl, cond_true]
    exact .mk ⟨E1, .inr ⟨hno, rfl⟩⟩

/-- spigotref37.Print -/
theorem c_refprint (S : Ds h a sa d) (hok : dayOk d) (hr : 1000000 ≤ r) : ev37 r (n + 3) 11 [.slice a d.length sa] h = some (.string (txt (dayTxt d)), h) := by
  apply Gives.eq
  rw [e11]
  have hin : ∀ {k p}, d[k]? = some p → inB p := fun {k p} hp => (hok.2.2.2 k (List.getElem?_eq_some_iff.1 hp).1 p hp).1
  have hlen := hok.2.1
  refine Gives.loop (fun k env hh => hh = h ∧ env = E11_0 (.slice a d.length sa) (.string (txt [99, 111, 116, 101])) (.string (txt (dayTxt (d.take k)))) (.int .i64 (k : Int))) d.length
    (fun x env hh => hh = h ∧ x = .exit 0 ∧ env = E11_2 (.string (txt (dayTxt d))))
    (fun k env hh hk hI => ?_) ⟨rfl, rfl⟩ (by omega) ?_
  · obtain ⟨rfl, rfl⟩ := hI
    by_cases hg : k < d.length
    · have hget : d[k]? = some d[k] := List.getElem?_eq_getElem hg
      have htk : (d.take (k + 1)).map item = (d.take k).map item ++ [item d[k]] := by rw [List.take_add_one, hget, List.map_append]; rfl
      generalize d[k] = p at hget htk
      have hb := hin hget
      obtain ⟨j, o, hp, hix⟩ := S.at27 hget
      have hdg : ev37 r (n + 1) 23 [.int .i64 p.1] hh = some (.string (txt (digs 20 p.1.toNat)), hh) := by
        rw [i_digits (n := n), digits_mk _ hb.2.1 (by have := hb.2; omega)]
      have hsame : sameLd P37 3 j (o + 1) (.int .i64 p.2) hh = true := by unfold sameLd; rw [hp.kind]; simp [eqV]
      have hdl := digs_len 20 p.1.toNat
      have hcl : ((([99, 111, 116, 101] : List UInt8).take p.2.toNat).drop (p.2.toNat - 1)).length ≤ 4 := by rw [List.length_drop, List.length_take]; simp only [List.length_cons, List.length_nil]; omega
      have hcat : ∀ x y : List UInt8, txt x ++ txt y = txt (x ++ y) := fun x y => by
        have : (txt x ++ txt y).data.toList = (txt (x ++ y)).data.toList := by simp [txt]
        rw [← txt_data (txt x ++ txt y), this, txt_data]
      have piece : ∀ t : List UInt8, t.length ≤ 200000 → jmp37 r (n + 2) 11 1 (pc [1, 1, 1, 0, 1, 0, 0, 1, 0, 0, 1] (bd Tryd.f11)) (E11_0 (.slice a d.length sa) (.string (txt [99, 111, 116, 101])) (.string (txt t)) (.int .i64 (k : Int))) hh =
          some (.normal, E11_0 (.slice a d.length sa) (.string (txt [99, 111, 116, 101])) (.string (txt (t ++ item p))) (.int .i64 (k : Int)), hh) := by
        intro t ht
        rw [e11_17c, hix, addrK_mk, hp.when, optK_mk, castI_mk, callK_mk hdg, castS_mk, hix, addrK_mk, hp.kind, optK_mk, castI_mk, hsame, cond_true, hix, addrK_mk, hp.kind, optK_mk, castI_mk, hsame, cond_true, cote_slice hb, castS_mk]
        rw [hcat, ifK_pos (by rw [txt_size, txt_size]; omega), ifK_pos (by rw [txt_size, txt_size, List.length_append]; omega)]
        have : (txt t).data.toList ++ (txt (List.drop (p.2.toNat - 1) (List.take p.2.toNat [99, 111, 116, 101]) ++ digs 20 p.1.toNat)).data.toList = t ++ item p := by simp [txt, item]
        rw [this]
        rfl
      have hpl := dayTxt_len (d := d.take k) (by rw [List.length_take]; omega)
      refine ⟨.on _ hh, fun nx K => ?_, hg, rfl, rfl⟩
      by_cases h0 : k = 0
      · have hz : dayTxt (d.take k) = [] := by rw [h0]; rfl
        have hz2 : dayTxt (d.take (k + 1)) = item p := by unfold dayTxt; rw [htk, h0]; rfl
        rw [e11_0, decide_eq_true (by omega), cond_true, decide_eq_false (by omega), cond_false, hz, jumpK_mk (piece [] (by simp)), e11_17n, wrap_succ (by omega), List.nil_append, hz2]
        rfl
      · have hz2 : dayTxt (d.take (k + 1)) = (dayTxt (d.take k) ++ [32]) ++ item p := by
          unfold dayTxt; rw [htk, joined_snoc]
          intro e; have h8 := congrArg List.length e; rw [List.length_map, List.length_take, List.length_nil] at h8; omega
        rw [e11_0, decide_eq_true (by omega), cond_true, decide_eq_true (by omega), cond_true, ifK_pos (by rw [txt_size]; omega)]
        have e9 : (Value.string { data := { toList := (txt (dayTxt (d.take k))).data.toList ++ [32] } }) = .string (txt (dayTxt (d.take k) ++ [32])) := by simp [txt]
        rw [e9, jumpK_mk (piece (dayTxt (d.take k) ++ [32]) (by simp; omega)), e11_17n, wrap_succ (by omega), hz2]
        rfl
    · have hkk : k = d.length := by omega
      refine ⟨.off (.exit 0) _ _, fun nx K => ?_, rfl, rfl, rfl⟩
      rw [e11_0, decide_eq_false (by omega), cond_false, hkk, List.take_length]; rfl
  · rintro x env h' ⟨rfl, rfl, rfl⟩
    rw [e11_0x0]
    exact .mk ⟨rfl, rfl⟩

/-- PhaseReads, once awake. -/
theorem c_law {l : List UInt8} (S : Ds h a sa d) (hr : 1000000 ≤ r) (hw : Gives (ev37 r (n + 13) 4 [] h) fun v h' => v = .bool true ∧ Ext h h') :
    Gives (ev37 r (n + 14) 3 [.string (txt l), .slice a d.length sa] h) fun v h' => v = .bool true ∧ Ext h h' := by
  obtain ⟨v, h0, q0, rfl, E0⟩ := hw
  rw [e3, callK_mk q0, castV_mk, Bool.not_true, cond_false, txt_size]
  by_cases hl : l.length > 1000
  · rw [decide_eq_true (by omega), cond_true]; exact .mk ⟨rfl, E0⟩
  · rw [decide_eq_false (by omega), cond_false]
    by_cases hd : d.length > 100
    · rw [decide_eq_true (by omega), cond_true]; exact .mk ⟨rfl, E0⟩
    · rw [decide_eq_false (by omega), cond_false]
      refine Gives.jump (Q := fun x env h' => x = .ret ∧ env = E3_r (.bool true) ∧ Ext h h') ?_ ?_
      · rw [e3_11c]
        obtain ⟨v1, h1, q1, E1, c1, s1, d1, x1, rfl, D1, R1⟩ := c_read (r := r) (n := n + 6) (h := h0) (l := l) (by omega) hr
        obtain ⟨v2, h2, q2, E2, c2, s2, d2, x2, rfl, D2, R2⟩ := c_refread (r := r) (n := n + 1) (h := h1) (l := l) (by omega) hr
        have S2 := S.ext (E0.trans (E1.trans E2))
        obtain ⟨v3, h3, q3, E3, R3⟩ := c_print (r := r) (n := n + 7) S2 (by omega) hr
        obtain ⟨rfl, rfl⟩ := R1.uniq R2
        have hd1 : d1.length < 200000 := by
          rcases R1 with ⟨_, rfl, _⟩ | ⟨d', _, ⟨q, rfl, _⟩ | ⟨_, rfl, _⟩⟩
          · simp
          · have := q.2.1; omega
          · simp
        have E13 : Ext h1 h3 := E2.trans E3
        obtain ⟨v4, h4, q4, E4, c4, s4, rfl, D4⟩ := c_plain (r := r) (n := n + 11) (D1.ext E13) (by omega) hr
        obtain ⟨b5, q5, hb5⟩ := c_same (r := r) (n := n + 11) D4.sl (D2.ext (E3.trans E4)) (by omega) hr
        have hb5 := hb5.2 rfl
        subst hb5
        have S4 := S2.ext (E3.trans E4)
        obtain ⟨v6, h6, q6, E6, c6, s6, rfl, D6⟩ := c_plain (r := r) (n := n + 10) S4 (by omega) hr
        obtain ⟨b7, q7, hb7⟩ := c_right (r := r) (n := n + 7) D6.sl (by omega) hr
        have E06 : Ext h h6 := E0.trans (E1.trans (E2.trans (E3.trans (E4.trans E6))))
        have x10 : (x1 != x1) = false := by simp
        rw [callK_mk q1]
        simp only [castTup_mk, headK_mk, castSl_mk, castI_mk, nilK_mk]
        rw [callK_mk q2]
        simp only [castTup_mk, headK_mk, castSl_mk, castI_mk, nilK_mk]
        rw [callK_mk q3]
        rcases R3 with ⟨hok, rfl⟩ | ⟨hno, rfl⟩
        · simp only [castTup_mk, headK_mk, castS_mk, castI_mk, nilK_mk]
          rw [x10, cond_false, callK_mk q4, castSl_mk, callK_mk q5, castV_mk, Bool.not_true, cond_false]
          have hb7 := hb7.2 hok
          subst hb7
          obtain ⟨v8, h8, q8, E8, c8, s8, rfl, D8⟩ := c_plain (r := r) (n := n + 10) (S4.ext E6) (by omega) hr
          have q9 := c_refprint (r := r) (n := n + 8) D8.sl hok hr
          rw [jumpK_mk (x := .ret) (env := E3_r (.bool true)) (h := h8), e3_21r]
          · exact .mk ⟨rfl, rfl, E06.trans E8⟩
          · rw [e3_21c, callK_mk q6, castSl_mk, callK_mk q7, castV_mk, Bool.not_true, cond_false, show ((0 : Int) == 0) = true from rfl, cond_true, callK_mk q8, castSl_mk, callK_mk q9, castS_mk]
            simp
        · simp only [castTup_mk, headK_mk, castS_mk, castI_mk, nilK_mk]
          rw [x10, cond_false, callK_mk q4, castSl_mk, callK_mk q5, castV_mk, Bool.not_true, cond_false]
          have hb7 : b7 = false := by cases b7 with
            | false => rfl
            | true => exact absurd (hb7.1 rfl) hno
          subst hb7
          rw [jumpK_mk (x := .ret) (env := E3_r (.bool true)) (h := h6), e3_21r]
          · exact .mk ⟨rfl, rfl, E06⟩
          · rw [e3_21c, callK_mk q6, castSl_mk, callK_mk q7, castV_mk, Bool.not_false, cond_true, show ((370 : Int) == 370) = true from rfl, cond_true]
            simp
      · rintro x env h' ⟨rfl, rfl, E⟩
        rw [e3_11r]; exact .mk ⟨rfl, E⟩
end
end Go.Ev
