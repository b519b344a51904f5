/-
  PhaseReads: the day of a text.
-/
import Derived.Test.YtopplgmooidhhaaDoorW37
namespace Go.Ev
open Go Go.Proofs

section
variable {r n : Nat} {h : H} {a b : Option Addr} {sa sb : Nat} {d d' : List Ph}

theorem i_split {args : List Value} : ev37 r (n + 1) 16 args h = splitI args h := rfl
theorem i_itoa {args : List Value} : ev37 r (n + 1) 20 args h = itoaI args h := rfl
theorem i_join {args : List Value} : ev37 r (n + 1) 21 args h = joinI args h := rfl
theorem i_digits {args : List Value} : ev37 r (n + 1) 23 args h = digitsI args h := rfl

/-- plain -/
theorem c_plain (S : Ds h a sa d) (hl : d.length < 1000000) (hr : 1000000 ≤ r) : Gives (ev37 r (n + 1) 9 [.slice a d.length sa] h) fun v h' => Ext h h' ∧ ∃ c sc, v = .slice c d.length sc ∧ DsA h h' c sc d := by
  rw [e9]
  refine Gives.loop (fun k env hh => ∃ c sc, env = E9_0 (.slice c (d.take k).length sc) (.slice a d.length sa) (.int .i64 (d.length : Int)) (.int .i64 (k : Int)) ∧ Ext h hh ∧ DsA h hh c sc (d.take k)) d.length
    (fun x env hh => x = .exit 0 ∧ ∃ c sc, env = E9_2 (.slice c d.length sc) ∧ Ext h hh ∧ DsA h hh c sc d)
    (fun k env hh hk hI => ?_) ⟨none, 0, rfl, .refl h, .nil h h⟩ (by omega) ?_
  · obtain ⟨c, sc, rfl, E, V⟩ := hI
    by_cases hg : k < d.length
    · have hget : d[k]? = some d[k] := List.getElem?_eq_getElem hg
      have htk : d.take (k + 1) = d.take k ++ [d[k]] := by rw [List.take_add_one, hget]; rfl
      generalize d[k] = p at hget htk
      obtain ⟨j, o, hp, hix⟩ := Ds.at22 (S.ext E) hget
      have HX : Has (hh.new (.cells (phC p) false)) hh.next (.cells (phC p) false) := Has.here _ _
      obtain ⟨v', h', ea, pu⟩ := (V.ext ((Ext.refl hh).new (.cells (phC p) false))).push (P := P37) (E.new _) (x := p) rfl app27 (by omega) (by simp; omega)
      refine ⟨.on _ h', fun nx K => ?_, hg, v', 2, rfl, pu.ext, by rw [htk]; exact pu.acc⟩
      rw [e9_0, decide_eq_true (by omega), cond_true, hix, addrK_mk, hp.whole47, optK_mk, castA_mk, ifK_pos (by rw [cel47]; rfl)]
      erw [st_new (cs := phC p) (by rfl)]
      rw [optK_mk, (Pt.of HX).whole47, optK_mk, castA_mk, ifK_pos (show (Value.agg #[Value.int IntKind.i64 p.1, Value.int IntKind.i64 p.2]).cells.size = 2 from rfl)]
      erw [ea]
      rw [castSl_mk, wrap_succ (by omega), htk, List.length_append]
      rfl
    · have hkk : k = d.length := by omega
      rw [hkk, List.take_length] at V
      refine ⟨.off (.exit 0) _ _, fun nx K => ?_, rfl, c, sc, rfl, E, V⟩
      rw [e9_0, decide_eq_false (by omega), cond_false, hkk, List.take_length]; rfl
  · rintro x env h' ⟨rfl, c, sc, rfl, E, V⟩
    rw [e9_0x0]
    exact .mk ⟨E, c, sc, rfl, V⟩

/-- spigotref37.Same -/
theorem c_same (A : Ds h a sa d) (B : Ds h b sb d') (hl : d.length < 1000000) (hr : 1000000 ≤ r) : ∃ q : Bool, ev37 r (n + 1) 8 [.slice a d.length sa, .slice b d'.length sb] h = some (.bool q, h) ∧ (q = true ↔ d = d') := by
  suffices G : Gives (ev37 r (n + 1) 8 [.slice a d.length sa, .slice b d'.length sb] h) fun v h' => h' = h ∧ ∃ b : Bool, v = .bool b ∧ (b = true ↔ d = d') by
    obtain ⟨v, h', e, rfl, b, rfl, hb⟩ := G
    exact ⟨b, e, hb⟩
  rw [e8]
  by_cases hlen : d.length = d'.length
  · have e1 : ((d.length : Int) != (d'.length : Int)) = false := by simp [hlen]
    rw [e1, cond_false]
    refine Gives.loop (fun k env hh => env = E8_0 (.slice a d.length sa) (.slice b d'.length sb) (.int .i64 (k : Int)) ∧ hh = h ∧ ∀ i, i < k → d[i]? = d'[i]?) d.length
      (fun x env hh => hh = h ∧ ((x = .exit 0 ∧ env = E8_2 ∧ d = d') ∨ (x = .ret ∧ env = E8_r (.bool false) ∧ d ≠ d')))
      (fun k env hh hk hI => ?_) ⟨rfl, rfl, fun i hi => by omega⟩ (by omega) ?_
    · obtain ⟨rfl, rfl, hok⟩ := hI
      by_cases hg : k < d.length
      · have hget : d[k]? = some d[k] := List.getElem?_eq_getElem hg
        have hget' : d'[k]? = some (d'[k]'(by omega)) := List.getElem?_eq_getElem (by omega)
        generalize d[k] = p at hget
        generalize d'[k]'(by omega) = q at hget'
        obtain ⟨j, o, hp, hix⟩ := A.at27 hget
        obtain ⟨j2, o2, hp2, hix2⟩ := B.at27 hget'
        by_cases hpq : p = q
        · subst hpq
          refine ⟨.on _ hh, fun nx K => ?_, hg, rfl, rfl, fun i hi => ?_⟩
          · rw [e8_0, decide_eq_true (by omega), cond_true, hix, addrK_mk, hp.whole52, optK_mk, castA_mk, hix2, addrK_mk, hp2.whole52, optK_mk, castA_mk, neq52, castV_mk]
            simp only [beq_self_eq_true, Bool.and_self, Bool.not_true, cond_false]
            rw [wrap_succ (by omega)]; rfl
          · by_cases hik : i = k
            · rw [hik, hget, hget']
            · exact hok i (by omega)
        · refine ⟨.off .ret _ _, fun nx K => ?_, rfl, .inr ⟨rfl, rfl, fun e => hpq ?_⟩⟩
          · rw [e8_0, decide_eq_true (by omega), cond_true, hix, addrK_mk, hp.whole52, optK_mk, castA_mk, hix2, addrK_mk, hp2.whole52, optK_mk, castA_mk, neq52, castV_mk]
            have : (!(p.1 == q.1 && p.2 == q.2)) = true := by
              rw [Bool.not_eq_true', ← Bool.not_eq_true]
              intro he
              simp at he
              exact hpq (Prod.ext he.1 he.2)
            rw [this, cond_true]; rfl
          · rw [e, hget'] at hget; cases hget; rfl
      · have hkk : k = d.length := by omega
        refine ⟨.off (.exit 0) _ _, fun nx K => ?_, rfl, .inl ⟨rfl, rfl, ?_⟩⟩
        · rw [e8_0, decide_eq_false (by omega), cond_false]; rfl
        · apply List.ext_getElem?
          intro i
          by_cases hi : i < d.length
          · exact hok i (by omega)
          · rw [List.getElem?_eq_none (by omega), List.getElem?_eq_none (by omega)]
    · rintro x env h' ⟨rfl, ⟨rfl, rfl, hd⟩ | ⟨rfl, rfl, hd⟩⟩
      · rw [e8_0x0]; exact .mk ⟨rfl, true, rfl, by simp [hd]⟩
      · rw [e8_0r]; exact .mk ⟨rfl, false, rfl, by simp [hd]⟩
  · have e1 : ((d.length : Int) != (d'.length : Int)) = true := by simp; omega
    rw [e1, cond_true]
    exact .mk ⟨rfl, false, rfl, by simp only [Bool.false_eq_true, false_iff]; exact fun e => hlen (by rw [e])⟩

/-! ### the day of a text -/

def daysOf : List (List UInt8) → Option (List Ph)
  | [] => some []
  | w :: ws => match wordOf w with
    | some p => (daysOf ws).map (p :: ·)
    | none => none
/-- What a text reads as. -/
def ReadR (l : List UInt8) (d : List Ph) (e : Int) : Prop :=
  (daysOf (pieces 32 l) = none ∧ d = [] ∧ e = 112) ∨ ∃ d', daysOf (pieces 32 l) = some d' ∧ ((dayOk d' ∧ d = d' ∧ e = 0) ∨ (¬ dayOk d' ∧ d = [] ∧ e = 370))
theorem ReadR.uniq {l : List UInt8} {d d' : List Ph} {e e' : Int} (x : ReadR l d e) (y : ReadR l d' e') : d = d' ∧ e = e' := by
  rcases x with ⟨h1, rfl, rfl⟩ | ⟨d1, h1, hx⟩ <;> rcases y with ⟨h2, rfl, rfl⟩ | ⟨d2, h2, hy⟩
  · exact ⟨rfl, rfl⟩
  · rw [h1] at h2; cases h2
  · rw [h1] at h2; cases h2
  · rw [h1] at h2; cases h2
    rcases hx with ⟨q1, rfl, rfl⟩ | ⟨q1, rfl, rfl⟩ <;> rcases hy with ⟨q2, rfl, rfl⟩ | ⟨q2, rfl, rfl⟩
    · exact ⟨rfl, rfl⟩
    · exact absurd q1 q2
    · exact absurd q2 q1
    · exact ⟨rfl, rfl⟩
theorem pieces_len (c : UInt8) (l : List UInt8) : (pieces c l).length ≤ l.length + 1 ∧ ∀ p ∈ pieces c l, p.length ≤ l.length := by
  induction l with
  | nil => simp [pieces]
  | cons b l ih =>
    simp only [pieces]
    cases Nat.beq b.toNat c.toNat with
    | true =>
      simp only [cond_true, List.length_cons, List.mem_cons]
      refine ⟨by omega, fun p hp => ?_⟩
      rcases hp with rfl | hp
      · simp
      · have := ih.2 p hp; omega
    | false =>
      simp only [cond_false]
      split
      · rename_i p ps e
        rw [e] at ih
        refine ⟨by have := ih.1; simp at *; omega, fun q hq => ?_⟩
        rcases List.mem_cons.1 hq with rfl | hq
        · have := ih.2 p (List.mem_cons_self ..); simp; omega
        · have := ih.2 q (List.mem_cons_of_mem _ hq); simp; omega
      · simp

theorem daysOf_snoc {ws : List (List UInt8)} {k : Nat} {w : List UInt8} (hw : ws[k]? = some w) {X : Option (List Ph)} {d : List Ph} (h : X = (daysOf (ws.drop k)).map (d ++ ·)) :
    (∀ p, wordOf w = some p → X = (daysOf (ws.drop (k + 1))).map ((d ++ [p]) ++ ·)) ∧ (wordOf w = none → X = none) := by
  have hk := (List.getElem?_eq_some_iff.1 hw).1
  have hd : ws.drop k = w :: ws.drop (k + 1) := by
    rw [List.drop_eq_getElem_cons hk]; congr 1; rw [List.getElem?_eq_getElem hk] at hw; simpa using hw
  rw [hd] at h
  refine ⟨fun p hp => ?_, fun hn => ?_⟩
  · rw [h, daysOf, hp]
    cases daysOf (ws.drop (k + 1)) <;> simp
  · rw [h, daysOf, hn]; rfl

/-- phase.Read -/
theorem c_read {l : List UInt8} (hl : l.length < 100000) (hr : 1000000 ≤ r) : Gives (ev37 r (n + 6) 5 [.string (txt l)] h) fun v h' => Ext h h' ∧ ∃ c sc d e,
    v = .tuple ⟨[.slice c d.length sc, .int .i64 e]⟩ ∧ Ds h' c sc d ∧ ReadR l d e := by
  rw [e5]
  have hsp : ev37 r (n + 5) 16 [.string (txt l), .string (txt [32])] h = some (.slice (some ⟨h.next, 0, none⟩) (pieces 32 l).length 1, h.new (.cells ((pieces 32 l).map fun p => .string (txt p)) false)) := by
    rw [i_split (n := n + 4)]; exact split_mk (by omega) h
  rw [callK_mk hsp, castSl_mk]
  obtain ⟨pl, pm⟩ := pieces_len 32 l
  generalize hws : pieces 32 l = ws at *
  have E0 : Ext h (h.new (.cells (ws.map fun p => .string (txt p)) false)) := (Ext.refl h).new _
  have W : Sl (fun p => [Value.string (txt p)]) 1 (h.new (.cells (ws.map fun p => .string (txt p)) false)) (some ⟨h.next, 0, none⟩) 1 ws := by
    refine .inr ⟨rfl, _, _, rfl, fun i x hx => ⟨_, _, Has.here _ _, fun f y hy => ?_⟩⟩
    cases f with
    | zero => simp at hy; subst hy; simp [hx]
    | succ f => simp at hy
  generalize h.new (.cells (ws.map fun p => .string (txt p)) false) = w0 at *
  refine Gives.loop (fun k env hh => ∃ c sc d, env = E5_0 (.slice c d.length sc) (.slice (some ⟨h.next, 0, none⟩) ws.length 1) (.int .i64 (ws.length : Int)) (.int .i64 (k : Int)) ∧ Ext w0 hh ∧ DsA w0 hh c sc d ∧ d.length = k ∧
      daysOf ws = (daysOf (ws.drop k)).map (d ++ ·)) ws.length
    (fun x env hh => Ext w0 hh ∧ ((x = .exit 0 ∧ ∃ c sc d, env = E5_2 (.slice c d.length sc) ∧ DsA w0 hh c sc d ∧ d.length < 200000 ∧ daysOf ws = some d) ∨ (x = .ret ∧ env = E5_r (.slice none 0 0) (.int .i64 112) ∧ daysOf ws = none)))
    (fun k env hh hk hI => ?_) ⟨none, 0, [], rfl, .refl _, .nil _ _, rfl, by simp⟩ (by omega) ?_
  · obtain ⟨c, sc, d, rfl, E, V, hdl, hX⟩ := hI
    by_cases hg : k < ws.length
    · have hget : ws[k]? = some ws[k] := List.getElem?_eq_getElem hg
      have hwl := pm ws[k] (List.getElem_mem _)
      generalize ws[k] = w at hget hwl
      obtain ⟨s1, s2⟩ := daysOf_snoc hget hX
      obtain ⟨v, h1, q1, E1, p, ok, rfl, hok⟩ := c_word (r := r) (n := n + 1) (h := hh) (l := w) (by omega) hr
      have HX : Has (h1.new (.cells (phC p) false)) h1.next (.cells (phC p) false) := Has.here _ _
      have E2 : Ext w0 (h1.new (.cells (phC p) false)) := (E.trans E1).new _
      have start : ∀ {R : Type} (nx : Env → H → Option R) (K : Exit → Env → H → Option R), evCode P37 (ev37 r (n + 5)) (jmp37 r (n + 5) 5) (dead37 5) r 0 (pc [1, 1, 0, 1, 0, 0] (bd Tryd.f5)) (E5_0 (.slice c d.length sc) (.slice (some ⟨h.next, 0, none⟩) ws.length 1) (.int .i64 (ws.length : Int)) (.int .i64 (k : Int))) hh (loopK nx (dead37 5 (4 * 0)) (dead37 5 (4 * 0 + 2)) (dead37 5 1000002) K) =
          bif !ok then K .ret (E5_r (.slice none 0 0) (.int .i64 112)) (h1.new (.cells (phC p) false)) else
            appendA P37 { toList := [22, 22] } (.slice c d.length sc) (.slice (some ⟨(h1.new (.cells (phC p) false)).next, 0, none⟩) 1 2) ((h1.new (.cells (phC p) false)).new (.cells (phC p) false)) fun v18 h19 =>
              castSl v18 fun a20 o21 o22 => nx (E5_0 (.slice a20 o21 o22) (.slice (some ⟨h.next, 0, none⟩) ws.length 1) (.int .i64 (ws.length : Int)) (.int .i64 (IntKind.i64.wrap ((k : Int) + 1)))) h19 := by
        intro R nx K
        rw [e5_0, decide_eq_true (by omega), cond_true]
        obtain ⟨j, o, hp, hix⟩ := (W.ext E).at und44 cel9 hget
        rw [hix, addrK_mk, hp.ld0 agg9, optK_mk, castS_mk, callK_mk q1]
        simp only [castTup_mk, headK_mk, castA_mk, castV_mk, nilK_mk]
        rw [ifK_pos (by rw [cel47]; rfl)]
        erw [st_new (cs := phC p) (by rfl)]
        rw [optK_mk, (Pt.of HX).whole47, optK_mk, castA_mk, ifK_pos (show (Value.agg #[Value.int IntKind.i64 p.1, Value.int IntKind.i64 p.2]).cells.size = 2 from rfl)]
        rfl
      cases hw : wordOf w with
      | none =>
        rw [hw] at hok
        refine ⟨.off .ret _ _, fun nx K => ?_, E2, .inr ⟨rfl, rfl, s2 hw⟩⟩
        rw [start, hok]; rfl
      | some q =>
        rw [hw] at hok
        obtain ⟨rfl, rfl⟩ := hok
        obtain ⟨v', h', ea, pu⟩ := (V.ext (E1.new (.cells (phC p) false))).push (P := P37) E2 (x := p) rfl app22 (by omega) (by omega)
        refine ⟨.on _ h', fun nx K => ?_, hg, v', 2, d ++ [p], rfl, pu.ext, pu.acc, by simp [hdl], s1 p hw⟩
        rw [start, Bool.not_true, cond_false]
        erw [ea]
        rw [castSl_mk, wrap_succ (by omega), List.length_append]
        rfl
    · have hkk : k = ws.length := by omega
      refine ⟨.off (.exit 0) _ _, fun nx K => ?_, E, .inl ⟨rfl, c, sc, d, rfl, V, by omega, ?_⟩⟩
      · rw [e5_0, decide_eq_false (by omega), cond_false]; rfl
      · rw [hX, hkk, List.drop_length]; simp [daysOf]
  · rintro x env h' ⟨E, ⟨rfl, c, sc, d, rfl, V, hdl, hX⟩ | ⟨rfl, rfl, hX⟩⟩
    · obtain ⟨v, h1, q1, E1, e, rfl, he⟩ := c_check (r := r) (n := n + 1) V.sl (by omega) hr
      rw [e5_0x0, callK_mk q1, castI_mk]
      rcases he with ⟨hok, rfl⟩ | ⟨hno, rfl⟩
      · exact .mk ⟨E0.trans (E.trans E1), c, sc, d, 0, rfl, V.sl.ext E1, .inr ⟨d, by rw [hws]; exact hX, .inl ⟨hok, rfl, rfl⟩⟩⟩
      · exact .mk ⟨E0.trans (E.trans E1), none, 0, [], 370, rfl, .nil, .inr ⟨d, by rw [hws]; exact hX, .inr ⟨hno, rfl, rfl⟩⟩⟩
    · rw [e5_0r]
      exact .mk ⟨E0.trans E, none, 0, [], 112, rfl, .nil, .inl ⟨by rw [hws]; exact hX, rfl, rfl⟩⟩
end
end Go.Ev
