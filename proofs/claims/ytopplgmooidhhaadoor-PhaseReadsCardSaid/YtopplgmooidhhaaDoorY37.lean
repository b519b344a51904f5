/-
  PhaseReads: the day of a text, by the reference.
-/
import Derived.Test.YtopplgmooidhhaaDoorX37
namespace Go.Ev
open Go Go.Proofs

theorem pieces_end : ∀ {w : List UInt8}, (∀ x ∈ w, x ≠ 32) → pieces 32 w = [w] := by
  intro w
  induction w with
  | nil => intro _; rfl
  | cons b w ih =>
    intro hw
    simp only [pieces, beq_byte]
    rw [decide_eq_false (hw b (List.mem_cons_self ..)), cond_false, ih fun x hx => hw x (List.mem_cons_of_mem _ hx)]
theorem pieces_cut {rest : List UInt8} : ∀ {w : List UInt8}, (∀ x ∈ w, x ≠ 32) → pieces 32 (w ++ 32 :: rest) = w :: pieces 32 rest := by
  intro w
  induction w with
  | nil => intro _; simp [pieces]
  | cons b w ih =>
    intro hw
    rw [List.cons_append]
    simp only [pieces, beq_byte]
    rw [decide_eq_false (hw b (List.mem_cons_self ..)), cond_false, ih fun x hx => hw x (List.mem_cons_of_mem _ hx)]

section
variable {r n : Nat} {h : H} {a : Option Addr} {sa : Nat} {d : List Ph}

/-- What a word adds. -/
def wordR (w : List UInt8) (d : List Ph) (X Y : Option (List Ph)) : Prop := ∀ ws, Y = daysOf ws → X = (daysOf (w :: ws)).map (d ++ ·)

theorem letter_cases (b : UInt8) : (b.toNat = 99 ∧ letter b = 1) ∨ (b.toNat ≠ 99 ∧ b.toNat = 111 ∧ letter b = 2) ∨ (b.toNat ≠ 99 ∧ b.toNat ≠ 111 ∧ b.toNat = 116 ∧ letter b = 3) ∨
    (b.toNat ≠ 99 ∧ b.toNat ≠ 111 ∧ b.toNat ≠ 116 ∧ b.toNat = 101 ∧ letter b = 4) ∨ (b.toNat ≠ 99 ∧ b.toNat ≠ 111 ∧ b.toNat ≠ 116 ∧ b.toNat ≠ 101 ∧ letter b = 0) := by
  unfold letter kindAt
  by_cases h1 : b.toNat = 99
  · simp [h1]
  · by_cases h2 : b.toNat = 111
    · simp [h2]
    · by_cases h3 : b.toNat = 116
      · simp [h3]
      · by_cases h4 : b.toNat = 101
        · simp [h4]
        · simp [h1, h2, h3, h4]

/-- A word is taken. -/
theorem c_take {l : List UInt8} (hl : l.length < 100000) (hr : 1000000 ≤ r) {h0 : H} (E : Ext h0 h) (V : DsA h0 h a sa d) (hdl : d.length < 200000) {f k : Nat} (hf : f ≤ k) (hk : k ≤ l.length) :
    GivesX (jmp37 r (n + 10) 6 1 (pc [1, 1, 1, 0, 1, 0, 0, 1, 0, 0, 1] (bd Tryd.f6)) (E6_0 (.string (txt l)) (.slice a d.length sa) (.int .i64 (f : Int)) (.int .i64 (k : Int))) h) fun x env h' => Ext h0 h' ∧
      ((x = .ret ∧ env = E6_r (.slice none 0 0) (.int .i64 112) ∧ wordOf ((l.take k).drop f) = none) ∨
       (x = .normal ∧ ∃ c sc p, env = E6_0 (.string (txt l)) (.slice c (d ++ [p]).length sc) (.int .i64 ((k + 1 : Nat) : Int)) (.int .i64 (k : Int)) ∧ wordOf ((l.take k).drop f) = some p ∧ DsA h0 h' c sc (d ++ [p]))) := by
  rw [e6_15c]
  by_cases hfk : f = k
  · have e1 : ((k : Int) == (f : Int)) = true := by simp [hfk]
    rw [e1, cond_true]
    have : (l.take k).drop f = [] := by rw [hfk]; apply List.drop_eq_nil_of_le; rw [List.length_take]; omega
    exact .mk ⟨E, .inl ⟨rfl, rfl, by rw [this]; rfl⟩⟩
  · have e1 : ((k : Int) == (f : Int)) = false := by simp; omega
    rw [e1, cond_false]
    have hget : l[f]? = some (l[f]'(by omega)) := List.getElem?_eq_getElem (by omega)
    generalize l[f]'(by omega) = b at hget
    have hw : (l.take k).drop f = b :: (l.take k).drop (f + 1) := by
      have h1 : (l.take k)[f]? = some b := by rw [List.getElem?_take, if_pos (by omega)]; exact hget
      have hlt := (List.getElem?_eq_some_iff.1 h1).1
      rw [List.drop_eq_getElem_cons hlt]
      congr 1
      rw [List.getElem?_eq_getElem hlt] at h1; simpa using h1
    rw [hw, idx_mk hget]
    have key : GivesX (jumpK (jmp37 r (n + 9) 6 1 (pc [1, 1, 1, 0, 1, 0, 0, 1, 0, 0, 1, 1, 1, 1] (bd Tryd.f6)) (E6_39 (.string (txt l)) (.slice a d.length sa) (.int .i64 (f : Int)) (.int .i64 (k : Int)) (.int .i64 ((letter b : Nat) : Int))) h)
        (outK (dead37 6) (key (pc [1, 1, 1, 0, 1, 0, 0, 1, 0, 0, 1] (bd Tryd.f6))))) fun x env h' => Ext h0 h' ∧
      ((x = .ret ∧ env = E6_r (.slice none 0 0) (.int .i64 112) ∧ wordOf (b :: (l.take k).drop (f + 1)) = none) ∨
       (x = .normal ∧ ∃ c sc p, env = E6_0 (.string (txt l)) (.slice c (d ++ [p]).length sc) (.int .i64 ((k + 1 : Nat) : Int)) (.int .i64 (k : Int)) ∧ wordOf (b :: (l.take k).drop (f + 1)) = some p ∧ DsA h0 h' c sc (d ++ [p]))) := by
      generalize hw' : (l.take k).drop (f + 1) = w'
      refine GivesX.jump (Q := fun x env h' => Ext h0 h' ∧
        ((x = .ret ∧ env = E6_r (.slice none 0 0) (.int .i64 112) ∧ wordOf (b :: w') = none) ∨
         (x = .normal ∧ ∃ c sc p, env = E6_0 (.string (txt l)) (.slice c (d ++ [p]).length sc) (.int .i64 ((k + 1 : Nat) : Int)) (.int .i64 (k : Int)) ∧ wordOf (b :: w') = some p ∧ DsA h0 h' c sc (d ++ [p])))) ?_ ?_
      · rw [e6_39c, wrap_succ (by omega), slice_txt und9 .i64 .i64 (by omega) hk, castS_mk, hw']
        obtain ⟨v, h1, q1, rfl, E1⟩ := c_refnum (r := r) (n := n) (h := h) (l := w') hr
        rw [callK_mk q1, castI_mk]
        by_cases h0 : letter b = 0
        · have e2 : (((letter b : Nat) : Int) == 0) = true := by simp [h0]
          rw [e2, cond_true]
          exact .mk ⟨E.trans E1, .inl ⟨rfl, rfl, by simp [wordOf, h0]⟩⟩
        · have e2 : (((letter b : Nat) : Int) == 0) = false := by simp [h0]
          rw [e2, cond_false]
          cases hn : numOf w' with
          | none =>
            rw [show decide (refV none < 0) = true from rfl, cond_true]
            exact .mk ⟨E.trans E1, .inl ⟨rfl, rfl, by simp [wordOf, hn]⟩⟩
          | some m =>
            have : decide (refV (some m) < 0) = false := by rw [decide_eq_false_iff_not]; show ¬ ((m : Int) < 0); omega
            rw [this, cond_false]
            obtain ⟨v', h', ea, pu⟩ := (V.ext E1).push (P := P37) (E.trans E1) (x := ((m : Int), ((letter b : Nat) : Int))) rfl app27 (by omega) (by omega)
            rw [jumpK_mk (x := .normal) (h := h') (env := E6_0 (.string (txt l)) (.slice v' (d.length + 1) 2) (.int .i64 ((k + 1 : Nat) : Int)) (.int .i64 (k : Int))), e6_45n]
            · exact .mk ⟨pu.ext, .inr ⟨rfl, v', 2, _, by rw [List.length_append]; rfl, by simp [wordOf, h0, hn], pu.acc⟩⟩
            · rw [e6_45c]
              erw [ea]
              rw [castSl_mk, wrap_succ (by omega)]
      · rintro x env h' ⟨E', ⟨rfl, rfl, hn⟩ | ⟨rfl, c, sc, p, rfl, hp, V'⟩⟩
        · rw [e6_39r]; exact .mk ⟨E', .inl ⟨rfl, rfl, hn⟩⟩
        · rw [e6_39n]; exact .mk ⟨E', .inr ⟨rfl, c, sc, p, rfl, hp, V'⟩⟩
    have cmp : ∀ m : Nat, (((b.toNat : Nat) : Int) == (m : Int)) = decide (b.toNat = m) := fun m => by
      by_cases hm : b.toNat = m
      · rw [hm]; simp
      · rw [decide_eq_false hm]; simp; omega
    have c1 := cmp 99
    have c2 := cmp 111
    have c3 := cmp 116
    have c4 := cmp 101
    simp only [Int.cast_ofNat_Int] at c1 c2 c3 c4
    rw [c1, c2, c3, c4]
    rcases letter_cases b with ⟨q1, q5⟩ | ⟨q1, q2, q5⟩ | ⟨q1, q2, q3, q5⟩ | ⟨q1, q2, q3, q4, q5⟩ | ⟨q1, q2, q3, q4, q5⟩
    · rw [q5] at key
      rw [decide_eq_true q1, cond_true]; exact key
    · rw [q5] at key
      rw [decide_eq_false q1, cond_false, decide_eq_true q2, cond_true]; exact key
    · rw [q5] at key
      rw [decide_eq_false q1, cond_false, decide_eq_false q2, cond_false, decide_eq_true q3, cond_true]; exact key
    · rw [q5] at key
      rw [decide_eq_false q1, cond_false, decide_eq_false q2, cond_false, decide_eq_false q3, cond_false, decide_eq_true q4, cond_true]; exact key
    · rw [q5] at key
      rw [decide_eq_false q1, cond_false, decide_eq_false q2, cond_false, decide_eq_false q3, cond_false, decide_eq_false q4, cond_false]; exact key

/-- spigotref37.Read -/
theorem c_refread {l : List UInt8} (hl : l.length < 100000) (hr : 1000000 ≤ r) : Gives (ev37 r (n + 11) 6 [.string (txt l)] h) fun v h' => Ext h h' ∧ ∃ c sc d e,
    v = .tuple ⟨[.slice c d.length sc, .int .i64 e]⟩ ∧ Ds h' c sc d ∧ ReadR l d e := by
  rw [e6]
  refine Gives.loop (fun k env hh => ∃ c sc d f, env = E6_0 (.string (txt l)) (.slice c d.length sc) (.int .i64 ((f : Nat) : Int)) (.int .i64 (k : Int)) ∧ Ext h hh ∧ DsA h hh c sc d ∧ d.length ≤ k ∧
      ((k ≤ l.length ∧ f ≤ k ∧ (∀ x ∈ (l.take k).drop f, x ≠ 32) ∧ daysOf (pieces 32 l) = (daysOf (pieces 32 (l.drop f))).map (d ++ ·)) ∨ (k = l.length + 1 ∧ daysOf (pieces 32 l) = some d))) (l.length + 1)
    (fun x env hh => Ext h hh ∧ ((x = .exit 0 ∧ ∃ c sc d, env = E6_2 (.slice c d.length sc) ∧ DsA h hh c sc d ∧ d.length < 200000 ∧ daysOf (pieces 32 l) = some d) ∨
      (x = .ret ∧ env = E6_r (.slice none 0 0) (.int .i64 112) ∧ daysOf (pieces 32 l) = none)))
    (fun k env hh hk hI => ?_) ⟨none, 0, [], 0, rfl, .refl _, .nil _ _, by simp, .inl ⟨by omega, by omega, by simp, by simp⟩⟩ (by omega) ?_
  · obtain ⟨c, sc, d, f, rfl, E, V, hdl, ⟨hkl, hfk, hno, hX⟩ | ⟨hk1, hX⟩⟩ := hI
    · have hcut : l.drop f = (l.take k).drop f ++ l.drop k := by
        rw [← List.take_append_drop k l, List.drop_append]
        simp only [List.take_append_drop, List.length_take]
        have : f - min k l.length = 0 := by omega
        rw [this, List.drop_zero]
      have go : (∃ c', l.drop k = c' ∧ (c' = [] ∨ ∃ rest, c' = 32 :: rest)) → ∃ o : Out, (∀ {R : Type} (nx : Env → H → Option R) (K : Exit → Env → H → Option R),
          jumpK (jmp37 r (n + 10) 6 1 (pc [1, 1, 1, 0, 1, 0, 0, 1, 0, 0, 1] (bd Tryd.f6)) (E6_0 (.string (txt l)) (.slice c d.length sc) (.int .i64 (f : Int)) (.int .i64 (k : Int))) hh)
            (blockK 1 (seqK (after P37 (ev37 r (n + 10)) (jmp37 r (n + 10) 6) (dead37 6) r 0 (pc [1, 1, 1, 0, 1, 0, 0, 1, 1] (bd Tryd.f6)) (loopK nx (dead37 6 (4 * 0)) (dead37 6 (4 * 0 + 2)) (dead37 6 1000002) K))
              (loopK nx (dead37 6 (4 * 0)) (dead37 6 (4 * 0 + 2)) (dead37 6 1000002) K))) = o.run nx K) ∧
          match o with
          | .on env' hh' => k < l.length + 1 ∧ ∃ c sc d f, env' = E6_0 (.string (txt l)) (.slice c d.length sc) (.int .i64 ((f : Nat) : Int)) (.int .i64 ((k + 1 : Nat) : Int)) ∧ Ext h hh' ∧ DsA h hh' c sc d ∧ d.length ≤ k + 1 ∧
      ((k + 1 ≤ l.length ∧ f ≤ k + 1 ∧ (∀ x ∈ (l.take (k + 1)).drop f, x ≠ 32) ∧ daysOf (pieces 32 l) = (daysOf (pieces 32 (l.drop f))).map (d ++ ·)) ∨ (k + 1 = l.length + 1 ∧ daysOf (pieces 32 l) = some d))
          | .off x env' hh' => Ext h hh' ∧ ((x = .exit 0 ∧ ∃ c sc d, env' = E6_2 (.slice c d.length sc) ∧ DsA h hh' c sc d ∧ d.length < 200000 ∧ daysOf (pieces 32 l) = some d) ∨
      (x = .ret ∧ env' = E6_r (.slice none 0 0) (.int .i64 112) ∧ daysOf (pieces 32 l) = none)) := by
        rintro ⟨c', hc', hc2⟩
        obtain ⟨x, env, h', q, E', hq⟩ := c_take (n := n) hl hr E V (by omega) hfk hkl
        rcases hq with ⟨rfl, rfl, hn⟩ | ⟨rfl, c2, s2, p, rfl, hp, V'⟩
        · refine ⟨.off .ret _ h', fun nx K => ?_, E', .inr ⟨rfl, rfl, ?_⟩⟩
          · rw [jumpK_mk q, e6_15r]; rfl
          · rw [hX, hcut, hc']
            rcases hc2 with rfl | ⟨rest, rfl⟩
            · rw [List.append_nil, pieces_end hno, daysOf, hn]; rfl
            · rw [pieces_cut hno, daysOf, hn]; rfl
        · refine ⟨.on _ h', fun nx K => ?_, by omega, c2, s2, d ++ [p], k + 1, rfl, E', V', by simp; omega, ?_⟩
          · rw [jumpK_mk q, e6_15n, wrap_succ (by omega)]; rfl
          · rcases hc2 with rfl | ⟨rest, rfl⟩
            · have hkk : l.length ≤ k := by
                rcases Nat.lt_or_ge k l.length with h9 | h9
                · have := congrArg List.length hc'; simp at this; omega
                · exact h9
              refine .inr ⟨by omega, ?_⟩
              rw [hX, hcut, hc', List.append_nil, pieces_end hno, daysOf, hp]
              simp [daysOf]
            · have hkk : k < l.length := by
                rcases Nat.lt_or_ge k l.length with h9 | h9
                · exact h9
                · rw [List.drop_of_length_le h9] at hc'; cases hc'
              have hrest : l.drop (k + 1) = rest := by
                rw [← List.drop_drop, hc'] ; rfl
              refine .inl ⟨by omega, by omega, ?_, ?_⟩
              · intro x hx
                rw [List.drop_eq_nil_of_le (by rw [List.length_take]; omega)] at hx
                cases hx
              · rw [hX, hcut, hc', pieces_cut hno, daysOf, hp, hrest]
                cases daysOf (pieces 32 rest) <;> simp
      by_cases hg : k < l.length
      · have hget : l[k]? = some l[k] := List.getElem?_eq_getElem hg
        have hdk := List.drop_eq_getElem_cons hg
        generalize l[k] = b at hget hdk
        by_cases hb : b.toNat = 32
        · have hb' : b = 32 := UInt8.toNat_inj.1 hb
          obtain ⟨o, e1, e2⟩ := go ⟨_, rfl, .inr ⟨_, by rw [hdk, hb']⟩⟩
          refine ⟨o, fun nx K => ?_, e2⟩
          rw [← e1, e6_0, txt_size, decide_eq_true (by omega), cond_true, decide_eq_true (by omega), cond_true, idx_mk hget]
          have e4 : (((b.toNat : Nat) : Int) != 32) = false := by simp [hb]
          rw [e4, cond_false]
        · refine ⟨.on _ hh, fun nx K => ?_, by omega, c, sc, d, f, rfl, E, V, by omega, .inl ⟨by omega, by omega, fun x hx => ?_, hX⟩⟩
          · rw [e6_0, txt_size, decide_eq_true (by omega), cond_true, decide_eq_true (by omega), cond_true, idx_mk hget]
            have e4 : (((b.toNat : Nat) : Int) != 32) = true := by simp; omega
            rw [e4, cond_true, wrap_succ (by omega)]; rfl
          · rw [List.take_add_one, hget, List.drop_append] at hx
            rcases List.mem_append.1 hx with hx | hx
            · exact hno x hx
            · have := List.mem_of_mem_drop hx
              simp at this
              intro e; exact hb (by rw [← this, e]; rfl)
      · obtain ⟨o, e1, e2⟩ := go ⟨_, rfl, .inl (List.drop_of_length_le (by omega))⟩
        refine ⟨o, fun nx K => ?_, e2⟩
        rw [← e1, e6_0, txt_size, decide_eq_true (by omega), cond_true, decide_eq_false (by omega), cond_false]
    · refine ⟨.off (.exit 0) _ _, fun nx K => ?_, E, .inl ⟨rfl, c, sc, d, rfl, V, by omega, hX⟩⟩
      rw [e6_0, txt_size, decide_eq_false (by omega), cond_false]; rfl
  · rintro x env h' ⟨E, ⟨rfl, c, sc, d, rfl, V, hdl, hX⟩ | ⟨rfl, rfl, hX⟩⟩
    · obtain ⟨b, q1, hb⟩ := c_right (r := r) (n := n + 6) V.sl (by omega) hr
      rw [e6_0x0, callK_mk q1, castV_mk]
      cases b with
      | true => exact .mk ⟨E, c, sc, d, 0, rfl, V.sl, .inr ⟨d, hX, .inl ⟨hb.1 rfl, rfl, rfl⟩⟩⟩
      | false => exact .mk ⟨E, none, 0, [], 370, rfl, .nil, .inr ⟨d, hX, .inr ⟨(fun hd => by have := hb.2 hd; simp at this), rfl, rfl⟩⟩⟩
    · rw [e6_0r]
      exact .mk ⟨E, none, 0, [], 112, rfl, .nil, .inl ⟨hX, rfl, rfl⟩⟩
end
end Go.Ev
