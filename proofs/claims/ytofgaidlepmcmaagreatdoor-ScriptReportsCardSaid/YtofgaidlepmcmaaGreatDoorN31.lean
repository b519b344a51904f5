/-
  ScriptReports: a state's word, a row, by the program and by the reference; the builder's steps.
-/
import Derived.Test.YtofgaidlepmcmaaGreatDoorM31
namespace Go.Ev
open Go Go.Proofs

section
variable {r n : Nat} {h h0 m : H}

def wordsC : List Value := [.string (txt []), .string (txt [112, 101, 110, 100, 105, 110, 103]), .string (txt [110, 101, 119]), .string (txt [112, 97, 114, 116, 105, 97, 108]), .string (txt [99, 97, 110, 99, 101, 108, 105, 110, 103]),
  .string (txt [114, 101, 112, 108, 97, 99, 105, 110, 103]), .string (txt [102, 105, 108, 108, 101, 100]), .string (txt [99, 97, 110, 99, 101, 108, 101, 100]), .string (txt [114, 101, 106, 101, 99, 116, 101, 100])]
theorem words_at {z : Int} (h1 : 0 ≤ z) (h2 : z < 9) : wordsC[0 + z.toNat * 1]? = some (.string (txt (stW z))) := by
  have : z = 0 ∨ z = 1 ∨ z = 2 ∨ z = 3 ∨ z = 4 ∨ z = 5 ∨ z = 6 ∨ z = 7 ∨ z = 8 := by omega
  rcases this with rfl | rfl | rfl | rfl | rfl | rfl | rfl | rfl | rfl <;> rfl
theorem stW_out {z : Int} (h1 : z < 0 ∨ 8 < z) : stW z = [] := by
  unfold stW
  rw [if_neg (by omega), if_neg (by omega), if_neg (by omega), if_neg (by omega), if_neg (by omega), if_neg (by omega), if_neg (by omega), if_neg (by omega)]
theorem c_word (z : Int) : Gives (ev31 r (n + 1) 15 [.int .i64 z] h) fun y h' => y = .string (txt (stW z)) ∧ Ext h h' := by
  rw [e15]
  have q := st_new (h := h) (zs := [Value.string (txt []), Value.string (txt []), Value.string (txt []), Value.string (txt []), Value.string (txt []), Value.string (txt []), Value.string (txt []), Value.string (txt []), Value.string (txt [])]) (cs := wordsC) rfl
  unfold wordsC at q
  rw [q, optK_mk]
  obtain ⟨m, hm, E, HX⟩ := new_row h wordsC
  unfold wordsC at hm
  rw [hm]
  by_cases h1 : z < 0
  · rw [decide_eq_true h1, cond_true]
    exact .mk ⟨by rw [stW_out (.inl h1)], E⟩
  · rw [decide_eq_false h1, cond_false]
    by_cases h2 : z ≥ 9
    · rw [decide_eq_true h2, cond_true]
      exact .mk ⟨by rw [stW_out (.inr (by omega))], E⟩
    · rw [decide_eq_false h2, cond_false, ifK_pos (by omega)]
      have l : ldV P31 9 h.next (0 + z.toNat * 1) m = some (.string (txt (stW z))) := (ld_at agg9 HX).trans (words_at (by omega) (by omega))
      rw [l, optK_mk, castS_mk]
      exact .mk ⟨rfl, E⟩
theorem c_rword (z : Int) : Gives (ev31 r (n + 1) 30 [.int .i64 z] h) fun y h' => y = .string (txt (stW z)) ∧ Ext h h' := by
  rw [e30]
  obtain ⟨m, hm, E, HX⟩ := new_row h wordsC
  unfold wordsC at hm
  rw [hm]
  by_cases h1 : z < 0
  · rw [decide_eq_true h1, cond_true]
    exact .mk ⟨by rw [stW_out (.inl h1)], E⟩
  · rw [decide_eq_false h1, cond_false]
    by_cases h2 : z > 8
    · rw [decide_eq_true h2, cond_true]
      exact .mk ⟨by rw [stW_out (.inr (by omega))], E⟩
    · rw [decide_eq_false h2, cond_false, ifK_pos (by omega)]
      have l : ldV P31 9 h.next (0 + z.toNat * 1) m = some (.string (txt (stW z))) := (ld_at agg9 HX).trans (words_at (by omega) (by omega))
      rw [l, optK_mk, castS_mk]
      exact .mk ⟨rfl, E⟩

theorem Is.of {l : List Int} {j : Nat} {ro : Bool} (H : Has m j (.cells (l.map (Value.int .i64)) ro)) : Is m (some ⟨j, 0, none⟩) 1 l :=
  .inr ⟨rfl, j, 0, rfl, fun i x hx => ⟨_, _, H, fun f y hy => by
    cases f with
    | zero =>
      simp [zC] at hy; subst hy
      simp [hx]
    | succ f => simp [zC] at hy⟩⟩
theorem acc_lit (h0 : H) (ws : List (List UInt8)) : Acc wC 1 h0 (h0.new (.cells (ws.map fun w => .string (txt w)) false)) (some ⟨h0.next, 0, none⟩) 1 ws :=
  .inr ⟨rfl, h0.next, _, rfl, Nat.le_refl _, Has.here _ _, fun _ _ => rfl, [], by
    rw [List.append_nil]
    induction ws with
    | nil => rfl
    | cons w ws ih => rw [List.map_cons, List.flatMap_cons, ih]; rfl⟩

/-- A row, by the program. -/
theorem c_row {a : Option Addr} {ws : List (List UInt8)} {zs : List Int} {jb : Nat} (E : Ext h0 h) (A : Acc wC 1 h0 h a 1 ws) (hne : ws ≠ []) (B : Has h jb (.cells (zs.map (Value.int .i64)) false)) (hj : ∀ o, a ≠ some ⟨jb, o, none⟩)
    (fz : ∀ z ∈ zs, fits z) (hw : ∀ w ∈ ws, w.length ≤ 100) (hwl : ws.length ≤ 10) (hzl : zs.length ≤ 10) (hr : 1000000 ≤ r) :
    Gives (ev31 r (n + 2) 13 [.slice a ws.length 1, .slice (some ⟨jb, 0, none⟩) zs.length 1] h) fun y h' => y = .string (txt (rowT (joined [32] ws) zs)) ∧ Ext h0 h' := by
  rw [e13]
  obtain ⟨⟨a', s'⟩, m, ⟨E1, A1, B1, J1⟩, e⟩ := loop_run (P := P31) (call := ev31 r (n + 1)) (jmp := jmp31 r (n + 1) 13) (dead := dead31 13) (rounds := r) (c := 0) (code := pc [1, 0, 1, 0, 0] (bd Tryz.f13)) (d := dead31 13 (4 * 0)) (d' := dead31 13 (4 * 0 + 2)) (dr := dead31 13 1000002)
    (σ := Option Addr × Nat) zs.length
    (fun k x hh => Ext h0 hh ∧ Acc wC 1 h0 hh x.1 x.2 (ws ++ (zs.take k).map itoaL) ∧ Has hh jb (.cells (zs.map (Value.int .i64)) false) ∧ ∀ o, x.1 ≠ some ⟨jb, o, none⟩)
    (fun k x => E13_0 (.slice x.1 (ws.length + k) x.2) (.slice (some ⟨jb, 0, none⟩) zs.length 1) (.int .i64 (zs.length : Int)) (.int .i64 (k : Int))) (xT := .exit 0)
    (envT := fun x => E13_2 (.slice x.1 (ws.length + zs.length) x.2)) (s0 := (a, 1)) (h := h) (fun k ⟨a1, s1⟩ hh hlt ⟨E1, A1, B1, J1⟩ => by
      simp only at A1 J1 ⊢
      have hget : zs[k]? = some zs[k] := List.getElem?_eq_getElem hlt
      have htk : zs.take (k + 1) = zs.take k ++ [zs[k]] := by rw [List.take_add_one, hget]; rfl
      have hmem : zs[k] ∈ zs := List.getElem_mem hlt
      generalize zs[k] = z at hget htk hmem
      have hlen : (ws ++ (zs.take k).map itoaL).length = ws.length + k := by simp; omega
      obtain ⟨b, m, q, p⟩ := A1.push (P := P31) (x := itoaL z) E1 rfl app55 (by omega) (by rw [hlen]; omega)
      rw [hlen] at q
      obtain ⟨jo, ej, hle⟩ := p.own
      refine ⟨(b, 1), m, ⟨p.ext, by rw [htk, List.map_append, ← List.append_assoc]; exact p.acc, p.old _ _ B1 J1, fun o e => ?_⟩, fun {R} nx K => ?_⟩
      · rw [ej] at e; cases e
        have := B1.1; omega
      · show evCode P31 (ev31 r (n + 1)) (jmp31 r (n + 1) 13) (dead31 13) r 0 (pc [1, 0, 1, 0, 0] (bd Tryz.f13)) (E13_0 (.slice a1 (ws.length + k) s1) (.slice (some ⟨jb, 0, none⟩) zs.length 1) (.int .i64 (zs.length : Int)) (.int .i64 (k : Int))) hh (loopK nx (dead31 13 (4 * 0)) (dead31 13 (4 * 0 + 2)) (dead31 13 1000002) K) = _
        rw [e13_0, decide_eq_true (by omega), cond_true]
        obtain ⟨j, o, q1, q2⟩ := (Is.of B1).cell (P := P31) (f := 0) und23 cel3 agg3 hget rfl
        rw [Nat.add_zero] at q2
        rw [q1]
        simp only [addrK_mk]
        rw [q2, optK_mk, castI_mk, callK_mk (c_itoa (fz z hmem)), castS_mk]
        erw [q]
        rw [castSl_mk, wrap_succ (by omega)]
        rfl)
    (fun ⟨a1, s1⟩ hh _ {R} nx K => by
      show evCode P31 (ev31 r (n + 1)) (jmp31 r (n + 1) 13) (dead31 13) r 0 (pc [1, 0, 1, 0, 0] (bd Tryz.f13)) (E13_0 (.slice a1 (ws.length + zs.length) s1) (.slice (some ⟨jb, 0, none⟩) zs.length 1) (.int .i64 (zs.length : Int)) (.int .i64 (zs.length : Int))) hh (loopK nx (dead31 13 (4 * 0)) (dead31 13 (4 * 0 + 2)) (dead31 13 1000002) K) = _
      rw [e13_0, decide_eq_false (by omega), cond_false]) ⟨E, by simpa using A, B, hj⟩ (r := r) (by omega)
  simp only [Nat.add_zero] at e A1
  rw [show ((0 : Nat) : Int) = 0 from rfl] at e
  rw [e, e13_0x0]
  rw [List.take_length] at A1
  have hlen : (ws ++ zs.map itoaL).length = ws.length + zs.length := by simp
  have hjl : (joined [32] (ws ++ zs.map itoaL)).length ≤ 20 * 101 := by
    have := joined_len [32] 100 (ws ++ zs.map itoaL) (fun x hx => by
      rcases List.mem_append.1 hx with hx | hx
      · exact hw x hx
      · obtain ⟨z, _, rfl⟩ := List.mem_map.1 hx
        have := itoaL_len z; omega)
    rw [hlen] at this
    simp only [List.length_singleton] at this
    omega
  rw [← hlen, callK_mk (c_join A1.sl (by simp [hne]) (by omega) (by omega)), castS_mk, ifK_pos (by rw [txt_size]; omega), joined_nums _ _ hne]
  refine .mk ⟨?_, E1⟩
  show Value.string (txt _ ++ txt [10]) = _
  rw [txt_app]; rfl

/-- A row, by the reference. -/
theorem c_rrow {a : Option Addr} {st : Nat} {s : List UInt8} {zs : List Int} (S : Is h a st zs) (fz : ∀ z ∈ zs, fits z) (hs : s.length ≤ 1000) (hzl : zs.length ≤ 10) (hr : 1000000 ≤ r) :
    ev31 r (n + 3) 28 [.string (txt s), .slice a zs.length st] h = some (.string (txt (rowT s zs)), h) := by
  rw [e28]
  obtain ⟨_, m, rfl, e⟩ := loop_run (P := P31) (call := ev31 r (n + 2)) (jmp := jmp31 r (n + 2) 28) (dead := dead31 28) (rounds := r) (c := 0) (code := pc [1, 0, 1, 0, 0] (bd Tryz.f28)) (d := dead31 28 (4 * 0)) (d' := dead31 28 (4 * 0 + 2)) (dr := dead31 28 1000002)
    (σ := Unit) zs.length (fun k x hh => hh = h)
    (fun k _ => E28_0 (.string (txt (s ++ numsT (zs.take k)))) (.slice a zs.length st) (.int .i64 (k : Int))) (xT := .exit 0)
    (envT := fun _ => E28_2 (.string (txt (s ++ numsT zs)))) (s0 := ()) (h := h) (fun k _ hh hlt E1 => by
      subst E1
      have hget : zs[k]? = some zs[k] := List.getElem?_eq_getElem hlt
      have htk : zs.take (k + 1) = zs.take k ++ [zs[k]] := by rw [List.take_add_one, hget]; rfl
      have hmem : zs[k] ∈ zs := List.getElem_mem hlt
      generalize zs[k] = z at hget htk hmem
      refine ⟨(), hh, rfl, fun {R} nx K => ?_⟩
      rw [e28_0, decide_eq_true (by omega), cond_true]
      obtain ⟨j, o, q1, q2⟩ := S.cell (P := P31) (f := 0) und23 cel3 agg3 hget rfl
      rw [Nat.add_zero] at q2
      rw [q1]
      simp only [addrK_mk]
      have hi := itoaL_len z
      have hn := numsT_len (zs.take k)
      have hl : (zs.take k).length ≤ 10 := by rw [List.length_take]; omega
      have e1 : ({ data := #[32] } : ByteArray) ++ txt (itoaL z) = txt (32 :: itoaL z) := by
        show txt [32] ++ txt (itoaL z) = _
        rw [txt_app]; rfl
      rw [q2, optK_mk, castI_mk, callK_mk (c_number (fz z hmem)), castS_mk, ifK_pos (by rw [txt_size]; omega), ifK_pos (by rw [e1, txt_size, txt_size]; simp; omega), e1, txt_app, wrap_succ (by omega), htk]
      have e2 : s ++ numsT (zs.take k) ++ 32 :: itoaL z = s ++ numsT (zs.take k ++ [z]) := by simp [numsT]
      rw [e2])
    (fun _ hh _ {R} nx K => by rw [e28_0, decide_eq_false (by omega), cond_false, List.take_length]) rfl (r := r) (by omega)
  have e0 : s ++ numsT (zs.take 0) = s := by simp [numsT]
  rw [e0, show ((0 : Nat) : Int) = 0 from rfl] at e
  have hn := numsT_len zs
  rw [e, e28_0x0, ifK_pos (by rw [txt_size]; simp; omega)]
  show some (Value.string (txt _ ++ txt [10]), _) = _
  rw [txt_app]; rfl
end
end Go.Ev
