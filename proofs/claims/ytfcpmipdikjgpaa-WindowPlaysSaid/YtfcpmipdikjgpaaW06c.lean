/-
  WindowPlays: Take.
-/
import Derived.Test.YtfcpmipdikjgpaaW06b
namespace Go.Ev
open Go Go.Proofs

theorem setRange_tail (c : List Value) : (setRange c 0 ((c.drop 1).take (c.length - 1))).take (c.length - 1) = c.drop 1 := by
  have hl : ((c.drop 1).take (c.length - 1)) = c.drop 1 := by rw [List.take_of_length_le (by simp)]
  rw [hl]
  apply List.ext_getElem?
  intro j
  rw [List.getElem?_take]
  split
  · rename_i hj
    rw [setRange_get _ _ _ _ (by simp), if_pos (by simp; omega)]
    simp
  · rename_i hj
    rw [List.getElem?_eq_none (by simp; omega)]

section
variable {r n : Nat} {h : H} {i : Nat} {w m : Int} {ts : List Int} {a : Option Addr} {st : Nat}

/-- What a grant leaves. -/
def Takes (h : H) (i : Nat) (w m : Int) (a : Option Addr) (ts' : List Int) (h' : H) : Prop :=
  (∃ a' st', Win h' i w m ts' a' st') ∧ Wf h' ∧ h.next ≤ h'.next ∧ (∀ k, k < h.next → k ≠ i → (∀ j, a = some ⟨j, 0, none⟩ → k ≠ j) → h'.get k = h.get k) ∧
    ∀ a' st' , Win h' i w m ts' a' st' → ∀ j, a' = some ⟨j, 0, none⟩ → h.next ≤ j

/-- A window whose row may be longer than it. -/
def Win0 (h : H) (i : Nat) (w m : Int) (ts : List Int) (a : Option Addr) (st : Nat) : Prop :=
  h.get i = some (.cells [.int .i64 w, .int .i64 m, .slice a ts.length st] false) ∧
    ((ts = [] ∧ a = none ∧ st = 0) ∨ (st = 1 ∧ ∃ j c, a = some ⟨j, 0, none⟩ ∧ j ≠ i ∧ h.get j = some (.cells c false) ∧ ts.length ≤ c.length ∧ c.take ts.length = i64s ts))
theorem Win.to0 (W : Win h i w m ts a st) : Win0 h i w m ts a st := by
  refine ⟨W.1, ?_⟩
  rcases W.2.1 with h1 | ⟨h1, j, ro, rfl, h3⟩
  · exact .inl h1
  · obtain ⟨h4, h5⟩ := W.2.2 j rfl
    exact .inr ⟨h1, j, _, rfl, h4, h5, by simp [i64s], List.take_of_length_le (by simp [i64s])⟩

/-- A grant put behind the others. -/
theorem push (W : Win0 h i w m ts a st) (wf : Wf h) (hlen : ts.length < 1000000) {now : Int} {K : H → Option (Value × H)} :
    ∃ h', Takes h i w m a (ts ++ [now]) h' ∧
      (appendA P6 #[22, 22] (.slice a ts.length st) (.slice (some ⟨h.next, 0, none⟩) 1 1) (h.new (.cells [.int .i64 now] false)) fun v h2 =>
        castSl v fun a n s => optK (stCells h2 i 2 [.slice a n s]) fun h3 => K h3) = K h' := by
  have hin : i < h.next := by
    rcases Nat.lt_or_ge i h.next with hx | hx
    · exact hx
    · have := wf i hx; rw [W.1] at this; cases this
  have gsrc : (h.new (.cells [.int .i64 now] false)).get h.next = some (.cells [.int .i64 now] false) := by rw [H.get_new]; simp
  obtain ⟨A1, A2⟩ := appendA_one (K := fun v h2 => castSl v fun a n s => optK (stCells h2 i 2 [.slice a n s]) fun h3 => K h3) append22 gsrc (by omega)
  rcases W.2 with ⟨rfl, rfl, rfl⟩ | ⟨rfl, j, c, rfl, hji, hg', hcl, hct⟩
  · let h2 := (h.new (.cells [.int .i64 now] false)).new (.cells [.int .i64 now] false)
    have g2 : h2.get i = some (.cells [.int .i64 w, .int .i64 m, .slice none 0 0] false) := by
      show (((h.new _).new _).get i) = _
      rw [H.get_new, H.get_new, H.next_new, if_neg (by omega), if_neg (by omega)]; exact W.1
    have e := stCells_of (i := i) (o := 2) (vs := [.slice (some ⟨h.next + 1, 0, none⟩) 1 1]) g2 (by simp)
    refine ⟨h2.put i (.cells [.int .i64 w, .int .i64 m, .slice (some ⟨h.next + 1, 0, none⟩) 1 1] false), ⟨⟨some ⟨h.next + 1, 0, none⟩, 1, ?_, .inr ⟨rfl, h.next + 1, false, rfl, ?_⟩, ?_⟩, ?_, ?_, ?_, ?_⟩, ?_⟩
    · rw [H.get_put, if_pos rfl]; rfl
    · rw [H.get_put, if_neg (by omega)]
      show ((h.new _).new _).get _ = _
      rw [H.get_new, H.next_new, if_pos rfl]; rfl
    · intro j hj
      cases hj
      refine ⟨by omega, ?_⟩
      rw [H.get_put, if_neg (by omega)]
      show ((h.new _).new _).get _ = _
      rw [H.get_new, H.next_new, if_pos rfl]; rfl
    · intro k hk
      rw [H.next_put] at hk
      have hk : h.next + 1 + 1 ≤ k := hk
      rw [H.get_put, if_neg (by omega)]
      show ((h.new _).new _).get _ = _
      rw [H.get_new, H.get_new, H.next_new, if_neg (by omega), if_neg (by omega)]
      exact wf k (by omega)
    · show h.next ≤ h.next + 1 + 1; omega
    · intro k hk hki _
      rw [H.get_put, if_neg hki]
      show ((h.new _).new _).get _ = _
      rw [H.get_new, H.get_new, H.next_new, if_neg (by omega), if_neg (by omega)]
    · intro a' st' W' j hj
      have := W'.1
      rw [H.get_put, if_pos rfl] at this
      subst hj
      simp at this
      omega
    · have := A1
      simp only [H.next_new] at this
      simp only [List.length_nil]
      rw [this]
      simp only [castSl_mk]
      rw [e]; rfl
  · have hjn : j < h.next := by
      rcases Nat.lt_or_ge j h.next with hx | hx
      · exact hx
      · have := wf j hx; rw [hg'] at this; cases this
    have gj : (h.new (.cells [.int .i64 now] false)).get j = some (.cells c false) := by rw [H.get_new, if_neg (by omega)]; exact hg'
    have A := A2 j 0 ts.length c gj (by omega) (by omega)
    have ec : ((c.drop 0).take ts.length ++ [Value.int .i64 now]) = i64s (ts ++ [now]) := by
      rw [List.drop_zero, hct]; simp [i64s]
    rw [ec] at A
    let h2 := ((h.new (.cells [.int .i64 now] false)).del j).new (.cells (i64s (ts ++ [now])) false)
    have g2 : h2.get i = some (.cells [.int .i64 w, .int .i64 m, .slice (some ⟨j, 0, none⟩) ts.length 1] false) := by
      show (((h.new _).del j).new _).get i = _
      rw [H.get_new, H.next_del, H.next_new, if_neg (by omega), H.get_del, if_neg (fun e => hji e.symm), H.get_new, if_neg (by omega)]; exact W.1
    have gn : h2.get (h.next + 1) = some (.cells (i64s (ts ++ [now])) false) := by
      show (((h.new _).del j).new _).get _ = _
      rw [H.get_new, H.next_del, H.next_new, if_pos rfl]
    have e := stCells_of (i := i) (o := 2) (vs := [.slice (some ⟨h.next + 1, 0, none⟩) (ts.length + 1) 1]) g2 (by simp)
    refine ⟨h2.put i (.cells [.int .i64 w, .int .i64 m, .slice (some ⟨h.next + 1, 0, none⟩) (ts.length + 1) 1] false), ⟨⟨some ⟨h.next + 1, 0, none⟩, 1, ?_, .inr ⟨rfl, h.next + 1, false, rfl, ?_⟩, ?_⟩, ?_, ?_, ?_, ?_⟩, ?_⟩
    · rw [H.get_put, if_pos rfl]; simp
    · rw [H.get_put, if_neg (by omega)]; exact gn
    · intro j hj
      cases hj
      refine ⟨by omega, ?_⟩
      rw [H.get_put, if_neg (by omega)]; exact gn
    · intro k hk
      rw [H.next_put] at hk
      have hk : h.next + 1 + 1 ≤ k := hk
      rw [H.get_put, if_neg (by omega)]
      show (((h.new _).del j).new _).get k = _
      rw [H.get_new, H.next_del, H.next_new, if_neg (by omega), H.get_del, if_neg (by omega), H.get_new, if_neg (by omega)]
      exact wf k (by omega)
    · show h.next ≤ h.next + 1 + 1; omega
    · intro k hk hki hkj
      rw [H.get_put, if_neg hki]
      show (((h.new _).del j).new _).get k = _
      rw [H.get_new, H.next_del, H.next_new, if_neg (by omega), H.get_del, if_neg (hkj j rfl), H.get_new, if_neg (by omega)]
    · intro a' st' W' j hj
      have := W'.1
      rw [H.get_put, if_pos rfl] at this
      subst hj
      simp at this
      omega
    · simp only [H.next_new] at A
      rw [A]
      simp only [castSl_mk]
      rw [e]; rfl

theorem c14 (W : Win h i w m ts a st) (wf : Wf h) (hm : 0 < m) (ho : Ord ts) (hw : 0 ≤ w ∧ w ≤ 1073741824) (hlen : ts.length < 1000000) (hr : ts.length < r) {now : Int} :
    (asked now ts = false → ev06 r (n + 2) 14 [.pointer (some ⟨i, 0, none⟩), .int .i64 now] h = some (.int .i64 2, h)) ∧
    (asked now ts = true → ¬ (ccnt w now ts : Int) < m → ev06 r (n + 2) 14 [.pointer (some ⟨i, 0, none⟩), .int .i64 now] h = some (.int .i64 60, h)) ∧
    (asked now ts = true → (ccnt w now ts : Int) < m → ∃ h', Takes h i w m a (ts ++ [now]) h' ∧ ev06 r (n + 2) 14 [.pointer (some ⟨i, 0, none⟩), .int .i64 now] h = some (.int .i64 0, h')) := by
  rw [e14]
  simp only [callK_mk (c12 W hlen), castBB_mk, callK_mk (c9 W ho hw hlen hr), castI_mk, W.l1, optK_mk, W.same, cond_true]
  refine ⟨fun ha => by rw [ha]; rfl, fun ha hc => by
    have hc' : decide ((ccnt w now ts : Int) ≥ m) = true := by simp; omega
    rw [ha, hc']; rfl, fun ha hc => ?_⟩
  have hc' : decide ((ccnt w now ts : Int) ≥ m) = false := by simp; omega
  obtain ⟨h', h1, h2⟩ := push (now := now) (K := fun h => some (Value.int IntKind.i64 0, h)) W.to0 wf hlen
  refine ⟨h', h1, ?_⟩
  rw [ha]
  simp only [hc', cond_true, cond_false, W.l2, optK_mk, castSl_mk]
  exact h2

/-- Room is made, and a grant put behind the others. -/
theorem shift (W : Win h i w m ts a st) (wf : Wf h) (hlen : ts.length < 1000000) (hts : ts ≠ []) (hm : (ts.length : Int) = m) {now : Int} :
    ∃ h', Takes h i w m a (ts.drop 1 ++ [now]) h' ∧
      (sliceA P6 22 (.slice a ts.length st) (some (.int .i64 1)) none fun v23 => castSl v23 fun a24 o25 o26 =>
        copyA P6 { toList := [22, 22] } (Value.slice a ts.length st) (Value.slice a24 o25 o26) h fun v27 h28 => castI IntKind.i64 v27 fun _ =>
          optK (ldV P6 22 i 2 h28) fun v30 => castSl v30 fun a31 o32 o33 => optK (ldV P6 3 i 1 h28) fun v34 => castI IntKind.i64 v34 fun n35 =>
            sliceA P6 22 (Value.slice a31 o32 o33) none (some (Value.int IntKind.i64 (IntKind.i64.wrap (n35 - 1)))) fun v36 => castSl v36 fun a37 o38 o39 =>
              optK (stCells h28 i 2 [Value.slice a37 o38 o39]) fun h40 => optK (ldV P6 22 i 2 h40) fun v41 => castSl v41 fun a42 o43 o44 =>
                appendA P6 { toList := [22, 22] } (Value.slice a42 o43 o44) (Value.slice (some { block := h40.1, off := 0 }) 1 1) (h40.new (Blk.cells [Value.int IntKind.i64 now] false)) fun v45 h46 =>
                  castSl v45 fun a47 o48 o49 => optK (stCells h46 i 2 [Value.slice a47 o48 o49]) fun h50 => some (Value.int IntKind.i64 0, h50)) = some (Value.int IntKind.i64 0, h') := by
  have hl : 0 < ts.length := List.length_pos_iff.2 hts
  rcases W.2.1 with ⟨h1, _⟩ | ⟨rfl, j, ro, rfl, _⟩
  · exact absurd h1 hts
  obtain ⟨hji, hg⟩ := W.2.2 j rfl
  have hcl : (i64s ts).length = ts.length := by simp [i64s]
  have hsrc : ∀ (R' : Type) (K' : Nat → List Value → Option R'), srcCells h 1 (.slice (some ⟨j, 0 + 1 * 1, none⟩) (ts.length - 1) 1) K' = K' (ts.length - 1) (((i64s ts).drop 1).take (ts.length - 1)) := fun R' K' => by
    rw [srcCells_slice hg (by rw [hcl]; omega)]; simp
  let c' := setRange (i64s ts) 0 (((i64s ts).drop 1).take ((i64s ts).length - 1))
  have hc' : c'.take (ts.length - 1) = i64s (ts.drop 1) := by
    have := setRange_tail (i64s ts)
    rw [hcl] at this
    show List.take (ts.length - 1) (setRange (i64s ts) 0 (((i64s ts).drop 1).take ((i64s ts).length - 1))) = _
    rw [hcl, this]; simp [i64s]
  have hc'l : c'.length = ts.length := by show (setRange _ _ _).length = _; rw [setRange_length, hcl]
  let h28 := h.put j (.cells c' false)
  have hst : stCells h j 0 ((((i64s ts).drop 1).take (ts.length - 1)).take (Nat.min (ts.length - 1) ts.length * 1)) = some h28 := by
    have e : (((i64s ts).drop 1).take (ts.length - 1)).take (Nat.min (ts.length - 1) ts.length * 1) = ((i64s ts).drop 1).take ((i64s ts).length - 1) := by
      rw [hcl, List.take_of_length_le]
      have : Nat.min (ts.length - 1) ts.length = ts.length - 1 := Nat.min_eq_left (by omega)
      rw [this]; simp; omega
    rw [e]
    exact stCells_of hg (by simp [i64s])
  have g28 : h28.get i = some (.cells [.int .i64 w, .int .i64 m, .slice (some ⟨j, 0, none⟩) ts.length 1] false) := by
    show (h.put j _).get i = _
    rw [H.get_put, if_neg (fun e => hji e.symm)]; exact W.1
  have l2 : ldV P6 22 i 2 h28 = some (.slice (some ⟨j, 0, none⟩) ts.length 1) := by rw [ldV_cell agg22 g28]; rfl
  have l1 : ldV P6 3 i 1 h28 = some (.int .i64 m) := by rw [ldV_cell agg3 g28]; rfl
  have wm : IntKind.i64.wrap (m - 1) = m - 1 := wrap_id (by omega) (by omega)
  have e40 := stCells_of (i := i) (o := 2) (vs := [.slice (some ⟨j, 0 + (0 : Int).toNat * 1, none⟩) ((m - 1 : Int) - 0).toNat 1]) g28 (by simp)
  let h40 := h28.put i (.cells [.int .i64 w, .int .i64 m, .slice (some ⟨j, 0, none⟩) (ts.drop 1).length 1] false)
  have e40' : stCells h28 i 2 [.slice (some ⟨j, 0 + (0 : Int).toNat * 1, none⟩) ((m - 1 : Int) - 0).toNat 1] = some h40 := by
    rw [e40]
    have : ((m - 1 : Int) - 0).toNat = (ts.drop 1).length := by simp; omega
    rw [this]; rfl
  have W0 : Win0 h40 i w m (ts.drop 1) (some ⟨j, 0, none⟩) 1 := by
    refine ⟨?_, .inr ⟨rfl, j, c', rfl, hji, ?_, ?_, ?_⟩⟩
    · show (h28.put i _).get i = _
      rw [H.get_put, if_pos rfl]
    · show (h28.put i _).get j = _
      rw [H.get_put, if_neg hji]
      show (h.put j _).get j = _
      rw [H.get_put, if_pos rfl]
    · rw [hc'l]; simp
    · rw [List.length_drop]; exact hc'
  have nx : h40.next = h.next := rfl
  have old : ∀ k, k ≠ i → k ≠ j → h40.get k = h.get k := fun k h1 h2 => by
    show ((h.put j _).put i _).get k = _
    rw [H.get_put, if_neg h1, H.get_put, if_neg h2]
  have wf40 : Wf h40 := fun k hk => by
    have h1 := wf k hk
    rw [old k (fun e => by subst e; rw [W.1] at h1; cases h1) (fun e => by subst e; rw [hg] at h1; cases h1)]
    exact h1
  obtain ⟨h', ⟨T1, T2, T3, T4, T5⟩, T6⟩ := push (now := now) (K := fun h => some (Value.int IntKind.i64 0, h)) W0 wf40 (by simp; omega)
  refine ⟨h', ⟨T1, T2, T3, fun k hk hki hkj => ?_, T5⟩, ?_⟩
  · rw [T4 k hk hki hkj, old k hki (hkj j rfl)]
  · have l40 : ldV P6 22 i 2 h40 = some (.slice (some ⟨j, 0, none⟩) (ts.drop 1).length 1) := by rw [ldV_cell agg22 W0.1]; rfl
    rw [sliceA_of und22 cells3]
    simp only [boundK]
    rw [ifK_pos (by omega)]
    simp only [castSl_mk]
    have e25 : ((ts.length : Int) - 1).toNat = ts.length - 1 := by omega
    rw [e25, show (1 : Int).toNat = 1 from rfl, copyA_of (dt := 22) (xt := 22) rfl und22 cells3 hsrc, hst]
    simp only [optK_mk, castI_mk, l2, l1, castSl_mk, wm]
    rw [sliceA_of und22 cells3]
    simp only [boundK]
    rw [ifK_pos (by omega)]
    simp only [castSl_mk]
    rw [e40']
    simp only [optK_mk, l40, castSl_mk]
    exact T6

theorem c13 (W : Win h i w m ts a st) (wf : Wf h) (hm : 0 < m) (ho : Ord ts) (hlen : ts.length < 1000000) (hr : ts.length < r) {now : Int} (hn : i64 now) :
    (asked now ts = false → ev06 r (n + 4) 13 [.pointer (some ⟨i, 0, none⟩), .int .i64 now] h = some (.int .i64 2, h)) ∧
    (asked now ts = true → ¬ (ccnt w now ts : Int) < m → ev06 r (n + 4) 13 [.pointer (some ⟨i, 0, none⟩), .int .i64 now] h = some (.int .i64 60, h)) ∧
    (asked now ts = true → (ccnt w now ts : Int) < m → ∃ h', Takes h i w m a (if (ts.length : Int) = m then ts.drop 1 ++ [now] else ts ++ [now]) h' ∧
      ev06 r (n + 4) 13 [.pointer (some ⟨i, 0, none⟩), .int .i64 now] h = some (.int .i64 0, h')) := by
  rw [e13]
  simp only [callK_mk (c16 W hm), castBB_mk, cond_true, callK_mk (c17 W hm hlen), callK_mk (c10' W hm ho hlen hr hn), castI_mk, W.l1, optK_mk, W.same]
  refine ⟨fun ha => by rw [ha]; rfl, fun ha hc => by
    have hc' : decide ((ccnt w now ts : Int) ≥ m) = true := by simp; omega
    rw [ha, hc']; rfl, fun ha hc => ?_⟩
  have hc' : decide ((ccnt w now ts : Int) ≥ m) = false := by simp; omega
  rw [ha]
  simp only [hc', cond_true, cond_false, W.l2, optK_mk, castSl_mk]
  by_cases hlm : (ts.length : Int) = m
  · have e : ((ts.length : Int) == m) = true := by simpa using hlm
    obtain ⟨h', h1, h2⟩ := shift (now := now) W wf hlen (by rintro rfl; simp at hlm; omega) hlm
    refine ⟨h', by rw [if_pos hlm]; exact h1, ?_⟩
    simp only [e, cond_true]
    exact h2
  · have e : ((ts.length : Int) == m) = false := by simpa using hlm
    obtain ⟨h', h1, h2⟩ := push (now := now) (K := fun h => some (Value.int IntKind.i64 0, h)) W.to0 wf hlen
    refine ⟨h', by rw [if_neg hlm]; exact h1, ?_⟩
    simp only [e, cond_false]
    exact h2
end
end Go.Ev
