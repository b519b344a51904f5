/-
  Reading, writing, making memory: what the evaluator does to its blocks, and that the model does the same to its own.
-/
import Derived.Test.YtofgaidlepmcmaaGreatDoorEvB
namespace Go.Ev
open Go

/-! ### the evaluator's side -/

def ldCell (h : H) (i o : Nat) : Option Value :=
  match h.get i with
  | some (.cells c _) => c[o]?
  | _ => none
def ldCells (h : H) (i o n : Nat) : Option (List Value) :=
  match h.get i with
  | some (.cells c _) => bif Nat.ble (o + n) c.length then some ((c.drop o).take n) else none
  | _ => none
def setRange : List Value → Nat → List Value → List Value
  | c, _, [] => c
  | c, o, v :: r => setRange (c.set o v) (o + 1) r
def stCells (h : H) (i o : Nat) (vs : List Value) : Option H :=
  match h.get i with
  | some (.cells c false) => bif Nat.ble (o + vs.length) c.length then some (h.put i (.cells (setRange c o vs) false)) else none
  | _ => none

theorem setRange_length (vs : List Value) : ∀ (c : List Value) (o : Nat), (setRange c o vs).length = c.length := by
  induction vs with
  | nil => intro c o; rfl
  | cons v r ih => intro c o; simp [setRange, ih]
theorem setRange_get (vs : List Value) : ∀ (c : List Value) (o j : Nat), o + vs.length ≤ c.length →
    (setRange c o vs)[j]? = if o ≤ j ∧ j < o + vs.length then vs[j - o]? else c[j]? := by
  induction vs with
  | nil => intro c o j _; simp only [setRange, List.length_nil]; rw [if_neg (by omega)]
  | cons v r ih =>
    intro c o j hl
    simp only [List.length_cons] at hl
    simp only [setRange, List.length_cons]
    rw [ih (c.set o v) (o + 1) j (by simp; omega)]
    by_cases h1 : j = o
    · subst h1
      rw [if_neg (by omega), if_pos (by omega)]
      simp [show j < c.length by omega]
    · by_cases h2 : o + 1 ≤ j ∧ j < o + 1 + r.length
      · rw [if_pos h2, if_pos (by omega)]
        have : j - o = (j - (o + 1)) + 1 := by omega
        rw [this]; simp
      · rw [if_neg h2, if_neg (by omega)]
        simp [show ¬ o = j by omega]

/-! ### the model's side -/

theorem cell?_of {w : World} {b k : Nat} {C : Array Value} {e : TypeId} {fr : Nat × Nat} (hb : w.heap[b]? = some (.cells C e fr)) : w.cell? ⟨b, k, none⟩ = C[k]? := by
  simp [World.cell?, hb]
theorem frozen?_of {w : World} {b k : Nat} {C : Array Value} {e : TypeId} {fr : Nat × Nat} (hb : w.heap[b]? = some (.cells C e fr)) :
    w.frozen? ⟨b, k, none⟩ = (decide (fr.1 ≤ k) && decide (k < fr.2)) := by
  simp [World.frozen?, hb]

theorem add_plain (b k i : Nat) : (⟨b, k, none⟩ : Addr).add i = ⟨b, k + i, none⟩ := by
  unfold Addr.add
  split
  · rename_i h; subst h; rfl
  · rfl

theorem loadCellsFrom_run {P : Program} {w : World} {b k : Nat} : ∀ (vs : List Value) (i : Nat) (acc : Array Value),
    (∀ (j : Nat) v, vs[j]? = some v → w.cell? ⟨b, k + i + j, none⟩ = some v) →
    (loadCellsFrom ⟨b, k, none⟩ i vs.length acc).run P w = .ok (acc ++ vs.toArray) w := by
  intro vs
  induction vs with
  | nil => intro i acc _; simp [loadCellsFrom]
  | cons v r ih =>
    intro i acc h
    have h0 := h 0 v rfl
    simp only [List.length_cons, loadCellsFrom, Sem.run_bind, run_load, add_plain]
    rw [Nat.add_zero] at h0
    rw [h0]
    simp only [Result.andThen_ok]
    rw [ih (i + 1) (acc.push v) (fun j u hj => by have := h (j + 1) u (by simpa using hj); rw [show k + (i + 1) + j = k + i + (j + 1) from by omega]; exact this)]
    simp

theorem loadCells_run {P : Program} {w : World} {b k : Nat} (vs : List Value) (h : ∀ (j : Nat) v, vs[j]? = some v → w.cell? ⟨b, k + j, none⟩ = some v) :
    (loadCells ⟨b, k, none⟩ vs.length).run P w = .ok vs.toArray w := by
  unfold loadCells
  rw [loadCellsFrom_run vs 0 #[] (by simpa using h)]
  simp

theorem setCell_one {w : World} {b k : Nat} {C : Array Value} {e : TypeId} {fr : Nat × Nat} (hb : w.heap[b]? = some (.cells C e fr)) (v : Value) :
    OneBlock w (w.setCell ⟨b, k, none⟩ v) b (.cells (C.setIfInBounds k v) e fr) where
  os := rfl
  tape := rfl
  output := rfl
  size := by simp
  here := by simp [World.setCell, Array.getElem?_modify, hb]
  there := fun j hj => by simp [World.setCell, Array.getElem?_modify, Ne.symm hj]

theorem OneBlock.trans {w w' w'' : World} {b : Nat} {o o' : Obj} (h : OneBlock w w' b o) (k : OneBlock w' w'' b o') : OneBlock w w'' b o' :=
  ⟨k.os.trans h.os, k.tape.trans h.tape, k.output.trans h.output, k.size.trans h.size, k.here, fun j hj => (k.there j hj).trans (h.there j hj)⟩

theorem storeCells_run {P : Program} {b k : Nat} {e : TypeId} {fr : Nat × Nat} : ∀ (vs : List Value) (i : Nat) (w : World) (C : Array Value),
    w.heap[b]? = some (.cells C e fr) → k + i + vs.length ≤ C.size → (∀ j, k + i ≤ j → j < k + i + vs.length → fr.1 ≤ j → j < fr.2 → False) →
    (∀ v ∈ vs, v.oneCell' = true) →
    ∃ w' C', (storeCells ⟨b, k, none⟩ vs i).run P w = .ok () w' ∧ OneBlock w w' b (.cells C' e fr) ∧ C'.size = C.size ∧
      ∀ j : Nat, C'[j]? = if k + i ≤ j ∧ j < k + i + vs.length then vs[j - (k + i)]? else C[j]? := by
  intro vs
  induction vs with
  | nil =>
    intro i w C hb _ _ _
    refine ⟨w, C, by simp [storeCells], ⟨rfl, rfl, rfl, rfl, hb, fun _ _ => rfl⟩, rfl, fun j => ?_⟩
    simp only [List.length_nil]; rw [if_neg (by omega)]
  | cons v r ih =>
    intro i w C hb hl hf ho
    simp only [List.length_cons] at hl hf
    have hcell : w.cell? ⟨b, k + i, none⟩ = some C[k + i] := by rw [cell?_of hb]; exact Array.getElem?_eq_getElem (by omega)
    have hfr : w.frozen? ⟨b, k + i, none⟩ = false := by
      rw [frozen?_of hb]
      cases h1 : decide (fr.1 ≤ k + i) with
      | false => rfl
      | true =>
        cases h2 : decide (k + i < fr.2) with
        | false => rfl
        | true => exact (hf (k + i) (by omega) (by omega) (of_decide_eq_true h1) (of_decide_eq_true h2)).elim
    have h1 := setCell_one (k := k + i) hb v
    obtain ⟨w', C', hr, hO, hs, hg⟩ := ih (i + 1) (w.setCell ⟨b, k + i, none⟩ v) (C.setIfInBounds (k + i) v) h1.here (by simp; omega)
      (fun j a c d f => hf j (by omega) (by omega) d f) (fun u hu => ho u (List.mem_cons_of_mem _ hu))
    refine ⟨w', C', ?_, h1.trans hO, by simpa using hs, fun j => ?_⟩
    · simp only [storeCells, Sem.run_bind, add_plain]
      rw [run_store P w _ v _ (ho v (List.mem_cons_self ..)), hcell]
      simp only [hfr, Bool.false_eq_true, if_false, Result.andThen_ok]
      exact hr
    · rw [hg j]
      simp only [List.length_cons]
      by_cases e1 : j = k + i
      · subst e1
        rw [if_neg (by omega), if_pos (by omega)]
        simp [show k + i < C.size by omega]
      · by_cases e2 : k + (i + 1) ≤ j ∧ j < k + (i + 1) + r.length
        · rw [if_pos e2, if_pos (by omega)]
          have : j - (k + i) = (j - (k + (i + 1))) + 1 := by omega
          rw [this]; simp
        · rw [if_neg e2, if_neg (by omega)]
          simp [show ¬ k + i = j by omega]

/-! ### the two together -/

section
variable {P : Program} {ρ : Rho} {base : Base} {h h' : H} {w : World}

theorem SimG.cells {i : Nat} {c : List Value} {ro : Bool} (hs : Sim ρ base h w) (hi : h.get i = some (.cells c ro)) :
    ∃ b o K C e fr, ρ i = some (b, o, K) ∧ w.heap[b]? = some (.cells C e fr) ∧ BlkR ρ base (.cells c ro) b o K (.cells C e fr) := by
  obtain ⟨b, o, K, obj, hr, hw, hB⟩ := hs.blk i _ hi
  cases obj with
  | cells C e fr => exact ⟨b, o, K, C, e, fr, hr, hw, hB⟩
  | _ => exact hB.elim

theorem ldCell_sim {i o : Nat} {v : Value} (hs : Sim ρ base h w) (hl : ldCell h i o = some v) :
    ∃ b c K v', ρ i = some (b, c, K) ∧ w.cell? ⟨b, c + o, none⟩ = some v' ∧ VR ρ v v' ∧ v.oneCell' = true := by
  unfold ldCell at hl
  split at hl
  · rename_i c ro hi
    obtain ⟨b, k, K, C, e, fr, hr, hw, hB⟩ := hs.cells hi
    obtain ⟨ho, v', h1, h2⟩ := hB.1 o v hl
    exact ⟨b, k, K, v', hr, by rw [cell?_of hw]; exact h1, h2, ho⟩
  · cases hl

theorem ldCells_sim {i o n : Nat} {vs : List Value} (hs : Sim ρ base h w) (hl : ldCells h i o n = some vs) :
    ∃ b c K vs', ρ i = some (b, c, K) ∧ vs'.length = n ∧ (∀ (j : Nat) v, vs'[j]? = some v → w.cell? ⟨b, c + o + j, none⟩ = some v) ∧ VRs ρ vs vs' ∧ ∀ v ∈ vs, v.oneCell' = true := by
  unfold ldCells at hl
  split at hl
  · rename_i c ro hi
    obtain ⟨b, k, K, C, e, fr, hr, hw, hB⟩ := hs.cells hi
    cases hle : Nat.ble (o + n) c.length with
    | false => rw [hle] at hl; cases hl
    | true =>
      rw [hle] at hl
      simp only [cond_true, Option.some.injEq] at hl
      have hle' := Nat.le_of_ble_eq_true hle
      subst hl
      have hlen : ((c.drop o).take n).length = n := by simp; omega
      have hget : ∀ (j : Nat) v, ((c.drop o).take n)[j]? = some v → c[o + j]? = some v := by
        intro j v hj
        rw [List.getElem?_take] at hj
        split at hj
        · rwa [List.getElem?_drop] at hj
        · cases hj
      have hex : ∀ j, j < n → ∃ v', C[k + (o + j)]? = some v' := by
        intro j hj
        obtain ⟨_, v', h1, _⟩ := hB.1 (o + j) c[o + j] (List.getElem?_eq_getElem (by omega))
        exact ⟨v', h1⟩
      refine ⟨b, k, K, ((C.toList.drop (k + o)).take n), hr, ?_, ?_, ⟨?_, ?_⟩, ?_⟩
      · rcases Nat.eq_zero_or_pos n with h0 | h0
        · subst h0; simp
        · obtain ⟨v', hv⟩ := hex (n - 1) (by omega)
          have := (Array.getElem?_eq_some_iff.1 hv).1
          simp; omega
      · intro j v hj
        rw [cell?_of hw]
        rw [List.getElem?_take] at hj
        split at hj
        · rw [List.getElem?_drop] at hj
          rw [show k + o + j = k + o + j from rfl]; simpa using hj
        · cases hj
      · rw [hlen]
        rcases Nat.eq_zero_or_pos n with h0 | h0
        · subst h0; simp
        · obtain ⟨v', hv⟩ := hex (n - 1) (by omega)
          have := (Array.getElem?_eq_some_iff.1 hv).1
          simp; omega
      · intro j x y hx hy
        obtain ⟨_, v', h1, h2⟩ := hB.1 (o + j) x (hget j x hx)
        rw [List.getElem?_take] at hy
        split at hy
        · rw [List.getElem?_drop] at hy
          have : C[k + (o + j)]? = some y := by rw [← Nat.add_assoc]; simpa using hy
          rw [h1] at this; cases this; exact h2
        · cases hy
      · intro v hv
        obtain ⟨j, hj⟩ := List.getElem?_of_mem hv
        exact (hB.1 (o + j) v (hget j v hj)).1
  · cases hl

theorem stCells_sim {i o : Nat} {vs vs' : List Value} (hs : Sim ρ base h w) (hl : stCells h i o vs = some h') (hv : VRs ρ vs vs') (ho : ∀ v ∈ vs, v.oneCell' = true) :
    ∃ b c K w', ρ i = some (b, c, K) ∧ (storeCells ⟨b, c + o, none⟩ vs').run P w = .ok () w' ∧ Post base ρ h w ρ h' w' := by
  unfold stCells at hl
  split at hl
  · rename_i c hi
    obtain ⟨b, k, K, C, e, fr, hr, hw, hB⟩ := hs.cells hi
    cases hle : Nat.ble (o + vs.length) c.length with
    | false => rw [hle] at hl; cases hl
    | true =>
      rw [hle] at hl
      simp only [cond_true, Option.some.injEq] at hl
      have hle' := Nat.le_of_ble_eq_true hle
      subst hl
      obtain ⟨hcell, hrw⟩ := hB
      obtain ⟨hbase, hK, hoc, hfz⟩ := hrw rfl
      have hvl := hv.1
      obtain ⟨w', C', hrun, hO, hsz, hg⟩ := storeCells_run (P := P) (b := b) (k := k + o) (e := e) (fr := fr) vs' 0 w C hw (by omega)
        (fun j a1 a2 a3 a4 => hfz j (by omega) (by omega) a3 a4) (hv.oneCell ho)
      refine ⟨b, k, K, w', hr, hrun, PostG.write hs hi rfl hr hO ?_⟩
      simp only [BlkR]
      refine ⟨fun j v hj => ?_, fun _ => ⟨hbase, by omega, by rw [setRange_length]; exact hoc, hfz⟩⟩
      rw [setRange_get vs c o j hle'] at hj
      rw [hg]
      by_cases e1 : o ≤ j ∧ j < o + vs.length
      · rw [if_pos e1] at hj
        rw [if_pos (by omega)]
        obtain ⟨v', h1, h2⟩ := hv.get hj
        refine ⟨ho v (List.mem_of_getElem? hj), v', ?_, h2⟩
        rw [show k + j - (k + o + 0) = j - o from by omega]; exact h1
      · rw [if_neg e1] at hj
        rw [if_neg (by omega)]
        exact hcell j v hj
  · cases hl

/-- A new row of cells. -/
theorem newRow_sim {cs : List Value} {C : Array Value} {e : TypeId} {fr : Nat × Nat} (hs : Sim ρ base h w)
    (hcs : ∀ (j : Nat) v, cs[j]? = some v → v.oneCell' = true ∧ ∃ v', C[j]? = some v' ∧ VR ρ v v') (hf : ∀ j, j < C.size → fr.1 ≤ j → j < fr.2 → False) :
    Post base ρ h w (ρ.ins h.next (w.heap.size, 0, C.size)) (h.new (.cells cs false)) (w.alloc (.cells C e fr)) := by
  refine PostG.alloc hs _ _ _ ?_
  show _ ∧ _
  refine ⟨fun j v hj => by rw [Nat.zero_add]; exact hcs j v hj, fun _ => ⟨hs.based, rfl, ?_, fun j _ hj => hf j hj⟩⟩
  rcases Nat.eq_zero_or_pos cs.length with h0 | h0
  · omega
  · obtain ⟨_, v', h1, _⟩ := hcs (cs.length - 1) cs[cs.length - 1] (List.getElem?_eq_getElem (by omega))
    have := (Array.getElem?_eq_some_iff.1 h1).1
    omega
end

end Go.Ev
