/-
  How the evaluator's memory stands to a world of the model ('Sim'), what a step may do ('Post'), and the ways to make one: a new block, a write, an append that moves.
-/
import Derived.Test.YtofgaidlepmcmaaGreatDoorEvA
namespace Go.Ev
open Go

/-- The old world: how many blocks it had, and what they hold. -/
structure Base where
  n : Nat
  obj : Nat → Option Obj
instance : Coe Base Nat := ⟨Base.n⟩

/-- May it be written? -/
def Blk.wr : Blk → Bool
  | .cells _ ro => !ro
  | _ => true

/-- The entries of a map. -/
def MapR (ρ : Rho) (es : List (Value × Value)) (l : Array MapEntry) : Prop :=
  es.length = l.size ∧ ∀ (i : Nat) e m, es[i]? = some e → l[i]? = some m → m.key = e.1 ∧ VR ρ e.2 m.val ∧ plainV 4 e.1 = true

/-- A slice whose capacity is its block's. -/
def Exact (ρ : Rho) (v v' : Value) : Prop := ∀ i o n st, v = .slice (some ⟨i, o, none⟩) n st → ∃ b c cap, ρ i = some (b, c, cap * st) ∧ v' = .slice (some ⟨b, c + o, none⟩) n cap ∧ n ≤ cap ∧ cap ≤ maxLen
theorem Exact.mono {ρ ρ' : Rho} (hle : ρ.le ρ') {v v' : Value} (h : Exact ρ v v') : Exact ρ' v v' := fun i o n st e => let ⟨b, c, cap, h1, h2⟩ := h i o n st e; ⟨b, c, cap, hle _ _ h1, h2⟩
def BlkR (ρ : Rho) (base : Base) : Blk → Nat → Nat → Nat → Obj → Prop
  | .cells c ro, b, o, K, .cells C _ fr =>
    (∀ (j : Nat) v, c[j]? = some v → v.oneCell' = true ∧ ∃ v', C[o + j]? = some v' ∧ VR ρ v v') ∧
    (ro = false → base ≤ b ∧ C.size = K ∧ o + c.length ≤ K ∧ ∀ j, o ≤ j → j < K → fr.1 ≤ j → j < fr.2 → False)
  | .iter s p, b, o, _, .stringIter s' p' => base ≤ b ∧ s' = s ∧ p' = p ∧ o = 0
  | .map es, b, _, _, .map l _ => base ≤ b ∧ MapR ρ es l
  | .typed t c x, b, o, K, .cells C e fr =>
    (∀ (j : Nat) v, c[j]? = some v → v.oneCell' = true ∧ ∃ v', C[j]? = some v' ∧ (VR ρ v v' ∧ Exact ρ v v')) ∧ base ≤ b ∧ C.size = K ∧ c.length ≤ K ∧ o = 0 ∧ e = t ∧ fr = (0, 0) ∧ (x = true → K = c.length)
  | _, _, _, _, _ => False

theorem MapR.mono {ρ ρ' : Rho} (hle : ρ.le ρ') {es : List (Value × Value)} {l : Array MapEntry} (h : MapR ρ es l) : MapR ρ' es l :=
  ⟨h.1, fun i e m he hm => let ⟨a, b, c⟩ := h.2 i e m he hm; ⟨a, b.mono hle, c⟩⟩

theorem BlkR.mono {ρ ρ' : Rho} (hle : ρ.le ρ') {base : Base} {x : Blk} {b o K : Nat} {obj : Obj} (h : BlkR ρ base x b o K obj) : BlkR ρ' base x b o K obj := by
  cases x <;> cases obj <;> simp only [BlkR] at h ⊢ <;> first
    | exact h
    | exact ⟨fun j v hj => let ⟨ho, v', h1, h2⟩ := h.1 j v hj; ⟨ho, v', h1, h2.mono hle⟩, h.2⟩
    | exact ⟨h.1, h.2.mono hle⟩
    | exact ⟨fun j v hj => let ⟨ho, v', h1, h2, h3⟩ := h.1 j v hj; ⟨ho, v', h1, h2.mono hle, h3.mono hle⟩, h.2⟩

theorem BlkR.base_le {ρ : Rho} {base : Base} {x : Blk} {b o K : Nat} {obj : Obj} (h : BlkR ρ base x b o K obj) (hw : x.wr = true) : base ≤ b := by
  cases x <;> cases obj <;> simp only [BlkR] at h <;> first
    | exact h.elim
    | (simp [Blk.wr] at hw; exact (h.2 hw).1)
    | exact h.1
    | exact h.2.1

structure SimG (ρ : Rho) (base : Base) (g : Nat → Option Blk) (nx : Nat) (w : World) : Prop where
  dom : ∀ i x, ρ i = some x → i < nx
  based : base ≤ w.heap.size
  still : ∀ b, b < base.n → w.heap[b]? = base.obj b
  blk : ∀ i x, g i = some x → ∃ b o K obj, ρ i = some (b, o, K) ∧ w.heap[b]? = some obj ∧ BlkR ρ base x b o K obj
  apart : ∀ i j x y b o K o' K', g i = some x → g j = some y → ρ i = some (b, o, K) → ρ j = some (b, o', K') → base ≤ b → i = j

abbrev Sim (ρ : Rho) (base : Base) (h : H) (w : World) : Prop := SimG ρ base h.get h.next w

structure PostG (base : Base) (ρ : Rho) (g : Nat → Option Blk) (nx : Nat) (w : World) (ρ' : Rho) (g' : Nat → Option Blk) (nx' : Nat) (w' : World) : Prop where
  le : ρ.le ρ'
  sim : SimG ρ' base g' nx' w'
  next : nx ≤ nx'
  size : w.heap.size ≤ w'.heap.size
  os : w'.os = w.os
  tape : w'.tape = w.tape
  output : w'.output = w.output
  frame : ∀ b, b < w.heap.size → (∀ i x o K, g i = some x → x.wr = true → ρ i = some (b, o, K) → False) → w'.heap[b]? = w.heap[b]?
  own : ∀ i x b o K, g' i = some x → ρ' i = some (b, o, K) → base ≤ b →
    w.heap.size ≤ b ∨ ∃ j y o' K', g j = some y ∧ ρ j = some (b, o', K') ∧ (x.wr = true → y.wr = true)

abbrev Post (base : Base) (ρ : Rho) (h : H) (w : World) (ρ' : Rho) (h' : H) (w' : World) : Prop := PostG base ρ h.get h.next w ρ' h'.get h'.next w'

theorem PostG.refl {base : Base} {ρ : Rho} {g : Nat → Option Blk} {nx : Nat} {w : World} (hs : SimG ρ base g nx w) : PostG base ρ g nx w ρ g nx w :=
  ⟨.refl ρ, hs, Nat.le_refl _, Nat.le_refl _, rfl, rfl, rfl, fun _ _ _ => rfl, fun i x _ o K hi hb _ => .inr ⟨i, x, o, K, hi, hb, id⟩⟩

theorem PostG.trans {base : Base} {ρ ρ' ρ'' : Rho} {g g' g'' : Nat → Option Blk} {nx nx' nx'' : Nat} {w w' w'' : World} (p : PostG base ρ g nx w ρ' g' nx' w')
    (q : PostG base ρ' g' nx' w' ρ'' g'' nx'' w'') : PostG base ρ g nx w ρ'' g'' nx'' w'' where
  le := p.le.trans q.le
  sim := q.sim
  next := Nat.le_trans p.next q.next
  size := Nat.le_trans p.size q.size
  os := q.os.trans p.os
  tape := q.tape.trans p.tape
  output := q.output.trans p.output
  frame := by
    intro b hb hn
    rw [q.frame b (Nat.lt_of_lt_of_le hb p.size) ?_, p.frame b hb hn]
    intro i x o K hi hx hr
    obtain ⟨b', o', K', obj, hr', _, hB⟩ := p.sim.blk i x hi
    rw [hr] at hr'
    cases hr'
    rcases p.own i x b o K hi hr (hB.base_le hx) with hle | ⟨j, y, o', K', hj, hjb, hw⟩
    · omega
    · exact hn j y o' K' hj (hw hx) hjb
  own := by
    intro i x b o K hi hr hb
    rcases q.own i x b o K hi hr hb with hle | ⟨j, y, o', K', hj, hjb, hw⟩
    · exact .inl (Nat.le_trans p.size hle)
    · rcases p.own j y b o' K' hj hjb hb with hle | ⟨j', y', o'', K'', hj', hjb', hw'⟩
      · exact .inl hle
      · exact .inr ⟨j', y', o'', K'', hj', hjb', fun e => hw' (hw e)⟩

/-- A draw turns nothing. -/
theorem SimG.drew {ρ : Rho} {base : Base} {g : Nat → Option Blk} {nx : Nat} {w w' : World} (hs : SimG ρ base g nx w) (e : w'.heap = w.heap) : SimG ρ base g nx w' :=
  ⟨hs.dom, by rw [e]; exact hs.based, by rw [e]; exact hs.still, by rw [e]; exact hs.blk, hs.apart⟩
theorem PostG.drew {base : Base} {ρ : Rho} {h : H} {w w' : World} (hs : Sim ρ base h w) (e : w'.heap = w.heap) (e1 : w'.os = w.os) (e2 : w'.tape = w.tape) (e3 : w'.output = w.output) :
    Post base ρ h w ρ h w' :=
  ⟨.refl ρ, hs.drew e, Nat.le_refl _, by rw [e]; exact Nat.le_refl _, e1, e2, e3, fun _ _ _ => by rw [e], fun i x _ o K hi hb _ => .inr ⟨i, x, o, K, hi, hb, id⟩⟩

/-- One more block known. -/
def Rho.ins (ρ : Rho) (i : Nat) (x : Nat × Nat × Nat) : Rho := fun j => if j = i then some x else ρ j
theorem Rho.ins_same (ρ : Rho) (i : Nat) (x : Nat × Nat × Nat) : ρ.ins i x i = some x := by simp [Rho.ins]
theorem Rho.ins_other (ρ : Rho) {i j : Nat} (x : Nat × Nat × Nat) (h : j ≠ i) : ρ.ins i x j = ρ j := by simp [Rho.ins, h]
theorem Rho.le_ins {ρ : Rho} {i : Nat} (x : Nat × Nat × Nat) (h : ρ i = none) : ρ.le (ρ.ins i x) := by
  intro j y hj
  have : j ≠ i := by rintro rfl; rw [h] at hj; cases hj
  rw [Rho.ins_other _ _ this]; exact hj
theorem SimG.fresh {ρ : Rho} {base : Base} {h : H} {w : World} (hs : Sim ρ base h w) : ρ h.next = none := by
  cases e : ρ h.next with
  | none => rfl
  | some x => exact absurd (hs.dom _ _ e) (Nat.lt_irrefl _)
theorem SimG.get_next {ρ : Rho} {base : Base} {g : Nat → Option Blk} {nx : Nat} {w : World} (hs : SimG ρ base g nx w) {i : Nat} {x : Blk} (hi : g i = some x) : i < nx := by
  obtain ⟨b, o, K, obj, hr, _⟩ := hs.blk i x hi
  exact hs.dom _ _ hr

/-- Fewer blocks are told of. -/
theorem SimG.del {ρ : Rho} {base : Base} {h : H} {w : World} (hs : Sim ρ base h w) (k : Nat) : Sim ρ base (h.del k) w where
  dom := hs.dom
  based := hs.based
  still := hs.still
  blk := by
    intro i x hi
    rw [H.get_del] at hi
    split at hi
    · cases hi
    · exact hs.blk i x hi
  apart := by
    intro i j x y b o K o' K' hi hj
    rw [H.get_del] at hi hj
    split at hi
    · cases hi
    · split at hj
      · cases hj
      · exact hs.apart i j x y b o K o' K' hi hj
theorem PostG.del {base : Base} {ρ : Rho} {h : H} {w : World} (hs : Sim ρ base h w) (k : Nat) : Post base ρ h w ρ (h.del k) w where
  le := .refl ρ
  sim := hs.del k
  next := Nat.le_refl _
  size := Nat.le_refl _
  os := rfl
  tape := rfl
  output := rfl
  frame := fun _ _ _ => rfl
  own := by
    intro i x b o K hi hb _
    rw [H.get_del] at hi
    split at hi
    · cases hi
    · exact .inr ⟨i, x, o, K, hi, hb, id⟩

/-- A new block. -/
theorem PostG.alloc {base : Base} {ρ : Rho} {h : H} {w : World} (hs : Sim ρ base h w) (x : Blk) (K : Nat) (obj : Obj)
    (hB : BlkR ρ base x w.heap.size 0 K obj) : Post base ρ h w (ρ.ins h.next (w.heap.size, 0, K)) (h.new x) (w.alloc obj) := by
  have hle : ρ.le (ρ.ins h.next (w.heap.size, 0, K)) := Rho.le_ins _ hs.fresh
  have old : ∀ b, b < w.heap.size → (w.alloc obj).heap[b]? = w.heap[b]? := fun b hb => RowKit.Below.heap_alloc w obj b hb
  refine ⟨hle, ?_, by simp [H.next_new], by simp, rfl, rfl, rfl, fun b hb _ => old b hb, ?_⟩
  · refine ⟨?_, by simp; have := hs.based; omega, fun b hb => by rw [old b (Nat.lt_of_lt_of_le hb hs.based)]; exact hs.still b hb, ?_, ?_⟩
    · intro i y hi
      rw [H.next_new]
      by_cases e : i = h.next
      · omega
      · rw [Rho.ins_other _ _ e] at hi; have := hs.dom _ _ hi; omega
    · intro i y hi
      rw [H.get_new] at hi
      by_cases e : i = h.next
      · subst e
        simp only [if_true] at hi
        cases hi
        exact ⟨w.heap.size, 0, K, obj, Rho.ins_same _ _ _, by show (w.heap.push obj)[w.heap.size]? = _; simp, hB.mono hle⟩
      · simp only [e, if_false] at hi
        obtain ⟨b, o, K', ob, hr, hw, hb⟩ := hs.blk i y hi
        refine ⟨b, o, K', ob, by rw [Rho.ins_other _ _ e]; exact hr, ?_, hb.mono hle⟩
        have : b < w.heap.size := (Array.getElem?_eq_some_iff.1 hw).1
        rw [old b this]; exact hw
    · intro i j y z b o K1 o' K2 hi hj hri hrj hbase
      rw [H.get_new] at hi hj
      by_cases ei : i = h.next <;> by_cases ej : j = h.next
      · rw [ei, ej]
      · subst ei
        rw [Rho.ins_same] at hri; cases hri
        rw [Rho.ins_other _ _ ej] at hrj
        simp only [ej, if_false] at hj
        obtain ⟨b', o2, K3, ob, hr, hw, _⟩ := hs.blk j z hj
        rw [hrj] at hr; cases hr
        have : w.heap.size < w.heap.size := (Array.getElem?_eq_some_iff.1 hw).1
        omega
      · subst ej
        rw [Rho.ins_same] at hrj; cases hrj
        rw [Rho.ins_other _ _ ei] at hri
        simp only [ei, if_false] at hi
        obtain ⟨b', o2, K3, ob, hr, hw, _⟩ := hs.blk i y hi
        rw [hri] at hr; cases hr
        have : w.heap.size < w.heap.size := (Array.getElem?_eq_some_iff.1 hw).1
        omega
      · rw [Rho.ins_other _ _ ei] at hri
        rw [Rho.ins_other _ _ ej] at hrj
        simp only [ei, if_false] at hi
        simp only [ej, if_false] at hj
        exact hs.apart i j y z b o K1 o' K2 hi hj hri hrj hbase
  · intro i y b o K' hi hr hb
    rw [H.get_new] at hi
    by_cases e : i = h.next
    · subst e; rw [Rho.ins_same] at hr; cases hr; exact .inl (Nat.le_refl _)
    · simp only [e, if_false] at hi
      rw [Rho.ins_other _ _ e] at hr
      exact .inr ⟨i, y, o, K', hi, hr, id⟩

/-- What a change of one block alone leaves. -/
structure OneBlock (w w' : World) (b : Nat) (obj : Obj) : Prop where
  os : w'.os = w.os
  tape : w'.tape = w.tape
  output : w'.output = w.output
  size : w'.heap.size = w.heap.size
  here : w'.heap[b]? = some obj
  there : ∀ k, k ≠ b → w'.heap[k]? = w.heap[k]?

/-- A block is written. -/
theorem PostG.write {base : Base} {ρ : Rho} {h : H} {w w' : World} (hs : Sim ρ base h w) {i b o K : Nat} {x y : Blk} {obj : Obj}
    (hi : h.get i = some x) (hx : x.wr = true) (hr : ρ i = some (b, o, K)) (hO : OneBlock w w' b obj) (hB : BlkR ρ base y b o K obj) :
    Post base ρ h w ρ (h.put i y) w' := by
  have hbase : base ≤ b := by
    obtain ⟨b', o', K', ob, hr', _, hB'⟩ := hs.blk i x hi
    rw [hr] at hr'; cases hr'
    exact hB'.base_le hx
  refine ⟨.refl ρ, ?_, by simp [H.next_put], by rw [hO.size]; exact Nat.le_refl _, hO.os, hO.tape, hO.output, ?_, ?_⟩
  · refine ⟨fun j z hj => by rw [H.next_put]; exact hs.dom j z hj, by rw [hO.size]; exact hs.based, fun k hk => by rw [hO.there k (by omega)]; exact hs.still k hk, ?_, ?_⟩
    · intro j z hj
      rw [H.get_put] at hj
      by_cases e : j = i
      · subst e
        simp only [if_true] at hj; cases hj
        exact ⟨b, o, K, obj, hr, hO.here, hB⟩
      · simp only [e, if_false] at hj
        obtain ⟨b', o', K', ob, hr', hw, hb⟩ := hs.blk j z hj
        refine ⟨b', o', K', ob, hr', ?_, hb⟩
        have hne : b' ≠ b := by
          rintro rfl
          exact e (hs.apart j i z x _ _ _ _ _ hj hi hr' hr hbase)
        rw [hO.there _ hne]; exact hw
    · intro j k y1 z1 b1 o1 K1 o2 K2 hj hk
      rw [H.get_put] at hj hk
      have aj : ∃ y2, h.get j = some y2 := by
        by_cases e : j = i
        · subst e; exact ⟨x, hi⟩
        · simp only [e, if_false] at hj; exact ⟨_, hj⟩
      have ak : ∃ y2, h.get k = some y2 := by
        by_cases e : k = i
        · subst e; exact ⟨x, hi⟩
        · simp only [e, if_false] at hk; exact ⟨_, hk⟩
      obtain ⟨y2, hj2⟩ := aj
      obtain ⟨y3, hk2⟩ := ak
      exact hs.apart j k y2 y3 b1 o1 K1 o2 K2 hj2 hk2
  · intro b1 hb1 hn
    apply hO.there
    rintro rfl
    exact hn i x o K hi hx hr
  · intro j z b1 o1 K1 hj hrj hb1
    rw [H.get_put] at hj
    by_cases e : j = i
    · subst e
      rw [hr] at hrj; cases hrj
      exact .inr ⟨j, x, o, K, hi, hr, fun _ => hx⟩
    · simp only [e, if_false] at hj
      exact .inr ⟨j, z, o1, K1, hj, hrj, id⟩

/-- A block is written and known by a new number. -/
theorem PostG.move {base : Base} {ρ : Rho} {h : H} {w w' : World} (hs : Sim ρ base h w) {i b o o2 K : Nat} {x y : Blk} {obj : Obj}
    (hi : h.get i = some x) (hx : x.wr = true) (hr : ρ i = some (b, o, K)) (hO : OneBlock w w' b obj) (hB : BlkR ρ base y b o2 K obj) :
    Post base ρ h w (ρ.ins h.next (b, o2, K)) ((h.del i).new y) w' := by
  have hbase : base ≤ b := by
    obtain ⟨b', o', K', ob, hr', _, hB'⟩ := hs.blk i x hi
    rw [hr] at hr'; cases hr'
    exact hB'.base_le hx
  have hle : ρ.le (ρ.ins h.next (b, o2, K)) := Rho.le_ins _ hs.fresh
  have hin : i ≠ h.next := Nat.ne_of_lt (hs.get_next hi)
  refine ⟨hle, ?_, by simp [H.next_new, H.next_del], by rw [hO.size]; exact Nat.le_refl _, hO.os, hO.tape, hO.output, ?_, ?_⟩
  · refine ⟨?_, by rw [hO.size]; exact hs.based, fun k hk => by rw [hO.there k (by omega)]; exact hs.still k hk, ?_, ?_⟩
    · intro j z hj
      rw [H.next_new, H.next_del]
      by_cases e : j = h.next
      · omega
      · rw [Rho.ins_other _ _ e] at hj; have := hs.dom _ _ hj; omega
    · intro j z hj
      rw [H.get_new, H.next_del, H.get_del] at hj
      by_cases e : j = h.next
      · subst e
        simp only [if_true] at hj; cases hj
        exact ⟨b, o2, K, obj, Rho.ins_same _ _ _, hO.here, hB.mono hle⟩
      · simp only [e, if_false] at hj
        by_cases e2 : j = i
        · simp [e2] at hj
        · simp only [e2, if_false] at hj
          obtain ⟨b', o', K', ob, hr', hw, hb⟩ := hs.blk j z hj
          refine ⟨b', o', K', ob, by rw [Rho.ins_other _ _ e]; exact hr', ?_, hb.mono hle⟩
          have hne : b' ≠ b := by
            rintro rfl
            exact e2 (hs.apart j i z x _ _ _ _ _ hj hi hr' hr hbase)
          rw [hO.there _ hne]; exact hw
    · intro j k y1 z1 b1 o1 K1 o3 K3 hj hk hrj hrk hb1
      rw [H.get_new, H.next_del, H.get_del] at hj hk
      by_cases ej : j = h.next <;> by_cases ek : k = h.next
      · rw [ej, ek]
      · subst ej
        rw [Rho.ins_same] at hrj; cases hrj
        rw [Rho.ins_other _ _ ek] at hrk
        simp only [ek, if_false] at hk
        by_cases e2 : k = i
        · simp [e2] at hk
        · simp only [e2, if_false] at hk
          exact absurd (hs.apart k i z1 x _ _ _ _ _ hk hi hrk hr hbase) e2
      · subst ek
        rw [Rho.ins_same] at hrk; cases hrk
        rw [Rho.ins_other _ _ ej] at hrj
        simp only [ej, if_false] at hj
        by_cases e2 : j = i
        · simp [e2] at hj
        · simp only [e2, if_false] at hj
          exact absurd (hs.apart j i y1 x _ _ _ _ _ hj hi hrj hr hbase) e2
      · rw [Rho.ins_other _ _ ej] at hrj
        rw [Rho.ins_other _ _ ek] at hrk
        simp only [ej, if_false] at hj
        simp only [ek, if_false] at hk
        by_cases e2 : j = i
        · simp [e2] at hj
        · by_cases e3 : k = i
          · simp [e3] at hk
          · simp only [e2, if_false] at hj
            simp only [e3, if_false] at hk
            exact hs.apart j k y1 z1 b1 o1 K1 o3 K3 hj hk hrj hrk hb1
  · intro b1 hb1 hn
    apply hO.there
    rintro rfl
    exact hn i x o K hi hx hr
  · intro j z b1 o1 K1 hj hrj hb1
    rw [H.get_new, H.next_del, H.get_del] at hj
    by_cases e : j = h.next
    · subst e
      rw [Rho.ins_same] at hrj; cases hrj
      exact .inr ⟨i, x, o, K, hi, hr, fun _ => hx⟩
    · simp only [e, if_false] at hj
      rw [Rho.ins_other _ _ e] at hrj
      by_cases e2 : j = i
      · simp [e2] at hj
      · simp only [e2, if_false] at hj
        exact .inr ⟨j, z, o1, K1, hj, hrj, id⟩

end Go.Ev
