/-
  The evaluator's memory: blocks by number, values by the model's own type with block ids in the place of addresses; how they stand to the model's worlds.
-/
import Derived.Calls
import Derived.LoopN
import Derived.Below
import Derived.Laws.Sem
import Derived.Laws.World
import Derived.KernelRfl
namespace Go.Ev
open Go

/-! ### abstract memory -/

inductive Blk where
  | cells (c : List Value) (ro : Bool)
  | iter (s : ByteArray) (pos : Nat)
  | map (es : List (Value × Value))
  | typed (t : TypeId) (c : List Value) (whole : Bool)

inductive Tr where
  | nil
  | node (v : List (Nat × Option Blk)) (l r : Tr)

def upd : List (Nat × Option Blk) → Nat → Option Blk → List (Nat × Option Blk)
  | [], i, b => [(i, b)]
  | (j, x) :: r, i, b => bif Nat.beq j i then (i, b) :: r else (j, x) :: upd r i b

def find : List (Nat × Option Blk) → Nat → Option Blk
  | [], _ => none
  | (j, x) :: r, i => bif Nat.beq j i then x else find r i

theorem find_upd (l : List (Nat × Option Blk)) (i j : Nat) (b : Option Blk) : find (upd l i b) j = if j = i then b else find l j := by
  induction l with
  | nil =>
    simp only [upd, find]
    by_cases h : j = i
    · subst h; simp
    · have : Nat.beq i j = false := by
        cases hb : Nat.beq i j with
        | false => rfl
        | true => exact absurd (Nat.eq_of_beq_eq_true hb).symm h
      simp [this, h]
  | cons p l ih =>
    obtain ⟨k, x⟩ := p
    simp only [upd]
    by_cases hk : k = i
    · subst hk
      simp only [Nat.beq_refl, cond_true, find]
      by_cases h : j = k
      · subst h; simp
      · have : Nat.beq k j = false := by
          cases hb : Nat.beq k j with
          | false => rfl
          | true => exact absurd (Nat.eq_of_beq_eq_true hb).symm h
        simp [this, h]
    · have hki : Nat.beq k i = false := by
        cases hb : Nat.beq k i with
        | false => rfl
        | true => exact absurd (Nat.eq_of_beq_eq_true hb) hk
      simp only [hki, cond_false, find, ih]
      by_cases h : j = i
      · subst h
        simp [hki]
      · simp [h]

def Tr.vs : Tr → List (Nat × Option Blk)
  | .nil => []
  | .node v _ _ => v
def Tr.lt : Tr → Tr
  | .nil => .nil
  | .node _ l _ => l
def Tr.rt : Tr → Tr
  | .nil => .nil
  | .node _ _ r => r

def Tr.get : Nat → Tr → Nat → Option Blk
  | 0, t, i => find t.vs i
  | d + 1, t, i => bif Nat.beq (i % 2) 0 then Tr.get d t.lt (i / 2) else Tr.get d t.rt (i / 2)

def Tr.set : Nat → Tr → Nat → Option Blk → Tr
  | 0, t, i, b => .node (upd t.vs i b) .nil .nil
  | d + 1, t, i, b => bif Nat.beq (i % 2) 0 then .node [] (Tr.set d t.lt (i / 2) b) t.rt else .node [] t.lt (Tr.set d t.rt (i / 2) b)

theorem Tr.get_nil (d i : Nat) : Tr.get d .nil i = none := by
  induction d generalizing i with
  | zero => rfl
  | succ d ih => simp only [Tr.get, Tr.lt, Tr.rt]; cases Nat.beq (i % 2) 0 <;> simp [ih]

theorem beq_iff (a b : Nat) : Nat.beq a b = decide (a = b) := by
  cases h : Nat.beq a b with
  | true => simp [Nat.eq_of_beq_eq_true h]
  | false => simp [Nat.ne_of_beq_eq_false h]

theorem Tr.get_set (d : Nat) (t : Tr) (i j : Nat) (b : Option Blk) : Tr.get d (Tr.set d t i b) j = if j = i then b else Tr.get d t j := by
  induction d generalizing t i j with
  | zero => simp only [Tr.get, Tr.set, Tr.vs, find_upd]
  | succ d ih =>
    simp only [Tr.get, Tr.set, beq_iff]
    by_cases hi : i % 2 = 0 <;> by_cases hj : j % 2 = 0
    · simp only [hi, hj, decide_true, cond_true, Tr.lt, ih]
      by_cases h : j = i
      · subst h; simp
      · have : j / 2 ≠ i / 2 := by omega
        simp [h, this]
    · have : j ≠ i := by rintro rfl; exact hj hi
      simp [hi, hj, this, Tr.rt]
    · have : j ≠ i := by rintro rfl; exact hi hj
      simp [hi, hj, this, Tr.lt]
    · simp only [hi, hj, decide_false, cond_false, Tr.rt, ih]
      by_cases h : j = i
      · subst h; simp
      · have : j / 2 ≠ i / 2 := by omega
        simp [h, this]

structure H where
  next : Nat
  tr : Tr

def H.get (h : H) (i : Nat) : Option Blk := Tr.get 12 h.tr i
def H.put (h : H) (i : Nat) (b : Blk) : H := ⟨h.next, Tr.set 12 h.tr i (some b)⟩
def H.del (h : H) (i : Nat) : H := ⟨h.next, Tr.set 12 h.tr i none⟩
def H.new (h : H) (b : Blk) : H := ⟨h.next + 1, Tr.set 12 h.tr h.next (some b)⟩

theorem H.get_put (h : H) (i j : Nat) (b : Blk) : (h.put i b).get j = if j = i then some b else h.get j := Tr.get_set ..
theorem H.get_del (h : H) (i j : Nat) : (h.del i).get j = if j = i then none else h.get j := Tr.get_set ..
theorem H.get_new (h : H) (j : Nat) (b : Blk) : (h.new b).get j = if j = h.next then some b else h.get j := Tr.get_set ..
theorem H.next_put (h : H) (i : Nat) (b : Blk) : (h.put i b).next = h.next := rfl
theorem H.next_del (h : H) (i : Nat) : (h.del i).next = h.next := rfl
theorem H.next_new (h : H) (b : Blk) : (h.new b).next = h.next + 1 := rfl

/-! ### how abstract values stand to the model's -/

/-- Where a block lies: the model's block, the place in it, how many cells that block has. -/
abbrev Rho := Nat → Option (Nat × Nat × Nat)

inductive VR (ρ : Rho) : Value → Value → Prop
  | bool (b : Bool) : VR ρ (.bool b) (.bool b)
  | int (k : IntKind) (n : Int) : VR ρ (.int k n) (.int k n)
  | string (s : ByteArray) : VR ρ (.string s) (.string s)
  | pnil : VR ρ (.pointer none) (.pointer none)
  | ptr {i o b c K : Nat} : ρ i = some (b, c, K) → VR ρ (.pointer (some ⟨i, o, none⟩)) (.pointer (some ⟨b, c + o, none⟩))
  | snil : VR ρ (.slice none 0 0) (.slice none 0 0)
  | slice {i o st len b c K cap : Nat} : ρ i = some (b, c, K) → len ≤ cap → c + o + cap * st ≤ K →
      VR ρ (.slice (some ⟨i, o, none⟩) len st) (.slice (some ⟨b, c + o, none⟩) len cap)
  | sempty {i o st : Nat} {a : Addr} : VR ρ (.slice (some ⟨i, o, none⟩) 0 st) (.slice (some a) 0 0)
  | mnil : VR ρ (.map none) (.map none)
  | map {i b c K : Nat} : ρ i = some (b, c, K) → VR ρ (.map (some i)) (.map (some b))
  | fnil : VR ρ .nilFunc .nilFunc
  | inil : VR ρ .nilIface .nilIface
  | iface (t : TypeId) {v v' : Value} : VR ρ v v' → VR ρ (.iface t v) (.iface t v')
  | func (f : Fn) {xs xs' ys ys' : Array Value} : xs.size = xs'.size → (∀ (i : Nat) x y, xs[i]? = some x → xs'[i]? = some y → VR ρ x y) →
      ys.size = ys'.size → (∀ (i : Nat) x y, ys[i]? = some x → ys'[i]? = some y → VR ρ x y) → VR ρ (.func f xs ys) (.func f xs' ys')
  | agg {xs xs' : Array Value} : xs.size = xs'.size → (∀ (i : Nat) x y, xs[i]? = some x → xs'[i]? = some y → VR ρ x y) →
      (∀ (i : Nat) x, xs[i]? = some x → x.oneCell' = true) → VR ρ (.agg xs) (.agg xs')
  | tuple {xs xs' : Array Value} : xs.size = xs'.size → (∀ (i : Nat) x y, xs[i]? = some x → xs'[i]? = some y → VR ρ x y) → VR ρ (.tuple xs) (.tuple xs')

/-- ρ' says all that ρ says. -/
def Rho.le (ρ ρ' : Rho) : Prop := ∀ i x, ρ i = some x → ρ' i = some x
theorem Rho.le.refl (ρ : Rho) : ρ.le ρ := fun _ _ h => h
theorem Rho.le.trans {a b c : Rho} (h : a.le b) (k : b.le c) : a.le c := fun i x e => k i x (h i x e)

theorem VR.mono {ρ ρ' : Rho} (hle : ρ.le ρ') {v v' : Value} (h : VR ρ v v') : VR ρ' v v' := by
  induction h with
  | bool b => exact .bool b
  | int k n => exact .int k n
  | string s => exact .string s
  | pnil => exact .pnil
  | ptr h => exact .ptr (hle _ _ h)
  | snil => exact .snil
  | slice h h1 h2 => exact .slice (hle _ _ h) h1 h2
  | sempty => exact .sempty
  | mnil => exact .mnil
  | map h => exact .map (hle _ _ h)
  | fnil => exact .fnil
  | inil => exact .inil
  | iface t _ ih => exact .iface t ih
  | func f h1 _ h3 _ ih1 ih2 => exact .func f h1 ih1 h3 ih2
  | agg h1 _ h3 ih => exact .agg h1 ih h3
  | tuple h1 _ ih => exact .tuple h1 ih

/-- Lists of values, place by place. -/
def VRs (ρ : Rho) (xs xs' : List Value) : Prop := xs.length = xs'.length ∧ ∀ (i : Nat) x y, xs[i]? = some x → xs'[i]? = some y → VR ρ x y

theorem VRs.nil (ρ : Rho) : VRs ρ [] [] := ⟨rfl, fun i x y h => by simp at h⟩
theorem VRs.cons {ρ : Rho} {x x' : Value} {xs xs' : List Value} (h : VR ρ x x') (hs : VRs ρ xs xs') : VRs ρ (x :: xs) (x' :: xs') := by
  refine ⟨by simp [hs.1], fun i a b ha hb => ?_⟩
  cases i with
  | zero => simp at ha hb; subst ha; subst hb; exact h
  | succ i => simp at ha hb; exact hs.2 i a b ha hb
theorem VRs.head {ρ : Rho} {x x' : Value} {xs xs' : List Value} (h : VRs ρ (x :: xs) (x' :: xs')) : VR ρ x x' := h.2 0 x x' rfl rfl
theorem VRs.tail {ρ : Rho} {x x' : Value} {xs xs' : List Value} (h : VRs ρ (x :: xs) (x' :: xs')) : VRs ρ xs xs' :=
  ⟨by simpa using h.1, fun i a b ha hb => h.2 (i + 1) a b (by simpa using ha) (by simpa using hb)⟩
theorem VRs.mono {ρ ρ' : Rho} (hle : ρ.le ρ') {xs xs' : List Value} (h : VRs ρ xs xs') : VRs ρ' xs xs' := ⟨h.1, fun i x y hx hy => (h.2 i x y hx hy).mono hle⟩
theorem VRs.get {ρ : Rho} {xs xs' : List Value} (h : VRs ρ xs xs') {i : Nat} {x : Value} (hx : xs[i]? = some x) : ∃ x', xs'[i]? = some x' ∧ VR ρ x x' := by
  obtain ⟨hl, hh⟩ := h
  have hi : i < xs'.length := by
    have := (List.getElem?_eq_some_iff.1 hx).1; omega
  exact ⟨xs'[i], List.getElem?_eq_getElem hi, hh i x _ hx (List.getElem?_eq_getElem hi)⟩
theorem VRs.get' {ρ : Rho} {xs xs' : List Value} (h : VRs ρ xs xs') {i : Nat} {x' : Value} (hx : xs'[i]? = some x') : ∃ x, xs[i]? = some x ∧ VR ρ x x' := by
  obtain ⟨hl, hh⟩ := h
  have hi : i < xs.length := by
    have := (List.getElem?_eq_some_iff.1 hx).1; omega
  exact ⟨xs[i], List.getElem?_eq_getElem hi, hh i _ x' (List.getElem?_eq_getElem hi) hx⟩
theorem VRs.append {ρ : Rho} {xs xs' ys ys' : List Value} (h : VRs ρ xs xs') (k : VRs ρ ys ys') : VRs ρ (xs ++ ys) (xs' ++ ys') := by
  refine ⟨by simp [h.1, k.1], fun i x y hx hy => ?_⟩
  have hl := h.1
  rcases Nat.lt_or_ge i xs.length with hi | hi
  · rw [List.getElem?_append_left hi] at hx
    rw [List.getElem?_append_left (by omega)] at hy
    exact h.2 i x y hx hy
  · rw [List.getElem?_append_right hi] at hx
    rw [List.getElem?_append_right (by omega), ← hl] at hy
    exact k.2 _ x y hx hy
theorem VRs.take {ρ : Rho} {xs xs' : List Value} (h : VRs ρ xs xs') (n : Nat) : VRs ρ (xs.take n) (xs'.take n) := by
  refine ⟨by simp [h.1], fun i x y hx hy => ?_⟩
  rw [List.getElem?_take] at hx hy
  split at hx
  · rename_i hlt; simp [hlt] at hy; exact h.2 i x y hx hy
  · cases hx
theorem VRs.drop {ρ : Rho} {xs xs' : List Value} (h : VRs ρ xs xs') (n : Nat) : VRs ρ (xs.drop n) (xs'.drop n) := by
  refine ⟨by simp [h.1], fun i x y hx hy => ?_⟩
  rw [List.getElem?_drop] at hx hy
  exact h.2 _ x y hx hy
theorem VRs.set {ρ : Rho} {xs xs' : List Value} (h : VRs ρ xs xs') (n : Nat) {v v' : Value} (hv : VR ρ v v') : VRs ρ (xs.set n v) (xs'.set n v') := by
  refine ⟨by simp [h.1], fun i x y hx hy => ?_⟩
  rw [List.getElem?_set] at hx hy
  have hl := h.1
  by_cases e : n = i
  · subst e
    simp only [if_true] at hx hy
    split at hx
    · rename_i hlt; rw [if_pos (by omega)] at hy; cases hx; cases hy; exact hv
    · cases hx
  · simp only [e, if_false] at hx hy
    exact h.2 i x y hx hy
theorem VRs.replicate {ρ : Rho} (n : Nat) {v v' : Value} (hv : VR ρ v v') : VRs ρ (List.replicate n v) (List.replicate n v') := by
  refine ⟨by simp, fun i x y hx hy => ?_⟩
  rw [List.getElem?_replicate] at hx hy
  split at hx
  · rename_i h; simp [h] at hy; cases hx; cases hy; exact hv
  · cases hx

theorem VR.agg' {ρ : Rho} {xs xs' : Array Value} (h : VRs ρ xs.toList xs'.toList) (ho : ∀ x ∈ xs.toList, x.oneCell' = true) : VR ρ (.agg xs) (.agg xs') :=
  .agg (by simpa using h.1) (fun i x y hx hy => h.2 i x y (by simpa using hx) (by simpa using hy)) fun i x hx => ho x (by simpa using Array.mem_of_getElem? hx)
theorem VR.tuple' {ρ : Rho} {xs xs' : Array Value} (h : VRs ρ xs.toList xs'.toList) : VR ρ (.tuple xs) (.tuple xs') :=
  .tuple (by simpa using h.1) fun i x y hx hy => h.2 i x y (by simpa using hx) (by simpa using hy)
theorem VRs.of_array {ρ : Rho} {xs xs' : Array Value} (h1 : xs.size = xs'.size) (h2 : ∀ (i : Nat) x y, xs[i]? = some x → xs'[i]? = some y → VR ρ x y) : VRs ρ xs.toList xs'.toList :=
  ⟨by simpa using h1, fun i x y hx hy => h2 i x y (by simpa using hx) (by simpa using hy)⟩
theorem VR.agg_inv {ρ : Rho} {xs : Array Value} {v' : Value} (h : VR ρ (.agg xs) v') : ∃ xs', v' = .agg xs' ∧ VRs ρ xs.toList xs'.toList ∧ ∀ x ∈ xs.toList, x.oneCell' = true := by
  cases h with
  | agg h1 h2 h3 =>
    refine ⟨_, rfl, .of_array h1 h2, fun x hx => ?_⟩
    obtain ⟨i, hi⟩ := List.getElem?_of_mem hx
    exact h3 i x (by simpa using hi)
theorem VR.oneCell {ρ : Rho} {v v' : Value} (h : VR ρ v v') : v'.oneCell' = v.oneCell' := by cases h <;> rfl
theorem VRs.oneCell {ρ : Rho} {xs xs' : List Value} (h : VRs ρ xs xs') (ho : ∀ x ∈ xs, x.oneCell' = true) : ∀ x ∈ xs', x.oneCell' = true := by
  intro x hx
  obtain ⟨i, hi⟩ := List.getElem?_of_mem hx
  have hlt : i < xs.length := by have := (List.getElem?_eq_some_iff.1 hi).1; have := h.1; omega
  have hr := h.2 i xs[i] x (List.getElem?_eq_getElem hlt) hi
  rw [hr.oneCell]; exact ho _ (by simp)
/-- What is no tuple is made of single cells. -/
def isTup : Value → Bool
  | .tuple _ => true
  | _ => false
theorem VR.cells_one {ρ : Rho} {v v' : Value} (h : VR ρ v v') (ht : isTup v = false) : ∀ x ∈ v.cells.toList, x.oneCell' = true := by
  cases h with
  | agg h1 h2 h3 =>
    intro x hx
    obtain ⟨i, hi⟩ := List.getElem?_of_mem hx
    exact h3 i x (by simpa [Value.cells] using hi)
  | tuple => simp [isTup] at ht
  | _ => intro x hx; simp [Value.cells] at hx; subst hx; rfl
theorem VR.tuple_inv {ρ : Rho} {xs : Array Value} {v' : Value} (h : VR ρ (.tuple xs) v') : ∃ xs', v' = .tuple xs' ∧ VRs ρ xs.toList xs'.toList := by
  cases h with
  | tuple h1 h2 => exact ⟨_, rfl, .of_array h1 h2⟩
theorem VR.func_inv {ρ : Rho} {f : Fn} {xs ys : Array Value} {v' : Value} (h : VR ρ (.func f xs ys) v') :
    ∃ xs' ys', v' = .func f xs' ys' ∧ VRs ρ xs.toList xs'.toList ∧ VRs ρ ys.toList ys'.toList := by
  cases h with
  | func f h1 h2 h3 h4 => exact ⟨_, _, rfl, .of_array h1 h2, .of_array h3 h4⟩

theorem VR.cells {ρ : Rho} {v v' : Value} (h : VR ρ v v') : VRs ρ v.cells.toList v'.cells.toList := by
  cases h with
  | agg h1 h2 _ => exact .of_array h1 h2
  | bool b => exact .cons (.bool b) (.nil ρ)
  | int k n => exact .cons (.int k n) (.nil ρ)
  | string s => exact .cons (.string s) (.nil ρ)
  | pnil => exact .cons .pnil (.nil ρ)
  | ptr h => exact .cons (.ptr h) (.nil ρ)
  | snil => exact .cons .snil (.nil ρ)
  | slice h h1 h2 => exact .cons (.slice h h1 h2) (.nil ρ)
  | sempty => exact .cons .sempty (.nil ρ)
  | mnil => exact .cons .mnil (.nil ρ)
  | map h => exact .cons (.map h) (.nil ρ)
  | fnil => exact .cons .fnil (.nil ρ)
  | inil => exact .cons .inil (.nil ρ)
  | iface t h => exact .cons (.iface t h) (.nil ρ)
  | func f h1 h2 h3 h4 => exact .cons (.func f h1 h2 h3 h4) (.nil ρ)
  | tuple h1 h2 => exact .cons (.tuple h1 h2) (.nil ρ)

/-! ### values without addresses -/

def plainV : Nat → Value → Bool
  | 0, _ => false
  | d + 1, v => match v with
    | .bool _ => true
    | .int _ _ => true
    | .string _ => true
    | .pointer none => true
    | .slice none 0 0 => true
    | .map none => true
    | .nilFunc => true
    | .nilIface => true
    | .iface _ v => plainV d v
    | .func (.func _) xs ys => xs.isEmpty && ys.isEmpty
    | .agg cs => cs.toList.all fun c => c.oneCell' && plainV d c
    | .tuple cs => cs.toList.all (plainV d)
    | _ => false

theorem plainV_spec (ρ : Rho) : ∀ (d : Nat) (v : Value), plainV d v = true → VR ρ v v ∧ ∀ v', VR ρ v v' → v' = v := by
  intro d
  induction d with
  | zero => intro v h; simp [plainV] at h
  | succ d ih =>
    intro v h
    have lists : ∀ xs : Array Value, xs.toList.all (plainV d) = true →
        (∀ (i : Nat) x y, xs[i]? = some x → xs[i]? = some y → VR ρ x y) ∧
        ∀ xs' : Array Value, xs.size = xs'.size → (∀ (i : Nat) x y, xs[i]? = some x → xs'[i]? = some y → VR ρ x y) → xs' = xs := by
      intro xs hx
      rw [List.all_eq_true] at hx
      refine ⟨fun i x y h1 h2 => ?_, fun xs' hs hh => ?_⟩
      · rw [h1] at h2; cases h2
        exact (ih x (hx x (by simpa using Array.mem_of_getElem? h1))).1
      · apply Array.ext hs.symm
        intro i h1 h2
        have hr := hh i xs[i] xs'[i] (Array.getElem?_eq_getElem h2) (Array.getElem?_eq_getElem h1)
        exact (ih xs[i] (hx _ (by simp))).2 _ hr
    cases v with
    | bool b => exact ⟨.bool b, fun v' hv => by cases hv; rfl⟩
    | int k n => exact ⟨.int k n, fun v' hv => by cases hv; rfl⟩
    | string s => exact ⟨.string s, fun v' hv => by cases hv; rfl⟩
    | pointer a =>
      cases a with
      | none => exact ⟨.pnil, fun v' hv => by cases hv; rfl⟩
      | some a => simp [plainV] at h
    | slice a n c =>
      cases a with
      | none =>
        cases n with
        | zero =>
          cases c with
          | zero => exact ⟨.snil, fun v' hv => by cases hv; rfl⟩
          | succ c => simp [plainV] at h
        | succ n => simp [plainV] at h
      | some a => simp [plainV] at h
    | map r =>
      cases r with
      | none => exact ⟨.mnil, fun v' hv => by cases hv; rfl⟩
      | some a => simp [plainV] at h
    | nilFunc => exact ⟨.fnil, fun v' hv => by cases hv; rfl⟩
    | nilIface => exact ⟨.inil, fun v' hv => by cases hv; rfl⟩
    | iface t u =>
      have hu := ih u (by simpa [plainV] using h)
      exact ⟨.iface t hu.1, fun v' hv => by cases hv with | iface _ hq => rw [hu.2 _ hq]⟩
    | func f xs ys =>
      cases f with
      | func f =>
        simp [plainV] at h
        obtain ⟨rfl, rfl⟩ := h
        refine ⟨.func _ rfl (fun i x y hx => by simp at hx) rfl (fun i x y hx => by simp at hx), fun v' hv => ?_⟩
        cases hv with
        | func _ h1 _ h3 _ =>
          rename_i xs' ys' _ _
          have e1 : xs' = #[] := by simpa using h1.symm
          have e2 : ys' = #[] := by simpa using h3.symm
          rw [e1, e2]
      | _ => simp [plainV] at h
    | agg cs =>
      simp only [plainV, List.all_eq_true, Bool.and_eq_true] at h
      obtain ⟨l1, l2⟩ := lists cs (by rw [List.all_eq_true]; exact fun x hx => (h x hx).2)
      exact ⟨.agg rfl l1 fun i x hx => (h x (by simpa using Array.mem_of_getElem? hx)).1, fun v' hv => by cases hv with | agg h1 h2 _ => rw [l2 _ h1 h2]⟩
    | tuple cs =>
      obtain ⟨l1, l2⟩ := lists cs (by simpa [plainV] using h)
      exact ⟨.tuple rfl l1, fun v' hv => by cases hv with | tuple h1 h2 => rw [l2 _ h1 h2]⟩
    | _ => simp [plainV] at h

theorem plainV_refl {ρ : Rho} {d : Nat} {v : Value} (h : plainV d v = true) : VR ρ v v := (plainV_spec ρ d v h).1
theorem plainV_eq {ρ : Rho} {d : Nat} {v v' : Value} (h : plainV d v = true) (hv : VR ρ v v') : v' = v := (plainV_spec ρ d v h).2 v' hv

end Go.Ev
