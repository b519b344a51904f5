/-
  How memory reads: blocks that stay, cells at a place, slices that are read, slices that are appended to; loops.
-/
import Derived.Test.YtofgaidlepmcmaaGreatDoorEvP
namespace Go.Ev
open Go

attribute [simp] optK_mk castI_mk castV_mk castBB_mk castS_mk castSl_mk castP_mk castA_mk addrK_mk castTup_mk headK_mk nilK_mk ifK_true
attribute [simp] H.next_new H.next_put H.next_del

/-! ### blocks -/

/-- What was there is as it was. -/
def Ext (h h' : H) : Prop := h.next ≤ h'.next ∧ ∀ i, i < h.next → h'.get i = h.get i
theorem Ext.refl (h : H) : Ext h h := ⟨Nat.le_refl _, fun _ _ => rfl⟩
theorem Ext.trans {a b c : H} (e : Ext a b) (f : Ext b c) : Ext a c := ⟨Nat.le_trans e.1 f.1, fun i hi => (f.2 i (Nat.lt_of_lt_of_le hi e.1)).trans (e.2 i hi)⟩
theorem Ext.new {h h' : H} (e : Ext h h') (b : Blk) : Ext h (h'.new b) :=
  ⟨Nat.le_succ_of_le e.1, fun i hi => by have := e.1; rw [H.get_new, if_neg (by omega)]; exact e.2 i hi⟩
theorem Ext.put {h h' : H} (e : Ext h h') {j : Nat} (hj : h.next ≤ j) (b : Blk) : Ext h (h'.put j b) :=
  ⟨e.1, fun i hi => by rw [H.get_put, if_neg (by omega)]; exact e.2 i hi⟩
theorem Ext.del {h h' : H} (e : Ext h h') {j : Nat} (hj : h.next ≤ j) : Ext h (h'.del j) :=
  ⟨e.1, fun i hi => by rw [H.get_del, if_neg (by omega)]; exact e.2 i hi⟩

def Has (h : H) (i : Nat) (b : Blk) : Prop := i < h.next ∧ h.get i = some b
theorem Has.ext {h h' : H} {i : Nat} {b : Blk} (a : Has h i b) (e : Ext h h') : Has h' i b := ⟨Nat.lt_of_lt_of_le a.1 e.1, by rw [e.2 i a.1]; exact a.2⟩
theorem Has.new {h : H} {i : Nat} {b : Blk} (a : Has h i b) (b' : Blk) : Has (h.new b') i b := a.ext ((Ext.refl h).new b')
theorem Has.put {h : H} {i j : Nat} {b : Blk} (a : Has h i b) (hne : i ≠ j) (b' : Blk) : Has (h.put j b') i b := ⟨a.1, by rw [H.get_put, if_neg hne]; exact a.2⟩
theorem Has.del {h : H} {i j : Nat} {b : Blk} (a : Has h i b) (hne : i ≠ j) : Has (h.del j) i b := ⟨a.1, by rw [H.get_del, if_neg hne]; exact a.2⟩
theorem Has.here (h : H) (b : Blk) : Has (h.new b) h.next b := ⟨Nat.lt_succ_self _, by rw [H.get_new, if_pos rfl]⟩
theorem Has.over {h : H} {i : Nat} {b : Blk} (a : Has h i b) (b' : Blk) : Has (h.put i b') i b' := ⟨a.1, by rw [H.get_put, if_pos rfl]⟩

theorem upd_upd (l : List (Nat × Option Blk)) (i : Nat) (b b' : Option Blk) : upd (upd l i b) i b' = upd l i b' := by
  induction l with
  | nil => simp [upd]
  | cons p l ih =>
    obtain ⟨j, x⟩ := p
    simp only [upd]
    cases h : Nat.beq j i with
    | true => simp [upd]
    | false => simp [upd, h, ih]
theorem Tr.set_set (d : Nat) : ∀ (t : Tr) (i : Nat) (b b' : Option Blk), Tr.set d (Tr.set d t i b) i b' = Tr.set d t i b' := by
  induction d with
  | zero => intro t i b b'; simp [Tr.set, Tr.vs, upd_upd]
  | succ d ih =>
    intro t i b b'
    simp only [Tr.set]
    cases Nat.beq (i % 2) 0 with
    | true => simp [Tr.lt, Tr.rt, ih]
    | false => simp [Tr.lt, Tr.rt, ih]
theorem H.put_new (h : H) (b b' : Blk) : (h.new b).put h.next b' = h.new b' := by
  unfold H.new H.put
  simp only [Tr.set_set]

section
variable {P : Program} {R : Type}

/-- A new row that is written whole. -/
theorem st_new {h : H} {zs cs : List Value} (hl : cs.length = zs.length) : stCells (h.new (.cells zs false)) h.next 0 cs = some (h.new (.cells cs false)) := by
  rw [stCells_of (c := zs) (Has.here h _).2 (by omega), H.put_new]
  congr 2
  have e : setRange zs 0 cs = cs := by
    apply List.ext_getElem?
    intro j
    rw [setRange_get _ _ _ _ (by omega)]
    by_cases hj : j < cs.length
    · rw [if_pos (by omega)]; simp
    · rw [if_neg (by omega)]
      rw [List.getElem?_eq_none (by omega), List.getElem?_eq_none (by omega)]
  rw [e]
theorem ld_at {t : TypeId} (ha : aggT P t = some false) {h : H} {i o : Nat} {c : List Value} {ro : Bool} (a : Has h i (.cells c ro)) : ldV P t i o h = c[o]? := ldV_cell ha a.2
theorem ld_here {t : TypeId} (ha : aggT P t = some false) {h : H} {o : Nat} {c : List Value} {ro : Bool} : ldV P t h.next o (h.new (.cells c ro)) = c[o]? := ldV_cell ha (Has.here h _).2
theorem ld_agg {t : TypeId} {k : Nat} (ha : aggT P t = some true) (hk : cellsOf P t = some k) {h : H} {i o : Nat} {c : List Value} {ro : Bool} (a : Has h i (.cells c ro)) (hl : o + k ≤ c.length) :
    ldV P t i o h = some (.agg ((c.drop o).take k).toArray) := by
  unfold ldV; rw [ha, hk]; simp only [ldCells_of a.2 hl]

/-! ### cells at a place -/

def Pt (h : H) (j o : Nat) (vs : List Value) : Prop := ∃ c ro, Has h j (.cells c ro) ∧ ∀ f x, vs[f]? = some x → c[o + f]? = some x
theorem Pt.ext {h h' : H} {j o : Nat} {vs : List Value} (p : Pt h j o vs) (e : Ext h h') : Pt h' j o vs := let ⟨c, ro, a, q⟩ := p; ⟨c, ro, a.ext e, q⟩
theorem Pt.new {h : H} {j o : Nat} {vs : List Value} (p : Pt h j o vs) (b : Blk) : Pt (h.new b) j o vs := p.ext ((Ext.refl h).new b)
theorem Pt.lt {h : H} {j o : Nat} {vs : List Value} (p : Pt h j o vs) : j < h.next := let ⟨_, _, a, _⟩ := p; a.1
theorem Pt.of {h : H} {j : Nat} {c : List Value} {ro : Bool} (a : Has h j (.cells c ro)) : Pt h j 0 c := ⟨c, ro, a, fun f x hx => by rw [Nat.zero_add]; exact hx⟩
theorem Pt.ld {h : H} {j o : Nat} {vs : List Value} (p : Pt h j o vs) {t : TypeId} (ha : aggT P t = some false) {f : Nat} {x : Value} (hx : vs[f]? = some x) : ldV P t j (o + f) h = some x :=
  let ⟨_, _, a, q⟩ := p; (ld_at ha a).trans (q f x hx)
theorem Pt.ld0 {h : H} {j o : Nat} {x : Value} (p : Pt h j o [x]) {t : TypeId} (ha : aggT P t = some false) : ldV P t j o h = some x := p.ld (f := 0) ha rfl
theorem Pt.agg {h : H} {j o : Nat} {vs : List Value} (p : Pt h j o vs) {t : TypeId} (ha : aggT P t = some true) (hk : cellsOf P t = some vs.length) (h0 : 0 < vs.length) : ldV P t j o h = some (.agg vs.toArray) := by
  obtain ⟨c, ro, a, q⟩ := p
  have key : ∀ f, f < vs.length → c[o + f]? = vs[f]? := fun f hf => by rw [List.getElem?_eq_getElem hf]; exact q f _ (List.getElem?_eq_getElem hf)
  have hl : o + vs.length ≤ c.length := by
    have h1 := key (vs.length - 1) (by omega)
    have h2 : vs[vs.length - 1]? = some (vs[vs.length - 1]'(by omega)) := List.getElem?_eq_getElem (by omega)
    have := (List.getElem?_eq_some_iff.1 (h1.trans h2)).1
    omega
  rw [ld_agg ha hk a hl]
  have e : (c.drop o).take vs.length = vs := by
    apply List.ext_getElem?
    intro f
    rw [List.getElem?_take]
    split
    · rw [List.getElem?_drop, key f ‹_›]
    · rw [List.getElem?_eq_none (by omega)]
  rw [e]

/-! ### slices -/

/-- A slice that is read: 'e' tells a thing's cells, 'k' how many there are. -/
def Sl {α : Type} (e : α → List Value) (k : Nat) (h : H) (a : Option Addr) (st : Nat) (l : List α) : Prop :=
  (l = [] ∧ a = none ∧ st = 0) ∨ (st = k ∧ ∃ j o, a = some ⟨j, o, none⟩ ∧ ∀ i x, l[i]? = some x → Pt h j (o + i * k) (e x))
variable {α : Type} {e : α → List Value} {k : Nat} {h h' : H} {a : Option Addr} {st : Nat} {l : List α}

theorem Sl.ext (S : Sl e k h a st l) (x : Ext h h') : Sl e k h' a st l :=
  S.imp id fun ⟨hs, j, o, ha, hp⟩ => ⟨hs, j, o, ha, fun i y hy => (hp i y hy).ext x⟩
theorem Sl.nil : Sl e k h none 0 ([] : List α) := .inl ⟨rfl, rfl, rfl⟩
theorem Sl.at (S : Sl e k h a st l) {t et : TypeId} (hu : P.underlying t = some (.slice et)) (hc : cellsOf P et = some k) {i : Nat} {x : α} (hx : l[i]? = some x) :
    ∃ j o, Pt h j o (e x) ∧ ∀ {R : Type} (K : Value → Option R) (kk : IntKind), indexAddrA P t (.slice a l.length st) (.int kk i) K = K (.pointer (some ⟨j, o, none⟩)) := by
  have hlt : i < l.length := (List.getElem?_eq_some_iff.1 hx).1
  rcases S with ⟨rfl, _, _⟩ | ⟨rfl, j, o, rfl, hp⟩
  · simp at hlt
  · refine ⟨j, o + i * st, hp i x hx, fun {R} K kk => ?_⟩
    simp only [indexAddrA, hu, hc, optK_mk, ifK_true]
    rw [ifK_pos (by omega)]
    simp
/-- The same, a single cell. -/
theorem Sl.read {f : α → Value} (S : Sl (fun x => [f x]) 1 h a st l) {t et : TypeId} (hu : P.underlying t = some (.slice et)) (hc : cellsOf P et = some 1) (ha : aggT P et = some false) {i : Nat} {x : α} (hx : l[i]? = some x)
    (K : Value → Option R) (kk : IntKind) : (indexAddrA P t (.slice a l.length st) (.int kk i) fun v => addrK v fun o p => optK (ldV P et o p h) K) = K (f x) := by
  obtain ⟨j, o, p, e1⟩ := S.at hu hc hx
  rw [e1]
  simp only [addrK_mk, p.ld0 ha, optK_mk]

/-- A slice that may be appended to: none yet, or a row of its own, made behind 'h0'. -/
def Acc {α : Type} (e : α → List Value) (k : Nat) (h0 h : H) (a : Option Addr) (st : Nat) (l : List α) : Prop :=
  (l = [] ∧ a = none ∧ st = 0) ∨ (st = k ∧ ∃ j c, a = some ⟨j, 0, none⟩ ∧ h0.next ≤ j ∧ Has h j (.cells c false) ∧ (∀ x ∈ l, (e x).length = k) ∧ ∃ r, c = l.flatMap e ++ r)

theorem flatMap_get {l : List α} (hk : ∀ x ∈ l, (e x).length = k) : ∀ {i : Nat} {x : α}, l[i]? = some x → ∀ f y, (e x)[f]? = some y → (l.flatMap e)[i * k + f]? = some y := by
  induction l with
  | nil => intro i x hx; simp at hx
  | cons z l ih =>
    intro i x hx f y hy
    have hz := hk z (List.mem_cons_self ..)
    rw [List.flatMap_cons]
    cases i with
    | zero =>
      simp at hx; subst hx
      rw [List.getElem?_append_left (by have := (List.getElem?_eq_some_iff.1 hy).1; omega)]
      simpa using hy
    | succ i =>
      rw [List.getElem?_append_right (by rw [Nat.succ_mul]; omega), hz]
      rw [show (i + 1) * k + f - k = i * k + f from by rw [Nat.succ_mul]; omega]
      exact ih (fun x hx => hk x (List.mem_cons_of_mem _ hx)) (by simpa using hx) f y hy
theorem flatMap_len {l : List α} (hk : ∀ x ∈ l, (e x).length = k) : (l.flatMap e).length = l.length * k := by
  induction l with
  | nil => simp
  | cons z l ih =>
    rw [List.flatMap_cons, List.length_append, hk z (List.mem_cons_self ..), ih fun x hx => hk x (List.mem_cons_of_mem _ hx), List.length_cons, Nat.succ_mul]; omega
theorem Acc.nil (h0 h : H) : Acc e k h0 h none 0 ([] : List α) := .inl ⟨rfl, rfl, rfl⟩
theorem Acc.sl {h0 : H} (A : Acc e k h0 h a st l) : Sl e k h a st l := by
  rcases A with h1 | ⟨h1, j, c, h2, h3, h4, h5, r, h6⟩
  · exact .inl h1
  · refine .inr ⟨h1, j, 0, h2, fun i x hx => ⟨c, false, h4, fun f y hy => ?_⟩⟩
    have := flatMap_get h5 hx f y hy
    rw [h6, Nat.zero_add, List.getElem?_append_left (List.getElem?_eq_some_iff.1 this).1]
    exact this
theorem Acc.ext {h0 : H} (A : Acc e k h0 h a st l) (x : Ext h h') : Acc e k h0 h' a st l :=
  A.imp id fun ⟨h1, j, c, h2, h3, h4, h5⟩ => ⟨h1, j, c, h2, h3, h4.ext x, h5⟩
/-- Fewer of them. -/
theorem Acc.take {h0 : H} (A : Acc e k h0 h a st l) (n : Nat) : Acc e k h0 h a st (l.take n) := by
  rcases A with ⟨h1, h2, h3⟩ | ⟨h1, j, c, h2, h3, h4, h5, r, h6⟩
  · exact .inl ⟨by simp [h1], h2, h3⟩
  · refine .inr ⟨h1, j, c, h2, h3, h4, fun x hx => h5 x (List.mem_of_mem_take hx), (l.drop n).flatMap e ++ r, ?_⟩
    rw [h6, ← List.append_assoc, ← List.flatMap_append, List.take_append_drop]

/-- Cut off behind. -/
theorem Acc.cut {h0 : H} (A : Acc e k h0 h a st l) {t et : TypeId} (hu : P.underlying t = some (.slice et)) (hc : cellsOf P et = some k) {m : Nat} (hm : m ≤ l.length) (kk : IntKind) (K : Value → Option R) :
    sliceA P t (.slice a l.length st) none (some (.int kk m)) K = K (.slice a m st) := by
  rcases A with ⟨rfl, rfl, rfl⟩ | ⟨rfl, j, c, rfl, _⟩
  · have : m = 0 := by simpa using hm
    subst this
    simp [sliceA, hu, hc, boundK, ifK]
  · rw [sliceA_of hu hc]
    simp only [boundK]
    rw [ifK_pos (by omega)]
    simp
/-- What an append of one thing leaves. -/
structure Pushed {α : Type} (e : α → List Value) (k : Nat) (h0 h : H) (a : Option Addr) (a' : Option Addr) (h' : H) (l : List α) : Prop where
  acc : Acc e k h0 h' a' k l
  ext : Ext h0 h'
  old : ∀ i b, Has h i b → (∀ o, a ≠ some ⟨i, o, none⟩) → Has h' i b
  own : ∃ j, a' = some ⟨j, 0, none⟩ ∧ h.next ≤ j

theorem Acc.push {h0 : H} (A : Acc e k h0 h a st l) (E : Ext h0 h) {x : α} (hk : (e x).length = k) {ts : Array TypeId} {bytes : Nat} (hok : appOk P ts k bytes = true) (hb : bytes ≤ 1000) (hl : l.length < 1000000000) :
    ∃ a' h', (∀ {R : Type} (K : Value → H → Option R), appendA P ts (.slice a l.length st) (.slice (some ⟨h.next, 0, none⟩) 1 k) (h.new (.cells (e x) false)) K = K (.slice a' (l.length + 1) k) h') ∧
      Pushed e k h0 h a a' h' (l ++ [x]) := by
  have hsrc : ∀ (R' : Type) (K' : Nat → List Value → Option R'), srcCells (h.new (.cells (e x) false)) k (.slice (some ⟨h.next, 0, none⟩) 1 k) K' = K' (0 + 1) (e x) := fun R' K' => by
    rw [srcCells_slice (Has.here h _).2 (by omega)]
    simp [← hk]
  have hbb : (l.length + (0 + 1)) * bytes ≤ 35184372088832 := by
    have : (l.length + (0 + 1)) * bytes ≤ (l.length + 1) * 1000 := Nat.mul_le_mul (by omega) hb
    omega
  have hn : h.next ≠ (h.new (Blk.cells (e x) false)).next := by simp
  rcases A with ⟨rfl, rfl, rfl⟩ | ⟨rfl, j, c, rfl, h3, h4, h5, r, rfl⟩
  · refine ⟨_, _, fun {R} K => (appendA_of (K := K) hok hsrc).1 rfl (by simpa using hbb), ?_, (E.new _).new _, fun i b hi _ => (hi.new _).new _, _, rfl, by simp⟩
    exact .inr ⟨rfl, _, _, rfl, by have := E.1; simp; omega, Has.here _ _, fun y hy => by simp at hy; subst hy; exact hk, [], by simp⟩
  · refine ⟨_, _, fun {R} K => (appendA_of (K := K) hok hsrc).2 j 0 _ _ rfl (h4.new _).2 (by rw [Nat.zero_add, List.length_append, flatMap_len h5]; omega) hbb, ?_, ((E.new _).del h3).new _, fun i b hi ho => ?_, _, rfl, by simp⟩
    · refine .inr ⟨rfl, _, _, rfl, ?_, Has.here _ _, fun y hy => ?_, [], ?_⟩
      · have := h4.1; simp; omega
      · simp only [List.mem_append, List.mem_singleton] at hy
        rcases hy with hy | rfl
        · exact h5 y hy
        · exact hk
      · rw [List.drop_zero, ← flatMap_len h5, List.take_left, List.flatMap_append]; simp
    · exact ((hi.new _).del (fun e => ho 0 (by rw [e]))).new _

theorem Has.uniq {i : Nat} {b b' : Blk} (x : Has h i b) (y : Has h i b') : b = b' := by have := x.2.symm.trans y.2; simpa using this
theorem Acc.keep {h0 : H} (A : Acc e k h0 h a st l) (hk : ∀ j b, a = some ⟨j, 0, none⟩ → Has h j b → Has h' j b) : Acc e k h0 h' a st l :=
  A.imp id fun ⟨h1, j, c, h2, h3, h4, h5⟩ => ⟨h1, j, c, h2, h3, hk j _ h2 h4, h5⟩
theorem Acc.put {h0 : H} (A : Acc e k h0 h a st l) {i : Nat} (hi : ∀ o, a ≠ some ⟨i, o, none⟩) (b : Blk) : Acc e k h0 (h.put i b) a st l :=
  A.keep fun j b ha hj => hj.put (fun e => hi 0 (by rw [ha, e])) _
/-- Cells that lie one behind the other. -/
theorem Sl.src (S : Sl e k h a st l) (hk0 : 0 < k) (he : ∀ x ∈ l, (e x).length = k) {R : Type} (K : Nat → List Value → Option R) : srcCells h k (.slice a l.length st) K = K l.length (l.flatMap e) := by
  rcases S with ⟨rfl, rfl, rfl⟩ | ⟨rfl, j, o, rfl, hp⟩
  · rfl
  · cases hl : l with
    | nil => rfl
    | cons y r =>
      have hne : 0 < l.length := by rw [hl]; simp
      obtain ⟨c, ro, hb, _⟩ := hp 0 l[0] (List.getElem?_eq_getElem hne)
      have key : ∀ i, i < l.length * st → c[o + i]? = (l.flatMap e)[i]? := by
        intro i hi
        have hst : 0 < st := by
          rcases Nat.eq_zero_or_pos st with h0 | h0
          · rw [h0] at hi; simp at hi
          · exact h0
        have hd : i / st < l.length := Nat.div_lt_of_lt_mul (by rw [Nat.mul_comm]; exact hi)
        have hm : i % st < st := Nat.mod_lt _ hst
        have hx := List.getElem?_eq_getElem hd
        obtain ⟨c', ro', hb', hq⟩ := hp (i / st) l[i / st] hx
        have := hb.uniq hb'
        cases this
        have hf := List.getElem?_eq_getElem (l := e l[i / st]) (i := i % st) (by rw [he _ (List.getElem_mem _)]; exact hm)
        have h1 := hq _ _ hf
        have h2 := flatMap_get he hx _ _ hf
        have hdm : i / st * st + i % st = i := by rw [Nat.mul_comm]; exact Nat.div_add_mod i st
        rw [Nat.add_assoc, hdm] at h1
        rw [hdm] at h2
        rw [h1, h2]
      have hfl := flatMap_len (e := e) (k := st) he
      have hcl : o + l.length * st ≤ c.length := by
        have h0 : 0 < l.length * st := Nat.mul_pos hne hk0
        have h1 := key (l.length * st - 1) (by omega)
        rw [List.getElem?_eq_getElem (l := l.flatMap e) (by omega)] at h1
        have := (List.getElem?_eq_some_iff.1 h1).1
        omega
      rw [← hl, srcCells_slice hb.2 hcl]
      congr 1
      apply List.ext_getElem?
      intro i
      rw [List.getElem?_take]
      split
      · rw [List.getElem?_drop, key i ‹_›]
      · rw [List.getElem?_eq_none (by omega)]
/-- What an append of a slice leaves. -/
theorem Acc.pushAll {h0 : H} (A : Acc e k h0 h a st l) (E : Ext h0 h) {b : Option Addr} {sb : Nat} {m : List α} (S : Sl e k h b sb m) (he : ∀ x ∈ m, (e x).length = k) (hk0 : 0 < k) {ts : Array TypeId} {bytes : Nat} (hok : appOk P ts k bytes = true)
    (hb : bytes ≤ 1000) (hl : l.length + m.length < 1000000000) :
    ∃ a' st' h', (∀ {R : Type} (K : Value → H → Option R), appendA P ts (.slice a l.length st) (.slice b m.length sb) h K = K (.slice a' (l.length + m.length) st') h') ∧ Acc e k h0 h' a' st' (l ++ m) ∧ Ext h0 h' ∧
      (∀ i b, Has h i b → (∀ o, a ≠ some ⟨i, o, none⟩) → Has h' i b) ∧ ((a' = a ∧ h' = h) ∨ ∃ j, a' = some ⟨j, 0, none⟩ ∧ h.next ≤ j) := by
  cases m with
  | nil =>
    refine ⟨a, st, h, fun {R} K => ?_, by simpa using A, E, fun i b hi _ => hi, .inl ⟨rfl, rfl⟩⟩
    unfold appOk at hok
    unfold appendA
    split at hok
    · rename_i t1 t2 hts
      split at hok
      · rename_i e1 xd h1 h2
        split at hok
        · rename_i inf z h3 h4
          simp only [Bool.and_eq_true, decide_eq_true_eq] at hok
          obtain ⟨⟨h5, h6⟩, h7⟩ := hok
          have h6 := Nat.eq_of_beq_eq_true h6
          rw [hts]
          simp only [h1, h2, h3, h4, optK_mk, ifK_pos h5]
          rw [h6, S.src hk0 he]
          simp
        · cases hok
      · cases hok
    · cases hok
  | cons y m =>
    have hsrc : ∀ (R' : Type) (K' : Nat → List Value → Option R'), srcCells h k (.slice b (y :: m).length sb) K' = K' (m.length + 1) ((y :: m).flatMap e) := fun R' K' => S.src hk0 he K'
    have hbb : (l.length + (m.length + 1)) * bytes ≤ 35184372088832 := by
      have : (l.length + (m.length + 1)) * bytes ≤ 1000000000 * 1000 := Nat.mul_le_mul (by simp at hl; omega) hb
      omega
    rcases A with ⟨rfl, rfl, rfl⟩ | ⟨rfl, j, c, rfl, h3, h4, h5, r, rfl⟩
    · refine ⟨_, _, _, fun {R} K => (by have h9 := (appendA_of (K := K) hok hsrc).1 rfl (by simp at hbb; omega); rw [show ([] : List α).length + (y :: m).length = m.length + 1 from by simp]; exact h9), ?_, E.new _, fun i b hi _ => hi.new _, .inr ⟨_, rfl, Nat.le_refl _⟩⟩
      · exact .inr ⟨rfl, _, _, rfl, E.1, Has.here _ _, fun z hz => he z (by simpa using hz), [], by simp⟩
    · refine ⟨_, _, _, fun {R} K => (appendA_of (K := K) hok hsrc).2 j 0 _ _ rfl h4.2 (by rw [Nat.zero_add, List.length_append, flatMap_len h5]; omega) hbb, ?_, (E.del h3).new _, fun i b hi ho => ?_, .inr ⟨_, rfl, by simp⟩⟩
      · refine .inr ⟨rfl, _, _, rfl, ?_, Has.here _ _, fun z hz => ?_, [], ?_⟩
        · have := h4.1; simp; omega
        · rcases List.mem_append.1 hz with hz | hz
          · exact h5 z hz
          · exact he z hz
        · rw [List.drop_zero, ← flatMap_len h5, List.take_left, List.flatMap_append]; simp
      · exact (hi.del (fun e => ho 0 (by rw [e]))).new _

theorem st_all {i : Nat} {c vs : List Value} (x : Has h i (.cells c false)) (hl : vs.length = c.length) : stCells h i 0 vs = some (h.put i (.cells vs false)) := by
  rw [stCells_of x.2 (by omega)]
  congr 2
  have e : setRange c 0 vs = vs := by
    apply List.ext_getElem?
    intro j
    rw [setRange_get _ _ _ _ (by omega)]
    by_cases hj : j < vs.length
    · rw [if_pos (by omega)]; simp
    · rw [if_neg (by omega), List.getElem?_eq_none (by omega), List.getElem?_eq_none (by omega)]
  rw [e]
/-- One cell is written. -/
theorem st_one {i o : Nat} {c : List Value} {v : Value} (x : Has h i (.cells c false)) (hl : o < c.length) : stCells h i o [v] = some (h.put i (.cells (c.set o v) false)) := by
  rw [stCells_of x.2 (by simp; omega)]
  rfl

/-! ### loops -/

/-- What a round comes to: another one, or an end. -/
inductive Out where
  | on (env : Env) (h : H)
  | off (x : Exit) (env : Env) (h : H)
def Out.run {R : Type} (o : Out) (nx : Env → H → Option R) (K : Exit → Env → H → Option R) : Option R :=
  match o with
  | .on env h => nx env h
  | .off x env h => K x env h

/-- A loop, by what holds at the head of round k. -/
theorem loop_inv {call : CallF} {jmp : JmpF} {dead : Nat → Option (List Nat)} {rounds c : Nat} {code : Code} {d d' dr : Option (List Nat)} (I : Nat → Env → H → Prop) (N : Nat) (Q : Exit → Env → H → Prop)
    (hs : ∀ k env h, k ≤ N → I k env h → ∃ o : Out, (∀ {R : Type} (nx : Env → H → Option R) (K : Exit → Env → H → Option R), evCode P call jmp dead rounds c code env h (loopK nx d d' dr K) = o.run nx K) ∧
      match o with
      | .on env' h' => k < N ∧ I (k + 1) env' h'
      | .off x env' h' => Q x env' h') {env : Env} {h : H} (h0 : I 0 env h) {r : Nat} (hr : N < r) :
    ∃ x env' h', Q x env' h' ∧ ∀ {R : Type} (K : Exit → Env → H → Option R), evLoop (evCode P call jmp dead rounds c code) d d' dr r env h K = K x env' h' := by
  have key : ∀ (m k r : Nat) env h, k + m = N → m < r → I k env h → ∃ x env' h', Q x env' h' ∧ ∀ {R : Type} (K : Exit → Env → H → Option R), evLoop (evCode P call jmp dead rounds c code) d d' dr r env h K = K x env' h' := by
    intro m
    induction m with
    | zero =>
      intro k r env h hk hm hI
      obtain ⟨r, rfl⟩ : ∃ q, r = q + 1 := ⟨r - 1, by omega⟩
      obtain ⟨o, e, ho⟩ := hs k env h (by omega) hI
      cases o with
      | on env' h' => have := ho.1; omega
      | off x env' h' => exact ⟨x, env', h', ho, fun K => by rw [evLoop_succ, e]; rfl⟩
    | succ m ih =>
      intro k r env h hk hm hI
      obtain ⟨r, rfl⟩ : ∃ q, r = q + 1 := ⟨r - 1, by omega⟩
      obtain ⟨o, e, ho⟩ := hs k env h (by omega) hI
      cases o with
      | on env' h' =>
        obtain ⟨x, env2, h2, hq, e2⟩ := ih (k + 1) r env' h' (by omega) (by omega) ho.2
        exact ⟨x, env2, h2, hq, fun K => by rw [evLoop_succ, e]; exact e2 K⟩
      | off x env' h' => exact ⟨x, env', h', ho, fun K => by rw [evLoop_succ, e]; rfl⟩
  exact key N 0 r env h (by omega) hr h0

/-! ### what a term gives -/

def Gives (t : Option (Value × H)) (Q : Value → H → Prop) : Prop := ∃ v h', t = some (v, h') ∧ Q v h'
theorem Gives.mk {v : Value} {h : H} {Q : Value → H → Prop} (q : Q v h) : Gives (some (v, h)) Q := ⟨v, h, rfl, q⟩
theorem Gives.mono {t : Option (Value × H)} {Q Q' : Value → H → Prop} (g : Gives t Q) (hq : ∀ v h, Q v h → Q' v h) : Gives t Q' := let ⟨v, h, e, q⟩ := g; ⟨v, h, e, hq v h q⟩
theorem Gives.call {call : CallF} {f : FuncId} {args : List Value} {h : H} {K : Value → H → Option (Value × H)} {Q Q' : Value → H → Prop} (g : Gives (call f args h) Q) (hk : ∀ v h', Q v h' → Gives (K v h') Q') :
    Gives (callK call f args h K) Q' := by
  obtain ⟨v, h', e, q⟩ := g
  rw [callK_mk e]; exact hk v h' q
theorem Gives.eq {t : Option (Value × H)} {v : Value} {h : H} (g : Gives t fun v' h' => v' = v ∧ h' = h) : t = some (v, h) := by
  obtain ⟨_, _, e, rfl, rfl⟩ := g; exact e
/-- A loop, by what holds at the head of round k. -/
theorem Gives.loop {call : CallF} {jmp : JmpF} {dead : Nat → Option (List Nat)} {rounds c : Nat} {code : Code} {d d' dr : Option (List Nat)} {env : Env} {h : H} {r : Nat} {K : Exit → Env → H → Option (Value × H)} {Q' : Value → H → Prop}
    (I : Nat → Env → H → Prop) (N : Nat) (Q : Exit → Env → H → Prop)
    (hs : ∀ k env h, k ≤ N → I k env h → ∃ o : Out, (∀ {R : Type} (nx : Env → H → Option R) (K : Exit → Env → H → Option R), evCode P call jmp dead rounds c code env h (loopK nx d d' dr K) = o.run nx K) ∧
      match o with
      | .on env' h' => k < N ∧ I (k + 1) env' h'
      | .off x env' h' => Q x env' h') (h0 : I 0 env h) (hr : N < r) (hk : ∀ x env' h', Q x env' h' → Gives (K x env' h') Q') :
    Gives (evLoop (evCode P call jmp dead rounds c code) d d' dr r env h K) Q' := by
  obtain ⟨x, env', h', hq, e⟩ := loop_inv I N Q hs h0 hr
  rw [e]; exact hk x env' h' hq
/-- The same, of a piece that stands for itself. -/
def GivesX (t : Option (Exit × Env × H)) (Q : Exit → Env → H → Prop) : Prop := ∃ x env h', t = some (x, env, h') ∧ Q x env h'
theorem GivesX.mk {x : Exit} {env : Env} {h : H} {Q : Exit → Env → H → Prop} (q : Q x env h) : GivesX (some (x, env, h)) Q := ⟨x, env, h, rfl, q⟩
theorem Gives.jump {o : Option (Exit × Env × H)} {K : Exit → Env → H → Option (Value × H)} {Q : Exit → Env → H → Prop} {Q' : Value → H → Prop} (g : GivesX o Q) (hk : ∀ x env h, Q x env h → Gives (K x env h) Q') :
    Gives (jumpK o K) Q' := by
  obtain ⟨x, env, h, e, q⟩ := g
  rw [jumpK_mk e]; exact hk x env h q
theorem GivesX.loop {call : CallF} {jmp : JmpF} {dead : Nat → Option (List Nat)} {rounds c : Nat} {code : Code} {d d' dr : Option (List Nat)} {env : Env} {h : H} {r : Nat} {K : Exit → Env → H → Option (Exit × Env × H)} {Q' : Exit → Env → H → Prop}
    (I : Nat → Env → H → Prop) (N : Nat) (Q : Exit → Env → H → Prop)
    (hs : ∀ k env h, k ≤ N → I k env h → ∃ o : Out, (∀ {R : Type} (nx : Env → H → Option R) (K : Exit → Env → H → Option R), evCode P call jmp dead rounds c code env h (loopK nx d d' dr K) = o.run nx K) ∧
      match o with
      | .on env' h' => k < N ∧ I (k + 1) env' h'
      | .off x env' h' => Q x env' h') (h0 : I 0 env h) (hr : N < r) (hk : ∀ x env' h', Q x env' h' → GivesX (K x env' h') Q') :
    GivesX (evLoop (evCode P call jmp dead rounds c code) d d' dr r env h K) Q' := by
  obtain ⟨x, env', h', hq, e⟩ := loop_inv I N Q hs h0 hr
  rw [e]; exact hk x env' h' hq
theorem GivesX.jump {o : Option (Exit × Env × H)} {K : Exit → Env → H → Option (Exit × Env × H)} {Q Q' : Exit → Env → H → Prop} (g : GivesX o Q) (hk : ∀ x env h, Q x env h → GivesX (K x env h) Q') : GivesX (jumpK o K) Q' := by
  obtain ⟨x, env, h, e, q⟩ := g
  rw [jumpK_mk e]; exact hk x env h q
theorem GivesX.call {call : CallF} {f : FuncId} {args : List Value} {h : H} {K : Value → H → Option (Exit × Env × H)} {Q : Value → H → Prop} {Q' : Exit → Env → H → Prop} (g : Gives (call f args h) Q) (hk : ∀ v h', Q v h' → GivesX (K v h') Q') :
    GivesX (callK call f args h K) Q' := by
  obtain ⟨v, h', e, q⟩ := g
  rw [callK_mk e]; exact hk v h' q
end
end Go.Ev
