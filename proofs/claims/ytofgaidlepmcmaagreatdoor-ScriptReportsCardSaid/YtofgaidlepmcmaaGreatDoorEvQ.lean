/-
  Library functions met by what they compute: texts cut at a byte, numbers written out, texts joined.
-/
import Derived.Test.YtofgaidlepmcmaaGreatDoorEvP
import Derived.Lib.SplitLaws
import Derived.Lib.ItoaNum
import Derived.Lib.Join
import Derived.Below
import Derived.Sort.Grow
import Derived.Deep.Draws
namespace Go.Ev
open Go Go.RowKit

/-- A text out of its bytes. -/
def txt (l : List UInt8) : ByteArray := ⟨l.toArray⟩
theorem txt_data (s : ByteArray) : txt s.data.toList = s := by cases s; rfl
theorem txt_size (l : List UInt8) : (txt l).size = l.length := by simp [txt, ByteArray.size]
theorem txt_inj {a b : List UInt8} (h : txt a = txt b) : a = b := by
  have := congrArg (fun s => s.data.toList) h
  simpa [txt] using this

/-! ### cut at a byte -/

def pieces (c : UInt8) : List UInt8 → List (List UInt8)
  | [] => [[]]
  | b :: l => bif Nat.beq b.toNat c.toNat then [] :: pieces c l
      else match pieces c l with
        | p :: ps => (b :: p) :: ps
        | [] => [[b]]
theorem beq_byte (b c : UInt8) : Nat.beq b.toNat c.toNat = decide (b = c) := by
  by_cases h : b = c
  · subst h; simp
  · have : b.toNat ≠ c.toNat := fun e => h (UInt8.toNat_inj.1 e)
    rw [decide_eq_false h]
    cases hb : Nat.beq b.toNat c.toNat with
    | false => rfl
    | true => exact absurd (Nat.eq_of_beq_eq_true hb) this
theorem pieces_ne (c : UInt8) (l : List UInt8) : pieces c l ≠ [] := by
  cases l with
  | nil => simp [pieces]
  | cons b l =>
    simp only [pieces]
    cases Nat.beq b.toNat c.toNat with
    | true => simp
    | false => simp only [cond_false]; split <;> simp
theorem splitK_pieces (c : UInt8) : ∀ (l : List UInt8), Lib.splitK [c] 0 (Lib.count l [c]) l = pieces c l := by
  intro l
  induction l with
  | nil => rw [Lib.count_one]; rfl
  | cons b l ih =>
    by_cases h : b = c
    · subst h
      rw [Lib.count_cons_eq, Nat.add_comm 1]
      simp only [Lib.splitK]
      have hi : Lib.index (b :: l) [b] = 0 := by rw [Lib.index_one]; simp [Lib.indexByte]
      rw [hi]
      simp only [pieces, beq_byte, decide_true, cond_true]
      rw [← ih]
      rfl
    · rw [Lib.count_cons_ne b c l h]
      simp only [pieces, beq_byte, decide_eq_false h, cond_false]
      rw [← ih]
      have hi : Lib.index (b :: l) [c] = if Lib.index l [c] == -1 then -1 else Lib.index l [c] + 1 := by
        rw [Lib.index_one, Lib.index_one]
        simp only [Lib.indexByte]
        rw [if_neg (by simpa using h)]
      cases hk : Lib.count l [c] with
      | zero => simp [Lib.splitK]
      | succ k =>
        simp only [Lib.splitK]
        have hne : ¬ (Lib.index l [c] == -1) = true := by
          intro hx
          have := Lib.count_miss (beq_iff_eq.1 hx)
          omega
        have hge := Lib.indexByte_ge l c
        rw [← Lib.index_one] at hge
        have hne' : Lib.index l [c] ≠ -1 := fun e => hne (by simp [e])
        obtain ⟨i, hii⟩ : ∃ i : Nat, Lib.index l [c] = i := ⟨(Lib.index l [c]).toNat, by omega⟩
        rw [hi, if_neg hne, hii]
        rw [if_neg (by simp; omega), if_neg (by simp)]
        simp only [List.length_singleton]
        have e1 : ((i : Int) + 1).toNat = i + 1 := by omega
        rw [e1]
        simp [List.take_succ_cons]

/-! ### numbers written out -/

def digs : Nat → Nat → List UInt8
  | 0, _ => []
  | f + 1, u => bif Nat.blt u 10 then [UInt8.ofNat (48 + u)] else digs f (u / 10) ++ [UInt8.ofNat (48 + u % 10)]
theorem digs_eq : ∀ (f u : Nat), u < 10 ^ f → 0 < f → digs f u = Lib.decDigits u := by
  intro f
  induction f with
  | zero => intro u _ h; omega
  | succ f ih =>
    intro u hu _
    rw [digs, Lib.decDigits]
    by_cases h : u < 10
    · rw [dif_pos h, show Nat.blt u 10 = true by rw [Nat.blt_eq]; exact h]; rfl
    · have hb : Nat.blt u 10 = false := by
        cases hb : Nat.blt u 10 with
        | false => rfl
        | true => rw [Nat.blt_eq] at hb; exact absurd hb h
      rw [dif_neg h, hb]
      have h0 : 0 < f := by
        rcases Nat.eq_zero_or_pos f with rfl | h0
        · simp at hu; omega
        · exact h0
      simp only [cond_false]
      rw [ih (u / 10) (by rw [Nat.pow_succ] at hu; omega) h0]

/-! ### joined -/

def joined (sep : List UInt8) : List (List UInt8) → List UInt8
  | [] => []
  | [x] => x
  | x :: r => x ++ sep ++ joined sep r
theorem joined_eq (sep : List UInt8) : ∀ xs, joined sep xs = Lib.join xs sep := by
  intro xs
  induction xs with
  | nil => rfl
  | cons x r ih =>
    cases r with
    | nil => rw [Lib.join_one]; rfl
    | cons y r =>
      rw [joined, ih]
      · simp [Lib.join, List.intercalate]
      · simp

/-! ### what a contract leaves, as the evaluator has it -/
section
variable {P : Program} {base : Base} {ρ : Rho} {h : H} {w w' : World}

theorem Post.below (hs : Sim ρ base h w) (hb : RowKit.Below w.heap.size w w') : Post base ρ h w ρ h w' where
  le := .refl ρ
  sim := ⟨hs.dom, Nat.le_trans hs.based hb.size, fun b hbb => by rw [hb.block b (Nat.lt_of_lt_of_le hbb hs.based)]; exact hs.still b hbb, fun i x hi => by
    obtain ⟨b, o, K, obj, h1, h2, h3⟩ := hs.blk i x hi
    exact ⟨b, o, K, obj, h1, by rw [hb.block b (Array.getElem?_eq_some_iff.1 h2).1]; exact h2, h3⟩, hs.apart⟩
  next := Nat.le_refl _
  size := hb.size
  os := hb.os
  tape := hb.tape
  output := hb.output
  frame := fun b hbb _ => hb.block b hbb
  own := fun i x b o K hi hr _ => .inr ⟨i, x, o, K, hi, hr, id⟩

theorem below_grow (w : World) (k : Nat) (os : Array Obj) : RowKit.Below w.heap.size w (Sort.grow (w.drewN k) os) := by
  refine ⟨rfl, rfl, rfl, ?_, fun b hb => ?_⟩
  · show w.heap.size ≤ (w.heap ++ os).size
    simp
  · show (w.heap ++ os)[b]? = w.heap[b]?
    rw [Array.getElem?_append_left hb]

/-- A function that stands for a body. -/
abbrev Intr := List Value → H → Option (Value × H)
/-- What it promises. -/
def StandsFor (P : Program) (base : Base) (f : FuncId) (g : Intr) : Prop :=
  ∀ args h v h', g args h = some (v, h') → h.next ≤ h'.next ∧ ∀ ρ w args', Sim ρ base h w → VRs ρ args args' →
    Calls P f args'.toArray w fun e w' => ∃ ρ' v', e = .returned v' ∧ Post base ρ h w ρ' h' w' ∧ VR ρ' v v'
theorem VRs.one {ρ : Rho} {x : Value} {ys : List Value} (h : VRs ρ [x] ys) : ∃ y, ys = [y] ∧ VR ρ x y := by
  match ys, h with
  | [y], h => exact ⟨y, rfl, h.head⟩
  | [], h => have := h.1; simp at this
  | _ :: _ :: _, h => have := h.1; simp at this
theorem VRs.two {ρ : Rho} {x y : Value} {ys : List Value} (h : VRs ρ [x, y] ys) : ∃ a b, ys = [a, b] ∧ VR ρ x a ∧ VR ρ y b := by
  match ys, h with
  | [a, b], h => exact ⟨a, b, rfl, h.head, h.tail.head⟩
  | [], h => have := h.1; simp at this
  | [_], h => have := h.1; simp at this
  | _ :: _ :: _ :: _, h => have := h.1; simp at this

/-- strings.Split at a single byte. -/
def splitI : Intr
  | [.string s, .string sep], h =>
    match sep.data.toList with
    | [c] => bif Nat.blt s.size 1000000 then
        some (.slice (some ⟨h.next, 0, none⟩) (pieces c s.data.toList).length 1, h.new (.cells ((pieces c s.data.toList).map fun p => .string (txt p)) false))
      else none
    | _ => none
  | _, _ => none
theorem splitI_ok {f : FuncId} {g : Nat} {te : TypeId}
    (hC : ∀ (s sep : ByteArray) (m : Int) (w : World), s.size < 4294967281 → w.cell? ⟨g, 0, none⟩ = some (.int .i64 m) → 1 ≤ sep.size →
      Calls P f #[.string s, .string sep] w fun e w' => e = .returned (.slice (some ⟨w.heap.size, 0, none⟩) (Lib.countB s sep + 1) (Lib.countB s sep + 1)) ∧
        w' = w.alloc (.cells ((Lib.splitB sep 0 (Lib.countB s sep) s).map Value.string).toArray te))
    (hm : ∀ w : World, (∀ b, b < base.n → w.heap[b]? = base.obj b) → ∃ m, w.cell? ⟨g, 0, none⟩ = some (.int .i64 m)) : StandsFor P base f splitI := by
  intro args h v h' hg
  unfold splitI at hg
  split at hg
  · rename_i s sep
    split at hg
    · rename_i c hc
      cases hb : Nat.blt s.size 1000000 with
      | false => rw [hb] at hg; cases hg
      | true =>
        rw [hb] at hg
        simp only [cond_true, Option.some.injEq, Prod.mk.injEq] at hg
        obtain ⟨rfl, rfl⟩ := hg
        have hlt : s.size < 1000000 := by rwa [Nat.blt_eq] at hb
        refine ⟨Nat.le_succ _, fun ρ w args' hs hv => ?_⟩
        obtain ⟨a, b, rfl, h1, h2⟩ := hv.two
        cases h1; cases h2
        obtain ⟨m, hm⟩ := hm w hs.still
        have hsz : sep.size = 1 := by
          have : sep.size = sep.data.toList.length := Lib.size_eq sep
          rw [this, hc]; rfl
        refine (hC s sep m w (by omega) hm (by omega)).mono fun e w' ⟨he, hw⟩ => ?_
        have hp : (Lib.splitB sep 0 (Lib.countB s sep) s).map (·.data.toList) = pieces c s.data.toList := by
          rw [Lib.splitB_data, hc]
          rw [show Lib.countB s sep = Lib.count s.data.toList [c] by rw [← hc], splitK_pieces]
        have hq : Lib.splitB sep 0 (Lib.countB s sep) s = (pieces c s.data.toList).map txt := by
          rw [← hp, List.map_map]
          have : (txt ∘ fun x : ByteArray => x.data.toList) = id := by funext x; exact txt_data x
          rw [this]; simp
        have hn : Lib.countB s sep + 1 = (pieces c s.data.toList).length := by
          rw [← hp, List.length_map, Lib.splitB_all sep (by omega) 0 _ s rfl]
        rw [hn] at he
        rw [hq] at hw
        subst hw
        refine ⟨ρ.ins h.next (w.heap.size, 0, _), _, he, newRow_sim hs (fun j v hj => ?_) (fun j _ _ hj => by simp at hj), ?_⟩
        · simp only [List.getElem?_map] at hj
          cases hx : (pieces c s.data.toList)[j]? with
          | none => rw [hx] at hj; cases hj
          | some x =>
            rw [hx] at hj; simp at hj; subst hj
            exact ⟨rfl, .string (txt x), by simp [hx], .string _⟩
        · have := VR.slice (ρ := ρ.ins h.next (w.heap.size, 0, (((pieces c s.data.toList).map txt).map Value.string).toArray.size)) (i := h.next) (o := 0) (st := 1) (len := (pieces c s.data.toList).length)
            (cap := (pieces c s.data.toList).length) (Rho.ins_same _ _ _) (Nat.le_refl _) (by simp)
          simpa using this
    · cases hg
  · cases hg

/-- strconv.Itoa. -/
def itoaL (n : Int) : List UInt8 := bif decide (n < 0) then 45 :: digs 20 n.natAbs else digs 20 n.toNat
theorem itoaL_eq {n : Int} (h0 : -9223372036854775808 ≤ n) (h1 : n ≤ 9223372036854775807) : itoaL n = Lib.itoa n := by
  unfold itoaL Lib.itoa
  by_cases h : n < 0
  · rw [decide_eq_true h, cond_true, if_pos h, digs_eq _ _ (by omega) (by omega)]
  · rw [decide_eq_false h, cond_false, if_neg h, digs_eq _ _ (by omega) (by omega)]
def itoaI : Intr
  | [.int .i64 n], h => ifK (-9223372036854775808 ≤ n ∧ n ≤ 9223372036854775807) (some (.string (txt (itoaL n)), h))
  | _, _ => none
theorem itoaI_ok {f : FuncId} (hC : ∀ (n : Int) (w : World), -9223372036854775808 ≤ n → n ≤ 9223372036854775807 → (∀ b, b < base.n → w.heap[b]? = base.obj b) →
      Calls P f #[.int .i64 n] w fun e w' => e = .returned (.string ⟨(Lib.itoa n).toArray⟩) ∧ ∃ k os, w' = Sort.grow (w.drewN k) os) : StandsFor P base f itoaI := by
  intro args h v h' hg
  unfold itoaI at hg
  split at hg
  · rename_i n
    obtain ⟨⟨h0, h1⟩, h2⟩ := ifK_some hg
    simp only [Option.some.injEq, Prod.mk.injEq] at h2
    obtain ⟨rfl, rfl⟩ := h2
    refine ⟨Nat.le_refl _, fun ρ w args' hs hv => ?_⟩
    obtain ⟨a, rfl, h3⟩ := hv.one
    have ha : a = .int .i64 n := by cases h3; rfl
    subst ha
    refine (hC n w h0 h1 hs.still).mono fun e w' ⟨he, k, os, hw⟩ => ?_
    subst hw
    exact ⟨ρ, _, he, Post.below hs (below_grow w k os), by rw [itoaL_eq h0 h1]; exact .string _⟩
  · cases hg

/-- A number from 0 on, written out by the reference. -/
def digitsI : Intr
  | [.int .i64 n], h => ifK (0 ≤ n ∧ n ≤ 9223372036854775807) (some (.string (txt (digs 20 n.toNat)), h))
  | _, _ => none
theorem digitsI_ok {f : FuncId} (hC : ∀ (n : Int) (w : World), 0 ≤ n → n ≤ 9223372036854775807 →
      Calls P f #[.int .i64 n] w fun e w' => e = .returned (.string (txt (digs 20 n.toNat))) ∧ RowKit.Below w.heap.size w w') : StandsFor P base f digitsI := by
  intro args h v h' hg
  unfold digitsI at hg
  split at hg
  · rename_i n
    obtain ⟨⟨h0, h1⟩, h2⟩ := ifK_some hg
    simp only [Option.some.injEq, Prod.mk.injEq] at h2
    obtain ⟨rfl, rfl⟩ := h2
    refine ⟨Nat.le_refl _, fun ρ w args' hs hv => ?_⟩
    obtain ⟨a, rfl, h3⟩ := hv.one
    have ha : a = .int .i64 n := by cases h3; rfl
    subst ha
    refine (hC n w h0 h1).mono fun e w' ⟨he, hw⟩ => ?_
    exact ⟨ρ, _, he, Post.below hs hw, .string _⟩
  · cases hg

/-- strings.Join. -/
def strsOf : List Value → Option (List (List UInt8))
  | [] => some []
  | .string s :: r => match strsOf r with
    | some l => some (s.data.toList :: l)
    | none => none
  | _ :: _ => none
def joinI : Intr
  | [.slice none 0 0, .string _], h => some (.string ⟨#[]⟩, h)
  | [.slice (some ⟨i, o, none⟩) n st, .string sep], h => ifK (st = 1 ∧ n < 1000000) (optK (ldCells h i o n) fun cs => optK (strsOf cs) fun l =>
      ifK ((joined sep.data.toList l).length ≤ 140737488355328) (some (.string (txt (joined sep.data.toList l)), h)))
  | _, _ => none
theorem strsOf_eq : ∀ {cs : List Value} {l : List (List UInt8)}, strsOf cs = some l → cs = l.map fun x => .string (txt x)
  | [], l, h => by simp [strsOf] at h; subst h; rfl
  | c :: r, l, h => by
    cases c <;> simp only [strsOf] at h <;> try cases h
    rename_i s
    split at h
    · rename_i l' hl
      cases h
      rw [strsOf_eq hl]; simp [txt_data]
    · cases h
theorem joinI_ok {f : FuncId} (h0 : ∀ (a : Option Addr) (c : Nat) (sep : ByteArray) (w : World), Calls P f #[.slice a 0 c, .string sep] w fun e w' => e = .returned (.string ⟨#[]⟩) ∧ w' = w)
    (hC : ∀ (bk o c : Nat) (xs : List ByteArray) (sep : ByteArray) (w : World), (∀ (j : Nat) x, xs[j]? = some x → w.cell? ⟨bk, o + j, none⟩ = some (.string x)) → bk < w.heap.size → xs.length ≤ 140737488355328 → xs.length ≤ c →
      (Lib.join (xs.map (·.data.toList)) sep.data.toList).length ≤ 140737488355328 →
      Calls P f #[.slice (some ⟨bk, o, none⟩) xs.length c, .string sep] w fun e w' => e = .returned (.string ⟨(Lib.join (xs.map (·.data.toList)) sep.data.toList).toArray⟩) ∧ RowKit.Below w.heap.size w w') :
    StandsFor P base f joinI := by
  intro args h v h' hg
  unfold joinI at hg
  split at hg
  · simp only [Option.some.injEq, Prod.mk.injEq] at hg
    obtain ⟨rfl, rfl⟩ := hg
    refine ⟨Nat.le_refl _, fun ρ w args' hs hv => ?_⟩
    obtain ⟨a, b, rfl, h1, h2⟩ := hv.two
    cases h1; cases h2
    refine (h0 _ _ _ w).mono fun e w' ⟨he, hw⟩ => ?_
    subst hw
    exact ⟨ρ, _, he, .refl hs, .string _⟩
  · rename_i i o n st sep
    obtain ⟨⟨rfl, hn⟩, h1⟩ := ifK_some hg
    obtain ⟨cs, hcs, h2⟩ := optK_some h1
    obtain ⟨l, hl, h3⟩ := optK_some h2
    obtain ⟨hlen, h4⟩ := ifK_some h3
    simp only [Option.some.injEq, Prod.mk.injEq] at h4
    obtain ⟨rfl, rfl⟩ := h4
    refine ⟨Nat.le_refl _, fun ρ w args' hs hv => ?_⟩
    obtain ⟨a, b, rfl, q1, q2⟩ := hv.two
    cases q2
    have hcl := strsOf_eq hl
    obtain ⟨b, c, K, vs', hr, hvl, hcell, hvr, _⟩ := ldCells_sim hs hcs
    have hll : cs.length = n := by have := hvr.1; omega
    have hxl : l.length = n := by rw [hcl] at hll; simpa using hll
    have hjoin : joined sep.data.toList l = Lib.join ((l.map txt).map (·.data.toList)) sep.data.toList := by
      rw [joined_eq, List.map_map]
      congr 1
      have : ((fun x : ByteArray => x.data.toList) ∘ txt) = id := by funext x; simp [txt]
      rw [this]; simp
    cases q1 with
    | slice hr' hcap hK =>
      rw [hr] at hr'; cases hr'
      rename_i cap
      have hbk : ∃ obj, w.heap[b]? = some obj ∧ b < w.heap.size := by
        obtain ⟨x, hx⟩ : ∃ x, h.get i = some x := by
          unfold ldCells at hcs
          split at hcs
          · exact ⟨_, ‹_›⟩
          · cases hcs
        obtain ⟨b', _, _, obj, r1, r2, _⟩ := hs.blk i x hx
        rw [hr] at r1; cases r1
        exact ⟨obj, r2, (Array.getElem?_eq_some_iff.1 r2).1⟩
      obtain ⟨_, _, hbk⟩ := hbk
      have := hC b (c + o) cap (l.map txt) sep w (fun j x hx => ?_) hbk (by simp; omega) (by simp; omega) (by rw [← hjoin]; exact hlen)
      · simp only [List.length_map, hxl] at this
        refine this.mono fun e w' ⟨he, hw⟩ => ?_
        rw [← hjoin] at he
        exact ⟨ρ, _, he, Post.below hs hw, .string _⟩
      · simp only [List.getElem?_map] at hx
        cases hy : l[j]? with
        | none => rw [hy] at hx; cases hx
        | some y =>
          rw [hy] at hx; simp at hx; subst hx
          have h5 : cs[j]? = some (.string (txt y)) := by rw [hcl]; simp [hy]
          obtain ⟨v', h6, h7⟩ := hvr.get h5
          cases h7
          exact hcell j _ h6
    | sempty =>
      have : l = [] := List.eq_nil_of_length_eq_zero hxl
      subst this
      refine (h0 _ _ _ w).mono fun e w' ⟨he, hw⟩ => ?_
      subst hw
      exact ⟨ρ, _, he, .refl hs, .string _⟩
  · cases hg
end
end Go.Ev
