/-
  strings.Builder: a builder's block and its bytes' block, of known types; what WriteString and String come to.
-/
import Derived.Test.YtofgaidlepmcmaaGreatDoorEvV
import Derived.Lib.AppendStr
import Derived.Lib.UnsafeStr
import Derived.Deep.AppendSrc
namespace Go.Ev
open Go Go.RowKit

section
variable {P : Program}
/-- A text behind a row of bytes that one owns: where all lies then. -/
theorem run_append_at (w : World) (t u ty e : TypeId) (i : TypeInfo) (ht : P.underlying t = some (.slice e)) (hu : P.underlying u = some .string) (hi : P.info? e = some i) (hz : i.zero = some (.int .u8 0)) (hsize : i.size = 1) (hby : i.bytes = 1)
    (v : Value) (n : Nat) (xs : List Value) (hown : w.ownsRow 0 e 1 v n xs) (s : ByteArray) (h0 : 0 < s.size) (hb : n + s.size ≤ 1099511627776) :
    ∃ v' w', (Builtin.append_ #[t, u] ty #[v, .string s]).run P w = .ok v' w' ∧ w'.ownsRow 0 e 1 v' (n + s.size) (xs ++ Lib.strCells s) ∧ w.grownBy w' v.ownBlock ∧ ∃ g, v'.ownBlock = some g ∧ (v.ownBlock = some g ∨ w.heap.size ≤ g) := by
  have hown0 := hown
  rcases hown.2 with ⟨rfl, rfl⟩ | ⟨g, cap, cur, rfl, _, hg, hnc, hcm, hcs, htake⟩
  · obtain ⟨v', w', h1, h2, h3, _⟩ := Lib.run_append_own_string (P := P) w w.heap.size t u ty e i ht hu hi hz hsize hby (.slice none 0 0) 0 xs ⟨hown.1, .inl ⟨rfl, rfl⟩⟩ s (by unfold maxLen; omega) (by omega) (Nat.le_refl _)
    rcases h2.2 with ⟨rfl, hz0⟩ | ⟨g, cap, cur, rfl, hbg, r⟩
    · omega
    · exact ⟨_, w', h1, ⟨h2.1, .inr ⟨g, cap, cur, rfl, Nat.zero_le _, r⟩⟩, h3, g, rfl, .inr hbg⟩
  · obtain ⟨v', w', h1, h2, h3, _⟩ := Lib.run_append_own_string (P := P) w 0 t u ty e i ht hu hi hz hsize hby _ n xs hown0 s (by unfold maxLen; omega) (by omega) (Nat.zero_le _)
    refine ⟨v', w', h1, h2, h3, ?_⟩
    have hS : Src P i.size u (.string s) s.size (byteCells s) w := by rw [hsize]; exact Src.ofString w hu s
    have hbl : (byteCells s).length = s.size := byteCells_length s
    by_cases hroom : n + s.size ≤ cap
    · have := run_append_room_src w t u ty e i ht hi g 0 n cap (.string s) s.size (byteCells s) hS hroom
        (fun j hj => by rw [cell?_of hg, hsize, Array.getElem?_eq_getElem (by omega)]; rfl) (fun j hj => by rw [frozen?_of hg]; simp)
      rw [h1] at this
      cases this
      exact ⟨g, rfl, .inl rfl⟩
    · have hl : (cur.toList.take (n * 1)).length = n * 1 := by rw [List.length_take]; simp; omega
      have hfc := run_firstCells_some (P := P) w.drew 1 n ⟨g, 0, none⟩ n cap (cur.toList.take (n * 1)) hl (fun j u hj => by
        rw [World.cell?_drew, add_plain, cell?_of hg, Nat.zero_add]
        rw [List.getElem?_take] at hj
        split at hj
        · simpa using hj
        · cases hj)
      have hfit : Builtin.nextslicecap (n + s.size) cap * i.bytes ≤ 281474976710656 := growslice_fits (by omega) (by rw [hby]; omega)
      have := run_append_grow_src w t u ty e i _ ht hi hz (some ⟨g, 0, none⟩) n cap _ (by rw [hsize]; exact hfc) (.string s) s.size (byteCells s) hS (by omega) (by omega) hfit
      rw [h1] at this
      cases this
      exact ⟨_, rfl, .inr (Nat.le_refl _)⟩

theorem wpList_append_at {w : World} {ops : Array Oper} {rest : List Oper} {o : Oper} {a : Act} {Q : Exit → Act → World → Prop} (hgd : o.guard = none) (sl x : Operand) (t u : TypeId)
    (ho : o.op = .call { callee := .builtin .append, args := #[sl, x], argTypes := #[t, u] })
    (e : TypeId) (i : TypeInfo) (ht : P.underlying t = some (.slice e)) (hu : P.underlying u = some .string) (hi : P.info? e = some i) (hz : i.zero = some (.int .u8 0)) (hsize : i.size = 1) (hby : i.bytes = 1)
    (v : Value) (n : Nat) (xs : List Value) (hs : a.eval sl = v) (hown : w.ownsRow 0 e 1 v n xs) (s : ByteArray) (hx : a.eval x = .string s) (h0 : 0 < s.size) (hb : n + s.size ≤ 1099511627776)
    (h : ∀ v' w', w'.ownsRow 0 e 1 v' (n + s.size) (xs ++ Lib.strCells s) → w.grownBy w' v.ownBlock → (∃ g, v'.ownBlock = some g ∧ (v.ownBlock = some g ∨ w.heap.size ≤ g)) → wpList P ops Q rest (a.put o.dst v') w') : wpList P ops Q (o :: rest) a w := by
  refine wpList_plain hgd fun K hK => ?_
  obtain ⟨v', w', hr, h2, h3, h4⟩ := run_append_at (P := P) w t u o.type e i ht hu hi hz hsize hby v n xs hown s h0 hb
  unfold Oper.wp execOp
  simp only [ho, resolve, invoke, builtin, Sem.run_bind, Sem.run_pure, Result.andThen_ok, List.map_toArray, List.map_cons, List.map_nil, hs, hx, hr]
  exact hK _ _ (h v' w' h2 h3 h4)

/-! ### what the two functions do -/
def WsOK (P : Program) (f T u : Nat) : Prop :=
  ∀ (b : Nat) (p v : Value) (n : Nat) (xs : List Value) (s : ByteArray) (w : World), w.heap[b]? = some (.cells #[p, v] T (0, 0)) → (p = .pointer none ∨ p = .pointer (some ⟨b, 0, none⟩)) → w.ownsRow 0 u 1 v n xs → v.ownBlock ≠ some b → 0 < s.size →
    n + s.size ≤ 1099511627776 → Calls P f #[.pointer (some ⟨b, 0, none⟩), .string s] w fun e w' => e = .returned (.tuple #[.int .i64 s.size, .nilIface]) ∧
      ∃ g cap cur, w'.heap[b]? = some (.cells #[.pointer (some ⟨b, 0, none⟩), .slice (some ⟨g, 0, none⟩) (n + s.size) cap] T (0, 0)) ∧ w'.heap[g]? = some (.cells cur u (0, 0)) ∧ n + s.size ≤ cap ∧ cap ≤ maxLen ∧ cur.size = cap ∧
        cur.toList.take (n + s.size) = xs ++ Lib.strCells s ∧ g ≠ b ∧ (v.ownBlock = some g ∨ w.heap.size ≤ g) ∧ w'.os = w.os ∧ w'.tape = w.tape ∧ w'.output = w.output ∧ w.heap.size ≤ w'.heap.size ∧
        ∀ k, k < w.heap.size → k ≠ b → v.ownBlock ≠ some k → w'.heap[k]? = w.heap[k]?
def StrOK (P : Program) (f T u : Nat) : Prop :=
  ∀ (b : Nat) (p : Value) (g cap : Nat) (cur : Array Value) (l : List UInt8) (w : World), w.heap[b]? = some (.cells #[p, .slice (some ⟨g, 0, none⟩) l.length cap] T (0, 0)) → w.heap[g]? = some (.cells cur u (0, 0)) → l ≠ [] → l.length ≤ cap → cap ≤ maxLen →
    cur.size = cap → cur.toList.take l.length = Lib.byteCells l → Calls P f #[.pointer (some ⟨b, 0, none⟩)] w fun e w' => e = .returned (.string ⟨l.toArray⟩) ∧ w' = w.drew.freeze ⟨g, 0, none⟩ l.length
end

/-! ### worlds in which a builder was written -/
theorem PostG.bld {base : Base} {ρ : Rho} {h : H} {w w' : World} (hs : Sim ρ base h w) {i b Ki : Nat} {xi X Y : Blk} {obji objg : Obj} {g Kg : Nat} {vb dead : Option Nat} (hi : h.get i = some xi) (hxi : xi.wr = true) (hri : ρ i = some (b, 0, Ki))
    (hd : (vb = none ∧ dead = none) ∨ ∃ j b2 y K2, dead = some j ∧ vb = some b2 ∧ h.get j = some y ∧ y.wr = true ∧ ρ j = some (b2, 0, K2) ∧ j ≠ i) (hwb : w'.heap[b]? = some obji) (hwg : w'.heap[g]? = some objg) (hgb : g ≠ b)
    (hg : vb = some g ∨ w.heap.size ≤ g) (hX : BlkR (ρ.ins h.next (g, 0, Kg)) base X b 0 Ki obji) (_ : X.wr = true) (hY : BlkR (ρ.ins h.next (g, 0, Kg)) base Y g 0 Kg objg) (_ : Y.wr = true) (e1 : w'.os = w.os) (e2 : w'.tape = w.tape) (e3 : w'.output = w.output) (e4 : w.heap.size ≤ w'.heap.size)
    (fr : ∀ k, k < w.heap.size → k ≠ b → vb ≠ some k → w'.heap[k]? = w.heap[k]?) :
    Post base ρ h w (ρ.ins h.next (g, 0, Kg)) ((((match dead with | none => h | some j => h.del j).put i X)).new Y) w' := by
  have hle : ρ.le (ρ.ins h.next (g, 0, Kg)) := Rho.le_ins _ hs.fresh
  have hbs : base ≤ b := by
    obtain ⟨b', o', K', ob, h1, _, h3⟩ := hs.blk i xi hi
    rw [hri] at h1; cases h1
    exact h3.base_le hxi
  have hlt : ∀ {i x b o K}, h.get i = some x → ρ i = some (b, o, K) → b < w.heap.size := by
    intro i x b o K h1 h2
    obtain ⟨b', o', K', ob, h3, h4, _⟩ := hs.blk i x h1
    rw [h2] at h3; cases h3
    exact (Array.getElem?_eq_some_iff.1 h4).1
  have hvb : ∀ k, vb = some k → ∃ j y K2, dead = some j ∧ h.get j = some y ∧ y.wr = true ∧ ρ j = some (k, 0, K2) ∧ j ≠ i ∧ base ≤ k := by
    intro k hk
    rcases hd with ⟨h1, _⟩ | ⟨j, b2, y, K2, h1, h2, h3, h4, h5, h6⟩
    · rw [h1] at hk; cases hk
    · rw [h2] at hk; cases hk
      obtain ⟨b', o', K', ob, h7, _, h9⟩ := hs.blk j y h3
      rw [h5] at h7; cases h7
      exact ⟨j, y, K2, h1, h3, h4, h5, h6, h9.base_le h4⟩
  have hbg : base ≤ g := by
    rcases hg with h1 | h1
    · obtain ⟨_, _, _, _, _, _, _, _, h⟩ := hvb g h1; exact h
    · exact Nat.le_trans hs.based h1
  -- what there is
  have hget : ∀ k, ((((match dead with | none => h | some j => h.del j).put i X)).new Y).get k = if k = h.next then some Y else if k = i then some X else if dead = some k then none else h.get k := by
    intro k
    rw [H.get_new, H.next_put]
    have hn : (match dead with | none => h | some j => h.del j).next = h.next := by cases dead <;> rfl
    rw [hn, H.get_put]
    cases dead with
    | none => simp
    | some j =>
      rw [H.get_del]
      by_cases e : k = j
      · subst e; simp
      · have : ¬ (some j = some k) := fun h => e (by cases h; rfl)
        simp [e, this]
  have hin : i ≠ h.next := Nat.ne_of_lt (hs.get_next hi)
  have other : ∀ k x b1 o1 K1, k ≠ i → dead ≠ some k → h.get k = some x → ρ k = some (b1, o1, K1) → b1 ≠ b ∧ vb ≠ some b1 ∧ b1 ≠ g := by
    intro k x b1 o1 K1 hk hdk hx hr
    have h1 : b1 ≠ b := by
      rintro rfl
      exact hk (hs.apart k i x xi _ _ _ _ _ hx hi hr hri hbs)
    have h2 : vb ≠ some b1 := by
      intro hv
      obtain ⟨j, y, K2, h3, h4, _, h6, _, h8⟩ := hvb b1 hv
      have := hs.apart k j x y _ _ _ _ _ hx h4 hr h6 h8
      subst this
      exact hdk h3
    refine ⟨h1, h2, ?_⟩
    rintro rfl
    rcases hg with h3 | h3
    · exact h2 h3
    · have := hlt hx hr; omega
  refine ⟨hle, ⟨fun k x hk => ?_, Nat.le_trans hs.based e4, fun k hk => ?_, fun k x hk => ?_, fun k1 k2 x1 x2 b1 o1 K1 o2 K2 hk1 hk2 hr1 hr2 hb1 => ?_⟩, ?_, e4, e1, e2, e3, fun k hk hn => ?_, fun k x b1 o1 K1 hk hr hb1 => ?_⟩
  · rw [H.next_new, H.next_put]
    have hn : (match dead with | none => h | some j => h.del j).next = h.next := by cases dead <;> rfl
    rw [hn]
    by_cases e : k = h.next
    · omega
    · rw [Rho.ins_other _ _ e] at hk; have := hs.dom _ _ hk; omega
  · rw [fr k (Nat.lt_of_lt_of_le hk hs.based) (by have h9 : base.n ≤ b := hbs; omega) (fun hv => by obtain ⟨_, _, _, _, _, _, _, _, h8⟩ := hvb k hv; have h9 : base.n ≤ k := h8; omega)]
    exact hs.still k hk
  · rw [hget] at hk
    by_cases e : k = h.next
    · subst e
      simp only [if_true] at hk; cases hk
      exact ⟨g, 0, Kg, objg, Rho.ins_same _ _ _, hwg, hY⟩
    · simp only [e, if_false] at hk
      by_cases e2 : k = i
      · subst e2
        simp only [if_true] at hk; cases hk
        exact ⟨b, 0, Ki, obji, by rw [Rho.ins_other _ _ e]; exact hri, hwb, hX⟩
      · simp only [e2, if_false] at hk
        by_cases e3 : dead = some k
        · simp [e3] at hk
        · simp only [e3, if_false] at hk
          obtain ⟨b1, o1, K1, ob, h1, h2, h3⟩ := hs.blk k x hk
          obtain ⟨q1, q2, _⟩ := other k x b1 o1 K1 e2 e3 hk h1
          exact ⟨b1, o1, K1, ob, by rw [Rho.ins_other _ _ e]; exact h1, by rw [fr b1 (Array.getElem?_eq_some_iff.1 h2).1 q1 q2]; exact h2, h3.mono hle⟩
  · -- apart
    have cases' : ∀ k x b1 o1 K1, ((((match dead with | none => h | some j => h.del j).put i X)).new Y).get k = some x → (ρ.ins h.next (g, 0, Kg)) k = some (b1, o1, K1) → (k = h.next ∧ b1 = g) ∨ (k = i ∧ b1 = b) ∨ (k ≠ h.next ∧ k ≠ i ∧ dead ≠ some k ∧ h.get k = some x ∧ ρ k = some (b1, o1, K1)) := by
      intro k x b1 o1 K1 hk hr
      rw [hget] at hk
      by_cases e : k = h.next
      · subst e; rw [Rho.ins_same] at hr; cases hr; exact .inl ⟨rfl, rfl⟩
      · rw [Rho.ins_other _ _ e] at hr
        simp only [e, if_false] at hk
        by_cases e2 : k = i
        · subst e2; rw [hri] at hr; cases hr; exact .inr (.inl ⟨rfl, rfl⟩)
        · simp only [e2, if_false] at hk
          by_cases e3 : dead = some k
          · simp [e3] at hk
          · simp only [e3, if_false] at hk
            exact .inr (.inr ⟨e, e2, e3, hk, hr⟩)
    rcases cases' k1 x1 _ _ _ hk1 hr1 with ⟨a1, a2⟩ | ⟨a1, a2⟩ | ⟨_, a2, a3, a4, a5⟩ <;> rcases cases' k2 x2 _ _ _ hk2 hr2 with ⟨c1, c2⟩ | ⟨c1, c2⟩ | ⟨_, c2, c3, c4, c5⟩
    · rw [a1, c1]
    · exact absurd (a2.symm.trans c2) hgb
    · exact absurd a2 (other k2 x2 _ _ _ c2 c3 c4 c5).2.2
    · exact absurd (c2.symm.trans a2) hgb
    · rw [a1, c1]
    · exact absurd a2 (other k2 x2 _ _ _ c2 c3 c4 c5).1
    · exact absurd c2 (other k1 x1 _ _ _ a2 a3 a4 a5).2.2
    · exact absurd c2 (other k1 x1 _ _ _ a2 a3 a4 a5).1
    · exact hs.apart k1 k2 x1 x2 _ _ _ _ _ a4 c4 a5 c5 hb1
  · rw [H.next_new, H.next_put]
    have hn : (match dead with | none => h | some j => h.del j).next = h.next := by cases dead <;> rfl
    omega
  · refine fr k hk (fun e => hn i xi 0 Ki hi hxi (by rw [e]; exact hri)) fun hv => ?_
    obtain ⟨j, y, K2, _, h4, h5, h6, _⟩ := hvb k hv
    exact hn j y 0 K2 h4 h5 h6
  · rw [hget] at hk
    by_cases e : k = h.next
    · subst e
      rw [Rho.ins_same] at hr; cases hr
      rcases hg with h1 | h1
      · obtain ⟨j, y, K2, _, h4, h5, h6, _⟩ := hvb _ h1
        exact .inr ⟨j, y, 0, K2, h4, h6, fun _ => h5⟩
      · exact .inl h1
    · rw [Rho.ins_other _ _ e] at hr
      simp only [e, if_false] at hk
      by_cases e2 : k = i
      · subst e2
        rw [hri] at hr; cases hr
        exact .inr ⟨k, xi, 0, Ki, hi, hri, fun _ => hxi⟩
      · simp only [e2, if_false] at hk
        by_cases e3 : dead = some k
        · simp [e3] at hk
        · simp only [e3, if_false] at hk
          exact .inr ⟨k, x, o1, K1, hk, hr, id⟩

/-- A block is turned and told of no more. -/
theorem PostG.gone {base : Base} {ρ : Rho} {h : H} {w w' : World} (hs : Sim ρ base h w) {j b o K : Nat} {y : Blk} {obj : Obj} (hj : h.get j = some y) (hy : y.wr = true) (hr : ρ j = some (b, o, K)) (hO : OneBlock w w' b obj) : Post base ρ h w ρ (h.del j) w' := by
  have hbase : base ≤ b := by
    obtain ⟨b', o', K', ob, hr', _, hB'⟩ := hs.blk j y hj
    rw [hr] at hr'; cases hr'
    exact hB'.base_le hy
  have hg : ∀ k x, (h.del j).get k = some x → k ≠ j ∧ h.get k = some x := by
    intro k x hk
    rw [H.get_del] at hk
    split at hk
    · cases hk
    · exact ⟨‹_›, hk⟩
  refine ⟨.refl ρ, ⟨hs.dom, by rw [hO.size]; exact hs.based, fun k hk => by rw [hO.there k (by have h9 : base.n ≤ b := hbase; omega)]; exact hs.still k hk, fun k x hk => ?_, fun k1 k2 x1 x2 b1 o1 K1 o2 K2 hk1 hk2 => ?_⟩, Nat.le_refl _, by rw [hO.size]; exact Nat.le_refl _, hO.os, hO.tape, hO.output, fun k hk hn => ?_, fun k x b1 o1 K1 hk hrk hb1 => ?_⟩
  · obtain ⟨hne, h1⟩ := hg k x hk
    obtain ⟨b1, o1, K1, ob, h2, h3, h4⟩ := hs.blk k x h1
    refine ⟨b1, o1, K1, ob, h2, ?_, h4⟩
    rw [hO.there b1 (by rintro rfl; exact hne (hs.apart k j x y _ _ _ _ _ h1 hj h2 hr hbase))]
    exact h3
  · exact hs.apart k1 k2 x1 x2 b1 o1 K1 o2 K2 (hg k1 x1 hk1).2 (hg k2 x2 hk2).2
  · exact hO.there k fun e => hn j y o K hj hy (by rw [e]; exact hr)
  · exact .inr ⟨k, x, o1, K1, (hg k x hk).2, hrk, id⟩

/-! ### the two functions, of memory -/
def selfOk (i : Nat) : Value → Bool
  | .pointer none => true
  | .pointer (some ⟨j, 0, none⟩) => Nat.beq j i
  | _ => false
def isInt : Value → Bool
  | .int _ _ => true
  | _ => false
def byteOk : Value → Bool
  | .int .u8 n => decide (0 ≤ n ∧ n < 256)
  | _ => false
def intsOnly (l : List Value) : Bool := l.all isInt
def writeI (T u : Nat) : List Value → H → Option (Value × H)
  | [.pointer (some ⟨i, 0, none⟩), .string s], h => match h.get i with
    | some (.typed T' [p, c] true) => bif Nat.beq T' T && selfOk i p && Nat.blt 0 s.size then
        match c with
        | .slice none 0 0 => ifK (s.size ≤ 1099511627776) (some (.tuple #[.int .i64 s.size, .nilIface], (h.put i (.typed T [.pointer (some ⟨i, 0, none⟩), .slice (some ⟨h.next, 0, none⟩) s.size 1] true)).new (.typed u (Lib.strCells s) false)))
        | .slice (some ⟨j, 0, none⟩) n 1 => match h.get j with
          | some (.typed u' cs _) => bif Nat.beq u' u && !(Nat.beq j i) && Nat.beq cs.length n && intsOnly cs then
              ifK (n + s.size ≤ 1099511627776) (some (.tuple #[.int .i64 s.size, .nilIface], ((h.del j).put i (.typed T [.pointer (some ⟨i, 0, none⟩), .slice (some ⟨h.next, 0, none⟩) (n + s.size) 1] true)).new (.typed u (cs ++ Lib.strCells s) false)))
            else none
          | _ => none
        | _ => none
      else none
    | _ => none
  | _, _ => none
def textI (T u : Nat) : List Value → H → Option (Value × H)
  | [.pointer (some ⟨i, 0, none⟩)], h => match h.get i with
    | some (.typed T' [_, .slice (some ⟨j, 0, none⟩) n 1] true) => bif Nat.beq T' T && Nat.blt 0 n && !(Nat.beq j i) then
        match h.get j with
        | some (.typed u' cs _) => bif Nat.beq u' u && Nat.beq cs.length n then match bytesA cs .empty with
            | some s => bif cs.all byteOk then some (.string s, (h.del j).del i) else none
            | none => none
          else none
        | _ => none
      else none
    | _ => none
  | _, _ => none

theorem VR.same_int {ρ : Rho} {v v' : Value} (h : VR ρ v v') (hv : isInt v = true) : v' = v := by
  cases h <;> first | rfl | simp [isInt] at hv
theorem ints_same {ρ : Rho} {cs : List Value} {C : Array Value} (hi : intsOnly cs = true) (hc : ∀ (j : Nat) v, cs[j]? = some v → ∃ v', C[j]? = some v' ∧ VR ρ v v') (_ : cs.length ≤ C.size) : C.toList.take cs.length = cs := by
  apply List.ext_getElem?
  intro j
  rw [List.getElem?_take]
  split
  · rename_i hj
    have h1 := List.getElem?_eq_getElem hj
    obtain ⟨v', h2, h3⟩ := hc j _ h1
    have h4 := List.all_eq_true.1 hi _ (List.getElem_mem hj)
    rw [h3.same_int h4] at h2
    rw [h1, ← h2]; simp
  · rename_i hj
    rw [List.getElem?_eq_none (by omega)]

theorem ints_vr {ρ : Rho} {v : Value} (hv : isInt v = true) : v.oneCell' = true ∧ VR ρ v v ∧ Exact ρ v v := by
  cases v <;> simp [isInt] at hv
  exact ⟨rfl, .int _ _, fun i o n st e => by cases e⟩
theorem bytes_blk {ρ : Rho} {base : Base} {u g cap : Nat} {cs : List Value} {cur : Array Value} (hi : intsOnly cs = true) (ht : cur.toList.take cs.length = cs) (hb : base ≤ g) (hc : cur.size = cap) (hl : cs.length ≤ cap) :
    BlkR ρ base (.typed u cs false) g 0 cap (.cells cur u (0, 0)) := by
  refine ⟨fun j v hj => ?_, hb, hc, hl, rfl, rfl, rfl, fun h => by cases h⟩
  obtain ⟨h1, h2, h3⟩ := ints_vr (ρ := ρ) (List.all_eq_true.1 hi v (List.mem_of_getElem? hj))
  refine ⟨h1, v, ?_, h2, h3⟩
  rw [← ht, List.getElem?_take] at hj
  split at hj
  · simpa using hj
  · cases hj
theorem head_blk {ρ : Rho} {base : Base} {T i b nx g cap n : Nat} (hi : ρ i = some (b, 0, 2)) (hn : ρ nx = some (g, 0, cap)) (hb : base ≤ b) (hl : n ≤ cap) (hm : cap ≤ maxLen) :
    BlkR ρ base (.typed T [.pointer (some ⟨i, 0, none⟩), .slice (some ⟨nx, 0, none⟩) n 1] true) b 0 2 (.cells #[.pointer (some ⟨b, 0, none⟩), .slice (some ⟨g, 0, none⟩) n cap] T (0, 0)) := by
  refine ⟨fun j v hj => ?_, hb, rfl, by simp, rfl, rfl, rfl, fun _ => rfl⟩
  match j, hj with
  | 0, hj =>
    cases hj
    refine ⟨rfl, _, rfl, ?_, fun i o n st e => by cases e⟩
    have := VR.ptr (o := 0) hi
    simpa using this
  | 1, hj =>
    cases hj
    refine ⟨rfl, _, rfl, ?_, fun i o n' st e => ?_⟩
    · have := VR.slice (o := 0) (st := 1) (len := n) (cap := cap) hn hl (by omega)
      simpa using this
    · cases e
      exact ⟨g, 0, cap, by rw [Nat.mul_one]; exact hn, rfl, hl, hm⟩
  | j + 2, hj => simp at hj
theorem intsOnly_str (s : ByteArray) : intsOnly (Lib.strCells s) = true := by
  unfold intsOnly Lib.strCells
  rw [List.all_eq_true]
  intro v hv
  obtain ⟨b, _, rfl⟩ := List.mem_map.1 hv
  rfl
theorem intsOnly_append {a b : List Value} (ha : intsOnly a = true) (hb : intsOnly b = true) : intsOnly (a ++ b) = true := by
  unfold intsOnly at *
  rw [List.all_append, ha, hb]; rfl

/-- What a builder's block is in the world. -/
theorem bld_obj {ρ : Rho} {base : Base} {h : H} {w : World} (hs : Sim ρ base h w) {i T : Nat} {p c : Value} (hi : h.get i = some (.typed T [p, c] true)) :
    ∃ b p' v', ρ i = some (b, 0, 2) ∧ w.heap[b]? = some (.cells #[p', v'] T (0, 0)) ∧ VR ρ p p' ∧ VR ρ c v' ∧ Exact ρ c v' ∧ base ≤ b := by
  obtain ⟨b, o, K, obj, h1, h2, h3⟩ := hs.blk i _ hi
  cases obj with
  | cells C e fr =>
    obtain ⟨q1, q2, q3, q4, rfl, rfl, rfl, q8⟩ := h3
    have hK : K = 2 := q8 rfl
    subst hK
    obtain ⟨_, p', r1, r2, _⟩ := q1 0 p rfl
    obtain ⟨_, v', s1, s2, s3⟩ := q1 1 c rfl
    have hC : C = #[p', v'] := by
      obtain ⟨l⟩ := C
      match l, q3 with
      | [x, y], _ =>
        simp at r1 s1
        rw [r1, s1]
    subst hC
    exact ⟨b, p', v', h1, h2, r2, s2, s3, q2⟩
  | _ => exact h3.elim
/-- .. and its bytes' block. -/
theorem buf_obj {ρ : Rho} {base : Base} {h : H} {w : World} (hs : Sim ρ base h w) {j u b cap : Nat} {c0 : Nat} {cs : List Value} {x : Bool} (hj : h.get j = some (.typed u cs x)) (hr : ρ j = some (b, c0, cap)) (hi : intsOnly cs = true) :
    c0 = 0 ∧ ∃ cur, w.heap[b]? = some (.cells cur u (0, 0)) ∧ cur.size = cap ∧ cs.length ≤ cap ∧ cur.toList.take cs.length = cs ∧ base ≤ b := by
  obtain ⟨b', o, K, obj, h1, h2, h3⟩ := hs.blk j _ hj
  rw [hr] at h1; cases h1
  cases obj with
  | cells C e fr =>
    obtain ⟨q1, q2, q3, q4, rfl, rfl, rfl, q8⟩ := h3
    refine ⟨rfl, C, h2, q3, q4, ints_same (ρ := ρ) hi (fun j v hj => ?_) (by omega), q2⟩
    obtain ⟨_, v', r1, r2, _⟩ := q1 j v hj
    exact ⟨v', r1, r2⟩
  | _ => exact h3.elim
theorem self_ok {ρ : Rho} {i b K : Nat} {p p' : Value} (hp : selfOk i p = true) (hv : VR ρ p p') (hr : ρ i = some (b, 0, K)) : p' = .pointer none ∨ p' = .pointer (some ⟨b, 0, none⟩) := by
  unfold selfOk at hp
  split at hp
  · cases hv; exact .inl rfl
  · rename_i j
    have := Nat.eq_of_beq_eq_true hp
    subst this
    cases hv with
    | ptr h => rw [hr] at h; cases h; exact .inr rfl
  · cases hp

theorem writeI_ok {P : Program} {base : Base} {f T u : Nat} (hw : WsOK P f T u) : StandsFor P base f (writeI T u) := by
  intro args h v h' hg
  unfold writeI at hg
  split at hg
  · rename_i i s
    split at hg
    · rename_i T' p c hi
      cases hc : (Nat.beq T' T && selfOk i p && Nat.blt 0 s.size) with
      | false => rw [hc] at hg; cases hg
      | true =>
        rw [hc] at hg
        simp only [cond_true] at hg
        simp only [Bool.and_eq_true] at hc
        obtain ⟨⟨hT, hp⟩, hs0⟩ := hc
        have hT := Nat.eq_of_beq_eq_true hT
        subst hT
        have hs0 : 0 < s.size := by rw [Nat.blt_eq] at hs0; exact hs0
        have res : ∀ ρ, VR ρ (.tuple #[.int .i64 s.size, .nilIface]) (.tuple #[.int .i64 s.size, .nilIface]) := fun ρ => .tuple' (.cons (.int _ _) (.cons .inil (.nil _)))
        split at hg
        · obtain ⟨hb, h1⟩ := ifK_some hg
          cases h1
          refine ⟨by simp [H.next_new, H.next_put], fun ρ w args' hs hv => ?_⟩
          obtain ⟨a1, a2, rfl, r1, r2⟩ := VRs.two hv
          cases r2
          obtain ⟨b, p', v', hri, hwb, rp, rc, re, hbs⟩ := bld_obj hs hi
          have ea1 : a1 = .pointer (some ⟨b, 0, none⟩) := by
            cases r1 with
            | ptr h => rw [hri] at h; cases h; rfl
          subst ea1
          cases rc
          refine (hw b p' (.slice none 0 0) 0 [] s w hwb (self_ok hp rp hri) (World.ownsRow_nil w 0 u 1) (by simp [Value.ownBlock]) hs0 (by omega)).mono fun e w' hx => ?_
          obtain ⟨he, g, cap, cur, q1, q2, q3, q4, q5, q6, q7, q8, q9, q10, q11, q12, q13⟩ := hx
          rw [Nat.zero_add] at q1 q3 q6
          rw [List.nil_append] at q6
          have hsz : w.heap.size ≤ g := by
            rcases q8 with h | h
            · simp [Value.ownBlock] at h
            · exact h
          have hin : i ≠ h.next := Nat.ne_of_lt (hs.get_next hi)
          refine ⟨ρ.ins h.next (g, 0, cap), _, he, ?_, res _⟩
          exact PostG.bld (vb := none) (dead := none) hs hi rfl hri (.inl ⟨rfl, rfl⟩) q1 q2 q7 (.inr hsz)
            (head_blk (by rw [Rho.ins_other _ _ hin]; exact hri) (Rho.ins_same _ _ _) hbs q3 q4) rfl
            (bytes_blk (intsOnly_str s) (by rw [Lib.strCells_length]; exact q6) (Nat.le_trans hs.based hsz) q5 (by rw [Lib.strCells_length]; exact q3)) rfl q9 q10 q11 q12 (fun k h1 h2 h3 => q13 k h1 h2 (by simp [Value.ownBlock]))
        · rename_i j n
          split at hg
          · rename_i u' cs x hj
            cases hc : (Nat.beq u' u && !(Nat.beq j i) && Nat.beq cs.length n && intsOnly cs) with
            | false => rw [hc] at hg; cases hg
            | true =>
              rw [hc] at hg
              simp only [cond_true] at hg
              simp only [Bool.and_eq_true, Bool.not_eq_true'] at hc
              obtain ⟨⟨⟨hu, hji⟩, hn⟩, hints⟩ := hc
              have hu := Nat.eq_of_beq_eq_true hu
              have hn := Nat.eq_of_beq_eq_true hn
              have hji := Nat.ne_of_beq_eq_false hji
              subst hu hn
              obtain ⟨hb, h1⟩ := ifK_some hg
              cases h1
              refine ⟨by simp [H.next_new, H.next_put, H.next_del], fun ρ w args' hs hv => ?_⟩
              obtain ⟨a1, a2, rfl, r1, r2⟩ := VRs.two hv
              cases r2
              obtain ⟨b, p', v', hri, hwb, rp, rc, re, hbs⟩ := bld_obj hs hi
              have ea1 : a1 = .pointer (some ⟨b, 0, none⟩) := by
                cases r1 with
                | ptr h => rw [hri] at h; cases h; rfl
              subst ea1
              obtain ⟨b2, c2, cap2, hrj, rfl, hnc, hcm⟩ := re j 0 cs.length 1 rfl
              rw [Nat.mul_one] at hrj
              obtain ⟨rfl, cur2, hw2, hsz2, hle2, htk2, hb2s⟩ := buf_obj hs hj hrj hints
              have hbb : b2 ≠ b := by
                rintro rfl
                exact hji (hs.apart j i _ _ _ _ _ _ _ hj hi hrj hri hbs)
              refine (hw b p' _ cs.length cs s w hwb (self_ok hp rp hri) ⟨by simp, .inr ⟨b2, cap2, cur2, rfl, Nat.zero_le _, hw2, hnc, hcm, by omega, by rw [Nat.mul_one]; exact htk2⟩⟩ (by simp [Value.ownBlock]; exact hbb) hs0 hb).mono fun e w' hx => ?_
              obtain ⟨he, g, cap, cur, q1, q2, q3, q4, q5, q6, q7, q8, q9, q10, q11, q12, q13⟩ := hx
              have hg' : some b2 = some g ∨ w.heap.size ≤ g := q8
              have hbg : base ≤ g := by
                rcases hg' with h | h
                · cases h; exact hb2s
                · exact Nat.le_trans hs.based h
              have hin : i ≠ h.next := Nat.ne_of_lt (hs.get_next hi)
              refine ⟨ρ.ins h.next (g, 0, cap), _, he, ?_, res _⟩
              have hlen : (cs ++ Lib.strCells s).length = cs.length + s.size := by rw [List.length_append, Lib.strCells_length]
              exact PostG.bld (vb := some b2) (dead := some j) hs hi rfl hri (.inr ⟨j, b2, _, cap2, rfl, rfl, hj, rfl, hrj, hji⟩) q1 q2 q7 hg'
                (head_blk (by rw [Rho.ins_other _ _ hin]; exact hri) (Rho.ins_same _ _ _) hbs q3 q4) rfl
                (bytes_blk (intsOnly_append hints (intsOnly_str s)) (by rw [hlen]; exact q6) hbg q5 (by rw [hlen]; exact q3)) rfl q9 q10 q11 q12 (fun k h1 h2 h3 => q13 k h1 h2 h3)
          · cases hg
        · cases hg
    · cases hg
  · cases hg

theorem strCells_push (a : ByteArray) (b : UInt8) : Lib.strCells (a.push b) = Lib.strCells a ++ [.int .u8 b.toNat] := by
  unfold Lib.strCells
  simp [ByteArray.push]
theorem bytesA_cells : ∀ (cs : List Value) (a s : ByteArray), cs.all byteOk = true → bytesA cs a = some s → Lib.strCells s = Lib.strCells a ++ cs := by
  intro cs
  induction cs with
  | nil => intro a s _ h; simp [bytesA] at h; subst h; simp
  | cons c cs ih =>
    intro a s ho h
    rw [List.all_cons, Bool.and_eq_true] at ho
    obtain ⟨hc, h3⟩ := ho
    cases c with
    | int k n =>
      cases k <;> simp [byteOk] at hc
      obtain ⟨h1, h2⟩ := hc
      have := ih _ _ h3 h
      rw [this, strCells_push, List.append_assoc]
      have e : ((UInt8.ofNat n.toNat).toNat : Int) = n := by
        rw [UInt8.toNat_ofNat']
        omega
      rw [e]; rfl
    | _ => simp [byteOk] at hc
theorem bytes_ints {cs : List Value} (h : cs.all byteOk = true) : intsOnly cs = true := by
  unfold intsOnly
  rw [List.all_eq_true] at h ⊢
  intro v hv
  have := h v hv
  cases v <;> first | rfl | simp [byteOk] at this
theorem textI_ok {P : Program} {base : Base} {f T u : Nat} (hw : StrOK P f T u) : StandsFor P base f (textI T u) := by
  intro args h v h' hg
  unfold textI at hg
  split at hg
  · rename_i i
    split at hg
    · rename_i T' p j n hi
      cases hc : (Nat.beq T' T && Nat.blt 0 n && !(Nat.beq j i)) with
      | false => rw [hc] at hg; cases hg
      | true =>
        rw [hc] at hg
        simp only [cond_true] at hg
        simp only [Bool.and_eq_true, Bool.not_eq_true'] at hc
        obtain ⟨⟨hT, hn0⟩, hji⟩ := hc
        have hT := Nat.eq_of_beq_eq_true hT
        have hji := Nat.ne_of_beq_eq_false hji
        have hn0 : 0 < n := by rw [Nat.blt_eq] at hn0; exact hn0
        subst hT
        split at hg
        · rename_i u' cs x hj
          cases hc : (Nat.beq u' u && Nat.beq cs.length n) with
          | false => rw [hc] at hg; cases hg
          | true =>
            rw [hc] at hg
            simp only [cond_true] at hg
            simp only [Bool.and_eq_true] at hc
            have hu := Nat.eq_of_beq_eq_true hc.1
            have hn := Nat.eq_of_beq_eq_true hc.2
            subst hu hn
            split at hg
            · rename_i s hby
              cases hic : cs.all byteOk with
              | false => rw [hic] at hg; cases hg
              | true =>
              rw [hic] at hg
              cases hg
              have hcs : cs = Lib.strCells s := by rw [bytesA_cells cs .empty s hic hby]; rfl
              refine ⟨by simp [H.next_del], fun ρ w args' hs hv => ?_⟩
              obtain ⟨a1, rfl, r1⟩ := VRs.one hv
              obtain ⟨b, p', v', hri, hwb, rp, rc, re, hbs⟩ := bld_obj hs hi
              have ea1 : a1 = .pointer (some ⟨b, 0, none⟩) := by
                cases r1 with
                | ptr h => rw [hri] at h; cases h; rfl
              subst ea1
              obtain ⟨b2, c2, cap2, hrj, rfl, hnc, hcm⟩ := re j 0 cs.length 1 rfl
              rw [Nat.mul_one] at hrj
              obtain ⟨rfl, cur2, hw2, hsz2, hle2, htk2, hb2s⟩ := buf_obj hs hj hrj (bytes_ints hic)
              have hlen : cs.length = s.data.toList.length := by rw [hcs, Lib.strCells_length]; rfl
              have hwb' : w.heap[b]? = some (.cells #[p', .slice (some ⟨b2, 0, none⟩) s.data.toList.length cap2] T' (0, 0)) := by rw [← hlen]; exact hwb
              refine (hw b p' b2 cap2 cur2 s.data.toList w hwb' hw2 (by intro e; rw [e] at hlen; simp at hlen; rw [hlen] at hn0; simp at hn0) (by omega) hcm hsz2 (by rw [← hlen, htk2, hcs]; rfl)).mono fun e w' hx => ?_
              obtain ⟨he, rfl⟩ := hx
              have hO : OneBlock w (w.drew.freeze ⟨b2, 0, none⟩ s.data.toList.length) b2 (.cells cur2 u' (0, s.data.toList.length)) := by
                have hne : s.data.toList.length ≠ 0 := by omega
                have hlt : b2 < w.heap.size := (Array.getElem?_eq_some_iff.1 hw2).1
                unfold World.freeze
                rw [if_neg hne]
                refine ⟨rfl, rfl, rfl, by show (Array.modify w.heap b2 _).size = w.heap.size; rw [Array.size_modify], ?_, fun k hk => ?_⟩
                · show (Array.modify w.heap b2 _)[b2]? = _
                  rw [Array.getElem?_modify, if_pos rfl, hw2]
                  simp
                · show (Array.modify w.heap b2 _)[k]? = _
                  rw [Array.getElem?_modify, if_neg (fun e => hk e.symm)]
              have p1 := PostG.gone hs hj rfl hrj hO
              refine ⟨ρ, .string s, ?_, p1.trans (PostG.del p1.sim i), .string s⟩
              rw [he]
            · cases hg
        · cases hg
    · cases hg
  · cases hg
end Go.Ev
