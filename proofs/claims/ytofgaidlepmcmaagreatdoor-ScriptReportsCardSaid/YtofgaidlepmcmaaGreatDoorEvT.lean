/-
  Texts by their bytes: what the evaluator's readings come to.
-/
import Derived.Test.YtofgaidlepmcmaaGreatDoorEvQ
import Derived.Test.YtofgaidlepmcmaaGreatDoorEvR
import Derived.Test.YtofgaidlepmcmaaGreatDoorEvS
import Derived.Laws.RangeAny
import Derived.Laws.StructEq
namespace Go.Ev
open Go Go.RowKit

theorem toList_loop (s : ByteArray) : ∀ (m i : Nat) (r : List UInt8), s.size - i = m → i ≤ s.size → ByteArray.toList.loop s i r = r.reverse ++ s.data.toList.drop i := by
  intro m
  induction m with
  | zero =>
    intro i r h hi
    unfold ByteArray.toList.loop
    rw [if_neg (by omega), List.drop_of_length_le (by have : s.size = s.data.toList.length := Lib.size_eq s; omega), List.append_nil]
  | succ m ih =>
    intro i r h hi
    unfold ByteArray.toList.loop
    rw [if_pos (by omega), ih (i + 1) _ (by omega) (by omega)]
    have hl : s.size = s.data.toList.length := Lib.size_eq s
    have hg : s.get! i = s.data.toList[i]'(by omega) := by
      show s.get! i = _
      cases s with
      | mk d => 
        simp [ByteArray.get!] at *
        rw [getElem!_pos d i (by have := hl; simp [ByteArray.size] at *; omega)]
    rw [List.reverse_cons, hg, List.append_assoc]
    congr 1
    rw [List.singleton_append]
    exact (List.drop_eq_getElem_cons (by omega)).symm
theorem toList_eq (s : ByteArray) : s.toList = s.data.toList := by
  unfold ByteArray.toList
  rw [toList_loop s _ 0 [] rfl (Nat.zero_le _)]
  simp
theorem txt_toList (l : List UInt8) : (txt l).toList = l := by rw [toList_eq]; simp [txt]
theorem txt_get {l : List UInt8} {k : Nat} {b : UInt8} (h : l[k]? = some b) : (txt l)[k]? = some b := by
  have hk := (List.getElem?_eq_some_iff.1 h).1
  have : k < (txt l).size := by rw [txt_size]; exact hk
  rw [getElem?_pos (txt l) k this]
  have e : (txt l)[k] = l.toArray[k]'(by simpa using hk) := rfl
  rw [e]
  simpa using (List.getElem?_eq_some_iff.1 h).2
theorem idx_mk {R : Type} {l : List UInt8} {k : Nat} {b : UInt8} (h : l[k]? = some b) (K : Int → Option R) : idxS (txt l) (k : Int) K = K (b.toNat : Int) := by
  unfold idxS
  rw [if_pos (by omega)]
  have : ((k : Int)).toNat = k := by omega
  rw [this, txt_get h]
theorem next_mk {R : Type} {h : H} {i k : Nat} {l : List UInt8} (a : Has h i (.iter (txt l) k)) (T : Nat → Int → H → Option R) (F : Option R) :
    nextK h i T F = if k < l.length then T k (Utf8.decode (txt l) k).1 (h.put i (.iter (txt l) (k + (Utf8.decode (txt l) k).2))) else F := by
  unfold nextK
  rw [a.2]
  simp only [txt_size]
theorem decode_low {l : List UInt8} {k : Nat} {b : UInt8} (h : l[k]? = some b) (hb : b.toNat < 128) : Utf8.decode (txt l) k = (b.toNat, 1) := by
  have hk := (List.getElem?_eq_some_iff.1 h).1
  have h1 : k < (txt l).size := by rw [txt_size]; exact hk
  have h2 := txt_get h
  rw [getElem?_pos (txt l) k h1] at h2
  have h3 : (txt l)[k] = b := by simpa using h2
  have := decode_ascii (txt l) k h1 (by rw [h3]; exact hb)
  rw [this, h3]
theorem decode_high' {l : List UInt8} {k : Nat} {b : UInt8} (h : l[k]? = some b) (hb : 128 ≤ b.toNat) : 128 ≤ (Utf8.decode (txt l) k).1 := by
  have hk := (List.getElem?_eq_some_iff.1 h).1
  have h1 : k < (txt l).size := by rw [txt_size]; exact hk
  have h2 := txt_get h
  rw [getElem?_pos (txt l) k h1] at h2
  have h3 : (txt l)[k] = b := by simpa using h2
  exact (decode_high (txt l) k h1 (by rw [h3]; exact hb)).1
theorem txt_extract (l : List UInt8) (a b : Nat) : (txt l).extract a b = txt ((l.take b).drop a) := by
  rw [Lib.extract_eq]
  simp [txt, List.drop_take]
theorem slice_txt {R : Type} {P : Program} {t : TypeId} (hu : P.underlying t = some .string) {l : List UInt8} {a b : Nat} (ka kb : IntKind) (hab : a ≤ b) (hb : b ≤ l.length) (K : Value → Option R) :
    sliceA P t (.string (txt l)) (some (.int ka a)) (some (.int kb b)) K = K (.string (txt ((l.take b).drop a))) := by
  unfold sliceA
  simp only [hu, castS_mk, boundK]
  rw [ifK_pos (by rw [txt_size]; omega), Int.toNat_natCast, Int.toNat_natCast, txt_extract]
theorem slice_txt_from {R : Type} {P : Program} {t : TypeId} (hu : P.underlying t = some .string) {l : List UInt8} {a : Nat} (ka : IntKind) (ha : a ≤ l.length) (K : Value → Option R) :
    sliceA P t (.string (txt l)) (some (.int ka a)) none K = K (.string (txt (l.drop a))) := by
  unfold sliceA
  simp only [hu, castS_mk, boundK]
  rw [ifK_pos (by rw [txt_size]; omega), Int.toNat_natCast, Int.toNat_natCast, txt_extract, txt_size, List.take_length]
theorem split_mk {l : List UInt8} {c : UInt8} (hl : l.length < 1000000) (h : H) : splitI [.string (txt l), .string (txt [c])] h =
    some (.slice (some ⟨h.next, 0, none⟩) (pieces c l).length 1, h.new (.cells ((pieces c l).map fun p => .string (txt p)) false)) := by
  show (bif Nat.blt (txt l).size 1000000 then some (Value.slice (some ⟨h.next, 0, none⟩) (pieces c l).length 1, h.new (.cells ((pieces c l).map fun p => .string (txt p)) false)) else none) = _
  rw [show Nat.blt (txt l).size 1000000 = true by rw [Nat.blt_eq, txt_size]; omega, cond_true]
theorem strsOf_mk (ws : List (List UInt8)) : strsOf (ws.map fun w => Value.string (txt w)) = some ws := by
  induction ws with
  | nil => rfl
  | cons w ws ih => simp only [List.map_cons, strsOf, ih]; simp [txt]
theorem join_mk {h : H} {a : Option Addr} {st : Nat} {ws : List (List UInt8)} {sep : List UInt8} (S : Sl (fun w => [Value.string (txt w)]) 1 h a st ws) (hne : ws ≠ []) (hn : ws.length < 1000000) (hl : (joined sep ws).length ≤ 140737488355328) :
    joinI [.slice a ws.length st, .string (txt sep)] h = some (.string (txt (joined sep ws)), h) := by
  have hs := S.src (by omega) (fun _ _ => rfl) (fun _ cs => some cs)
  have hf : ws.flatMap (fun w => [Value.string (txt w)]) = ws.map fun w => Value.string (txt w) := by
    clear S hne hn hl hs
    induction ws with
    | nil => rfl
    | cons w ws ih => rw [List.flatMap_cons, ih]; rfl
  rw [hf] at hs
  rcases S with ⟨h1, _, _⟩ | ⟨rfl, j, o, rfl, _⟩
  · exact absurd h1 hne
  · have hp : 0 < ws.length := List.length_pos_iff.2 hne
    obtain ⟨m, hm⟩ : ∃ m, ws.length = m + 1 := ⟨ws.length - 1, by omega⟩
    have hld : ldCells h j o ws.length = some (ws.map fun w => Value.string (txt w)) := by
      rw [hm] at hs ⊢
      simp only [srcCells, ifK_true, Nat.mul_one] at hs
      obtain ⟨cs, h1, h2⟩ := optK_some hs
      cases h2
      exact h1
    have hsep : (txt sep).data.toList = sep := by simp [txt]
    unfold joinI
    rw [hm]
    rw [hm] at hld
    simp only [hld, optK_mk, strsOf_mk, hsep]
    rw [ifK_pos ⟨trivial, by omega⟩, ifK_pos hl]
theorem itoa_mk {n : Int} (h : H) (h0 : -9223372036854775808 ≤ n) (h1 : n ≤ 9223372036854775807) : itoaI [.int .i64 n] h = some (.string (txt (itoaL n)), h) := by
  show ifK (-9223372036854775808 ≤ n ∧ n ≤ 9223372036854775807) (some (Value.string (txt (itoaL n)), h)) = _
  rw [ifK_pos ⟨h0, h1⟩]
theorem digits_mk {n : Int} (h : H) (h0 : 0 ≤ n) (h1 : n ≤ 9223372036854775807) : digitsI [.int .i64 n] h = some (.string (txt (digs 20 n.toNat)), h) := by
  show ifK (0 ≤ n ∧ n ≤ 9223372036854775807) (some (Value.string (txt (digs 20 n.toNat)), h)) = _
  rw [ifK_pos ⟨h0, h1⟩]
theorem itoaL_nat {n : Int} (h0 : 0 ≤ n) : itoaL n = digs 20 n.toNat := by
  unfold itoaL
  rw [decide_eq_false (by omega), cond_false]
theorem digs_len : ∀ (f u : Nat), (digs f u).length ≤ f := by
  intro f
  induction f with
  | zero => intro u; simp [digs]
  | succ f ih =>
    intro u
    rw [digs]
    cases Nat.blt u 10 with
    | true => simp
    | false => simp only [cond_false, List.length_append, List.length_singleton]; have := ih (u / 10); omega
theorem joined_two (sep y z : List UInt8) (zs : List (List UInt8)) : joined sep (y :: z :: zs) = y ++ sep ++ joined sep (z :: zs) := by
  rw [joined]; simp
theorem joined_snoc (sep : List UInt8) (x : List UInt8) : ∀ (xs : List (List UInt8)), xs ≠ [] → joined sep (xs ++ [x]) = joined sep xs ++ sep ++ x := by
  intro xs
  induction xs with
  | nil => intro h; exact absurd rfl h
  | cons y ys ih =>
    intro _
    cases ys with
    | nil => simp [joined]
    | cons z zs =>
      have := ih (by simp)
      rw [List.cons_append] at this
      rw [List.cons_append, List.cons_append, joined_two, this, joined_two]
      simp [List.append_assoc]
theorem joined_len (sep : List UInt8) (m : Nat) : ∀ (xs : List (List UInt8)), (∀ x ∈ xs, x.length ≤ m) → (joined sep xs).length ≤ xs.length * (m + sep.length) := by
  intro xs
  induction xs with
  | nil => intro _; simp [joined]
  | cons y ys ih =>
    intro h
    have hy := h y (List.mem_cons_self ..)
    have := ih fun x hx => h x (List.mem_cons_of_mem _ hx)
    rw [List.length_cons, Nat.succ_mul]
    cases ys with
    | nil => simp [joined]; omega
    | cons z zs =>
      rw [joined_two]
      simp only [List.length_append]; omega

/-! ### structs that are compared -/
section
variable {P : Program}
theorem pureSem_ite {α : Type} {c : Prop} [Decidable c] (s t : Sem α) : pureSem P (if c then s else t) = if c then pureSem P s else pureSem P t := by split <;> rfl
theorem pure_equal_struct (d : Nat) {t : TypeId} {fs : Array Field} (xs ys : Array Value) (ht : pureSem P (underlying t) = some (.struct fs)) (hp : P.stoodInHeld t = false) :
    pureSem P (Op.equalIn (d + 1) t (.agg xs) (.agg ys)) = pureSem P (Op.eqFields d xs ys fs.toList) := by
  have hprog : ∀ {α} (k : Program → Sem α), pureSem P (program >>= k) = pureSem P (k P) := fun k => rfl
  simp only [Op.equalIn, pureSem_bind, ht, Option.bind_some, hprog]
  simp only [hp, Bool.false_eq_true, if_false, pureSem_bind]
  rw [← Array.forIn_toList]
  generalize fs.toList = fs
  clear ht
  induction fs with
  | nil => rfl
  | cons f fs ih =>
    simp only [List.forIn_cons, Op.eqFields, pureSem_bind, pureSem_ite]
    split
    · cases pureSem P (part f.type xs f.offset) with
      | none => rfl
      | some a =>
        simp only [Option.bind_some]
        cases pureSem P (part f.type ys f.offset) with
        | none => rfl
        | some b =>
          simp only [Option.bind_some]
          cases pureSem P (Op.equalIn d f.type a b) with
          | none => rfl
          | some r =>
            cases r
            · rfl
            · simp only [Option.bind_some, Bool.not_true, Bool.false_eq_true, if_false]
              exact ih
    · exact ih
theorem pure_eqf_nil (d : Nat) (xs ys : Array Value) : pureSem P (Op.eqFields d xs ys []) = some true := rfl
theorem pure_eqf_cons {d : Nat} {xs ys : Array Value} {f : Field} {fs : List Field} {a b : Value} {r s : Bool} (hn : (f.name == "_") = false) (ha : pureSem P (part f.type xs f.offset) = some a)
    (hb : pureSem P (part f.type ys f.offset) = some b) (he : pureSem P (Op.equalIn d f.type a b) = some r) (ht : pureSem P (Op.eqFields d xs ys fs) = some s) : pureSem P (Op.eqFields d xs ys (f :: fs)) = some (r && s) := by
  simp only [Op.eqFields]
  rw [if_pos (by simpa using hn)]
  simp only [pureSem_bind, ha, hb, he, Option.bind_some, pureSem_ite, ht]
  cases r <;> rfl
end
end Go.Ev
