/-
  ScriptReports: the builder's steps.
-/
import Derived.Test.YtofgaidlepmcmaaGreatDoorN31
namespace Go.Ev
open Go Go.Proofs

theorem bytesA_str : ∀ (l : List UInt8) (acc : ByteArray), bytesA (l.map fun b => Value.int .u8 (b.toNat : Int)) acc = some (acc ++ txt l)
  | [], acc => by simp [bytesA, txt, ByteArray.ext_iff]
  | b :: l, acc => by
    rw [List.map_cons, bytesA, bytesA_str l]
    have : UInt8.ofNat (b.toNat : Int).toNat = b := by rw [Int.toNat_natCast]; exact UInt8.ofNat_toNat
    rw [this]
    simp [txt, ByteArray.ext_iff]
theorem byteOk_str (l : List UInt8) : (l.map fun b => Value.int .u8 (b.toNat : Int)).all byteOk = true := by
  rw [List.all_eq_true]
  intro x hx
  obtain ⟨b, _, rfl⟩ := List.mem_map.1 hx
  have := b.toNat_lt
  simp [byteOk]; omega
theorem strCells_txt (l : List UInt8) : Lib.strCells (txt l) = l.map fun b => Value.int .u8 (b.toNat : Int) := rfl

theorem beq_no {j i : Nat} (h : j ≠ i) : Nat.beq j i = false := by
  cases hb : Nat.beq j i with
  | false => rfl
  | true => exact absurd (Nat.eq_of_beq_eq_true hb) h

/-- A builder that holds these bytes. -/
def BldAt (h0 h : H) (i : Nat) (bs : List UInt8) : Prop :=
  h0.next ≤ i ∧ ((bs = [] ∧ Has h i (.typed 48 [.pointer none, .slice none 0 0] true)) ∨
    (bs ≠ [] ∧ ∃ j, h0.next ≤ j ∧ j ≠ i ∧ Has h i (.typed 48 [.pointer (some ⟨i, 0, none⟩), .slice (some ⟨j, 0, none⟩) bs.length 1] true) ∧ Has h j (.typed 5 (bs.map fun b => Value.int .u8 (b.toNat : Int)) false)))
section
variable {r n : Nat} {h h0 m : H}
theorem BldAt.ext {i : Nat} {bs : List UInt8} (B : BldAt h0 h i bs) (E : Ext h m) : BldAt h0 m i bs := by
  obtain ⟨h1, ⟨h2, h3⟩ | ⟨h2, j, h3, h4, h5, h6⟩⟩ := B
  · exact ⟨h1, .inl ⟨h2, h3.ext E⟩⟩
  · exact ⟨h1, .inr ⟨h2, j, h3, h4, h5.ext E, h6.ext E⟩⟩

theorem c_ws {i : Nat} {bs s : List UInt8} (E : Ext h0 h) (B : BldAt h0 h i bs) (hs : s ≠ []) (hl : bs.length + s.length ≤ 1000000000000) :
    ∃ h', ev31 r (n + 1) 11 [.pointer (some ⟨i, 0, none⟩), .string (txt s)] h = some (.tuple #[.int .i64 (s.length : Int), .nilIface], h') ∧ Ext h0 h' ∧ BldAt h0 h' i (bs ++ s) ∧ ∀ k c ro, Has h k (.cells c ro) → Has h' k (.cells c ro) := by
  have e : ∀ x y, ev31 r (n + 1) 11 [x, y] h = writeI 48 5 [x, y] h := fun x y => by kernel_rfl
  rw [e]
  have hp : 0 < s.length := List.length_pos_iff.2 hs
  have hb : Nat.blt 0 (txt s).size = true := by rw [txt_size, Nat.blt_eq]; exact hp
  have hne : bs ++ s ≠ [] := by simp [hs]
  obtain ⟨h1, ⟨rfl, h3⟩ | ⟨h2, j, h3, h4, h5, h6⟩⟩ := B
  · refine ⟨(h.put i (.typed 48 [.pointer (some ⟨i, 0, none⟩), .slice (some ⟨h.next, 0, none⟩) s.length 1] true)).new (.typed 5 (Lib.strCells (txt s)) false), ?_, (E.put h1 _).new _, ⟨h1, .inr ⟨hne, h.next, E.1, by have := h3.1; omega, ?_, ?_⟩⟩, fun k c ro hk => ?_⟩
    · unfold writeI
      simp only [h3.2]
      have hc : (Nat.beq 48 48 && selfOk i (.pointer none) && Nat.blt 0 (txt s).size) = true := by rw [hb]; rfl
      rw [hc, cond_true, ifK_pos (by rw [txt_size]; omega), txt_size]
    · have := (h3.over (.typed 48 [.pointer (some ⟨i, 0, none⟩), .slice (some ⟨h.next, 0, none⟩) s.length 1] true)).new (.typed 5 (Lib.strCells (txt s)) false)
      simpa using this
    · have := Has.here (h.put i (.typed 48 [.pointer (some ⟨i, 0, none⟩), .slice (some ⟨h.next, 0, none⟩) s.length 1] true)) (.typed 5 (Lib.strCells (txt s)) false)
      exact this
    · have hki : k ≠ i := fun e => by subst e; have := h3.uniq hk; cases this
      exact (hk.put hki _).new _
  · have hbp : 0 < bs.length := List.length_pos_iff.2 h2
    have hij : i ≠ j := fun e => h4 e.symm
    refine ⟨((h.del j).put i (.typed 48 [.pointer (some ⟨i, 0, none⟩), .slice (some ⟨h.next, 0, none⟩) (bs.length + s.length) 1] true)).new (.typed 5 ((bs.map fun b => Value.int .u8 (b.toNat : Int)) ++ Lib.strCells (txt s)) false), ?_, ((E.del h3).put h1 _).new _,
      ⟨h1, .inr ⟨hne, h.next, E.1, by have := h5.1; omega, ?_, ?_⟩⟩, fun k c ro hk => ?_⟩
    · unfold writeI
      simp only [h5.2]
      have hc : (Nat.beq 48 48 && selfOk i (.pointer (some ⟨i, 0, none⟩)) && Nat.blt 0 (txt s).size) = true := by
        rw [hb]; simp [selfOk]
      rw [hc, cond_true]
      simp only [h6.2]
      have hc2 : (Nat.beq 5 5 && !(Nat.beq j i) && Nat.beq (bs.map fun b => Value.int .u8 (b.toNat : Int)).length bs.length && intsOnly (bs.map fun b => Value.int .u8 (b.toNat : Int))) = true := by
        have q1 : Nat.beq j i = false := beq_no h4
        have q2 : intsOnly (bs.map fun b => Value.int .u8 (b.toNat : Int)) = true := bytes_ints (byteOk_str bs)
        rw [q1, q2]; simp
      rw [hc2, cond_true, ifK_pos (by rw [txt_size]; omega), txt_size]
    · have := ((h5.del hij).over (.typed 48 [.pointer (some ⟨i, 0, none⟩), .slice (some ⟨h.next, 0, none⟩) (bs.length + s.length) 1] true)).new (.typed 5 ((bs.map fun b => Value.int .u8 (b.toNat : Int)) ++ Lib.strCells (txt s)) false)
      rw [List.length_append]
      exact this
    · have := Has.here ((h.del j).put i (.typed 48 [.pointer (some ⟨i, 0, none⟩), .slice (some ⟨h.next, 0, none⟩) (bs.length + s.length) 1] true)) (.typed 5 ((bs.map fun b => Value.int .u8 (b.toNat : Int)) ++ Lib.strCells (txt s)) false)
      rw [List.map_append]
      exact this
    · have hki : k ≠ i := fun e => by subst e; have := h5.uniq hk; cases this
      have hkj : k ≠ j := fun e => by subst e; have := h6.uniq hk; cases this
      exact ((hk.del hkj).put hki _).new _

theorem c_str {i : Nat} {bs : List UInt8} (E : Ext h0 h) (B : BldAt h0 h i bs) (hne : bs ≠ []) :
    ∃ h', ev31 r (n + 1) 16 [.pointer (some ⟨i, 0, none⟩)] h = some (.string (txt bs), h') ∧ Ext h0 h' := by
  have e : ∀ x, ev31 r (n + 1) 16 [x] h = textI 48 5 [x] h := fun x => by kernel_rfl
  rw [e]
  obtain ⟨h1, ⟨h2, h3⟩ | ⟨h2, j, h3, h4, h5, h6⟩⟩ := B
  · exact absurd h2 hne
  · have hbp : 0 < bs.length := List.length_pos_iff.2 h2
    refine ⟨(h.del j).del i, ?_, (E.del h3).del h1⟩
    unfold textI
    simp only [h5.2]
    have hc : (Nat.beq 48 48 && Nat.blt 0 bs.length && !(Nat.beq j i)) = true := by
      have q1 : Nat.beq j i = false := beq_no h4
      have q2 : Nat.blt 0 bs.length = true := by rw [Nat.blt_eq]; exact hbp
      rw [q1, q2]; rfl
    rw [hc, cond_true]
    simp only [h6.2]
    have hc2 : (Nat.beq 5 5 && Nat.beq (bs.map fun b => Value.int .u8 (b.toNat : Int)).length bs.length) = true := by simp
    rw [hc2, cond_true, bytesA_str]
    simp only [byteOk_str, cond_true]
    have : ByteArray.empty ++ txt bs = txt bs := by simp
    rw [this]
end
end Go.Ev
