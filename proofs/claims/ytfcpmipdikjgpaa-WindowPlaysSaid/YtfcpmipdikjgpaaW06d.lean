/-
  WindowPlays: the program's window beside the paper's.
-/
import Derived.Test.YtfcpmipdikjgpaaW06c
namespace Go.Ev
open Go Go.Proofs

/-- How the rows stand to each other. -/
structure Inv (w m : Int) (ts all : List Int) : Prop where
  w0 : 0 ≤ w ∧ w ≤ 1073741824
  m0 : 0 < m ∧ m ≤ 1024
  ord : Ord all
  cut : ts = all.drop (all.length - m.toNat)
  gap : ∀ k, k + m.toNat < all.length → all.getD k 0 + w ≤ all.getD (k + m.toNat) 0

section
variable {w m : Int} {ts all : List Int} (I : Inv w m ts all)
include I
theorem Inv.nil_iff : ts = [] ↔ all = [] := by
  rw [I.cut]
  have := I.m0
  constructor
  · intro h
    have := congrArg List.length h
    simp at this
    exact List.length_eq_zero_iff.1 (by omega)
  · rintro rfl; simp
theorem Inv.ordT : Ord ts := by
  rw [I.cut]
  exact ⟨fun t ht => I.ord.1 t (List.mem_of_mem_drop ht), I.ord.2.sublist (List.drop_sublist _ _)⟩
theorem Inv.len : ts.length = Nat.min m.toNat all.length := by
  rw [I.cut, List.length_drop]
  show _ = min _ _
  omega
theorem Inv.last (h : all ≠ []) : lastD ts = lastD all := by
  have hl : 0 < all.length := List.length_pos_iff.2 h
  have hm := I.m0
  have hlen := I.len
  have h1 : 0 < ts.length := by rw [hlen]; show 0 < min _ _; omega
  unfold lastD
  rw [getD_lt (by omega), getD_lt (by omega)]
  have hc := I.cut
  subst hc
  rw [List.getElem_drop]
  congr 1
  rw [List.length_drop] at h1 ⊢
  omega
theorem Inv.asked (now : Int) : asked now ts = asked now all := by
  unfold Go.Ev.asked
  by_cases h : all = []
  · simp [h, I.nil_iff.2 h]
  · have h' : ts ≠ [] := fun e => h (I.nil_iff.1 e)
    rw [I.last h]; simp [h, h']
theorem Inv.same (now : Int) : ccnt w now ts = ccnt w now all := by
  unfold ccnt
  by_cases h : all = []
  · simp [h, I.nil_iff.2 h]
  · have h' : ts ≠ [] := fun e => h (I.nil_iff.1 e)
    rw [I.last h]
    simp only [h, h', false_or]
    by_cases hn : now < lastD all
    · simp [hn]
    · simp only [hn, if_false]
      have hsplit : cnt w now all = cnt w now (all.take (all.length - m.toNat)) + cnt w now ts := by
        unfold cnt
        rw [I.cut, ← List.countP_append, List.take_append_drop]
      have hz : cnt w now (all.take (all.length - m.toNat)) = 0 := by
        unfold cnt
        rw [List.countP_eq_zero]
        intro t ht
        obtain ⟨k, hk, rfl⟩ := List.mem_iff_getElem.1 ht
        rw [List.length_take] at hk
        have hk1 : k + m.toNat < all.length := by omega
        have h1 := I.gap k hk1
        rw [getD_lt (by omega), getD_lt hk1] at h1
        have h2 := (I.ord.last h).2 _ (List.getElem_mem hk1)
        rw [List.getElem_take]
        simp; omega
      omega
theorem Inv.first {now : Int} (hc : ¬ (ccnt w now all : Int) < m) : ts.getD 0 0 = all.getD (all.length - ccnt w now all) 0 ∧ ccnt w now all ≤ all.length := by
  have h1 := I.same now
  have h2 : ccnt w now ts ≤ ts.length := by
    unfold ccnt cnt; split
    · omega
    · exact List.countP_le_length
  have h3 := I.len
  have h4 : Nat.min m.toNat all.length ≤ m.toNat := Nat.min_le_left _ _
  have h5 : Nat.min m.toNat all.length ≤ all.length := Nat.min_le_right _ _
  have hm := I.m0
  have e : ccnt w now all = m.toNat := by omega
  have hl : m.toNat ≤ all.length := by omega
  refine ⟨?_, by omega⟩
  rw [e, I.cut]
  rw [getD_lt (by rw [List.length_drop]; omega), List.getElem_drop, getD_lt (by omega)]
  simp

theorem Inv.grow {now : Int} (ha : Go.Ev.asked now all = true) (hc : (ccnt w now all : Int) < m) :
    Inv w m (if (ts.length : Int) = m then ts.drop 1 ++ [now] else ts ++ [now]) (all ++ [now]) := by
  have hm := I.m0
  have hlen := I.len
  unfold Go.Ev.asked at ha
  simp only [Bool.and_eq_true, Bool.or_eq_true, decide_eq_true_eq] at ha
  obtain ⟨⟨a0, a1⟩, a2⟩ := ha
  have hlast : ∀ t ∈ all, t ≤ now := by
    intro t ht
    rcases a2 with rfl | a2
    · simp at ht
    · have hne : all ≠ [] := by rintro rfl; simp at ht
      exact Int.le_trans ((I.ord.last hne).2 t ht) a2
  refine ⟨I.w0, I.m0, ⟨fun t ht => ?_, ?_⟩, ?_, fun k hk => ?_⟩
  · rcases List.mem_append.1 ht with h | h
    · exact I.ord.1 t h
    · simp at h; omega
  · rw [List.pairwise_append]
    exact ⟨I.ord.2, by simp, fun x hx y hy => by simp at hy; subst hy; exact hlast x hx⟩
  · have e1 : Nat.min m.toNat all.length = min m.toNat all.length := rfl
    rw [e1] at hlen
    rw [List.length_append, List.length_singleton]
    split
    · rename_i h
      have : all.length + 1 - m.toNat = (all.length - m.toNat) + 1 := by omega
      rw [List.drop_append_of_le_length (by omega), this]
      congr 1
      rw [I.cut, List.drop_drop]
    · rename_i h
      have e : all.length + 1 - m.toNat = all.length - m.toNat := by omega
      rw [List.drop_append_of_le_length (by omega), e, ← I.cut]
  · rw [List.length_append, List.length_singleton] at hk
    by_cases hk1 : k + m.toNat < all.length
    · have := I.gap k hk1
      rw [getD_lt (by omega), getD_lt hk1] at this
      rw [getD_lt (by simp; omega), getD_lt (by simp; omega), List.getElem_append_left (by omega), List.getElem_append_left hk1]
      exact this
    · have hk2 : k + m.toNat = all.length := by omega
      have hne : all ≠ [] := by
        rintro rfl; simp at hk2; omega
      have hkl : k < all.length := by omega
      rw [getD_lt (by simp; omega), getD_lt (by simp; omega), List.getElem_append_left hkl, List.getElem_append_right (by omega)]
      simp only [hk2, Nat.sub_self, List.getElem_cons_zero]
      rcases Int.lt_or_le now (all[k] + w) with hlt | hge
      · exfalso
        have hn : ¬ now < lastD all := by
          have := (I.ord.last hne).2
          have h2 : lastD all ∈ all := by unfold lastD; rw [getD_lt (by omega)]; exact List.getElem_mem _
          have := hlast _ h2
          omega
        have hcc : ccnt w now all = cnt w now all := by unfold ccnt; simp [hne, hn]
        have hge : m.toNat ≤ cnt w now all := by
          unfold cnt
          rw [← List.take_append_drop k all, List.countP_append]
          have : (all.drop k).countP (fun t => decide (now - t < w)) = (all.drop k).length := by
            rw [List.countP_eq_length]
            intro t ht
            obtain ⟨q, hq, rfl⟩ := List.mem_iff_getElem.1 ht
            rw [List.getElem_drop]
            rw [List.length_drop] at hq
            have : all[k] ≤ all[k + q] := by
              rcases Nat.eq_zero_or_pos q with h0 | h0
              · subst h0; exact Int.le_refl _
              · exact List.pairwise_iff_getElem.1 I.ord.2 k (k + q) hkl (by omega) (by omega)
            simp; omega
          rw [this, List.length_drop]; omega
        omega
      · exact hge
end

theorem Inv.start {w m : Int} (hw : 0 ≤ w ∧ w ≤ 1073741824) (hm : 0 < m ∧ m ≤ 1024) : Inv w m [] [] :=
  ⟨hw, hm, ⟨fun t ht => by simp at ht, List.Pairwise.nil⟩, by simp, fun k hk => by simp at hk⟩
end Go.Ev
