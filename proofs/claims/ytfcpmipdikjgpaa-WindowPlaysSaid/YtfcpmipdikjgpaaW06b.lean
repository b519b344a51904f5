/-
  WindowPlays: the other functions.
-/
import Derived.Test.YtfcpmipdikjgpaaW06
namespace Go.Ev
open Go Go.Proofs

def ccnt (w now : Int) (ts : List Int) : Nat := if ts = [] ∨ now < lastD ts then 0 else cnt w now ts
def asked (now : Int) (ts : List Int) : Bool := decide (0 ≤ now) && decide (now ≤ 1099511627776) && (decide (ts = []) || decide (lastD ts ≤ now))
/-- No block past the last number. -/
def Wf (h : H) : Prop := ∀ k, h.next ≤ k → h.get k = none

theorem append22 : appOk P6 #[22, 22] 1 8 = true := by kernel_rfl

section
variable {r n : Nat} {h : H} {i : Nat} {w m : Int} {ts : List Int} {a : Option Addr} {st : Nat}

theorem c10' (W : Win h i w m ts a st) (hm : 0 < m) (ho : Ord ts) (hlen : ts.length < 1000000) (hr : ts.length < r) {now : Int} (hn : i64 now) :
    ev06 r (n + 3) 10 [.pointer (some ⟨i, 0, none⟩), .int .i64 now] h = some (.int .i64 (ccnt w now ts), h) := by
  rw [c10 W hm ho hlen hr hn]; unfold ccnt; split <;> rfl

theorem loop9 (W : Win h i w m ts a st) (hlen : ts.length < 1000000) {now : Int} (hb : ∀ t ∈ ts, i64 (t + w)) {R : Type} {K : Exit → Env → H → Option R} :
    ∀ (d k r' : Nat) (c : Int), k + d = ts.length → d < r' → 0 ≤ c → c ≤ k →
      evLoop (evCode P6 (ev06 r n) (dead06 9) r 0 (pc [1, 1, 1, 0, 1, 0, 0] (bd Try.f9))) (dead06 9 0) r'
        (E9_0 (.pointer (some ⟨i, 0, none⟩)) (.int .i64 now) (.int .i64 c) (.int .i64 k)) h K =
      K (.exit 0) (E9_0 (.pointer (some ⟨i, 0, none⟩)) (.int .i64 now) (.int .i64 (c + cnt w now (ts.drop k))) (.int .i64 ts.length)) h := by
  intro d
  induction d with
  | zero =>
    intro k r' c hk hr h0 hc
    obtain ⟨r', rfl⟩ : ∃ x, r' = x + 1 := ⟨r' - 1, by omega⟩
    have hkk : k = ts.length := by omega
    subst hkk
    rw [evLoop_succ, e9a]
    simp [cnt, W.l2, optK_mk, castSl_mk]
  | succ d ih =>
    intro k r' c hk hr h0 hc
    obtain ⟨r', rfl⟩ : ∃ x, r' = x + 1 := ⟨r' - 1, by omega⟩
    have hlt : k < ts.length := by omega
    rw [evLoop_succ, e9a]
    have hkl : decide ((k : Int) < (ts.length : Int)) = true := by simp; omega
    simp only [W.l2, optK_mk, castSl_mk, hkl, cond_true]
    rw [W.2.1.toI.index (by omega) (by omega)]
    simp only [W.l0, optK_mk, castI_mk, Int.toNat_natCast]
    have hd : ts.drop k = ts.getD k 0 :: ts.drop (k + 1) := by
      rw [List.drop_eq_getElem_cons hlt, getD_lt hlt]
    have hb := hb (ts.getD k 0) (by rw [getD_lt hlt]; exact List.getElem_mem _)
    have w1 : IntKind.i64.wrap (ts.getD k 0 + w) = ts.getD k 0 + w := wrap_id hb.1 hb.2
    have w2 : IntKind.i64.wrap ((k : Int) + 1) = ((k + 1 : Nat) : Int) := by rw [wrap_id (by omega) (by omega)]; omega
    simp only [w1, w2]
    rw [hd]
    by_cases hw : now - ts.getD k 0 < w
    · have hw' : ts.getD k 0 + w > now := by omega
      simp only [hw', decide_true, cond_true]
      rw [wrap_id (n := c + 1) (by omega) (by omega), ih (k + 1) r' (c + 1) (by omega) (by omega) (by omega) (by omega)]
      have : cnt w now (ts.getD k 0 :: ts.drop (k + 1)) = cnt w now (ts.drop (k + 1)) + 1 := by
        unfold cnt; rw [List.countP_cons_of_pos (by simpa using hw)]
      rw [this]
      congr 2
      congr 1
      omega
    · have hw' : ¬ (ts.getD k 0 + w > now) := by omega
      simp only [hw', decide_false, cond_false]
      rw [ih (k + 1) r' c (by omega) (by omega) (by omega) (by omega)]
      have : cnt w now (ts.getD k 0 :: ts.drop (k + 1)) = cnt w now (ts.drop (k + 1)) := by
        unfold cnt; rw [List.countP_cons_of_neg (by simpa using hw)]
      rw [this]

theorem lastIdx {ts : List Int} (hne : ts ≠ []) (hlen : ts.length < 1000000) : IntKind.i64.wrap ((ts.length : Int) - 1) = ((ts.length - 1 : Nat) : Int) := by
  have : 0 < ts.length := List.length_pos_iff.2 hne
  rw [wrap_id (by omega) (by omega)]; omega

theorem c9 (W : Win h i w m ts a st) (ho : Ord ts) (hw : 0 ≤ w ∧ w ≤ 1073741824) (hlen : ts.length < 1000000) (hr : ts.length < r) {now : Int} :
    ev06 r (n + 1) 9 [.pointer (some ⟨i, 0, none⟩), .int .i64 now] h = some (.int .i64 (ccnt w now ts), h) := by
  rw [e9]
  simp only [W.l2, optK_mk, castSl_mk]
  have L := fun K : Exit → Env → H → Option (Value × H) => loop9 (n := n) (r := r) W hlen (now := now) (fun t ht => by have := ho.1 t ht; unfold i64; omega) (K := K) ts.length 0 r 0 (by omega) hr (by omega) (by omega)
  simp only [show ((0 : Nat) : Int) = 0 from rfl] at L
  by_cases hts : ts = []
  · have e : decide ((ts.length : Int) > 0) = false := by simp [hts]
    simp only [e, cond_false, L, blockK_exit, seqK_normal, e9b]
    simp [ccnt, hts, cnt]
  · have hl : 0 < ts.length := List.length_pos_iff.2 hts
    have e : decide ((ts.length : Int) > 0) = true := by simp; omega
    simp only [e, cond_true]
    rw [lastIdx hts hlen, W.2.1.toI.index (by omega) (by omega)]
    have e2 : ts.getD (((ts.length - 1 : Nat) : Int)).toNat 0 = lastD ts := by simp [lastD]
    simp only [e2]
    by_cases hnl : now < lastD ts
    · have h2 : decide (lastD ts > now) = true := by simpa using hnl
      simp only [h2, cond_true]
      simp [ccnt, hnl]
    · have h2 : decide (lastD ts > now) = false := by simpa using hnl
      simp only [h2, cond_false, L, blockK_exit, seqK_normal, e9b]
      simp [ccnt, hts, hnl]

theorem c17 (W : Win h i w m ts a st) (hm : 0 < m) (hlen : ts.length < 1000000) {now : Int} :
    ev06 r (n + 3) 17 [.pointer (some ⟨i, 0, none⟩), .int .i64 now] h = some (.bool (asked now ts), h) := by
  rw [e17]
  simp only [callK_mk (c15 W hm hlen), castTup_mk, headK_mk, castI_mk, castBB_mk, nilK_mk]
  by_cases hts : ts = [] <;> by_cases h0 : 0 ≤ now <;> by_cases h1 : now ≤ 1099511627776 <;> by_cases h2 : lastD ts ≤ now <;> simp [asked, hts, h0, h1, h2]

theorem c12 (W : Win h i w m ts a st) (hlen : ts.length < 1000000) {now : Int} :
    ev06 r (n + 1) 12 [.pointer (some ⟨i, 0, none⟩), .int .i64 now] h = some (.bool (asked now ts), h) := by
  rw [e12]
  simp only [W.l2, optK_mk, castSl_mk]
  by_cases hts : ts = []
  · by_cases h0 : now < 0 <;> by_cases h1 : now > 1099511627776 <;> simp [asked, hts, h0, h1] <;> omega
  · have hl : 0 < ts.length := List.length_pos_iff.2 hts
    have e : ((ts.length : Int) == 0) = false := by simp; omega
    simp only [e, cond_false]
    rw [lastIdx hts hlen, W.2.1.toI.index (by omega) (by omega)]
    have e2 : ts.getD (((ts.length - 1 : Nat) : Int)).toNat 0 = lastD ts := by simp [lastD]
    simp only [e2]
    by_cases h0 : now < 0 <;> by_cases h1 : now > 1099511627776 <;> by_cases h2 : lastD ts ≤ now <;> simp [asked, hts, h0, h1, h2] <;> omega

theorem c11 (W : Win h i w m ts a st) (hm : 0 < m) (ho : Ord ts) (hlen : ts.length < 1000000) (hr : ts.length < r) {now : Int} (hn : i64 now) :
    ev06 r (n + 4) 11 [.pointer (some ⟨i, 0, none⟩), .int .i64 now] h = some (.bool (asked now ts && decide ((ccnt w now ts : Int) < m)), h) := by
  rw [e11]
  simp only [callK_mk (c16 W hm), castBB_mk, cond_true, callK_mk (c17 W hm hlen), callK_mk (c10' W hm ho hlen hr hn), castI_mk, W.l1, optK_mk, W.same]
  cases asked now ts <;> by_cases h2 : (ccnt w now ts : Int) < m <;> simp [h2]

theorem c7 (W : Win h i w m ts a st) (hm : 0 < m) (ho : Ord ts) (hw : 0 ≤ w ∧ w ≤ 1073741824) (hlen : ts.length < 1000000) (hr : ts.length < r) {now : Int} (hn : i64 now) :
    ev06 r (n + 4) 7 [.pointer (some ⟨i, 0, none⟩), .int .i64 now] h = some (.tuple (if asked now ts = false then #[.int .i64 0, .int .i64 2] else
      if (ccnt w now ts : Int) < m then #[.int .i64 now, .int .i64 0] else #[.int .i64 (ts.getD 0 0 + w), .int .i64 0]), h) := by
  rw [e7]
  simp only [callK_mk (c16 W hm), castBB_mk, cond_true, callK_mk (c17 W hm hlen), callK_mk (c10' W hm ho hlen hr hn), castI_mk, W.l1, optK_mk, W.same]
  cases ha : asked now ts with
  | false => simp
  | true =>
    simp only [cond_true, Bool.true_eq_false, if_false]
    by_cases h2 : (ccnt w now ts : Int) < m
    · simp [h2]
    · simp only [h2, decide_false, cond_false, if_false, W.l2, optK_mk, castSl_mk]
      have hl : 0 < ts.length := by
        rcases Nat.eq_zero_or_pos ts.length with h3 | h3
        · have : ts = [] := List.length_eq_zero_iff.1 h3
          exfalso; apply h2; simp [ccnt, this, hm]
        · exact h3
      rw [W.2.1.toI.index (by omega) (by omega)]
      simp only [W.l0, optK_mk, castI_mk]
      have := ho.1 (ts.getD 0 0) (by rw [getD_lt hl]; exact List.getElem_mem _)
      have e : IntKind.i64.wrap (ts.getD 0 0 + w) = ts.getD 0 0 + w := wrap_id (by omega) (by omega)
      simp only [Int.toNat_zero, e]

theorem c8 (W : Win h i w m ts a st) (hm : 0 < m) (ho : Ord ts) (hw : 0 ≤ w ∧ w ≤ 1073741824) (hlen : ts.length < 1000000) (hr : ts.length < r) {now : Int} :
    ev06 r (n + 2) 8 [.pointer (some ⟨i, 0, none⟩), .int .i64 now] h = some (.tuple (if asked now ts = false then #[.int .i64 0, .int .i64 2] else
      if (ccnt w now ts : Int) < m then #[.int .i64 now, .int .i64 0] else #[.int .i64 (ts.getD (ts.length - ccnt w now ts) 0 + w), .int .i64 0]), h) := by
  rw [e8]
  simp only [callK_mk (c12 W hlen), castBB_mk, callK_mk (c9 W ho hw hlen hr), castI_mk, W.l1, optK_mk]
  cases ha : asked now ts with
  | false => simp
  | true =>
    simp only [cond_true, Bool.true_eq_false, if_false]
    by_cases h2 : (ccnt w now ts : Int) < m
    · simp [h2]
    · simp only [h2, decide_false, cond_false, if_false, W.l2, optK_mk, castSl_mk]
      have hle : ccnt w now ts ≤ ts.length := by
        unfold ccnt cnt; split
        · omega
        · exact List.countP_le_length
      have h3 : IntKind.i64.wrap ((ts.length : Int) - (ccnt w now ts : Int)) = ((ts.length - ccnt w now ts : Nat) : Int) := by
        rw [wrap_id (by omega) (by omega)]; omega
      have hlt : ts.length - ccnt w now ts < ts.length := by omega
      rw [h3, W.2.1.toI.index (by omega) (by omega)]
      simp only [W.l0, optK_mk, castI_mk, Int.toNat_natCast]
      have := ho.1 (ts.getD (ts.length - ccnt w now ts) 0) (by rw [getD_lt hlt]; exact List.getElem_mem _)
      have e : IntKind.i64.wrap (ts.getD (ts.length - ccnt w now ts) 0 + w) = ts.getD (ts.length - ccnt w now ts) 0 + w := wrap_id (by omega) (by omega)
      simp only [e]
end
end Go.Ev
