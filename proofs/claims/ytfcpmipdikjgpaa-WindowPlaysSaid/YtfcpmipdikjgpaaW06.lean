/-
  WindowPlays: what each function does, in plain lists.
-/
import Derived.Test.YtfcpmipdikjgpaaT06
namespace Go.Ev
open Go Go.Proofs

theorem agg3 : aggT P6 3 = some false := by kernel_rfl
theorem agg22 : aggT P6 22 = some false := by kernel_rfl
theorem und22 : P6.underlying 22 = some (.slice 3) := by kernel_rfl
theorem und24 : P6.underlying 24 = some (.pointer 43) := by kernel_rfl
theorem cells3 : cellsOf P6 3 = some 1 := by kernel_rfl

def i64s (ts : List Int) : List Value := ts.map (Value.int .i64)

/-- A slice of numbers. -/
def Sl (h : H) (a : Option Addr) (st : Nat) (ts : List Int) : Prop :=
  (ts = [] ∧ a = none ∧ st = 0) ∨ (st = 1 ∧ ∃ j ro, a = some ⟨j, 0, none⟩ ∧ h.get j = some (.cells (i64s ts) ro))

/-- The same, of one that may be empty otherwise. -/
def SlI (h : H) (a : Option Addr) (st : Nat) (ts : List Int) : Prop :=
  ts = [] ∨ (st = 1 ∧ ∃ j ro, a = some ⟨j, 0, none⟩ ∧ h.get j = some (.cells (i64s ts) ro))
theorem Sl.toI {h : H} {a : Option Addr} {st : Nat} {ts : List Int} (hs : Sl h a st ts) : SlI h a st ts := hs.imp (·.1) id

theorem SlI.index {R : Type} {h : H} {a : Option Addr} {st : Nat} {ts : List Int} (hs : SlI h a st ts) {k : Int} (h0 : 0 ≤ k) (h1 : k < ts.length) {K : Int → Option R} :
    (indexAddrA P6 22 (.slice a ts.length st) (.int .i64 k) fun v => addrK v fun i o => optK (ldV P6 3 i o h) fun v => castI .i64 v K) = K (ts.getD k.toNat 0) := by
  rcases hs with rfl | ⟨rfl, j, ro, rfl, hg⟩
  · simp at h1; omega
  · have hlt : k.toNat < ts.length := by omega
    have hl : ldV P6 3 j (0 + k.toNat * 1) h = some (.int .i64 (ts.getD k.toNat 0)) := by
      rw [ldV_cell agg3 hg]; simp [i64s, hlt]
    simp only [indexAddrA, und22, cells3, optK_mk, ifK_pos, h0, h1, and_self, addrK_mk, hl, castI_mk]

/-- A window, the program's or the paper's. -/
def Win (h : H) (i : Nat) (w m : Int) (ts : List Int) (a : Option Addr) (st : Nat) : Prop :=
  h.get i = some (.cells [.int .i64 w, .int .i64 m, .slice a ts.length st] false) ∧ Sl h a st ts ∧ ∀ j, a = some ⟨j, 0, none⟩ → j ≠ i ∧ h.get j = some (.cells (i64s ts) false)

section
variable {h : H} {i : Nat} {w m : Int} {ts : List Int} {a : Option Addr} {st : Nat} (W : Win h i w m ts a st)
include W
theorem Win.l0 : ldV P6 3 i 0 h = some (.int .i64 w) := by rw [ldV_cell agg3 W.1]; rfl
theorem Win.l1 : ldV P6 3 i 1 h = some (.int .i64 m) := by rw [ldV_cell agg3 W.1]; rfl
theorem Win.l2 : ldV P6 22 i 2 h = some (.slice a ts.length st) := by rw [ldV_cell agg22 W.1]; rfl
theorem Win.same : sameLd P6 3 i 1 (.int .i64 m) h = true := by
  unfold sameLd; rw [W.l1]; simp [eqV]
end

theorem getD_lt {ts : List Int} {k : Nat} (h : k < ts.length) : ts.getD k 0 = ts[k] := by simp [List.getD_eq_getElem?_getD, h]
def lastD (ts : List Int) : Int := ts.getD (ts.length - 1) 0

theorem wrap_id {n : Int} (h : -9223372036854775808 ≤ n) (h' : n < 9223372036854775808) : IntKind.i64.wrap n = n := by
  unfold IntKind.wrap
  have e1 : IntKind.i64.bits = 64 := rfl
  have e2 : IntKind.i64.signed = true := rfl
  rw [e1, e2]
  simp only [Bool.true_and]
  rcases Int.lt_or_le n 0 with hn | hn
  · have : n % (2 ^ 64 : Int) = n + 2 ^ 64 := by omega
    rw [this]; split <;> simp_all <;> omega
  · have : n % (2 ^ 64 : Int) = n := by omega
    rw [this]; split <;> simp_all <;> omega

section
variable {r n : Nat} {h : H} {i : Nat} {w m : Int} {ts : List Int} {a : Option Addr} {st : Nat}

theorem c16 (W : Win h i w m ts a st) (hm : 0 < m) : ev06 r (n + 1) 16 [.pointer (some ⟨i, 0, none⟩)] h = some (.bool true, h) := by
  rw [e16]; simp [W.l1, optK_mk, castI_mk, hm]

theorem c15 (W : Win h i w m ts a st) (hm : 0 < m) (hlen : ts.length < 1000000) :
    ev06 r (n + 2) 15 [.pointer (some ⟨i, 0, none⟩)] h = some (.tuple #[.int .i64 (if ts = [] then 0 else lastD ts), .bool (!decide (ts = []))], h) := by
  rw [e15]
  simp only [callK_mk (c16 W hm), castBB_mk, cond_true, W.l2, optK_mk, castSl_mk]
  by_cases hts : ts = []
  · subst hts; rfl
  · have hl : 0 < ts.length := List.length_pos_iff.2 hts
    have h0 : ((ts.length : Int) == 0) = false := by simp; omega
    have hw : IntKind.i64.wrap ((ts.length : Int) - 1) = ((ts.length - 1 : Nat) : Int) := by rw [wrap_id (by omega) (by omega)]; omega
    rw [h0, hw]
    simp only [cond_false]
    rw [W.2.1.toI.index (by omega) (by omega)]
    simp [hts, lastD]


/-! ### counting -/

def cnt (w now : Int) (ts : List Int) : Nat := ts.countP fun t => decide (now - t < w)
/-- The times stand in order, in bounds. -/
def Ord (ts : List Int) : Prop := (∀ t ∈ ts, 0 ≤ t ∧ t ≤ 1099511627776) ∧ ts.Pairwise (· ≤ ·)
def i64 (n : Int) : Prop := -9223372036854775808 ≤ n ∧ n < 9223372036854775808

theorem Ord.last {ts : List Int} (ho : Ord ts) (hne : ts ≠ []) : (0 ≤ lastD ts ∧ lastD ts ≤ 1099511627776) ∧ ∀ t ∈ ts, t ≤ lastD ts := by
  have hl : 0 < ts.length := List.length_pos_iff.2 hne
  have e : lastD ts = ts[ts.length - 1] := by unfold lastD; rw [getD_lt (by omega)]
  refine ⟨by rw [e]; exact ho.1 _ (List.getElem_mem _), fun t ht => ?_⟩
  obtain ⟨k, hk, rfl⟩ := List.mem_iff_getElem.1 ht
  rw [e]
  rcases Nat.lt_or_ge k (ts.length - 1) with h | h
  · exact List.pairwise_iff_getElem.1 ho.2 k (ts.length - 1) hk (by omega) h
  · have : k = ts.length - 1 := by omega
    subst this; exact Int.le_refl _

theorem loop10 (W : Win h i w m ts a st) (hlen : ts.length < 1000000) {now : Int} (hnow : ∀ t ∈ ts, 0 ≤ now - t ∧ now - t < 9223372036854775808) {R : Type} {K : Exit → Env → H → Option R} :
    ∀ (d k r' : Nat) (c : Int), k + d = ts.length → d < r' → 0 ≤ c → c ≤ k →
      evLoop (evCode P6 (ev06 r n) (dead06 10) r 0 (pc [1, 1, 1, 1, 0, 1, 0, 0] (bd Try.f10))) (dead06 10 0) r'
        (E10_0 (.pointer (some ⟨i, 0, none⟩)) (.int .i64 now) (.int .i64 c) (.slice a ts.length st) (.int .i64 ts.length) (.int .i64 k)) h K =
      K (.exit 0) (E10_0 (.pointer (some ⟨i, 0, none⟩)) (.int .i64 now) (.int .i64 (c + cnt w now (ts.drop k))) (.slice a ts.length st) (.int .i64 ts.length) (.int .i64 ts.length)) h := by
  intro d
  induction d with
  | zero =>
    intro k r' c hk hr h0 hc
    obtain ⟨r', rfl⟩ : ∃ x, r' = x + 1 := ⟨r' - 1, by omega⟩
    have hkk : k = ts.length := by omega
    subst hkk
    rw [evLoop_succ, e10a]
    simp [cnt]
  | succ d ih =>
    intro k r' c hk hr h0 hc
    obtain ⟨r', rfl⟩ : ∃ x, r' = x + 1 := ⟨r' - 1, by omega⟩
    have hlt : k < ts.length := by omega
    rw [evLoop_succ, e10a]
    have hkl : decide ((k : Int) < (ts.length : Int)) = true := by simp; omega
    rw [hkl]
    simp only [cond_true]
    rw [W.2.1.toI.index (by omega) (by omega)]
    simp only [W.l0, optK_mk, castI_mk, Int.toNat_natCast]
    have hd : ts.drop k = ts.getD k 0 :: ts.drop (k + 1) := by
      rw [List.drop_eq_getElem_cons hlt, getD_lt hlt]
    have hb := hnow (ts.getD k 0) (by rw [getD_lt hlt]; exact List.getElem_mem _)
    have w1 : IntKind.i64.wrap (now - ts.getD k 0) = now - ts.getD k 0 := wrap_id (by omega) (by omega)
    have w2 : IntKind.i64.wrap ((k : Int) + 1) = ((k + 1 : Nat) : Int) := by rw [wrap_id (by omega) (by omega)]; omega
    simp only [w1, w2]
    rw [hd]
    by_cases hw : now - ts.getD k 0 < w
    · simp only [hw, decide_true, cond_true]
      rw [wrap_id (n := c + 1) (by omega) (by omega), ih (k + 1) r' (c + 1) (by omega) (by omega) (by omega) (by omega)]
      have : cnt w now (ts.getD k 0 :: ts.drop (k + 1)) = cnt w now (ts.drop (k + 1)) + 1 := by
        unfold cnt; rw [List.countP_cons_of_pos (by simpa using hw)]
      rw [this]
      congr 2
      congr 1
      omega
    · simp only [hw, decide_false, cond_false]
      rw [ih (k + 1) r' c (by omega) (by omega) (by omega) (by omega)]
      have : cnt w now (ts.getD k 0 :: ts.drop (k + 1)) = cnt w now (ts.drop (k + 1)) := by
        unfold cnt; rw [List.countP_cons_of_neg (by simpa using hw)]
      rw [this]

theorem c10 (W : Win h i w m ts a st) (hm : 0 < m) (ho : Ord ts) (hlen : ts.length < 1000000) (hr : ts.length < r) {now : Int} (hn : i64 now) :
    ev06 r (n + 3) 10 [.pointer (some ⟨i, 0, none⟩), .int .i64 now] h = some (.int .i64 (if ts = [] ∨ now < lastD ts then 0 else cnt w now ts), h) := by
  rw [e10]
  simp only [callK_mk (c15 W hm hlen), castTup_mk, headK_mk, castI_mk, castBB_mk, nilK_mk, W.l2, optK_mk, castSl_mk]
  by_cases hts : ts = []
  · subst hts; rfl
  · obtain ⟨⟨l0, l1⟩, lm⟩ := ho.last hts
    simp only [hts, decide_false, Bool.not_false, cond_true, if_false, false_or]
    by_cases hnl : now < lastD ts
    · simp only [hnl, decide_true, cond_true, if_true]
    · simp only [hnl, decide_false, cond_false, if_false]
      have := loop10 (n := n + 2) (r := r) W hlen (now := now) (fun t ht => by have := lm t ht; have := ho.1 t ht; unfold i64 at hn; omega)
        (K := blockK 0 (seqK (fun env h => evCode P6 (ev06 r (n + 2)) (dead06 10) r 0 (pc [1, 1, 1, 1, 1] (bd Try.f10)) env h (finK P6 [ResultVar.tmp 4])) (finK P6 [ResultVar.tmp 4]))) ts.length 0 r 0 (by omega) hr (by omega) (by omega)
      rw [show ((0 : Nat) : Int) = 0 from rfl] at this
      rw [this, blockK_exit, seqK_normal, e10b]
      simp
end
end Go.Ev
