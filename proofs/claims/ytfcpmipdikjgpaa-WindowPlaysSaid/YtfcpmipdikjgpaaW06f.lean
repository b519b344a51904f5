/-
  WindowPlays: the law over any input.
-/
import Derived.Test.YtfcpmipdikjgpaaW06e
namespace Go.Ev
open Go Go.Proofs

theorem bin_nil {R : Type} {x y : Operand} {K : Value → Option R} : binA P6 BinOp.eql 24 x y (.pointer none) (.pointer none) K = K (.bool true) := by kernel_rfl
theorem bin_ptr {R : Type} {x y : Operand} {i : Nat} {K : Value → Option R} : binA P6 BinOp.eql 24 x y (.pointer (some ⟨i, 0, none⟩)) (.pointer none) K = K (.bool false) := by kernel_rfl

theorem law06 {a b : Int} {seq : List Int} {s : Option Addr} {sst : Nat} {h0 h1 : H} (hi : ∀ t ∈ seq, i64 t) (S : SlI h1 s sst seq) (wf : Wf h1) (hs : ∀ q, s = some ⟨q, 0, none⟩ → q < h1.next)
    (aw : ev06 1000 39 4 [] h0 = some (.bool true, h1)) : ∃ h', ev06 1000 40 3 [.int .i64 a, .int .i64 b, .slice s seq.length sst] h0 = some (.bool true, h') := by
  have e3' := e3 1000 39 h0 a b s seq.length sst
  have e5' := e5 1000 38 h1 a b
  rw [show (39 + 1 : Nat) = 40 from rfl] at e3'
  rw [show (38 + 1 : Nat) = 39 from rfl] at e5'
  rw [e3']
  simp only [callK_mk aw, castBB_mk, cond_true]
  by_cases hlen : (seq.length : Int) > 200
  · exact ⟨h1, by simp [hlen]⟩
  · have hlen' : decide ((seq.length : Int) > 200) = false := by simpa using hlen
    simp only [hlen', cond_false]
    by_cases hin : 1 ≤ a ∧ a ≤ 1073741824 ∧ 1 ≤ b ∧ b ≤ 1024
    · obtain ⟨x1, x2, x3, x4⟩ := hin
      have y1 : decide (a < 1) = false := by simp; omega
      have y2 : decide (a > 1073741824) = false := by simp; omega
      have y3 : decide (b < 1) = false := by simp; omega
      have y4 : decide (b > 1024) = false := by simp; omega
      rw [y1, y2, y3, y4] at e5'
      simp only [cond_false] at e5'
      have e6' := e6 1000 38 (h1.new (.cells [.int .i64 a, .int .i64 b, .slice none 0 0] false)) a b
      rw [show (38 + 1 : Nat) = 39 from rfl] at e6'
      have z1 : decide (a ≥ 1) = true := by simp; omega
      have z2 : decide (a ≤ 1073741824) = true := by simp; omega
      have z3 : decide (b ≥ 1) = true := by simp; omega
      have z4 : decide (b ≤ 1024) = true := by simp; omega
      rw [z1, z2, z3, z4] at e6'
      simp only [cond_true] at e6'
      simp only [callK_mk e5', callK_mk e6', castTup_mk, headK_mk, castP_mk, castI_mk, nilK_mk, castBB_mk, cond_true, bne_self_eq_false, cond_false, bin_ptr]
      have Bo : Both ((h1.new (.cells [.int .i64 a, .int .i64 b, .slice none 0 0] false)).new (.cells [.int .i64 a, .int .i64 b, .slice none 0 0] false)) h1.next (h1.next + 1) a b [] [] none none 0 0 s sst seq := by
        refine ⟨⟨?_, .inl ⟨rfl, rfl, rfl⟩, fun j hj => (by cases hj)⟩, ⟨?_, .inl ⟨rfl, rfl, rfl⟩, fun j hj => (by cases hj)⟩, by omega, fun x hx => (by cases hx), fun x hx => (by cases hx), fun x y hx => (by cases hx),
          S.move fun q hq => ?_, fun q hq => (by have := hs q hq; rw [H.next_new, H.next_new]; omega), fun q hq => ⟨(by have := hs q hq; omega), (by have := hs q hq; omega), fun x hx => (by cases hx), fun x hx => (by cases hx)⟩, fun k hk => ?_⟩
        · rw [H.get_new, H.next_new, if_neg (by omega), H.get_new, if_pos rfl]; rfl
        · rw [H.get_new, H.next_new, if_pos rfl]; rfl
        · have := hs q hq
          rw [H.get_new, H.next_new, if_neg (by omega), H.get_new, if_neg (by omega)]
        · rw [H.next_new, H.next_new] at hk
          rw [H.get_new, H.next_new, if_neg (by omega), H.get_new, if_neg (by omega)]
          exact wf k (by omega)
      obtain ⟨h', e⟩ := loop3 (n := 34) (r := 1000) (i := h1.next) (j := h1.next + 1) (w := a) (m := b) (seq := seq) (s := s) (sst := sst) (by omega) (by omega) hi
        (K := blockK 0 (seqK (fun env h => evCode P6 (ev06 1000 39) (dead06 3) 1000 0 (pc [1, 1, 1, 1, 1, 1, 1, 1] (bd Try.f3)) env h (finK P6 [ResultVar.tmp 6])) (finK P6 [ResultVar.tmp 6])))
        seq.length 0 1000 _ [] [] none none 0 0 (by omega) (by omega) Bo (Inv.start (by omega) (by omega)) (by simp)
      refine ⟨h', ?_⟩
      refine Eq.trans e ?_
      rw [blockK_exit, seqK_normal, e3b]
    · have e5'' : ev06 1000 39 5 [.int .i64 a, .int .i64 b] h1 = some (.tuple #[.pointer none, .int .i64 2], h1) := by
        rw [e5']
        by_cases y1 : a < 1 <;> by_cases y2 : a > 1073741824 <;> by_cases y3 : b < 1 <;> by_cases y4 : b > 1024 <;> simp [y1, y2, y3, y4] <;> omega
      have e6'' : ev06 1000 39 6 [.int .i64 a, .int .i64 b] h1 = some (.bool false, h1) := by
        have e6' := e6 1000 38 h1 a b
        rw [show (38 + 1 : Nat) = 39 from rfl] at e6'
        rw [e6']
        by_cases y1 : a ≥ 1 <;> by_cases y2 : a ≤ 1073741824 <;> by_cases y3 : b ≥ 1 <;> by_cases y4 : b ≤ 1024 <;> simp [y1, y2, y3, y4] <;> omega
      simp only [callK_mk e5'', callK_mk e6'', castTup_mk, headK_mk, castP_mk, castI_mk, nilK_mk, castBB_mk, cond_true, cond_false, bin_nil]
      exact ⟨h1, by simp⟩

/-! ### the start -/

def trOk (n : Nat) : Nat → Nat → Nat → Tr → Bool
  | 0, w, acc, t => t.vs.all fun p => Nat.blt (p.1 * w + acc) n
  | d + 1, w, acc, t => trOk n d (2 * w) acc t.lt && trOk n d (2 * w) (acc + w) t.rt
theorem find_mem : ∀ {l : List (Nat × Option Blk)} {i : Nat} {b : Blk}, find l i = some b → ∃ x, (i, x) ∈ l := by
  intro l
  induction l with
  | nil => intro i b h; simp [find] at h
  | cons p l ih =>
    obtain ⟨k, x⟩ := p
    intro i b h
    simp only [find] at h
    cases hb : Nat.beq k i with
    | true => have := Nat.eq_of_beq_eq_true hb; subst this; exact ⟨x, List.mem_cons_self ..⟩
    | false =>
      rw [hb] at h
      obtain ⟨y, hy⟩ := ih h
      exact ⟨y, List.mem_cons_of_mem _ hy⟩
theorem trOk_get {n : Nat} : ∀ (d w acc k : Nat) (t : Tr) (b : Blk), trOk n d w acc t = true → Tr.get d t k = some b → k * w + acc < n := by
  intro d
  induction d with
  | zero =>
    intro w acc k t b h hg
    obtain ⟨x, hx⟩ := find_mem hg
    simp only [trOk, List.all_eq_true] at h
    have := h _ hx
    rwa [Nat.blt_eq] at this
  | succ d ih =>
    intro w acc k t b h hg
    simp only [trOk, Bool.and_eq_true] at h
    simp only [Tr.get, beq_iff] at hg
    have e : k = 2 * (k / 2) + k % 2 := by omega
    by_cases hk : k % 2 = 0
    · simp only [hk, decide_true, cond_true] at hg
      have := ih _ _ _ _ _ h.1 hg
      rw [e, hk, Nat.add_zero, Nat.mul_comm 2, Nat.mul_assoc]; exact this
    · simp only [hk, decide_false, cond_false] at hg
      have := ih _ _ _ _ _ h.2 hg
      have hk1 : k % 2 = 1 := by omega
      rw [e, hk1, Nat.add_mul, Nat.mul_comm 2, Nat.mul_assoc]
      omega
theorem Wf.of {h : H} (hk : trOk h.next 12 1 0 h.tr = true) : Wf h := by
  intro k hle
  cases hg : h.get k with
  | none => rfl
  | some b =>
    have := trOk_get 12 1 0 k h.tr b hk hg
    omega

/-- The memory that the law starts with. -/
def start06 (seq : List Int) : H := H.new ⟨0, .nil⟩ (.cells (i64s seq) true)
def look06 (p : Option (Value × H)) : Option (Value × Bool × Bool × Option Blk) := p.map fun p => (p.1, trOk p.2.next 12 1 0 p.2.tr, Nat.blt 0 p.2.next, p.2.get 0)
theorem awake06 (seq : List Int) : look06 (ev06 1000 39 4 [] (start06 seq)) = some (.bool true, true, true, some (.cells (i64s seq) true)) := by kernel_rfl

theorem awake06' : (ev06 1000 39 4 [] ⟨1, .nil⟩).map (fun p => (p.1, trOk p.2.next 12 1 0 p.2.tr, Nat.blt 0 p.2.next)) = some (.bool true, true, true) := by kernel_rfl

theorem law06_row {a b : Int} {seq : List Int} (hi : ∀ t ∈ seq, i64 t) :
    ∃ h', ev06 1000 40 3 [.int .i64 a, .int .i64 b, .slice (some ⟨0, 0, none⟩) seq.length 1] (start06 seq) = some (.bool true, h') := by
  have e := awake06 seq
  unfold look06 at e
  cases he : ev06 1000 39 4 [] (start06 seq) with
  | none => rw [he] at e; simp at e
  | some p =>
    obtain ⟨v, h1⟩ := p
    rw [he] at e
    simp only [Option.map_some, Option.some.injEq, Prod.mk.injEq] at e
    obtain ⟨rfl, e1, e2, e3⟩ := e
    exact law06 hi (.inr ⟨rfl, 0, true, rfl, e3⟩) (Wf.of e1) (fun q hq => by cases hq; rwa [Nat.blt_eq] at e2) he
theorem law06_none {a b : Int} {s : Option Addr} {sst : Nat} (hs : ∀ q, s = some ⟨q, 0, none⟩ → q = 0) :
    ∃ h', ev06 1000 40 3 [.int .i64 a, .int .i64 b, .slice s 0 sst] ⟨1, .nil⟩ = some (.bool true, h') := by
  have e := awake06'
  cases he : ev06 1000 39 4 [] ⟨1, .nil⟩ with
  | none => rw [he] at e; simp at e
  | some p =>
    obtain ⟨v, h1⟩ := p
    rw [he] at e
    simp only [Option.map_some, Option.some.injEq, Prod.mk.injEq] at e
    obtain ⟨rfl, e1, e2⟩ := e
    exact law06 (seq := []) (fun t ht => by simp at ht) (.inl rfl) (Wf.of e1) (fun q hq => by rw [hs q hq]; rwa [Nat.blt_eq] at e2) he
end Go.Ev
