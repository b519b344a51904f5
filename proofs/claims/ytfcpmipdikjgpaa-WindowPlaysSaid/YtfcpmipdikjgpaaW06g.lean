/-
  WindowPlays: the call.
-/
import Derived.Test.YtfcpmipdikjgpaaW06f
import Derived.Below
namespace Go.Ev
open Go Go.Proofs Go.RowKit

theorem noCount_of {P : Program} (h : P.funcs.all (fun fn => !(fn.name == "runtime.NumGoroutine")) = true) : NoCount P := by
  intro f fn hf
  have := Array.all_eq_true_iff_forall_mem.1 h fn (Array.mem_of_getElem? hf)
  simpa using this

theorem sim_none {ρ : Rho} {w : World} {n : Nat} (hd : ∀ i x, ρ i = some x → i < n) : Sim ρ w.heap.size ⟨n, .nil⟩ w :=
  ⟨hd, Nat.le_refl _, fun i x hi => (by simp [H.get, Tr.get_nil] at hi), fun i j x y b o K o' K' hi => (by simp [H.get, Tr.get_nil] at hi)⟩

/-- What a run over blocks that are only read leaves. -/
theorem PostG.below {ρ ρ' : Rho} {h h' : H} {w w' : World} (hro : ∀ i x, h.get i = some x → x.wr = false) (p : Post w.heap.size ρ h w ρ' h' w') : Below w.heap.size w w' :=
  ⟨p.os, p.tape, p.output, p.size, fun k hk => p.frame k hk fun i x o K hi hx => by rw [hro i x hi] at hx; cases hx⟩

theorem nc06 : NoCount P6 := noCount_of (by kernel_rfl)
theorem mixed06 : P6.follows .mixedOrders = true := by kernel_rfl
theorem sound06 (base r n : Nat) : CallOK P6 base (ev06 r n) := (evCall_sound nc06 mixed06 (fun f g h => by cases h) n).1

theorem call06 {base : Nat} {f : FuncId} {args args' : List Value} {h h' : H} {r n : Nat} {ρ : Rho} {w : World} (e : ev06 r n f args h = some (.bool true, h')) (hb : base = w.heap.size) (hs : Sim ρ base h w) (hv : VRs ρ args args')
    (hro : ∀ i x, h.get i = some x → x.wr = false) : Calls P6 f args'.toArray w fun e w' => e = .returned (.bool true) ∧ Below w.heap.size w w' := by
  subst hb
  refine (sound06 _ r n f args h _ h' e ρ w args' hs hv).mono fun x w' hx => ?_
  obtain ⟨ρ', v', rfl, hp, hv'⟩ := hx
  cases hv'
  exact ⟨rfl, hp.below hro⟩

theorem wf_i64 {n : Int} (h : (Lit.int .i64 n).wf = true) : i64 n := by
  have h1 : (decide (IntKind.i64.min ≤ n) && decide (n ≤ IntKind.i64.max)) = true := h
  simp only [Bool.and_eq_true, decide_eq_true_eq] at h1
  have e1 : IntKind.i64.min = -9223372036854775808 := by decide
  have e2 : IntKind.i64.max = 9223372036854775807 := by decide
  rw [e1, e2] at h1
  unfold i64
  omega

/-- The law's call, over a row of numbers that came in. -/
theorem walk06 (a b : Int) (s : Option Addr) (len cap : Nat) (zs : List Int) (w : World)
    (hs : (s = none ∧ len = 0 ∧ cap = 0 ∧ zs = []) ∨
      ∃ x, s = some x ∧ len ≤ cap ∧ cap ≤ maxLen ∧ zs.length = cap ∧ (∀ i, i < zs.length → w.cell? (x.add i) = some (.int .i64 (zs.getD i 0))) ∧ ∀ n ∈ zs, (Lit.int .i64 n).wf = true) :
    Calls P6 3 #[.int .i64 a, .int .i64 b, .slice s len cap] w fun e w' => e = .returned (.bool true) ∧ Below w.heap.size w w' := by
  have none_ro : ∀ (i : Nat) (x : Blk), H.get ⟨1, .nil⟩ i = some x → x.wr = false := fun i x hi => (by simp [H.get, Tr.get_nil] at hi)
  rcases hs with ⟨rfl, rfl, rfl, rfl⟩ | ⟨x, rfl, hl, _, hz, hcell, hwz⟩
  · obtain ⟨h', e⟩ := law06_none (a := a) (b := b) (s := none) (sst := 0) (fun q hq => by cases hq)
    exact call06 e rfl (sim_none (ρ := fun _ => none) fun i x hx => (by cases hx)) (.cons (.int _ _) (.cons (.int _ _) (.cons .snil (.nil _)))) none_ro
  · rcases Nat.eq_zero_or_pos cap with h0 | h0
    · subst h0
      have : len = 0 := by omega
      subst this
      obtain ⟨h', e⟩ := law06_none (a := a) (b := b) (s := some ⟨0, 0, none⟩) (sst := 1) (fun q hq => by cases hq; rfl)
      exact call06 e rfl (sim_none (ρ := fun _ => none) fun i x hx => (by cases hx)) (.cons (.int _ _) (.cons (.int _ _) (.cons .sempty (.nil _)))) none_ro
    · obtain ⟨xb, xo, xs⟩ := x
      have c0 := hcell 0 (by omega)
      have hadd0 : (⟨xb, xo, xs⟩ : Addr).add 0 = ⟨xb, xo, xs⟩ := rfl
      rw [hadd0] at c0
      unfold World.cell? at c0
      split at c0
      · rename_i C ety fr hob
        have hsp : xs = none := by
          cases xs with
          | none => rfl
          | some _ => simp at c0
        subst hsp
        obtain ⟨h', e⟩ := law06_row (a := a) (b := b) (seq := zs.take len) (fun t ht => wf_i64 (hwz t (List.mem_of_mem_take ht)))
        have hlen : (zs.take len).length = len := by rw [List.length_take]; omega
        rw [hlen] at e
        refine call06 (ρ := fun i => if i = 0 then some (xb, xo, xo + cap) else none) e rfl ?_ ?_ ?_
        · have g0 : ∀ i y, (start06 (zs.take len)).get i = some y → i = 0 ∧ y = .cells (i64s (zs.take len)) true := by
            intro i y hi
            unfold start06 at hi
            rw [H.get_new] at hi
            split at hi
            · cases hi; exact ⟨‹_›, rfl⟩
            · simp [H.get, Tr.get_nil] at hi
          refine ⟨fun i y hi => ?_, Nat.le_refl _, fun i y hi => ?_, fun i j y z b o K o' K' hi hj _ _ _ => by rw [(g0 i y hi).1, (g0 j z hj).1]⟩
          · split at hi
            · show i < 1; omega
            · cases hi
          · obtain ⟨rfl, rfl⟩ := g0 i y hi
            refine ⟨xb, xo, xo + cap, .cells C ety fr, by simp, hob, fun j v hj => ?_, fun h => by cases h⟩
            have hjl : j < len := by
              have := (List.getElem?_eq_some_iff.1 hj).1
              simp [i64s] at this; omega
            have hv : v = .int .i64 (zs.getD j 0) := by
              simp only [i64s, List.getElem?_map, List.getElem?_take, hjl, if_true] at hj
              cases hzj : zs[j]? with
              | none => rw [hzj] at hj; cases hj
              | some z => rw [hzj] at hj; simp at hj; subst hj; simp [List.getD_eq_getElem?_getD, hzj]
            subst hv
            refine ⟨rfl, .int .i64 (zs.getD j 0), ?_, .int _ _⟩
            have cj := hcell j (by omega)
            rw [add_plain, cell?_of hob] at cj
            exact cj
        · refine .cons (.int _ _) (.cons (.int _ _) (.cons ?_ (.nil _)))
          have := VR.slice (ρ := fun i => if i = 0 then some (xb, xo, xo + cap) else none) (i := 0) (o := 0) (st := 1) (len := len) (cap := cap) (b := xb) (c := xo) (K := xo + cap) (by simp) hl (by omega)
          simpa using this
        · intro i y hi
          unfold start06 at hi
          rw [H.get_new] at hi
          split at hi
          · cases hi; rfl
          · simp [H.get, Tr.get_nil] at hi
      · cases c0
end Go.Ev
