/-
  PhaseReads: the call.
-/
import Derived.Test.YtopplgmooidhhaaDoorA37
import Derived.Test.YtopplgmooidhhaaDoorS37
import Derived.Test.YtopplgmooidhhaaDoorD37
import Derived.Below
namespace Go.Ev
open Go Go.Proofs Go.RowKit

theorem noCount_of {P : Program} (h : P.funcs.all (fun fn => !(fn.name == "runtime.NumGoroutine")) = true) : NoCount P := by
  intro f fn hf
  have := Array.all_eq_true_iff_forall_mem.1 h fn (Array.mem_of_getElem? hf)
  simpa using this
theorem nc37 : NoCount P37 := noCount_of (by kernel_rfl)
theorem mixed37 : P37.follows .mixedOrders = true := by kernel_rfl

/-- The world as it was. -/
def baseOf (w : World) : Base := ⟨w.heap.size, fun b => w.heap[b]?⟩
theorem sim_none {ρ : Rho} {w : World} {n : Nat} (hd : ∀ i x, ρ i = some x → i < n) : Sim ρ (baseOf w) ⟨n, .nil⟩ w :=
  ⟨hd, Nat.le_refl _, fun _ _ => rfl, fun i x hi => (by simp [H.get, Tr.get_nil] at hi), fun i j x y b o K o' K' hi => (by simp [H.get, Tr.get_nil] at hi)⟩
/-- What a run over blocks that are only read leaves. -/
theorem PostG.below {ρ ρ' : Rho} {h h' : H} {w w' : World} (hro : ∀ i x, h.get i = some x → x.wr = false) (p : Post (baseOf w) ρ h w ρ' h' w') : Below w.heap.size w w' :=
  ⟨p.os, p.tape, p.output, p.size, fun k hk => p.frame k hk fun i x o K hi hx => by rw [hro i x hi] at hx; cases hx⟩

theorem tab_keep {P : Program} {w w' : World} {name : String} {k : IntKind} {zs : List Int} {g : Nat} (hg : P.globalNamed name = some g) (h : Lib.TabIs P w name k zs) (e : w'.heap[g]? = w.heap[g]?) : Lib.TabIs P w' name k zs := by
  unfold Lib.TabIs World.var? at h ⊢
  rw [hg] at h ⊢
  simp only [Option.bind_some] at h ⊢
  rw [e]; exact h
theorem g37pow : P37.globalNamed "internal/strconv.uint64pow10" = some 1 := by kernel_rfl

/-- What the call leans on in the world. -/
structure Fit37 (w : World) : Prop where
  size : 2 ≤ w.heap.size
  max : ∃ m, w.cell? ⟨0, 0, none⟩ = some (.int .i64 m)
  tab : Lib.TabIs P37 w "internal/strconv.uint64pow10" .u64 Lib.pow10Tab

theorem intr37_ok {w : World} (F : Fit37 w) : IntrOK P37 (baseOf w) intr37 := by
  have hs : StandsFor P37 (baseOf w) 16 splitI := by
    refine splitI_ok (g := 0) (te := 9) (fun s sep m w' h1 h2 h3 => Tryd.strings_Split s sep m w' h1 h2 h3) fun w' hstill => ?_
    obtain ⟨m, hm⟩ := F.max
    refine ⟨m, ?_⟩
    have h0 : w'.heap[0]? = w.heap[0]? := hstill 0 (by show 0 < w.heap.size; have := F.size; omega)
    unfold World.cell? at hm ⊢
    simp only at hm ⊢
    rw [h0]; exact hm
  have hi : StandsFor P37 (baseOf w) 20 itoaI :=
    itoaI_ok fun n w' h0 h1 hstill => Tryd.strconv_Itoa n h0 h1 w' (tab_keep g37pow F.tab (hstill 1 (by show 1 < w.heap.size; have := F.size; omega)))
  have hj : StandsFor P37 (baseOf w) 21 joinI :=
    joinI_ok (fun a c sep w' => Tryd.strings_Join_none a c sep w') fun bk o c xs sep w' h1 h2 h3 h4 h5 => Tryd.strings_Join bk o c xs sep w' h1 h2 h3 h4 h5
  have hd : StandsFor P37 (baseOf w) 23 digitsI := by
    refine digitsI_ok fun n w' h0 h1 => ?_
    obtain ⟨k, rfl⟩ : ∃ k : Nat, n = (k : Int) := ⟨n.toNat, by omega⟩
    refine (digits_calls (k + 1) k (by omega) (by omega) w').mono fun e w2 ⟨he, hb⟩ => ⟨?_, hb⟩
    rw [he, Int.toNat_natCast, digs_eq 20 k (by omega) (by omega)]
    rfl
  intro f g hf
  unfold intr37 at hf
  split at hf
  · cases hf; exact hs
  · cases hf; exact hi
  · cases hf; exact hj
  · cases hf; exact hd
  · cases hf
theorem sound37 {w : World} (F : Fit37 w) (r n : Nat) : CallOK P37 (baseOf w) (ev37 r n) := (evCall_sound nc37 mixed37 (intr37_ok F) n).1

theorem call37 {f : FuncId} {args args' : List Value} {h h' : H} {r n : Nat} {ρ : Rho} {w : World} (F : Fit37 w) (e : ev37 r n f args h = some (.bool true, h')) (hs : Sim ρ (baseOf w) h w) (hv : VRs ρ args args')
    (hro : ∀ i x, h.get i = some x → x.wr = false) : Calls P37 f args'.toArray w fun e w' => e = .returned (.bool true) ∧ Below w.heap.size w w' := by
  refine (sound37 F r n f args h _ h' e ρ w args' hs hv).mono fun x w' hx => ?_
  obtain ⟨ρ', v', rfl, hp, hv'⟩ := hx
  cases hv'
  exact ⟨rfl, PostG.below hro hp⟩

/-- The law's call, over a row of phases that came in. -/
theorem walk37 (s : ByteArray) (a : Option Addr) (len cap : Nat) (z : Nat → Ph) (w : World) (F : Fit37 w)
    (hs : (a = none ∧ len = 0 ∧ cap = 0) ∨
      ∃ x, a = some x ∧ len ≤ cap ∧ ∀ i, i < cap → w.cell? (x.add (i * 2)) = some (.int .i64 (z i).1) ∧ w.cell? (x.add (i * 2 + 1)) = some (.int .i64 (z i).2)) :
    Calls P37 3 #[.string s, .slice a len cap] w fun e w' => e = .returned (.bool true) ∧ Below w.heap.size w w' := by
  have none_ro : ∀ (i : Nat) (x : Blk), H.get ⟨0, .nil⟩ i = some x → x.wr = false := fun i x hi => (by simp [H.get, Tr.get_nil] at hi)
  have start_ro : ∀ (d : List Ph) (i : Nat) (x : Blk), (start37 d).get i = some x → i = 0 ∧ x = .cells (d.flatMap phC) true := by
    intro d i y hi
    unfold start37 at hi
    rw [H.get_new] at hi
    split at hi
    · cases hi; exact ⟨‹_›, rfl⟩
    · simp [H.get, Tr.get_nil] at hi
  rcases hs with ⟨rfl, rfl, rfl⟩ | ⟨x, rfl, hl, hcell⟩
  · obtain ⟨h', e⟩ := law37_none s.data.toList .nil
    rw [txt_data] at e
    exact call37 F e (sim_none (ρ := fun _ => none) fun i x hx => (by cases hx)) (.cons (.string _) (.cons .snil (.nil _))) none_ro
  · rcases Nat.eq_zero_or_pos cap with h0 | h0
    · subst h0
      have : len = 0 := by omega
      subst this
      obtain ⟨h', e⟩ := law37_none s.data.toList (a := some ⟨0, 0, none⟩) (sa := 2) (.inr ⟨rfl, 0, 0, rfl, fun i x hx => by simp at hx⟩)
      rw [txt_data] at e
      exact call37 F e (sim_none (ρ := fun _ => none) fun i x hx => (by cases hx)) (.cons (.string _) (.cons .sempty (.nil _))) none_ro
    · obtain ⟨h', e⟩ := law37_row s.data.toList ((List.range len).map z)
      rw [txt_data, List.length_map, List.length_range] at e
      obtain ⟨xb, xo, xs⟩ := x
      have c0 := (hcell 0 (by omega)).1
      have hadd0 : (⟨xb, xo, xs⟩ : Addr).add (0 * 2) = ⟨xb, xo, xs⟩ := rfl
      rw [hadd0] at c0
      unfold World.cell? at c0
      split at c0
      · rename_i C ety fr hob
        have hsp : xs = none := by
          cases xs with
          | none => rfl
          | some _ => simp at c0
        subst hsp
        refine call37 F (ρ := fun i => if i = 0 then some (xb, xo, xo + cap * 2) else none) e ?_ ?_ fun i y hi => by rw [(start_ro _ i y hi).2]; rfl
        · refine ⟨fun i y hi => ?_, Nat.le_refl _, fun _ _ => rfl, fun i y hi => ?_, fun i j y z b o K o' K' hi hj _ _ _ => by rw [(start_ro _ i y hi).1, (start_ro _ j z hj).1]⟩
          · split at hi
            · show i < 1; omega
            · cases hi
          · obtain ⟨rfl, rfl⟩ := start_ro _ i y hi
            refine ⟨xb, xo, xo + cap * 2, .cells C ety fr, by simp, hob, fun j v hj => ?_, fun h => by cases h⟩
            have hcl := flatMap_len (e := phC) (k := 2) (l := (List.range len).map z) (fun _ _ => rfl)
            rw [List.length_map, List.length_range] at hcl
            have hjl : j < len * 2 := by
              have := (List.getElem?_eq_some_iff.1 hj).1
              omega
            have hi2 : j / 2 < len := by omega
            have hgz : ((List.range len).map z)[j / 2]? = some (z (j / 2)) := by simp [hi2]
            obtain ⟨k0, k1⟩ := hcell (j / 2) (by omega)
            have hj2 : j % 2 = 0 ∨ j % 2 = 1 := by omega
            rcases hj2 with hm | hm
            · have := flatMap_get (e := phC) (k := 2) (fun _ _ => rfl) hgz 0 _ rfl
              have hjj : j / 2 * 2 + 0 = j := by omega
              rw [hjj, hj] at this
              cases this
              refine ⟨rfl, _, ?_, .int _ _⟩
              rw [add_plain, cell?_of hob] at k0
              have hjj : j / 2 * 2 = j := by omega
              rw [hjj] at k0; exact k0
            · have := flatMap_get (e := phC) (k := 2) (fun _ _ => rfl) hgz 1 _ rfl
              have hjj : j / 2 * 2 + 1 = j := by omega
              rw [hjj, hj] at this
              cases this
              refine ⟨rfl, _, ?_, .int _ _⟩
              rw [add_plain, cell?_of hob] at k1
              rw [hjj] at k1; exact k1
        · refine .cons (.string _) (.cons ?_ (.nil _))
          have := VR.slice (ρ := fun i => if i = 0 then some (xb, xo, xo + cap * 2) else none) (i := 0) (o := 0) (st := 2) (len := len) (cap := cap) (b := xb) (c := xo) (K := xo + cap * 2) (by simp) hl (by omega)
          simpa using this
      · cases c0
end Go.Ev
