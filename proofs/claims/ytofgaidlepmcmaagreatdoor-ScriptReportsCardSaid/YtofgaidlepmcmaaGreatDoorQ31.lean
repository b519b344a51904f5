/-
  ScriptReports: split stands for the words of its line.
-/
import Derived.Test.YtofgaidlepmcmaaGreatDoorK31
namespace Go.Ev
open Go Go.Proofs Go.RowKit

def wordsI : Intr
  | [.string s], h =>
    bif Nat.blt s.size 1000000 then
      match (pieces 32 s.data.toList).filter (fun p => !p.isEmpty) with
      | [] => none
      | p :: l => some (.slice (some ⟨h.next, 0, none⟩) (p :: l).length 1, h.new (.cells ((p :: l).map fun p => .string (txt p)) false))
    else none
  | _, _ => none

theorem split_sep (s : ByteArray) : (Lib.splitB ⟨#[32]⟩ 0 (Lib.countB s ⟨#[32]⟩) s) = (pieces 32 s.data.toList).map txt ∧ Lib.countB s ⟨#[32]⟩ + 1 = (pieces 32 s.data.toList).length := by
  have hp : (Lib.splitB ⟨#[32]⟩ 0 (Lib.countB s ⟨#[32]⟩) s).map (·.data.toList) = pieces 32 s.data.toList := by
    rw [Lib.splitB_data]
    rw [show Lib.countB s ⟨#[32]⟩ = Lib.count s.data.toList [32] from rfl]
    exact splitK_pieces ..
  have hq : Lib.splitB ⟨#[32]⟩ 0 (Lib.countB s ⟨#[32]⟩) s = (pieces 32 s.data.toList).map txt := by
    rw [← hp, List.map_map]
    have : (txt ∘ fun x : ByteArray => x.data.toList) = id := by funext x; exact txt_data x
    rw [this]; simp
  refine ⟨hq, ?_⟩
  rw [← hp, List.length_map, Lib.splitB_all ⟨#[32]⟩ (by decide) 0 _ s rfl]

theorem pieces_len (c : UInt8) : ∀ l : List UInt8, (pieces c l).length ≤ l.length + 1 := by
  intro l
  induction l with
  | nil => simp [pieces]
  | cons b l ih =>
    unfold pieces
    cases Nat.beq b.toNat c.toNat with
    | true => simp; omega
    | false =>
      simp only [cond_false]
      split
      · rename_i p ps e
        rw [e] at ih
        simp at ih ⊢; omega
      · simp
theorem count_le (s : ByteArray) : Lib.countB s ⟨#[32]⟩ ≤ s.size := by
  have h1 := (split_sep s).2
  have h2 := pieces_len 32 s.data.toList
  have h3 : s.size = s.data.toList.length := Lib.size_eq s
  omega

theorem ne0_txt (p : List UInt8) : ne0 (txt p) = !p.isEmpty := by
  cases p <;> rfl

theorem wordsI_ok {base : Base} (h1 : 2 ≤ base.n) (hm : ∀ w : World, (∀ b, b < base.n → w.heap[b]? = base.obj b) → ∃ m, w.cell? ⟨1, 0, none⟩ = some (.int .i64 m)) : StandsFor Tryz.prog base 32 wordsI := by
  intro args h v h' hg
  unfold wordsI at hg
  split at hg
  · rename_i s
    cases hb : Nat.blt s.size 1000000 with
    | false => rw [hb] at hg; cases hg
    | true =>
      rw [hb] at hg
      simp only [cond_true] at hg
      have hlt : s.size < 1000000 := by rwa [Nat.blt_eq] at hb
      obtain ⟨e1, e2⟩ := split_sep s
      have hcall : ∀ (ρ : Rho) (w : World) (args' : List Value), Sim ρ base h w → VRs ρ [.string s] args' → Calls Tryz.prog 32 args'.toArray w fun e w' => ∃ v, e = .returned v ∧ w'.ownsRow w.heap.size 9 1 v ((pieces 32 s.data.toList).filter (fun p => !p.isEmpty)).length (((pieces 32 s.data.toList).filter (fun p => !p.isEmpty)).map fun p => .string (txt p)) ∧ Below w.heap.size w w' := by
        intro ρ w args' hs hv
        obtain ⟨a, rfl, h3⟩ := hv.one
        have ha : a = .string s := by cases h3; rfl
        subst ha
        obtain ⟨m, hm⟩ := hm w hs.still
        refine (callsIn_wide.1 (Tryz.split_in s m ((pieces 32 s.data.toList).map txt) (by have := count_le s; simp; omega) (fun W hW => ?_) w (by have := hs.based; omega) hm)).mono ?_
        · have := Tryz.strings_Split s ⟨#[32]⟩ m W (by omega) hW (by decide)
          rw [e1, e2] at this
          simpa using this
        · rintro e w' ⟨v, he, hr, hbl⟩
          have hfl : (((pieces 32 s.data.toList).map txt).filter ne0) = ((pieces 32 s.data.toList).filter (fun p => !p.isEmpty)).map txt := by
            rw [List.filter_map]
            congr 1
            apply List.filter_congr
            intro p _
            exact ne0_txt p
          rw [hfl] at hr
          refine ⟨v, he, ?_, hbl⟩
          rw [List.map_map, List.length_map] at hr
          exact hr
      cases hl : (pieces 32 s.data.toList).filter (fun p => !p.isEmpty) with
      | nil =>
        rw [hl] at hg; cases hg
      | cons p l =>
        rw [hl] at hg hcall
        simp only [Option.some.injEq, Prod.mk.injEq] at hg
        obtain ⟨rfl, rfl⟩ := hg
        refine ⟨Nat.le_succ _, fun ρ w args' hs hv => ?_⟩
        refine (hcall ρ w args' hs hv).mono ?_
        rintro e w' ⟨v, he, hr, hbl⟩
        rcases hr.2 with ⟨_, h0⟩ | ⟨g, cap, cur, rfl, hbg, hg, hnc, hcm, hcs, htake⟩
        · simp at h0
        · have hcur : ∀ (j : Nat) u, ((p :: l).map fun p => Value.string (txt p))[j]? = some u → cur[j]? = some u := fun j u hj => by
            rw [← htake, List.getElem?_take] at hj
            split at hj
            · simpa using hj
            · cases hj
          refine ⟨ρ.ins h.next (g, 0, cur.size), _, he, PostG.adopt (Post.below hs hbl) hs.based hbg hg ?_ ?_, ?_⟩
          · show _ ∧ _
            refine ⟨fun j u hj => ?_, fun _ => ⟨Nat.le_trans hs.based hbg, rfl, ?_, fun j _ _ => ?_⟩⟩
            · rw [Nat.zero_add]
              have h2 := hcur j u hj
              rw [List.getElem?_map] at hj
              cases hx : (p :: l)[j]? with
              | none => rw [hx] at hj; cases hj
              | some x =>
                rw [hx] at hj; simp at hj; subst hj
                exact ⟨rfl, _, h2, .string _⟩
            · simp; simp at hnc; omega
            · omega
          · intro i y o K' hi hri
            obtain ⟨b, o2, K2, ob, r1, r2, r3⟩ := hs.blk i y hi
            rw [hri] at r1; cases r1
            have := (Array.getElem?_eq_some_iff.1 r2).1
            omega
          · have := VR.slice (ρ := ρ.ins h.next (g, 0, cur.size)) (i := h.next) (o := 0) (st := 1) (len := (p :: l).length) (cap := cap) (Rho.ins_same _ _ _) (by simp at hnc ⊢; omega) (by simp at hcs; simp; omega)
            simpa using this
  · cases hg
end Go.Ev
