/-
  What came in, read into memory: numbers, texts, structs and slices, one in the other.
-/
import Derived.Test.YtofgaidlepmcmaaGreatDoorEvU
import Derived.ChangeFn
import Derived.DataReads
namespace Go.Ev
open Go Go.RowKit

section
variable {P : Program}

def tiles (P : Program) : Nat → List Field → Nat → Bool
  | off, [], n => Nat.beq off n
  | off, f :: fs, n => Nat.beq f.offset off && tiles P (off + P.cellsOf f.type) fs n
/-- A type whose things can be read so. -/
def okT (P : Program) : Nat → TypeId → Bool
  | 0, _ => false
  | g + 1, t => match P.underlying t with
    | some .bool => true
    | some (.int _) => true
    | some .string => true
    | some (.slice e) => Nat.blt 0 (P.cellsOf e) && okT P g e
    | some (.struct fs) => tiles P 0 fs.toList (P.cellsOf t) && fs.toList.all fun f => okT P g f.type
    | _ => false

def RdFs (rd : TypeId → List Value → Prop) (sz : TypeId → Nat) : List Field → List Value → Prop
  | [], ac => ac = []
  | f :: fs, ac => ∃ a b, ac = a ++ b ∧ a.length = sz f.type ∧ rd f.type a ∧ RdFs rd sz fs b
/-- What a thing of that type is in memory. -/
def Rd (P : Program) (h : H) : Nat → TypeId → List Value → Prop
  | 0, _, _ => False
  | g + 1, t, ac => match P.underlying t with
    | some .bool => ∃ b, ac = [.bool b]
    | some (.int k) => ∃ n, ac = [.int k n] ∧ (Lit.int k n).wf = true
    | some .string => ∃ s, ac = [.string s] ∧ s.size ≤ maxLen
    | some (.slice e) => ac = [.slice none 0 0] ∨ ∃ j len cs, ac = [.slice (some ⟨j, 0, none⟩) len (P.cellsOf e)] ∧ len ≤ maxLen ∧ cs.length = len * P.cellsOf e ∧ (0 < len → Has h j (.cells cs true)) ∧
        ∀ i, i < len → Rd P h g e ((cs.drop (i * P.cellsOf e)).take (P.cellsOf e))
    | some (.struct fs) => RdFs (Rd P h g) P.cellsOf fs.toList ac
    | _ => False

theorem RdFs.mono {rd rd' : TypeId → List Value → Prop} {sz : TypeId → Nat} (hm : ∀ t ac, rd t ac → rd' t ac) : ∀ (fs : List Field) (ac : List Value), RdFs rd sz fs ac → RdFs rd' sz fs ac
  | [], _, h => h
  | _ :: fs, _, ⟨a, b, h1, h2, h3, h4⟩ => ⟨a, b, h1, h2, hm _ _ h3, RdFs.mono hm fs b h4⟩
theorem Rd.ext {h h' : H} (E : Ext h h') : ∀ (g : Nat) (t : TypeId) (ac : List Value), Rd P h g t ac → Rd P h' g t ac := by
  intro g
  induction g with
  | zero => intro t ac x; exact x.elim
  | succ g ih =>
    intro t ac x
    unfold Rd at x ⊢
    cases hu : P.underlying t with
    | none => rw [hu] at x; exact x.elim
    | some d =>
    rw [hu] at x
    cases d <;> simp only at x ⊢ <;> first
      | exact x
      | exact RdFs.mono ih _ _ x
      | skip
    · rcases x with x | ⟨j, len, cs, h1, h2, h3, h4, h5⟩
      · exact .inl x
      · exact .inr ⟨j, len, cs, h1, h2, h3, fun h0 => (h4 h0).ext E, fun i hi => ih _ _ (h5 i hi)⟩
theorem Rd.one {h : H} : ∀ (g : Nat) (t : TypeId) (ac : List Value), Rd P h g t ac → ∀ x ∈ ac, x.oneCell' = true := by
  intro g
  induction g with
  | zero => intro t ac x; exact x.elim
  | succ g ih =>
    intro t ac x
    unfold Rd at x
    split at x
    · obtain ⟨b, rfl⟩ := x; intro y hy; simp at hy; subst hy; rfl
    · obtain ⟨b, rfl, _⟩ := x; intro y hy; simp at hy; subst hy; rfl
    · obtain ⟨b, rfl, _⟩ := x; intro y hy; simp at hy; subst hy; rfl
    · rcases x with rfl | ⟨j, len, cs, rfl, _⟩ <;> (intro y hy; simp at hy; subst hy; rfl)
    · rename_i fs _
      revert x
      generalize fs.toList = l
      induction l generalizing ac with
      | nil => intro x y hy; cases x; simp at hy
      | cons f fs ihf =>
        rintro ⟨a, b, rfl, _, h3, h4⟩ y hy
        rcases List.mem_append.1 hy with hy | hy
        · exact ih _ _ h3 y hy
        · exact ihf b h4 y hy
    · exact x.elim

/-- Only what is read. -/
def RO (h : H) : Prop := ∀ i x, h.get i = some x → x.wr = false
/-- What a reading leaves. -/
structure Read (w : World) (ρ : Rho) (h : H) (ρ' : Rho) (h' : H) : Prop where
  le : ρ.le ρ'
  ext : Ext h h'
  sim : Sim ρ' (baseAt w) h' w
  ro : RO h'
theorem Read.refl {w : World} {ρ : Rho} {h : H} (hs : Sim ρ (baseAt w) h w) (hr : RO h) : Read w ρ h ρ h := ⟨.refl ρ, .refl h, hs, hr⟩
theorem Read.trans {w : World} {ρ ρ' ρ'' : Rho} {h h' h'' : H} (a : Read w ρ h ρ' h') (b : Read w ρ' h' ρ'' h'') : Read w ρ h ρ'' h'' := ⟨a.le.trans b.le, a.ext.trans b.ext, b.sim, b.ro⟩

/-- A row that is read comes to be known. -/
theorem Read.row {w : World} {ρ : Rho} {h : H} (hs : Sim ρ (baseAt w) h w) (hr : RO h) {b o K : Nat} {C : Array Value} {e : TypeId} {fr : Nat × Nat} {cs : List Value} (hb : w.heap[b]? = some (.cells C e fr)) (ho : ∀ x ∈ cs, x.oneCell' = true)
    (hv : ∀ (j : Nat) v, cs[j]? = some v → ∃ v', C[o + j]? = some v' ∧ VR ρ v v') : Read w ρ h (ρ.ins h.next (b, o, K)) (h.new (.cells cs true)) := by
  have hle : ρ.le (ρ.ins h.next (b, o, K)) := Rho.le_ins _ hs.fresh
  refine ⟨hle, (Ext.refl h).new _, ⟨fun i x hi => ?_, Nat.le_refl _, fun _ _ => rfl, fun i x hi => ?_, fun i j x y b1 o1 K1 o2 K2 hi hj hri hrj hb1 => ?_⟩, fun i x hi => ?_⟩
  · rw [H.next_new]
    by_cases e : i = h.next
    · omega
    · rw [Rho.ins_other _ _ e] at hi; have := hs.dom _ _ hi; omega
  · rw [H.get_new] at hi
    by_cases e : i = h.next
    · subst e
      simp only [if_true] at hi; cases hi
      exact ⟨b, o, K, _, Rho.ins_same _ _ _, hb, fun j v hj => let ⟨v', h1, h2⟩ := hv j v hj; ⟨ho v (List.mem_of_getElem? hj), v', h1, h2.mono hle⟩, fun h => by cases h⟩
    · simp only [e, if_false] at hi
      obtain ⟨b', o', K', obj, h1, h2, h3⟩ := hs.blk i x hi
      exact ⟨b', o', K', obj, by rw [Rho.ins_other _ _ e]; exact h1, h2, h3.mono hle⟩
  · exfalso
    have hlt : b1 < w.heap.size := by
      rw [H.get_new] at hi
      by_cases e : i = h.next
      · subst e
        rw [Rho.ins_same] at hri; cases hri
        exact (Array.getElem?_eq_some_iff.1 hb).1
      · simp only [e, if_false] at hi
        obtain ⟨b', o', K', obj, h1, h2, h3⟩ := hs.blk i x hi
        rw [Rho.ins_other _ _ e, h1] at hri; cases hri
        exact (Array.getElem?_eq_some_iff.1 h2).1
    have h9 : w.heap.size ≤ b1 := hb1
    omega
  · rw [H.get_new] at hi
    split at hi
    · cases hi; rfl
    · exact hr i x hi

theorem cell_spot {w : World} {a : Addr} {v : Value} (h : w.cell? a = some v) : ∃ C e fr, a = ⟨a.block, a.off, none⟩ ∧ w.heap[a.block]? = some (.cells C e fr) := by
  unfold World.cell? at h
  split at h
  · rename_i C e fr hb
    obtain ⟨b, o, sp⟩ := a
    cases sp with
    | none => exact ⟨C, e, fr, rfl, hb⟩
    | some _ => simp at h
  · cases h
theorem tiles_le : ∀ {fl : List Field} {off n : Nat}, tiles P off fl n = true → off ≤ n := by
  intro fl
  induction fl with
  | nil => intro off n h; exact Nat.le_of_eq (Nat.eq_of_beq_eq_true h)
  | cons f fl ih =>
    intro off n h
    simp only [tiles, Bool.and_eq_true] at h
    have := ih h.2
    omega

theorem read_trod {HH : Type} {enc : TypeId × Value → HH} {w : World} {spare : Nat → Bool} (hsp : ∀ b, spare b = true) {held : Bool} : ∀ (g : Nat) (t : TypeId), okT P g t = true → ∀ (fuel : Nat) (cs : List Value) (x : DataW HH × List MemPlace) (ρ : Rho) (h : H),
    DataW.trod enc P w 0 spare held fuel t cs = some x → Sim ρ (baseAt w) h w → RO h → ∃ ρ' h' ac, Read w ρ h ρ' h' ∧ VRs ρ' ac cs ∧ Rd P h' g t ac := by
  intro g
  induction g with
  | zero => intro t ho; cases ho
  | succ g ih =>
    intro t ho fuel cs x ρ h ht hs hr
    unfold okT at ho
    cases hu : P.underlying t with
    | none => rw [hu] at ho; cases ho
    | some d =>
    rw [hu] at ho
    have rd : ∀ {h' : H} {ac : List Value}, (match some d with
      | some .bool => ∃ b, ac = [.bool b]
      | some (.int k) => ∃ n, ac = [.int k n] ∧ (Lit.int k n).wf = true
      | some .string => ∃ s, ac = [.string s] ∧ s.size ≤ maxLen
      | some (.slice e) => ac = [.slice none 0 0] ∨ ∃ j len cs, ac = [.slice (some ⟨j, 0, none⟩) len (P.cellsOf e)] ∧ len ≤ maxLen ∧ cs.length = len * P.cellsOf e ∧ (0 < len → Has h' j (.cells cs true)) ∧
          ∀ i, i < len → Rd P h' g e ((cs.drop (i * P.cellsOf e)).take (P.cellsOf e))
      | some (.struct fs) => RdFs (Rd P h' g) P.cellsOf fs.toList ac
      | _ => False) → Rd P h' (g + 1) t ac := fun z => by unfold Rd; rw [hu]; exact z
    cases d with
    | bool =>
      obtain ⟨b, rfl, _⟩ := DataW.trod_bool hu ht
      exact ⟨ρ, h, [.bool b], .refl hs hr, .cons (.bool b) (.nil _), rd ⟨b, rfl⟩⟩
    | int k =>
      obtain ⟨n, rfl, _, hw⟩ := DataW.trod_int hu ht
      exact ⟨ρ, h, [.int k n], .refl hs hr, .cons (.int k n) (.nil _), rd ⟨n, rfl, hw⟩⟩
    | string =>
      obtain ⟨s, rfl, _, hw⟩ := DataW.trod_string hu ht
      exact ⟨ρ, h, [.string s], .refl hs hr, .cons (.string s) (.nil _), rd ⟨s, rfl, hw⟩⟩
    | struct fs =>
      simp only [Bool.and_eq_true] at ho
      obtain ⟨xs, n, rfl, _, hl, hxs, hf⟩ := DataW.trod_struct hu ht
      have hall : ∀ f ∈ fs.toList, ∃ y, DataW.trod enc P w 0 spare held n f.type ((cs.drop f.offset).take (P.cellsOf f.type)) = some y := by
        intro f hm
        obtain ⟨i, hi, rfl⟩ := List.mem_iff_getElem.1 hm
        have hi' : i < fs.size := by simpa using hi
        have h2 : i < xs.length := by omega
        refine ⟨xs[i], ?_⟩
        rw [hf i _ (by simp [hi']), List.getElem?_eq_getElem h2]
      have hok : ∀ f ∈ fs.toList, okT P g f.type = true := List.all_eq_true.1 ho.2
      have key : ∀ (fl : List Field) (off : Nat) (ρ : Rho) (h : H), tiles P off fl (P.cellsOf t) = true → (∀ f ∈ fl, ∃ y, DataW.trod enc P w 0 spare held n f.type ((cs.drop f.offset).take (P.cellsOf f.type)) = some y) → (∀ f ∈ fl, okT P g f.type = true) →
          Sim ρ (baseAt w) h w → RO h → ∃ ρ' h' ac, Read w ρ h ρ' h' ∧ VRs ρ' ac (cs.drop off) ∧ RdFs (Rd P h' g) P.cellsOf fl ac := by
        intro fl
        induction fl with
        | nil =>
          intro off ρ h h1 _ _ hs hr
          have : off = cs.length := by rw [hl]; exact Nat.eq_of_beq_eq_true h1
          subst this
          exact ⟨ρ, h, [], .refl hs hr, by rw [List.drop_length]; exact .nil _, rfl⟩
        | cons f fl ihf =>
          intro off ρ h h1 h2 h3 hs hr
          simp only [tiles, Bool.and_eq_true] at h1
          have ho := Nat.eq_of_beq_eq_true h1.1
          have hle := tiles_le h1.2
          obtain ⟨y, hy⟩ := h2 f (List.mem_cons_self ..)
          obtain ⟨ρ1, hh1, a, R1, V1, D1⟩ := ih f.type (h3 f (List.mem_cons_self ..)) _ _ _ ρ h hy hs hr
          obtain ⟨ρ2, hh2, b, R2, V2, D2⟩ := ihf (off + P.cellsOf f.type) ρ1 hh1 h1.2 (fun f' hf' => h2 f' (List.mem_cons_of_mem _ hf')) (fun f' hf' => h3 f' (List.mem_cons_of_mem _ hf')) R1.sim R1.ro
          rw [ho] at V1
          refine ⟨ρ2, hh2, a ++ b, R1.trans R2, ?_, a, b, rfl, ?_, D1.ext R2.ext, D2⟩
          · have e : cs.drop off = (cs.drop off).take (P.cellsOf f.type) ++ cs.drop (off + P.cellsOf f.type) := by rw [← List.drop_drop, List.take_append_drop]
            rw [e]
            exact (V1.mono R2.le).append V2
          · rw [V1.1, List.length_take, List.length_drop]; omega
      obtain ⟨ρ', h', ac, R1, V1, D1⟩ := key fs.toList 0 ρ h ho.1 hall hok hs hr
      exact ⟨ρ', h', ac, R1, by simpa using V1, rd D1⟩
    | slice e =>
      simp only [Bool.and_eq_true] at ho
      have hk : 0 < P.cellsOf e := by have := ho.1; rw [Nat.blt_eq] at this; exact this
      rcases DataW.trod_slice hu ht with ⟨rfl, _⟩ | ⟨a, len, cap, elems, rest, n, rfl, rfl, _, _, hlc, hcm, hel, hem, hre, _⟩
      · exact ⟨ρ, h, [.slice none 0 0], .refl hs hr, .cons .snil (.nil _), rd (.inl rfl)⟩
      · rcases Nat.eq_zero_or_pos cap with h0 | h0
        · subst h0
          have : len = 0 := by omega
          subst this
          exact ⟨ρ, h, [.slice (some ⟨0, 0, none⟩) 0 (P.cellsOf e)], .refl hs hr, .cons .sempty (.nil _), rd (.inr ⟨0, 0, [], rfl, by omega, by simp, fun h => absurd h (Nat.lt_irrefl _), fun i hi => absurd hi (Nat.not_lt_zero _)⟩)⟩
        · -- where it lies
          have hcell : ∃ v, w.cell? a = some v := by
            have first : ∀ {y : DataW HH × List MemPlace}, (w.cells? 0 (a.add (0 * P.cellsOf e)) (P.cellsOf e)).bind (DataW.trod enc P w 0 spare held n e) = some y → ∃ v, w.cell? a = some v := by
              intro y hy
              obtain ⟨cs, h1, _⟩ := Option.bind_eq_some_iff.1 hy
              obtain ⟨_, h3, h4⟩ := World.cells?_some h1
              have := h4 0 hk
              rw [Nat.zero_mul, show (a.add 0).add 0 = a from rfl, List.getElem?_eq_getElem (by omega)] at this
              exact ⟨_, this⟩
            by_cases hl0 : 0 < len
            · exact first (y := elems[0]'(by omega)) (by rw [hem 0 hl0, List.getElem?_eq_getElem (by omega)])
            · have hl : len = 0 := by omega
              obtain ⟨h1, h2⟩ := hre (hsp _)
              have := h2 0 (by omega)
              rw [hl] at this
              exact first (y := rest[0]'(by omega)) (by rw [this, List.getElem?_eq_getElem (by omega)])
          obtain ⟨v0, hv0⟩ := hcell
          obtain ⟨C, ety, fr, ea, hb⟩ := cell_spot hv0
          generalize a.block = ab at ea hb hre
          generalize a.off = ao at ea
          subst ea
          have key : ∀ m, m ≤ len → ∃ (ρ' : Rho) (h' : H) (acs : List Value), Read w ρ h ρ' h' ∧ acs.length = m * P.cellsOf e ∧ (∀ i, i < m → Rd P h' g e ((acs.drop (i * P.cellsOf e)).take (P.cellsOf e))) ∧
              (∀ x ∈ acs, x.oneCell' = true) ∧ ∀ (j : Nat) v, acs[j]? = some v → ∃ v', C[ao + j]? = some v' ∧ VR ρ' v v' := by
            intro m
            induction m with
            | zero => intro _; exact ⟨ρ, h, [], .refl hs hr, by simp, fun i hi => absurd hi (Nat.not_lt_zero _), fun x hx => by simp at hx, fun j v hj => by simp at hj⟩
            | succ m ihm =>
              intro hm
              obtain ⟨ρ1, h1, acs, R1, L1, D1, O1, V1⟩ := ihm (by omega)
              have hy := hem m (by omega)
              rw [List.getElem?_eq_getElem (by omega)] at hy
              obtain ⟨ci, hc1, hc2⟩ := Option.bind_eq_some_iff.1 hy
              obtain ⟨_, hc3, hc4⟩ := World.cells?_some hc1
              obtain ⟨ρ2, h2, a2, R2, V2, D2⟩ := ih e ho.2 _ _ _ ρ1 h1 hc2 R1.sim R1.ro
              have hl2 : a2.length = P.cellsOf e := by rw [V2.1, hc3]
              refine ⟨ρ2, h2, acs ++ a2, R1.trans R2, by rw [List.length_append, L1, hl2, Nat.succ_mul], fun i hi => ?_, fun x hx => ?_, fun j v hj => ?_⟩
              · by_cases him : i < m
                · have hle : i * P.cellsOf e + P.cellsOf e ≤ acs.length := by rw [L1, ← Nat.succ_mul]; exact Nat.mul_le_mul_right _ him
                  rw [List.drop_append_of_le_length (by omega), List.take_append_of_le_length (by rw [List.length_drop]; omega)]
                  exact (D1 i him).ext R2.ext
                · have : i = m := by omega
                  subst this
                  rw [← L1, List.drop_left, ← hl2, List.take_length]
                  exact D2
              · rcases List.mem_append.1 hx with hx | hx
                · exact O1 x hx
                · exact D2.one _ _ _ x hx
              · by_cases hjl : j < acs.length
                · rw [List.getElem?_append_left hjl] at hj
                  obtain ⟨v', q1, q2⟩ := V1 j v hj
                  exact ⟨v', q1, q2.mono R2.le⟩
                · rw [List.getElem?_append_right (by omega)] at hj
                  have hjk : j - acs.length < P.cellsOf e := by have := (List.getElem?_eq_some_iff.1 hj).1; omega
                  obtain ⟨v', q1, q2⟩ := V2.get hj
                  refine ⟨v', ?_, q2⟩
                  have h4 := hc4 _ hjk
                  rw [q1, add_plain, add_plain, cell?_of hb, L1] at h4
                  rw [← h4]
                  congr 1
                  rw [← L1]; omega
          obtain ⟨ρ1, h1, acs, R1, L1, D1, O1, V1⟩ := key len (Nat.le_refl _)
          have R2 := Read.row R1.sim R1.ro (b := ab) (o := ao) (K := ao + cap * P.cellsOf e) hb O1 V1
          refine ⟨_, _, [.slice (some ⟨h1.next, 0, none⟩) len (P.cellsOf e)], R1.trans R2, .cons ?_ (.nil _), rd (.inr ⟨h1.next, len, acs, rfl, by omega, L1, fun _ => Has.here _ _, fun i hi => (D1 i hi).ext R2.ext⟩)⟩
          have := VR.slice (ρ := ρ1.ins h1.next (ab, ao, ao + cap * P.cellsOf e)) (i := h1.next) (o := 0) (st := P.cellsOf e) (len := len) (cap := cap) (b := ab) (c := ao) (K := ao + cap * P.cellsOf e) (Rho.ins_same _ _ _) hlc (by omega)
          simpa using this
    | _ => cases ho

/-- A thing's cells by a reading of ours: single things. -/
theorem Rd.slice {α : Type} {h : H} {g : Nat} {t e : TypeId} {ac : List Value} (hu : P.underlying t = some (.slice e)) (hk : 0 < P.cellsOf e) {c : α → List Value} {Q : α → Prop} (hd : ∀ {ac}, Rd P h g e ac → ac.length = P.cellsOf e → ∃ x, ac = c x ∧ Q x) (r : Rd P h (g + 1) t ac) :
    ∃ (l : List α) (a : Option Addr) (st : Nat), ac = [.slice a l.length st] ∧ Sl c (P.cellsOf e) h a st l ∧ (∀ x ∈ l, Q x) ∧ l.length ≤ maxLen := by
  unfold Rd at r
  rw [hu] at r
  rcases r with rfl | ⟨j, len, cs, rfl, h2, h3, h4, h5⟩
  · exact ⟨[], none, 0, rfl, .nil, fun x hx => by simp at hx, by simp⟩
  · have pick : ∀ i, ∃ x : Option α, i < len → ∃ y, x = some y ∧ (cs.drop (i * P.cellsOf e)).take (P.cellsOf e) = c y ∧ Q y := by
      intro i
      by_cases hi : i < len
      · have hle : i * P.cellsOf e + P.cellsOf e ≤ cs.length := by rw [h3, ← Nat.succ_mul]; exact Nat.mul_le_mul_right _ hi
        obtain ⟨y, h6, h7⟩ := hd (h5 i hi) (by rw [List.length_take, List.length_drop]; omega)
        exact ⟨some y, fun _ => ⟨y, rfl, h6, h7⟩⟩
      · exact ⟨none, fun h => absurd h hi⟩
    let f : Nat → Option α := fun i => Classical.choose (pick i)
    have hf : ∀ i, i < len → ∃ y, f i = some y ∧ (cs.drop (i * P.cellsOf e)).take (P.cellsOf e) = c y ∧ Q y := fun i hi => Classical.choose_spec (pick i) hi
    let l := (List.range len).filterMap f
    have hl : ∀ m, m ≤ len → ((List.range m).filterMap f).length = m ∧ ∀ i, i < m → ((List.range m).filterMap f)[i]? = f i := by
      intro m
      induction m with
      | zero => intro _; exact ⟨rfl, fun i hi => absurd hi (Nat.not_lt_zero _)⟩
      | succ m ih =>
        intro hm
        obtain ⟨i1, i2⟩ := ih (by omega)
        obtain ⟨y, hy, _⟩ := hf m (by omega)
        rw [List.range_succ, List.filterMap_append]
        simp only [List.filterMap_cons, hy, List.filterMap_nil]
        refine ⟨by rw [List.length_append, i1]; rfl, fun i hi => ?_⟩
        by_cases him : i < m
        · rw [List.getElem?_append_left (by omega)]; exact i2 i him
        · have : i = m := by omega
          subst this
          rw [List.getElem?_append_right (by omega), i1, Nat.sub_self, hy]; rfl
    obtain ⟨l1, l2⟩ := hl len (Nat.le_refl _)
    refine ⟨l, some ⟨j, 0, none⟩, P.cellsOf e, by show _ = [Value.slice _ ((List.range len).filterMap f).length _]; rw [l1], .inr ⟨rfl, j, 0, rfl, fun i x hx => ?_⟩, fun x hx => ?_, by show ((List.range len).filterMap f).length ≤ _; rw [l1]; exact h2⟩
    · have hi : i < len := by have := (List.getElem?_eq_some_iff.1 hx).1; show i < len; have e9 : l.length = len := l1; omega
      obtain ⟨y, h6, h7, h8⟩ := hf i hi
      have h9 : l[i]? = f i := l2 i hi
      rw [h9, h6] at hx
      cases hx
      refine ⟨cs, true, h4 (by omega), fun q z hz => ?_⟩
      rw [← h7, List.getElem?_take] at hz
      split at hz
      · rw [List.getElem?_drop] at hz
        rw [Nat.zero_add]; exact hz
      · cases hz
    · obtain ⟨i, hi, rfl⟩ := List.mem_iff_getElem.1 hx
      have hi' : i < len := by have e9 : l.length = len := l1; omega
      obtain ⟨y, h6, h7, h8⟩ := hf i hi'
      have h9 : l[i]? = f i := l2 i hi'
      rw [List.getElem?_eq_getElem hi, h6] at h9
      cases h9
      exact h8

/-! ### readings taken apart -/
def RdTs (rd : TypeId → List Value → Prop) : List TypeId → List Value → Prop
  | [], ac => ac = []
  | t :: ts, ac => ∃ a b, ac = a ++ b ∧ rd t a ∧ RdTs rd ts b
def strOfT (P : Program) (t : TypeId) : Option (List TypeId) :=
  match P.underlying t with
  | some (.struct fs) => some (fs.toList.map (·.type))
  | _ => none
theorem RdFs.ts {rd : TypeId → List Value → Prop} {sz : TypeId → Nat} : ∀ {fs : List Field} {ac : List Value}, RdFs rd sz fs ac → RdTs rd (fs.map (·.type)) ac
  | [], _, h => h
  | _ :: _, _, ⟨a, b, h1, _, h3, h4⟩ => ⟨a, b, h1, h3, RdFs.ts h4⟩
theorem Rd.str {h : H} {g : Nat} {t : TypeId} {ts : List TypeId} {ac : List Value} (hu : strOfT P t = some ts) (r : Rd P h (g + 1) t ac) : RdTs (Rd P h g) ts ac := by
  unfold Rd at r
  unfold strOfT at hu
  cases hd : P.underlying t with
  | none => rw [hd] at hu; cases hu
  | some d =>
    rw [hd] at hu r
    cases d <;> simp at hu
    rw [← hu]
    exact RdFs.ts r
theorem RdTs.str {h : H} {g : Nat} {t : TypeId} {ts : List TypeId} {ac : List Value} (hu : P.underlying t = some .string) (r : RdTs (Rd P h (g + 1)) (t :: ts) ac) : ∃ s rest, ac = .string s :: rest ∧ RdTs (Rd P h (g + 1)) ts rest := by
  obtain ⟨a, b, rfl, h1, h2⟩ := r
  unfold Rd at h1
  rw [hu] at h1
  obtain ⟨s, rfl, _⟩ := h1
  exact ⟨s, b, rfl, h2⟩
theorem RdTs.int {h : H} {g : Nat} {t : TypeId} {ts : List TypeId} {ac : List Value} {k : IntKind} (hu : P.underlying t = some (.int k)) (r : RdTs (Rd P h (g + 1)) (t :: ts) ac) : ∃ n rest, ac = .int k n :: rest ∧ (k.min ≤ n ∧ n ≤ k.max) ∧ RdTs (Rd P h (g + 1)) ts rest := by
  obtain ⟨a, b, rfl, h1, h2⟩ := r
  unfold Rd at h1
  rw [hu] at h1
  obtain ⟨s, rfl, h3⟩ := h1
  simp only [Lit.wf, Bool.and_eq_true, decide_eq_true_eq] at h3
  exact ⟨s, b, rfl, h3, h2⟩
theorem RdTs.bool {h : H} {g : Nat} {t : TypeId} {ts : List TypeId} {ac : List Value} (hu : P.underlying t = some .bool) (r : RdTs (Rd P h (g + 1)) (t :: ts) ac) : ∃ s rest, ac = .bool s :: rest ∧ RdTs (Rd P h (g + 1)) ts rest := by
  obtain ⟨a, b, rfl, h1, h2⟩ := r
  unfold Rd at h1
  rw [hu] at h1
  obtain ⟨s, rfl⟩ := h1
  exact ⟨s, b, rfl, h2⟩
theorem RdTs.one {rd : TypeId → List Value → Prop} {t : TypeId} {ts : List TypeId} {ac : List Value} (r : RdTs rd (t :: ts) ac) : ∃ a b, ac = a ++ b ∧ rd t a ∧ RdTs rd ts b := r
end
end Go.Ev
