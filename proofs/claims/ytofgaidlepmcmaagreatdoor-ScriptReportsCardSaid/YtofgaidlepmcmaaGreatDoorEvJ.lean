/-
  Operations that turn memory: what is appended, what is copied.
-/
import Derived.Test.YtofgaidlepmcmaaGreatDoorEvI
import Derived.Deep.AppendSrc
import Derived.Deep.Upon
namespace Go.Ev
open Go

section
variable {R : Type} {P : Program}

/-- What is appended or copied, in the model. -/
def SrcR (P : Program) (ρ : Rho) (base : Base) (h : H) (sz : Nat) (v : Value) (m : Nat) (new : List Value) : Prop :=
  new.length = m * sz ∧ (∀ x ∈ new, x.oneCell' = true) ∧
  ∀ (w : World) v', Sim ρ base h w → VR ρ v v' → (Builtin.lenOf v').run P w = .ok m w ∧
    ∃ new', VRs ρ new new' ∧ (∀ n, n ≤ m → (Builtin.firstCells sz n v').run P w = .ok (new'.take (n * sz)).toArray w) ∧
      ∀ tx d, P.underlying tx = some d → isSeq d = true → (isTup v = false) → Src P sz tx v' m new' w

theorem byteCells_one (s : ByteArray) : ∀ x ∈ byteCells s, x.oneCell' = true := by
  intro x hx
  obtain ⟨b, _, rfl⟩ := List.mem_map.1 hx
  rfl

theorem isSeq_kind {P : Program} {tx : TypeId} {d : TypeDesc} (h : P.underlying tx = some d) (hd : isSeq d = true) : (∃ e', P.underlying tx = some (.slice e')) ∨ P.underlying tx = some .string := by
  cases d <;> simp [isSeq] at hd
  · exact .inr h
  · exact .inl ⟨_, h⟩

theorem srcCells_sound {h : H} {sz : Nat} {v : Value} {K : Nat → List Value → Option R} {r : R} (hh : srcCells h sz v K = some r) :
    ∃ m new, K m new = some r ∧ ∀ ρ base w0, Sim ρ base h w0 → SrcR P ρ base h sz v m new := by
  unfold srcCells at hh
  split at hh
  · refine ⟨0, [], hh, fun ρ base w0 hs0 => ⟨by simp, by simp, fun w v' hs hv => ?_⟩⟩
    cases hv
    refine ⟨rfl, [], .nil ρ, fun n hn => ?_, fun tx d hd hq _ => ⟨isSeq_kind hd hq, fun _ => rfl, rfl, rfl, by simp, by simp⟩⟩
    have : n = 0 := by omega
    subst this
    rw [Nat.zero_mul]; rfl
  · refine ⟨0, [], hh, fun ρ base w0 hs0 => ⟨by simp, by simp, fun w v' hs hv => ?_⟩⟩
    have z : ∀ (a : Addr) (c : Nat) (w : World), (Builtin.firstCells sz 0 (.slice (some a) 0 c)).run P w = .ok #[] w := fun a c w => by
      show (loadCells _ (0 * sz)).run P w = _
      rw [Nat.zero_mul]; rfl
    cases hv <;> (
      refine ⟨rfl, [], .nil ρ, fun n hn => ?_, fun tx d hd hq _ => ⟨isSeq_kind hd hq, fun _ => rfl, z _ _ w, z _ _ w.drew, by simp, by simp⟩⟩
      have : n = 0 := by omega
      subst this
      simpa using z _ _ w)
  · rename_i i o n st _
    obtain ⟨e, h1⟩ := ifK_some hh
    obtain ⟨new, hl, h2⟩ := optK_some h1
    subst e
    have hlen : ∀ {ρ base w}, Sim ρ base h w → new.length = n * sz ∧ ∀ x ∈ new, x.oneCell' = true := by
      intro ρ base w hs
      obtain ⟨_, _, _, vs', _, hl', _, hr, ho⟩ := ldCells_sim hs hl
      exact ⟨by rw [hr.1, hl'], ho⟩
    refine ⟨n, new, h2, fun ρ base w0 hs0 => ⟨(hlen hs0).1, (hlen hs0).2, fun w v' hs hv => ?_⟩⟩
    obtain ⟨b, c, K', vs', hr, hl', hcell, hvs, ho⟩ := ldCells_sim hs hl
    cases hv with
    | slice hr2 hle hK =>
      rw [hr] at hr2; cases hr2
      refine ⟨rfl, vs', hvs, fun k hk => ?_, fun tx d hd hq _ => ?_⟩
      · have hk2 : k * sz ≤ n * sz := Nat.mul_le_mul_right _ hk
        have hlen2 : (vs'.take (k * sz)).length = k * sz := by simp; omega
        show (loadCells _ (k * sz)).run P w = _
        rw [← hlen2]
        have := loadCells_run (P := P) (w := w) (b := b) (k := c + o) (vs'.take (k * sz)) (fun j v hj => by
          rw [List.getElem?_take] at hj
          split at hj
          · exact hcell j v hj
          · cases hj)
        rw [this, hlen2]
      · have hcell' : ∀ (j : Nat) u, vs'[j]? = some u → w.cell? ((⟨b, c + o, none⟩ : Addr).add j) = some u := fun j u hj => by rw [add_plain]; exact hcell j u hj
        have hcellD : ∀ (j : Nat) u, vs'[j]? = some u → w.drew.cell? ((⟨b, c + o, none⟩ : Addr).add j) = some u := fun j u hj => by rw [World.cell?_drew]; exact hcell' j u hj
        exact ⟨isSeq_kind hd hq, fun _ => rfl, run_firstCells_some w sz n _ n _ vs' hl' hcell', run_firstCells_some w.drew sz n _ n _ vs' hl' hcellD, hl', hvs.oneCell ho⟩
    | sempty =>
      have hvn : vs' = [] := by apply List.eq_nil_of_length_eq_zero; rw [hl']; simp
      refine ⟨rfl, vs', hvs, fun k hk => ?_, fun tx d hd hq _ => ?_⟩
      · have : k = 0 := by omega
        subst this
        show (loadCells _ (0 * sz)).run P w = _
        rw [Nat.zero_mul]
        rfl
      · subst hvn
        refine ⟨isSeq_kind hd hq, fun _ => rfl, ?_, ?_, by simp, by simp⟩
        · show (loadCells _ (0 * sz)).run P w = _
          rw [Nat.zero_mul]; rfl
        · show (loadCells _ (0 * sz)).run P w.drew = _
          rw [Nat.zero_mul]; rfl
  · rename_i s
    obtain ⟨e, h1⟩ := ifK_some hh
    subst e
    refine ⟨s.size, byteCells s, h1, fun ρ base w0 hs0 => ⟨by rw [byteCells_length, Nat.mul_one], byteCells_one s, fun w v' hs hv => ?_⟩⟩
    cases hv
    refine ⟨rfl, byteCells s, ⟨rfl, fun i x y hx hy => ?_⟩, fun n hn => ?_, fun tx d hd hq _ => ?_⟩
    · rw [hx] at hy; cases hy
      obtain ⟨b, _, rfl⟩ := List.mem_map.1 (List.mem_of_getElem? hx)
      exact .int _ _
    · show Result.ok ((s.extract 0 n).data.map fun b => Value.int .u8 b.toNat) w = _
      congr 1
      apply Array.ext'
      unfold byteCells
      rw [Nat.mul_one, ← List.map_take]
      simp only [Array.toList_map]
      congr 1
      rw [ByteArray.data_extract]
      simp
    · exact ⟨isSeq_kind hd hq, fun _ => rfl, firstCells_string s w, firstCells_string s w.drew, by rw [byteCells_length, Nat.mul_one], byteCells_one s⟩
  · cases hh

theorem stCells_next {h h' : H} {i o : Nat} {vs : List Value} (hs : stCells h i o vs = some h') : h'.next = h.next := by
  unfold stCells at hs
  split at hs
  · cases hb : Nat.ble (o + vs.length) (List.length ‹List Value›) with
    | false => rw [hb] at hs; cases hs
    | true => rw [hb] at hs; simp only [cond_true, Option.some.injEq] at hs; rw [← hs]; rfl
  · cases hs

/-- What an effect leaves. -/
def EV (P : Program) (base : Base) (o : Oper) (ρ : Rho) (h : H) (a : Act) (w : World) (v : Value) (h' : H) : Prop :=
  ∀ (next : Act → World → Prop) (Q : Exit → Act → World → Prop),
    (∀ ρ' v' w', Post base ρ h w ρ' h' w' → VR ρ' v v' → next (a.put o.dst v') w') → o.wp P a w next Q

theorem EV.of_run {base : Base} {o : Oper} {ρ : Rho} {h : H} {a : Act} {w : World} {v : Value} {h' : H} {ρ' : Rho} {v' : Value} {w' : World}
    (hr : (execOp a.eval o).run P w = .ok (.value v') w') (hp : Post base ρ h w ρ' h' w') (hv : VR ρ' v v') : EV P base o ρ h a w v h' := by
  intro next Q hn
  unfold Oper.wp
  rw [hr]
  exact hn ρ' v' w' hp hv
theorem EV.of_skip {base : Base} {o : Oper} {ρ : Rho} {h : H} {a : Act} {w : World} {h' : H} {ρ' : Rho} {w' : World}
    (hr : (execOp a.eval o).run P w = .ok .skip w') (hp : Post base ρ h w ρ' h' w') : EV P base o ρ h a w (.tuple #[]) h' := by
  intro next Q hn
  unfold Oper.wp
  rw [hr]
  exact hn ρ' _ w' hp (.tuple' (.nil ρ'))

theorem VR.slice_inv {ρ : Rho} {a : Option Addr} {n c : Nat} {v' : Value} (h : VR ρ (.slice a n c) v') : ∃ a' c', v' = .slice a' n c' ∧ n ≤ c' := by
  cases h with
  | snil => exact ⟨_, _, rfl, Nat.le_refl _⟩
  | slice _ h1 _ => exact ⟨_, _, rfl, h1⟩
  | sempty => exact ⟨_, _, rfl, Nat.le_refl _⟩

theorem setCells_one {w : World} {b k : Nat} {C : Array Value} {e : TypeId} {fr : Nat × Nat} (P : Program) (vs : List Value) (hb : w.heap[b]? = some (.cells C e fr))
    (hl : k + vs.length ≤ C.size) (hf : ∀ j, k ≤ j → j < k + vs.length → fr.1 ≤ j → j < fr.2 → False) (ho : ∀ v ∈ vs, v.oneCell' = true) :
    ∃ C', OneBlock w (w.setCells b k vs) b (.cells C' e fr) ∧ C'.size = C.size ∧ ∀ j : Nat, C'[j]? = if k ≤ j ∧ j < k + vs.length then vs[j - k]? else C[j]? := by
  obtain ⟨w', C', h1, h2, h3, h4⟩ := storeCells_run (P := P) (b := b) (k := k) (e := e) (fr := fr) vs 0 w C hb hl hf ho
  have hfz : ∀ j, j < vs.length → w.frozen? ⟨b, k + 0 + j, none⟩ = false := by
    intro j hj
    rw [frozen?_of hb]
    cases q1 : decide (fr.1 ≤ k + 0 + j) with
    | false => rfl
    | true =>
      cases q2 : decide (k + 0 + j < fr.2) with
      | false => rfl
      | true => exact (hf (k + j) (by omega) (by omega) (by have := of_decide_eq_true q1; omega) (by have := of_decide_eq_true q2; omega)).elim
  have h5 := run_storeCells_cells (P := P) b k vs 0 w (fun j hj => by rw [cell?_of hb, Array.getElem?_eq_getElem (by omega)]; rfl) hfz ho
  rw [h5] at h1
  have : w.setCells b (k + 0) vs = w' := by injection h1
  rw [Nat.add_zero] at this
  subst this
  exact ⟨C', h2, h3, h4⟩

/-- append, in the model. -/
theorem append_exec {argTypes : Array TypeId} {s x : Value} {h : H} {K : Value → H → Option R} {r : R}
    (hh : appendA P argTypes s x h K = some r) : ∃ v h', K v h' = some r ∧ h.next ≤ h'.next ∧ ∀ {ρ : Rho} {base : Base} {w : World} {ty : TypeId} {s' x' : Value}, Sim ρ base h w → VR ρ s s' → VR ρ x x' →
      ∃ ρ' v' w', (Builtin.append_ argTypes ty #[s', x']).run P w = .ok v' w' ∧ Post base ρ h w ρ' h' w' ∧ VR ρ' v v' := by
  unfold appendA at hh
  split at hh
  · rename_i st xt hargs
    have hat : argTypes = #[st, xt] := by apply Array.ext'; simpa using hargs
    subst hat
    split at hh
    · rename_i e xd hus hux
      split at hh
      · rename_i inf hi
        obtain ⟨z, hz, h1⟩ := optK_some hh
        obtain ⟨⟨c1, c2, c3⟩, h2⟩ := ifK_some h1
        obtain ⟨m, new, h3, hsrc⟩ := srcCells_sound (P := P) h2
        have hzi : inf.zero = some z := by
          obtain ⟨_, _, i, h4, h5⟩ := zeroA_spec hz
          rw [hi] at h4; cases h4; exact h5
        have grown : ∀ (w : World) (need old : Nat), need ≤ grownCap w need old e := fun w need old => by show need ≤ need + _ % _; omega
        have zsz : ∀ n, (Builtin.zeroCells z.cells n).size = n * inf.size := fun n => by simp [Builtin.zeroCells, c1]
        -- a new row
        have grow : ∀ {ρ base w} (hs : Sim ρ base h w) (h0 : H), Sim ρ base h0 w → h0.next = h.next → ∀ (olds olds' new' : List Value) (n m : Nat) (cap : Nat),
            VRs ρ olds olds' → VRs ρ new new' → (∀ u ∈ olds, u.oneCell' = true) → (∀ u ∈ new, u.oneCell' = true) → olds.length = n * inf.size → new.length = m * inf.size → n + m ≤ cap →
            Post base ρ h0 w (ρ.ins h.next (w.heap.size, 0, cap * inf.size)) (h0.new (.cells (olds ++ new) false))
                (w.drew.alloc (.cells ((olds' ++ new').toArray ++ Builtin.zeroCells z.cells (cap - (n + m))) e)) ∧
              VR (ρ.ins h.next (w.heap.size, 0, cap * inf.size)) (.slice (some ⟨h.next, 0, none⟩) (n + m) inf.size) (.slice (some ⟨w.heap.size, 0, none⟩) (n + m) cap) := by
          intro ρ base w hs h0 hs0 hnx olds olds' new' n m cap r1 r2 o1 o2 l1 l2 hcap
          have hC : ((olds' ++ new').toArray ++ Builtin.zeroCells z.cells (cap - (n + m))).size = cap * inf.size := by
            have a1 := r1.1
            have a2 := r2.1
            have a3 : n * inf.size + m * inf.size + (cap - (n + m)) * inf.size = cap * inf.size := by
              rw [← Nat.add_mul, ← Nat.add_mul]; congr 1; omega
            simp [zsz]; omega
          have hp := newRow_sim (e := e) (fr := (0, 0)) (C := (olds' ++ new').toArray ++ Builtin.zeroCells z.cells (cap - (n + m))) (cs := olds ++ new) (w := w.drew) (hs0.drew rfl)
            (fun j v hj => by
              refine ⟨?_, ?_⟩
              · rcases List.mem_append.1 (List.mem_of_getElem? hj) with hm | hm
                · exact o1 v hm
                · exact o2 v hm
              · obtain ⟨v', h5, h6⟩ := (r1.append r2).get hj
                refine ⟨v', ?_, h6⟩
                have hlt : j < (olds' ++ new').toArray.size := by have := (List.getElem?_eq_some_iff.1 h5).1; simpa using this
                rw [Array.getElem?_append_left hlt]
                simpa using h5) (fun j _ _ hj2 => by simp at hj2)
          rw [hC, hnx] at hp
          have hs2 : Post base ρ h0 w ρ h0 w.drew := PostG.drew hs0 rfl rfl rfl rfl
          refine ⟨hs2.trans hp, ?_⟩
          have := VR.slice (ρ := ρ.ins h.next (w.heap.size, 0, cap * inf.size)) (i := h.next) (o := 0) (st := inf.size) (len := n + m) (cap := cap) (Rho.ins_same _ _ _) hcap (by simp)
          simpa using this
        cases m with
        | zero =>
          obtain ⟨sa, sn, sc0, hse, h3⟩ := castSl_some h3
          subst hse
          refine ⟨_, h, h3, Nat.le_refl _, fun {ρ base w ty s' x'} hs hsv hxv => ?_⟩
          obtain ⟨q1, q2, q3⟩ := hsrc ρ base w hs
          obtain ⟨r1, new', r2, _, r4⟩ := q3 w x' hs hxv
          have hxt : isTup x = false := by unfold srcCells at h2; cases x <;> first | rfl | cases h2
          have hsr := r4 xt xd hux c3 hxt
          have hn' : new' = [] := by apply List.eq_nil_of_length_eq_zero; have := hsr.newsLen; simpa using this
          rw [hn'] at hsr
          obtain ⟨bs, sc, rfl, hle⟩ := hsv.slice_inv
          refine ⟨ρ, _, w, ?_, .refl hs, hsv⟩
          exact run_append_nothing w st xt ty e inf hus hi bs sn sc hle x' hsr
        | succ m =>
          have hxt : isTup x = false := by unfold srcCells at h2; cases x <;> first | rfl | cases h2
          simp only at h3
          split at h3
          · obtain ⟨c4, h4⟩ := ifK_some h3
            refine ⟨_, _, h4, Nat.le_succ _, fun {ρ base w ty s' x'} hs hsv hxv => ?_⟩
            cases hsv
            obtain ⟨q1, q2, q3⟩ := hsrc ρ base w hs
            obtain ⟨r1, new', r2, _, r4⟩ := q3 w x' hs hxv
            have hsr := r4 xt xd hux c3 hxt
            have hb : m + 1 ≤ (m + 1) * inf.bytes := Nat.le_mul_of_pos_right _ c2
            have run := run_append_grow_src w st xt ty e inf z hus hi hzi none 0 0 [] rfl x' (m + 1) new' hsr (by omega) (by omega) (growslice_fits (by omega) (by rw [Nat.zero_add]; omega))
            obtain ⟨p1, p2⟩ := grow hs h hs rfl [] [] new' 0 (m + 1) (grownCap w (0 + (m + 1)) 0 e) (.nil ρ) r2 (by simp) q2 (by simp) q1 (grown _ _ _)
            refine ⟨_, _, _, run, p1, ?_⟩
            have : (0 + (m + 1)) = m + 1 := by omega
            rw [this] at p2
            rw [this]; exact p2
          · rename_i i o n c
            obtain ⟨c4, h4⟩ := ifK_some h3
            obtain ⟨old, hold, h5⟩ := optK_some h4
            subst c4
            split at h5
            · rename_i cc hget
              obtain ⟨c5, h6⟩ := ifK_some h5
              refine ⟨_, _, h6, Nat.le_succ _, fun {ρ base w ty s' x'} hs hsv hxv => ?_⟩
              obtain ⟨q1, q2, q3⟩ := hsrc ρ base w hs
              obtain ⟨r1, new', r2, _, r4⟩ := q3 w x' hs hxv
              have hsr := r4 xt xd hux c3 hxt
              have hb : n + (m + 1) ≤ (n + (m + 1)) * inf.bytes := Nat.le_mul_of_pos_right _ c2
              obtain ⟨b, cc0, K0, olds', hr, hl1, hcell, hol, hoo⟩ := ldCells_sim hs hold
              have growCase : ∀ (bs : Option Addr) (cap : Nat), cap < n + (m + 1) → (Builtin.firstCells inf.size n (.slice bs n cap)).run P w.drew = .ok olds'.toArray w.drew →
                  ∃ ρ' v' w', (Builtin.append_ #[st, xt] ty #[.slice bs n cap, x']).run P w = .ok v' w' ∧ Post base ρ h w ρ' ((h.del i).new (.cells (old ++ new) false)) w' ∧
                    VR ρ' (.slice (some ⟨h.next, 0, none⟩) (n + (m + 1)) inf.size) v' := by
                intro bs cap hcap hfc
                have run := run_append_grow_src w st xt ty e inf z hus hi hzi bs n cap olds' hfc x' (m + 1) new' hsr hcap (by omega) (growslice_fits hcap (by omega))
                obtain ⟨p1, p2⟩ := grow hs (h.del i) (hs.del i) rfl old olds' new' n (m + 1) (grownCap w (n + (m + 1)) cap e) hol r2 hoo q2 (by rw [hol.1, hl1]) q1 (grown _ _ _)
                exact ⟨_, _, _, run, (PostG.del hs i).trans p1, p2⟩
              cases hsv with
              | slice hr2 hle hK =>
                rename_i b2 c2' K2 cap
                rw [hr] at hr2; cases hr2
                by_cases hroom : n + (m + 1) ≤ cap
                · obtain ⟨b3, o3, K3, C, e3, fr, hr3, hw, hB⟩ := hs.cells hget
                  rw [hr] at hr3; cases hr3
                  obtain ⟨hcells, hrw⟩ := hB
                  obtain ⟨hbase, hKs, hoc, hfz⟩ := hrw rfl
                  have hnl := hsr.newsLen
                  have hmul : n * inf.size + (m + 1) * inf.size ≤ cap * inf.size := by rw [← Nat.add_mul]; exact Nat.mul_le_mul_right _ hroom
                  have run := run_append_room_src w st xt ty e inf hus hi b (cc0 + o) n cap x' (m + 1) new' hsr hroom
                    (fun j hj => by rw [cell?_of hw, Array.getElem?_eq_getElem (by omega)]; rfl)
                    (fun j hj => by
                      rw [frozen?_of hw]
                      cases q5 : decide (fr.1 ≤ cc0 + o + n * inf.size + j) with
                      | false => rfl
                      | true =>
                        cases q6 : decide (cc0 + o + n * inf.size + j < fr.2) with
                        | false => rfl
                        | true => exact (hfz (cc0 + o + n * inf.size + j) (by omega) (by omega) (of_decide_eq_true q5) (of_decide_eq_true q6)).elim)
                  obtain ⟨C', hO, hCs, hCg⟩ := setCells_one P new' hw (k := cc0 + o + n * inf.size) (by omega) (fun j a1 a2 a3 a4 => hfz j (by omega) (by omega) a3 a4) hsr.one
                  refine ⟨_, _, _, run, PostG.move hs hget rfl hr (o2 := cc0 + o) hO ?_, ?_⟩
                  · refine ⟨fun j v hj => ?_, fun _ => ⟨hbase, by omega, ?_, fun j a1 a2 a3 a4 => hfz j (by omega) a2 a3 a4⟩⟩
                    · have hol1 := hol.1
                      rcases Nat.lt_or_ge j (n * inf.size) with hj1 | hj1
                      · rw [List.getElem?_append_left (by omega)] at hj
                        refine ⟨hoo v (List.mem_of_getElem? hj), ?_⟩
                        obtain ⟨v', h7, h8⟩ := hol.get hj
                        refine ⟨v', ?_, h8⟩
                        rw [hCg, if_neg (by omega)]
                        have := hcell j v' h7
                        rw [cell?_of hw] at this
                        exact this
                      · rw [List.getElem?_append_right (by omega)] at hj
                        refine ⟨q2 v (List.mem_of_getElem? hj), ?_⟩
                        obtain ⟨v', h7, h8⟩ := r2.get hj
                        refine ⟨v', ?_, h8⟩
                        have hlt := (List.getElem?_eq_some_iff.1 h7).1
                        rw [hCg, if_pos (by omega), show cc0 + o + j - (cc0 + o + n * inf.size) = j - old.length from by omega]
                        exact h7
                    · simp only [List.length_append]
                      rw [hol.1, hl1, q1]; omega
                  · have := VR.slice (ρ := ρ.ins h.next (b, cc0 + o, K0)) (i := h.next) (o := 0) (st := inf.size) (len := n + (m + 1)) (cap := cap) (Rho.ins_same _ _ _) hroom (by omega)
                    simpa using this
                · refine growCase _ cap (by omega) ?_
                  exact run_firstCells_some w.drew inf.size n _ n cap olds' hl1 (fun j u hj => by rw [World.cell?_drew, add_plain]; exact hcell j u hj)
              | sempty =>
                rename_i a
                have ho0 : olds' = [] := by apply List.eq_nil_of_length_eq_zero; rw [hl1]; simp
                refine growCase _ 0 (by omega) ?_
                rw [ho0]
                show (loadCells a (0 * inf.size)).run P w.drew = _
                rw [Nat.zero_mul]; rfl
            · cases h5
          · cases h3
      · cases hh
    · cases hh
  · cases hh
end
end Go.Ev
