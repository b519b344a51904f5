/-
  ScriptReports: script.split: a range over a function: the words of a line.
-/
import Derived.RangeFuncNested
import Derived.RangeFuncBound
import Derived.RangeFuncCalls
import Derived.RangeFuncLeaves
import Derived.RangeFuncBox
import Derived.Shelf.Abstract
import Derived.Shelf.RegionOpen
import Derived.WalkKit
import Derived.OwnWalkIn
import Derived.TacticsInMore
import Derived.LoopNIn
import Derived.LoopIn
import Derived.Maps.AppendAt
import Derived.Test.YtofgaidlepmcmaaGreatDoorEvX
import Derived.Test.YtofgaidlepmcmaaGreatDoorS31
namespace Go.Proofs
open Go Go.Ev Go.RowKit Go.Shelf
attribute [local go_sem] Oper.semAt_some

section
variable {P : Program}
/-- append(own row, one more): the row stays where it is, or lies in a new block. -/
theorem run_append_at1 (w : World) (base : Nat) (t ty e : TypeId) (i : TypeInfo) (z : Value) (bytes : Nat) (ht : P.underlying t = some (.slice e)) (hi : P.info? e = some i) (hz : i.zero = some z) (hsize : i.size = 1) (hby : i.bytes = bytes) (hzs : z.cells.size = 1)
    (v : Value) (n : Nat) (xs : List Value) (hown : w.ownsRow base e 1 v n xs) (a : Addr) (c : Nat) (u : Value) (hnews : ∀ j y, [u][j]? = some y → w.cell? (a.add j) = some y) (h1 : u.oneCell' = true) (h63 : n + 1 ≤ maxLen) (hbytes : (n + 1) * bytes ≤ 140737488355328) (hbase : base ≤ w.heap.size) :
    ∃ v' w', (Builtin.append_ #[t, t] ty #[v, .slice (some a) 1 c]).run P w = .ok v' w' ∧ w'.ownsRow base e 1 v' (n + 1) (xs ++ [u]) ∧ w.grownBy w' v.ownBlock ∧ ∃ g, v'.ownBlock = some g ∧ (v.ownBlock = some g ∨ w.heap.size ≤ g) := by
  have h1' : ∀ y ∈ [u], y.oneCell' = true := by simpa using h1
  rcases hown.2 with ⟨rfl, rfl⟩ | ⟨g, cap, cur, rfl, _, hg, hnc, hcm, hcs, htake⟩
  · obtain ⟨v', w', q1, q2, q3, _⟩ := run_append_own (P := P) w w.heap.size t ty e i z 1 bytes ht hi hz hsize hby hzs (by omega) (.slice none 0 0) 0 xs ⟨hown.1, .inl ⟨rfl, rfl⟩⟩ a 1 c [u] rfl hnews h1' h63 hbytes (Nat.le_refl _)
    rcases q2.2 with ⟨rfl, hz0⟩ | ⟨g, cap, cur, rfl, hbg, r⟩
    · omega
    · exact ⟨_, w', q1, ⟨q2.1, .inr ⟨g, cap, cur, rfl, by omega, r⟩⟩, q3, g, rfl, .inr hbg⟩
  · obtain ⟨v', w', q1, q2, q3, _⟩ := run_append_own (P := P) w base t ty e i z 1 bytes ht hi hz hsize hby hzs (by omega) _ n xs hown a 1 c [u] rfl hnews h1' h63 hbytes hbase
    refine ⟨v', w', q1, q2, q3, ?_⟩
    have hS : Src P i.size t (.slice (some a) 1 c) 1 [u] w := by rw [hsize]; exact Src.ofSlice w ht a 1 c [u] rfl hnews h1'
    by_cases hroom : n + 1 ≤ cap
    · have := run_append_room_src w t t ty e i ht hi g 0 n cap (.slice (some a) 1 c) 1 [u] hS hroom
        (fun j hj => by
          have : j = 0 := by simp at hj; omega
          subst this
          rw [cell?_of hg, hsize, Array.getElem?_eq_getElem (by omega)]; rfl) (fun j hj => by rw [frozen?_of hg]; simp)
      rw [q1] at this
      cases this
      exact ⟨g, rfl, .inl rfl⟩
    · have hl : (cur.toList.take (n * 1)).length = n * 1 := by rw [List.length_take]; simp; omega
      have hfc := run_firstCells_some (P := P) w.drew 1 n ⟨g, 0, none⟩ n cap (cur.toList.take (n * 1)) hl (fun j u hj => by
        rw [World.cell?_drew, add_plain, cell?_of hg, Nat.zero_add]
        rw [List.getElem?_take] at hj
        split at hj
        · simpa using hj
        · cases hj)
      have hfit : Builtin.nextslicecap (n + 1) cap * i.bytes ≤ 281474976710656 := growslice_fits (by omega) (by rw [hby]; omega)
      have := run_append_grow_src w t t ty e i _ ht hi hz (some ⟨g, 0, none⟩) n cap _ (by rw [hsize]; exact hfc) (.slice (some a) 1 c) 1 [u] hS (by omega) (by unfold maxLen at h63; omega) hfit
      rw [q1] at this
      cases this
      exact ⟨_, rfl, .inr (Nat.le_refl _)⟩
theorem wpListIn_append_at1 {F : Fence} {n : Nat} (w : World) {ops : Array Oper} {rest : List Oper} {o : Oper} {a : Act} {Q : Exit → Act → World → Prop}
    (hg : o.guard = none) (s x : Operand) (t : TypeId) (hop : o.op = Op.call { callee := Callee.builtin Builtin.append, args := #[s, x], argTypes := #[t, t] })
    (base : Nat) (e : TypeId) (i : TypeInfo) (z : Value) (bytes : Nat) (h1 : P.underlying t = some (.slice e)) (h2 : P.info? e = some i) (h3 : i.zero = some z) (h4 : i.size = 1) (h5 : i.bytes = bytes) (h6 : z.cells.size = 1)
    (v : Value) (k : Nat) (xs : List Value) (hs : a.eval s = v) (hown : w.ownsRow base e 1 v k xs) (ad : Addr) (c : Nat) (u : Value) (hx : a.eval x = .slice (some ad) 1 c)
    (hc : ∀ j y, [u][j]? = some y → w.cell? (ad.add j) = some y) (h1c : u.oneCell' = true) (b1 : k + 1 ≤ maxLen) (b2 : (k + 1) * bytes ≤ 140737488355328) (b3 : base ≤ w.heap.size)
    (hK : ∀ v' w', w'.ownsRow base e 1 v' (k + 1) (xs ++ [u]) → w.grownBy w' v.ownBlock → (∃ g, v'.ownBlock = some g ∧ (v.ownBlock = some g ∨ w.heap.size ≤ g)) → wpListIn F n P ops Q rest (a.put o.dst v') w') :
    wpListIn F n P ops Q (o :: rest) a w := by
  refine wpListIn_plain hg fun K hK' => ?_
  obtain ⟨v', w', hrun, r1, r2, r3⟩ := run_append_at1 (P := P) w base t o.type e i z bytes h1 h2 h3 h4 h5 h6 v k xs hown ad c u hc h1c b1 b2 b3
  unfold Oper.wpIn
  refine ⟨?_, ?_⟩
  · simp [Oper.about, hop, resolve, Target.leads, Sem.run_pure]
  · rw [Oper.semAt_plain F _ _ (by rw [hop]; intro c hc'; cases hc')]
    simp [execOp, hop, resolve, invoke, builtin, hs, hx, hrun, Result.andThen]
    exact hK' _ _ (hK v' w' r1 r2 r3)
end

/-- What a round keeps: all cells but the box's own and those of the row in it. -/
def KeepsBut (B : Nat) (W W' : World) : Prop :=
  W.heap.size ≤ W'.heap.size ∧
  (∀ k C e fr, W.heap[k]? = some (.cells C e fr) → k ≠ B → (∀ v, W.cell? ⟨B, 0, none⟩ = some v → v.ownBlock ≠ some k) → W'.heap[k]? = some (.cells C e fr)) ∧
  (∀ v', W'.cell? ⟨B, 0, none⟩ = some v' → ∃ v, W.cell? ⟨B, 0, none⟩ = some v ∧ (v'.ownBlock = v.ownBlock ∨ ∀ g, v'.ownBlock = some g → W.heap.size ≤ g))
theorem KeepsBut.trans {n : Nat} {A B C : World} (h : KeepsBut n A B) (k : KeepsBut n B C) : KeepsBut n A C := by
  refine ⟨Nat.le_trans h.1 k.1, fun i c e fr hi hn ho => ?_, fun v'' hv'' => ?_⟩
  · refine k.2.1 i c e fr (h.2.1 i c e fr hi hn ho) hn fun v' hv' => ?_
    obtain ⟨v, hv, e1 | e1⟩ := h.2.2 v' hv'
    · rw [e1]; exact ho v hv
    · intro e2
      have h1 := e1 i e2
      have h2 := (Array.getElem?_eq_some_iff.1 hi).1
      omega
  · obtain ⟨v', hv', e1⟩ := k.2.2 v'' hv''
    obtain ⟨v, hv, e2⟩ := h.2.2 v' hv'
    refine ⟨v, hv, ?_⟩
    rcases e1 with e1 | e1
    · rw [e1]; exact e2
    · exact .inr fun g hg => Nat.le_trans h.1 (e1 g hg)
theorem KeepsBut.base {n S : Nat} (hn : n < S) (W : World) (l : Nat) (o o' : Obj) (hl : S ≤ l) (h : W.heap[l]? = some o) (hc : o.isCells = false) (_ : o.isWalk = false) : KeepsBut n W (W.putObj l o') := by
  have hot : ∀ k, k ≠ l → (W.putObj l o').heap[k]? = W.heap[k]? := fun k hk => World.putObj_heap_other (fun e => hk e)
  refine ⟨by simp, fun k C e fr hk _ _ => ?_, fun v' hv' => ⟨v', ?_, .inl rfl⟩⟩
  · rw [hot k (fun e => by subst e; rw [hk] at h; cases h; cases hc)]; exact hk
  · unfold World.cell? at hv' ⊢
    rw [hot n (by omega)] at hv'
    exact hv'

def ne0 (x : ByteArray) : Bool := !x.isEmpty

set_option maxRecDepth 100000 in
set_option maxHeartbeats 2000000 in
theorem Tryz.words_in (F : Fence) (n : Nat) (h65 : F.fn 65) (hro : F.round = none) (s : ByteArray) (w : World) :
    CallsIn F n Tryz.prog 65 #[.string s] w fun e w' => e = .returned (.func (.func 114) #[] #[.pointer (some ⟨w.heap.size, 0, none⟩)]) ∧ w' = w.alloc (.cells #[.string s] 9) := by
  refine callsIn_of_wp Tryz.func65 rfl h65 ?_ hro
  simp only [Tryz.ntmps65, List.size_toArray, List.length_cons, List.length_nil, Nat.reduceAdd, Nat.reduceSub, Array.replicate_succ, Array.replicate_zero, List.push_toArray, List.append_toArray, List.nil_append, List.cons_append]
  gi_wp2
  go_ret
  exact ⟨rfl, rfl⟩

set_option maxRecDepth 100000 in
set_option maxHeartbeats 4000000 in
theorem Tryz.words1_in (n : Nat) (hn : 2 ≤ n) (l Bn Bx : Nat) (s : ByteArray) (m : Int) (ps : List ByteArray) (hbig : ps.length ≤ 1000001) (hsp : ∀ W : World, W.cell? ⟨1, 0, none⟩ = some (.int .i64 m) → Calls Tryz.prog 115 #[.string s, .string ⟨#[32]⟩] W fun e w' =>
      e = .returned (.slice (some ⟨W.heap.size, 0, none⟩) ps.length ps.length) ∧ w' = W.alloc (.cells (ps.map Value.string).toArray 9)) (J Jx : List ByteArray → World → Prop)
    (hY : ∀ pre x W, J pre W → pre.length < ps.length → YieldAt Fence.wide (n - 1) Tryz.prog l #[.string x] W fun e W' =>
      (e = .returned (.bool true) ∧ J (pre ++ [x]) W' ∧ KeepsBut Bx W W') ∨ (e = .returned (.bool false) ∧ Jx (pre ++ [x]) W'))
    (W : World) (hJ : AbidesFrom W.heap.size J) (hBn : W.cell? ⟨Bn, 0, none⟩ = some (.string s)) (hBx : W.cell? ⟨Bx, 0, none⟩ = some (.slice none 0 0)) (hBl : Bx < W.heap.size) (hm : W.cell? ⟨1, 0, none⟩ = some (.int .i64 m)) (h0 : J [] W) :
    CallsIn Fence.wide n Tryz.prog 114 #[.func (.yield l) #[] #[], .pointer (some ⟨Bn, 0, none⟩)] W fun e W' => (∃ v, e = .returned v) ∧ ((∃ ys, ys = ps.filter ne0 ∧ J ys W') ∨ (∃ pre, True ∧ Jx pre W')) := by
  refine callsIn_of_wp Tryz.func114 rfl trivial ?_ rfl
  simp only [Tryz.ntmps114, List.size_toArray, List.length_cons, List.length_nil, Nat.reduceAdd, Nat.reduceSub, Array.replicate_succ, Array.replicate_zero, List.push_toArray, List.append_toArray, List.nil_append, List.cons_append]
  gi_wp2_with (refine ⟨trivial, fun _ => by omega, ?_⟩; gi_at_call 115; refine (callsIn_wide.2 (hsp _ hm)).mono ?_; rintro e w' ⟨rfl, rfl⟩)
  obtain ⟨R, hR⟩ : ∃ R, W.heap.size = R := ⟨_, rfl⟩
  obtain ⟨W1, hW1⟩ : ∃ W1, W.alloc (.cells (ps.map Value.string).toArray 9) = W1 := ⟨_, rfl⟩
  rw [hR, hW1]
  have hrow0 : W1.heap[R]? = some (.cells (ps.map Value.string).toArray 9 (0, 0)) := by rw [← hW1, ← hR]; exact World.alloc_heap_new W _
  have hbox0 : W1.cell? ⟨Bx, 0, none⟩ = some (.slice none 0 0) := by rw [← hW1]; exact cell_kept hBx (World.grownBy_alloc W _ none) (fun r e => by cases e)
  have hJ1 : J [] W1 := by rw [← hW1]; exact hJ [] W _ none h0 (World.grownBy_alloc W _ none) (fun r e => by cases e)
  have hRB : R ≠ Bx := by omega
  gi_loopw [8] (fun i wr => ∃ k : Nat, k ≤ ps.length ∧ i = .int .i64 k ∧ J ((ps.take k).filter ne0) wr ∧ wr.heap[R]? = some (.cells (ps.map Value.string).toArray 9 (0, 0)) ∧ ∀ v, wr.cell? ⟨Bx, 0, none⟩ = some v → v.ownBlock ≠ some R)
    (fun i _ => ps.length - (intOf i).toNat)
  case atStart => exact ⟨0, Nat.zero_le _, rfl, hJ1, hrow0, fun v hv => by rw [hbox0] at hv; cases hv; simp [Value.ownBlock]⟩
  case round =>
    obtain ⟨k, hk, rfl, hJs, hrow, hown⟩ := hrel
    by_cases hlt : k < ps.length
    · have hcx : wr.cell? ⟨R, k, none⟩ = some (.string ps[k]) := by simp [World.cell?, hrow, hlt]
      have htk : ps.take (k + 1) = ps.take k ++ [ps[k]] := by rw [List.take_add_one]; simp [hlt]
      by_cases he : ps[k] = ⟨#[]⟩
      · gi_wp2
        refine ⟨fun _ h => (by cases h), ?_⟩
        gi_wp2
        refine ⟨⟨k + 1, by omega, by simp, ?_, hrow, hown⟩, by simp [intOf]; omega⟩
        rw [htk, List.filter_append, he]
        simpa [ne0, ByteArray.isEmpty, ByteArray.size] using hJs
      · have hne : ne0 ps[k] = true := by
          cases hq : ne0 ps[k] with
          | true => rfl
          | false =>
            refine absurd ?_ he
            simp [ne0, ByteArray.isEmpty] at hq
            exact hq
        have hte : ps[k].toList.isEmpty = false := by
          cases hq : ps[k].toList.isEmpty with
          | false => rfl
          | true =>
            refine absurd ?_ he
            rw [Go.Ev.toList_eq] at hq
            exact ByteArray.ext (by simpa using hq)
        obtain ⟨fn, tmps, assign, body, hy, hRd⟩ := hY _ ps[k] wr hJs (Nat.lt_of_le_of_lt (List.length_filter_le _ _) (by simp; omega))
        gi_wp2
        refine ⟨fun _ => by omega, hRd.mono ?_⟩
        rintro e W3 (⟨rfl, hJ3, hk3⟩ | ⟨rfl, hJx3⟩)
        · gi_wp2
          refine ⟨⟨k + 1, by omega, by simp, ?_, hk3.2.1 R _ _ _ hrow hRB hown, fun v' hv' => ?_⟩, by simp [intOf]; omega⟩
          · rw [htk, List.filter_append]
            simpa [hne] using hJ3
          · obtain ⟨v, hv, e1 | e1⟩ := hk3.2.2 v' hv'
            · rw [e1]; exact hown v hv
            · intro e2
              have h1 := e1 R e2
              have h2 := (Array.getElem?_eq_some_iff.1 hrow).1
              omega
        · gi_wp2
          refine bodyPost_ret (results_none rfl _ _ _) rfl ?_
          exact ⟨⟨_, rfl⟩, .inr ⟨_, trivial, hJx3⟩⟩
    · obtain rfl : k = ps.length := by omega
      gi_wp2
      refine bodyPost_end (results_none rfl _ _ _) rfl ?_
      exact ⟨⟨_, rfl⟩, .inl ⟨_, rfl, by simpa using hJs⟩⟩

theorem Tryz.words_stops (n : Nat) (hn : 2 ≤ n) (Bn Bx : Nat) (s : ByteArray) (m : Int) (ps : List ByteArray) (hbig : ps.length ≤ 1000001) (hsp : ∀ W : World, W.cell? ⟨1, 0, none⟩ = some (.int .i64 m) → Calls Tryz.prog 115 #[.string s, .string ⟨#[32]⟩] W fun e w' =>
      e = .returned (.slice (some ⟨W.heap.size, 0, none⟩) ps.length ps.length) ∧ w' = W.alloc (.cells (ps.map Value.string).toArray 9)) (w : World) (hB : Bn < w.heap.size) (hX : Bx < w.heap.size) (h1 : 1 < w.heap.size)
    (hBn : w.cell? ⟨Bn, 0, none⟩ = some (.string s)) (hBx : w.cell? ⟨Bx, 0, none⟩ = some (.slice none 0 0)) (hm : w.cell? ⟨1, 0, none⟩ = some (.int .i64 m)) :
    SeqStopsK Fence.wide n Tryz.prog 114 #[.pointer (some ⟨Bn, 0, none⟩)] (fun x : ByteArray => #[Value.string x]) (KeepsBut Bx) (fun ys => ys = ps.filter ne0) (fun _ => True) ps.length w := fun l J Jx W hW hJ _ hY h0 =>
  Tryz.words1_in n hn l Bn Bx s m ps hbig hsp J Jx hY W hJ ((hW.cell (p := ⟨Bn, 0, none⟩) hB).trans hBn) ((hW.cell (p := ⟨Bx, 0, none⟩) hX).trans hBx) (Nat.lt_of_lt_of_le hX hW.size) ((hW.cell (p := ⟨1, 0, none⟩) h1).trans hm) h0

theorem Tryz.info9 : (Tryz.prog.info? 9).map (fun i => (i.zero, i.size, i.bytes)) = some (some (.string ⟨#[]⟩), 1, 16) := by kernel_rfl

set_option maxRecDepth 100000 in
set_option maxHeartbeats 4000000 in
theorem Tryz.split_in (s : ByteArray) (m : Int) (ps : List ByteArray) (hbig : ps.length ≤ 1000001) (hsp : ∀ W : World, W.cell? ⟨1, 0, none⟩ = some (.int .i64 m) → Calls Tryz.prog 115 #[.string s, .string ⟨#[32]⟩] W fun e w' =>
      e = .returned (.slice (some ⟨W.heap.size, 0, none⟩) ps.length ps.length) ∧ w' = W.alloc (.cells (ps.map Value.string).toArray 9)) (w : World) (h1 : 1 < w.heap.size) (hm : w.cell? ⟨1, 0, none⟩ = some (.int .i64 m)) :
    CallsIn Fence.wide 5 Tryz.prog 32 #[.string s] w fun e w' => ∃ v, e = .returned v ∧ w'.ownsRow w.heap.size 9 1 v (ps.filter ne0).length ((ps.filter ne0).map Value.string) ∧ Below w.heap.size w w' := by
  obtain ⟨i0, hi, hz0, hz1, hz2⟩ := info_parts Tryz.info9
  refine callsIn_of_wp_marks Tryz.func32 rfl trivial ?_ rfl
  simp only [Tryz.ntmps32, List.size_toArray, List.length_cons, List.length_nil, Nat.reduceAdd, Nat.reduceSub, Array.replicate_succ, Array.replicate_zero, List.push_toArray, List.append_toArray, List.nil_append, List.cons_append]
  gi_wp2_with (refine ⟨trivial, ?_⟩; gi_at_call 65; refine (Tryz.words_in Fence.wide _ trivial rfl s _).mono ?_; rintro e w' ⟨rfl, rfl⟩)
  have bS := Boxed.new w 55 (.slice none 0 0)
  have bN := Boxed.new (w.alloc (.cells #[.slice none 0 0] 55)) 9 (.string s)
  rw [World.size_alloc] at bN
  have hB0 : Below w.heap.size w ((w.alloc (.cells #[.slice none 0 0] 55)).alloc (.cells #[.string s] 9)) := ((Below.refl _ w).alloc (Nat.le_refl _) _).alloc (by simp) _

  refine wpIn_rangeFunc_ownG (F := Fence.wide) (n := 5) (ps := #[7]) rfl (by omega) (gf := 114) (lb := #[.pointer (some ⟨w.heap.size + 1, 0, none⟩)]) rfl trivial (enters_of Tryz.func114 (by kernel_rfl) rfl)
    (Tryz.words_stops _ (by omega) (w.heap.size + 1) w.heap.size s m ps hbig hsp _ (by simp) (by simp <;> omega) (by simp <;> omega) bN.cell (bS.alloc _).cell ((hB0.cell (p := ⟨1, 0, none⟩) h1).trans hm)) KeepsBut.trans (KeepsBut.base (by simp <;> omega)) (Below.refl _ _) (fun _ => rfl)
    (fun pre W => (∃ v, Boxed W w.heap.size 55 v ∧ W.ownsRow w.heap.size 9 1 v pre.length (pre.map Value.string)) ∧ Below w.heap.size w W)
    (fun _ _ _ => False)
    (OwnFrom.and (Own.from (fun s A B row hs hg hr => by
      obtain ⟨v, hv, hw⟩ := hs
      exact (holdsRow_own (β := List ByteArray) w.heap.size w.heap.size 55 9 1 (fun pre => pre.length) (fun pre => pre.map Value.string) (fun _ _ => True) s A B row ⟨v, hv, hw, trivial⟩ hg hr).imp fun _ h => ⟨h.1, h.2.1⟩) _) (ownFrom_below (Nat.le_refl _) (by simp; omega)))
    (fun _ _ _ _ _ hs _ _ => hs)
    ⟨⟨_, bS.alloc _, World.ownsRow_nil _ _ _ _⟩, hB0⟩
    (fun x => { tmps := #[.string s, undef, .slice none 0 0, .pointer (some ⟨w.heap.size, 0, none⟩), .string x, .string s, .func (.func 114) #[] #[.pointer (some ⟨w.heap.size + 1, 0, none⟩)], .string x, undef, undef, undef, undef, undef], defers := [] }) ?assign ?body ?done ?stop
  case assign =>
    intro l x W K hK
    gi_wp2
    exact hK
  case body =>
    rintro l pre x W ⟨⟨v, hv, hrow⟩, hB⟩ hlen
    have hc0 := hv.cell
    have hf0 := hv.frozen
    gi_wp2_with (gi_at_builtin; refine wpListIn_append_at1 _ rfl _ _ 55 rfl w.heap.size 9 i0 _ 16 Tryz.underlying55 hi hz0 hz1 hz2 rfl _ _ _ rfl (hrow.alloc _) ⟨W.heap.size, 0, none⟩ 1 (.string x) rfl (cell_one_new _ _ _) (by simp [Value.oneCell']) (by unfold maxLen; omega) (by omega) (by have := hB.size; simp; omega) ?_; rintro v' w1 hown' hgrow hat; obtain ⟨g', cap', rfl⟩ := ownsRow_succ hown'; obtain ⟨hv1, hv2, hr2, hk2, hb2⟩ := hv.appended (by decide) hrow hB.size (Nat.le_refl _) hown' hgrow; have hc1 := hv1.cell; have hf1 := hv1.frozen)
    have hgr : (W.alloc (.cells #[.string x] 9)).grownBy w1 v.ownBlock := hgrow
    have hat' : ∃ g, (Value.slice (some ⟨g', 0, none⟩) (pre.length + 1) cap').ownBlock = some g ∧ (v.ownBlock = some g ∨ (W.alloc (.cells #[.string x] 9)).heap.size ≤ g) := hat
    refine ⟨hk2.from _, ⟨?_, fun k C e fr hk hkb hko => ?_, fun v' hv' => ⟨v, hv.cell, ?_⟩⟩, ⟨_, hv2, by simpa using hr2⟩, hB.trans hb2⟩
    · have := hgr.size
      simp only [World.size_alloc] at this
      simp [World.setCell]; omega
    · have hkl := (Array.getElem?_eq_some_iff.1 hk).1
      rw [Below.heap_setCell _ _ _ _ (fun e => hkb e)]
      exact (hgr.block k (by simp; omega) (fun e => hko v hv.cell e.symm)).trans ((Below.heap_alloc _ _ k hkl).trans hk)
    · rw [hv2.cell] at hv'; cases hv'
      obtain ⟨g, e1, e2⟩ := hat'
      rcases e2 with e2 | e2
      · exact .inl (e1.trans e2.symm)
      · refine .inr fun q hq => ?_
        rw [e1] at hq; cases hq
        simp at e2; omega
  case done =>
    rintro D ys W hD rfl ⟨⟨v, hv, hrow⟩, hB⟩ hK
    have hc0 := hv.cell
    gi_wp2
    refine ⟨by simp, .inl ⟨_, _, rfl, run_takeDeferred hK, ?_⟩⟩
    exact ⟨_, results_tmp rfl _ _ _, v, rfl, ownsRow_putObj hrow _ hK rfl, hB.trans (belowK_b (w := w) (Nat.le_refl _) W D _ _ (by simp at hD; omega) hK rfl rfl)⟩
  case stop =>
    rintro D c pre W _ _ h _
    exact h.elim
end Go.Proofs
