/-
  ScriptReports: the reference's report.
-/
import Derived.Test.YtofgaidlepmcmaaGreatDoorW31
namespace Go.Ev
open Go Go.Proofs

section
variable {r n : Nat} {h h0 m m' : H} {i x1 : Nat} {v : Vw} {p : Pr} {c : Kid}
theorem ls1 : ({ data := #[32] } : ByteArray).size = 1 := rfl
theorem ls6 : ({ data := #[99, 104, 105, 108, 100, 32] } : ByteArray).size = 6 := rfl
theorem ls4 : ({ data := #[110, 111, 119, 32] } : ByteArray).size = 4 := rfl
theorem ls7 : ({ data := #[112, 97, 114, 101, 110, 116, 32] } : ByteArray).size = 7 := rfl
structure RefAt (h0 : H) (x1 : Nat) (v : Vw) (h : H) : Prop where
  ext : Ext h0 h
  vw : VwAt h x1 v
theorem RefAt.on (A : RefAt h0 x1 v h) (E : Ext h m) : RefAt h0 x1 v m := ⟨A.ext.trans E, A.vw.ext E⟩

theorem rkid_step {x5 j : Nat} {x4 : Int} {s : List UInt8} (B : PrAt h x5 p) (KS : Ks h p.ka p.kt p.kids) (hget : p.kids[j]? = some c) (hf : KidFit c) (h1 : c.id.length ≤ 100) (h2 : c.venue.length ≤ 100)
    (hlt : p.kids.length ≤ 40) (hl : s.length ≤ 100000000000) (hr : 1000000 ≤ r) :
    ∃ m, Ext h m ∧ ∀ {R : Type} (nx : Env → H → Option R) (K : Exit → Env → H → Option R),
      evCode P31 (ev31 r (n + 3)) (jmp31 r (n + 3) 18) (dead31 18) r 2 (pc [1, 1, 1, 1, 0, 1, 0, 0, 1, 0, 0, 1, 1, 1, 0, 0] (bd Tryz.f18)) (E18_8 (.pointer (some ⟨x1, 0, none⟩)) (.string (txt s)) (.int .i64 x4) (.pointer (some ⟨x5, 0, none⟩)) (.int .i64 (j : Int))) h (loopK nx (dead31 18 (4 * 2)) (dead31 18 (4 * 2 + 2)) (dead31 18 1000002) K) =
      nx (E18_8 (.pointer (some ⟨x1, 0, none⟩)) (.string (txt (s ++ kidT c))) (.int .i64 x4) (.pointer (some ⟨x5, 0, none⟩)) (.int .i64 ((j + 1 : Nat) : Int))) m := by
  have hj : j < p.kids.length := (List.getElem?_eq_some_iff.1 hget).1
  obtain ⟨m2, hm2, E2, H2⟩ := new_row h (kidC c)
  have C : KidAt m2 h.next c := ⟨H2⟩
  obtain ⟨y, m3, q3, rfl, E3⟩ := c_rword (r := r) (n := n + 2) (h := m2) c.state
  have C3 := C.ext E3
  have Z := Has.here m3 (.cells ([c.qty, c.price, c.cum, c.claim].map (Value.int .i64)) false)
  have hwl := stW_len c.state

  have q6 := c_rrow (r := r) (n := n) (s := [99, 104, 105, 108, 100, 32] ++ c.id ++ [32] ++ c.venue ++ [32] ++ stW c.state) (Is.of Z) (fun z hz => by
      simp only [List.mem_cons, List.not_mem_nil, or_false] at hz
      rcases hz with rfl | rfl | rfl | rfl
      · exact hf.qty
      · exact hf.price
      · exact hf.cum
      · exact hf.claim) (by simp; omega) (by simp) hr
  have hs : ({ data := #[99, 104, 105, 108, 100, 32] } : ByteArray) ++ txt c.id ++ { data := #[32] } ++ txt c.venue ++ { data := #[32] } ++ txt (stW c.state) = txt ([99, 104, 105, 108, 100, 32] ++ c.id ++ [32] ++ c.venue ++ [32] ++ stW c.state) := by
    show txt [99, 104, 105, 108, 100, 32] ++ txt c.id ++ txt [32] ++ txt c.venue ++ txt [32] ++ txt (stW c.state) = _
    simp only [txt_app]
  have hk := kidT_len h1 h2
  refine ⟨_, (E2.trans E3).new (.cells ([c.qty, c.price, c.cum, c.claim].map (Value.int .i64)) false), fun {R} nx K => ?_⟩
  rw [e18_8, B.r16, optK_mk, castSl_mk, decide_eq_true (by omega), cond_true, optK_mk, castSl_mk, KS.row (P := P31) und85 cel88 agg88 (by omega) hget rfl rfl, hm2, C.l3, optK_mk, castI_mk, callK_mk q3, castS_mk, C3.l0, optK_mk, castS_mk, same_str C.l0, cond_true,
    ifK_pos (by rw [txt_size]; omega), ifK_pos (by simp only [ByteArray.size_append, txt_size, ls6]; omega), C3.l1, optK_mk, castS_mk, same_str C.l1, cond_true, ifK_pos (by simp only [ByteArray.size_append, txt_size, ls6, ls1]; omega),
    ifK_pos (by simp only [ByteArray.size_append, txt_size, ls6, ls1]; omega), ifK_pos (by simp only [ByteArray.size_append, txt_size, ls6, ls1]; omega),
    C3.l4, optK_mk, castI_mk, same_int C.l4, cond_true, C3.l5, optK_mk, castI_mk, same_int C.l5, cond_true, C3.l8, optK_mk, castI_mk, same_int C.l8, cond_true, C3.l9, optK_mk, castI_mk, same_int C.l9, cond_true, hs]
  erw [callK_mk q6]
  show (castS (.string (txt (kidT c))) fun s33 => _) = _
  rw [castS_mk, ifK_pos (by rw [txt_size, txt_size]; omega), txt_app, wrap_succ (by omega)]
end
end Go.Ev
