/- It is proved that ContractMore (layer 20) returns true for every net, node and limits, and leaves its arguments as they were. No condition. -/
import Derived.Test.YtbaclbiedepjfaaFrNt
import Derived.Test.YtbaclbiedepjfaaMo2W
set_option autoImplicit false
namespace Go.Proofs.Ytbaclbiedepjfaa
open Go Go.RowKit Go.ChangeShapes Go.WideShapes Go.ChangeAt Go.Joins

theorem more_any (oA gA : Option Addr) (oc gc : Nat) (rows : List RowD) (gone : List Bool) (v h s : Int) (w : World) (hO : Reads w w.heap.size 1 oA rows.length (rows.map RowD.V)) (hR : ∀ r ∈ rows, Reads w w.heap.size 2 r.A r.l.length (r.l.flatMap cellsR))
    (hG : Reads w w.heap.size 1 gA gone.length (gone.map Value.bool)) :
    Calls Try.prog 4 #[.agg #[.slice oA rows.length oc, .slice gA gone.length gc], .int .i64 v, .int .i64 h, .int .i64 s] w (Fresh (.bool true) w) := by
  by_cases hb : lightB rows gone.length = false ∨ h < 1 ∨ 1000 < h ∨ s < 1 ∨ 1000 < s
  · exact more_dead oA gA oc gc rows gone v h s w hO hb
  · have hli : lightB rows gone.length = true := by
      cases e : lightB rows gone.length with
      | true => rfl
      | false => exact absurd (Or.inl e) hb
    exact more_live oA gA oc gc rows gone v h s w hO hR hG hli (by omega) (by omega) (by omega) (by omega)

set_option maxRecDepth 100000 in
theorem more_lifted (os : Os) (started : os.Started) (H : Type) (enc : TypeId × Value → H) :
    ReturnsInHanded {} Try.checked os 4 .any (Rows.contractMoreSpec.pre6 enc Try.prog Try.f4 Rows.contractMoreRow.domain false) (Rows.contractMoreSpec.post enc Try.prog Try.f4 false true false false) := by
  refine returnsInHanded_of_change (C := Try.checked) own started (by kernel_rfl) Try.func4
    (ChangeSpec.witness6 (enc := enc) (C := Try.checked) false ⟨#[], #[.agg #[.slice none 0 0, .slice none 0 0], .int .i64 0, .int .i64 0, .int .i64 0], []⟩ 8 (by kernel_rfl) (by kernel_rfl) (by kernel_rfl) (by kernel_rfl)) ?_
  intro W base args ds gs before hval0 hW hcnd _
  have hval : ∀ (j : Nat) t v, Try.f4.params[j]? = some t → args[j]? = some v → Value.okWide Try.prog W .any base t v := hval0
  have hW' := hW
  obtain ⟨p, q, hA0, hV, rfl, hfz, hnd⟩ := hW
  have hA : DataW.TrodAll enc Try.prog W 0 (fun _ => true) true Try.f4.params.toList args.toList ds p := hA0
  rw [Try.params4] at hA hval
  obtain ⟨v0, vs0, d0, ds0, p0, q0, hargs, rfl, rfl, h0, r0⟩ := trodAll_cons hA
  obtain ⟨v1, vs1, d1, ds1, p1, q1, rfl, rfl, rfl, h1, r1⟩ := trodAll_cons r0
  obtain ⟨v2, vs2, d2, ds2, p2, q2, rfl, rfl, rfl, h2, r2⟩ := trodAll_cons r1
  obtain ⟨v3, vs3, d3, ds3, p3, q3, rfl, rfl, rfl, h3, r3⟩ := trodAll_cons r2
  obtain ⟨rfl, rfl, rfl⟩ := trodAll_nil r3
  obtain rfl : args = #[v0, v1, v2, v3] := by cases args; simp_all
  obtain ⟨rfl, rfl⟩ := trodVars_none hV
  have k0 := h0
  have lt0 : ∀ x ∈ p0, x.block < W.heap.size := by obtain ⟨m, hm⟩ := k0; exact DataW.trod_lt m _ _ _ hm
  obtain ⟨oA, gA, oc, gc, rows, gone, rfl, hO, hR, hG⟩ := open_net (hval 0 44 v0 rfl rfl) h0
  obtain ⟨a1, rfl, rfl, rfl, w1⟩ := open_int Try.underlying3 (hval 1 3 v1 rfl rfl) h1
  obtain ⟨a2, rfl, rfl, rfl, w2⟩ := open_int Try.underlying3 (hval 2 3 v2 rfl rfl) h2
  obtain ⟨a3, rfl, rfl, rfl, w3⟩ := open_int Try.underlying3 (hval 3 3 v3 rfl rfl) h3
  clear hA0 hval0
  refine (more_any oA gA oc gc rows gone a1 a2 a3 W hO hR hG).mono fun e W' ⟨he, bel⟩ => ?_
  subst he
  exact ⟨_, rfl, _, _, _, [], _, [], hW', trodAll_mk1 (shut_bool Try.underlying4 _), (trodAll_cons_mk (Below.trod laidOut (by kernel_rfl) (of_decide_eq_true (by kernel_rfl)) k0 bel lt0) (trodAll_cons_mk (shut_int Try.underlying3 w1) (trodAll_cons_mk (shut_int Try.underlying3 w2) (trodAll_cons_mk (shut_int Try.underlying3 w3) trodAll_mk0)))), rfl, bel.frame _, fun h => by cases h⟩

theorem more_over : Rows.contractMoreRow.holds Try.pinned (OpenSpec.ofChange Rows.contractMoreSpec) :=
  OpenClaim.holds_of_wide 4 Try.f4 rfl rfl rfl rfl rfl rfl rfl ⟨rfl, rfl, rfl, rfl, rfl⟩ rfl rfl rfl rfl rfl (by kernel_rfl) Try.func4 (by kernel_rfl)
    (of_decide_eq_true (by kernel_rfl)) (by unfold Func.isWrapper; first | (rw [if_pos (by decide +kernel)]; kernel_rfl) | (rw [if_neg (by decide +kernel)]; exact ⟨rfl, rfl⟩))
    (fun os started H enc _ => more_lifted os started H enc)

/-- the statement -/
theorem more_holds : Rows.ContractMoreSaid := more_over
#print axioms more_holds
end Go.Proofs.Ytbaclbiedepjfaa
