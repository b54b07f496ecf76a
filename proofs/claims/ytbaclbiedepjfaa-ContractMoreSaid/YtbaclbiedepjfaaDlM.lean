/- slices.DeleteFunc at []witness.Arc, as add uses it: clear, the closure. -/
import Derived.Test.YtbaclbiedepjfaaIeW
import Derived.Test.YtbaclbiedepjfaaRiW
import Derived.Laws.IdiomCopy
set_option autoImplicit false
namespace Go.Proofs.Ytbaclbiedepjfaa
open Go Go.RowKit

theorem blk_setCells {g : Nat} {t : TypeId} : ∀ (vs : List Value) (o : Nat) (w : World) (cs : Array Value), Blk w g t cs → ∃ cs', Blk (w.setCells g o vs) g t cs' ∧ cs'.size = cs.size ∧ (∀ j, j < o → cs'[j]? = cs[j]?) ∧ Keep (fun b => b = g) w (w.setCells g o vs)
  | [], _, w, cs, h => ⟨cs, h, rfl, fun _ _ => rfl, Keep.refl _ _⟩
  | v :: vs, o, w, cs, h => by
    obtain ⟨cs', h1, h2, h3, h4⟩ := blk_setCells vs (o + 1) (w.setCell ⟨g, o, none⟩ v) _ (h.set_ o v)
    refine ⟨cs', h1, by simpa using h2, fun j hj => ?_, ((Keep.refl (fun b => b = g) w).setCell (p := ⟨g, o, none⟩) (Or.inl rfl) v).trans h4 (fun b hb => Or.inl hb)⟩
    rw [h3 j (by omega)]
    have : o ≠ j := by omega
    simp [this]

theorem run_clear_blk {P : Program} (w : World) (t e ty : TypeId) (y z : Value) (ht : P.underlying t = some (.slice e)) (hv : ∀ w, (zeroValue e).run P w = .ok (.agg #[y, z]) w) (hy : y.oneCell' = true) (hz : z.oneCell' = true)
    (g o n c : Nat) (hn : 0 < n) (te : TypeId) (cs : Array Value) (hb : Blk w g te cs) (ho : o + n * 2 ≤ cs.size) :
    ∃ cs' w', (Builtin.clear_ #[t] ty #[.slice (some ⟨g, o, none⟩) n c]).run P w = .ok (.tuple #[]) w' ∧ Blk w' g te cs' ∧ cs'.size = cs.size ∧ (∀ j, j < o → cs'[j]? = cs[j]?) ∧ Keep (fun b => b = g) w w' := by
  have hlen : (Builtin.zeroCells #[y, z] n).toList.length = n * 2 := by simp [Builtin.zeroCells]
  have hone : ∀ v ∈ (Builtin.zeroCells #[y, z] n).toList, v.oneCell' = true := by
    intro v hv
    rw [List.mem_iff_getElem] at hv
    obtain ⟨i, hi, rfl⟩ := hv
    simp only [Builtin.zeroCells, Array.getElem_toList]
    rcases (by omega : i % 2 = 0 ∨ i % 2 = 1) with h | h
    · simp [h, hy]
    · simp [h, hz]
  have hst := run_storeCells_cells (P := P) g o (Builtin.zeroCells #[y, z] n).toList 0 w
    (by intro j hj; rw [hlen] at hj; rw [hb.cell]; have : 0 + o + j < cs.size ∨ o + (0 + j) < cs.size := by omega
        simp; omega) (by intro j hj; exact hb.frozen _) hone
  obtain ⟨m, rfl⟩ : ∃ m, n = m + 1 := ⟨n - 1, by omega⟩
  obtain ⟨cs', h1, h2, h3, h4⟩ := blk_setCells (Builtin.zeroCells #[y, z] (m + 1)).toList o w cs hb
  refine ⟨cs', _, ?_, h1, h2, h3, h4⟩
  simp only [Nat.add_zero] at hst
  simp [Builtin.clear_, run_underlying ht, hv, Value.cells, hst]

theorem wpList_clear {P : Program} {ops : Array Oper} {rest : List Oper} {o : Oper} {a : Act} {w : World} {Q : Exit → Act → World → Prop} (hgd : o.guard = none) (s : Operand) (t : TypeId)
    (ho : o.op = .call { callee := .builtin .clear, args := #[s], argTypes := #[t] }) (v : Value) (hs : a.eval s = v) (u : Value) (w' : World)
    (hrun : (Builtin.clear_ #[t] o.type #[v]).run P w = .ok u w') (h : wpList P ops Q rest (a.put o.dst u) w') : wpList P ops Q (o :: rest) a w :=
  wpList_plain hgd fun _ hK => by
    unfold Oper.wp execOp
    simp only [ho, resolve, invoke, builtin, Sem.run_bind, Sem.run_pure, Result.andThen_ok, List.map_toArray, List.map_cons, List.map_nil, hs, hrun]
    exact hK _ _ h

theorem zeroArc (w : World) : (zeroValue 55).run Try.prog w = .ok (.agg #[.int .i64 0, .int .u64 0]) w := by kernel_rfl

def keepB (v : Int) (x : Int × Nat) : Bool := !decide (x.1 = v)

set_option maxRecDepth 100000 in
set_option maxHeartbeats 1000000 in
theorem delc_any (x : Int × Nat) (X : Nat) (v : Int) (w : World) (c0 : w.cell? ⟨X, 1, none⟩ = some (.int .i64 v)) (hX : X < w.heap.size) :
    Calls Try.prog 150 #[.agg #[.int .i64 x.1, .int .u64 x.2], .pointer (some ⟨X, 0, none⟩)] w (Fresh (.bool (decide (x.1 = v))) w) := by
  obtain ⟨t, q⟩ := x
  have hne := World.new_ne w ⟨X, 1, none⟩ c0
  go_enter Try.func150, Try.ntmps150
  go_wp2
  go_ret
  exact ⟨rfl, (Below.refl _ _).alloc (Nat.le_refl _) _⟩
end Go.Proofs.Ytbaclbiedepjfaa
