/- The frame: a net that comes. -/
import Derived.Test.YtbaclbiedepjfaaFrm
import Derived.Test.YtbaclbiedepjfaaRiW
set_option autoImplicit false
namespace Go.Proofs.Ytbaclbiedepjfaa
open Go Go.RowKit Go.ChangeShapes Go.WideShapes Go.ChangeAt Go.Joins

section
variable {H : Type} {enc : TypeId × Value → H} {w : World}
instance : Inhabited RowD := ⟨⟨none, 0, []⟩⟩
theorem el_arc19 {fuel : Nat} {cs : List Value} {y : DataW H × List MemPlace} (hl : cs.length = 2) (h : DataW.trod enc Try.prog w 0 (fun _ => true) true fuel 135 cs = some y) : ∃ a : Int × Nat, cs = cellsR a ∧ True := by
  match cs, hl with
  | [u, v], _ =>
    obtain ⟨y0, y1, n, _, _, h0, h1⟩ := trod_struct2 Try.underlying135 h
    have k1 : Try.prog.cellsOf 3 = 1 := by kernel_rfl
    have k2 : Try.prog.cellsOf 53 = 1 := by kernel_rfl
    simp only [k1, k2] at h0 h1
    obtain ⟨a, e1, _⟩ := el_int (u := u) (by simpa using h0)
    obtain ⟨b, e2, _⟩ := el_u64 (u := v) (by simpa using h1)
    exact ⟨(a, b), by rw [e1, e2]; rfl, trivial⟩
theorem el_row19 {fuel : Nat} {u : Value} {y : DataW H × List MemPlace} (h : DataW.trod enc Try.prog w 0 (fun _ => true) true fuel 133 [u] = some y) :
    ∃ r : RowD, u = r.V ∧ Reads w w.heap.size 2 r.A r.l.length (r.l.flatMap cellsR) := by
  obtain ⟨A, c, L, h1, h2, _⟩ := open_reads cellsR cellsR_len (fun _ => True) Try.underlying133 (by kernel_rfl) (by omega) (fun n cs y hl hy => el_arc19 hl hy) h
  exact ⟨⟨A, c, L⟩, h1, h2⟩
set_option maxRecDepth 100000 in
theorem open_net {r : Reach} {b0 : Nat} {v : Value} {d : DataW H} {p : List MemPlace} (hv : Value.okWide Try.prog w r b0 44 v) (h : DataW.Trod enc Try.prog w 0 (fun _ => true) true 44 v d p) :
    ∃ (oA gA : Option Addr) (oc gc : Nat) (rows : List RowD) (gone : List Bool), v = .agg #[.slice oA rows.length oc, .slice gA gone.length gc] ∧ Reads w w.heap.size 1 oA rows.length (rows.map RowD.V) ∧
      (∀ r ∈ rows, Reads w w.heap.size 2 r.A r.l.length (r.l.flatMap cellsR)) ∧ Reads w w.heap.size 1 gA gone.length (gone.map Value.bool) := by
  obtain ⟨v0, v1, y0, y1, n, rfl, _, _, h0, h1⟩ := open_agg2 Try.underlying44 (by kernel_rfl) (by kernel_rfl) hv h
  obtain ⟨oA, oc, rows, rfl, a1, a2, _⟩ := open_reads1 RowD.V (fun r => Reads w w.heap.size 2 r.A r.l.length (r.l.flatMap cellsR)) Try.underlying41 (by kernel_rfl) (fun n u y hy => el_row19 hy) h0
  obtain ⟨gA, gc, gone, rfl, b1, _⟩ := open_reads1 Value.bool (fun _ => True) Try.underlying42 (by kernel_rfl) (fun n u y hy => el_bool hy) h1
  exact ⟨oA, gA, oc, gc, rows, gone, rfl, a1, a2, b1⟩
end
end Go.Proofs.Ytbaclbiedepjfaa
