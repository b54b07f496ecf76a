/- witness.Search: how a net and a search lie in memory. -/
import Derived.Test.YtbaclbiedepjfaaHpQ
import Derived.Test.YtbaclbiedepjfaaStW
set_option autoImplicit false
namespace Go.Proofs.Ytbaclbiedepjfaa
open Go Go.RowKit

theorem put_wf {n : Nat} {l : List Pl.Item} {p : List Int} {v k : Nat} (h : Pl.WF n l p) (hv : v < n) : Pl.WF n (Pl.put l p v k).1 (Pl.put l p v k).2.1 := by
  by_cases hm : ∃ q, (v, q) ∈ l
  · obtain ⟨q, hq⟩ := hm
    by_cases hle : q ≤ k
    · rw [Pl.put_same n l p v k q h hq hle]; exact h
    · obtain ⟨l', p', r, e, hw, _⟩ := Pl.put_less n l p v k q h hq (by omega)
      rw [e]; exact hw
  · obtain ⟨l', p', e, hw, _⟩ := Pl.put_new n l p v k h hv (fun x hx ex => hm ⟨x.2, by rw [← ex]; exact hx⟩)
    rw [e]; exact hw

/-- a net in memory, all of it below block B -/
structure NetMem (w : World) (B : Nat) (oA gA : Option Addr) (rows : List Value) (net : Pl.Net) : Prop where
  out : Reads w B 1 oA net.out.length rows
  row : ∀ v, v < net.out.length → ∃ A c, rows[v]? = some (.slice A (net.arcs v).length c) ∧ Reads w B 2 A (net.arcs v).length ((net.arcs v).flatMap cellsI)
  gone : Reads w B 1 gA net.out.length (net.gone.map Value.bool)
  ok : Pl.NetOk net
  sz : net.out.length ≤ 4096
  rl : ∀ v, (net.arcs v).length ≤ 65536

section
variable {w w' : World} {B : Nat} {oA gA : Option Addr} {rows : List Value} {net : Pl.Net}
theorem NetMem.below (h : NetMem w B oA gA rows net) (hb : Below B w w') : NetMem w' B oA gA rows net :=
  ⟨h.out.below hb, fun v hv => by
    obtain ⟨A, c, h1, h2⟩ := h.row v hv
    exact ⟨A, c, h1, h2.below hb⟩, h.gone.below hb, h.ok, h.sz, h.rl⟩
theorem NetMem.more {B' : Nat} (h : NetMem w B oA gA rows net) (hB : B ≤ B') : NetMem w B' oA gA rows net :=
  ⟨h.out.more hB, fun v hv => by
    obtain ⟨A, c, h1, h2⟩ := h.row v hv
    exact ⟨A, c, h1, h2.more hB⟩, h.gone.more hB, h.ok, h.sz, h.rl⟩
/-- gone[v] -/
theorem NetMem.goneAt (h : NetMem w B oA gA rows net) (hn : 0 < net.out.length) : ∃ b o, gA = some ⟨b, o, none⟩ ∧ b < B ∧ b < w.heap.size ∧ ∀ v, v < net.out.length → w.cell? ⟨b, o + v, none⟩ = some (.bool (net.isGone v)) := by
  obtain ⟨b, o, e, hb, hb2, hc⟩ := h.gone.lit hn (by omega)
  refine ⟨b, o, e, hb, hb2, fun v hv => hc v _ ?_⟩
  have : v < net.gone.length := by rw [h.ok.gl]; exact hv
  unfold Pl.Net.isGone
  simp [List.getD, this]
/-- out[v], and its arcs -/
theorem NetMem.outAt (h : NetMem w B oA gA rows net) (hn : 0 < net.out.length) : ∃ b o, oA = some ⟨b, o, none⟩ ∧ b < B ∧ b < w.heap.size ∧ ∀ v, v < net.out.length → ∃ A c, w.cell? ⟨b, o + v, none⟩ = some (.slice A (net.arcs v).length c) ∧
    Reads w B 2 A (net.arcs v).length ((net.arcs v).flatMap cellsI) := by
  obtain ⟨b, o, e, hb, hb2, hc⟩ := h.out.lit hn (by omega)
  refine ⟨b, o, e, hb, hb2, fun v hv => ?_⟩
  obtain ⟨A, c, h1, h2⟩ := h.row v hv
  exact ⟨A, c, hc v _ h1, h2⟩
end
/-- an arc's two cells -/
theorem arcAt {w : World} {B : Nat} {A : Option Addr} {l : List (Nat × Nat)} (h : Reads w B 2 A l.length (l.flatMap cellsI)) (hl : 0 < l.length) :
    ∃ b o, A = some ⟨b, o, none⟩ ∧ b < B ∧ b < w.heap.size ∧ ∀ k x, l[k]? = some x → w.cell? ⟨b, o + k * 2, none⟩ = some (.int .i64 x.1) ∧ w.cell? ⟨b, o + k * 2 + 1, none⟩ = some (.int .u64 x.2) := by
  obtain ⟨b, o, e, hb, hb2, hc⟩ := h.lit hl (by omega)
  refine ⟨b, o, e, hb, hb2, fun k x hx => ⟨hc _ _ ?_, ?_⟩⟩
  · have := flat_get cellsI 2 cellsI_len l k 0 (by omega)
    rw [hx] at this
    simpa [cellsI] using this
  · rw [Nat.add_assoc]
    refine hc _ _ ?_
    have := flat_get cellsI 2 cellsI_len l k 1 (by omega)
    rw [hx] at this
    simpa [cellsI] using this

/-- a search's own memory, all of it from block base on -/
structure SMem (base : Nat) (w : World) (R rb sb H : Nat) (lv : Value) (ab n : Nat) (s : Pl.St) : Prop where
  row : IsRow w R rb s.far
  st : Blk w sb 3 (s.steps.map fun (x : Nat) => Value.int .i64 (x : Int)).toArray
  hp : IsHeap w H lv ab n s.l s.p
  ne : sb ≠ ab
  fl : s.far.length = n
  sl : s.steps.length = n
  bs : base ≤ R ∧ base ≤ rb ∧ base ≤ sb ∧ ∀ b, hfoot H lv ab b → base ≤ b

section
variable {base : Nat} {w w' : World} {R rb sb H ab n : Nat} {lv lv' : Value} {s : Pl.St}
theorem SMem.row_not (h : SMem base w R rb sb H lv ab n s) {b : Nat} (hb : rfoot R rb b) : ¬ hfoot H lv ab b := by
  obtain ⟨m, hR⟩ := h.row.hb
  rintro (e | e | e)
  · rcases hb with rfl | rfl
    · exact hR.ne_ h.hp.mem.hb (by decide) e
    · exact h.row.lo.ne_ h.hp.mem.hb (by decide) e
  · rcases hb with rfl | rfl
    · exact hR.ne_ h.hp.mem.at_ (by decide) e
    · exact h.row.lo.ne_ h.hp.mem.at_ (by decide) e
  · rcases hb with rfl | rfl
    · exact own_blk_ne h.hp.mem.lo hR (by decide) e
    · exact own_blk_ne h.hp.mem.lo h.row.lo (by decide) e
theorem SMem.st_not (h : SMem base w R rb sb H lv ab n s) : ¬ hfoot H lv ab sb := by
  rintro (e | e | e)
  · exact h.st.ne_ h.hp.mem.hb (by decide) e
  · exact h.ne e
  · exact own_blk_ne h.hp.mem.lo h.st (by decide) e
theorem SMem.st_notr (h : SMem base w R rb sb H lv ab n s) : ¬ rfoot R rb sb := by
  obtain ⟨m, hR⟩ := h.row.hb
  rintro (e | e)
  · exact h.st.ne_ hR (by decide) e
  · exact h.st.ne_ h.row.lo (by decide) e
theorem SMem.below (h : SMem base w R rb sb H lv ab n s) (hb : Below w.heap.size w w') : SMem base w' R rb sb H lv ab n s :=
  ⟨h.row.below hb, h.st.below hb h.st.lt, ⟨h.hp.mem.below hb, h.hp.wf⟩, h.ne, h.fl, h.sl, h.bs⟩
theorem SMem.row_ (h : SMem base w R rb sb H lv ab n s) {far : List (Option Nat)} (hr : IsRow w' R rb far) (hl : far.length = n) (k : Keep (rfoot R rb) w w') :
    SMem base w' R rb sb H lv ab n { s with far := far } ∧ Below base w w' :=
  ⟨⟨hr, h.st.keep k h.st_notr, ⟨h.hp.mem.keep k (fun b hb hr => h.row_not hr hb), h.hp.wf⟩, h.ne, hl, h.sl, h.bs⟩,
    k.below (by have := h.bs.1; obtain ⟨m, hR⟩ := h.row.hb; have := hR.lt; omega) (fun b hb => by rcases hb with rfl | rfl; exact h.bs.1; exact h.bs.2.1)⟩
theorem SMem.heap_ (h : SMem base w R rb sb H lv ab n s) {l : List Pl.Item} {p : List Int} (hh : IsHeap w' H lv' ab n l p) (k : Keep (hfoot H lv ab) w w')
    (hf : ∀ b, hfoot H lv' ab b → hfoot H lv ab b ∨ w.heap.size ≤ b) : SMem base w' R rb sb H lv' ab n { s with l := l, p := p } ∧ Below base w w' := by
  have hlt : base ≤ w.heap.size := by have := h.bs.1; obtain ⟨m, hR⟩ := h.row.hb; have := hR.lt; omega
  refine ⟨⟨h.row.keep k (fun b hb => h.row_not hb), h.st.keep k h.st_not, hh, h.ne, h.fl, h.sl, h.bs.1, h.bs.2.1, h.bs.2.2.1, ?_⟩, k.below hlt h.bs.2.2.2⟩
  intro b hb
  rcases hf b hb with h1 | h1
  · exact h.bs.2.2.2 b h1
  · omega
theorem SMem.step_ (h : SMem base w R rb sb H lv ab n s) (i x : Nat) : SMem base (w.setCell ⟨sb, i, none⟩ (.int .i64 (x : Int))) R rb sb H lv ab n { s with steps := s.steps.set i x } ∧ Below base w (w.setCell ⟨sb, i, none⟩ (.int .i64 (x : Int))) := by
  have k : Keep (fun b => b = sb) w (w.setCell ⟨sb, i, none⟩ (.int .i64 (x : Int))) := (Keep.refl (fun b => b = sb) w).setCell (Or.inl rfl) _
  refine ⟨⟨h.row.keep k (fun b hb e => h.st_notr (e ▸ hb)), ?_, ⟨h.hp.mem.keep k (fun b hb e => h.st_not (e ▸ hb)), h.hp.wf⟩, h.ne, h.fl, by simpa using h.sl, h.bs⟩, (Below.refl _ _).setCell h.bs.2.2.1 _⟩
  have := h.st.set_ i (.int .i64 (x : Int))
  rw [List.map_set]
  simpa using this
theorem SMem.stepAt (h : SMem base w R rb sb H lv ab n s) {i : Nat} (hi : i < n) : w.cell? ⟨sb, i, none⟩ = some (.int .i64 (s.steps.getD i 0 : Nat)) ∧ w.frozen? ⟨sb, i, none⟩ = false := by
  refine ⟨?_, h.st.frozen i⟩
  rw [h.st.cell]
  have : i < s.steps.length := by rw [h.sl]; exact hi
  simp [List.getD, this]
end

/-- what a search answers -/
def searchV : Option Nat → Value
  | none => .tuple #[.int .u64 0, .bool false]
  | some d => .tuple #[.int .u64 d, .bool true]
end Go.Proofs.Ytbaclbiedepjfaa
