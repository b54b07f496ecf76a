/- heap: how it lies in memory. -/
import Derived.Test.YtbaclbiedepjfaaBase
import Derived.Test.YtbaclbiedepjfaaPlHeap
set_option autoImplicit false
namespace Go.Proofs.Ytbaclbiedepjfaa
open Go Go.RowKit

def cellsI (x : Pl.Item) : List Value := [.int .i64 x.1, .int .u64 x.2]
theorem cellsI_len (x : Pl.Item) : (cellsI x).length = 2 := rfl

/-- a heap's blocks: its struct, its places, its items' row -/
def hfoot (H : Nat) (lv : Value) (ab : Nat) (b : Nat) : Prop := b = H ∨ b = ab ∨ lv.ownBlock = some b

structure HMem (w : World) (H : Nat) (lv : Value) (ab : Nat) (l : List Pl.Item) (p : List Int) : Prop where
  hb : Blk w H 223 #[lv, .slice (some ⟨ab, 0, none⟩) p.length p.length]
  lo : w.ownsRow 0 225 2 lv l.length (l.flatMap cellsI)
  at_ : Blk w ab 3 (p.map (Value.int .i64)).toArray
  pm : p.length ≤ 65536
  lm : l.length ≤ 65536

section
variable {w w' : World} {H ab : Nat} {lv : Value} {l : List Pl.Item} {p : List Int}
theorem HMem.keep {F : Nat → Prop} (h : HMem w H lv ab l p) (k : Keep F w w') (hF : ∀ b, hfoot H lv ab b → ¬ F b) : HMem w' H lv ab l p :=
  ⟨h.hb.keep k (hF _ (Or.inl rfl)), own_keep h.lo k (fun g hg => hF g (Or.inr (Or.inr hg))), h.at_.keep k (hF _ (Or.inr (Or.inl rfl))), h.pm, h.lm⟩
theorem HMem.foot_lt (h : HMem w H lv ab l p) {b : Nat} (hb : hfoot H lv ab b) : b < w.heap.size := by
  rcases hb with rfl | rfl | hb
  · exact h.hb.lt
  · exact h.at_.lt
  · exact own_lt h.lo hb
theorem HMem.below (h : HMem w H lv ab l p) (k : Below w.heap.size w w') : HMem w' H lv ab l p :=
  h.keep (F := fun _ => False) (Keep.of_below k (Nat.le_refl _)) (fun _ _ h => h)
theorem HMem.samey (h : HMem w H lv ab l p) (k : Samey w' w) : HMem w' H lv ab l p :=
  ⟨k.blk h.hb, k.owns h.lo, k.blk h.at_, h.pm, h.lm⟩
/-- the row's shape where there is something in it -/
theorem HMem.form (h : HMem w H lv ab l p) (hl : 0 < l.length) : ∃ lb cap, lv = .slice (some ⟨lb, 0, none⟩) l.length cap ∧ lb < w.heap.size ∧ lb ≠ H ∧ lb ≠ ab := by
  obtain ⟨lb, cap, hv, _, hlt⟩ := h.lo.form hl
  refine ⟨lb, cap, hv, hlt, ?_, ?_⟩
  · intro e
    exact own_blk_ne h.lo h.hb (by decide) (by rw [hv, e]; rfl)
  · intro e
    exact own_blk_ne h.lo h.at_ (by decide) (by rw [hv, e]; rfl)
theorem HMem.formAt {lb cap : Nat} (h : HMem w H (.slice (some ⟨lb, 0, none⟩) l.length cap) ab l p) (hl : 0 < l.length) : lb < w.heap.size ∧ lb ≠ H ∧ lb ≠ ab := by
  obtain ⟨lb', cap', hv, h1, h2, h3⟩ := h.form hl
  injection hv with e1 _ _; injection e1 with e1; injection e1 with e1
  subst e1
  exact ⟨h1, h2, h3⟩
theorem HMem.H_ab (h : HMem w H lv ab l p) : H ≠ ab := h.hb.ne_ h.at_ (by decide)
theorem HMem.item {lb cap : Nat} (h : HMem w H (.slice (some ⟨lb, 0, none⟩) l.length cap) ab l p) {i : Nat} (hi : i < l.length) :
    w.cell? ⟨lb, i * 2, none⟩ = some (.int .i64 (Pl.gt l i).1) ∧ w.cell? ⟨lb, i * 2 + 1, none⟩ = some (.int .u64 (Pl.gt l i).2) ∧
    w.frozen? ⟨lb, i * 2, none⟩ = false ∧ w.frozen? ⟨lb, i * 2 + 1, none⟩ = false := by
  have hg := Pl.gt_of hi
  refine ⟨?_, ?_, h.lo.frozenAt _, h.lo.frozenAt _⟩
  · rw [h.lo.cellAt (i * 2) (by omega), show i * 2 = i * 2 + 0 from rfl, flat_get cellsI 2 cellsI_len l i 0 (by omega), hg]; rfl
  · rw [h.lo.cellAt (i * 2 + 1) (by omega), flat_get cellsI 2 cellsI_len l i 1 (by omega), hg]; rfl
theorem HMem.place (h : HMem w H lv ab l p) {v : Nat} (hv : v < p.length) :
    w.cell? ⟨ab, v, none⟩ = some (.int .i64 (Pl.wher p v)) ∧ w.frozen? ⟨ab, v, none⟩ = false := by
  refine ⟨?_, h.at_.frozen _⟩
  rw [h.at_.cell]
  simp [Pl.wher_some hv]
theorem HMem.head (h : HMem w H lv ab l p) : w.cell? ⟨H, 0, none⟩ = some lv ∧ w.cell? ⟨H, 1, none⟩ = some (.slice (some ⟨ab, 0, none⟩) p.length p.length) ∧
    w.frozen? ⟨H, 0, none⟩ = false ∧ w.frozen? ⟨H, 1, none⟩ = false :=
  ⟨by rw [h.hb.cell]; rfl, by rw [h.hb.cell]; rfl, h.hb.frozen _, h.hb.frozen _⟩

theorem HMem.set_item {lb cap : Nat} (h : HMem w H (.slice (some ⟨lb, 0, none⟩) l.length cap) ab l p) (i : Nat) (x : Pl.Item) :
    HMem ((w.setCell ⟨lb, i * 2, none⟩ (.int .i64 x.1)).setCell ⟨lb, i * 2 + 1, none⟩ (.int .u64 x.2)) H (.slice (some ⟨lb, 0, none⟩) l.length cap) ab (l.set i x) p ∧
    Keep (hfoot H (.slice (some ⟨lb, 0, none⟩) l.length cap) ab) w ((w.setCell ⟨lb, i * 2, none⟩ (.int .i64 x.1)).setCell ⟨lb, i * 2 + 1, none⟩ (.int .u64 x.2)) := by
  have h1 := (h.lo.stored (i * 2) (.int .i64 x.1)).1
  have h2 := (h1.stored (i * 2 + 1) (.int .u64 x.2)).1
  have hHl : H ≠ lb := fun e => own_blk_ne h.lo h.hb (by decide) (by rw [e]; rfl)
  have hal : ab ≠ lb := fun e => own_blk_ne h.lo h.at_ (by decide) (by rw [e]; rfl)
  refine ⟨⟨(h.hb.far hHl _).far hHl _, ?_, (h.at_.far hal _).far hal _, h.pm, by simpa using h.lm⟩, ?_⟩
  · rw [List.length_set, ← flat2_set cellsI cellsI_len l i x _ _ rfl]
    exact h2
  · exact ((Keep.refl _ w).setCell (Or.inl (Or.inr (Or.inr rfl))) _).setCell (Or.inl (Or.inr (Or.inr rfl))) _
theorem HMem.set_place (h : HMem w H lv ab l p) (v : Nat) (z : Int) : HMem (w.setCell ⟨ab, v, none⟩ (.int .i64 z)) H lv ab l (p.set v z) ∧ Keep (hfoot H lv ab) w (w.setCell ⟨ab, v, none⟩ (.int .i64 z)) := by
  refine ⟨⟨?_, own_far h.lo (own_blk_ne h.lo h.at_ (by decide)) _, ?_, by simpa using h.pm, h.lm⟩, (Keep.refl _ w).setCell (Or.inl (Or.inr (Or.inl rfl))) _⟩
  · rw [List.length_set]; exact h.hb.far h.H_ab _
  · have := h.at_.set_ v (.int .i64 z)
    rw [List.map_set]
    simpa using this
theorem HMem.alloc (h : HMem w H lv ab l p) (o : Obj) : HMem (w.alloc o) H lv ab l p := h.below ((Below.refl _ _).alloc (Nat.le_refl _) _)
theorem HMem.drew (h : HMem w H lv ab l p) : HMem w.drew H lv ab l p := h.samey ⟨rfl, rfl, rfl, rfl⟩
end
end Go.Proofs.Ytbaclbiedepjfaa
