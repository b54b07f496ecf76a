/- heap: the walks of New, Len, Put. -/
import Derived.Test.YtbaclbiedepjfaaHpS
import Derived.Deep.RegionLaw
set_option autoImplicit false
namespace Go.Proofs.Ytbaclbiedepjfaa
open Go Go.RowKit

/-- the call answers v; the heap is turned, its row perhaps laid anew -/
def HPut (v : Value) (H : Nat) (lv : Value) (ab : Nat) (l : List Pl.Item) (p : List Int) (w : World) (e : Ending) (w' : World) : Prop :=
  ∃ lv', e = .returned v ∧ HMem w' H lv' ab l p ∧ Keep (hfoot H lv ab) w w' ∧ ∀ b, hfoot H lv' ab b → hfoot H lv ab b ∨ w.heap.size ≤ b

theorem infoItem : (Try.prog.info? 225).map (fun i => (i.zero, i.size, i.bytes)) = some (some (.agg #[.int .i64 0, .int .u64 0]), 2, 16) := by kernel_rfl
theorem infoInt : (Try.prog.info? 3).map (fun i => (i.zero, i.size, i.bytes)) = some (some (.int .i64 0), 1, 8) := by kernel_rfl

theorem HMem.shape {w : World} {H ab : Nat} {lv : Value} {l : List Pl.Item} {p : List Int} (h : HMem w H lv ab l p) : ∃ A c, lv = .slice A l.length c := by
  rcases h.lo.2 with ⟨rfl, h0⟩ | ⟨g, cap, _, rfl, _⟩
  · exact ⟨none, 0, by rw [h0]⟩
  · exact ⟨_, _, rfl⟩

set_option maxHeartbeats 400000 in
theorem len_any (H ab : Nat) (lv : Value) (l : List Pl.Item) (p : List Int) (w : World) (h : HMem w H lv ab l p) :
    Calls Try.prog 154 #[.pointer (some ⟨H, 0, none⟩)] w fun e w' => e = .returned (.int .i64 l.length) ∧ w = w' := by
  obtain ⟨c0, _, _, _⟩ := h.head
  obtain ⟨A, c, rfl⟩ := h.shape
  have hlm := h.lm
  clear h
  go_enter Try.func154, Try.ntmps154
  go_wp2
  go_ret
  exact ⟨rfl, rfl⟩

/-- behind 'h.l = append(h.l, x)' -/
theorem HMem.appended {w w1 : World} {H ab g cap n : Nat} {lv : Value} {l : List Pl.Item} {p : List Int} {x : Pl.Item} (h : HMem w H lv ab l p) (hl : l.length < 65536)
    (hn : n = l.length + 1)
    (hown : w1.ownsRow 0 225 2 (.slice (some ⟨g, 0, none⟩) n cap) n (l.flatMap cellsI ++ cellsI x)) (hg : w.grownBy w1 lv.ownBlock) (hat : lv.ownBlock = some g ∨ w.heap.size ≤ g) :
    HMem (w1.setCell ⟨H, 0, none⟩ (.slice (some ⟨g, 0, none⟩) n cap)) H (.slice (some ⟨g, 0, none⟩) n cap) ab (l ++ [x]) p ∧
    Keep (hfoot H lv ab) w (w1.setCell ⟨H, 0, none⟩ (.slice (some ⟨g, 0, none⟩) n cap)) ∧
    ∀ b, hfoot H (.slice (some ⟨g, 0, none⟩) n cap) ab b → hfoot H lv ab b ∨ w.heap.size ≤ b := by
  subst hn
  have hHg : some H ≠ lv.ownBlock := fun e => own_blk_ne h.lo h.hb (by decide) e.symm
  have hag : some ab ≠ lv.ownBlock := fun e => own_blk_ne h.lo h.at_ (by decide) e.symm
  have hb1 := h.hb.grown hg hHg
  have ha1 := h.at_.grown hg hag
  have hs : (w1.setCell ⟨H, 0, none⟩ (.slice (some ⟨g, 0, none⟩) (l.length + 1) cap)).ownsRow 0 225 2 (.slice (some ⟨g, 0, none⟩) (l.length + 1) cap) (l.length + 1) (l.flatMap cellsI ++ cellsI x) :=
    own_far hown (own_blk_ne hown hb1 (by decide)) _
  refine ⟨⟨?_, ?_, ha1.far h.H_ab.symm _, h.pm, by simp; omega⟩, ?_, ?_⟩
  · have := hb1.set_ 0 (.slice (some ⟨g, 0, none⟩) (l.length + 1) cap)
    simpa using this
  · rw [List.length_append, List.flatMap_append, List.flatMap_singleton]
    exact hs
  · exact ((Keep.refl (hfoot H lv ab) w).grown hg (fun b hb => Or.inl (Or.inr (Or.inr hb)))).setCell (Or.inl (Or.inl rfl)) _
  · rintro b (rfl | rfl | hb)
    · exact Or.inl (Or.inl rfl)
    · exact Or.inl (Or.inr (Or.inl rfl))
    · have : g = b := by simpa [Value.ownBlock] using hb
      subst this
      rcases hat with e | e
      · exact Or.inl (Or.inr (Or.inr e))
      · exact Or.inr e

set_option maxRecDepth 100000 in
set_option maxHeartbeats 1000000 in
theorem put_new_any (H ab v k : Nat) (lv : Value) (l : List Pl.Item) (p : List Int) (w : World) (h : HMem w H lv ab l p)
    (hv : v < p.length) (hall : ∀ j, j < l.length → (Pl.gt l j).1 < p.length) (hw : Pl.wher p v = -1) (hl : l.length < 65536) :
    Calls Try.prog 114 #[.pointer (some ⟨H, 0, none⟩), .int .i64 v, .int .u64 k] w
      (HPut (.bool true) H lv ab (Pl.rise (l ++ [(v, k)]) p l.length (v, k)).1 (Pl.rise (l ++ [(v, k)]) p l.length (v, k)).2 w) := by
  obtain ⟨c0, c1, f0, _⟩ := h.head
  obtain ⟨a0, _⟩ := h.place hv
  rw [hw] at a0
  have hHb := h.hb.lt
  have hab := h.at_.lt
  have hHa := h.H_ab
  have hpm := h.pm
  have hnb := World.new_ne w ⟨H, 0, none⟩ c0
  have hnb1 := World.new_ne w ⟨H, 1, none⟩ c1
  have hnb2 := World.new_ne w ⟨ab, v, none⟩ a0
  have hi0 : (0 : Int) ≤ (v : Int) := by omega
  have hi1 : (v : Int) < (p.length : Int) := by omega
  obtain ⟨i0, hi, hz0, hz1, hz2⟩ := info_parts infoItem
  have hall3 : ∀ j, j < (l ++ [(v, k)]).length → (Pl.gt (l ++ [(v, k)]) j).1 < p.length := by
    intro j hj
    rw [List.length_append, List.length_singleton] at hj
    by_cases hjl : j < l.length
    · have : Pl.gt (l ++ [(v, k)]) j = Pl.gt l j := by unfold Pl.gt; simp only [List.getD, List.getElem?_append_left hjl]
      rw [this]; exact hall j hjl
    · have : j = l.length := by omega
      subst this
      have : Pl.gt (l ++ [(v, k)]) l.length = (v, k) := by unfold Pl.gt; simp [List.getD]
      rw [this]; exact hv
  have HA3 := Lib.hid hall3
  have HH := Lib.hid h
  clear h hw hall hall3
  go_enter Try.func114, Try.ntmps114
  go_wp2
  go_region_held3 (fun w' => w'.cell? ⟨H, 1, none⟩ = some (.slice (some ⟨ab, 0, none⟩) p.length p.length) ∧ w'.cell? ⟨ab, v, none⟩ = some (.int .i64 (-1)) ∧ w'.cell? ⟨H, 0, none⟩ = some lv) (go_keep) (fail)
  go_wp2
  have x0 : (w.alloc (.cells #[.int .i64 v, .int .u64 k] 225)).cell? ⟨w.heap.size, 0, none⟩ = some (.int .i64 v) := by rw [(Blk.new w _ _).cell]; rfl
  have x1 : (w.alloc (.cells #[.int .i64 v, .int .u64 k] 225)).cell? ⟨w.heap.size, 1, none⟩ = some (.int .u64 k) := by rw [(Blk.new w _ _).cell]; rfl
  have HZ0 := Lib.hid (fun B : Obj => ((Keep.refl (fun _ => False) w).alloc (.cells #[.int .i64 v, .int .u64 k] 225)).alloc B |>.cell (p := ⟨H, 0, none⟩) hHb (fun h => h) |>.trans c0)
  have HZ1 := Lib.hid (fun B : Obj => (((Blk.new w 225 #[.int .i64 v, .int .u64 k]).alloc B).cell 0))
  have HZ2 := Lib.hid (fun B : Obj => (((Blk.new w 225 #[.int .i64 v, .int .u64 k]).alloc B).cell 1))
  have HZ3 := Lib.hid (fun B : Obj => (((Below.refl w.heap.size w).alloc (Nat.le_refl _) (.cells #[.int .i64 v, .int .u64 k] 225)).alloc (by simp) B).frozen (p := ⟨H, 0, none⟩) hHb |>.trans f0)
  have HF0 := Lib.hid (fun e => own_blk_ne HH.out.lo HH.out.hb (by decide) (Eq.symm e))
  have HF1 := Lib.hid (fun e : some w.heap.size = lv.ownBlock => Nat.lt_irrefl _ (own_lt HH.out.lo e.symm))
  go_region_law ((refine step_append_lies _ (by rfl) _ _ _ (by rfl) 0 225 i0 _ 2 16 Try.underlying221 hi hz0 hz1 hz2 rfl (by omega) lv l.length (l.flatMap cellsI) (by rfl) ((HH.out.lo.alloc _).alloc _).drew ⟨w.heap.size + 1, 0, none⟩ 1 1 [.int .i64 v, .int .u64 k] (by rfl) (by rfl) (World.news_of_block (cs := #[.int .i64 v, .int .u64 k]) (t := 225) (fr := (0, 0)) (heap_alloc2_new w _ _)) (by simp [Value.oneCell']) (by omega) (by unfold maxLen; omega) (by omega) (by simp) (w.heap.size + 2) (by simp) ?_; intro g cap w1 hown1 hgrow hat hlt; have d0 := (hgrow.cell_far ⟨H, 0, none⟩ (by simp; omega) HF0.out).trans (HZ0.out _); have d1 := (hgrow.cell_far ⟨w.heap.size, 0, none⟩ (by simp; omega) HF1.out).trans (HZ1.out _); have d2 := (hgrow.cell_far ⟨w.heap.size, 1, none⟩ (by simp; omega) HF1.out).trans (HZ2.out _); have d3 := (hgrow.frozen_far ⟨H, 0, none⟩ (by simp; omega) HF0.out).trans (HZ3.out _)))
  all_goals
    have happ := HMem.appended (x := (v, k)) (((HH.out.alloc (.cells #[.int .i64 v, .int .u64 k] 225)).alloc (.cells #[.int .i64 v, .int .u64 k] 225)).drew.drew) hl rfl hown1 hgrow (hat.imp id (fun e => by simp; omega))
    have hM3 : HMem (w1.setCell ⟨H, 0, none⟩ (.slice (some ⟨g, 0, none⟩) (l.length + 1) cap)) H (.slice (some ⟨g, 0, none⟩) (l ++ [(v, k)]).length cap) ab (l ++ [(v, k)]) p := by rw [List.length_append]; exact happ.1
    have HK3 := Lib.hid happ.2
    have HM3 := Lib.hid hM3
    clear happ hM3
    go_wp2_with (go_at_call 151; refine (rise_any H g ab cap _ _ _ (l ++ [(v, k)]) p _ HM3.out (by simp) hv HA3.out).mono ?_; rintro e w4 ⟨rfl, hM4, hK4⟩)
    go_ret
    refine ⟨_, rfl, hM4, ?_, ?_⟩
    · refine (((Keep.refl _ w).alloc _).alloc _).drew.drew.trans (HK3.out.1.trans hK4 ?_) (fun b hb => Or.inl hb)
      intro b hb
      rw [List.length_append] at hb
      exact HK3.out.2 b hb
    · intro b hb
      rw [List.length_append] at hb
      rcases HK3.out.2 b hb with h | h
      · exact Or.inl h
      · exact Or.inr (by simp at h; omega)

set_option maxRecDepth 100000 in
set_option maxHeartbeats 1000000 in
theorem put_same_any (H ab v k i : Nat) (lv : Value) (l : List Pl.Item) (p : List Int) (w : World) (h : HMem w H lv ab l p)
    (hv : v < p.length) (hw : Pl.wher p v = (i : Int)) (hil : i < l.length) (hk : (Pl.gt l i).2 ≤ k) :
    Calls Try.prog 114 #[.pointer (some ⟨H, 0, none⟩), .int .i64 v, .int .u64 k] w (HPut (.bool false) H lv ab l p w) := by
  obtain ⟨lb, cap, rfl, hlb, hlH, hla⟩ := h.form (by omega)
  obtain ⟨c0, c1, f0, _⟩ := h.head
  obtain ⟨a0, _⟩ := h.place hv
  obtain ⟨l0, l1, _, _⟩ := h.item hil
  rw [hw] at a0
  have hHb := h.hb.lt
  have hab := h.at_.lt
  have hpm := h.pm
  have hlm := h.lm
  have hnb := World.new_ne w ⟨H, 0, none⟩ c0
  have hnb1 := World.new_ne w ⟨H, 1, none⟩ c1
  have hnb2 := World.new_ne w ⟨ab, v, none⟩ a0
  have hnb3 := World.new_ne w ⟨lb, i * 2, none⟩ l0
  have hi0 : (0 : Int) ≤ (v : Int) := by omega
  have hi1 : (v : Int) < (p.length : Int) := by omega
  have hi2 : (0 : Int) ≤ (i : Int) := by omega
  have hi3 : (i : Int) < (l.length : Int) := by omega
  have hne : ((i : Int) == -1) = false := by rw [beq_eq_false_iff_ne]; omega
  have HH := Lib.hid h
  clear h hw
  go_enter Try.func114, Try.ntmps114
  go_wp2
  go_region_held3 (fun w' => w'.cell? ⟨H, 1, none⟩ = some (.slice (some ⟨ab, 0, none⟩) p.length p.length) ∧ w'.cell? ⟨ab, v, none⟩ = some (.int .i64 i) ∧ w'.cell? ⟨H, 0, none⟩ = some (.slice (some ⟨lb, 0, none⟩) l.length cap)) (go_keep) (fail)
  go_wp2
  go_ret
  exact ⟨_, rfl, (HH.out.alloc _).drew, ((Keep.refl _ w).alloc _).drew, fun b hb => Or.inl hb⟩

set_option maxRecDepth 100000 in
set_option maxHeartbeats 1000000 in
theorem put_less_any (H ab v k i : Nat) (lv : Value) (l : List Pl.Item) (p : List Int) (w : World) (h : HMem w H lv ab l p)
    (hv : v < p.length) (hall : ∀ j, j < l.length → (Pl.gt l j).1 < p.length) (hw : Pl.wher p v = (i : Int)) (hil : i < l.length) (hk : k < (Pl.gt l i).2) :
    Calls Try.prog 114 #[.pointer (some ⟨H, 0, none⟩), .int .i64 v, .int .u64 k] w (HPut (.bool true) H lv ab (Pl.rise l p i (v, k)).1 (Pl.rise l p i (v, k)).2 w) := by
  obtain ⟨lb, cap, rfl, hlb, hlH, hla⟩ := h.form (by omega)
  obtain ⟨c0, c1, f0, _⟩ := h.head
  obtain ⟨a0, _⟩ := h.place hv
  obtain ⟨l0, l1, _, _⟩ := h.item hil
  rw [hw] at a0
  have hHb := h.hb.lt
  have hab := h.at_.lt
  have hpm := h.pm
  have hlm := h.lm
  have hnb := World.new_ne w ⟨H, 0, none⟩ c0
  have hnb1 := World.new_ne w ⟨H, 1, none⟩ c1
  have hnb2 := World.new_ne w ⟨ab, v, none⟩ a0
  have hnb3 := World.new_ne w ⟨lb, i * 2, none⟩ l0
  have hi0 : (0 : Int) ≤ (v : Int) := by omega
  have hi1 : (v : Int) < (p.length : Int) := by omega
  have hi2 : (0 : Int) ≤ (i : Int) := by omega
  have hi3 : (i : Int) < (l.length : Int) := by omega
  have hne : ((i : Int) == -1) = false := by rw [beq_eq_false_iff_ne]; omega
  have HA := Lib.hid hall
  have HH := Lib.hid h
  clear h hw hall
  go_enter Try.func114, Try.ntmps114
  go_wp2
  go_region_held3 (fun w' => w'.cell? ⟨H, 1, none⟩ = some (.slice (some ⟨ab, 0, none⟩) p.length p.length) ∧ w'.cell? ⟨ab, v, none⟩ = some (.int .i64 i) ∧ w'.cell? ⟨H, 0, none⟩ = some (.slice (some ⟨lb, 0, none⟩) l.length cap)) (go_keep) (fail)
  go_wp2_with (go_at_call 151; refine (rise_any H lb ab cap _ _ _ l p _ (HH.out.alloc _).drew hil hv HA.out).mono ?_; rintro e w4 ⟨rfl, hM4, hK4⟩)
  go_ret
  exact ⟨_, rfl, hM4, ((Keep.refl _ w).alloc _).drew.trans hK4 (fun b hb => Or.inl hb), fun b hb => Or.inl hb⟩

theorem put_any (H ab v k : Nat) (lv : Value) (l : List Pl.Item) (p : List Int) (w : World) (h : HMem w H lv ab l p) (hw : Pl.WF p.length l p) (hv : v < p.length) :
    Calls Try.prog 114 #[.pointer (some ⟨H, 0, none⟩), .int .i64 v, .int .u64 k] w (HPut (.bool (Pl.put l p v k).2.2) H lv ab (Pl.put l p v k).1 (Pl.put l p v k).2.1 w) := by
  have hall : ∀ j, j < l.length → (Pl.gt l j).1 < p.length := fun j hj => hw.lt (List.mem_of_getElem? (Pl.gt_of hj))
  by_cases hn : Pl.wher p v = -1
  · have e : Pl.put l p v k = ((Pl.rise (l ++ [(v, k)]) p l.length (v, k)).1, (Pl.rise (l ++ [(v, k)]) p l.length (v, k)).2, true) := by
      unfold Pl.put; rw [if_pos hv, if_pos hn]
    rw [e]
    refine put_new_any H ab v k lv l p w h hv hall hn ?_
    have := Pl.WF.len_lt hw hv (hw.nowhere hn)
    have := h.pm
    omega
  · obtain ⟨i, h1, h2, h3, h4⟩ := hw.there hv hn
    by_cases hle : (Pl.gt l i).2 ≤ k
    · have e : Pl.put l p v k = (l, p, false) := by
        unfold Pl.put; rw [if_pos hv, if_neg hn, if_pos (by rw [h1]; simpa using hle)]
      rw [e]
      exact put_same_any H ab v k i lv l p w h hv h1 h2 hle
    · have e : Pl.put l p v k = ((Pl.rise l p i (v, k)).1, (Pl.rise l p i (v, k)).2, true) := by
        unfold Pl.put; rw [if_pos hv, if_neg hn, if_neg (by rw [h1]; simpa using hle), h1]; simp
      rw [e]
      exact put_less_any H ab v k i lv l p w h hv hall h1 h2 (by omega)
end Go.Proofs.Ytbaclbiedepjfaa
