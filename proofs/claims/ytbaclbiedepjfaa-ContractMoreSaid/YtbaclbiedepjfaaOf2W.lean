/- highroadlaw20.of: its walk. -/
import Derived.Test.YtbaclbiedepjfaaOfW
set_option autoImplicit false
namespace Go.Proofs.Ytbaclbiedepjfaa
open Go Go.RowKit

/-- the rows that were copied -/
def OfR (base B3 : Nat) (gV : Value) (w0 : World) (rows : List RowD) (v : Nat) (wr : World) : Prop :=
  ∃ (ov : Value) (rs : List RowD), rs.map RowD.l = (rows.take v).map RowD.l ∧ Blk wr B3 51 #[ov, gV] ∧ wr.ownsRow base 46 1 ov v (rs.map RowD.V) ∧ (∀ r ∈ rs, wr.ownsRow base 55 2 r.V r.l.length (r.l.flatMap cellsR)) ∧ Keep (fun b => b = B3) w0 wr
theorem OfR.low {base B3 : Nat} {gV : Value} {w0 wr w' : World} {rows : List RowD} {v : Nat} (h : OfR base B3 gV w0 rows v wr) (hb : Below wr.heap.size wr w') : OfR base B3 gV w0 rows v w' := by
  obtain ⟨ov, rs, h1, h2, h3, h4, h5⟩ := h
  exact ⟨ov, rs, h1, h2.below hb h2.lt, own_below h3 hb, fun r hr => own_below (h4 r hr) hb, h5.low hb⟩
/-- one row more -/
theorem OfR.push {base B3 g cap lc : Nat} {lA : Option Addr} {gV ov : Value} {w0 wr w1 w2 : World} {rows rs : List RowD} {v : Nat} {x : RowD} (hx : rows[v]? = some x) (hW0 : w0.heap.size ≤ base) (hB3 : B3 < base)
    (h1 : rs.map RowD.l = (rows.take v).map RowD.l) (h2 : Blk wr B3 51 #[ov, gV]) (h3 : wr.ownsRow base 46 1 ov v (rs.map RowD.V)) (h4 : ∀ r ∈ rs, wr.ownsRow base 55 2 r.V r.l.length (r.l.flatMap cellsR)) (h5 : Keep (fun b => b = B3) w0 wr)
    (hl : wr.ownsRow base 55 2 (.slice lA x.l.length lc) x.l.length (x.l.flatMap cellsR)) {o : Obj} (hw1 : w1 = wr.alloc o) (ho : w2.ownsRow base 46 1 (.slice (some ⟨g, 0, none⟩) (v + 1) cap) (v + 1) (rs.map RowD.V ++ [.slice lA x.l.length lc])) (hg : w1.grownBy w2 ov.ownBlock) :
    OfR base B3 gV w0 rows (v + 1) (w2.setCell ⟨B3, 0, none⟩ (.slice (some ⟨g, 0, none⟩) (v + 1) cap)) := by
  subst hw1
  have hk1 : Keep (fun b => ov.ownBlock = some b) wr w2 := ((Keep.refl (fun b => ov.ownBlock = some b) wr).alloc o).grown hg (fun g e => Or.inl e)
  have hk2 : Keep (fun b => b = B3) w2 (w2.setCell ⟨B3, 0, none⟩ (.slice (some ⟨g, 0, none⟩) (v + 1) cap)) := (Keep.refl (fun b => b = B3) w2).setCell (p := ⟨B3, 0, none⟩) (Or.inl rfl) _
  have hovb : ∀ b, ov.ownBlock = some b → base ≤ b := fun b e => (h3.lt b e).1
  have arc : ∀ (z : Value) (m : Nat) (xs : List Value), wr.ownsRow base 55 2 z m xs → (w2.setCell ⟨B3, 0, none⟩ (.slice (some ⟨g, 0, none⟩) (v + 1) cap)).ownsRow base 55 2 z m xs := by
    intro z m xs hz
    refine own_keep (own_keep hz hk1 (fun b hb e => ?_)) hk2 (fun b hb e => by have := (hz.lt b hb).1; omega)
    rcases own_own_ne hz h3 (by decide) with h6 | h6
    · rw [hb] at h6; cases h6
    · exact h6 (by rw [hb, e])
  refine ⟨.slice (some ⟨g, 0, none⟩) (v + 1) cap, rs ++ [⟨lA, lc, x.l⟩], ?_, ?_, ?_, ?_, ?_⟩
  · rw [List.map_append, h1, Pl.take_snoc hx, List.map_append]; rfl
  · have := (h2.keep hk1 (fun e => by have := hovb _ e; omega)).set_ 0 (.slice (some ⟨g, 0, none⟩) (v + 1) cap)
    simpa using this
  · refine own_keep ?_ hk2 (fun b hb e => by have := (ho.lt b hb).1; omega)
    rw [List.map_append]; exact ho
  · intro r hr
    rcases List.mem_append.1 hr with hr | hr
    · exact arc _ _ _ (h4 r hr)
    · rw [List.mem_singleton] at hr
      subst hr
      exact arc _ _ _ hl
  · exact (h5.trans hk1 (fun b e => Or.inr (Nat.le_trans hW0 (hovb b e)))).trans hk2 (fun b e => Or.inl e)

/-- the answer: a net of its own with these rows -/
def OfDone (rows : List RowD) (gA : Option Addr) (gl gc : Nat) (w : World) (e : Ending) (w' : World) : Prop :=
  ∃ (oA : Option Addr) (oc : Nat) (rs : List RowD), e = .returned (.agg #[.slice oA rows.length oc, .slice gA gl gc]) ∧ rs.map RowD.l = rows.map RowD.l ∧ w'.ownsRow w.heap.size 46 1 (.slice oA rows.length oc) rows.length (rs.map RowD.V) ∧
    (∀ r ∈ rs, w'.ownsRow w.heap.size 55 2 r.V r.l.length (r.l.flatMap cellsR)) ∧ Below w.heap.size w w'

set_option maxRecDepth 100000 in
set_option maxHeartbeats 8000000 in
theorem of_any (oA gA : Option Addr) (oc gc gl : Nat) (rows : List RowD) (w : World) (hO : Reads w w.heap.size 1 oA rows.length (rows.map RowD.V)) (hR : ∀ r ∈ rows, Reads w w.heap.size 2 r.A r.l.length (r.l.flatMap cellsR)) (hn : rows.length ≤ 12) (hl : ∀ r ∈ rows, r.l.length ≤ 20) :
    Calls Try.prog 21 #[.agg #[.slice oA rows.length oc, .slice gA gl gc]] w (OfDone rows gA gl gc w) := by
  obtain ⟨i0, hi, hz0, hz1, hz2⟩ := info_parts infoArc
  obtain ⟨j0, hjI, hy0, hy1, hy2⟩ := info_parts infoRows
  obtain ⟨W, hW⟩ : ∃ W, W = ((w.alloc (.cells #[.slice oA rows.length oc, .slice gA gl gc] 44)).alloc (.cells #[.slice none 0 0, .slice none 0 0] 51)).alloc (.cells #[.slice none 0 0, .slice gA gl gc] 51) := ⟨_, rfl⟩
  have hb0 : Blk W w.heap.size 44 #[.slice oA rows.length oc, .slice gA gl gc] := by rw [hW]; exact ((Blk.new w _ _).alloc _).alloc _
  have hb1 : Blk W (w.heap.size + 1) 51 #[.slice none 0 0, .slice none 0 0] := by
    have := (Blk.new (w.alloc (.cells #[.slice oA rows.length oc, .slice gA gl gc] 44)) 51 #[.slice none 0 0, .slice none 0 0]).alloc (.cells #[.slice none 0 0, .slice gA gl gc] 51)
    rw [hW]; simpa using this
  have hb2 : Blk W (w.heap.size + 2) 51 #[.slice none 0 0, .slice gA gl gc] := by
    have := Blk.new ((w.alloc (.cells #[.slice oA rows.length oc, .slice gA gl gc] 44)).alloc (.cells #[.slice none 0 0, .slice none 0 0] 51)) 51 #[.slice none 0 0, .slice gA gl gc]
    rw [hW]; simpa using this
  have hB : Below w.heap.size w W := by rw [hW]; exact (((Below.refl _ _).alloc (Nat.le_refl _) _).alloc (by simp) _).alloc (by simp; omega) _
  have hs0 : W.heap.size = w.heap.size + 3 := by rw [hW]; simp
  have c0 := hb0.cell 0
  have c1 := hb0.cell 1
  simp at c0 c1
  have HR0 : Hid (OfR W.heap.size (w.heap.size + 2) (.slice gA gl gc) W rows 0 W) := Lib.hid ⟨.slice none 0 0, [], rfl, hb2, World.ownsRow_nil _ _ _ _, fun _ h => (by cases h), Keep.refl _ _⟩
  have HBW := Lib.hid hB
  have HW := Lib.hid hW
  have HB0 := Lib.hid hb0
  have HB1 := Lib.hid hb1
  have HO := Lib.hid hO
  have HRR := Lib.hid hR
  have HL := Lib.hid hl
  clear hB hW hb0 hb1 hb2 hO hR hl
  go_enter Try.func21, Try.ntmps21
  go_wp2
  rw [← HW.out]
  go_loopw [4, 5, 6] (fun i _ _ wr => ∃ v : Nat, v ≤ rows.length ∧ i = .int .i64 v ∧ Hid (OfR W.heap.size (w.heap.size + 2) (.slice gA gl gc) W rows v wr)) (fun i _ _ _ => rows.length - (intOf i).toNat)
  case atStart => exact ⟨0, Nat.zero_le _, rfl, HR0⟩
  case round =>
    obtain ⟨v, hv, rfl, HI⟩ := hrel
    obtain ⟨wo, rfl⟩ : ∃ wo : World, wo = wr := ⟨_, rfl⟩
    obtain ⟨ov, rs, h1, h2, h3, h4, h5⟩ := HI.out
    have hsz := h5.size
    have hbx := HB0.out.keep h5 (by omega)
    by_cases hlt : v < rows.length
    · obtain ⟨x, hx⟩ : ∃ x, rows[v]? = some x := ⟨_, List.getElem?_eq_getElem hlt⟩
      have hxl := HL.out x (List.mem_of_getElem? hx)
      have HX := Lib.hid hx
      have HBX := Lib.hid hbx
      have HO2 : Hid (∀ wr, Below wo.heap.size wo wr → Reads wr w.heap.size 1 oA rows.length (rows.map RowD.V) ∧ Reads wr w.heap.size 2 x.A x.l.length (x.l.flatMap cellsR)) := Lib.hid (fun wr hb => by
        have hbb : Below w.heap.size w wr := (HBW.out.trans (h5.below (by omega) (fun b e => by omega))).trans (hb.mono (by omega))
        exact ⟨HO.out.below hbb, (HRR.out x (List.mem_of_getElem? hx)).below hbb⟩)
      have c2 := hbx.cell 0
      simp at c2
      have hi0 : (0 : Int) ≤ (v : Int) := by omega
      have hi1 : (v : Int) < (rows.length : Int) := by omega
      have HL0 : Hid (wo.ownsRow wo.heap.size 55 2 (.slice none 0 0) 0 ((x.l.take 0).flatMap cellsR) ∧ Below wo.heap.size wo wo) := Lib.hid ⟨World.ownsRow_nil _ _ _ _, Below.refl _ _⟩
      clear h1 h2 h3 h4 h5 hx hbx
      go_wp2
      go_loopw [5, 6] (fun lv i wr => ∃ j : Nat, j ≤ x.l.length ∧ i = .int .i64 j ∧ Hid (wr.ownsRow wo.heap.size 55 2 lv j ((x.l.take j).flatMap cellsR) ∧ Below wo.heap.size wo wr)) (fun _ i _ => x.l.length - (intOf i).toNat)
      case atStart => exact ⟨0, Nat.zero_le _, rfl, HL0⟩
      case round =>
        obtain ⟨j, hj, rfl, HJ⟩ := hrel
        obtain ⟨ho2, hr2⟩ := HO2.out wr HJ.out.2
        obtain ⟨ob, oo, eo, hob, _, hoc⟩ := rowAt1 ho2 (by omega)
        subst eo
        have d0 : _ = some (Value.slice x.A x.l.length x.c) := hoc v x HX.out
        have d1 := (HBX.out.below HJ.out.2 HBX.out.lt).cell 0
        simp at d1
        by_cases hjl : j < x.l.length
        · obtain ⟨y, hy⟩ : ∃ y, x.l[j]? = some y := ⟨_, List.getElem?_eq_getElem hjl⟩
          obtain ⟨rb, ro, er, hrb, _, hrc⟩ := rowAt2 hr2 (by omega)
          obtain ⟨y1, y2⟩ := y
          obtain ⟨e0, e1⟩ := hrc j _ hy
          rw [er] at d0
          simp only at e0 e1
          have hj0 : (0 : Int) ≤ (j : Int) := by omega
          have hj1 : (j : Int) < (x.l.length : Int) := by omega
          have HY := Lib.hid hy
          have hown := HJ.out.1
          have HOW := Lib.hid hown
          have hwsz := HJ.out.2.size
          clear hrc hoc ho2 hr2 hy er hown
          have hf0 : some w.heap.size ≠ u5.ownBlock := fun e => by have := (HOW.out.lt _ e.symm).1; omega
          have hf1 : some ob ≠ u5.ownBlock := fun e => by have := (HOW.out.lt _ e.symm).1; omega
          have hf2 : some rb ≠ u5.ownBlock := fun e => by have := (HOW.out.lt _ e.symm).1; omega
          have HF0 := Lib.hid hf0
          have HF1 := Lib.hid hf1
          have HF2 := Lib.hid hf2
          have HZ0 := Lib.hid (fun o => (World.cell?_alloc_lt wr o ⟨w.heap.size, 0, none⟩ (by show w.heap.size < wr.heap.size; omega)).trans d1)
          have HZ1 := Lib.hid (fun o => (World.cell?_alloc_lt wr o ⟨ob, oo + v, none⟩ (by show ob < wr.heap.size; omega)).trans d0)
          have HZ2 := Lib.hid (fun o => (World.cell?_alloc_lt wr o ⟨rb, ro + j * 2, none⟩ (by show rb < wr.heap.size; omega)).trans e0)
          have HZ3 := Lib.hid (fun o => (World.cell?_alloc_lt wr o ⟨rb, ro + j * 2 + 1, none⟩ (by show rb < wr.heap.size; omega)).trans e1)
          have hjb : j + 1 ≤ 21 := by omega
          clear hf0 hf1 hf2
          go_wp2
          go_region_held3 (fun w' => w'.cell? ⟨w.heap.size, 0, none⟩ = some (.slice (some ⟨ob, oo, none⟩) rows.length oc) ∧ w'.cell? ⟨ob, oo + v, none⟩ = some (.slice (some ⟨rb, ro, none⟩) x.l.length x.c) ∧ w'.cell? ⟨rb, ro + j * 2, none⟩ = some (.int .i64 y1) ∧ w'.cell? ⟨rb, ro + j * 2 + 1, none⟩ = some (.int .u64 y2))
            (first | (refine ⟨?_, ?_, ?_, ?_⟩ <;> assumption) | go_keep)
            ((refine step_append_lies _ (by rfl) _ _ _ (by rfl) wo.heap.size 55 i0 _ 2 16 Try.underlying46 hi hz0 hz1 hz2 rfl (by omega) u5 j ((x.l.take j).flatMap cellsR) (by rfl) (HOW.out.alloc _).drew ⟨wr.heap.size, 0, none⟩ 1 1 [.int .i64 y1, .int .u64 y2] (by rfl) (by rfl) (World.news_of_block (cs := #[.int .i64 y1, .int .u64 y2]) (t := 55) (fr := (0, 0)) (heap_alloc_new wr _)) (by simp [Value.oneCell']) (by omega) (by unfold maxLen; omega) (by omega) (by simp; omega) (wr.heap.size + 1) (by simp) ?_; intro g cap w1 hown1 hgrow hat hlt1; have z0 := (hgrow.cell_far ⟨w.heap.size, 0, none⟩ (by simp; omega) HF0.out).trans (HZ0.out _); have z1 := (hgrow.cell_far ⟨ob, oo + v, none⟩ (by simp; omega) HF1.out).trans (HZ1.out _); have z2 := (hgrow.cell_far ⟨rb, ro + j * 2, none⟩ (by simp; omega) HF2.out).trans (HZ2.out _); have z3 := (hgrow.cell_far ⟨rb, ro + j * 2 + 1, none⟩ (by simp; omega) HF2.out).trans (HZ3.out _)))
          all_goals
            have hfin : Hid (w1.ownsRow wo.heap.size 55 2 (.slice (some ⟨g, 0, none⟩) (j + 1) cap) (j + 1) ((x.l.take (j + 1)).flatMap cellsR) ∧ Below wo.heap.size wo w1) := Lib.hid (by
              refine ⟨?_, (((HJ.out.2.alloc hwsz _).drew).grown hgrow (by simp; omega) (fun k e => (HOW.out.lt k e).1))⟩
              rw [Pl.take_snoc HY.out, List.flatMap_append]
              exact hown1)
            clear hown1 hgrow z0 z1 z2 z3
            go_wp2_with fail
            go_roundw
            case rel => exact ⟨j + 1, by omega, by go_num, hfin⟩
            case measure => simp [intOf]; omega
        · obtain rfl : j = x.l.length := by omega
          clear hoc ho2 hr2
          obtain ⟨ov, rs, h1, h2, h3, h4, h5⟩ := HI.out.low HJ.out.2
          obtain ⟨oA', oc', eov⟩ := own_slice h3
          subst eov
          obtain ⟨lA, lc, elv⟩ := own_slice HJ.out.1
          have hlv := own_base HJ.out.1 (Nat.le_trans hsz (Nat.le_refl _))
          rw [List.take_length] at hlv
          subst elv
          have k0 := h2.cell 0
          have k0f := h2.frozen 0
          simp at k0
          have hnb : some (w.heap.size + 2) ≠ (Value.slice oA' v oc').ownBlock := fun e => by have := (h3.lt _ e.symm).1; omega
          have HNB := Lib.hid hnb
          have H1 := Lib.hid h1
          have H2 := Lib.hid h2
          have H3 := Lib.hid h3
          have H4 := Lib.hid h4
          have H5 := Lib.hid h5
          have HLV := Lib.hid hlv
          have hwsz := h5.size
          have hb3 := h2.lt
          have HK0 := Lib.hid (fun o => (World.cell?_alloc_lt wr o ⟨w.heap.size + 2, 0, none⟩ (by show w.heap.size + 2 < wr.heap.size; omega)).trans k0)
          have HK1 : Hid (∀ o, (wr.alloc o).frozen? ⟨w.heap.size + 2, 0, none⟩ = false) := Lib.hid (fun o => (h2.alloc o).frozen 0)
          clear h1 h2 h3 h4 h5 hlv hnb
          go_wp2_with (at_builtin; refine wpList_append_lies _ rfl (.tmp 50) (.tmp 52) _ rfl W.heap.size 46 j0 _ 1 24 Try.underlying49 hjI hy0 hy1 hy2 rfl (by omega) (.slice oA' v oc') v (rs.map RowD.V) (by rfl) (H3.out.alloc _) ⟨wr.heap.size, 0, none⟩ 1 1 [.slice lA x.l.length lc] (by rfl) (by rfl) (World.news_of_block (cs := #[.slice lA x.l.length lc]) (t := 46) (fr := (0, 0)) (heap_alloc_new wr _)) (by simp [Value.oneCell']) (by omega) (by unfold maxLen; omega) (by omega) (by simp; omega) _ rfl ?_; intro g cap w1 hown1 hgrow1 hat1 hlt1; have z0 := (hgrow1.cell_far ⟨w.heap.size + 2, 0, none⟩ (by simp; omega) HNB.out).trans (HK0.out _); have z1 := (hgrow1.frozen_far ⟨w.heap.size + 2, 0, none⟩ (by simp; omega) HNB.out).trans (HK1.out _); have HO1 := Lib.hid hown1; have HG1 := Lib.hid hgrow1; clear hown1 hgrow1)
          go_roundw
          case rel => exact ⟨v + 1, by omega, by go_num, Lib.hid (OfR.push HX.out (Nat.le_refl _) (by omega) H1.out H2.out H3.out H4.out H5.out HLV.out rfl HO1.out HG1.out)⟩
          case measure => simp [intOf]; omega
    · obtain rfl : v = rows.length := by omega
      obtain ⟨oA', oc', eov⟩ := own_slice h3
      subst eov
      have c2 := hbx.cell 0
      have k0 := h2.cell 0
      have k1 := h2.cell 1
      have hr1 := HB1.out.keep h5 (by omega)
      have r0 := hr1.cell 0
      have r1 := hr1.cell 1
      have r2 := hr1.frozen 0
      have r3 := hr1.frozen 1
      simp at c2 k0 k1 r0 r1
      have H1 := Lib.hid h1
      have H3 := Lib.hid h3
      have H4 := Lib.hid h4
      have H5 := Lib.hid h5
      clear h1 h2 h3 h4 h5 hbx hr1
      go_wp2
      refine bodyPost_ret (v := .agg #[.slice oA' rows.length oc', .slice gA gl gc]) (by simp [results, Try.results21, go_sem, r0, r1]) rfl ?_
      have hk9 : Keep (fun b => b = w.heap.size + 1) wo ((wo.setCell ⟨w.heap.size + 1, 0, none⟩ (.slice oA' rows.length oc')).setCell ⟨w.heap.size + 1, 1, none⟩ (.slice gA gl gc)) :=
        ((Keep.refl (fun b => b = w.heap.size + 1) wo).setCell (p := ⟨w.heap.size + 1, 0, none⟩) (Or.inl rfl) _).setCell (p := ⟨w.heap.size + 1, 1, none⟩) (Or.inl rfl) _
      have h1 := H1.out
      rw [List.take_length] at h1
      refine ⟨oA', oc', rs, rfl, h1, own_base (own_keep H3.out hk9 (fun b hb e => by have := (H3.out.lt b hb).1; omega)) (by omega), fun r hr => own_base (own_keep (H4.out r hr) hk9 (fun b hb e => by have := ((H4.out r hr).lt b hb).1; omega)) (by omega), ?_⟩
      have hb1 := HBW.out.trans (H5.out.below (B := w.heap.size) (by omega) (fun b e => by omega))
      exact hb1.trans (hk9.below (by omega) (fun b e => by omega))
end Go.Proofs.Ytbaclbiedepjfaa
