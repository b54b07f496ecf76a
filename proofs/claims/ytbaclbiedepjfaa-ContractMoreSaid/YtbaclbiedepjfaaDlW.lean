/- slices.DeleteFunc at []witness.Arc, as add uses it: its walk. -/
import Derived.Test.YtbaclbiedepjfaaDlM
import Derived.Test.YtbaclbiedepjfaaPlCon
set_option autoImplicit false
namespace Go.Proofs.Ytbaclbiedepjfaa
open Go Go.RowKit

/-- between two rounds: i arcs are kept of the first j -/
structure DRel (l : List (Int × Nat)) (v : Int) (g : Nat) (tl : List Value) (w0 : World) (i j : Nat) (wr : World) (L : List (Int × Nat)) : Prop where
  len : L.length = l.length
  blk : Blk wr g 55 (L.flatMap cellsR ++ tl).toArray
  tk : L.take i = (l.take j).filter (keepB v)
  dp : L.drop j = l.drop j
  lt : i < j
  le : j ≤ l.length
  kp : Keep (fun b => b = g) w0 wr

theorem cellR_at {w : World} {g : Nat} {t : TypeId} {L : List (Int × Nat)} {tl : List Value} (h : Blk w g t (L.flatMap cellsR ++ tl).toArray) {k : Nat} {x : Int × Nat} (hx : L[k]? = some x) :
    w.cell? ⟨g, k * 2, none⟩ = some (.int .i64 x.1) ∧ w.cell? ⟨g, k * 2 + 1, none⟩ = some (.int .u64 x.2) := by
  have hk := (List.getElem?_eq_some_iff.1 hx).1
  have hlen := flat_length cellsR 2 cellsR_len L
  constructor
  · rw [h.cell, List.getElem?_toArray, List.getElem?_append_left (by omega)]
    have := flat_get cellsR 2 cellsR_len L k 0 (by omega)
    rw [hx] at this
    simpa [cellsR] using this
  · rw [h.cell, List.getElem?_toArray, List.getElem?_append_left (by omega)]
    have := flat_get cellsR 2 cellsR_len L k 1 (by omega)
    rw [hx] at this
    simpa [cellsR] using this

theorem DRel.round {l : List (Int × Nat)} {v : Int} {g : Nat} {tl : List Value} {w0 wr w1 : World} {i j : Nat} {L : List (Int × Nat)} {x : Int × Nat} (h : DRel l v g tl w0 i j wr L) (hx : l[j]? = some x) (hk : keepB v x = true)
    (hb : Below wr.heap.size wr w1) : DRel l v g tl w0 (i + 1) (j + 1) ((w1.setCell ⟨g, i * 2, none⟩ (.int .i64 x.1)).setCell ⟨g, i * 2 + 1, none⟩ (.int .u64 x.2)) (L.set i x) := by
  have hj := (List.getElem?_eq_some_iff.1 hx).1
  have hi : i < L.length := by have := h.lt; have := h.len; omega
  have hlen := flat_length cellsR 2 cellsR_len L
  refine ⟨by simpa using h.len, ?_, ?_, ?_, by have := h.lt; omega, by omega, ?_⟩
  · have hb2 := ((h.blk.below hb h.blk.lt).set_ (i * 2) (.int .i64 x.1)).set_ (i * 2 + 1) (.int .u64 x.2)
    have e := flat2_set cellsR cellsR_len L i x (.int .i64 x.1) (.int .u64 x.2) rfl
    have e2 : ((L.set i x).flatMap cellsR ++ tl).toArray = ((L.flatMap cellsR ++ tl).toArray.setIfInBounds (i * 2) (.int .i64 x.1)).setIfInBounds (i * 2 + 1) (.int .u64 x.2) := by
      apply Array.ext'
      simp only [List.setIfInBounds_toArray]
      rw [List.set_append_left _ _ (by omega), List.set_append_left _ _ (by rw [List.length_set]; omega), e]
    rw [e2]; exact hb2
  · rw [Pl.take_snoc (l := L.set i x) (x := x) (by simp [hi]), List.take_set_of_le (by omega), h.tk, Pl.take_snoc hx, List.filter_append]
    simp [hk]
  · have : i < j := h.lt
    rw [List.drop_set_of_lt (by omega), ← List.drop_drop, h.dp, List.drop_drop]
  · exact ((h.kp.thenBelow (B := wr.heap.size) hb h.kp.size).setCell (p := ⟨g, i * 2, none⟩) (Or.inl rfl) _).setCell (p := ⟨g, i * 2 + 1, none⟩) (Or.inl rfl) _
theorem DRel.skip {l : List (Int × Nat)} {v : Int} {g : Nat} {tl : List Value} {w0 wr w1 : World} {i j : Nat} {L : List (Int × Nat)} {x : Int × Nat} (h : DRel l v g tl w0 i j wr L) (hx : l[j]? = some x) (hk : keepB v x = false)
    (hb : Below wr.heap.size wr w1) : DRel l v g tl w0 i (j + 1) w1 L := by
  have hj := (List.getElem?_eq_some_iff.1 hx).1
  refine ⟨h.len, h.blk.below hb h.blk.lt, ?_, ?_, by have := h.lt; omega, by omega, h.kp.thenBelow (B := wr.heap.size) hb h.kp.size⟩
  · rw [h.tk, Pl.take_snoc hx, List.filter_append]
    simp [hk]
  · rw [← List.drop_drop, h.dp, List.drop_drop]

/-- the answer: the row cut to what is kept -/
def DelDone (l' : List (Int × Nat)) (g cap : Nat) (w : World) (e : Ending) (w' : World) : Prop :=
  ∃ cs', e = .returned (.slice (some ⟨g, 0, none⟩) l'.length cap) ∧ Blk w' g 55 cs' ∧ cs'.size = cap * 2 ∧ cs'.toList.take (l'.length * 2) = l'.flatMap cellsR ∧ Keep (fun b => b = g) w w'

set_option maxRecDepth 100000 in
set_option maxHeartbeats 8000000 in
theorem del_any (X g cap : Nat) (v : Int) (l : List (Int × Nat)) (tl : List Value) (w : World) (hb : Blk w g 55 (l.flatMap cellsR ++ tl).toArray) (hcap : (l.flatMap cellsR ++ tl).length = cap * 2)
    (c0 : w.cell? ⟨X, 1, none⟩ = some (.int .i64 v)) (hX : X < w.heap.size) (hne : X ≠ g) (hs : l.length ≤ 65536) :
    Calls Try.prog 149 #[.slice (some ⟨g, 0, none⟩) l.length cap, .func (.func 150) #[] #[.pointer (some ⟨X, 0, none⟩)]] w (DelDone (l.filter (keepB v)) g cap w) := by
  have hlen := flat_length cellsR 2 cellsR_len l
  have hlc : l.length ≤ cap := by rw [List.length_append] at hcap; omega
  have hg := hb.lt
  have hR : Reads w w.heap.size 2 (some ⟨g, 0, none⟩) l.length (l.flatMap cellsR) := by
    refine ⟨hlen, fun _ => ⟨_, rfl, hg, fun j u hu => ?_⟩⟩
    have hj := (List.getElem?_eq_some_iff.1 hu).1
    have : (⟨g, 0, none⟩ : Addr).add j = ⟨g, j, none⟩ := by unfold Addr.add; split <;> simp_all
    rw [this, hb.cell, List.getElem?_toArray, List.getElem?_append_left hj]
    exact hu
  have hC : ∀ (x : Int × Nat) (W : World), Keep (fun b => b = g) w W → Calls Try.prog 150 #[.agg #[.int .i64 x.1, .int .u64 x.2], .pointer (some ⟨X, 0, none⟩)] W (Fresh (.bool (decide (x.1 = v))) W) := fun x W hW =>
    delc_any x X v W ((hW.cell (p := ⟨X, 1, none⟩) hX hne).trans c0) (Nat.lt_of_lt_of_le hX hW.size)
  have HI := Lib.hid (idx_del (.pointer (some ⟨X, 0, none⟩)) (some ⟨g, 0, none⟩) l.length cap l (fun x => decide (x.1 = v)) w hR rfl hs (fun x _ W hW => hC x W (Keep.of_below hW (Nat.le_refl _))))
  have HB := Lib.hid hb
  have HCP := Lib.hid hcap
  have H0 := Lib.hid c0
  have HNE := Lib.hid hne
  have HC := Lib.hid hC
  clear hb hcap hR c0 hC hne
  rcases hfi : l.findIdx? (fun x => decide (x.1 = v)) with _ | i0
  · have e : idxOf (fun x : Int × Nat => decide (x.1 = v)) l = -1 := by unfold idxOf; rw [hfi]
    have hflt : l.filter (keepB v) = l := by
      rw [List.findIdx?_eq_none_iff] at hfi
      rw [List.filter_eq_self]
      intro x hx
      have := hfi x hx
      simp [keepB, this]
    rw [e] at HI
    rw [hflt]
    clear e hflt hfi
    go_enter Try.func149, Try.ntmps149
    go_wp2_with (go_at_call 174; refine (Hid.out HI).mono ?_; rintro e w1 ⟨rfl, hb1⟩)
    go_ret
    refine ⟨_, rfl, HB.out.below hb1 HB.out.lt, by simpa using HCP.out, ?_, Keep.of_below hb1 (Nat.le_refl _)⟩
    simp [← hlen]
  · rw [List.findIdx?_eq_some_iff_getElem] at hfi
    obtain ⟨hi0, hp0, hlt0⟩ := hfi
    have e : idxOf (fun x : Int × Nat => decide (x.1 = v)) l = (i0 : Int) :=
      idxOf_some (List.getElem?_eq_getElem hi0) hp0 (fun j y hj hy => by
        have := hlt0 j hj
        rw [List.getElem?_eq_getElem (by omega)] at hy
        injection hy with hy
        rw [← hy]
        simpa using this)
    rw [e] at HI
    have h0 : ∀ w1, Below w.heap.size w w1 → DRel l v g tl w i0 (i0 + 1) w1 l := by
      intro w1 hb1
      refine ⟨rfl, HB.out.below hb1 HB.out.lt, ?_, rfl, by omega, by omega, Keep.of_below hb1 (Nat.le_refl _)⟩
      rw [Pl.take_snoc (List.getElem?_eq_getElem hi0), List.filter_append]
      have h1 : (l.take i0).filter (keepB v) = l.take i0 := by
        rw [List.filter_eq_self]
        intro x hx
        obtain ⟨j, hj, rfl⟩ := List.getElem_of_mem hx
        rw [List.length_take] at hj
        have := hlt0 j (by omega)
        rw [List.getElem_take]
        simpa [keepB] using this
      have h2 : [l[i0]].filter (keepB v) = [] := by
        simp only [decide_eq_true_eq] at hp0
        simp [keepB, hp0]
      rw [h1, h2, List.append_nil]
    have H0R := Lib.hid h0
    have hm1 : ((i0 : Int) == -1) = false := by rw [beq_eq_false_iff_ne]; omega
    clear e h0 hp0 hlt0
    go_enter Try.func149, Try.ntmps149
    go_wp2_with (go_at_call 174; refine (Hid.out HI).mono ?_; rintro e w1 ⟨rfl, hb1⟩; have HB1 := Lib.hid (H0R.out w1 hb1); clear hb1)
    go_loopw [5, 6, 7] (fun s5 s6 _ wr => ∃ (i j : Nat) (L : List (Int × Nat)), s5 = .int .i64 i ∧ s6 = .int .i64 j ∧ i < j ∧ j ≤ l.length ∧ Hid (DRel l v g tl w i j wr L)) (fun _ s6 _ _ => l.length - (intOf s6).toNat)
    case atStart => exact ⟨i0, i0 + 1, l, rfl, by go_num, by omega, by omega, HB1⟩
    case round =>
      obtain ⟨i, j, L, rfl, rfl, hij, hj, HD⟩ := hrel
      by_cases hlt : j < l.length
      · obtain ⟨x, hx⟩ : ∃ x, l[j]? = some x := ⟨_, List.getElem?_eq_getElem hlt⟩
        have hLx : L[j]? = some x := by
          have := congrArg (fun l => l[0]?) HD.out.dp
          simpa [hx] using this
        obtain ⟨d0, d1⟩ := cellR_at HD.out.blk hLx
        have hj0 : (0 : Int) ≤ (j : Int) := by omega
        have hj1 : (j : Int) < (l.length : Int) := by omega
        have hi0' : (0 : Int) ≤ (i : Int) := by omega
        have hi1 : (i : Int) < (l.length : Int) := by omega
        have HX := Lib.hid hx
        have hg2 := HD.out.blk.lt
        have hgn : wr.heap.size ≠ g := by omega
        have HCX := Lib.hid (HC.out x (wr.alloc (.cells #[.int .i64 x.1, .int .u64 x.2] 55)) (HD.out.kp.alloc _))
        have BX : Hid (Blk (wr.alloc (.cells #[.int .i64 x.1, .int .u64 x.2] 55)) wr.heap.size 55 #[.int .i64 x.1, .int .u64 x.2]) := Lib.hid (Blk.new wr _ _)
        have hBW : Hid (Below wr.heap.size wr (wr.alloc (.cells #[.int .i64 x.1, .int .u64 x.2] 55))) := Lib.hid ((Below.refl _ _).alloc (Nat.le_refl _) _)
        obtain ⟨y, hy⟩ : ∃ y, L[i]? = some y := ⟨_, List.getElem?_eq_getElem (by have := HD.out.len; omega)⟩
        have HY := Lib.hid hy
        clear hx hLx hg2 hy
        cases hk : decide (x.1 = v) with
        | true =>
          have hk2 : keepB v x = false := by unfold keepB; rw [hk]; rfl
          have HK2 := Lib.hid hk2
          rw [hk] at HCX
          clear hk hk2
          go_wp2_with (go_at_call 150; refine (Hid.out HCX).mono ?_; rintro e w2 ⟨rfl, hb2⟩; have HB2 := Lib.hid hb2; clear hb2)
          go_roundw
          case rel => exact ⟨i, j + 1, L, rfl, by go_num, by omega, by omega, Lib.hid (HD.out.skip HX.out HK2.out (hBW.out.trans (HB2.out.mono (by simp))))⟩
          case measure => simp [intOf]; omega
        | false =>
          have hk2 : keepB v x = true := by unfold keepB; rw [hk]; rfl
          have HK2 := Lib.hid hk2
          rw [hk] at HCX
          clear hk hk2
          go_wp2_with (go_at_call 150; refine (Hid.out HCX).mono ?_; rintro e w2 ⟨rfl, hb2⟩
                       have k0 := (BX.out.below hb2 BX.out.lt).cell 0
                       have k1 := (BX.out.below hb2 BX.out.lt).cell 1
                       simp at k0 k1
                       have HB2 := Lib.hid (hBW.out.trans (hb2.mono (by simp)))
                       have f0 := (HD.out.blk.below HB2.out HD.out.blk.lt).frozen (i * 2)
                       have f1 := (HD.out.blk.below HB2.out HD.out.blk.lt).frozen (i * 2 + 1)
                       obtain ⟨r0, r1⟩ := cellR_at (HD.out.blk.below HB2.out HD.out.blk.lt) HY.out
                       clear hb2)
          go_roundw
          case rel => exact ⟨i + 1, j + 1, L.set i x, by go_num, by go_num, by omega, by omega, Lib.hid (HD.out.round HX.out HK2.out HB2.out)⟩
          case measure => simp [intOf]; omega
      · have hjn : j = l.length := by omega
        have HJ := Lib.hid hjn
        have hi0' : (0 : Int) ≤ (i : Int) := by omega
        have hi1 : (i : Int) ≤ (l.length : Int) := by omega
        have hi2 : (l.length : Int) ≤ (cap : Int) := by omega
        have hL : L.length = l.length := HD.out.len
        have hLc : (L.flatMap cellsR ++ tl).length = cap * 2 := by
          have := HCP.out
          have e1 := flat_length cellsR 2 cellsR_len L
          rw [List.length_append] at this ⊢
          omega
        obtain ⟨cs', w3, hclr, hb3, hsz3, hpre, hk3⟩ := run_clear_blk (P := Try.prog) wr 46 55 0 (.int .i64 0) (.int .u64 0) Try.underlying46 zeroArc rfl rfl g (i * 2) (l.length - i) (cap - i) (by omega) _ _ HD.out.blk (by
          rw [List.size_toArray, hLc]; omega)
        have hfin : i = (l.filter (keepB v)).length := by
          have h1 := congrArg List.length HD.out.tk
          rw [List.length_take, List.take_of_length_le (by omega)] at h1
          omega
        have hcs : cs'.toList.take (i * 2) = (l.filter (keepB v)).flatMap cellsR := by
          have h1 : (L.take i) = l.filter (keepB v) := by
            have := HD.out.tk
            rwa [List.take_of_length_le (l := l) (by omega)] at this
          rw [← h1, ← take_flat2 cellsR 2 cellsR_len L i]
          apply List.ext_getElem?
          intro k
          by_cases hk : k < i * 2
          · have h2 := hpre k hk
            rw [List.getElem?_take, List.getElem?_take, if_pos hk, if_pos hk, Array.getElem?_toList, h2, List.getElem?_toArray, List.getElem?_append_left (by rw [flat_length cellsR 2 cellsR_len L]; omega)]
          · rw [List.getElem?_take, List.getElem?_take, if_neg hk, if_neg hk]
        have HB3 := Lib.hid hb3
        have HS3 : Hid (cs'.size = cap * 2) := Lib.hid (by rw [hsz3, List.size_toArray, hLc])
        have HF := Lib.hid hfin
        have HCS := Lib.hid hcs
        have HK3 := Lib.hid (HD.out.kp.trans hk3 (fun b hb => Or.inl hb))
        clear hjn hb3 hsz3 hpre hk3 hfin hcs hLc hL
        go_wp2
        go_ret
        have hc := HCS.out
        rw [HF.out] at hc
        exact ⟨cs', by rw [← HF.out]; rfl, HB3.out, HS3.out, hc, HK3.out⟩
end Go.Proofs.Ytbaclbiedepjfaa
