/- heap: the walk of sink. -/
import Derived.Test.YtbaclbiedepjfaaHpW
import Derived.Deep.DeepCutAuto
import Derived.Deep.QuietTactic
import Derived.BigQuiet
import Derived.IntWalk
set_option autoImplicit false
namespace Go.Proofs.Ytbaclbiedepjfaa
open Go Go.RowKit

def SinkRel (H lb ab cap n : Nat) (x : Pl.Item) (L : List Pl.Item × List Int) (w : World) (i : Nat) (wr : World) : Prop :=
  ∃ (l : List Pl.Item) (p : List Int), i < l.length ∧ l.length = n ∧ Pl.sink l p i x = L ∧ HMem wr H (.slice (some ⟨lb, 0, none⟩) l.length cap) ab l p ∧ Keep (hfoot H (.slice (some ⟨lb, 0, none⟩) l.length cap) ab) w wr ∧ x.1 < p.length ∧ 
    ∀ j, j < l.length → (Pl.gt l j).1 < p.length

def Mid (H lb ab cap : Nat) (l : List Pl.Item) (p : List Int) (w wx : World) : Prop :=
  HMem wx H (.slice (some ⟨lb, 0, none⟩) l.length cap) ab l p ∧ Keep (hfoot H (.slice (some ⟨lb, 0, none⟩) l.length cap) ab) w wx

theorem Mid.below {H lb ab cap : Nat} {l : List Pl.Item} {p : List Int} {w wx wy : World} (h : Mid H lb ab cap l p w wx) (hb : Below wx.heap.size wx wy) : Mid H lb ab cap l p w wy :=
  ⟨h.1.below hb, h.2.thenBelow hb h.2.size⟩

set_option maxHeartbeats 1000000 in
theorem sink_any (H lb ab cap i v k : Nat) (l : List Pl.Item) (p : List Int) (w : World) (h : HMem w H (.slice (some ⟨lb, 0, none⟩) l.length cap) ab l p)
    (hi : i < l.length) (hv : v < p.length) (hall : ∀ j, j < l.length → (Pl.gt l j).1 < p.length) :
    Calls Try.prog 178 #[.pointer (some ⟨H, 0, none⟩), .int .i64 i, .agg #[.int .i64 v, .int .u64 k]] w
      (HDone (.tuple #[]) H (.slice (some ⟨lb, 0, none⟩) l.length cap) ab (Pl.sink l p i (v, k)).1 (Pl.sink l p i (v, k)).2 w) := by
  have hHb := h.hb.lt
  obtain ⟨w0, hw0⟩ : ∃ w0, w0 = w.alloc (.cells #[.int .i64 v, .int .u64 k] 225) := ⟨_, rfl⟩
  obtain ⟨i0, hi0⟩ : ∃ i0, i0 = i := ⟨_, rfl⟩
  obtain ⟨n0, hn0⟩ : ∃ n0, n0 = l.length := ⟨_, rfl⟩
  have hR0 : SinkRel H lb ab cap n0 (v, k) (Pl.sink l p i0 (v, k)) w0 i w0 := by
    rw [hi0, hw0, hn0]
    exact ⟨l, p, hi, rfl, rfl, h.alloc _, Keep.refl _ _, hv, hall⟩
  have hbx0 : Blk w0 w.heap.size 225 #[.int .i64 v, .int .u64 k] := by rw [hw0]; exact Blk.new _ _ _
  have HFL := Lib.hid (fun b hb => h.foot_lt (b := b) hb)
  have HW0 := Lib.hid hw0
  have HI0 := Lib.hid hi0
  have HN0 := Lib.hid hn0
  clear hw0 hi0 hn0
  have HH := Lib.hid h
  clear h
  go_enter Try.func178, Try.ntmps178
  go_wp2
  go_step3
  go_wp2
  go_step3
  go_wp2
  go_loopw [1] (fun i wr => ∃ j : Nat, i = .int .i64 j ∧ SinkRel H lb ab cap n0 (v, k) (Pl.sink l p i0 (v, k)) w0 j wr) (fun i _ => l.length - (intOf i).toNat)
  case atStart =>
    refine ⟨i, rfl, ?_⟩
    rw [← HW0.out]
    exact hR0
  case round =>
    obtain ⟨j, rfl, l', p', hj, hln, hsink, hM, hK, hv', hall'⟩ := hrel
    have HLN := Lib.hid hln
    clear hln
    have hlm := hM.lm
    obtain ⟨lo, hlo⟩ : ∃ lo, lo = 2 * j + 1 := ⟨_, rfl⟩
    have e6 : 2 * (j : Int) + 1 = (lo : Int) := by omega
    have hlo2 : lo ≤ 131072 := by omega
    obtain ⟨c0, c1, _, _⟩ := hM.head
    obtain ⟨hlb, hlH, hla⟩ := hM.formAt (by omega)
    have hHlt := hM.hb.lt
    have HMd : Hid (Mid H lb ab cap l' p' w0 wr) := Lib.hid ⟨hM, hK⟩
    have HWS := Lib.hid hK.size
    have HS := Lib.hid hsink
    have HA := Lib.hid hall'
    have HLO := Lib.hid hlo
    have HM := Lib.hid hM
    clear hM hK hsink hall' hlo
    go_upto_region 2 with fail
    go_cut [35] (fun s35 wx => s35 = .bool (decide (lo + 1 < l'.length) && Pl.less (Pl.gt l' (lo + 1)) (Pl.gt l' lo)) ∧ Hid (Mid H lb ab cap l' p' w0 wx))
    case first =>
      by_cases hg : lo + 1 < l'.length
      · have hgd : decide (lo + 1 < l'.length) = true := by simpa using hg
        obtain ⟨l0, l1, _, _⟩ := HM.out.item (i := lo) (by omega)
        obtain ⟨l2, l3, _, _⟩ := HM.out.item hg
        have hi0 : (0 : Int) ≤ (lo : Int) := by omega
        have hi1 : (lo : Int) < (l'.length : Int) := by omega
        have hi2 : (0 : Int) ≤ (lo : Int) + 1 := by omega
        have hi3 : (lo : Int) + 1 < (l'.length : Int) := by omega
        have hw1 : IntKind.i64.wrap ((lo : Int) + 1) = (lo : Int) + 1 := IntWalk.i64_in _ (by omega)
        have hn1 : ((lo : Int) + 1).toNat = lo + 1 := by omega
        go_region_held3 (fun w' => w'.cell? ⟨H, 0, none⟩ = some (.slice (some ⟨lb, 0, none⟩) l'.length cap) ∧
          w'.cell? ⟨lb, lo * 2, none⟩ = some (.int .i64 (Pl.gt l' lo).1) ∧ w'.cell? ⟨lb, lo * 2 + 1, none⟩ = some (.int .u64 (Pl.gt l' lo).2) ∧
          w'.cell? ⟨lb, (lo + 1) * 2, none⟩ = some (.int .i64 (Pl.gt l' (lo + 1)).1) ∧ w'.cell? ⟨lb, (lo + 1) * 2 + 1, none⟩ = some (.int .u64 (Pl.gt l' (lo + 1)).2))
          (first | (refine ⟨?_, ?_, ?_, ?_, ?_⟩ <;> assumption) | go_keep)
          ((go_at_call 175; refine (less_any _ _ _ _ _).mono ?_; rintro e w1 ⟨rfl, hb1⟩; have d2 := (hb1.cell (p := ⟨_, _, none⟩) hHlt).trans c0; have d3 := (hb1.cell (p := ⟨_, _, none⟩) hlb).trans l0; have d4 := (hb1.cell (p := ⟨_, _, none⟩) hlb).trans l1; have d5 := (hb1.cell (p := ⟨_, _, none⟩) hlb).trans l2; have d6 := (hb1.cell (p := ⟨_, _, none⟩) hlb).trans l3))
        all_goals
          have hb1' : Below wr.heap.size wr w1 := ⟨hb1.os, hb1.tape, hb1.output, hb1.size, hb1.block⟩
          have HMd1 := Lib.hid (HMd.out.below hb1')
          clear hb1 hb1'
          go_wp2_with fail
          go_meet
          exact ⟨by simp [hg], HMd1⟩
      · have hgd : decide ((lo : Int) + 1 < (l'.length : Int)) = false := by simp; omega
        have hgn : decide (lo + 1 < l'.length) = false := by simp; omega
        have hw1 : IntKind.i64.wrap ((lo : Int) + 1) = (lo : Int) + 1 := IntWalk.i64_in _ (by omega)
        go_quiet (fail)
        go_wp2_with fail
        go_meet
        exact ⟨by simp [hg], Lib.hid (HMd.out.below (below_drewN (Below.refl _ _) _))⟩
    case rest =>
      obtain ⟨rfl, HMd1⟩ := hcut
      have HM1 := Lib.hid HMd1.out.1
      obtain ⟨lw, hlw⟩ : ∃ lw, lw = Pl.low l' j := ⟨_, rfl⟩
      have hlw2 := Pl.low_or l' j
      go_upto_if 35 with fail
      go_cut [6] (fun s6 wx => s6 = .int .i64 lw ∧ wx = wc)
      case first =>
        cases hb : (decide (lo + 1 < l'.length) && Pl.less (Pl.gt l' (lo + 1)) (Pl.gt l' lo)) with
        | true =>
          have ew : lw = lo + 1 := by
            rw [HLO.out, Bool.and_eq_true, decide_eq_true_eq] at hb
            rw [hlw, Pl.low, if_pos hb, HLO.out]
          clear hlw
          go_wp2_with fail
          go_meet
          exact ⟨by rw [ew]; go_num, rfl⟩
        | false =>
          have ew : lw = lo := by
            have hn : ¬ (2 * j + 1 + 1 < l'.length ∧ Pl.less (Pl.gt l' (2 * j + 1 + 1)) (Pl.gt l' (2 * j + 1)) = true) := by
              intro hh
              rw [HLO.out, Bool.and_eq_false_iff] at hb
              rcases hb with hb | hb
              · simp at hb; omega
              · rw [hb] at hh; exact absurd hh.2 (by simp)
            rw [hlw, Pl.low, if_neg hn, HLO.out]
          clear hlw
          go_wp2_with fail
          go_meet
          exact ⟨by rw [ew], rfl⟩
      case rest =>
        obtain ⟨rfl, rfl⟩ := hcut
        have hlwj : j < lw := by omega
        have HLW := Lib.hid hlw
        clear hlw hlw2
        have hbx := hbx0.keep HMd1.out.2 (fun e => by rw [HLN.out, HN0.out] at e; exact Nat.lt_irrefl _ (HFL.out _ e))
        have b0 : wc.cell? ⟨w.heap.size, 0, none⟩ = some (.int .i64 v) := by rw [hbx.cell]; rfl
        have b1 : wc.cell? ⟨w.heap.size, 1, none⟩ = some (.int .u64 k) := by rw [hbx.cell]; rfl
        have hbxl := hbx.lt
        have hHlt := HM1.out.hb.lt
        obtain ⟨c0, c1, _, _⟩ := HM1.out.head
        obtain ⟨hlb, hlH, hla⟩ := HM1.out.formAt (by omega)
        by_cases hg : lw < l'.length
        · have hgd : decide ((l'.length : Int) ≤ (lw : Int)) = false := by simp; omega
          have hgn : decide (l'.length ≤ lw) = false := by simp; omega
          obtain ⟨l0, l1, _, _⟩ := HM1.out.item hg
          have hi0 : (0 : Int) ≤ (lw : Int) := by omega
          have hi1 : (lw : Int) < (l'.length : Int) := by omega
          have hlw3 : lw ≤ 65536 := by omega
          cases hless : Pl.less (Pl.gt l' lw) (v, k) with
          | true =>
            go_upto_region 4 with fail
            go_region_held3 (fun w' => w'.cell? ⟨w.heap.size, 0, none⟩ = some (.int .i64 v) ∧ w'.cell? ⟨w.heap.size, 1, none⟩ = some (.int .u64 k) ∧ w'.cell? ⟨H, 0, none⟩ = some (.slice (some ⟨lb, 0, none⟩) l'.length cap) ∧
              w'.cell? ⟨lb, lw * 2, none⟩ = some (.int .i64 (Pl.gt l' lw).1) ∧ w'.cell? ⟨lb, lw * 2 + 1, none⟩ = some (.int .u64 (Pl.gt l' lw).2)) (first | (refine ⟨?_, ?_, ?_, ?_, ?_⟩ <;> assumption) | go_keep)
              ((go_at_call 175; refine (less_any _ _ _ _ _).mono ?_; rintro e w1 ⟨rfl, hb1⟩; have d0 := (hb1.cell (p := ⟨_, _, none⟩) hbxl).trans b0; have d1 := (hb1.cell (p := ⟨_, _, none⟩) hbxl).trans b1; have d2 := (hb1.cell (p := ⟨_, _, none⟩) hHlt).trans c0; have d3 := (hb1.cell (p := ⟨_, _, none⟩) hlb).trans l0; have d4 := (hb1.cell (p := ⟨_, _, none⟩) hlb).trans l1))
            all_goals
              have hb1' : Below wc.heap.size wc w1 := ⟨hb1.os, hb1.tape, hb1.output, hb1.size, hb1.block⟩
              have HMd2 := Lib.hid (HMd1.out.below hb1')
              have hvu := HA.out lw hg
              clear hb1 hb1'
              go_wp2_with (go_at_call 176; refine (lay_any H lb ab cap _ _ _ l' p' _ HMd2.out.1 hj hvu).mono ?_; rintro e w2 ⟨rfl, hM2, hK2⟩)
              go_roundw
              case rel =>
                refine ⟨lw, rfl, l'.set j (Pl.gt l' lw), p'.set (Pl.gt l' lw).1 j, by simpa using hg, by simpa using HLN.out, ?_, ?_, ?_, by simpa using hv', ?_⟩
                · rw [← HS.out]
                  conv => rhs; rw [Pl.sink, dif_pos (by rw [← HLW.out]; exact ⟨hg, hless⟩), ← HLW.out]
                · rw [List.length_set]; exact hM2
                · rw [List.length_set]; exact HMd2.out.2.trans hK2 (fun b hb => Or.inl hb)
                · intro q hq
                  simp only [List.length_set] at hq ⊢
                  by_cases hjq : j = q
                  · subst hjq; rw [Pl.gt_set_same _ _ _ hj]; exact hvu
                  · rw [Pl.gt_set_other _ _ _ _ hjq]; exact HA.out q hq
              case measure => simp [intOf]; have := HLN.out; have := HN0.out; omega
          | false =>
            go_upto_region 4 with fail
            go_region_held3 (fun w' => w'.cell? ⟨w.heap.size, 0, none⟩ = some (.int .i64 v) ∧ w'.cell? ⟨w.heap.size, 1, none⟩ = some (.int .u64 k) ∧ w'.cell? ⟨H, 0, none⟩ = some (.slice (some ⟨lb, 0, none⟩) l'.length cap) ∧
              w'.cell? ⟨lb, lw * 2, none⟩ = some (.int .i64 (Pl.gt l' lw).1) ∧ w'.cell? ⟨lb, lw * 2 + 1, none⟩ = some (.int .u64 (Pl.gt l' lw).2)) (first | (refine ⟨?_, ?_, ?_, ?_, ?_⟩ <;> assumption) | go_keep)
              ((go_at_call 175; refine (less_any _ _ _ _ _).mono ?_; rintro e w1 ⟨rfl, hb1⟩; have d0 := (hb1.cell (p := ⟨_, _, none⟩) hbxl).trans b0; have d1 := (hb1.cell (p := ⟨_, _, none⟩) hbxl).trans b1; have d2 := (hb1.cell (p := ⟨_, _, none⟩) hHlt).trans c0; have d3 := (hb1.cell (p := ⟨_, _, none⟩) hlb).trans l0; have d4 := (hb1.cell (p := ⟨_, _, none⟩) hlb).trans l1))
            all_goals
              have hb1' : Below wc.heap.size wc w1 := ⟨hb1.os, hb1.tape, hb1.output, hb1.size, hb1.block⟩
              have HMd2 := Lib.hid (HMd1.out.below hb1')
              clear hb1 hb1'
              go_wp2_with (go_at_call 176; refine (lay_any H lb ab cap _ _ _ l' p' _ HMd2.out.1 hj hv').mono ?_; rintro e w2 ⟨rfl, hM2, hK2⟩)
              rw [Exit.noGoto_normal]
              go_end0
              have e := HS.out
              rw [Pl.sink, dif_neg (by rw [← HLW.out]; rintro ⟨_, h⟩; rw [hless] at h; cases h), HI0.out] at e
              have hl : l'.length = l.length := HLN.out.trans HN0.out
              have hKw : Keep (hfoot H (.slice (some ⟨lb, 0, none⟩) l'.length cap) ab) w w0 := by rw [HW0.out]; exact (Keep.refl _ _).alloc _
              refine ⟨rfl, ?_, ?_⟩
              · rw [← e, ← hl]; exact hM2
              · rw [← hl]; exact hKw.trans (HMd2.out.2.trans hK2 (fun b hb => Or.inl hb)) (fun b hb => Or.inl hb)
        · have hgd : decide ((l'.length : Int) ≤ (lw : Int)) = true := by simp; omega
          have hgn : decide (l'.length ≤ lw) = true := by simp; omega
          go_upto_region 4 with fail
          go_quiet (fail)
          have HMd2 := Lib.hid (HMd1.out.below (below_drewN (Below.refl _ _) nq))
          go_wp2_with (go_at_call 176; refine (lay_any H lb ab cap _ _ _ l' p' _ HMd2.out.1 hj hv').mono ?_; rintro e w2 ⟨rfl, hM2, hK2⟩)
          rw [Exit.noGoto_normal]
          go_end0
          have e := HS.out
          rw [Pl.sink, dif_neg (by rw [← HLW.out]; rintro ⟨h, _⟩; omega), HI0.out] at e
          have hl : l'.length = l.length := HLN.out.trans HN0.out
          have hKw : Keep (hfoot H (.slice (some ⟨lb, 0, none⟩) l'.length cap) ab) w w0 := by rw [HW0.out]; exact (Keep.refl _ _).alloc _
          refine ⟨rfl, ?_, ?_⟩
          · rw [← e, ← hl]; exact hM2
          · rw [← hl]; exact hKw.trans (HMd2.out.2.trans hK2 (fun b hb => Or.inl hb)) (fun b hb => Or.inl hb)
end Go.Proofs.Ytbaclbiedepjfaa
