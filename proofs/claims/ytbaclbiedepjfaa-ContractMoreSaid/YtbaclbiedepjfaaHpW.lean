/- heap: the walks of less, lay. -/
import Derived.Test.YtbaclbiedepjfaaHpM
import Derived.Test.YtbaclbiedepjfaaProg
import Derived.WalkKit
import Derived.WalkSpells
import Derived.WalkLawsBesides
import Derived.Lib.Hide
import Derived.Outline
import Derived.BigRegion
import Derived.Deep.RegionHeld3
import Derived.Deep.DrawnRows
set_option autoImplicit false
namespace Go.Proofs.Ytbaclbiedepjfaa
open Go Go.RowKit

theorem ret_bool {a b : Bool} (h : a = b) : Ending.returned (.bool a) = .returned (.bool b) := by rw [h]

/-- the call answers v; nothing that was there has turned -/
def Fresh (v : Value) (w : World) (e : Ending) (w' : World) : Prop := e = .returned v ∧ Below w.heap.size w w'
/-- the call answers v; the heap is turned -/
def HDone (v : Value) (H : Nat) (lv : Value) (ab : Nat) (l : List Pl.Item) (p : List Int) (w : World) (e : Ending) (w' : World) : Prop :=
  e = .returned v ∧ HMem w' H lv ab l p ∧ Keep (hfoot H lv ab) w w'

set_option maxHeartbeats 400000 in
theorem less_any (a k b q : Nat) (w : World) :
    Calls Try.prog 175 #[.agg #[.int .i64 a, .int .u64 k], .agg #[.int .i64 b, .int .u64 q]] w (Fresh (.bool (Pl.less (a, k) (b, q))) w) := by
  go_enter Try.func175, Try.ntmps175
  go_wp2
  all_goals
    go_ret
    refine ⟨ret_bool ?_, ((Below.refl _ _).alloc (Nat.le_refl _) _).alloc (by simp) _⟩
    rw [Bool.eq_iff_iff]
    simp [Pl.less]
    try omega

set_option maxHeartbeats 1000000 in
theorem lay_any (H lb ab cap i v k : Nat) (l : List Pl.Item) (p : List Int) (w : World) (h : HMem w H (.slice (some ⟨lb, 0, none⟩) l.length cap) ab l p)
    (hi : i < l.length) (hv : v < p.length) :
    Calls Try.prog 176 #[.pointer (some ⟨H, 0, none⟩), .int .i64 i, .agg #[.int .i64 v, .int .u64 k]] w
      (HDone (.tuple #[]) H (.slice (some ⟨lb, 0, none⟩) l.length cap) ab (l.set i (v, k)) (p.set v i) w) := by
  obtain ⟨c0, c1, _, _⟩ := h.head
  obtain ⟨l0, l1, f0, f1⟩ := h.item hi
  obtain ⟨a0, f2⟩ := h.place hv
  obtain ⟨hlb, hlH, hla⟩ := h.formAt (by omega)
  have hab := h.at_.lt
  have hHb := h.hb.lt
  have hn := h.lm
  have hm := h.pm
  have HH := Lib.hid h
  clear h
  go_enter Try.func176, Try.ntmps176
  go_wp2
  go_region
  all_goals
    go_end0
    have h1 := HH.out.set_item i (v, k)
    have h2 := h1.1.set_place v i
    refine ⟨rfl, (h2.1.alloc _).drew, ((h1.2.trans h2.2 (fun b hb => Or.inl hb)).alloc _).drew⟩

/-- the loops' relation: the rest of the rise comes to the whole one's end -/
def RiseRel (H lb ab cap n : Nat) (x : Pl.Item) (L : List Pl.Item × List Int) (w : World) (i : Nat) (wr : World) : Prop :=
  ∃ (l : List Pl.Item) (p : List Int), i < l.length ∧ l.length = n ∧ Pl.rise l p i x = L ∧ HMem wr H (.slice (some ⟨lb, 0, none⟩) l.length cap) ab l p ∧ Keep (hfoot H (.slice (some ⟨lb, 0, none⟩) l.length cap) ab) w wr ∧ x.1 < p.length ∧ 
    ∀ j, j < l.length → (Pl.gt l j).1 < p.length

set_option maxHeartbeats 400000 in
theorem rise_any (H lb ab cap i v k : Nat) (l : List Pl.Item) (p : List Int) (w : World) (h : HMem w H (.slice (some ⟨lb, 0, none⟩) l.length cap) ab l p)
    (hi : i < l.length) (hv : v < p.length) (hall : ∀ j, j < l.length → (Pl.gt l j).1 < p.length) :
    Calls Try.prog 151 #[.pointer (some ⟨H, 0, none⟩), .int .i64 i, .agg #[.int .i64 v, .int .u64 k]] w
      (HDone (.tuple #[]) H (.slice (some ⟨lb, 0, none⟩) l.length cap) ab (Pl.rise l p i (v, k)).1 (Pl.rise l p i (v, k)).2 w) := by
  have hHb := h.hb.lt
  obtain ⟨w0, hw0⟩ : ∃ w0, w0 = w.alloc (.cells #[.int .i64 v, .int .u64 k] 225) := ⟨_, rfl⟩
  obtain ⟨i0, hi0⟩ : ∃ i0, i0 = i := ⟨_, rfl⟩
  obtain ⟨n0, hn0⟩ : ∃ n0, n0 = l.length := ⟨_, rfl⟩
  have hR0 : RiseRel H lb ab cap n0 (v, k) (Pl.rise l p i0 (v, k)) w0 i w0 := by
    rw [hi0, hw0, hn0]
    exact ⟨l, p, hi, rfl, rfl, h.alloc _, Keep.refl _ _, hv, hall⟩
  have hbx0 : Blk w0 w.heap.size 225 #[.int .i64 v, .int .u64 k] := by rw [hw0]; exact Blk.new _ _ _
  have HFL := Lib.hid (fun b hb => h.foot_lt (b := b) hb)
  have HW0 := Lib.hid hw0
  have HI0 := Lib.hid hi0
  have HN0 := Lib.hid hn0
  clear hw0 hi0 hn0
  have HH := Lib.hid h
  clear h
  go_enter Try.func151, Try.ntmps151
  go_wp2
  go_step3
  go_wp2
  go_step3
  go_wp2
  go_loopw [1] (fun i wr => ∃ j : Nat, i = .int .i64 j ∧ RiseRel H lb ab cap n0 (v, k) (Pl.rise l p i0 (v, k)) w0 j wr) (fun i _ => (intOf i).toNat)
  case atStart =>
    refine ⟨i, rfl, ?_⟩
    rw [← HW0.out]
    exact hR0
  case round =>
    obtain ⟨j, rfl, l', p', hj, hln, hrise, hM, hK, hv', hall'⟩ := hrel
    have HLN := Lib.hid hln
    clear hln
    have hlm := hM.lm
    by_cases h0 : 0 < j
    · obtain ⟨up, hup⟩ : ∃ up, up = (j - 1) / 2 := ⟨_, rfl⟩
      have hu : up < l'.length := by omega
      have e6 : ((j : Int) - 1) / 2 = (up : Int) := by omega
      obtain ⟨c0, c1, _, _⟩ := hM.head
      obtain ⟨l0, l1, _, _⟩ := hM.item hu
      obtain ⟨hlb, hlH, hla⟩ := hM.formAt (by omega)
      have hbx := hbx0.keep hK (fun e => by rw [HLN.out, HN0.out] at e; exact Nat.lt_irrefl _ (HFL.out _ e))
      have b0 : wr.cell? ⟨w.heap.size, 0, none⟩ = some (.int .i64 v) := by rw [hbx.cell]; rfl
      have b1 : wr.cell? ⟨w.heap.size, 1, none⟩ = some (.int .u64 k) := by rw [hbx.cell]; rfl
      have hbxl := hbx.lt
      have hHlt := hM.hb.lt
      have hi0 : (0 : Int) ≤ (up : Int) := by omega
      have hi1 : (up : Int) < (l'.length : Int) := by omega
      have HWS := Lib.hid hK.size
      have HM := Lib.hid hM
      have HR := Lib.hid hrise
      have HA := Lib.hid hall'
      have HUP := Lib.hid hup
      clear hM hrise hall' hup
      cases hless : Pl.less (v, k) (Pl.gt l' up) with
      | true =>
        go_wp2
        go_region_held3 (fun w' => w'.cell? ⟨w.heap.size, 0, none⟩ = some (.int .i64 v) ∧ w'.cell? ⟨w.heap.size, 1, none⟩ = some (.int .u64 k) ∧ w'.cell? ⟨H, 0, none⟩ = some (.slice (some ⟨lb, 0, none⟩) l'.length cap) ∧
          w'.cell? ⟨lb, up * 2, none⟩ = some (.int .i64 (Pl.gt l' up).1) ∧ w'.cell? ⟨lb, up * 2 + 1, none⟩ = some (.int .u64 (Pl.gt l' up).2)) (first | (refine ⟨?_, ?_, ?_, ?_, ?_⟩ <;> assumption) | go_keep)
          ((go_at_call 175; refine (less_any _ _ _ _ _).mono ?_; rintro e w1 ⟨rfl, hb1⟩; have d0 := (hb1.cell (p := ⟨_, _, none⟩) hbxl).trans b0; have d1 := (hb1.cell (p := ⟨_, _, none⟩) hbxl).trans b1; have d2 := (hb1.cell (p := ⟨_, _, none⟩) hHlt).trans c0; have d3 := (hb1.cell (p := ⟨_, _, none⟩) hlb).trans l0; have d4 := (hb1.cell (p := ⟨_, _, none⟩) hlb).trans l1))
        all_goals
          have hb1' : Below wr.heap.size wr w1 := ⟨hb1.os, hb1.tape, hb1.output, hb1.size, hb1.block⟩
          have hM1 := HM.out.below hb1'
          have hK1 := hK.thenBelow hb1' HWS.out
          clear hb1 hb1'
          have hvu := HA.out up hu
          go_wp2_with (go_at_call 176; refine (lay_any H lb ab cap _ _ _ l' p' _ hM1 hj hvu).mono ?_; rintro e w2 ⟨rfl, hM2, hK2⟩)
          go_roundw
          case rel =>
            refine ⟨up, rfl, l'.set j (Pl.gt l' up), p'.set (Pl.gt l' up).1 j, by simpa using hu, by simpa using HLN.out, ?_, ?_, ?_, by simpa using hv', ?_⟩
            · rw [← HR.out]
              conv => rhs; rw [Pl.rise, dif_pos h0, ← HUP.out, if_pos hless]
            · rw [List.length_set]; exact hM2
            · rw [List.length_set]; exact hK1.trans hK2 (fun b hb => Or.inl hb)
            · intro q hq
              simp only [List.length_set] at hq ⊢
              by_cases hjq : j = q
              · subst hjq; rw [Pl.gt_set_same _ _ _ hj]; exact hvu
              · rw [Pl.gt_set_other _ _ _ _ hjq]; exact HA.out q hq
          case measure => simp [intOf]; have := HUP.out; omega
      | false =>
        go_wp2
        go_region_held3 (fun w' => w'.cell? ⟨w.heap.size, 0, none⟩ = some (.int .i64 v) ∧ w'.cell? ⟨w.heap.size, 1, none⟩ = some (.int .u64 k) ∧ w'.cell? ⟨H, 0, none⟩ = some (.slice (some ⟨lb, 0, none⟩) l'.length cap) ∧
          w'.cell? ⟨lb, up * 2, none⟩ = some (.int .i64 (Pl.gt l' up).1) ∧ w'.cell? ⟨lb, up * 2 + 1, none⟩ = some (.int .u64 (Pl.gt l' up).2)) (first | (refine ⟨?_, ?_, ?_, ?_, ?_⟩ <;> assumption) | go_keep)
          ((go_at_call 175; refine (less_any _ _ _ _ _).mono ?_; rintro e w1 ⟨rfl, hb1⟩; have d0 := (hb1.cell (p := ⟨_, _, none⟩) hbxl).trans b0; have d1 := (hb1.cell (p := ⟨_, _, none⟩) hbxl).trans b1; have d2 := (hb1.cell (p := ⟨_, _, none⟩) hHlt).trans c0; have d3 := (hb1.cell (p := ⟨_, _, none⟩) hlb).trans l0; have d4 := (hb1.cell (p := ⟨_, _, none⟩) hlb).trans l1))
        all_goals
          have hb1' : Below wr.heap.size wr w1 := ⟨hb1.os, hb1.tape, hb1.output, hb1.size, hb1.block⟩
          have hM1 := HM.out.below hb1'
          have hK1 := hK.thenBelow hb1' HWS.out
          clear hb1 hb1'
          go_wp2_with (go_at_call 176; refine (lay_any H lb ab cap _ _ _ l' p' _ hM1 hj hv').mono ?_; rintro e w2 ⟨rfl, hM2, hK2⟩)
          rw [Exit.noGoto_normal]
          go_end0
          have e := HR.out
          rw [Pl.rise, dif_pos h0, ← HUP.out, if_neg (by rw [hless]; simp), HI0.out] at e
          have hl : l'.length = l.length := HLN.out.trans HN0.out
          have hKw : Keep (hfoot H (.slice (some ⟨lb, 0, none⟩) l'.length cap) ab) w w0 := by rw [HW0.out]; exact (Keep.refl _ _).alloc _
          refine ⟨rfl, ?_, ?_⟩
          · rw [← e, ← hl]; exact hM2
          · rw [← hl]; exact hKw.trans (hK1.trans hK2 (fun b hb => Or.inl hb)) (fun b hb => Or.inl hb)
    · have hbx := hbx0.keep hK (fun e => by rw [HLN.out, HN0.out] at e; exact Nat.lt_irrefl _ (HFL.out _ e))
      have b0 : wr.cell? ⟨w.heap.size, 0, none⟩ = some (.int .i64 v) := by rw [hbx.cell]; rfl
      have b1 : wr.cell? ⟨w.heap.size, 1, none⟩ = some (.int .u64 k) := by rw [hbx.cell]; rfl
      have HM := Lib.hid hM
      have HR := Lib.hid hrise
      clear hM hrise
      go_wp2_with (go_at_call 176; refine (lay_any H lb ab cap _ _ _ l' p' _ HM.out hj hv').mono ?_; rintro e w2 ⟨rfl, hM2, hK2⟩)
      rw [Exit.noGoto_normal]
      go_end0
      have e := HR.out
      rw [Pl.rise, dif_neg h0, HI0.out] at e
      have hl : l'.length = l.length := HLN.out.trans HN0.out
      have hKw : Keep (hfoot H (.slice (some ⟨lb, 0, none⟩) l'.length cap) ab) w w0 := by rw [HW0.out]; exact (Keep.refl _ _).alloc _
      refine ⟨rfl, ?_, ?_⟩
      · rw [← e, ← hl]; exact hM2
      · rw [← hl]; exact hKw.trans (hK.trans hK2 (fun b hb => Or.inl hb)) (fun b hb => Or.inl hb)
end Go.Proofs.Ytbaclbiedepjfaa
