/- graph.Right: its walk. -/
import Derived.Test.YtbaclbiedepjfaaIeW
import Derived.Test.YtbaclbiedepjfaaRiW
set_option autoImplicit false
namespace Go.Proofs.Ytbaclbiedepjfaa
open Go Go.RowKit

abbrev EdgeT := Int × Int × Nat
def nodeB (N : Int) (v : Int) : Bool := decide (0 ≤ v) && decide (v < N)
def looseB (N : Int) (x : EdgeT) : Bool := !nodeB N x.1 || !nodeB N x.2.1 || decide (x.1 = x.2.1)
def heavyB (x : EdgeT) : Bool := decide (x.2.2 < 1) || decide (4294967296 < x.2.2)

/-- a graph as it comes -/
structure RawG (w : World) (B : Nat) (eA : Option Addr) (E : List EdgeT) : Prop where
  e : Reads w B 3 eA E.length (E.flatMap cellsE)
  sz : E.length ≤ 65536
theorem RawG.below {w w' : World} {B : Nat} {eA : Option Addr} {E : List EdgeT} (h : RawG w B eA E) (hb : Below B w w') : RawG w' B eA E := ⟨h.e.below hb, h.sz⟩
theorem RawG.more {w : World} {B B' : Nat} {eA : Option Addr} {E : List EdgeT} (h : RawG w B eA E) (hb : B ≤ B') : RawG w B' eA E := ⟨h.e.more hb, h.sz⟩

def graphF (N : Int) (E : List EdgeT) : Int :=
  if N < 1 ∨ 4096 < N then 2 else if 16384 < E.length then 5 else if E.any (looseB N) then 7 else if E.any heavyB then 2 else 0

set_option maxHeartbeats 400000 in
theorem gnode_any (N v : Int) (eA : Option Addr) (n c : Nat) (w : World) : Calls Try.prog 90 #[.agg #[.int .i64 N, .slice eA n c], .int .i64 v] w (Fresh (.bool (nodeB N v)) w) := by
  go_enter Try.func90, Try.ntmps90
  go_wp2
  all_goals
    go_ret
    refine ⟨ret_bool ?_, (Below.refl _ _).alloc (Nat.le_refl _) _⟩
    rw [Bool.eq_iff_iff]
    simp [nodeB]
    try omega
set_option maxHeartbeats 400000 in
theorem weight_any (q : Nat) (w : World) : Calls Try.prog 110 #[.int .u64 q] w (fun e w' => e = .returned (.bool (!(decide (q < 1) || decide (4294967296 < q)))) ∧ w = w') := by
  go_enter Try.func110, Try.ntmps110
  go_wp2
  all_goals
    go_ret
    refine ⟨ret_bool ?_, rfl⟩
    rw [Bool.eq_iff_iff]
    simp
    try omega

set_option maxRecDepth 100000 in
set_option maxHeartbeats 4000000 in
theorem loose_any (x : EdgeT) (N : Int) (gb n c : Nat) (eA : Option Addr) (w : World) (c0 : w.cell? ⟨gb, 0, none⟩ = some (.int .i64 N)) (c1 : w.cell? ⟨gb, 1, none⟩ = some (.slice eA n c)) (hgb : gb < w.heap.size) :
    Calls Try.prog 108 #[.agg #[.int .i64 x.1, .int .i64 x.2.1, .int .u64 x.2.2], .pointer (some ⟨gb, 0, none⟩)] w (Fresh (.bool (looseB N x)) w) := by
  obtain ⟨u, v, q⟩ := x
  obtain ⟨W, hW⟩ : ∃ W, W = (w.alloc (.cells #[.int .i64 u, .int .i64 v, .int .u64 q] 96)) := ⟨_, rfl⟩
  have hB : Below w.heap.size w W := by rw [hW]; exact ((Below.refl _ _).alloc (Nat.le_refl _) _)
  have hs0 : W.heap.size = w.heap.size + 1 := by rw [hW]; simp
  have hb0 : Blk W w.heap.size 96 #[.int .i64 u, .int .i64 v, .int .u64 q] := by rw [hW]; exact Blk.new w _ _
  have d0 := (hB.cell (p := ⟨gb, 0, none⟩) hgb).trans c0
  have d1 := (hB.cell (p := ⟨gb, 1, none⟩) hgb).trans c1
  have hne := World.new_ne w ⟨gb, 0, none⟩ c0
  obtain ⟨a, ha⟩ : ∃ a, a = nodeB N u := ⟨_, rfl⟩
  obtain ⟨b, hb⟩ : ∃ b, b = nodeB N v := ⟨_, rfl⟩
  have e : looseB N (u, v, q) = (!a || !b || decide (u = v)) := by rw [ha, hb]; rfl
  rw [e]
  have HA := Lib.hid ha
  have HBB := Lib.hid hb
  have HB0 := Lib.hid hb0
  have HB := Lib.hid hB
  have HW := Lib.hid hW
  have HS0 := Lib.hid hs0
  have D0 := Lib.hid d0
  have D1 := Lib.hid d1
  clear ha hb e hb0 hB hs0 hW d0 d1
  cases a with
  | false =>
    go_enter Try.func108, Try.ntmps108
    go_wp2_with (go_at_call 90; rw [← HW.out]; refine (gnode_any N u eA n c _).mono ?_; rintro e w1 ⟨rfl, hb1⟩; rw [← HA.out])
    go_ret
    exact ⟨rfl, HB.out.trans (hb1.mono HB.out.size)⟩
  | true =>
    cases b with
    | false =>
      go_enter Try.func108, Try.ntmps108
      go_wp2_with (first
        | (go_at_call 90; rw [← HW.out]; refine (gnode_any N u eA n c W).mono ?_; rintro e w1 ⟨rfl, hb1⟩; rw [← HA.out]
           have k1 := (hb1.cell (p := ⟨gb, 0, none⟩) (Nat.lt_of_lt_of_le hgb HB.out.size)).trans D0.out
           have k2 := (hb1.cell (p := ⟨gb, 1, none⟩) (Nat.lt_of_lt_of_le hgb HB.out.size)).trans D1.out
           have k3 := (HB0.out.below hb1 HB0.out.lt).cell 1
           simp at k3
           have HB1 := Lib.hid hb1; clear hb1)
        | (go_at_call 90; refine (gnode_any N v eA n c w1).mono ?_; rintro e w2 ⟨rfl, hb2⟩; rw [← HBB.out]))
      go_ret
      exact ⟨rfl, (HB.out.trans (HB1.out.mono HB.out.size)).trans (hb2.mono (Nat.le_trans HB.out.size HB1.out.size))⟩
    | true =>
      obtain ⟨z, hz⟩ : ∃ z, z = (u == v) := ⟨_, rfl⟩
      have hz2 : decide (u = v) = z := by rw [hz]; rfl
      have hz3 := hz.symm
      rw [hz2]
      clear hz hz2
      go_enter Try.func108, Try.ntmps108
      go_wp2_with (first
        | (go_at_call 90; rw [← HW.out]; refine (gnode_any N u eA n c W).mono ?_; rintro e w1 ⟨rfl, hb1⟩; rw [← HA.out]
           have k1 := (hb1.cell (p := ⟨gb, 0, none⟩) (Nat.lt_of_lt_of_le hgb HB.out.size)).trans D0.out
           have k2 := (hb1.cell (p := ⟨gb, 1, none⟩) (Nat.lt_of_lt_of_le hgb HB.out.size)).trans D1.out
           have k3 := (HB0.out.below hb1 HB0.out.lt).cell 1
           simp at k3
           have HB1 := Lib.hid hb1; clear hb1)
        | (go_at_call 90; refine (gnode_any N v eA n c w1).mono ?_; rintro e w2 ⟨rfl, hb2⟩; rw [← HBB.out]
           have k4 := (((HB0.out.below HB1.out HB0.out.lt).below hb2 (Nat.lt_of_lt_of_le HB0.out.lt HB1.out.size)).cell 0)
           have k5 := (((HB0.out.below HB1.out HB0.out.lt).below hb2 (Nat.lt_of_lt_of_le HB0.out.lt HB1.out.size)).cell 1)
           simp at k4 k5
           have HB2 := Lib.hid hb2; clear hb2))
      go_ret
      exact ⟨rfl, (HB.out.trans (HB1.out.mono HB.out.size)).trans (HB2.out.mono (Nat.le_trans HB.out.size HB1.out.size))⟩
set_option maxRecDepth 100000 in
set_option maxHeartbeats 4000000 in
theorem heavy_any (x : EdgeT) (w : World) :
    Calls Try.prog 109 #[.agg #[.int .i64 x.1, .int .i64 x.2.1, .int .u64 x.2.2]] w (Fresh (.bool (heavyB x)) w) := by
  obtain ⟨u, v, q⟩ := x
  go_enter Try.func109, Try.ntmps109
  go_wp2_with (go_at_call 110; refine (weight_any q _).mono ?_; rintro e w1 ⟨rfl, rfl⟩)
  go_ret
  refine ⟨ret_bool ?_, (Below.refl _ _).alloc (Nat.le_refl _) _⟩
  simp [heavyB]

set_option maxRecDepth 100000 in
set_option maxHeartbeats 8000000 in
theorem gright_any (N : Int) (eA : Option Addr) (c : Nat) (E : List EdgeT) (w : World) (h : RawG w w.heap.size eA E) :
    Calls Try.prog 63 #[.agg #[.int .i64 N, .slice eA E.length c]] w (Fresh (.int .i64 (graphF N E)) w) := by
  obtain ⟨W, hW⟩ : ∃ W, W = (w.alloc (.cells #[.int .i64 N, .slice eA E.length c] 24)) := ⟨_, rfl⟩
  have hB : Below w.heap.size w W := by rw [hW]; exact ((Below.refl _ _).alloc (Nat.le_refl _) _)
  have hs0 : W.heap.size = w.heap.size + 1 := by rw [hW]; simp
  have hb0 : Blk W w.heap.size 24 #[.int .i64 N, .slice eA E.length c] := by rw [hW]; exact Blk.new w _ _
  have hsz := h.sz
  have hR := (h.below hB).more (B' := W.heap.size) hB.size
  have HC := Lib.hid (con_loose (.pointer (some ⟨w.heap.size, 0, none⟩)) eA E.length c E (looseB N) W hR.e rfl hsz (fun x _ W' hW' => loose_any x N w.heap.size E.length c eA W' ((hb0.below hW' hb0.lt).cell 0) ((hb0.below hW' hb0.lt).cell 1) (by have := hW'.size; omega)))
  have HD : Hid (∀ w1, Below W.heap.size W w1 → Calls Try.prog 111 #[.slice eA E.length c, .func (.func 109) #[] #[]] w1 (Fresh (.bool (E.any heavyB)) w1)) := Lib.hid (by
    intro w1 h1
    exact con_heavy eA E.length c E heavyB w1 ((hR.below h1).more h1.size).e rfl hsz (fun x _ W' _ => heavy_any x W'))
  have HB0 := Lib.hid hb0
  have HB := Lib.hid hB
  have HW := Lib.hid hW
  have HS0 := Lib.hid hs0
  clear hb0 hB hW hs0 hR h
  by_cases h1 : N < 1
  · have e : graphF N E = 2 := by unfold graphF; rw [if_pos (Or.inl h1)]
    rw [e]
    clear e
    go_enter Try.func63, Try.ntmps63
    go_wp2
    go_ret
    exact ⟨rfl, (Below.refl _ _).alloc (Nat.le_refl _) _⟩
  · by_cases h2 : 4096 < N
    · have e : graphF N E = 2 := by unfold graphF; rw [if_pos (Or.inr h2)]
      rw [e]
      clear e
      go_enter Try.func63, Try.ntmps63
      go_wp2
      go_ret
      exact ⟨rfl, (Below.refl _ _).alloc (Nat.le_refl _) _⟩
    · by_cases h3 : 16384 < (E.length : Int)
      · have e : graphF N E = 5 := by unfold graphF; rw [if_neg (by omega), if_pos (by omega)]
        rw [e]
        clear e
        go_enter Try.func63, Try.ntmps63
        go_wp2
        go_ret
        exact ⟨rfl, (Below.refl _ _).alloc (Nat.le_refl _) _⟩
      · have e : graphF N E = if E.any (looseB N) then 7 else if E.any heavyB then 2 else 0 := by unfold graphF; rw [if_neg (by omega), if_neg (by omega)]
        rw [e]
        clear e
        cases hl : E.any (looseB N) with
        | true =>
          rw [hl] at HC
          clear hl
          rw [if_pos rfl]
          go_enter Try.func63, Try.ntmps63
          go_wp2_with (go_at_call 111; rw [← HW.out]; refine (Hid.out HC).mono ?_; rintro e w1 ⟨rfl, hb1⟩)
          go_ret
          exact ⟨rfl, HB.out.trans (hb1.mono HB.out.size)⟩
        | false =>
          rw [hl] at HC
          clear hl
          rw [if_neg (by simp)]
          cases hv : E.any heavyB with
          | true =>
            rw [hv] at HD
            clear hv
            rw [if_pos rfl]
            go_enter Try.func63, Try.ntmps63
            go_wp2_with (first
              | (go_at_call 111; rw [← HW.out]; refine (Hid.out HC).mono ?_; rintro e w1 ⟨rfl, hb1⟩
                 have k1 := (HB0.out.below hb1 HB0.out.lt).cell 1
                 simp at k1
                 have HB1 := Lib.hid hb1; clear hb1)
              | (go_at_call 111; refine (HD.out w1 HB1.out).mono ?_; rintro e w2 ⟨rfl, hb2⟩))
            go_ret
            exact ⟨rfl, (HB.out.trans (HB1.out.mono HB.out.size)).trans (hb2.mono (Nat.le_trans HB.out.size HB1.out.size))⟩
          | false =>
            rw [hv] at HD
            clear hv
            rw [if_neg (by simp)]
            go_enter Try.func63, Try.ntmps63
            go_wp2_with (first
              | (go_at_call 111; rw [← HW.out]; refine (Hid.out HC).mono ?_; rintro e w1 ⟨rfl, hb1⟩
                 have k1 := (HB0.out.below hb1 HB0.out.lt).cell 1
                 simp at k1
                 have HB1 := Lib.hid hb1; clear hb1)
              | (go_at_call 111; refine (HD.out w1 HB1.out).mono ?_; rintro e w2 ⟨rfl, hb2⟩))
            go_ret
            exact ⟨rfl, (HB.out.trans (HB1.out.mono HB.out.size)).trans (hb2.mono (Nat.le_trans HB.out.size HB1.out.size))⟩
end Go.Proofs.Ytbaclbiedepjfaa
