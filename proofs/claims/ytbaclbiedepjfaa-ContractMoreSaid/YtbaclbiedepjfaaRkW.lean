/- rank.Right, contract.Right: their walks. -/
import Derived.Test.YtbaclbiedepjfaaRiW
set_option autoImplicit false
namespace Go.Proofs.Ytbaclbiedepjfaa
open Go Go.RowKit

/-- is l, behind those that were met, an order? -/
def rankFrom : List Bool → List Int → Bool
  | _, [] => true
  | m, n :: l => decide (0 ≤ n) && decide (n < m.length) && !(m.getD n.toNat false) && rankFrom (m.set n.toNat true) l
def rankOk (L : List Int) : Bool := rankFrom (List.replicate L.length false) L

theorem infoBool : (Try.prog.info? 4).map (fun i => (i.zero, i.size, i.bytes)) = some (some (.bool false), 1, 1) := by kernel_rfl

def RRel (L : List Int) (B : Nat) (w0 : World) (k : Nat) (w : World) : Prop :=
  ∃ m : List Bool, m.length = L.length ∧ Blk w B 4 (m.map Value.bool).toArray ∧ rankFrom m (L.drop k) = rankOk L ∧ Below B w0 w

set_option maxRecDepth 100000 in
set_option maxHeartbeats 2000000 in
theorem rright_any (oA : Option Addr) (oc : Nat) (L : List Int) (w : World) (h : Reads w w.heap.size 1 oA L.length (L.map (Value.int .i64))) (hs : L.length ≤ 65536) :
    Calls Try.prog 76 #[.slice oA L.length oc] w (Fresh (.bool (rankOk L)) w) := by
  obtain ⟨i0, hi, hz0, hz1, hz2⟩ := info_parts infoBool
  have hmk := run_make_rowN (P := Try.prog) 42 4 i0 _ Try.underlying42 hi hz0 .i64 .i64 L.length L.length (Nat.le_refl _) (by rw [hz2]; omega) (by omega) w
  rw [hz1, Nat.mul_one] at hmk
  simp only [Value.cells, madeCells_one] at hmk
  have h0 : RRel L w.heap.size w 0 (w.alloc (.cells (List.replicate L.length (Value.bool false)).toArray 4)) := by
    refine ⟨List.replicate L.length false, by simp, ?_, rfl, (Below.refl _ _).alloc (Nat.le_refl _) _⟩
    rw [List.map_replicate]
    exact Blk.new w _ _
  obtain ⟨w0, hw0⟩ : ∃ w0, w0 = (w.alloc (.cells (List.replicate L.length (Value.bool false)).toArray 4)) := ⟨_, rfl⟩
  rw [← hw0] at h0 hmk
  have H0 := Lib.hid h0
  have HR := Lib.hid h
  clear h h0 hw0
  go_enter Try.func76, Try.ntmps76
  go_wp2
  go_loopw [5, 11] (fun _ i wr => ∃ k : Nat, k ≤ L.length ∧ i = .int .i64 k ∧ Hid (RRel L w.heap.size w k wr)) (fun _ i _ => L.length - (intOf i).toNat)
  case atStart => exact ⟨0, Nat.zero_le _, rfl, H0⟩
  case round =>
    obtain ⟨k, hk, rfl, HK⟩ := hrel
    obtain ⟨m, hml, hb, hrk, hbw⟩ := HK.out
    by_cases hlt : k < L.length
    · obtain ⟨ab, ao, rfl, hab, _, hac⟩ := HR.out.lit (by omega) (by omega)
      obtain ⟨n, hn⟩ : ∃ n, L[k]? = some n := ⟨_, List.getElem?_eq_getElem hlt⟩
      have c0 : wr.cell? ⟨ab, ao + k, none⟩ = some (.int .i64 n) := (hbw.cell (p := ⟨ab, ao + k, none⟩) hab).trans (hac k _ (by simp [hn]))
      have hdr : L.drop k = n :: L.drop (k + 1) := by
        rw [List.drop_eq_getElem_cons hlt]
        rw [List.getElem?_eq_getElem hlt] at hn
        injection hn with hn
        rw [hn]
      rw [hdr, rankFrom] at hrk
      have hi0 : (0 : Int) ≤ (k : Int) := by omega
      have hi1 : (k : Int) < (L.length : Int) := by omega
      by_cases h1 : 0 ≤ n ∧ n < (L.length : Int)
      · obtain ⟨x, rfl⟩ : ∃ x : Nat, n = (x : Int) := ⟨n.toNat, by omega⟩
        have hx : x < L.length := by omega
        have hx0 : (0 : Int) ≤ (x : Int) := by omega
        have hx1 : (x : Int) < (L.length : Int) := by omega
        have c1 : wr.cell? ⟨w.heap.size, x, none⟩ = some (.bool (m.getD x false)) := by
          rw [hb.cell]
          simp [List.getD, hml, hx]
        have f1 := hb.frozen x
        have HB := Lib.hid hb
        have HBW := Lib.hid hbw
        cases hm : m.getD x false with
        | true =>
          rw [hm] at c1
          have hans : rankOk L = false := by rw [← hrk]; simp only [Int.toNat_natCast, hm]; simp
          have HA := Lib.hid hans
          clear hrk hn hdr hml hm hb hbw hac h1 hans
          go_wp2
          go_ret
          exact ⟨by rw [HA.out]; rfl, HBW.out⟩
        | false =>
          rw [hm] at c1
          have hans : rankFrom (m.set x true) (L.drop (k + 1)) = rankOk L := by
            rw [← hrk]
            simp only [Int.toNat_natCast, hm, hml]
            simp [hx]
          have HNX : Hid (RRel L w.heap.size w (k + 1) (wr.setCell ⟨w.heap.size, x, none⟩ (.bool true))) := Lib.hid (by
            refine ⟨m.set x true, by simpa using hml, ?_, hans, hbw.trans ((Below.refl w.heap.size wr).setCell (p := ⟨w.heap.size, x, none⟩) (Nat.le_refl _) _)⟩
            have := hb.set_ x (.bool true)
            rw [List.map_set]
            simpa using this)
          clear hrk hn hdr hml hm hb hbw hac h1 hans
          go_wp2
          go_roundw
          case rel => exact ⟨k + 1, by omega, by go_num, HNX⟩
          case measure => simp [intOf]; omega
      · have hans : rankOk L = false := by
          rw [← hrk, hml]
          rcases (by omega : n < 0 ∨ (L.length : Int) ≤ n) with h | h
          · have : ¬ (0 ≤ n) := by omega
            simp [this]
          · have : ¬ (n < (L.length : Int)) := by omega
            simp [this]
        have HA := Lib.hid hans
        have HBW := Lib.hid hbw
        by_cases h2 : n < 0
        · clear hrk hn hdr hml hb hbw hac h1 hans
          go_wp2
          go_ret
          exact ⟨by rw [HA.out]; rfl, HBW.out⟩
        · have h3 : ¬ (n < (L.length : Int)) := by omega
          clear hrk hn hdr hml hb hbw hac h1 hans
          go_wp2
          go_ret
          exact ⟨by rw [HA.out]; rfl, HBW.out⟩
    · have hans : rankOk L = true := by
        rw [← hrk, List.drop_eq_nil_of_le (by omega)]
        rfl
      have HA := Lib.hid hans
      have HBW := Lib.hid hbw
      have hkn : k = L.length := by omega
      clear hrk hml hb hbw hans
      go_wp2
      go_ret
      exact ⟨by rw [HA.out]; rfl, HBW.out⟩

def within (n : Int) : Bool := decide (1 ≤ n) && decide (n ≤ 1000)
def optRight (h s : Int) (L : List Int) : Bool := within h && within s && rankOk L

set_option maxHeartbeats 400000 in
theorem within_any (n : Int) (w : World) : Calls Try.prog 75 #[.int .i64 n] w (fun e w' => e = .returned (.bool (within n)) ∧ w = w') := by
  go_enter Try.func75, Try.ntmps75
  go_wp2
  all_goals
    go_ret
    refine ⟨ret_bool ?_, rfl⟩
    rw [Bool.eq_iff_iff]
    simp [within]
    try omega

set_option maxRecDepth 100000 in
set_option maxHeartbeats 4000000 in
theorem oright_any (oA : Option Addr) (oc : Nat) (h s : Int) (L : List Int) (w : World) (hR : Reads w w.heap.size 1 oA L.length (L.map (Value.int .i64))) (hs : L.length ≤ 65536) :
    Calls Try.prog 18 #[.agg #[.int .i64 h, .int .i64 s, .slice oA L.length oc]] w (Fresh (.bool (optRight h s L)) w) := by
  obtain ⟨W, hW⟩ : ∃ W, W = (w.alloc (.cells #[.int .i64 h, .int .i64 s, .slice oA L.length oc] 27)) := ⟨_, rfl⟩
  have hB : Below w.heap.size w W := by rw [hW]; exact ((Below.refl _ _).alloc (Nat.le_refl _) _)
  have hsz := hB.size
  have HC := Lib.hid (rright_any oA oc L W ((hR.below hB).more hsz) hs)
  have HW := Lib.hid hW
  have HB := Lib.hid hB
  clear hW hB hR hsz
  obtain ⟨a, ha⟩ : ∃ a, a = within h := ⟨_, rfl⟩
  obtain ⟨b, hb⟩ : ∃ b, b = within s := ⟨_, rfl⟩
  have e : optRight h s L = (a && b && rankOk L) := by rw [ha, hb]; rfl
  rw [e]
  have HA := Lib.hid ha
  have HBB := Lib.hid hb
  clear ha hb e
  cases a with
  | false =>
    go_enter Try.func18, Try.ntmps18
    go_wp2_with (go_at_call 75; refine (within_any h _).mono ?_; rintro e w' ⟨rfl, rfl⟩; rw [← HA.out])
    go_ret
    exact ⟨rfl, by have := HB.out; rw [HW.out] at this; exact this⟩
  | true =>
    cases b with
    | false =>
      go_enter Try.func18, Try.ntmps18
      go_wp2_with (first | (go_at_call 75; refine (within_any _ _).mono ?_; rintro e w' ⟨rfl, rfl⟩; first | rw [← HA.out] | rw [← HBB.out]))
      go_ret
      exact ⟨rfl, by have := HB.out; rw [HW.out] at this; exact this⟩
    | true =>
      go_enter Try.func18, Try.ntmps18
      go_wp2_with (first
        | (go_at_call 76; rw [← HW.out]; refine (Hid.out HC).mono ?_; rintro e w1 ⟨rfl, hb1⟩)
        | (go_at_call 75; refine (within_any _ _).mono ?_; rintro e w' ⟨rfl, rfl⟩; first | rw [← HA.out] | rw [← HBB.out]))
      go_ret
      exact ⟨by rw [Bool.true_and, Bool.true_and]; rfl, HB.out.trans (hb1.mono HB.out.size)⟩
end Go.Proofs.Ytbaclbiedepjfaa
