/- witness.Right, contract.Right, rank.Right: their walks. -/
import Derived.Test.YtbaclbiedepjfaaIdW
import Derived.Test.YtbaclbiedepjfaaClW
import Derived.Laws.EntriesVeiled
set_option autoImplicit false
namespace Go.Proofs.Ytbaclbiedepjfaa
open Go Go.RowKit

def arcWrong (N : Nat) (x : Int × Nat) : Bool := decide (x.1 < 0) || decide ((N : Int) ≤ x.1) || decide (x.2 < 1) || decide (1125899906842624 < x.2)

set_option maxRecDepth 100000 in
set_option maxHeartbeats 1000000 in
theorem wrong_any (x : Int × Nat) (nb N oc : Nat) (oA : Option Addr) (w : World) (c0 : w.cell? ⟨nb, 0, none⟩ = some (.slice oA N oc)) (hnb : nb < w.heap.size) :
    Calls Try.prog 156 #[.agg #[.int .i64 x.1, .int .u64 x.2], .pointer (some ⟨nb, 0, none⟩)] w (Fresh (.bool (arcWrong N x)) w) := by
  obtain ⟨to_, q⟩ := x
  have hne := World.new_ne w ⟨nb, 0, none⟩ c0
  go_enter Try.func156, Try.ntmps156
  go_wp2
  all_goals
    go_ret
    refine ⟨ret_bool ?_, (Below.refl _ _).alloc (Nat.le_refl _) _⟩
    rw [Bool.eq_iff_iff]
    simp [arcWrong]
    try omega

set_option maxRecDepth 100000 in
set_option maxHeartbeats 1000000 in
theorem wrongs_any (r : RowD) (fb nb N oc : Nat) (oA : Option Addr) (w : World) (c0 : w.cell? ⟨nb, 0, none⟩ = some (.slice oA N oc)) (hnb : nb < w.heap.size)
    (c1 : w.cell? ⟨fb, 0, none⟩ = some (.func (.func 156) #[] #[.pointer (some ⟨nb, 0, none⟩)])) (hR : Reads w w.heap.size 2 r.A r.l.length (r.l.flatMap cellsR)) (hs : r.l.length ≤ 65536) :
    Calls Try.prog 158 #[.slice r.A r.l.length r.c, .pointer (some ⟨fb, 0, none⟩)] w (Fresh (.bool (r.l.any (arcWrong N))) w) := by
  have HC := Lib.hid (con_arc (.pointer (some ⟨nb, 0, none⟩)) r.A r.l.length r.c r.l (arcWrong N) w hR rfl hs (fun x _ W hW => wrong_any x nb N oc oA W ((hW.cell (p := ⟨nb, 0, none⟩) hnb).trans c0) (Nat.lt_of_lt_of_le hnb hW.size)))
  clear hR
  go_enter Try.func158, Try.ntmps158
  go_wp2_with (go_at_call 159; refine (Hid.out HC).mono ?_; rintro e w1 ⟨rfl, hb1⟩)
  go_ret
  exact ⟨rfl, hb1⟩

/-- a net as it comes -/
structure RawNet (w : World) (B : Nat) (oA gA : Option Addr) (rows : List RowD) (gone : List Bool) : Prop where
  out : Reads w B 1 oA rows.length (rows.map RowD.V)
  row : ∀ r ∈ rows, Reads w B 2 r.A r.l.length (r.l.flatMap cellsR)
  gn : Reads w B 1 gA gone.length (gone.map Value.bool)
  sz : rows.length ≤ 65536
  rl : ∀ r ∈ rows, r.l.length ≤ 65536
  gz : gone.length ≤ 65536

theorem RawNet.below {w w' : World} {B : Nat} {oA gA : Option Addr} {rows : List RowD} {gone : List Bool} (h : RawNet w B oA gA rows gone) (hb : Below B w w') : RawNet w' B oA gA rows gone :=
  ⟨h.out.below hb, fun r hr => (h.row r hr).below hb, h.gn.below hb, h.sz, h.rl, h.gz⟩
theorem RawNet.more {w : World} {B B' : Nat} {oA gA : Option Addr} {rows : List RowD} {gone : List Bool} (h : RawNet w B oA gA rows gone) (hb : B ≤ B') : RawNet w B' oA gA rows gone :=
  ⟨h.out.more hb, fun r hr => (h.row r hr).more hb, h.gn.more hb, h.sz, h.rl, h.gz⟩

def netRight (rows : List RowD) (gone : List Bool) : Bool :=
  decide (1 ≤ rows.length) && decide (rows.length ≤ 4096) && decide (gone.length = rows.length) && !(rows.any fun r => r.l.any (arcWrong rows.length))

set_option maxRecDepth 100000 in
set_option maxHeartbeats 1000000 in
theorem nright_any (oA gA : Option Addr) (oc gc : Nat) (rows : List RowD) (gone : List Bool) (w : World) (h : RawNet w w.heap.size oA gA rows gone) :
    Calls Try.prog 122 #[.agg #[.slice oA rows.length oc, .slice gA gone.length gc]] w (Fresh (.bool (netRight rows gone)) w) := by
  have hs := h.sz
  have hgz := h.gz
  have HH := Lib.hid h
  clear h
  by_cases hok : 1 ≤ rows.length ∧ rows.length ≤ 4096 ∧ gone.length = rows.length
  · obtain ⟨h1, h2, h3⟩ := hok
    have e : netRight rows gone = !(rows.any fun r => r.l.any (arcWrong rows.length)) := by unfold netRight; simp [h1, h2, h3]
    rw [e]
    have h3b : ((gone.length : Int) != (rows.length : Int)) = false := by rw [bne_eq_false_iff_eq, h3]
    clear h3 e
    obtain ⟨W, hW⟩ : ∃ W, W = (w.alloc (.cells #[.slice oA rows.length oc, .slice gA gone.length gc] 51)).alloc (.cells #[.func (.func 156) #[] #[.pointer (some ⟨w.heap.size, 0, none⟩)]] 220) := ⟨_, rfl⟩
    have hWs : W.heap.size = w.heap.size + 2 := by rw [hW]; simp
    have hB : Below w.heap.size w W := by rw [hW]; exact ((Below.refl _ _).alloc (Nat.le_refl _) _).alloc (by simp) _
    have hb0 : Blk W w.heap.size 51 #[.slice oA rows.length oc, .slice gA gone.length gc] := by rw [hW]; exact (Blk.new w _ _).alloc _
    have hb1 : Blk W (w.heap.size + 1) 220 #[.func (.func 156) #[] #[.pointer (some ⟨w.heap.size, 0, none⟩)]] := by
      have := Blk.new (w.alloc (.cells #[.slice oA rows.length oc, .slice gA gone.length gc] 51)) 220 #[.func (.func 156) #[] #[.pointer (some ⟨w.heap.size, 0, none⟩)]]
      rw [hW]; simpa using this
    have hR := (HH.out.below hB).more (B' := W.heap.size) (by omega)
    have HC := Lib.hid (con_row (.pointer (some ⟨w.heap.size + 1, 0, none⟩)) oA rows.length oc rows (fun r => r.l.any (arcWrong rows.length)) W hR.out rfl hs (fun r hr W' hW' =>
      wrongs_any r (w.heap.size + 1) w.heap.size rows.length oc oA W' ((hb0.below hW' (by omega)).cell 0) (by have := hW'.size; omega) ((hb1.below hW' (by omega)).cell 0) (((hR.row r hr).below hW').more hW'.size) (hR.rl r hr)))
    have HB := Lib.hid hB
    have HW := Lib.hid hW
    clear hb0 hb1 hB hR hW hWs
    go_enter Try.func122, Try.ntmps122
    go_wp2_with (go_at_call 157; rw [← HW.out]; refine (Hid.out HC).mono ?_; rintro e w1 ⟨rfl, hb1⟩)
    go_ret
    exact ⟨rfl, HB.out.trans (hb1.mono HB.out.size)⟩
  · have e : netRight rows gone = false := by
      unfold netRight
      rw [Bool.and_eq_false_iff, Bool.and_eq_false_iff, Bool.and_eq_false_iff]
      simp only [decide_eq_false_iff_not]
      omega
    rw [e]
    by_cases h1 : 1 ≤ rows.length
    · by_cases h2 : rows.length ≤ 4096
      · have h3b : ((gone.length : Int) != (rows.length : Int)) = true := by rw [bne_iff_ne]; omega
        clear hok e
        go_enter Try.func122, Try.ntmps122
        go_wp2
        go_ret
        exact ⟨rfl, (Below.refl _ _).alloc (Nat.le_refl _) _⟩
      · clear hok e
        go_enter Try.func122, Try.ntmps122
        go_wp2
        go_ret
        exact ⟨rfl, (Below.refl _ _).alloc (Nat.le_refl _) _⟩
    · clear hok e
      go_enter Try.func122, Try.ntmps122
      go_wp2
      go_ret
      exact ⟨rfl, (Below.refl _ _).alloc (Nat.le_refl _) _⟩
end Go.Proofs.Ytbaclbiedepjfaa
