/- highroadlaw20.light, of: their walks. -/
import Derived.Test.YtbaclbiedepjfaaAvW
import Derived.StillTailTactics
set_option autoImplicit false
namespace Go.Proofs.Ytbaclbiedepjfaa
open Go Go.RowKit

def lightB (rows : List RowD) (gl : Nat) : Bool := decide (rows.length ≤ 12) && decide (gl ≤ 60) && rows.all (fun r => decide (r.l.length ≤ 20))

set_option maxRecDepth 100000 in
set_option maxHeartbeats 1000000 in
theorem light_any (oA gA : Option Addr) (oc gc gl : Nat) (rows : List RowD) (w : World) (h : Reads w w.heap.size 1 oA rows.length (rows.map RowD.V)) :
    Calls Try.prog 19 #[.agg #[.slice oA rows.length oc, .slice gA gl gc]] w (Fresh (.bool (lightB rows gl)) w) := by
  obtain ⟨W, hW⟩ : ∃ W, W = w.alloc (.cells #[.slice oA rows.length oc, .slice gA gl gc] 44) := ⟨_, rfl⟩
  have hB : Below w.heap.size w W := by rw [hW]; exact (Below.refl _ _).alloc (Nat.le_refl _) _
  have hb : Blk W w.heap.size 44 #[.slice oA rows.length oc, .slice gA gl gc] := by rw [hW]; exact Blk.new w _ _
  have c0 := hb.cell 0
  have c1 := hb.cell 1
  simp at c0 c1
  have HB := Lib.hid hB
  have HW := Lib.hid hW
  by_cases h1 : 12 < rows.length
  · have e : lightB rows gl = false := by simp [lightB]; omega
    have z1 : (12 : Int) < (rows.length : Int) := by omega
    rw [e]
    clear h1 e hB hb hW h c0 c1
    go_enter Try.func19, Try.ntmps19
    go_wp2
    go_ret
    exact ⟨rfl, by rw [← HW.out]; exact HB.out⟩
  · by_cases h2 : 60 < gl
    · have e : lightB rows gl = false := by simp [lightB]; omega
      have z1 : (rows.length : Int) ≤ 12 := by omega
      have z2 : (60 : Int) < (gl : Int) := by omega
      rw [e]
      clear h1 h2 e hB hb hW h c0 c1
      go_enter Try.func19, Try.ntmps19
      go_wp2
      go_ret
      exact ⟨rfl, by rw [← HW.out]; exact HB.out⟩
    · have z1 : (rows.length : Int) ≤ 12 := by omega
      have z2 : (gl : Int) ≤ 60 := by omega
      have HR := Lib.hid (h.below hB)
      have HE : Hid (lightB rows gl = rows.all (fun r => decide (r.l.length ≤ 20))) := Lib.hid (by
        unfold lightB
        have e1 : decide (rows.length ≤ 12) = true := by simp; omega
        have e2 : decide (gl ≤ 60) = true := by simp; omega
        rw [e1, e2]; rfl)
      clear h1 h2 hB hb hW h
      go_enter Try.func19, Try.ntmps19
      go_wp2
      rw [← HW.out]
      go_loop [3] (fun i => ∃ k : Nat, k ≤ rows.length ∧ i = .int .i64 k ∧ Hid ((rows.take k).all (fun r => decide (r.l.length ≤ 20)) = true)) (fun i => rows.length - (intOf i).toNat)
      case atStart => exact ⟨0, Nat.zero_le _, rfl, Lib.hid rfl⟩
      case round =>
        obtain ⟨k, hk, rfl, HA⟩ := hrel
        by_cases hlt : k < rows.length
        · obtain ⟨x, hx⟩ : ∃ x, rows[k]? = some x := ⟨_, List.getElem?_eq_getElem hlt⟩
          obtain ⟨b, o, hA, _, _, hac⟩ := rowAt1 HR.out (by omega)
          subst hA
          have d0 : _ = some (Value.slice x.A x.l.length x.c) := hac k x hx
          have hk0 : (0 : Int) ≤ (k : Int) := by omega
          have hk1 : (k : Int) < (rows.length : Int) := by omega
          have HX := Lib.hid hx
          clear hx hac
          by_cases h3 : 20 < x.l.length
          · have z3 : (20 : Int) < (x.l.length : Int) := by omega
            have H3 := Lib.hid h3
            clear h3
            go_wp2
            go_ret
            refine ⟨ret_bool ?_, HB.out⟩
            rw [HE.out]
            symm
            rw [List.all_eq_false]
            exact ⟨x, List.mem_of_getElem? HX.out, by simp; have := H3.out; omega⟩
          · have z3 : (x.l.length : Int) ≤ 20 := by omega
            have H3 := Lib.hid h3
            clear h3
            go_wp2
            go_round
            case rel =>
              refine ⟨k + 1, by omega, by go_num, Lib.hid ?_⟩
              rw [Pl.take_snoc HX.out, List.all_append, HA.out]
              have := H3.out
              simp
              omega
            case measure => simp [intOf]; omega
        · have hke : k = rows.length := by omega
          have HKE := Lib.hid hke
          clear hke
          go_wp2
          go_ret
          refine ⟨ret_bool ?_, HB.out⟩
          have h := HA.out
          rw [HKE.out, List.take_length] at h
          rw [HE.out, h]
end Go.Proofs.Ytbaclbiedepjfaa
