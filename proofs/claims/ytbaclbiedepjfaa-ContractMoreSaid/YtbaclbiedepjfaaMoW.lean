/- highroadlaw20.ContractMore: its walk. -/
import Derived.Test.YtbaclbiedepjfaaOf2W
import Derived.Test.YtbaclbiedepjfaaPlMore
import Derived.Deep.QuietTactic
import Derived.BigQuiet
set_option autoImplicit false
namespace Go.Proofs.Ytbaclbiedepjfaa
open Go Go.RowKit

theorem tri_rows {w : World} {b1 b2 : Nat} {A A' : Option Addr} {c c' : Nat} {T : List Tri} (hl : w.ownsRow b1 55 2 (.slice A T.length c) T.length (T.flatMap cellsA)) (ho : w.ownsRow b2 3 1 (.slice A' T.length c') T.length (T.map cellsU)) {k : Nat} {t : Tri} (ht : T[k]? = some t) :
    ∃ lg og, A = some ⟨lg, 0, none⟩ ∧ A' = some ⟨og, 0, none⟩ ∧ w.cell? ⟨lg, k * 2, none⟩ = some (.int .i64 t.2.1) ∧ w.cell? ⟨lg, k * 2 + 1, none⟩ = some (.int .u64 t.2.2) ∧ w.cell? ⟨og, k, none⟩ = some (.int .i64 t.1) := by
  have hlt := (List.getElem?_eq_some_iff.1 ht).1
  obtain ⟨lg, lcap, el, _, lgl⟩ := hl.form (by omega)
  obtain ⟨og, ocap, eo, _, ogl⟩ := ho.form (by omega)
  injection el with el _ _
  injection eo with eo _ _
  subst el; subst eo
  have hadd : ∀ (g j : Nat), (⟨g, 0, none⟩ : Addr).add j = ⟨g, j, none⟩ := by intro g j; unfold Addr.add; split <;> simp_all
  have hc := hl.cells (g := lg) rfl
  have hd := ho.cells (g := og) rfl
  have c0 := flat_get cellsA 2 cellsA_len T k 0 (by omega)
  have c1 := flat_get cellsA 2 cellsA_len T k 1 (by omega)
  rw [ht] at c0 c1
  refine ⟨lg, og, rfl, rfl, ?_, ?_, ?_⟩
  · have := hc (k * 2) (.int .i64 t.2.1) (by simpa [cellsA] using c0)
    rwa [hadd] at this
  · have := hc (k * 2 + 1) (.int .u64 t.2.2) (by simpa [cellsA] using c1)
    rwa [hadd] at this
  · have := hd k (.int .i64 t.1) (by simp [ht, cellsU])
    rwa [hadd] at this

set_option maxRecDepth 100000 in
set_option maxHeartbeats 4000000 in
theorem more_dead (oA gA : Option Addr) (oc gc : Nat) (rows : List RowD) (gone : List Bool) (v h s : Int) (w : World) (hO : Reads w w.heap.size 1 oA rows.length (rows.map RowD.V))
    (hbad : lightB rows gone.length = false ∨ h < 1 ∨ 1000 < h ∨ s < 1 ∨ 1000 < s) :
    Calls Try.prog 4 #[.agg #[.slice oA rows.length oc, .slice gA gone.length gc], .int .i64 v, .int .i64 h, .int .i64 s] w (Fresh (.bool true) w) := by
  obtain ⟨W, hW⟩ : ∃ W, W = w.alloc (.cells #[.slice oA rows.length oc, .slice gA gone.length gc] 44) := ⟨_, rfl⟩
  have hB : Below w.heap.size w W := by rw [hW]; exact (Below.refl _ _).alloc (Nat.le_refl _) _
  have hb : Blk W w.heap.size 44 #[.slice oA rows.length oc, .slice gA gone.length gc] := by rw [hW]; exact Blk.new w _ _
  have HB := Lib.hid hB
  have HW := Lib.hid hW
  have HLI := Lib.hid (light_any oA gA oc gc gone.length rows W ((hO.below hB).more hB.size))
  obtain ⟨q, hq⟩ : ∃ q, q = lightB rows gone.length := ⟨_, rfl⟩
  rw [← hq] at hbad HLI
  clear hB hb hW hO hq
  have fin : ∀ w1 w2, Below W.heap.size W w1 → Below w1.heap.size w1 w2 → Below w.heap.size w w2 := fun w1 w2 a b => (HB.out.trans (a.mono HB.out.size)).trans (b.mono (Nat.le_trans HB.out.size a.size))
  have FIN := Lib.hid fin
  clear fin
  cases q
  · clear hbad
    go_enter Try.func4, Try.ntmps4
    go_wp2_with (first
      | (go_at_call 19; rw [← HW.out]; refine (Hid.out HLI).mono ?_; rintro e w1 ⟨rfl, hb1⟩; have HB1 := Lib.hid hb1; clear hb1)
      | (go_at_call 11; refine (alive_any _).mono ?_; rintro e w2 ⟨rfl, hb2⟩; have HB2 := Lib.hid hb2; clear hb2))
    go_ret
    exact ⟨rfl, FIN.out _ _ HB1.out HB2.out⟩
  · by_cases d1 : h < 1
    · clear hbad
      go_enter Try.func4, Try.ntmps4
      go_wp2_with (first
        | (go_at_call 19; rw [← HW.out]; refine (Hid.out HLI).mono ?_; rintro e w1 ⟨rfl, hb1⟩; have HB1 := Lib.hid hb1; clear hb1)
        | (go_at_call 11; refine (alive_any _).mono ?_; rintro e w2 ⟨rfl, hb2⟩; have HB2 := Lib.hid hb2; clear hb2))
      go_ret
      exact ⟨rfl, FIN.out _ _ HB1.out HB2.out⟩
    · have e1 : (1 : Int) ≤ h := by omega
      by_cases d2 : 1000 < h
      · clear hbad d1
        go_enter Try.func4, Try.ntmps4
        go_wp2_with (first
          | (go_at_call 19; rw [← HW.out]; refine (Hid.out HLI).mono ?_; rintro e w1 ⟨rfl, hb1⟩; have HB1 := Lib.hid hb1; clear hb1)
          | (go_at_call 11; refine (alive_any _).mono ?_; rintro e w2 ⟨rfl, hb2⟩; have HB2 := Lib.hid hb2; clear hb2))
        go_ret
        exact ⟨rfl, FIN.out _ _ HB1.out HB2.out⟩
      · have e2 : h ≤ (1000 : Int) := by omega
        by_cases d3 : s < 1
        · clear hbad d1 d2
          go_enter Try.func4, Try.ntmps4
          go_wp2_with (first
            | (go_at_call 19; rw [← HW.out]; refine (Hid.out HLI).mono ?_; rintro e w1 ⟨rfl, hb1⟩; have HB1 := Lib.hid hb1; clear hb1)
            | (go_at_call 11; refine (alive_any _).mono ?_; rintro e w2 ⟨rfl, hb2⟩; have HB2 := Lib.hid hb2; clear hb2))
          go_ret
          exact ⟨rfl, FIN.out _ _ HB1.out HB2.out⟩
        · have e3 : (1 : Int) ≤ s := by omega
          have d4 : 1000 < s := by
            rcases hbad with h1 | h1 | h1 | h1 | h1
            · cases h1
            · omega
            · omega
            · omega
            · exact h1
          clear hbad d1 d2 d3
          go_enter Try.func4, Try.ntmps4
          go_wp2_with (first
            | (go_at_call 19; rw [← HW.out]; refine (Hid.out HLI).mono ?_; rintro e w1 ⟨rfl, hb1⟩; have HB1 := Lib.hid hb1; clear hb1)
            | (go_at_call 11; refine (alive_any _).mono ?_; rintro e w2 ⟨rfl, hb2⟩; have HB2 := Lib.hid hb2; clear hb2))
          go_ret
          exact ⟨rfl, FIN.out _ _ HB1.out HB2.out⟩
end Go.Proofs.Ytbaclbiedepjfaa
