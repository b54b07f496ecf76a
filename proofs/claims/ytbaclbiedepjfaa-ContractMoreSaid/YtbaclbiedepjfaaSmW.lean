/- highroadref01.Same: its walk. -/
import Derived.Test.YtbaclbiedepjfaaBrW
set_option autoImplicit false
namespace Go.Proofs.Ytbaclbiedepjfaa
open Go Go.RowKit

theorem ints_row {w : World} {B n : Nat} {A : Option Addr} {L : List Int} (h : Reads w B 1 A n (L.map (Value.int .i64))) (hn : 0 < n) : ∃ b o, A = some ⟨b, o, none⟩ ∧ b < B ∧ b < w.heap.size ∧ ∀ k x, L[k]? = some x → w.cell? ⟨b, o + k, none⟩ = some (.int .i64 x) := by
  obtain ⟨b, o, e, hb, hb2, hc⟩ := h.lit hn (by omega)
  exact ⟨b, o, e, hb, hb2, fun k x hx => hc k _ (by rw [List.getElem?_map, hx]; rfl)⟩

theorem reads_blk {w : World} {g B n size : Nat} {t : TypeId} {xs : List Value} (h : Blk w g t xs.toArray) (hg : g < B) (hl : xs.length = n * size) : Reads w B size (some ⟨g, 0, none⟩) n xs := by
  refine ⟨hl, fun _ => ⟨_, rfl, hg, fun j u hu => ?_⟩⟩
  have hadd : (⟨g, 0, none⟩ : Addr).add j = ⟨g, j, none⟩ := by unfold Addr.add; split <;> simp_all
  rw [hadd, h.cell]
  simpa using hu
theorem get_ne {a b : List Int} {k : Nat} {x y : Int} (hx : a[k]? = some x) (hy : b[k]? = some y) (hne : x ≠ y) : a ≠ b := by
  rintro rfl
  rw [hx] at hy
  injection hy with hy
  exact hne hy

set_option maxRecDepth 100000 in
set_option maxHeartbeats 1000000 in
theorem same_any (aA bA : Option Addr) (ac bc : Nat) (a b : List Int) (w : World) (ha : Reads w w.heap.size 1 aA a.length (a.map (Value.int .i64))) (hb : Reads w w.heap.size 1 bA b.length (b.map (Value.int .i64))) (hs : a.length ≤ 65536) :
    Calls Try.prog 15 #[.slice aA a.length ac, .slice bA b.length bc] w (Fresh (.bool (decide (a = b))) w) := by
  by_cases hl : a.length = b.length
  · obtain ⟨n, hn⟩ : ∃ n, n = a.length := ⟨_, rfl⟩
    have hn2 : n = b.length := by omega
    rw [← hl, ← hn]
    rw [← hn] at ha hs
    rw [← hn2] at hb
    have h1 : ((n : Int) == (n : Int)) = true := by simp
    have h2 : ((n : Int) != (n : Int)) = false := by simp
    have HA := Lib.hid ha
    have HB := Lib.hid hb
    have HL := Lib.hid hn
    have HL2 := Lib.hid hn2
    clear ha hb hn hn2 hl
    go_enter Try.func15, Try.ntmps15
    go_wp2
    go_loopw [5] (fun i wr => ∃ k : Nat, k ≤ n ∧ i = .int .i64 k ∧ Hid (a.take k = b.take k) ∧ Hid (Below w.heap.size w wr)) (fun i _ => n - (intOf i).toNat)
    case atStart => exact ⟨0, Nat.zero_le _, rfl, Lib.hid rfl, Lib.hid (Below.refl _ _)⟩
    case round =>
      obtain ⟨k, hk, rfl, HT, HBW⟩ := hrel
      by_cases hlt : k < n
      · obtain ⟨x, hx⟩ : ∃ x, a[k]? = some x := ⟨_, List.getElem?_eq_getElem (by rw [← HL.out]; exact hlt)⟩
        obtain ⟨y, hy⟩ : ∃ y, b[k]? = some y := ⟨_, List.getElem?_eq_getElem (by rw [← HL2.out]; exact hlt)⟩
        obtain ⟨ab, ao, e1, _, _, hca⟩ := ints_row (HA.out.below HBW.out) (by omega)
        obtain ⟨bb, bo, e2, _, _, hcb⟩ := ints_row (HB.out.below HBW.out) (by omega)
        subst e1; subst e2
        have c0 := hca k x hx
        have c1 := hcb k y hy
        have hk0 : (0 : Int) ≤ (k : Int) := by omega
        have hk1 : (k : Int) < (n : Int) := by omega
        have HX := Lib.hid hx
        have HY := Lib.hid hy
        clear hca hcb hx hy
        by_cases hxy : x = y
        · have q1 : (x == y) = true := by simpa using hxy
          have q2 : (x != y) = false := by simpa using hxy
          have HXY := Lib.hid hxy
          clear hxy
          go_wp2
          go_quiet (fail)
          go_wp2
          go_roundw
          case rel =>
            refine ⟨k + 1, by omega, by go_num, Lib.hid ?_, Lib.hid (below_drewN HBW.out _)⟩
            rw [Pl.take_snoc HX.out, Pl.take_snoc HY.out, HT.out, HXY.out]
          case measure => simp [intOf]; omega
        · have q1 : (x == y) = false := by simpa using hxy
          have q2 : (x != y) = true := by simpa using hxy
          have HXY := Lib.hid hxy
          clear hxy
          go_wp2
          go_quiet (fail)
          go_wp2
          go_ret
          have hne := get_ne HX.out HY.out HXY.out
          exact ⟨ret_bool (by simpa using hne), below_drewN HBW.out _⟩
      · have hke : k = n := by omega
        have HKE := Lib.hid hke
        clear hke
        go_wp2
        go_ret
        have h := HT.out
        rw [HKE.out, List.take_of_length_le (by rw [← HL.out]; omega), List.take_of_length_le (by rw [← HL2.out]; omega)] at h
        exact ⟨ret_bool (by simpa using h), HBW.out⟩
  · have e : decide (a = b) = false := by simpa using fun e => hl (by rw [e])
    have h1 : ((a.length : Int) == (b.length : Int)) = false := by simp; omega
    have h2 : ((a.length : Int) != (b.length : Int)) = true := by simp; omega
    rw [e]
    clear hl e ha hb
    go_enter Try.func15, Try.ntmps15
    go_wp2
    go_ret
    exact ⟨rfl, Below.refl _ _⟩
end Go.Proofs.Ytbaclbiedepjfaa
