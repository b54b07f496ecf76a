/- highroadlaw20.alive: the chapter's example. -/
import Derived.Test.YtbaclbiedepjfaaSmW
set_option autoImplicit false
namespace Go.Proofs.Ytbaclbiedepjfaa
open Go Go.RowKit

def exE : List EdgeT := [(0, 1, 1), (1, 2, 1)]
def exR : List Int := [1, 0, 2]
theorem ex_graph : graphF (3 : Nat) exE = 0 := by decide
theorem ex_opt : optRight (9 : Nat) (9 : Nat) exR = true := by decide
def isEx (x : Pl.Cut) : Bool := ((x.u : Int) == 0) && ((x.v : Int) == 2) && ((x.w : Int) == 2)

theorem via_pos {E : Nat → Nat → Nat → Prop} {ok : Nat → Prop} {u w d : Nat} (h : Pl.Via E ok u w d) (hE : ∀ a b c, E a b c → 1 ≤ c) : 1 ≤ d := by
  cases h with
  | one e => exact hE _ _ _ e
  | two e _ _ => have := hE _ _ _ e; omega
theorem alive_s : (builtS 3 9 9 exE exR).any isEx = true := by
  have hO := orderOf_ranked (L := exR) (by decide)
  have hl := orderOf_len (L := exR) (by decide)
  have hlen : exR.length = 3 := rfl
  rw [hlen] at hO hl
  obtain ⟨M, Fu, _⟩ := Pl.build_mid (hops := 9) (settles := 9) (graphF_edges ex_graph) hO 3 (by omega)
  rw [List.take_of_length_le (by omega)] at Fu
  have e01 : Pl.edgesOf (exE.map toE) 0 1 1 := by unfold Pl.edgesOf; decide
  have e12 : Pl.edgesOf (exE.map toE) 1 2 1 := by unfold Pl.edgesOf; decide
  have hE : ∀ a b c, Pl.edgesOf (exE.map toE) a b c → (a = 0 ∧ b = 1 ∧ c = 1) ∨ (a = 1 ∧ b = 2 ∧ c = 1) := by
    intro a b c h
    have : (a, b, c) ∈ [((0 : Nat), (1 : Nat), (1 : Nat)), (1, 2, 1)] := h
    simp only [List.mem_cons, Prod.mk.injEq, List.not_mem_nil, or_false] at this
    exact this
  have hv : Pl.Via (Pl.edgesOf (exE.map toE)) (fun x => rkOf exR x < rkOf exR 0 ∧ rkOf exR x < rkOf exR 2) 0 2 (1 + 1) := .two e01 (by decide) (.one e12)
  obtain ⟨i, x, h1, h2, h3, h4⟩ := Fu 0 2 (1 + 1) (by omega) (by omega) (by omega) (Or.inl ⟨by omega, by decide⟩) hv ⟨hv.mono (fun _ _ => trivial), by
    intro d' h
    cases h with
    | one e =>
      have := hE _ _ _ e
      omega
    | two e _ k =>
      have h1 := hE _ _ _ e
      have h2 := via_pos k (fun a b c h => by have := hE _ _ _ h; omega)
      omega⟩
  rw [List.any_eq_true]
  refine ⟨x, List.mem_of_getElem? h1, ?_⟩
  unfold isEx
  rw [h2, h3, h4]
  decide
theorem alive_len : (builtS 3 9 9 exE exR).length ≤ 100000 := by
  have hO := orderOf_ranked (L := exR) (by decide)
  have hl := orderOf_len (L := exR) (by decide)
  have hlen : exR.length = 3 := rfl
  rw [hlen] at hO hl
  obtain ⟨_, _, h3⟩ := Pl.build_mid (hops := 9) (settles := 9) (graphF_edges ex_graph) hO 3 (by omega)
  rw [List.take_of_length_le (by omega)] at h3
  refine Nat.le_trans h3 ?_
  decide

theorem cuts_row {w : World} {base : Nat} {v : Value} {S : List Pl.Cut} (h : w.ownsRow base 69 6 v S.length (S.flatMap cellsC)) (hS : 0 < S.length) :
    ∃ g cap, v = .slice (some ⟨g, 0, none⟩) S.length cap ∧ g < w.heap.size ∧ base ≤ g ∧ ∀ k x, S[k]? = some x → w.cell? ⟨g, k * 6, none⟩ = some (.int .i64 x.u) ∧ w.cell? ⟨g, k * 6 + 1, none⟩ = some (.int .i64 x.v) ∧ w.cell? ⟨g, k * 6 + 2, none⟩ = some (.int .u64 x.w) ∧
      w.cell? ⟨g, k * 6 + 3, none⟩ = some (.int .i64 x.e) ∧ w.cell? ⟨g, k * 6 + 4, none⟩ = some (.int .i64 x.a) ∧ w.cell? ⟨g, k * 6 + 5, none⟩ = some (.int .i64 x.b) := by
  obtain ⟨g, cap, e, hb, hlt⟩ := h.form hS
  subst e
  have hadd : ∀ (g j : Nat), (⟨g, 0, none⟩ : Addr).add j = ⟨g, j, none⟩ := by intro g j; unfold Addr.add; split <;> simp_all
  have hc := h.cells (g := g) rfl
  refine ⟨g, cap, rfl, hlt, hb, fun k x hx => ?_⟩
  have key : ∀ j, j < 6 → ∀ u, (cellsC x)[j]? = some u → w.cell? ⟨g, k * 6 + j, none⟩ = some u := by
    intro j hj u hu
    have h1 := flat_get cellsC 6 cellsC_len S k j hj
    rw [hx] at h1
    have h2 := hc (k * 6 + j) u (by rw [h1]; exact hu)
    rwa [hadd] at h2
  exact ⟨key 0 (by omega) _ rfl, key 1 (by omega) _ rfl, key 2 (by omega) _ rfl, key 3 (by omega) _ rfl, key 4 (by omega) _ rfl, key 5 (by omega) _ rfl⟩

set_option maxRecDepth 100000 in
set_option maxHeartbeats 4000000 in
theorem alive_any (w : World) : Calls Try.prog 11 #[] w (Fresh (.bool true) w) := by
  obtain ⟨W, hW⟩ : ∃ W, W = (w.alloc (.cells #[.int .i64 0, .int .i64 1, .int .u64 1, .int .i64 1, .int .i64 2, .int .u64 1] 96)).alloc (.cells #[.int .i64 1, .int .i64 0, .int .i64 2] 3) := ⟨_, rfl⟩
  have hB : Below w.heap.size w W := by rw [hW]; exact ((Below.refl _ _).alloc (Nat.le_refl _) _).alloc (by simp) _
  have hs0 : W.heap.size = w.heap.size + 2 := by rw [hW]; simp
  have hb0 : Blk W w.heap.size 96 #[.int .i64 0, .int .i64 1, .int .u64 1, .int .i64 1, .int .i64 2, .int .u64 1] := by rw [hW]; exact (Blk.new w _ _).alloc _
  have hb1 : Blk W (w.heap.size + 1) 3 #[.int .i64 1, .int .i64 0, .int .i64 2] := by
    have := Blk.new (w.alloc (.cells #[.int .i64 0, .int .i64 1, .int .u64 1, .int .i64 1, .int .i64 2, .int .u64 1] 96)) 3 #[.int .i64 1, .int .i64 0, .int .i64 2]
    rw [hW]; simpa using this
  have hG : RawG W W.heap.size (some ⟨w.heap.size, 0, none⟩) exE := ⟨reads_blk (xs := exE.flatMap cellsE) hb0 hb0.lt rfl, by decide⟩
  have hR : Reads W W.heap.size 1 (some ⟨w.heap.size + 1, 0, none⟩) 3 (exR.map (Value.int .i64)) := reads_blk (xs := exR.map (Value.int .i64)) hb1 hb1.lt rfl
  have HBU := Lib.hid (build_rank 3 (some ⟨w.heap.size, 0, none⟩) (some ⟨w.heap.size + 1, 0, none⟩) 2 3 9 9 exE exR W hG hR rfl (by omega) ex_graph ex_opt (by omega) (by intro h; cases h))
  obtain ⟨S, hS⟩ : ∃ S, S = builtS 3 9 9 exE exR := ⟨_, rfl⟩
  have hex := alive_s
  have hSl := alive_len
  rw [← hS] at hex hSl
  unfold BuDone at HBU
  rw [← hS] at HBU
  have HW := Lib.hid hW
  have HB := Lib.hid hB
  have HEX := Lib.hid hex
  clear hW hB hb0 hb1 hG hR hS hex
  go_enter Try.func11, Try.ntmps11
  go_wp2_with (first
    | (go_at_call 12; rw [← HW.out]; refine (Hid.out HBU).mono ?_; rintro e w1 ⟨rv, sv, rfl, hrv, hsv, hb1⟩
       have hrv' : w1.ownsRow W.heap.size 3 1 rv 3 (exR.map (Value.int .i64)) := hrv
       clear hrv
       obtain ⟨rA, rcap, e1⟩ := own_slice hrv'
       obtain ⟨sA, scap, e2⟩ := own_slice hsv
       subst e1; subst e2
       obtain ⟨W2, hW2⟩ : ∃ W2, W2 = (w1.alloc (.cells #[.slice rA 3 rcap, .slice sA S.length scap] 32)).alloc (.cells #[.int .i64 1, .int .i64 0, .int .i64 2] 3) := ⟨_, rfl⟩
       have hb2 : Below w1.heap.size w1 W2 := (by rw [hW2]; exact ((Below.refl _ _).alloc (Nat.le_refl _) _).alloc (by simp) _)
       have hbh : Blk W2 w1.heap.size 32 #[.slice rA 3 rcap, .slice sA S.length scap] := (by rw [hW2]; exact (Blk.new w1 _ _).alloc _)
       have hbi : Blk W2 (w1.heap.size + 1) 3 #[.int .i64 1, .int .i64 0, .int .i64 2] := (by
         have := Blk.new (w1.alloc (.cells #[.slice rA 3 rcap, .slice sA S.length scap] 32)) 3 #[.int .i64 1, .int .i64 0, .int .i64 2]
         rw [hW2]; simpa using this)
       have HSA := Lib.hid (same_any rA (some ⟨w1.heap.size + 1, 0, none⟩) rcap 3 exR exR W2 ((Reads.of_own (own_below hrv' hb2))) (reads_blk (xs := exR.map (Value.int .i64)) hbi hbi.lt rfl) (by decide))
       have HSV := Lib.hid (own_below hsv hb2)
       have HBH := Lib.hid hbh
       have HB2 := Lib.hid ((HB.out.trans (hb1.mono HB.out.size)).trans (hb2.mono (Nat.le_trans HB.out.size hb1.size)))
       have HW2 := Lib.hid hW2
       clear hrv' hsv hb1 hW2 hb2 hbh hbi)
    | (go_at_call 15; rw [← HW2.out]; refine (Hid.out HSA).mono ?_; rintro e w3 ⟨rfl, hb3⟩
       have h0 := (HBH.out.below hb3 HBH.out.lt).cell 0
       have h1 := (HBH.out.below hb3 HBH.out.lt).cell 1
       simp at h0 h1
       have HSV3 := Lib.hid (own_below HSV.out hb3)
       have HB3 := Lib.hid (HB2.out.trans (hb3.mono HB2.out.size))
       clear hb3))
  go_loop [3, 4] (fun b i => ∃ k : Nat, k ≤ S.length ∧ i = .int .i64 k ∧ b = .bool ((S.take k).any isEx)) (fun _ i => S.length - (intOf i).toNat)
  case atStart => exact ⟨0, Nat.zero_le _, rfl, rfl⟩
  case round =>
    obtain ⟨k, hk, rfl, rfl⟩ := hrel
    by_cases hlt : k < S.length
    · obtain ⟨x, hx⟩ : ∃ x, S[k]? = some x := ⟨_, List.getElem?_eq_getElem hlt⟩
      obtain ⟨g, cap', ei, _, _, hc⟩ := cuts_row HSV3.out (by omega)
      injection ei with ei e9 e8
      clear e8
      subst ei
      obtain ⟨c0, c1, c2, _, _, _⟩ := hc k x hx
      have hk0 : (0 : Int) ≤ (k : Int) := by omega
      have hk1 : (k : Int) < (S.length : Int) := by omega
      obtain ⟨b, hb⟩ : ∃ b, b = (S.take k).any isEx := ⟨_, rfl⟩
      obtain ⟨q1, hq1⟩ : ∃ q, q = ((x.u : Int) == 0) := ⟨_, rfl⟩
      obtain ⟨q2, hq2⟩ : ∃ q, q = ((x.v : Int) == 2) := ⟨_, rfl⟩
      obtain ⟨q3, hq3⟩ : ∃ q, q = ((x.w : Int) == 2) := ⟨_, rfl⟩
      have hsn : (S.take (k + 1)).any isEx = (b || (q1 && q2 && q3)) := by
        rw [Pl.take_snoc hx, List.any_append, hb, hq1, hq2, hq3]
        show (_ || (isEx x || false)) = _
        rw [Bool.or_false]
        rfl
      have HSN := Lib.hid hsn
      rw [← hb]
      clear hc hsn hb hx
      cases b
      · cases q1
        · have z1 := hq1.symm
          clear hq1 hq2 hq3
          go_wp2
          go_round
          case rel => exact ⟨k + 1, by omega, by go_num, by rw [HSN.out]; rfl⟩
          case measure => simp [intOf]; omega
        · cases q2
          · have z1 := hq1.symm
            have z2 := hq2.symm
            clear hq1 hq2 hq3
            go_wp2
            go_round
            case rel => exact ⟨k + 1, by omega, by go_num, by rw [HSN.out]; rfl⟩
            case measure => simp [intOf]; omega
          · cases q3
            all_goals
              have z1 := hq1.symm
              have z2 := hq2.symm
              have z3 := hq3.symm
              clear hq1 hq2 hq3
              go_wp2
              go_round
              case rel => exact ⟨k + 1, by omega, by go_num, by rw [HSN.out]; rfl⟩
              case measure => simp [intOf]; omega
      · clear hq1 hq2 hq3
        go_wp2
        go_round
        case rel => exact ⟨k + 1, by omega, by go_num, by rw [HSN.out]; rfl⟩
        case measure => simp [intOf]; omega
    · have hke : k = S.length := by omega
      have HKE := Lib.hid hke
      clear hke
      go_wp2
      go_ret
      refine ⟨ret_bool ?_, HB3.out⟩
      rw [HKE.out, List.take_length]
      exact HEX.out
end Go.Proofs.Ytbaclbiedepjfaa
