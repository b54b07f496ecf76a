/- contract's core: begun's walk. -/
import Derived.Test.YtbaclbiedepjfaaBgW
import Derived.Test.YtbaclbiedepjfaaPlCor2
set_option autoImplicit false
namespace Go.Proofs.Ytbaclbiedepjfaa
open Go Go.RowKit

def toE (x : EdgeT) : Nat × Nat × Nat := (x.1.toNat, x.2.1.toNat, x.2.2)
def begunC (n : Nat) (E : List EdgeT) : Pl.Core := Pl.begunFrom (Pl.Core.start n) 0 (E.map toE)
/-- between two rounds -/
def BRel (base : Nat) (W : World) (C n hops settles : Nat) (rk : Value) (c : Pl.Core) (w : World) : Prop :=
  ∃ r, CM base w C r n hops settles rk 0 c.out c.gone c.s c.at_ c.s.length ∧ Below W.heap.size W w ∧ (∀ b, cfoot C r b → W.heap.size ≤ b)
/-- the answer: a core, all new -/
def BgDone (n hops settles : Nat) (rk : Value) (c : Pl.Core) (w : World) (e : Ending) (w' : World) : Prop :=
  ∃ C r, e = .returned (.pointer (some ⟨C, 0, none⟩)) ∧ CM w.heap.size w' C r n hops settles rk 0 c.out c.gone c.s c.at_ c.s.length ∧ Below w.heap.size w w' ∧ (∀ b, cfoot C r b → w.heap.size ≤ b)

set_option maxRecDepth 100000 in
set_option maxHeartbeats 16000000 in
theorem begun_any (n hops settles : Nat) (eA rA : Option Addr) (c rn rc : Nat) (E : List EdgeT) (w : World) (hn0 : 1 ≤ n) (hn : n ≤ 4096) (hG : RawG w w.heap.size eA E) (hE : ∀ x ∈ E, 0 ≤ x.1 ∧ x.1 < (n : Int) ∧ 0 ≤ x.2.1 ∧ x.2.1 < (n : Int)) (hEl : E.length ≤ 20000) :
    Calls Try.prog 64 #[.agg #[.int .i64 n, .slice eA E.length c], .agg #[.int .i64 hops, .int .i64 settles, .slice rA rn rc]] w (BgDone n hops settles (.slice rA rn rc) (begunC n E) w) := by
  obtain ⟨i0, hi, hz0, hz1, hz2⟩ := info_parts infoRows
  obtain ⟨i1, hi', hy0, hy1, hy2⟩ := info_parts infoBool
  obtain ⟨i2, hi'', hx0, hx1, hx2⟩ := info_parts infoInt
  have hmk0 := fun w => run_make_rowN (P := Try.prog) 49 46 i0 _ Try.underlying49 hi hz0 .i64 .i64 n n (Nat.le_refl _) (by rw [hz2]; omega) (by omega) w
  have hmk1 := fun w => run_make_rowN (P := Try.prog) 42 4 i1 _ Try.underlying42 hi' hy0 .i64 .i64 n n (Nat.le_refl _) (by rw [hy2]; omega) (by omega) w
  have hmk2 := fun w => run_make_rowN (P := Try.prog) 25 3 i2 _ Try.underlying25 hi'' hx0 .i64 .i64 n n (Nat.le_refl _) (by rw [hx2]; omega) (by omega) w
  rw [hz1, Nat.mul_one] at hmk0
  rw [hy1, Nat.mul_one] at hmk1
  rw [hx1, Nat.mul_one] at hmk2
  simp only [Value.cells, madeCells_one] at hmk0 hmk1 hmk2
  have hmm := @run_makeMap Try.prog
  obtain ⟨W, hW⟩ : ∃ W, W = (w.alloc (.cells #[.int .i64 n, .slice eA E.length c] 24)).alloc (.cells #[.int .i64 hops, .int .i64 settles, .slice rA rn rc] 27) := ⟨_, rfl⟩
  have hs0 : W.heap.size = w.heap.size + 2 := by rw [hW]; simp
  have hb0 : Blk W w.heap.size 24 #[.int .i64 n, .slice eA E.length c] := by rw [hW]; exact (Blk.new w _ _).alloc _
  have hb1 : Blk W (w.heap.size + 1) 27 #[.int .i64 hops, .int .i64 settles, .slice rA rn rc] := by
    have := Blk.new (w.alloc (.cells #[.int .i64 n, .slice eA E.length c] 24)) 27 #[.int .i64 hops, .int .i64 settles, .slice rA rn rc]
    rw [hW]; simpa using this
  have b0 : W.cell? ⟨w.heap.size, 0, none⟩ = some (.int .i64 n) := by rw [hb0.cell]; rfl
  have b1 : W.cell? ⟨w.heap.size + 1, 0, none⟩ = some (.int .i64 hops) := by rw [hb1.cell]; rfl
  have b2 : W.cell? ⟨w.heap.size + 1, 1, none⟩ = some (.int .i64 settles) := by rw [hb1.cell]; rfl
  have b3 : W.cell? ⟨w.heap.size + 1, 2, none⟩ = some (.slice rA rn rc) := by rw [hb1.cell]; rfl
  have HKEEP : Hid (∀ w', Below W.heap.size W w' → w'.cell? ⟨w.heap.size, 0, none⟩ = some (.int .i64 n) ∧ w'.cell? ⟨w.heap.size + 1, 0, none⟩ = some (.int .i64 hops) ∧ w'.cell? ⟨w.heap.size + 1, 1, none⟩ = some (.int .i64 settles) ∧ w'.cell? ⟨w.heap.size + 1, 2, none⟩ = some (.slice rA rn rc)) := Lib.hid (by
    intro w' h
    have h0 := hb0.below h hb0.lt
    have h1 := hb1.below h hb1.lt
    exact ⟨by rw [h0.cell]; rfl, by rw [h1.cell]; rfl, by rw [h1.cell]; rfl, by rw [h1.cell]; rfl⟩)
  have HB0 := Lib.hid hb0
  have HB1 := Lib.hid hb1
  have HW := Lib.hid hW
  have HG := Lib.hid hG
  clear hb0 hb1 hW
  have HE := Lib.hid hE
  clear hE hG hz0 hz1 hz2 hy0 hy1 hy2 hx0 hx1 hx2 hi hi' hi''
  go_enter Try.func64, Try.ntmps64
  go_upto_region 1 with fail
  rw [← HW.out]
  go_cut [5] (fun s5 wx => Hid (Bgn w.heap.size W n hops settles (.slice rA rn rc) s5 wx))
  case first =>
    go_region_held3 (fun w' => w'.cell? ⟨w.heap.size, 0, none⟩ = some (.int .i64 n) ∧ w'.cell? ⟨w.heap.size + 1, 0, none⟩ = some (.int .i64 hops) ∧ w'.cell? ⟨w.heap.size + 1, 1, none⟩ = some (.int .i64 settles) ∧ w'.cell? ⟨w.heap.size + 1, 2, none⟩ = some (.slice rA rn rc)) (first | (refine ⟨?_, ?_, ?_, ?_⟩ <;> assumption) | (refine HKEEP.out _ ?_; repeat (first | exact Below.refl _ _ | refine Below.alloc ?_ (by first | (simp; done) | (simp; omega) | omega) _ | refine Below.drew ?_)) | go_keep) (fail)
    all_goals
      go_wp2_with fail
      go_meet
      case rel =>
        refine Lib.hid (Bgn.mk_ hn ?_ (by omega) (by repeat (first | exact blk_at (by first | (simp; done) | (simp; omega) | omega) | refine Blk.alloc ?_ _ | refine Blk.drew ?_)) ?_ ?_ ?_ ?_ ?_)
        · repeat (first | exact Below.refl _ _ | refine Below.alloc ?_ (by first | (simp; done) | (simp; omega) | omega) _ | refine Below.drew ?_)
        · repeat (first | exact blk_at (by first | (simp; done) | (simp; omega) | omega) | refine Blk.alloc ?_ _ | refine Blk.drew ?_)
        · repeat (first | exact blk_at (by first | (simp; done) | (simp; omega) | omega) | refine Blk.alloc ?_ _ | refine Blk.drew ?_)
        · repeat (first | exact hp_at (by first | (simp; done) | (simp; omega) | omega) | refine hp_alloc _ ?_ | refine hp_drew ?_)
        · repeat (first | exact blk_at (by first | (simp; done) | (simp; omega) | omega) | refine Blk.alloc ?_ _ | refine Blk.drew ?_)
        · omega
  case rest =>
    obtain ⟨C, r, hC, hcm, hbw, hft⟩ := hcut.out
    subst hC
    have HR0 : Hid (BRel w.heap.size W C n hops settles (.slice rA rn rc) (Pl.begunFrom (Pl.Core.start n) 0 ((E.take 0).map toE)) wc) := Lib.hid ⟨r, hcm, hbw, hft⟩
    have hbc := HB0.out.below hbw HB0.out.lt
    have k1 : wc.cell? ⟨w.heap.size, 1, none⟩ = some (.slice eA E.length c) := by rw [hbc.cell]; rfl
    clear hcut hcm hbw hft hbc b0 b1 b2 b3
    go_wp2_with fail
    go_loopw [6, 7, 25] (fun _ _ i wr => ∃ k : Nat, k ≤ E.length ∧ i = .int .i64 k ∧ Hid (BRel w.heap.size W C n hops settles (.slice rA rn rc) (Pl.begunFrom (Pl.Core.start n) 0 ((E.take k).map toE)) wr)) (fun _ _ i _ => E.length - (intOf i).toNat)
    case atStart => exact ⟨0, Nat.zero_le _, rfl, HR0⟩
    case round =>
      obtain ⟨k, hk, rfl, HR⟩ := hrel
      by_cases hlt : k < E.length
      · obtain ⟨r', hcm, hbw, hft⟩ := HR.out
        obtain ⟨x, hx⟩ : ∃ x, E[k]? = some x := ⟨_, List.getElem?_eq_getElem hlt⟩
        have hB2 : Below w.heap.size w wr := (by rw [HW.out]; exact ((Below.refl _ _).alloc (Nat.le_refl _) _).alloc (by simp) _ : Below w.heap.size w W).trans (hbw.mono (by omega))
        obtain ⟨eb, eo, hA, _, _, hac⟩ := rowAt3 (HG.out.e.below hB2) (by omega)
        subst hA
        obtain ⟨e0, e1, e2⟩ := hac k x hx
        obtain ⟨p1, p2, p3, p4⟩ := HE.out x (List.mem_of_getElem? hx)
        obtain ⟨x1, x2, q⟩ := x
        obtain ⟨u, rfl⟩ : ∃ u : Nat, x1 = (u : Int) := ⟨x1.toNat, by simp only at p1; omega⟩
        obtain ⟨v, rfl⟩ : ∃ v : Nat, x2 = (v : Int) := ⟨x2.toNat, by simp only at p3; omega⟩
        simp only at e0 e1 e2 p1 p2 p3 p4
        have hi0 : (0 : Int) ≤ (k : Int) := by omega
        have hi1 : (k : Int) < (E.length : Int) := by omega
        have hok := Pl.begunFrom_ok (n := n) ((E.take k).map toE) (Pl.Core.start n) 0 (Pl.CoreOk.start n) (fun e he => by
          obtain ⟨y, hy, rfl⟩ := List.mem_map.1 he
          have := HE.out y (List.mem_of_mem_take hy)
          unfold toE
          simp only
          omega)
        have hsl : (Pl.begunFrom (Pl.Core.start n) 0 ((E.take k).map toE)).s.length ≤ 1000000 := by
          have := hok.2
          rw [List.length_map, List.length_take] at this
          have e : (Pl.Core.start n).s.length = 0 := rfl
          omega
        have HAD := Lib.hid (add_any w.heap.size C r' n hops settles (.slice rA rn rc) 0 (Pl.begunFrom (Pl.Core.start n) 0 ((E.take k).map toE)) ⟨u, v, q, (k : Int), -1, -1⟩ (wr.alloc (.cells #[.int .i64 u, .int .i64 v, .int .u64 q] 96)) (hcm.below ((Below.refl _ _).alloc (Nat.le_refl _) _)) (by show u < n; omega) (by show v < n; omega)
          (fun i hi => by obtain ⟨y, hy, _⟩ := hok.1.at1 _ _ i hi; exact ⟨y, hy⟩) hsl (fun p => Nat.le_trans (hok.1.row_lt p) (by omega)))
        have HSN : Hid (Pl.begunFrom (Pl.Core.start n) 0 ((E.take (k + 1)).map toE) = (Pl.begunFrom (Pl.Core.start n) 0 ((E.take k).map toE)).add ⟨u, v, q, (k : Int), -1, -1⟩) := Lib.hid (by
          rw [Pl.take_snoc hx, List.map_append, List.map_cons, List.map_nil, Pl.begunFrom_snoc]
          have : 0 + ((E.take k).map toE).length = k := by rw [List.length_map, List.length_take]; omega
          rw [this]
          simp [toE])
        have HBW := Lib.hid hbw
        have HFT := Lib.hid hft
        clear hcm hbw hft hx hac hok hsl hB2
        go_wp2_with (go_at_call 112; refine (Hid.out HAD).mono ?_; rintro e w2 ⟨rfl, r2, hc2, hk2, hf2⟩; have HC2 := Lib.hid hc2; have HK2 := Lib.hid hk2; have HF2 := Lib.hid hf2; clear hc2 hk2 hf2)
        go_roundw
        case rel =>
          refine ⟨k + 1, by omega, by go_num, ?_⟩
          have hsz := HBW.out.size
          rw [HSN.out]
          refine Lib.hid ⟨r2, HC2.out, (HBW.out.alloc hsz _).trans (HK2.out.below (by simp; omega) HFT.out), fun b hb => ?_⟩
          rcases HF2.out b hb with h | h
          · exact HFT.out b h
          · exact Nat.le_trans (by simp; omega) h
        case measure => simp [intOf]; omega
      · have hke : k = E.length := by omega
        have HKE := Lib.hid hke
        clear hke
        go_wp2
        go_ret
        obtain ⟨r', hcm, hbw, hft⟩ := HR.out
        rw [HKE.out, List.take_length] at hcm
        refine ⟨C, r', rfl, hcm, (by rw [HW.out]; exact ((Below.refl _ _).alloc (Nat.le_refl _) _).alloc (by simp) _ : Below w.heap.size w W).trans (hbw.mono (by omega)), fun b hb => Nat.le_trans (by omega) (hft b hb)⟩
end Go.Proofs.Ytbaclbiedepjfaa
