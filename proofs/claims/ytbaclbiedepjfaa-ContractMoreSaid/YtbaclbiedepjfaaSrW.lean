/- witness.Search: its walk. -/
import Derived.Test.YtbaclbiedepjfaaSrM
import Derived.RegionTactic
set_option autoImplicit false
namespace Go.Proofs.Ytbaclbiedepjfaa
open Go Go.RowKit

def Made3 (base : Nat) (w0 : World) (n : Nat) (s14 s15 s16 : Value) (wx : World) : Prop :=
  ∃ R rb sb H ab, s14 = .pointer (some ⟨R, 0, none⟩) ∧ s15 = .slice (some ⟨sb, 0, none⟩) n n ∧ s16 = .pointer (some ⟨H, 0, none⟩) ∧
    SMem base wx R rb sb H (.slice none 0 0) ab n { far := List.replicate n none, steps := List.replicate n 0, l := [], p := List.replicate n (-1) } ∧ Below base w0 wx

theorem mk3 {base : Nat} {w0 wx : World} {n R rb sb H ab : Nat} (h1 : IsRow wx R rb (List.replicate n none)) (h2 : Blk wx sb 3 (List.replicate n (.int .i64 0)).toArray)
    (h3 : IsHeap wx H (.slice none 0 0) ab n [] (List.replicate n (-1))) (hne : sb ≠ ab) (hb : base ≤ R ∧ base ≤ rb ∧ base ≤ sb ∧ base ≤ H ∧ base ≤ ab) (hB : Below base w0 wx) :
    Made3 base w0 n (.pointer (some ⟨R, 0, none⟩)) (.slice (some ⟨sb, 0, none⟩) n n) (.pointer (some ⟨H, 0, none⟩)) wx := by
  refine ⟨R, rb, sb, H, ab, rfl, rfl, rfl, ⟨h1, by simpa using h2, h3, hne, by simp, by simp, hb.1, hb.2.1, hb.2.2.1, ?_⟩, hB⟩
  rintro b (rfl | rfl | e)
  · exact hb.2.2.2.1
  · exact hb.2.2.2.2
  · simp [Value.ownBlock] at e

theorem below_undrew {B : Nat} {w w' : World} (h : Below B w.drew w') : Below B w w' := ⟨h.os, h.tape, h.output, h.size, h.block⟩

/-- between two rounds: k rounds are to come -/
def SRel (base : Nat) (w0 : World) (R rb sb H ab n : Nat) (net : Pl.Net) (tgt below hops : Nat) (RES : Option Nat) (k c : Nat) (wr : World) : Prop :=
  ∃ s lv, Pl.srch net tgt below hops k s = RES ∧ SMem base wr R rb sb H lv ab n s ∧ Below base w0 wr ∧ ∀ i, s.steps.getD i 0 ≤ c

/-- between two arcs: j are done -/
def IRel (base : Nat) (w0 : World) (R rb sb H ab n : Nat) (net : Pl.Net) (v d : Nat) (s : Pl.St) (c j : Nat) (wr : World) : Prop :=
  ∃ s2 lv, s2 = Pl.relax net v d s ((net.arcs v).take j) ∧ SMem base wr R rb sb H lv ab n s2 ∧ Below base w0 wr ∧ ∀ i, s2.steps.getD i 0 ≤ c + j

theorem stepsUp {f : Nat → Nat} {c k j : Nat} (hc : c = k * 65536) (hj : j ≤ 65536) (h : ∀ i, f i ≤ c + j) : ∀ i, f i ≤ (k + 1) * 65536 := fun i => by
  have := h i
  omega

theorem relax_succ {net : Pl.Net} {v d : Nat} {s : Pl.St} {j : Nat} {x : Nat × Nat} (h : (net.arcs v)[j]? = some x) :
    Pl.relax net v d s ((net.arcs v).take (j + 1)) = Pl.relax1 net v d (Pl.relax net v d s ((net.arcs v).take j)) x := by
  have e : (net.arcs v).take (j + 1) = (net.arcs v).take j ++ [x] := by
    rw [List.take_add_one, h]; rfl
  unfold Pl.relax
  rw [e, List.foldl_append]; rfl

section
variable {base n R rb H ab : Nat} {w0 w1 w2 : World}
theorem way1 (hbase : base = w0.heap.size) (hR : IsRow w1 R rb (List.replicate n none)) (hB1 : Below w0.heap.size w0 w1) (hR1 : w0.heap.size ≤ R) (hR2 : w0.heap.size ≤ rb)
    (hH : IsHeap w2 H (.slice none 0 0) ab n [] (List.replicate n (-1))) (hB2 : Below (w1.alloc (.cells (Array.replicate n (.int .i64 0)) 3)).heap.size (w1.alloc (.cells (Array.replicate n (.int .i64 0)) 3)) w2)
    (hH1 : (w1.alloc (.cells (Array.replicate n (.int .i64 0)) 3)).heap.size ≤ H) (hH2 : (w1.alloc (.cells (Array.replicate n (.int .i64 0)) 3)).heap.size ≤ ab) :
    Made3 base w0 n (.pointer (some ⟨R, 0, none⟩)) (.slice (some ⟨w1.heap.size, 0, none⟩) n n) (.pointer (some ⟨H, 0, none⟩)) w2 := by
  subst hbase
  have hs := hB1.size
  have hz : (w1.alloc (.cells (Array.replicate n (.int .i64 0)) 3)).heap.size = w1.heap.size + 1 := by simp
  have hA : Below w1.heap.size w1 (w1.alloc (.cells (Array.replicate n (.int .i64 0)) 3)) := (Below.refl _ _).alloc (Nat.le_refl _) _
  refine mk3 ((hR.below hA).below hB2) ?_ hH (by omega) ⟨hR1, hR2, hs, by omega, by omega⟩ ((hB1.trans (hA.mono hs)).trans (hB2.mono (by omega)))
  have := (Blk.new w1 3 (Array.replicate n (.int .i64 0))).below hB2 (by omega)
  simpa using this
theorem way2 (hbase : base = w0.heap.size) (hR : IsRow w1 R rb (List.replicate n none)) (hB1 : Below w0.heap.size w0 w1) (hR1 : w0.heap.size ≤ R) (hR2 : w0.heap.size ≤ rb)
    (hH : IsHeap w2 H (.slice none 0 0) ab n [] (List.replicate n (-1))) (hB2 : Below w1.heap.size w1 w2) (hH1 : w1.heap.size ≤ H) (hH2 : w1.heap.size ≤ ab) :
    Made3 base w0 n (.pointer (some ⟨R, 0, none⟩)) (.slice (some ⟨w2.heap.size, 0, none⟩) n n) (.pointer (some ⟨H, 0, none⟩)) (w2.alloc (.cells (Array.replicate n (.int .i64 0)) 3)) := by
  subst hbase
  have hs := hB1.size
  have hs2 := hB2.size
  have hA : Below w2.heap.size w2 (w2.alloc (.cells (Array.replicate n (.int .i64 0)) 3)) := (Below.refl _ _).alloc (Nat.le_refl _) _
  have hab := hH.mem.at_.lt
  refine mk3 ((hR.below hB2).below hA) ?_ ⟨hH.mem.below hA, hH.wf⟩ (by omega) ⟨hR1, hR2, by omega, by omega, by omega⟩ ((hB1.trans (hB2.mono hs)).trans (hA.mono (by omega)))
  have := Blk.new w2 3 (Array.replicate n (.int .i64 0))
  simpa using this
theorem way3 (hbase : base = w0.heap.size) (hR : IsRow w1 R rb (List.replicate n none)) (hB1 : Below (w0.alloc (.cells (Array.replicate n (.int .i64 0)) 3)).heap.size (w0.alloc (.cells (Array.replicate n (.int .i64 0)) 3)) w1)
    (hR1 : (w0.alloc (.cells (Array.replicate n (.int .i64 0)) 3)).heap.size ≤ R) (hR2 : (w0.alloc (.cells (Array.replicate n (.int .i64 0)) 3)).heap.size ≤ rb)
    (hH : IsHeap w2 H (.slice none 0 0) ab n [] (List.replicate n (-1))) (hB2 : Below w1.heap.size w1 w2) (hH1 : w1.heap.size ≤ H) (hH2 : w1.heap.size ≤ ab) :
    Made3 base w0 n (.pointer (some ⟨R, 0, none⟩)) (.slice (some ⟨w0.heap.size, 0, none⟩) n n) (.pointer (some ⟨H, 0, none⟩)) w2 := by
  subst hbase
  have hz : (w0.alloc (.cells (Array.replicate n (.int .i64 0)) 3)).heap.size = w0.heap.size + 1 := by simp
  have hs := hB1.size
  have hs2 := hB2.size
  have hA : Below w0.heap.size w0 (w0.alloc (.cells (Array.replicate n (.int .i64 0)) 3)) := (Below.refl _ _).alloc (Nat.le_refl _) _
  refine mk3 (hR.below hB2) ?_ hH (by omega) ⟨by omega, by omega, Nat.le_refl _, by omega, by omega⟩ ((hA.trans (hB1.mono (by omega))).trans (hB2.mono (by omega)))
  have := ((Blk.new w0 3 (Array.replicate n (.int .i64 0))).below hB1 (by omega)).below hB2 (by omega)
  simpa using this
end

set_option maxRecDepth 100000 in
set_option maxHeartbeats 4000000 in
theorem search_any (oA gA : Option Addr) (oc gc src tgt below hops settles : Nat) (rows : List Value) (net : Pl.Net) (w : World)
    (hN : NetMem w w.heap.size oA gA rows net) (hsrc : src < net.out.length) (hto : tgt < net.out.length)
    (hbl : below ≤ 2251799813685248) (hW : ∀ v a, a ∈ net.arcs v → a.2 ≤ 1125899906842624) (hs : settles ≤ 1000) :
    Calls Try.prog 124 #[.agg #[.slice oA net.out.length oc, .slice gA net.out.length gc], .int .i64 src, .int .i64 tgt, .int .u64 below, .int .i64 hops, .int .i64 settles] w
      (Fresh (searchV (Pl.search net src tgt below hops settles)) w) := by
  obtain ⟨n, hn⟩ : ∃ n, n = net.out.length := ⟨_, rfl⟩
  obtain ⟨gb, go, rfl, hgb, _, hgc⟩ := hN.goneAt (by omega)
  have gs := hgc src hsrc
  have gt := hgc tgt hto
  have HG := Lib.hid hgc
  clear hgc
  have hsz := hN.sz
  have hi0 : (0 : Int) ≤ (src : Int) := by omega
  have hi1 : (src : Int) < (net.out.length : Int) := by omega
  have hi2 : (0 : Int) ≤ (tgt : Int) := by omega
  have hi3 : (tgt : Int) < (net.out.length : Int) := by omega
  obtain ⟨i0, hi, hz0, hz1, hz2⟩ := info_parts infoInt
  have hmk := fun w => run_make_rowN (P := Try.prog) 25 3 i0 _ Try.underlying25 hi hz0 .i64 .i64 net.out.length net.out.length (Nat.le_refl _) (by rw [hz2]; omega) (by omega) w
  rw [hz1] at hmk
  simp only [Nat.mul_one, Value.cells, madeCells_one] at hmk
  have HN := Lib.hid hN
  have HW := Lib.hid hW
  have HNN := Lib.hid hn
  clear hN hW hn
  cases g1 : net.isGone src with
  | true =>
    rw [g1] at gs
    have e : Pl.search net src tgt below hops settles = none := by unfold Pl.search; rw [if_pos (Or.inl g1)]
    rw [e]
    clear e
    go_enter Try.func124, Try.ntmps124
    go_wp2
    go_step3
    go_wp2
    rw [Exit.noGoto_ret]
    go_ret2
    exact ⟨rfl, (Below.refl _ _).alloc (Nat.le_refl _) _⟩
  | false =>
    rw [g1] at gs
    cases g2 : net.isGone tgt with
    | true =>
      rw [g2] at gt
      have e : Pl.search net src tgt below hops settles = none := by unfold Pl.search; rw [if_pos (Or.inr g2)]
      rw [e]
      clear e
      go_enter Try.func124, Try.ntmps124
      go_wp2
      go_step3
      go_wp2
      rw [Exit.noGoto_ret]
      go_ret2
      exact ⟨rfl, (Below.refl _ _).alloc (Nat.le_refl _) _⟩
    | false =>
      rw [g2] at gt
      have e : Pl.search net src tgt below hops settles = Pl.srch net tgt below hops settles (Pl.start net.out.length src) := by
        unfold Pl.search; rw [if_neg (by rw [g1, g2]; simp)]
      rw [e]
      obtain ⟨RES, hRES⟩ : ∃ r, r = Pl.srch net tgt below hops settles (Pl.start net.out.length src) := ⟨_, rfl⟩
      rw [← hRES]
      have HRES := Lib.hid hRES
      clear e hRES g1 g2
      go_enter Try.func124, Try.ntmps124
      go_wp2
      go_step3
      go_upto_region 3 with fail
      go_cut [14, 15, 16] (fun s14 s15 s16 wx => Hid (Made3 (w.heap.size + 1) (w.alloc (.cells #[.slice oA net.out.length oc, .slice (some ⟨gb, go, none⟩) net.out.length gc] 51)) net.out.length s14 s15 s16 wx))
      case first =>
        go_region_held3 (fun w' => w'.cell? ⟨w.heap.size, 0, none⟩ = some (.slice oA net.out.length oc)) (first | assumption | go_keep | (rw [World.cell?_alloc_lt _ _ _ (by first | (simp; omega) | omega)]; assumption))
          (first
            | (go_at_call 160; refine (snew_any _ (by omega) _).mono ?_; rintro e w1 ⟨R, rb, rfl, hR, hB1, hR1, hR2⟩; have z1 : w.heap.size < w1.heap.size := by (have := hB1.size; first | omega | (simp at this; omega))
               have d1 := (hB1.cell (p := ⟨w.heap.size, 0, none⟩) (by first | (simp; done) | (simp; omega) | omega)).trans (by assumption))
            | (go_at_call 113; refine (new_any _ (by omega) _).mono ?_; rintro e w2 ⟨H, ab, rfl, hH, hB2, hH1, hH2⟩; have z2 : w.heap.size < w2.heap.size := by (have := hB2.size; first | omega | (simp at this; omega))
               have d2 := (hB2.cell (p := ⟨w.heap.size, 0, none⟩) (by first | (simp; done) | (simp; omega) | omega)).trans (by assumption)))
        all_goals go_wp2_with fail
        all_goals go_meet
        · exact Lib.hid (way1 (by simp) hR (below_undrew hB1) hR1 hR2 hH hB2 hH1 hH2)
        · exact Lib.hid (way2 (by simp) hR (below_undrew hB1) hR1 hR2 hH hB2 hH1 hH2)
        · have e : (w.alloc (.cells #[.slice oA net.out.length oc, .slice (some ⟨gb, go, none⟩) net.out.length gc] 51)).heap.size = w.heap.size + 1 := by simp
          have h := way3 (base := w.heap.size + 1) e.symm hR (below_undrew hB1) hR1 hR2 hH hB2 hH1 hH2
          rw [e] at h
          exact Lib.hid h
      case rest =>
        obtain ⟨R, rb, sb, H, ab, rfl, rfl, rfl, hS, hB⟩ := hcut.out
        clear hcut
        have hp0 : (-1 : Int) = -1 := rfl
        have HS := Lib.hid hS
        have HB := Lib.hid hB
        clear hS hB hp0
        go_wp2_with (first
          | (go_at_call 161; refine (sput_any R rb src 0 _ _ HS.out.row (by simpa using hsrc)).mono ?_; rintro e w1 ⟨rfl, hR1, hK1⟩
             have HS1 := Lib.hid (HS.out.row_ hR1 (by simp) hK1); clear hR1 hK1)
          | (go_at_call 114; refine (put_any H ab src 0 _ _ _ _ HS1.out.1.hp.mem (by simpa using HS1.out.1.hp.wf) (by simpa using hsrc)).mono ?_; rintro e w2 ⟨lv2, rfl, hM2, hK2, hF2⟩
             have HS2 := Lib.hid (HS1.out.1.heap_ ⟨hM2, put_wf HS1.out.1.hp.wf hsrc⟩ hK2 hF2); clear hM2 hK2 hF2)
          | (go_step3; go_wp2_with fail))
        have HR0 : Hid (SRel (w.heap.size + 1) (w.alloc (.cells #[.slice oA net.out.length oc, .slice (some ⟨gb, go, none⟩) net.out.length gc] 51)) R rb sb H ab net.out.length net tgt below hops RES settles 0 w2) :=
          Lib.hid ⟨_, _, HRES.out.symm, HS2.out.1, (HB.out.trans HS1.out.2).trans HS2.out.2, fun i => by simp [Pl.start, List.getD, List.getElem?_replicate]; split <;> simp⟩
        go_loopw [54] (fun i wr => ∃ k : Nat, k ≤ settles ∧ i = .int .i64 k ∧ Hid (SRel (w.heap.size + 1) (w.alloc (.cells #[.slice oA net.out.length oc, .slice (some ⟨gb, go, none⟩) net.out.length gc] 51)) R rb sb H ab net.out.length net tgt below hops RES (settles - k) (k * 65536) wr)) (fun i _ => settles - (intOf i).toNat)
        case atStart => exact ⟨0, Nat.zero_le _, rfl, HR0⟩
        case round =>
          obtain ⟨k, hk, rfl, hrel2⟩ := hrel
          obtain ⟨s, lv, hsr, hS3, hB3, hst⟩ := hrel2.out
          have HB3 := Lib.hid hB3
          have HS3 := Lib.hid hS3
          obtain ⟨c, hc⟩ : ∃ c, c = k * 65536 := ⟨_, rfl⟩
          rw [← hc] at hst
          have HST := Lib.hid hst
          have hcb : c ≤ 65536000 := by omega
          have HC := Lib.hid hc
          clear hc
          have HW0 : Hid (Below w.heap.size w wr) := Lib.hid (((Below.refl w.heap.size w).alloc (Nat.le_refl _) _).trans (hB3.mono (by omega)))
          clear hrel2 hB3 hS3 hst
          by_cases hlt : k < settles
          · obtain ⟨m, hm⟩ : ∃ m, settles - k = m + 1 := ⟨settles - k - 1, by omega⟩
            rw [hm] at hsr
            have HM := Lib.hid hm
            clear hm
            cases hl : s.l with
            | nil =>
              have HP : Hid (Calls Try.prog 116 #[.pointer (some ⟨H, 0, none⟩)] wr fun e w' => e = .returned (.tuple #[.int .i64 0, .int .u64 0, .bool false]) ∧ Keep (hfoot H lv ab) wr w') := by
                have h := pop_any H ab net.out.length lv s.l s.p wr HS3.out.hp
                rw [hl] at h
                exact Lib.hid (h.mono fun _ _ hh => ⟨hh.1, hh.2.1⟩)
              have hE : RES = none := by rw [← hsr]; unfold Pl.srch; rw [hl]
              have HE := Lib.hid hE
              clear hE hsr hl
              go_wp2_with (go_at_call 116; refine HP.out.mono ?_; rintro e w4 ⟨rfl, hK4⟩)
              rw [Exit.noGoto_ret]
              go_ret2
              refine ⟨by rw [HE.out]; rfl, HW0.out.trans (hK4.below (by have := HW0.out.size; omega) (fun b hb => by have := HS3.out.bs.2.2.2 b hb; omega))⟩
            | cons x r =>
              obtain ⟨v, d⟩ := x
              have hvn : v < net.out.length := HS3.out.hp.wf.lt (x := (v, d)) (by rw [hl]; exact List.mem_cons_self)
              have HP : Hid (Calls Try.prog 116 #[.pointer (some ⟨H, 0, none⟩)] wr fun e w' => e = .returned (.tuple #[.int .i64 v, .int .u64 d, .bool true]) ∧ ∃ lv', SMem (w.heap.size + 1) w' R rb sb H lv' ab net.out.length (Pl.pop s v) ∧ Below (w.heap.size + 1) wr w') := by
                have h := pop_any H ab net.out.length lv s.l s.p wr HS3.out.hp
                rw [hl] at h
                refine Lib.hid (h.mono fun e w' hh => ?_)
                obtain ⟨h1, h2, lv', h3, h4⟩ := hh
                have h5 := HS3.out.heap_ h4 h2 h3
                rw [← hl] at h5
                exact ⟨h1, lv', h5.1, h5.2⟩
              by_cases h1 : below ≤ d
              · have hE : RES = none := by rw [← hsr]; unfold Pl.srch; rw [hl]; simp [h1]
                have HE := Lib.hid hE
                clear hE hsr hl
                go_wp2_with (go_at_call 116; refine HP.out.mono ?_; rintro e w4 ⟨rfl, lv4, hS4, hB4⟩)
                rw [Exit.noGoto_ret]
                go_ret2
                exact ⟨by rw [HE.out]; rfl, HW0.out.trans (hB4.mono (by omega))⟩
              · have h1' : d < below := by omega
                by_cases h2 : v = tgt
                · have hE : RES = some d := by rw [← hsr]; unfold Pl.srch; rw [hl]; simp [h1, h2]
                  have HE := Lib.hid hE
                  have hvt : ((v : Int) == (tgt : Int)) = true := by rw [beq_iff_eq, h2]
                  clear hE hsr hl h2 h1
                  go_wp2_with (go_at_call 116; refine HP.out.mono ?_; rintro e w4 ⟨rfl, lv4, hS4, hB4⟩)
                  rw [Exit.noGoto_ret]
                  go_ret2
                  exact ⟨by rw [HE.out]; rfl, HW0.out.trans (hB4.mono (by omega))⟩
                · have hvt : ((v : Int) == (tgt : Int)) = false := by rw [beq_eq_false_iff_ne]; omega
                  have hj0 : (0 : Int) ≤ (v : Int) := by omega
                  have hj1 : (v : Int) < (net.out.length : Int) := by omega
                  obtain ⟨sv, hsv⟩ : ∃ sv, sv = s.steps.getD v 0 := ⟨_, rfl⟩
                  by_cases h3 : hops ≤ s.steps.getD v 0
                  · have hE : Pl.srch net tgt below hops m (Pl.pop s v) = RES := by rw [← hsr]; conv => rhs; unfold Pl.srch; rw [hl]; simp only [if_neg h1, if_neg h2, if_pos h3]
                    have HE := Lib.hid hE
                    have h3' : hops ≤ sv := by omega
                    have HSV := Lib.hid hsv
                    clear hE hsr hl h2 h1 h3 hsv
                    go_wp2_with (go_at_call 116; refine HP.out.mono ?_; rintro e w4 ⟨rfl, lv4, hS4, hB4⟩; have t4 : w4.cell? ⟨sb, v, none⟩ = some (.int .i64 (sv : Int)) := (by rw [HSV.out]; exact (hS4.stepAt hvn).1); have HS4 := Lib.hid hS4; have HB4 := Lib.hid hB4; clear hS4 hB4)
                    go_roundw
                    case rel =>
                      refine ⟨k + 1, by omega, by go_num, Lib.hid ⟨Pl.pop s v, lv4, ?_, HS4.out, HB3.out.trans HB4.out, ?_⟩⟩
                      · rw [show settles - (k + 1) = m by have := HM.out; omega]; exact HE.out
                      · exact stepsUp (j := 0) HC.out (Nat.zero_le _) HST.out
                    case measure => simp [intOf]; omega
                  · have hE : Pl.srch net tgt below hops m (Pl.relax net v d (Pl.pop s v) (net.arcs v)) = RES := by rw [← hsr]; conv => rhs; unfold Pl.srch; rw [hl]; simp only [if_neg h1, if_neg h2, if_neg h3]
                    have HE := Lib.hid hE
                    have h3' : sv < hops := by omega
                    have q1 : decide ((below : Int) ≤ (d : Int)) = false := by simp; omega
                    have q2 : decide (below ≤ d) = false := by simp; omega
                    have q3 : decide ((hops : Int) ≤ (sv : Int)) = false := by simp; omega
                    have q4 : decide (hops ≤ sv) = false := by simp; omega
                    have HSV := Lib.hid hsv
                    clear hsv
                    obtain ⟨ob, oo, hoA, hob, _, hoc⟩ := HN.out.outAt (by omega)
                    obtain ⟨A, ca, o1w, oR⟩ := hoc v hvn
                    have o1 := (HW0.out.cell (p := ⟨ob, oo + v, none⟩) hob).trans o1w
                    have hrl := HN.out.rl v
                    subst hoA
                    have hbx : Blk wr w.heap.size 51 #[.slice (some ⟨ob, oo, none⟩) net.out.length oc, .slice (some ⟨gb, go, none⟩) net.out.length gc] :=
                      (Blk.new w _ _).below HB3.out (by omega)
                    have HBX := Lib.hid hbx
                    have HOR := Lib.hid oR
                    clear hE hsr hl h2 h1 h3 hoc hbx oR
                    go_wp2_with (go_at_call 116; refine HP.out.mono ?_; rintro e w4 ⟨rfl, lv4, hS4, hB4⟩; have t4 : w4.cell? ⟨sb, v, none⟩ = some (.int .i64 (sv : Int)) := (by rw [HSV.out]; exact (hS4.stepAt hvn).1); have HS4 := Lib.hid hS4; have HB4 := Lib.hid hB4; have b4 := (HBX.out.below hB4 (by omega)).cell 0; have o4 := (hB4.cell (p := ⟨ob, oo + v, none⟩) (by show ob < _; omega)).trans o1; simp at b4; clear hS4 hB4)
                    have HIR : Hid (IRel (w.heap.size + 1) (w.alloc (.cells #[.slice (some ⟨ob, oo, none⟩) net.out.length oc, .slice (some ⟨gb, go, none⟩) net.out.length gc] 51)) R rb sb H ab net.out.length net v d (Pl.pop s v) c 0 w4) :=
                      Lib.hid ⟨_, lv4, rfl, HS4.out, HB3.out.trans HB4.out, HST.out⟩
                    go_loopw [88] (fun i wr => ∃ j : Nat, j ≤ (net.arcs v).length ∧ i = .int .i64 j ∧ Hid (IRel (w.heap.size + 1) (w.alloc (.cells #[.slice (some ⟨ob, oo, none⟩) net.out.length oc, .slice (some ⟨gb, go, none⟩) net.out.length gc] 51)) R rb sb H ab net.out.length net v d (Pl.pop s v) c j wr)) (fun i _ => (net.arcs v).length - (intOf i).toNat)
                    case atStart => exact ⟨0, Nat.zero_le _, rfl, HIR⟩
                    case round =>
                      obtain ⟨j, hj, rfl, hrel2⟩ := hrel
                      obtain ⟨s2, lv5, hs2, hS5, hB5, hst5⟩ := hrel2.out
                      have HS5 := Lib.hid hS5
                      have HB5 := Lib.hid hB5
                      have HST5 := Lib.hid hst5
                      have HSE := Lib.hid hs2
                      have HW5 : Hid (Below w.heap.size w wr) := Lib.hid (((Below.refl w.heap.size w).alloc (Nat.le_refl _) _).trans (hB5.mono (by omega)))
                      clear hrel2 hB5 hS5 hst5 hs2
                      by_cases hjl : j < (net.arcs v).length
                      · obtain ⟨x, hx⟩ : ∃ x, (net.arcs v)[j]? = some x := ⟨_, List.getElem?_eq_getElem hjl⟩
                        have hxm := List.mem_of_getElem? hx
                        have hxn : x.1 < net.out.length := HN.out.ok.to v x hxm
                        have hxw := HW.out v x hxm
                        obtain ⟨bb, bo, hA, hbb, _, hac⟩ := arcAt (HOR.out.below HW5.out) (by omega)
                        subst hA
                        obtain ⟨a0, a1⟩ := hac j x hx
                        have g5 := (HW5.out.cell (p := ⟨gb, go + x.1, none⟩) hgb).trans (HG.out x.1 hxn)
                        have hbx5 := (Blk.new w 51 #[.slice (some ⟨ob, oo, none⟩) net.out.length oc, .slice (some ⟨gb, go, none⟩) net.out.length gc]).below HB5.out (by omega)
                        have b5 := hbx5.cell 1
                        simp at b5
                        have hws5 := hbx5.lt
                        have hgb5 : gb < wr.heap.size := by omega
                        have hbb5 : bb < wr.heap.size := by omega
                        have hx0 : (0 : Int) ≤ (x.1 : Int) := by omega
                        have hx1 : (x.1 : Int) < (net.out.length : Int) := by omega
                        have hj2 : (0 : Int) ≤ (j : Int) := by omega
                        have hj3 : (j : Int) < ((net.arcs v).length : Int) := by omega
                        obtain ⟨q, hq⟩ : ∃ q : Nat, q = d + x.2 := ⟨_, rfl⟩
                        have hqe : (d : Int) + (x.2 : Int) = (q : Int) := by omega
                        have hqs : q ≤ 3377699720527872 := by omega
                        have HX := Lib.hid hx
                        have HQ := Lib.hid hq
                        have HSA := Lib.hid (HS5.out.below ((Below.refl _ _).alloc (Nat.le_refl _) (.cells #[.int .i64 x.1, .int .u64 x.2] 55)))
                        have hBA : Below (w.heap.size + 1) wr (wr.alloc (.cells #[.int .i64 x.1, .int .u64 x.2] 55)) := (Below.refl _ _).alloc (by omega) _
                        have HBA := Lib.hid (HB5.out.trans hBA)
                        clear hx hq hac hbx5 hBA
                        cases hg : net.isGone x.1 with
                        | true =>
                          rw [hg] at g5
                          have HGX := Lib.hid hg
                          clear hg
                          go_wp2
                          go_roundw
                          case rel =>
                            refine ⟨j + 1, by omega, by go_num, Lib.hid ⟨s2, lv5, ?_, HSA.out, HBA.out, fun i => Nat.le_succ_of_le (HST5.out i)⟩⟩
                            rw [relax_succ HX.out, ← HSE.out]
                            unfold Pl.relax1
                            rw [if_neg (by rw [HGX.out]; simp)]
                          case measure => simp [intOf]; omega
                        | false =>
                          rw [hg] at g5
                          have HGX := Lib.hid hg
                          have hfl := HS5.out.fl
                          have HFL := Lib.hid hfl
                          clear hg hfl
                          have hbxA := Blk.new wr 55 #[.int .i64 x.1, .int .u64 x.2]
                          have HBXA := Lib.hid hbxA
                          clear hbxA
                          have HLE := sleast_any R rb x.1 q s2.far _ HSA.out.row (by rw [HFL.out]; exact hxn)
                          cases hless : Pl.lessen s2.far x.1 q with
                          | false =>
                            rw [hless] at HLE
                            have HLS := Lib.hid hless
                            have HLE2 := Lib.hid HLE
                            clear HLE hless
                            go_wp2_with (go_at_call 162; refine HLE2.out.mono ?_; rintro e w5 ⟨rfl, hR5, hK5⟩; have HS6 := Lib.hid (HSA.out.row_ hR5 HFL.out hK5); clear hR5 hK5)
                            go_roundw
                            case rel =>
                              refine ⟨j + 1, by omega, by go_num, Lib.hid ⟨s2, lv5, ?_, HS6.out.1, HBA.out.trans HS6.out.2, fun i => Nat.le_succ_of_le (HST5.out i)⟩⟩
                              rw [relax_succ HX.out, ← HSE.out]
                              unfold Pl.relax1
                              rw [if_neg (by rw [← HQ.out, HLS.out]; simp)]
                            case measure => simp [intOf]; omega
                          | true =>
                            rw [hless, if_pos rfl] at HLE
                            have HLS := Lib.hid hless
                            have HLE2 := Lib.hid HLE
                            clear HLE hless
                            obtain ⟨sv2, hsv2⟩ : ∃ sv2, sv2 = s2.steps.getD v 0 := ⟨_, rfl⟩
                            have hsv2b : sv2 ≤ 65601536 := by have := HST5.out v; rw [hsv2]; omega
                            have HSV2 := Lib.hid hsv2
                            clear hsv2
                            go_wp2_with (first
                              | (go_at_call 162; refine HLE2.out.mono ?_; rintro e w5 ⟨rfl, hR5, hK5⟩
                                 have HS6 := Lib.hid (HSA.out.row_ hR5 (by rw [List.length_set]; exact HFL.out) hK5)
                                 have HBX6 := Lib.hid (HBXA.out.keep hK5 (fun e => Nat.lt_irrefl _ (HS5.out.row.foot_lt e)))
                                 have e0 := HBX6.out.cell 0
                                 have e1 := HBX6.out.cell 1
                                 simp at e0 e1; clear hR5 hK5)
                              | (go_at_call 114; refine (put_any H ab x.1 q lv5 s2.l s2.p _ HS6.out.1.hp.mem (by rw [HS6.out.1.hp.wf.len]; exact HS6.out.1.hp.wf) (by rw [HS6.out.1.hp.wf.len]; exact hxn)).mono ?_; rintro e w6 ⟨lv6, rfl, hM6, hK6, hF6⟩
                                 have HS7 := Lib.hid (HS6.out.1.heap_ ⟨hM6, put_wf HS6.out.1.hp.wf hxn⟩ hK6 hF6)
                                 have hbxn := HBX6.out.keep hK6 (fun e => Nat.lt_irrefl _ (HS5.out.hp.mem.foot_lt e))
                                 have e2 := hbxn.cell 0
                                 simp at e2
                                 have hbxl := hbxn.lt
                                 have t6 : w6.cell? ⟨sb, v, none⟩ = some (.int .i64 (sv2 : Int)) := (by rw [HSV2.out]; exact (HS7.out.1.stepAt hvn).1)
                                 have t7 := (HS7.out.1.stepAt hxn).1
                                 have t8 := (HS7.out.1.stepAt hxn).2
                                 clear hM6 hK6 hF6 hbxn))
                            go_region
                            all_goals
                              go_wp2
                              go_roundw
                              case rel =>
                                have h9 := HS7.out.1.step_ x.1 (sv2 + 1)
                                have e9 : ((sv2 + 1 : Nat) : Int) = (sv2 : Int) + 1 := by omega
                                rw [e9] at h9
                                refine ⟨j + 1, by omega, by go_num, Lib.hid ⟨{ far := s2.far.set x.1 (some q), steps := s2.steps.set x.1 (sv2 + 1), l := (Pl.put s2.l s2.p x.1 q).1, p := (Pl.put s2.l s2.p x.1 q).2.1 }, lv6, ?_, h9.1.below ((Below.refl _ _).drew), (((HBA.out.trans HS6.out.2).trans HS7.out.2).trans h9.2).drew, ?_⟩⟩
                                · rw [relax_succ HX.out, ← HSE.out]
                                  unfold Pl.relax1
                                  rw [← HQ.out, if_pos ⟨HGX.out, HLS.out⟩, HSV2.out]
                                · intro i
                                  have h1 := HST5.out i
                                  have h2 := HST5.out v
                                  rw [← HSV2.out] at h2
                                  show (s2.steps.set x.1 (sv2 + 1)).getD i 0 ≤ _
                                  rw [Pl.getD_set _ _ _ _ _ (by rw [HS5.out.sl]; exact hxn)]
                                  split
                                  · exact Nat.succ_le_succ h2
                                  · exact Nat.le_succ_of_le h1
                              case measure => simp [intOf]; omega
                      · have hje : j = (net.arcs v).length := by omega
                        have HJE := Lib.hid hje
                        clear hje
                        go_wp2
                        go_roundw
                        case rel =>
                          refine ⟨k + 1, by omega, by go_num, Lib.hid ⟨s2, lv5, ?_, HS5.out, HB5.out, stepsUp HC.out (by omega) HST5.out⟩⟩
                          rw [show settles - (k + 1) = m by have := HM.out; omega, HSE.out, HJE.out, List.take_length]
                          exact HE.out
                        case measure => simp [intOf]; omega
          · have hE : RES = none := by rw [← hsr, show settles - k = 0 by omega]; rfl
            have HE := Lib.hid hE
            clear hE hsr
            go_wp2
            rw [Exit.noGoto_ret]
            go_ret2
            exact ⟨by rw [HE.out]; rfl, HW0.out⟩
end Go.Proofs.Ytbaclbiedepjfaa
