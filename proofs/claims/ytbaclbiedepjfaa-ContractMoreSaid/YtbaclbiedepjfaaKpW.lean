/- contract.kept: its walk. -/
import Derived.Test.YtbaclbiedepjfaaKpM
set_option autoImplicit false
namespace Go.Proofs.Ytbaclbiedepjfaa
open Go Go.RowKit

/-- the answer: two lists, all new -/
def KDone (T : List Tri) (w : World) (e : Ending) (w' : World) : Prop :=
  ∃ lv ov, e = .returned (.tuple #[lv, ov]) ∧ w'.ownsRow w.heap.size 55 2 lv T.length (T.flatMap cellsA) ∧ w'.ownsRow w.heap.size 3 1 ov T.length (T.map cellsU) ∧ Below w.heap.size w w'

theorem infoArc : (Try.prog.info? 55).map (fun i => (i.zero, i.size, i.bytes)) = some (some (.agg #[.int .i64 0, .int .u64 0]), 2, 16) := by kernel_rfl

set_option maxRecDepth 100000 in
set_option maxHeartbeats 8000000 in
theorem kept_any (oA gA : Option Addr) (oc gc v hops settles : Nat) (rk : Value) (rows : List Value) (net : Pl.Net) (w : World)
    (hN : NetMem w w.heap.size oA gA rows net) (hv : v < net.out.length) (hW : ∀ v a, a ∈ net.arcs v → a.2 ≤ 1125899906842624) (hs : settles ≤ 1000) :
    Calls Try.prog 78 #[.agg #[.slice oA net.out.length oc, .slice gA net.out.length gc], .int .i64 v, .agg #[.int .i64 hops, .int .i64 settles, rk]] w (KDone (Pl.kept net v hops settles) w) := by
  obtain ⟨gb, go, rfl, hgb, _, hgc⟩ := hN.goneAt (by omega)
  have hsz := hN.sz
  obtain ⟨w0, hw0⟩ : ∃ w0, w0 = (w.alloc (.cells #[.slice oA net.out.length oc, .slice (some ⟨gb, go, none⟩) net.out.length gc] 51)).alloc (.cells #[.int .i64 hops, .int .i64 settles, rk] 27) := ⟨_, rfl⟩
  have hs0 : w0.heap.size = w.heap.size + 2 := by rw [hw0]; simp
  have hB0 : Below w.heap.size w w0 := by rw [hw0]; exact ((Below.refl _ _).alloc (Nat.le_refl _) _).alloc (by simp) _
  have hbn0 : Blk w0 w.heap.size 51 #[.slice oA net.out.length oc, .slice (some ⟨gb, go, none⟩) net.out.length gc] := by rw [hw0]; exact (Blk.new w _ _).alloc _
  have HBN0 := Lib.hid hbn0
  have HN0 : Hid (NetMem w0 w0.heap.size oA (some ⟨gb, go, none⟩) rows net) := Lib.hid ((hN.below hB0).more (by omega))
  obtain ⟨i0, hi, hz0, hz1, hz2⟩ := info_parts infoArc
  obtain ⟨j0, hjI, hy0, hy1, hy2⟩ := info_parts infoInt
  have HSM := Lib.hid (Pl.lightest_small hN.ok hW (v := v))
  have HN := Lib.hid hN
  have HW := Lib.hid hW
  have HW0 := Lib.hid hw0
  have HS0 := Lib.hid hs0
  have HB0 := Lib.hid hB0
  have HG1 : Hid (∀ u ∈ net.gone.map Value.bool, u.oneCell' = true) := Lib.hid (by
    intro u hu
    obtain ⟨b, _, rfl⟩ := List.mem_map.1 hu
    rfl)
  have HGET : Hid ((net.gone.map Value.bool)[v]? = some (.bool (net.isGone v))) := Lib.hid (by
    have : v < net.gone.length := by rw [hN.ok.gl]; exact hv
    unfold Pl.Net.isGone
    simp [List.getD, this])
  have hv0 : (0 : Int) ≤ (v : Int) := by omega
  have hv1 : (v : Int) < (net.out.length : Int) := by omega
  clear hN hW hw0 hs0 hB0 hbn0 hgc
  go_enter Try.func78, Try.ntmps78
  go_wp2_with (first
    | (go_at_call 118; rw [← HW0.out]; refine (lightest_any oA (some ⟨gb, go, none⟩) oc gc v rows net _ HN0.out hv HW.out).mono ?_; rintro e w1 ⟨mt, mf, rfl, hm1, hm2, hB1, hmt, hmf, hmne⟩
       have HM1 := Lib.hid hm1; have HM2 := Lib.hid hm2; have HB1 := Lib.hid hB1
       have n1 := ((HBN0.out.below hB1 HBN0.out.lt).cell 1)
       have n1f := ((HBN0.out.below hB1 HBN0.out.lt).frozen 1)
       have hsz1 := hB1.size
       simp at n1; clear hm1 hm2 hB1)
    | (go_at_call 123; refine (clone_bool (some ⟨gb, go, none⟩) net.out.length gc (net.gone.map Value.bool) _ ((HN0.out.below HB1.out).gone.more hsz1) HG1.out (by omega) (by intro h; cases h)).mono ?_
       rintro e wc ⟨gv, rfl, hgv, hBc⟩
       obtain ⟨g, gcap, rfl, _, hgl⟩ := hgv.form (by omega)
       have k1 := (hgv.cellAt v (by omega)).trans HGET.out
       have k2 := hgv.frozenAt v
       have n2 := ((HBN0.out.below HB1.out HBN0.out.lt).below hBc (by have := HBN0.out.lt; omega)).cell 1
       have n2f := ((HBN0.out.below HB1.out HBN0.out.lt).below hBc (by have := HBN0.out.lt; omega)).frozen 1
       have n3 := ((HBN0.out.below HB1.out HBN0.out.lt).below hBc (by have := HBN0.out.lt; omega)).cell 0
       have hgw : g ≠ w.heap.size := by (have := (hgv.lt g rfl).1; have := HS0.out; omega)
       simp at n2 n3
       have HGV := Lib.hid hgv; have HBC := Lib.hid hBc; clear hgv hBc))
  have hK := KSet.mk_ (v := v) (hops := hops) (settles := settles) (rk := rk) HN.out HW0.out HM1.out HM2.out HB1.out HGV.out HBC.out
  obtain ⟨W, hWW⟩ : ∃ W, W = ((wc.setCell ⟨w.heap.size, 1, none⟩ (.slice (some ⟨g, 0, none⟩) net.out.length gcap)).setCell ⟨g, v, none⟩ (.bool true)) := ⟨_, rfl⟩
  rw [← hWW] at hK ⊢
  have HK := Lib.hid hK
  clear hK hWW k1 k2 n2 n2f n3 n1 n1f hgw
  have hR0 : KRel W.heap.size W (Pl.keptTo net v hops settles (List.range 0)) (.slice none 0 0) (.slice none 0 0) W :=
    ⟨World.ownsRow_nil _ _ _ _, World.ownsRow_nil _ _ _ _, Below.refl _ _⟩
  have HR0 := Lib.hid hR0
  clear hR0
  go_loopw [6, 7, 35] (fun s6 s7 i wr => ∃ k : Nat, k ≤ net.out.length ∧ i = .int .i64 k ∧ Hid (KRel W.heap.size W (Pl.keptTo net v hops settles (List.range k)) s6 s7 wr)) (fun _ _ i _ => net.out.length - (intOf i).toNat)
  case atStart => exact ⟨0, Nat.zero_le _, rfl, HR0⟩
  case round =>
    obtain ⟨k, hk, rfl, HR⟩ := hrel
    by_cases hlt : k < net.out.length
    · have hB := HR.out.b
      have HMT := Lib.hid (HK.out.mto.below (hB.mono (Nat.le_refl _)))
      have c0 := (HK.out.box.below hB HK.out.box.lt).cell 0
      simp at c0
      have HBx := Lib.hid hB
      clear hB
      have hi0 : (0 : Int) ≤ (k : Int) := by omega
      have hi1 : (k : Int) < (net.out.length : Int) := by omega
      cases ht : (Pl.lightest net v).1 k with
      | none =>
        have e1 : ((Pl.lightest net v).1 k).getD 0 = 0 := by rw [ht]; rfl
        have e2 : ((Pl.lightest net v).1 k).isSome = false := by rw [ht]; rfl
        have HT := Lib.hid ht
        clear ht
        go_wp2_with (at_lookup; refine wpList_lookU rfl _ _ rfl mt net.out.length _ HMT.out k (by omega) rfl rfl ?_; simp only [e1, e2])
        go_roundw
        case rel =>
          refine ⟨k + 1, by omega, by go_num, ?_⟩
          rw [List.range_succ, Pl.keptTo_snoc, HT.out, Pl.keptRow, List.append_nil]
          exact HR
        case measure => simp [intOf]; omega
      | some a =>
        have e1 : ((Pl.lightest net v).1 k).getD 0 = a := by rw [ht]; rfl
        have e2 : ((Pl.lightest net v).1 k).isSome = true := by rw [ht]; rfl
        have ha : a ≤ 1125899906842624 := (HSM.out.1 k a ht).2
        have HT := Lib.hid ht
        clear ht
        have HI0 : Hid (KRel W.heap.size W (Pl.keptTo net v hops settles (List.range k) ++ Pl.keptRow (net.without v) hops settles (Pl.lightest net v).2 k (some a) (List.range 0)) u6 u7 wr) := by
          show Hid (KRel W.heap.size W (_ ++ []) u6 u7 wr)
          rw [List.append_nil]; exact HR
        go_wp2_with (at_lookup; refine wpList_lookU rfl _ _ rfl mt net.out.length _ HMT.out k (by omega) rfl rfl ?_; simp only [e1, e2])
        go_loopw [6, 7, 49] (fun s6 s7 i wr => ∃ j : Nat, j ≤ net.out.length ∧ i = .int .i64 j ∧ Hid (KRel W.heap.size W (Pl.keptTo net v hops settles (List.range k) ++ Pl.keptRow (net.without v) hops settles (Pl.lightest net v).2 k (some a) (List.range j)) s6 s7 wr)) (fun _ _ i _ => net.out.length - (intOf i).toNat)
        case atStart => exact ⟨0, Nat.zero_le _, rfl, HI0⟩
        case round =>
          obtain ⟨j, hj, rfl, HI⟩ := hrel
          by_cases hjl : j < net.out.length
          · have hB := HI.out.b
            have HMF := Lib.hid (HK.out.mfr.below (hB.mono (Nat.le_refl _)))
            have hj0 : (0 : Int) ≤ (j : Int) := by omega
            have hj1 : (j : Int) < (net.out.length : Int) := by omega
            cases hf : (Pl.lightest net v).2 j with
            | none =>
              have e3 : ((Pl.lightest net v).2 j).getD 0 = 0 := by rw [hf]; rfl
              have e4 : ((Pl.lightest net v).2 j).isSome = false := by rw [hf]; rfl
              have HF := Lib.hid hf
              clear hf hB
              go_wp2_with (at_lookup; refine wpList_lookU rfl _ _ rfl mf net.out.length _ HMF.out j (by omega) rfl rfl ?_; simp only [e3, e4])
              go_roundw
              case rel =>
                refine ⟨j + 1, by omega, by go_num, ?_⟩
                rw [List.range_succ, Pl.keptRow_snoc, HF.out, Pl.keptOne, List.append_nil]
                exact HI
              case measure => simp [intOf]; omega
            | some b =>
              have e3 : ((Pl.lightest net v).2 j).getD 0 = b := by rw [hf]; rfl
              have e4 : ((Pl.lightest net v).2 j).isSome = true := by rw [hf]; rfl
              have hb : b ≤ 1125899906842624 := (HSM.out.2 j b hf).2
              have HF := Lib.hid hf
              clear hf
              by_cases hkj : k = j
              · have hbt : ((k : Int) == (j : Int)) = true := by rw [beq_iff_eq, hkj]
                have HKJ := Lib.hid hkj
                clear hkj hB
                go_wp2_with (at_lookup; refine wpList_lookU rfl _ _ rfl mf net.out.length _ HMF.out j (by omega) rfl rfl ?_; simp only [e3, e4])
                go_roundw
                case rel =>
                  refine ⟨j + 1, by omega, by go_num, ?_⟩
                  rw [List.range_succ, Pl.keptRow_snoc, HF.out, Pl.keptOne, if_pos HKJ.out, List.append_nil]
                  exact HI
                case measure => simp [intOf]; omega
              · have hbt : ((k : Int) == (j : Int)) = false := by rw [beq_eq_false_iff_ne]; omega
                have HKJ := Lib.hid hkj
                obtain ⟨q, hq⟩ : ∃ q : Nat, q = a + b := ⟨_, rfl⟩
                have hqe : (a : Int) + (b : Int) = (q : Int) := by omega
                have hqs : q ≤ 2251799813685248 := by omega
                have HQ := Lib.hid hq
                have b0 := (HK.out.box.below hB HK.out.box.lt).cell 0
                have b1 := (HK.out.box.below hB HK.out.box.lt).cell 1
                have b2 := (HK.out.opt.below hB HK.out.opt.lt).cell 0
                have b3 := (HK.out.opt.below hB HK.out.opt.lt).cell 1
                simp at b0 b1 b2 b3
                have HNR : Hid (NetMem wr wr.heap.size oA (some ⟨g, 0, none⟩) rows (net.without v)) := Lib.hid ((HK.out.nm.below hB).more hB.size)
                have HSE := search_any oA (some ⟨g, 0, none⟩) oc gcap k j q hops settles rows (net.without v) wr HNR.out hlt hjl hqs HW.out hs
                clear hkj hq hB
                cases hr : Pl.search (net.without v) k j q hops settles with
                | some d =>
                  rw [hr] at HSE
                  have HSE2 : Hid (Calls Try.prog 124 #[.agg #[.slice oA net.out.length oc, .slice (some ⟨g, 0, none⟩) net.out.length gcap], .int .i64 k, .int .i64 j, .int .u64 q, .int .i64 hops, .int .i64 settles] wr (Fresh (.tuple #[.int .u64 d, .bool true]) wr)) := Lib.hid HSE
                  have HRR := Lib.hid hr
                  clear HSE hr
                  go_wp2_with (first
                    | (at_lookup; refine wpList_lookU rfl _ _ rfl mf net.out.length _ HMF.out j (by omega) rfl rfl ?_; simp only [e3, e4])
                    | (go_at_call 124; refine HSE2.out.mono ?_; rintro e w5 ⟨rfl, hB5⟩; have HB5 := Lib.hid hB5; clear hB5))
                  go_roundw
                  case rel =>
                    refine ⟨j + 1, by omega, by go_num, ?_⟩
                    rw [List.range_succ, Pl.keptRow_snoc, HF.out, Pl.keptOne, if_neg HKJ.out, ← HQ.out, HRR.out, List.append_nil]
                    exact Lib.hid (HI.out.below HB5.out HI.out.b.size)
                  case measure => simp [intOf]; omega
                | none =>
                  rw [hr] at HSE
                  have HSE2 : Hid (Calls Try.prog 124 #[.agg #[.slice oA net.out.length oc, .slice (some ⟨g, 0, none⟩) net.out.length gcap], .int .i64 k, .int .i64 j, .int .u64 q, .int .i64 hops, .int .i64 settles] wr (Fresh (.tuple #[.int .u64 0, .bool false]) wr)) := Lib.hid HSE
                  have HRR := Lib.hid hr
                  clear HSE hr
                  obtain ⟨T, hT⟩ : ∃ T, T = Pl.keptTo net v hops settles (List.range k) ++ Pl.keptRow (net.without v) hops settles (Pl.lightest net v).2 k (some a) (List.range j) := ⟨_, rfl⟩
                  have hTl : T.length ≤ 16781312 := by
                    have h1 := Pl.keptTo_len net v hops settles (List.range k)
                    have h2 := Pl.keptRow_len (net.without v) hops settles (Pl.lightest net v).2 k (some a) (List.range j)
                    rw [List.length_range] at h1 h2
                    have h3 : k * net.out.length ≤ 4096 * 4096 := Nat.mul_le_mul (by omega) hsz
                    rw [hT, List.length_append]
                    omega
                  have HI2 := HI.out
                  rw [← hT] at HI2
                  have HI3 := Lib.hid HI2
                  have HTT := Lib.hid hT
                  clear HI2 hT
                  go_wp2_with (first
                    | (at_lookup; refine wpList_lookU rfl _ _ rfl mf net.out.length _ HMF.out j (by omega) rfl rfl ?_; simp only [e3, e4])
                    | (go_at_call 124; refine HSE2.out.mono ?_; rintro e w5 ⟨rfl, hB5⟩; have HR5 := Lib.hid (HI3.out.below hB5 HI3.out.b.size); have hs5 : W.heap.size ≤ w5.heap.size := Nat.le_trans HI3.out.b.size hB5.size; clear hB5)
                    | (at_builtin; refine wpList_append_lies _ rfl (.tmp 81) (.tmp 87) _ rfl W.heap.size 55 i0 _ 2 16 Try.underlying46 hi hz0 hz1 hz2 rfl (by omega) u6 T.length (T.flatMap cellsA) (by rfl) (HR5.out.l.alloc _) ⟨w5.heap.size, 0, none⟩ 1 1 [.int .i64 j, .int .u64 q] (by rfl) (by rfl) (World.news_of_block (cs := #[.int .i64 j, .int .u64 q]) (t := 55) (fr := (0, 0)) (heap_alloc_new w5 _)) (by simp [Value.oneCell']) (by omega) (by unfold maxLen; omega) (by omega) (by simp; omega) _ rfl ?_; intro g6 cap6 w6 hown6 hgrow6 hat6 hlt6; have hs6 : W.heap.size ≤ w6.heap.size := Nat.le_trans (Nat.le_trans hs5 (by simp)) hgrow6.size)
                    | (at_builtin; refine wpList_append_lies _ rfl (.tmp 89) (.tmp 91) _ rfl W.heap.size 3 j0 _ 1 8 Try.underlying25 hjI hy0 hy1 hy2 rfl (by omega) u7 T.length (T.map cellsU) (by rfl) ((HR5.out.o6 hgrow6).alloc _) ⟨w6.heap.size, 0, none⟩ 1 1 [.int .i64 k] (by rfl) (by rfl) (World.news_of_block (cs := #[.int .i64 k]) (t := 3) (fr := (0, 0)) (heap_alloc_new w6 _)) (by simp [Value.oneCell']) (by omega) (by unfold maxLen; omega) (by omega) (by simp; omega) _ rfl ?_; intro g7 cap7 w7 hown7 hgrow7 hat7 hlt7))
                  go_roundw
                  case rel =>
                    refine ⟨j + 1, by omega, by go_num, ?_⟩
                    rw [List.range_succ, Pl.keptRow_snoc, HF.out, Pl.keptOne, if_neg HKJ.out, ← HQ.out, HRR.out, ← List.append_assoc, ← HTT.out]
                    exact Lib.hid (HR5.out.push (t := (k, j, q)) hs5 hown6 hgrow6 hown7 hgrow7)
                  case measure => simp [intOf]; omega
          · have hje : j = net.out.length := by omega
            have HJE := Lib.hid hje
            clear hje
            go_wp2
            go_roundw
            case rel =>
              refine ⟨k + 1, by omega, by go_num, ?_⟩
              rw [List.range_succ, Pl.keptTo_snoc, HT.out]
              have h := HI.out
              rw [HJE.out] at h
              exact Lib.hid h
            case measure => simp [intOf]; omega
    · have hkn : k = net.out.length := by omega
      have HKN := Lib.hid hkn
      clear hkn
      go_wp2
      go_ret2
      have h := HR.out
      rw [HKN.out] at h
      have hb := HK.out.blw
      exact ⟨_, _, rfl, own_base h.l hb.size, own_base h.o hb.size, hb.trans (h.b.mono hb.size)⟩
end Go.Proofs.Ytbaclbiedepjfaa
