/- contract's core: core.contract's walk. -/
import Derived.Test.YtbaclbiedepjfaaCtM
import Derived.Maps.RangeWalk
import Derived.BigRegion
set_option autoImplicit false
namespace Go.Proofs.Ytbaclbiedepjfaa
open Go Go.RowKit

set_option maxRecDepth 100000 in
set_option maxHeartbeats 16000000 in
theorem contract_any (base C v : Nat) (r : CRef) (n hops settles : Nat) (rk : Value) (dm : Nat) (c : Pl.Core) (w : World) (h : CM base w C r n hops settles rk dm c.out c.gone c.s c.at_ c.s.length)
    (hok : Pl.CoreOk n c) (hv : v < n) (hW : ∀ v a, a ∈ c.out.getD v [] → a.2 ≤ 1125899906842624) (hs : settles ≤ 1000) (hsl : c.s.length + n * n ≤ 1000000) (hdm : dm ≤ 60000) :
    Calls Try.prog 68 #[.pointer (some ⟨C, 0, none⟩), .int .i64 v] w (CoDone base C r n hops settles rk (dm + 1) (c.contract hops settles v) w) := by
  have hn1 := h.n1
  have hto : ∀ v a, a ∈ c.out.getD v [] → a.1 < n := fun p a ha => by
    obtain ⟨i, y, h1, _⟩ := hok.at2 p a.1 a.2 ha
    obtain ⟨_, _, _, _, _, h5, _⟩ := hok.at1 p a.1 i h1
    exact h5
  have hnet := h.net hto (fun p => Nat.le_trans (hok.row_lt p) (by omega))
  have hln : c.net.out.length = n := h.on
  have HKA : Hid (∀ W, Below w.heap.size w W → Calls Try.prog 78 #[.agg #[.slice (some ⟨r.ob, 0, none⟩) n n, .slice (some ⟨r.gb, 0, none⟩) n n], .int .i64 v, .agg #[.int .i64 hops, .int .i64 settles, rk]] W (KDone (Pl.kept c.net v hops settles) W)) := Lib.hid (by
    intro W hB
    have := kept_any (some ⟨r.ob, 0, none⟩) (some ⟨r.gb, 0, none⟩) n n v hops settles rk r.rows c.net W ((hnet.below hB).more hB.size) (by rw [hln]; exact hv) (fun p a ha => hW p a ha) hs
    rw [hln] at this
    exact this)
  have HLA : Hid (∀ W, Below w.heap.size w W → Calls Try.prog 118 #[.agg #[.slice (some ⟨r.ob, 0, none⟩) n n, .slice (some ⟨r.gb, 0, none⟩) n n], .int .i64 v] W (LDone n (Pl.lightest c.net v) W)) := Lib.hid (by
    intro W hB
    have := lightest_any (some ⟨r.ob, 0, none⟩) (some ⟨r.gb, 0, none⟩) n n v r.rows c.net W ((hnet.below hB).more hB.size) (by rw [hln]; exact hv) (fun p a ha => hW p a ha)
    rw [hln] at this
    exact this)
  have c0 : w.cell? ⟨C, 0, none⟩ = some (.slice (some ⟨r.ob, 0, none⟩) n n) := by rw [h.blk.cell]; rfl
  have c1 : w.cell? ⟨C, 1, none⟩ = some (.slice (some ⟨r.gb, 0, none⟩) n n) := by rw [h.blk.cell]; rfl
  have c4 : w.cell? ⟨C, 4, none⟩ = some (.int .i64 hops) := by rw [h.blk.cell]; rfl
  have c5 : w.cell? ⟨C, 5, none⟩ = some (.int .i64 settles) := by rw [h.blk.cell]; rfl
  have c6 : w.cell? ⟨C, 6, none⟩ = some rk := by rw [h.blk.cell]; rfl
  have HH := Lib.hid h
  have HOK := Lib.hid hok
  have HWT := Lib.hid hW
  clear h hok hW hnet hto hln
  obtain ⟨T, hT⟩ : ∃ T, T = Pl.kept c.net v hops settles := ⟨_, rfl⟩
  rw [← hT] at HKA
  have HT := Lib.hid hT
  clear hT
  go_enter Try.func68, Try.ntmps68
  go_upto_region 0 with fail
  go_cut [4, 5] (fun s4 s5 wx => Hid (wx.ownsRow w.heap.size 55 2 s4 T.length (T.flatMap cellsA) ∧ wx.ownsRow w.heap.size 3 1 s5 T.length (T.map cellsU) ∧ Below w.heap.size w wx))
  case first =>
    go_region_with (go_at_call 78; refine (HKA.out _ (by repeat (first | exact Below.refl _ _ | refine Below.drew ?_))).mono ?_; rintro e w1 ⟨lv, ov, rfl, hl1, ho1, hb1⟩; have HL1 := Lib.hid hl1; have HO1 := Lib.hid ho1; have HB1 := Lib.hid hb1; clear hl1 ho1 hb1)
    all_goals
      go_wp2_with fail
      go_meet
      case rel => exact Lib.hid ⟨HL1.out, HO1.out, ((Below.refl w.heap.size w).drew).trans HB1.out⟩
  case rest =>
    obtain ⟨hl1, ho1, hb1⟩ := hcut.out
    obtain ⟨w1, hw1⟩ : ∃ w1, w1 = wc := ⟨_, rfl⟩
    rw [← hw1] at hl1 ho1 hb1 ⊢
    have hcm1 := HH.out.below hb1
    have d0 : w1.cell? ⟨C, 0, none⟩ = some (.slice (some ⟨r.ob, 0, none⟩) n n) := by rw [hcm1.blk.cell]; rfl
    have d1 : w1.cell? ⟨C, 1, none⟩ = some (.slice (some ⟨r.gb, 0, none⟩) n n) := by rw [hcm1.blk.cell]; rfl
    have HL1 := Lib.hid hl1
    have HO1 := Lib.hid ho1
    have HB1 := Lib.hid hb1
    clear hcut hw1 hl1 ho1 hb1 hcm1 c0 c1 c4 c5 c6
    obtain ⟨lA, lc, hlv⟩ : ∃ A cap, u4 = .slice A T.length cap := by
      rcases HL1.out.2 with ⟨e, e2⟩ | ⟨g, cap, _, e, _⟩
      · exact ⟨none, 0, by rw [e, e2]⟩
      · exact ⟨_, _, e⟩
    subst hlv
    obtain ⟨oA, oc, hov⟩ : ∃ A cap, u5 = .slice A T.length cap := by
      rcases HO1.out.2 with ⟨e, e2⟩ | ⟨g, cap, _, e, _⟩
      · exact ⟨none, 0, by rw [e, e2]⟩
      · exact ⟨_, _, e⟩
    subst hov
    have hTl : T.length ≤ n * n := by
      have := Pl.keptTo_len c.net v hops settles (List.range c.net.out.length)
      rw [List.length_range] at this
      have e : c.net.out.length = n := HH.out.on
      rw [e] at this
      rw [HT.out]
      unfold Pl.kept
      rw [e]
      exact this
    go_wp2_with (go_at_call 118; refine (HLA.out w1 HB1.out).mono ?_; rintro e w2 ⟨mt, mf, rfl, hm1, hm2, hb2, hmt, hmf, hmne⟩; have HM1 := Lib.hid hm1; have HM2 := Lib.hid hm2; have HB2 := Lib.hid hb2; clear hm1 hm2 hb2)
    obtain ⟨W2, hW2⟩ : ∃ W, W = w2 := ⟨_, rfl⟩
    rw [← hW2] at HM1 HM2 HB2 ⊢
    clear hW2
    have hb12 : Below w.heap.size w W2 := HB1.out.trans (HB2.out.mono HB1.out.size)
    have HC0 : Hid (CtR base C r n hops settles rk dm W2 (Pl.Core.ways v c (T.take 0)) W2) := Lib.hid (CtR.start (HH.out.below hb12))
    have HTn : Hid (∀ t ∈ T, t.1 < n ∧ t.2.1 < n) := Lib.hid (by
      rw [HT.out]
      intro t ht
      obtain ⟨_, _, _, _, K⟩ := Pl.kept_ok HOK.out ht
      exact ⟨K.u, K.w⟩)
    have hb12s := hb12.size
    have HB12 := Lib.hid hb12
    have hflt : Hid (∀ b, cfoot C r b → b < w.heap.size) := Lib.hid (fun b hb => (HH.out.foot_lt hb).1)
    clear hb12 d0 d1
    go_loopw [8, 9, 10, 38] (fun _ _ _ i wr => ∃ k : Nat, k ≤ T.length ∧ i = .int .i64 k ∧ Hid (CtR base C r n hops settles rk dm W2 (Pl.Core.ways v c (T.take k)) wr)) (fun _ _ _ i _ => T.length - (intOf i).toNat)
    case atStart => exact ⟨0, Nat.zero_le _, rfl, HC0⟩
    case round =>
      obtain ⟨k, hk, rfl, HR⟩ := hrel
      by_cases hlt : k < T.length
      ·
        --DEV{
        obtain ⟨t, ht⟩ : ∃ t, T[k]? = some t := ⟨_, List.getElem?_eq_getElem hlt⟩
        obtain ⟨r1, hcm, hkp, hft⟩ := HR.out
        obtain ⟨lg, og, e1, e2, hlg, hog, l0, l1, o0⟩ := ctl_cells HL1.out HO1.out HB2.out hkp hflt.out ht
        subst e1; subst e2
        obtain ⟨htu, htw⟩ := HTn.out t (List.mem_of_getElem? ht)
        have hok := Pl.ways_ok (v := v) (T.take k) c HOK.out (fun x hx => HTn.out x (List.mem_of_mem_take hx))
        have hln : (Pl.Core.ways v c (T.take k)).s.length ≤ 1000000 := by
          have := hok.2
          rw [List.length_take] at this
          omega
        have hi0 : (0 : Int) ≤ (k : Int) := by omega
        have hi1 : (k : Int) < (T.length : Int) := by omega
        obtain ⟨ck, hck⟩ : ∃ ck, ck = Pl.Core.ways v c (T.take k) := ⟨_, rfl⟩
        have hsn : Pl.Core.ways v c (T.take (k + 1)) = ck.way v t := by rw [Pl.take_snoc ht, Pl.Core.ways_snoc, hck]
        rw [← hck] at hcm hok hln
        obtain ⟨t1, t2, t3⟩ := t
        simp only at l0 l1 o0 htu htw
        have HSN := Lib.hid hsn
        have HOKK := Lib.hid hok.1
        obtain ⟨p, hp⟩ : ∃ p, p = (ck.at_ t1 v).getD 0 := ⟨_, rfl⟩
        obtain ⟨q, hq⟩ : ∃ q, q = (ck.at_ v t2).getD 0 := ⟨_, rfl⟩
        have HP := Lib.hid hp
        have HQ := Lib.hid hq
        obtain ⟨W3, hW3⟩ : ∃ W, W = wr.alloc (.cells #[.int .i64 t2, .int .u64 t3] 55) := ⟨_, rfl⟩
        have hS : Hid (∀ w', Below W3.heap.size W3 w' → w'.cell? ⟨og, k, none⟩ = some (.int .i64 t1) ∧ w'.cell? ⟨wr.heap.size, 0, none⟩ = some (.int .i64 t2) ∧ w'.cell? ⟨wr.heap.size, 1, none⟩ = some (.int .u64 t3) ∧ w'.cell? ⟨C, 2, none⟩ = some (.map (some r1.mb)) ∧
            (Instr.lookup 122 (.map (some r1.mb)) (.agg #[.int .i64 t1, .int .i64 v]) false).run Try.prog w' = .ok (.int .i64 p) w' ∧ (Instr.lookup 122 (.map (some r1.mb)) (.agg #[.int .i64 v, .int .i64 t2]) false).run Try.prog w' = .ok (.int .i64 q) w') := Lib.hid (by
          intro w' hb
          have hb3 : Below wr.heap.size wr W3 := by rw [hW3]; exact (Below.refl _ _).alloc (Nat.le_refl _) _
          have hbb : Below wr.heap.size wr w' := hb3.trans (hb.mono hb3.size)
          have hx : Blk W3 wr.heap.size 55 #[.int .i64 t2, .int .u64 t3] := by rw [hW3]; exact Blk.new wr _ _
          have hx' := hx.below hb hx.lt
          have hcm' := hcm.below hbb
          refine ⟨(hbb.cell (p := ⟨og, k, none⟩) hog).trans o0, by rw [hx'.cell]; rfl, by rw [hx'.cell]; rfl, by rw [hcm'.blk.cell]; rfl, ?_, ?_⟩
          · rw [hp]; exact (hcm'.mp.run_look t1 v htu hv (by omega)).1
          · rw [hq]; exact (hcm'.mp.run_look v t2 hv htw (by omega)).1)
        obtain ⟨s0, s1, s2, s3, s4, s5⟩ := hS.out W3 (Below.refl _ _)
        have HCM := Lib.hid hcm
        have HKP := Lib.hid hkp
        have HFT := Lib.hid hft
        have HW3 := Lib.hid hW3
        clear hcm hkp hft hok hp hq hck hsn ht hW3 HR
        go_upto_region 5 with fail
        rw [← HW3.out]
        go_cut [10] (fun s10 wx => Hid (∃ X, s10 = .pointer (some ⟨X, 0, none⟩) ∧ Blk wx X 69 #[.int .i64 t1, .int .i64 t2, .int .u64 t3, .int .i64 (-1), .int .i64 p, .int .i64 q] ∧ Below W3.heap.size W3 wx))
        case first =>
          go_region_held3 (fun w' => w'.cell? ⟨og, k, none⟩ = some (.int .i64 t1) ∧ w'.cell? ⟨wr.heap.size, 0, none⟩ = some (.int .i64 t2) ∧ w'.cell? ⟨wr.heap.size, 1, none⟩ = some (.int .u64 t3) ∧ w'.cell? ⟨C, 2, none⟩ = some (.map (some r1.mb)) ∧ (Instr.lookup 122 (.map (some r1.mb)) (.agg #[.int .i64 t1, .int .i64 v]) false).run Try.prog w' = .ok (.int .i64 p) w' ∧ (Instr.lookup 122 (.map (some r1.mb)) (.agg #[.int .i64 v, .int .i64 t2]) false).run Try.prog w' = .ok (.int .i64 q) w') (first | (refine ⟨?_, ?_, ?_, ?_, ?_, ?_⟩ <;> assumption) | (refine hS.out _ ?_; repeat (first | exact Below.refl _ _ | refine Below.alloc ?_ (by first | (simp; done) | (simp; omega) | omega) _ | refine Below.drew ?_)) | go_keep) (fail)
          all_goals
            go_wp2_with fail
            go_meet
            case rel =>
              refine Lib.hid ⟨_, rfl, ?_, ?_⟩
              · repeat (first | exact blk_at (by first | (simp; done) | (simp; omega) | omega) | refine Blk.alloc ?_ _ | refine Blk.drew ?_)
              · repeat (first | exact Below.refl _ _ | refine Below.alloc ?_ (by first | (simp; done) | (simp; omega) | omega) _ | refine Below.drew ?_)
        case rest =>
          obtain ⟨X, hX, hbx, hbw⟩ := hcut.out
          subst hX
          have x0 := hbx.cell 0
          have x1 := hbx.cell 1
          have x2 := hbx.cell 2
          have x3 := hbx.cell 3
          have x4 := hbx.cell 4
          have x5 := hbx.cell 5
          simp at x0 x1 x2 x3 x4 x5
          obtain ⟨wy, hwy⟩ : ∃ wy, wy = wc := ⟨_, rfl⟩
          rw [← hwy] at x0 x1 x2 x3 x4 x5 hbw ⊢
          have hb3 : Below wr.heap.size wr W3 := by rw [HW3.out]; exact (Below.refl _ _).alloc (Nat.le_refl _) _
          have hbb : Below wr.heap.size wr wy := hb3.trans (hbw.mono hb3.size)
          have hcmy := HCM.out.below hbb
          have HAD := Lib.hid (add_any base C r1 n hops settles rk dm ck ⟨t1, t2, t3, -1, (p : Int), (q : Int)⟩ wy hcmy htu htw (fun i hi => by obtain ⟨y, hy, _⟩ := HOKK.out.at1 _ _ i hi; exact ⟨y, hy⟩) hln (fun z => Nat.le_trans (HOKK.out.row_lt z) (by omega)))
          have HBB := Lib.hid hbb
          clear hcut hbx hbw hcmy hwy hb3 hbb s0 s1 s2 s3 s4 s5 l0 l1 o0
          go_wp2_with (go_at_call 112; refine (Hid.out HAD).mono ?_; rintro e w5 hd5; have HD5 := Lib.hid hd5; have e5 := hd5.1; subst e5; clear hd5)
          go_roundw
          case rel =>
            refine ⟨k + 1, by omega, by go_num, Lib.hid ?_⟩
            rw [HSN.out]
            unfold Pl.Core.way
            rw [← HP.out, ← HQ.out]
            exact coDone_ctR HKP.out HFT.out HBB.out HD5.out
          case measure => simp [intOf]; omega
        --DEV}
      · have hke : k = T.length := by omega
        have HKE := Lib.hid hke
        clear hke
        obtain ⟨r1, hcm, hkp, hft⟩ := HR.out
        rw [HKE.out, List.take_length] at hcm
        have g0 : wr.cell? ⟨C, 1, none⟩ = some (.slice (some ⟨r1.gb, 0, none⟩) n n) := by rw [hcm.blk.cell]; rfl
        have g1 : wr.cell? ⟨r1.gb, v, none⟩ = some (.bool ((Pl.Core.ways v c T).gone.getD v false)) := by
          rw [hcm.go.cell]
          have : v < (Pl.Core.ways v c T).gone.length := by rw [hcm.gn]; exact hv
          simp [List.getD, this]
        have g2 := hcm.go.frozen v
        have hv0 : (0 : Int) ≤ (v : Int) := by omega
        have hv1 : (v : Int) < (n : Int) := by omega
        have HE0 : Hid (CtE base C r n hops settles rk dm v W2 ((Pl.Core.ways v c T).lose v) (wr.setCell ⟨r1.gb, v, none⟩ (.bool true))) := Lib.hid (CtR.toE ⟨r1, hcm.gone_ v true, hkp.trans ((Keep.refl (fun b => b = r1.gb) wr).setCell (p := ⟨r1.gb, v, none⟩) (Or.inl rfl) (.bool true)) (fun b hb => by subst hb; exact hft _ (Or.inr (Or.inr (Or.inl rfl)))), hft⟩)
        have idx0 : ∀ w, (Instr.index 190 (.agg #[.map (some mt), .map (some mf)]) (.int .i64 0)).run Try.prog w = .ok (.map (some mt)) w := fun _ => by kernel_rfl
        have idx1 : ∀ w, (Instr.index 190 (.agg #[.map (some mt), .map (some mf)]) (.int .i64 1)).run Try.prog w = .ok (.map (some mf)) w := fun _ => by kernel_rfl
        have HCE : Hid (c.contract hops settles v = (Pl.Core.ways v c T).lose v) := Lib.hid (by unfold Pl.Core.contract; rw [← HT.out])
        clear hcm hkp hft HR
        go_wp2
        go_loopw [12, 13, 86] (fun _ _ i wr => ∃ k : Nat, k ≤ 2 ∧ i = .int .i64 k ∧ Hid (CtE base C r n hops settles rk dm v W2 ((Pl.Core.ways v c T).lose v) wr)) (fun _ _ i _ => 2 - (intOf i).toNat)
        case atStart => exact ⟨0, Nat.zero_le _, rfl, HE0⟩
        case round =>
          obtain ⟨k, hk, rfl, HE⟩ := hrel
          by_cases hlt : k < 2
          · have hmap : Hid (∃ mb f, (mb = mt ∨ mb = mf) ∧ (∀ u q, f u = some q → u ≠ v) ∧ IsMapU W2 mb n f ∧ (∀ w, (Instr.index 190 (.agg #[.map (some mt), .map (some mf)]) (.int .i64 k)).run Try.prog w = .ok (.map (some mb)) w)) := by
              have hls := Pl.light_spec c.net v
              have m1 := HM1.out
              have m2 := HM2.out
              rcases (by omega : k = 0 ∨ k = 1) with rfl | rfl
              · exact Lib.hid ⟨mt, _, Or.inl rfl, fun u q h => (hls.1.1 u q h).1, m1, idx0⟩
              · exact Lib.hid ⟨mf, _, Or.inr rfl, fun u q h => (hls.2.1 u q h).1, m2, idx1⟩
            obtain ⟨mb, f, hmb, hfv, hmu, hix⟩ := hmap.out
            clear hmap idx0 idx1
            obtain ⟨wo, rfl⟩ : ∃ wo : World, wo = wr := ⟨_, rfl⟩
            obtain ⟨r3, D3, hcm, hd1, hd2, hd3, hd4, hkp, hft⟩ := HE.out
            have hmW : mb < W2.heap.size := by obtain ⟨D, h1, _⟩ := hmu; exact h1.lt
            have hmw : w.heap.size ≤ mb := by
              have := HB1.out.size
              rcases hmb with e | e <;> omega
            have hnf : ¬ cfoot C r mb := fun e => by have := hflt.out mb e; omega
            obtain ⟨D, hown, hview⟩ := hmu.keep hkp hnf
            have HV := Lib.hid hview
            have HFV := Lib.hid hfv
            have hk2 : (k : Int) < 2 := by omega
            have hk0 : (0 : Int) ≤ (k : Int) := by omega
            have hmr : mb ≠ r3.db := fun e => by
              rcases hft r3.db (Or.inr (Or.inr (Or.inr (Or.inr (Or.inl rfl))))) with h1 | h1
              · exact hnf (e ▸ h1)
              · omega
            have hdlt := hd3.lt
            have HCM3 := Lib.hid hcm
            have HD1 := Lib.hid hd1
            have HD2 := Lib.hid hd2
            have HD3 := Lib.hid hd3
            have HD4 := Lib.hid hd4
            have HKP := Lib.hid hkp
            have HFT := Lib.hid hft
            have HMR := Lib.hid hmr
            clear hcm hd1 hd2 hd3 hd4 hkp hft hview hfv hmu
            have HOWN := Lib.hid hown
            clear hown hmr
            go_wp2_with (at_range; refine wpList_range_own _ rfl _ 186 rfl 3 53 int_law Try.underlying186 _ mb _ D rfl HOWN.out ?_; intro w0 hrg0 hg0 hs0)
            go_frame
            have hb0 : Below wo.heap.size wo w0 := ⟨hg0.os, hg0.tape, hg0.output, hg0.size, fun b hb => hg0.block b hb (by simp)⟩
            have HF0 : Hid (CtF base C r r3 n hops settles rk dm v W2 ((Pl.Core.ways v c T).lose v) D3 w0) := Lib.hid ⟨HCM3.out.below hb0, HD1.out, HD2.out, HD3.out.below hb0 hdlt, HD4.out, HKP.out.low hb0⟩
            have HRG0 : Hid (w0.ranges Try.prog 3 (plainElem Try.prog 53) mb wo.heap.size (Maps.size D) D (Maps.has D) (Maps.size D)) := Lib.hid hrg0
            clear hrg0 hg0 hb0 hs0
            go_loopw [13] (fun _ wr => ∃ (left : Lit → Bool) (cnt : Nat) (D' : List Int), Hid (wr.ranges Try.prog 3 (plainElem Try.prog 53) mb wo.heap.size (Maps.size D) D left cnt) ∧ Hid (CtF base C r r3 n hops settles rk dm v W2 ((Pl.Core.ways v c T).lose v) D' wr)) (fun _ wr => wr.rangeLeft mb wo.heap.size)
            case atStart => exact ⟨_, _, _, HRG0, HF0⟩
            case round =>
              obtain ⟨left, cnt, D', HRG, HF⟩ := hrel
              go_wp2_with (at_next; refine wpList_next_ranges_ii _ rfl _ rfl 3 53 .i64 .u64 int_law Try.underlying3 Try.underlying53 mb wo.heap.size (Maps.size D) D left cnt rfl HRG.out ?_ ?_)
              · intro _ _
                go_wp2
                go_roundw
                case rel => exact ⟨k + 1, by omega, by go_num, Lib.hid ⟨r3, D', HF.out.1, HF.out.2.1, HF.out.2.2.1, HF.out.2.2.2.1, HF.out.2.2.2.2.1, HF.out.2.2.2.2.2, HFT.out⟩⟩
                case measure => simp [intOf]; omega
              · intro x cc w1 cnt1 hwx hwc hlx hat hrg1 hlt1 hg1 hs1 hen
                obtain ⟨u, qq, hxu, hfu, hun⟩ := view_key HV.out hat
                subst hxu
                have huv := HFV.out u qq hfu
                have hF1 : CtF base C r r3 n hops settles rk dm v W2 ((Pl.Core.ways v c T).lose v) D' w1 := HF.out.grown hg1 (fun e => by have := (HCM3.out.foot_lt e).1; omega) HKP.out.size
                obtain ⟨a7, au, fu⟩ := hF1.cells hun
                obtain ⟨_, av, _⟩ := hF1.cells hv
                have hdu : 0 ≤ D'.getD u 0 ∧ D'.getD u 0 ≤ (dm : Int) + 1 := by
                  have h1 : u < D'.length := by rw [hF1.2.1]; exact hun
                  have := hF1.2.2.1 D'[u] (List.getElem_mem h1)
                  simp only [List.getD, List.getElem?_eq_getElem h1, Option.getD_some]
                  omega
                have hdv : 0 ≤ D'.getD v 0 ∧ D'.getD v 0 ≤ (dm : Int) := by
                  have h1 : v < D'.length := by rw [hF1.2.1]; exact hv
                  have := hF1.2.2.1 D'[v] (List.getElem_mem h1)
                  refine ⟨?_, hF1.2.2.2.2.1⟩
                  simp only [List.getD, List.getElem?_eq_getElem h1, Option.getD_some]
                  omega
                obtain ⟨du, hdu'⟩ : ∃ du, du = D'.getD u 0 := ⟨_, rfl⟩
                obtain ⟨dv, hdv'⟩ : ∃ dv, dv = D'.getD v 0 := ⟨_, rfl⟩
                rw [← hdu'] at au hdu
                rw [← hdv'] at av hdv
                obtain ⟨du0, du1⟩ := hdu
                obtain ⟨dv0, dv1⟩ := hdv
                have HF1 := Lib.hid hF1
                have HRG1 := Lib.hid hrg1
                have HLT1 := Lib.hid hlt1
                have hu0 : (0 : Int) ≤ (u : Int) := by omega
                have hu1 : (u : Int) < (n : Int) := by omega
                have hv0' : (0 : Int) ≤ (v : Int) := by omega
                have hv1' : (v : Int) < (n : Int) := by omega
                clear hF1 hrg1 hlt1 hg1 hdu' hdv' hat hlx hs1 hwx hwc
                go_wp2
                go_still_tail 22, (by kernel_rfl)
                change wpList _ _ _ _ _ w1.drew
                go_wp2
                have hx : 0 ≤ (if du < dv + 1 then dv + 1 else du) ∧ (if du < dv + 1 then dv + 1 else du) ≤ ((dm + 1 : Nat) : Int) := by split <;> omega
                have HF2 := Lib.hid ((HF1.out.step (Ne.symm (fun e => huv e.symm)) (HFT.out r3.db (Or.inr (Or.inr (Or.inr (Or.inr (Or.inl rfl)))))) hx).drew)
                have HRG2 := Lib.hid (HRG1.out.kept (grown_set w1 ⟨r3.db, u, none⟩ (.int .i64 (if du < dv + 1 then dv + 1 else du))) (fun e => HMR.out (by injection e)) (fun e => by injection e with e; simp only at e; omega))
                clear hx
                go_roundw
                case rel => exact ⟨_, _, _, HRG2, HF2⟩
                case measure => rw [HRG2.out.left_eq, HRG.out.left_eq]; exact HLT1.out
          · have hke : k = 2 := by omega
            subst hke
            clear idx0 idx1
            go_wp2
            refine bodyPost_ret (results_none rfl _ _ _) rfl ?_
            obtain ⟨r3, D3, hcm, _, _, _, _, hkp, hft⟩ := HE.out
            rw [HCE.out]
            refine ⟨rfl, r3, hcm, (Keep.of_below HB12.out (Nat.le_refl _)).trans hkp (fun b hb => Or.inl hb), fun b hb => ?_⟩
            rcases hft b hb with h1 | h1
            · exact Or.inl h1
            · exact Or.inr (Nat.le_trans hb12s h1)
end Go.Proofs.Ytbaclbiedepjfaa
