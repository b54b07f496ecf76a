/- contract.Build where a rank is given: its walk. -/
import Derived.Test.YtbaclbiedepjfaaBuW
set_option autoImplicit false
namespace Go.Proofs.Ytbaclbiedepjfaa
open Go Go.RowKit

theorem invFrom_nonneg : ∀ (L : List Int) (out : List Int) (k : Nat), (∀ x ∈ out, 0 ≤ x) → ∀ x ∈ invFrom out k L, 0 ≤ x
  | [], _, _, h => h
  | y :: L, out, k, h => by
    rw [invFrom]
    refine invFrom_nonneg L _ _ (fun x hx => ?_)
    rcases List.mem_or_eq_of_mem_set hx with h1 | h1
    · exact h x h1
    · omega
theorem inverse_at {L : List Int} {k v : Nat} (h : (orderOf L)[k]? = some v) : (inverse L)[k]? = some (v : Int) := by
  unfold orderOf at h
  rw [List.getElem?_map] at h
  cases e : (inverse L)[k]? with
  | none => rw [e] at h; cases h
  | some x =>
    rw [e] at h
    simp only [Option.map_some, Option.some.injEq] at h
    have h0 : 0 ≤ x := by
      have hm := List.mem_of_getElem? e
      unfold inverse at hm
      split at hm
      · exact invFrom_nonneg L _ _ (fun y hy => by rw [(List.mem_replicate.1 hy).2]; omega) x hm
      · cases hm
    congr 1
    omega
theorem inverse_len {L : List Int} (h : rankOk L = true) : (inverse L).length = L.length := by
  unfold inverse
  rw [if_pos h, invFrom_len, List.length_replicate]

theorem own_slice {w : World} {base size n : Nat} {e : TypeId} {v : Value} {xs : List Value} (h : w.ownsRow base e size v n xs) : ∃ A cap, v = .slice A n cap := by
  rcases h.2 with ⟨e, e2⟩ | ⟨g, cap, _, e, _⟩
  · exact ⟨none, 0, by rw [e, e2]⟩
  · exact ⟨_, _, e⟩

def IvDone (n : Nat) (L : List Int) (w : World) (e : Ending) (w' : World) : Prop := ∃ A cap, e = .returned (.slice A n cap) ∧ w'.ownsRow w.heap.size 3 1 (.slice A n cap) n (L.map (Value.int .i64)) ∧ Below w.heap.size w w'

set_option maxRecDepth 100000 in
set_option maxHeartbeats 8000000 in
theorem build_rank (n : Nat) (eA rA : Option Addr) (ec rc hops settles : Nat) (E : List EdgeT) (R : List Int) (w : World) (hG : RawG w w.heap.size eA E) (hR : Reads w w.heap.size 1 rA n (R.map (Value.int .i64))) (hn : R.length = n) (hn12 : n ≤ 12)
    (hg : graphF n E = 0) (ho : optRight hops settles R = true) (hr0 : 0 < n) (hrc : rA = none → rc = 0) :
    Calls Try.prog 12 #[.agg #[.int .i64 n, .slice eA E.length ec], .agg #[.int .i64 hops, .int .i64 settles, .slice rA n rc]] w (BuDone n hops settles E R w) := by
  obtain ⟨W, hW⟩ : ∃ W, W = ((w.alloc (.cells #[.int .i64 n, .slice eA E.length ec] 24)).alloc (.cells #[.int .i64 hops, .int .i64 settles, .slice rA n rc] 27)).alloc (.cells #[.slice none 0 0, .slice none 0 0] 32) := ⟨_, rfl⟩
  obtain ⟨hb0, hb1, hb2, hB, hs0⟩ := bu_box w n eA rA E.length ec hops settles n rc hW
  have hopt : rankOk R = true ∧ settles ≤ 1000 := by
    unfold optRight within at ho
    simp only [Bool.and_eq_true, decide_eq_true_eq] at ho
    exact ⟨ho.2, by omega⟩
  have c0 := hb0.cell 0
  have c1 := hb0.cell 1
  simp at c0 c1
  have HW := Lib.hid hW
  have HB := Lib.hid hB
  have HGR := Lib.hid (gright_any n eA ec E W ((hG.below hB).more hB.size))
  have HOR : Hid (∀ w1, Below W.heap.size W w1 → Calls Try.prog 18 #[.agg #[.int .i64 hops, .int .i64 settles, .slice rA n rc]] w1 (Fresh (.bool true) w1)) := Lib.hid (fun w1 h1 => by
    have := oright_any rA rc hops settles R w1 (by rw [hn]; exact (((hR.below hB).below (h1.mono hB.size)).more (Nat.le_trans hB.size h1.size))) (by omega)
    rw [ho, hn] at this
    exact this)
  rw [hg] at HGR
  have HBG : Hid (∀ w1, Below W.heap.size W w1 → Calls Try.prog 64 #[.agg #[.int .i64 n, .slice eA E.length ec], .agg #[.int .i64 hops, .int .i64 settles, .slice rA n rc]] w1 (BgDone n hops settles (.slice rA n rc) (begunC n E) w1)) := Lib.hid (fun w1 h1 =>
    begun_any n hops settles eA rA ec n rc E w1 (by omega) (by omega) (((hG.below hB).below (h1.mono hB.size)).more (Nat.le_trans hB.size h1.size)) (fun x hx => by have := (graphF_ok hg).2.2.2 x hx; omega) (by have := (graphF_ok hg).2.2.1; omega))
  have HRD : Hid (∀ w1, Below w.heap.size w w1 → Reads w1 w1.heap.size 1 rA n (R.map (Value.int .i64))) := Lib.hid (fun w1 h1 => (hR.below h1).more h1.size)
  have FIN : Hid (∀ w1, Below W.heap.size W w1 → w1.cell? ⟨w.heap.size, 0, none⟩ = some (.int .i64 n) ∧ w1.cell? ⟨w.heap.size, 1, none⟩ = some (.slice eA E.length ec) ∧ w1.cell? ⟨w.heap.size + 1, 0, none⟩ = some (.int .i64 hops) ∧ w1.cell? ⟨w.heap.size + 1, 1, none⟩ = some (.int .i64 settles) ∧ w1.cell? ⟨w.heap.size + 1, 2, none⟩ = some (.slice rA n rc) ∧
      w1.cell? ⟨w.heap.size + 2, 0, none⟩ = some (.slice none 0 0) ∧ w1.cell? ⟨w.heap.size + 2, 1, none⟩ = some (.slice none 0 0) ∧ w1.frozen? ⟨w.heap.size + 2, 0, none⟩ = false ∧ w1.frozen? ⟨w.heap.size + 2, 1, none⟩ = false) := Lib.hid (fun w1 h1 => by
    have a0 := hb0.below h1 hb0.lt
    have a1 := hb1.below h1 hb1.lt
    have a2 := hb2.below h1 hb2.lt
    exact ⟨by rw [a0.cell]; rfl, by rw [a0.cell]; rfl, by rw [a1.cell]; rfl, by rw [a1.cell]; rfl, by rw [a1.cell]; rfl, by rw [a2.cell]; rfl, by rw [a2.cell]; rfl, a2.frozen 0, a2.frozen 1⟩)
  have HIV : Hid (∀ w1, Below w.heap.size w w1 → Calls Try.prog 65 #[.slice rA n rc] w1 (IvDone n (inverse R) w1)) := Lib.hid (fun w1 h1 => by
    have := rinv_any rA rc R w1 (by rw [hn]; exact (hR.below h1).more h1.size) (by omega)
    rw [hn] at this
    refine this.mono ?_
    rintro e w' ⟨v, rfl, k1, k2⟩
    rw [inverse_len hopt.1, hn] at k1
    obtain ⟨A, cap, rfl⟩ := own_slice k1
    exact ⟨A, cap, rfl, k1, k2⟩)
  have HBX := Lib.hid hb2
  have HG := Lib.hid hg
  have HN := Lib.hid hn
  have HRK := Lib.hid hopt.1
  have hs1 := hopt.2
  have HONE : Hid (∀ u ∈ R.map (Value.int .i64), u.oneCell' = true) := Lib.hid (by
    intro u hu
    obtain ⟨b, _, rfl⟩ := List.mem_map.1 hu
    rfl)
  have HRC := Lib.hid hrc
  have HS0 := Lib.hid hs0
  have r1 : (0 : Int) < (n : Int) := by omega
  have r4 : ((n : Int) == 0) = false := by simp; omega
  clear hW hB hb0 hb1 hb2 hG hR hg ho hr0 hs0 hopt hn hrc
  go_enter Try.func12, Try.ntmps12
  go_wp2_with (first
    | (go_at_call 63; rw [← HW.out]; refine (Hid.out HGR).mono ?_; rintro e w1 ⟨rfl, hb1⟩
       have HC1 := Lib.hid hb1; clear hb1
       obtain ⟨_, _, e1, e2, e3, _⟩ := FIN.out _ HC1.out)
    | (go_at_call 18; refine (HOR.out w1 HC1.out).mono ?_; rintro e w2 ⟨rfl, hb2⟩
       have HC2 := Lib.hid (HC1.out.trans (hb2.mono HC1.out.size)); clear hb2
       obtain ⟨f0, f1, f2, f3, f4, x0, x1, y0, y1⟩ := FIN.out _ HC2.out)
    | (go_at_call 64; refine (HBG.out w2 HC2.out).mono ?_; rintro e wb ⟨C, r, rfl, hcm, hbb, hft⟩
       have HCM := Lib.hid hcm
       have HC3 := Lib.hid (HC2.out.trans (hbb.mono HC2.out.size))
       have HFT := Lib.hid hft
       have HCC := Lib.hid hbb
       clear hcm hbb hft
       obtain ⟨_, _, _, _, i4, _⟩ := FIN.out _ HC3.out)
    | (go_at_call 67; refine (clone_int rA n rc (R.map (Value.int .i64)) wb (HRD.out _ (HB.out.trans (HC3.out.mono HB.out.size))) HONE.out (by omega) HRC.out).mono ?_
       rintro e wc ⟨gv, rfl, hgv, hBc⟩
       obtain ⟨gA, gcap, hgs⟩ := own_slice hgv
       subst hgs
       have HGV := Lib.hid hgv
       have HC4 := Lib.hid (HC3.out.trans (hBc.mono HC3.out.size))
       have HBC := Lib.hid hBc
       clear hgv hBc
       obtain ⟨_, _, _, _, j4, j5, j6, j7, j8⟩ := FIN.out _ HC4.out)
    | (go_at_call 65; refine (HIV.out _ ((HB.out.trans (HC4.out.mono HB.out.size)).setCell (by show w.heap.size ≤ w.heap.size + 1 + 1; omega) _)).mono ?_
       rintro e wi ⟨iA, icap, rfl, hiv, hbi⟩
       have HIO := Lib.hid hiv
       have HBI := Lib.hid hbi
       clear hiv hbi))
  obtain ⟨wd, hwd⟩ : ∃ wd, wd = wc.setCell ⟨w.heap.size + 1 + 1, 0, none⟩ (.slice gA n gcap) := ⟨_, rfl⟩
  have hkd : Keep (fun b => b = w.heap.size + 2) wc wd := by rw [hwd]; exact (Keep.refl (fun b => b = w.heap.size + 2) wc).setCell (p := ⟨w.heap.size + 1 + 1, 0, none⟩) (Or.inl rfl) _
  have hIO := HIO.out
  have hbi := HBI.out
  rw [← hwd] at hIO hbi
  have hw2 := HC2.out.size
  have hs0 := HS0.out
  have hge : ∀ b, cfoot C r b → w2.heap.size ≤ b := HFT.out
  have hlt : ∀ b, cfoot C r b → b < wb.heap.size := fun b hb => (HCM.out.foot_lt hb).1
  have hBC := HBC.out
  have hbx : Blk wd (w.heap.size + 2) 32 #[.slice gA n gcap, .slice none 0 0] := by
    have := ((HBX.out.below HC4.out HBX.out.lt).set_ 0 (.slice gA n gcap))
    rw [hwd]
    simpa using this
  have hcmd := (HCM.out.below hBC).keep hkd (fun b hb e => by have := hge b hb; omega)
  have hcmi := hcmd.below hbi
  have hgvd := own_keep HGV.out hkd (fun g hg e => by have := (HGV.out.lt g hg).1; have := HC3.out.size; omega)
  have hgvi := own_below hgvd hbi
  have hbxi := hbx.below hbi hbx.lt
  have HST : Hid (CtR w2.heap.size C r n hops settles (.slice rA n rc) 0 wi (Pl.Core.build hops settles (begunC n E) ((orderOf R).take 0)) wi) := Lib.hid (CtR.start hcmi)
  have hivg : ∀ g, (Value.slice iA n icap).ownBlock = some g → ¬ cfoot C r g := fun g hg e => by
    have h1 := (hIO.lt g hg).1
    have h2 := hlt g e
    have h3 := hBC.size
    have h4 := hkd.size
    omega
  have hol : (orderOf R).length = n := by rw [orderOf_len HRK.out]; exact HN.out
  have HMI : Hid (∀ k, k ≤ n → BuMid n E hops settles (orderOf R) k) := Lib.hid (fun k hk => by
    have hO := orderOf_ranked HRK.out
    rw [HN.out] at hO
    exact buMid HG.out hn12 hO (by omega) (by omega))
  have HBXI := Lib.hid hbxi
  have HGVI := Lib.hid hgvi
  have HIOI := Lib.hid hIO
  have HIVG := Lib.hid hivg
  have HGE := Lib.hid hge
  have HLT := Lib.hid hlt
  have HOL := Lib.hid hol
  have hsi := hbi.size
  have hsd := hkd.size
  have hsc := hBC.size
  have hsb := HCC.out.size
  have HWD := Lib.hid (((HB.out.trans (HC4.out.mono HB.out.size)).setCell (p := ⟨w.heap.size + 1 + 1, 0, none⟩) (by show w.heap.size ≤ w.heap.size + 1 + 1; omega) (.slice gA n gcap)))
  rw [← hwd] at HWD
  have HBI2 := Lib.hid hbi
  clear hcmd hcmi hgvd hgvi hbxi hbx hivg hge hlt hol hBC hkd hIO hbi hwd HIO HBI f0 f1 f2 f3 f4 x0 x1 y0 y1 i4 j4 j5 j6 j7 j8 e1 e2 e3
  go_loopw [8, 52] (fun _ i wr => ∃ k : Nat, k ≤ n ∧ i = .int .i64 k ∧ Hid (CtR w2.heap.size C r n hops settles (.slice rA n rc) k wi (Pl.Core.build hops settles (begunC n E) ((orderOf R).take k)) wr)) (fun _ i _ => n - (intOf i).toNat)
  case atStart => exact ⟨0, Nat.zero_le _, rfl, HST⟩
  case round =>
    obtain ⟨k, hk, rfl, HR⟩ := hrel
    obtain ⟨r1, hcm, hkp, hft⟩ := HR.out
    by_cases hk2 : k < n
    · obtain ⟨v, hv⟩ : ∃ v, (orderOf R)[k]? = some v := ⟨_, List.getElem?_eq_getElem (by rw [HOL.out]; exact hk2)⟩
      have hvn : v < n := by
        have hO := orderOf_ranked HRK.out
        rw [HN.out] at hO
        exact (hO.at_ k v hv).2
      have hrow := own_keep HIOI.out hkp (fun g hg e => HIVG.out g hg e)
      obtain ⟨ig, icap', ei, _, igl⟩ := hrow.form (by omega)
      injection ei with ei e9 e8
      clear e8
      subst ei
      have i0 := (hrow.cellAt k (by omega)).trans (show ((inverse R).map (Value.int .i64))[k]? = some (.int .i64 (v : Int)) by rw [List.getElem?_map, inverse_at hv]; rfl)
      have hm := HMI.out k (by omega)
      have HCO := Lib.hid (contract_any w2.heap.size C v r1 n hops settles (.slice rA n rc) k _ wr hcm hm.ok hvn hm.bd hs1 hm.ln (by omega))
      have HSN : Hid (Pl.Core.build hops settles (begunC n E) ((orderOf R).take (k + 1)) = (Pl.Core.build hops settles (begunC n E) ((orderOf R).take k)).contract hops settles v) := Lib.hid (by rw [Pl.take_snoc hv, Pl.Core.build_snoc])
      have HKP := Lib.hid hkp
      have HFT2 := Lib.hid hft
      have hk0 : (0 : Int) ≤ (k : Int) := by omega
      have hk1 : (k : Int) < (n : Int) := by omega
      clear hcm hkp hft hv hrow hm
      go_wp2_with (go_at_call 68; refine (Hid.out HCO).mono ?_; rintro e w5 hd5; have HD5 := Lib.hid hd5; have e5 := hd5.1; subst e5; clear hd5)
      go_roundw
      case rel =>
        have fin : Hid (CtR w2.heap.size C r n hops settles (.slice rA n rc) (k + 1) wi (Pl.Core.build hops settles (begunC n E) ((orderOf R).take (k + 1))) w5) := Lib.hid (by
          rw [HSN.out]
          exact coDone_ctR HKP.out HFT2.out (Below.refl _ _) HD5.out)
        exact ⟨k + 1, by omega, by go_num, fin⟩
      case measure => simp [intOf]; omega
    · have hke : k = n := by omega
      have HKE := Lib.hid hke
      clear hke
      have hsv : ∃ A cap, r1.sv = .slice A (Pl.Core.build hops settles (begunC n E) ((orderOf R).take k)).s.length cap := own_slice hcm.sr
      obtain ⟨sA, scap, hsv⟩ := hsv
      obtain ⟨q, hq⟩ : ∃ q, q = (Pl.Core.build hops settles (begunC n E) ((orderOf R).take k)).s.length := ⟨_, rfl⟩
      rw [← hq] at hsv
      have k3 : wr.cell? ⟨C, 3, none⟩ = some (.slice sA q scap) := by rw [hcm.blk.cell, ← hsv]; rfl
      have hbf : ¬ cfoot C r (w.heap.size + 2) := fun e => by have := HGE.out _ e; omega
      have hbx := HBXI.out.keep hkp hbf
      have b0 : wr.cell? ⟨w.heap.size + 2, 0, none⟩ = some (.slice gA n gcap) := by rw [hbx.cell]; rfl
      have b1 : wr.cell? ⟨w.heap.size + 2, 1, none⟩ = some (.slice none 0 0) := by rw [hbx.cell]; rfl
      have g0 := hbx.frozen 0
      have g1 := hbx.frozen 1
      have HKP := Lib.hid hkp
      have HFT2 := Lib.hid hft
      have HCM2 := Lib.hid hcm
      have HSV := Lib.hid hsv
      have HQ := Lib.hid hq
      clear hcm hkp hft hsv hq hbx hbf
      go_wp2
      refine bodyPost_ret (v := .tuple #[.agg #[.slice gA n gcap, .slice sA q scap], .int .i64 0]) (by simp [results, Try.results12, go_sem, b0, b1]) rfl ?_
      have hk9 : Keep (fun b => b = w.heap.size + 2) wr (((wr.setCell ⟨w.heap.size + 1 + 1, 1, none⟩ (.slice sA q scap)).setCell ⟨w.heap.size + 1 + 1, 0, none⟩ (.slice gA n gcap)).setCell ⟨w.heap.size + 1 + 1, 1, none⟩ (.slice sA q scap)) :=
        (((Keep.refl (fun b => b = w.heap.size + 2) wr).setCell (p := ⟨w.heap.size + 1 + 1, 1, none⟩) (Or.inl rfl) _).setCell (p := ⟨w.heap.size + 1 + 1, 0, none⟩) (Or.inl rfl) _).setCell (p := ⟨w.heap.size + 1 + 1, 1, none⟩) (Or.inl rfl) _
      have hkn := HKE.out
      have o1 := own_keep (own_keep HGVI.out HKP.out (fun g hg e => by have h1 := (HGVI.out.lt g hg).1; have h2 := HLT.out g e; omega)) hk9 (fun g hg e => by have h1 := (HGVI.out.lt g hg).1; omega)
      have o2 := HCM2.out.sr
      rw [HSV.out] at o2
      have o3 := own_keep o2 hk9 (fun g hg e => by have h1 := (o2.lt g hg).1; omega)
      have e1 : builtS n hops settles E R = (Pl.Core.build hops settles (begunC n E) ((orderOf R).take k)).s := by
        unfold builtS
        rw [List.take_of_length_le (by rw [HOL.out]; omega)]
      have e2 : (builtS n hops settles E R).length = q := by rw [e1, HQ.out]
      refine ⟨_, _, rfl, ?_, ?_, ?_⟩
      · rw [HN.out]; exact own_base o1 (by omega)
      · rw [← HQ.out, ← e1] at o3
        rw [e2]; exact own_base o3 (by omega)
      · have h1 := (HWD.out.trans (HBI2.out.mono HWD.out.size)).trans ((HKP.out.below (B := w.heap.size) (by omega) (fun b hb => by have := HGE.out b hb; omega)))
        exact h1.trans (hk9.below (by have := HKP.out.size; omega) (fun b hb => by omega))
end Go.Proofs.Ytbaclbiedepjfaa
