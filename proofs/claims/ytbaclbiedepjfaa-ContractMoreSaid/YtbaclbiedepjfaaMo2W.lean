/- highroadlaw20.ContractMore: its walk where limits may be. -/
import Derived.Test.YtbaclbiedepjfaaMoW
set_option autoImplicit false
namespace Go.Proofs.Ytbaclbiedepjfaa
open Go Go.RowKit

/-- of's answer as a net that comes -/
theorem OfDone.raw {rows : List RowD} {gA : Option Addr} {gc : Nat} {gone : List Bool} {w w' : World} {e : Ending} (h : OfDone rows gA gone.length gc w e w') (hG : Reads w w.heap.size 1 gA gone.length (gone.map Value.bool)) (hn : rows.length ≤ 12) (hl : ∀ r ∈ rows, r.l.length ≤ 20) (hg : gone.length ≤ 60) :
    ∃ (oA : Option Addr) (oc : Nat) (rs : List RowD), e = .returned (.agg #[.slice oA rs.length oc, .slice gA gone.length gc]) ∧ rs.map RowD.l = rows.map RowD.l ∧ rs.length = rows.length ∧ RawNet w' w'.heap.size oA gA rs gone ∧ Below w.heap.size w w' := by
  obtain ⟨oA, oc, rs, h1, h2, h3, h4, h5⟩ := h
  have hlen : rs.length = rows.length := by have := congrArg List.length h2; simpa using this
  rw [← hlen] at h1 h3
  refine ⟨oA, oc, rs, h1, h2, hlen, ⟨Reads.of_own h3, fun r hr => Reads.of_own (h4 r hr), (hG.below h5).more h5.size, by omega, fun r hr => ?_, by omega⟩, h5⟩
  have : r.l ∈ rows.map RowD.l := by rw [← h2]; exact List.mem_map.2 ⟨r, hr, rfl⟩
  obtain ⟨r', hr', e⟩ := List.mem_map.1 this
  have := hl r' hr'
  rw [e] at this
  omega

def NdDone (T : List Tri) (w : World) (e : Ending) (w' : World) : Prop :=
  ∃ A c A' c', e = .returned (.tuple #[.slice A T.length c, .slice A' T.length c']) ∧ w'.ownsRow w.heap.size 55 2 (.slice A T.length c) T.length (T.flatMap cellsA) ∧ w'.ownsRow w.heap.size 3 1 (.slice A' T.length c') T.length (T.map cellsU) ∧ Below w.heap.size w w'
theorem KDone.nd {T : List Tri} {w w' : World} {e : Ending} (h : KDone T w e w') : NdDone T w e w' := by
  obtain ⟨lv, ov, h1, h2, h3, h4⟩ := h
  obtain ⟨A, c, rfl⟩ := own_slice h2
  obtain ⟨A', c', rfl⟩ := own_slice h3
  exact ⟨A, c, A', c', h1, h2, h3, h4⟩

set_option maxRecDepth 100000 in
set_option maxHeartbeats 8000000 in
theorem more_live (oA gA : Option Addr) (oc gc : Nat) (rows : List RowD) (gone : List Bool) (v h s : Int) (w : World) (hO : Reads w w.heap.size 1 oA rows.length (rows.map RowD.V)) (hR : ∀ r ∈ rows, Reads w w.heap.size 2 r.A r.l.length (r.l.flatMap cellsR))
    (hG : Reads w w.heap.size 1 gA gone.length (gone.map Value.bool)) (hli : lightB rows gone.length = true) (h1 : 1 ≤ h) (h2 : h ≤ 1000) (s1 : 1 ≤ s) (s2 : s ≤ 1000) :
    Calls Try.prog 4 #[.agg #[.slice oA rows.length oc, .slice gA gone.length gc], .int .i64 v, .int .i64 h, .int .i64 s] w (Fresh (.bool true) w) := by
  obtain ⟨W, hW⟩ : ∃ W, W = w.alloc (.cells #[.slice oA rows.length oc, .slice gA gone.length gc] 44) := ⟨_, rfl⟩
  have hB : Below w.heap.size w W := by rw [hW]; exact (Below.refl _ _).alloc (Nat.le_refl _) _
  have hb : Blk W w.heap.size 44 #[.slice oA rows.length oc, .slice gA gone.length gc] := by rw [hW]; exact Blk.new w _ _
  have hlp : rows.length ≤ 12 ∧ gone.length ≤ 60 ∧ ∀ r ∈ rows, r.l.length ≤ 20 := by
    unfold lightB at hli
    simp only [Bool.and_eq_true, decide_eq_true_eq, List.all_eq_true] at hli
    exact ⟨hli.1.1, hli.1.2, hli.2⟩
  obtain ⟨p1, p2, p3⟩ := hlp
  have HLI := Lib.hid (light_any oA gA oc gc gone.length rows W ((hO.below hB).more hB.size))
  rw [hli] at HLI
  obtain ⟨Ta, hTa⟩ : ∃ T, T = nodeT rows gone v h s [] := ⟨_, rfl⟩
  obtain ⟨Tb, hTb⟩ : ∃ T, T = nodeT rows gone v 1000 1000 [] := ⟨_, rfl⟩
  have HOF : Hid (∀ w1, Below w.heap.size w w1 → Calls Try.prog 21 #[.agg #[.slice oA rows.length oc, .slice gA gone.length gc]] w1 (fun e w' => ∃ (oA : Option Addr) (oc : Nat) (rs : List RowD), e = .returned (.agg #[.slice oA rs.length oc, .slice gA gone.length gc]) ∧ rs.map RowD.l = rows.map RowD.l ∧ rs.length = rows.length ∧ RawNet w' w'.heap.size oA gA rs gone ∧ Below w1.heap.size w1 w')) := Lib.hid (fun w1 hb1 =>
    (of_any oA gA oc gc gone.length rows w1 ((hO.below hb1).more hb1.size) (fun r hr => ((hR r hr).below hb1).more hb1.size) p1 p3).mono (fun e w' hd => hd.raw ((hG.below hb1).more hb1.size) p1 p3 p2))
  have HNA : Hid (∀ w1 oA oc rs, RawNet w1 w1.heap.size oA gA rs gone → rs.map RowD.l = rows.map RowD.l → Calls Try.prog 20 #[.agg #[.slice oA rs.length oc, .slice gA gone.length gc], .int .i64 v, .agg #[.int .i64 h, .int .i64 s, .slice none 0 0]] w1 (NdDone Ta w1)) := Lib.hid (fun w1 oA oc rs hr he => by
    rw [hTa, ← nodeT_congr he]
    exact (node_any oA gA none oc gc 0 rs gone v h s [] w1 hr (Reads.none_) (by simp)).mono (fun e w' hd => hd.nd))
  have HNB : Hid (∀ w1 oA oc rs, RawNet w1 w1.heap.size oA gA rs gone → rs.map RowD.l = rows.map RowD.l → Calls Try.prog 20 #[.agg #[.slice oA rs.length oc, .slice gA gone.length gc], .int .i64 v, .agg #[.int .i64 1000, .int .i64 1000, .slice none 0 0]] w1 (NdDone Tb w1)) := Lib.hid (fun w1 oA oc rs hr he => by
    rw [hTb, ← nodeT_congr he]
    exact (node_any oA gA none oc gc 0 rs gone v 1000 1000 [] w1 hr (Reads.none_) (by simp)).mono (fun e w' hd => hd.nd))
  have HSUB : Hid (Tb.Sublist Ta) := Lib.hid (by
    rw [hTa, hTb]
    exact nodeT_sub (B := w.heap.size) (w := w) (oA := oA) (gA := gA) ⟨hO, hR, hG, by omega, fun r hr => by have := p3 r hr; omega, by omega⟩ v h s ⟨h1, h2⟩ ⟨s1, s2⟩ (by omega))
  have hTal : Ta.length ≤ 144 := by
    have a1 := nodeT_len rows gone v h s []
    have a2 : rows.length * rows.length ≤ 12 * 12 := Nat.mul_le_mul p1 p1
    rw [hTa]; omega
  have hTbl : Tb.length ≤ 144 := by
    have a1 := nodeT_len rows gone v 1000 1000 []
    have a2 : rows.length * rows.length ≤ 12 * 12 := Nat.mul_le_mul p1 p1
    rw [hTb]; omega
  have HB := Lib.hid hB
  have HW := Lib.hid hW
  have HBX := Lib.hid hb
  have b0 := hb.cell 0
  have b1 := hb.cell 1
  simp at b0 b1
  clear hB hb hW hO hR hG hli hTa hTb
  have d1 : decide (h < 1) = false := by simp; omega
  have d2 : decide (1000 < h) = false := by simp; omega
  have d3 : decide (s < 1) = false := by simp; omega
  have d4 : decide (1000 < s) = false := by simp; omega
  go_enter Try.func4, Try.ntmps4
  go_upto_region 4 with (first
    | (go_at_call 19; rw [← HW.out]; refine (Hid.out HLI).mono ?_; rintro e w1 ⟨rfl, hb1⟩
       have e0 := (HBX.out.below hb1 HBX.out.lt).cell 0
       have e1 := (HBX.out.below hb1 HBX.out.lt).cell 1
       simp at e0 e1
       have HB1 := Lib.hid (HB.out.trans (hb1.mono HB.out.size)); have HC1 := Lib.hid hb1; clear hb1)
    | (go_at_call 21; refine (HOF.out w1 HB1.out).mono ?_; rintro e w2 ⟨oA1, oc1, rs1, rfl, hm1, hl1, hr1, hb2⟩
       have HM1 := Lib.hid hm1; have HR1 := Lib.hid hr1; have HB2 := Lib.hid (HB1.out.trans (hb2.mono HB1.out.size)); have HC2 := Lib.hid (HC1.out.trans (hb2.mono HC1.out.size)); clear hm1 hl1 hr1 hb2)
    | (go_at_call 20; refine (HNA.out w2 oA1 oc1 rs1 HR1.out HM1.out).mono ?_; rintro e w3 ⟨A1, c1, A2, c2, rfl, ho1, ho2, hb3⟩
       have e2 := (HBX.out.below (HC2.out.trans (hb3.mono HC2.out.size)) HBX.out.lt).cell 0
       have e3 := (HBX.out.below (HC2.out.trans (hb3.mono HC2.out.size)) HBX.out.lt).cell 1
       simp at e2 e3
       have HO1 := Lib.hid ho1; have HO2 := Lib.hid ho2; have HB3 := Lib.hid (HB2.out.trans (hb3.mono HB2.out.size)); clear ho1 ho2 hb3))
  go_wp2_with (first
    | (go_at_call 21; refine (HOF.out w3 HB3.out).mono ?_; rintro e w4 ⟨oA3, oc3, rs3, rfl, hm3, hl3, hr3, hb4⟩
       have HM3 := Lib.hid hm3; have HR3 := Lib.hid hr3; have HB4 := Lib.hid hb4; clear hm3 hl3 hr3 hb4)
    | (go_at_call 20; refine (HNB.out w4 oA3 oc3 rs3 HR3.out HM3.out).mono ?_; rintro e w5 ⟨A3, c3, A4, c4, rfl, ho3, ho4, hb5⟩
       have HO3 := Lib.hid ho3; have HO4 := Lib.hid ho4; have HB5 := Lib.hid (HB4.out.trans (hb5.mono HB4.out.size)); clear ho3 ho4 hb5))
  have HA1 := Lib.hid (own_below HO1.out HB5.out)
  have HA2 := Lib.hid (own_below HO2.out HB5.out)
  have HK0 : Hid (Tb.drop 0 = (Ta.take 0).foldl eat Tb) := Lib.hid rfl
  clear d1 d2 d3 d4 h1 h2 s1 s2
  go_loopw [13, 14] (fun kk ii wr => ∃ k i : Nat, k ≤ Tb.length ∧ i ≤ Ta.length ∧ kk = .int .i64 k ∧ ii = .int .i64 i ∧ Hid (Tb.drop k = (Ta.take i).foldl eat Tb) ∧ Hid (Below w5.heap.size w5 wr)) (fun _ ii _ => Ta.length - (intOf ii).toNat)
  case atStart => exact ⟨0, 0, Nat.zero_le _, Nat.zero_le _, rfl, rfl, HK0, Lib.hid (Below.refl _ _)⟩
  case round =>
    obtain ⟨k, i, hk, hi, rfl, rfl, HK, HBW⟩ := hrel
    have q0 : ((Ta.length : Int) == (Ta.length : Int)) = true := by simp
    by_cases hlt : i < Ta.length
    · obtain ⟨x, hx⟩ : ∃ x, Ta[i]? = some x := ⟨_, List.getElem?_eq_getElem hlt⟩
      have HX := Lib.hid hx
      have hi0 : (0 : Int) ≤ (i : Int) := by omega
      have hi1 : (i : Int) < (Ta.length : Int) := by omega
      have hk0 : (0 : Int) ≤ (k : Int) := by omega
      have hsn : (Ta.take (i + 1)).foldl eat Tb = eat (Tb.drop k) x := by rw [Pl.take_snoc hx, List.foldl_append, ← HK.out]; rfl
      have HSN := Lib.hid hsn
      clear hx hsn
      by_cases hkl : k < Tb.length
      · obtain ⟨y, hy⟩ : ∃ y, Tb[k]? = some y := ⟨_, List.getElem?_eq_getElem hkl⟩
        have hdr : Tb.drop k = y :: Tb.drop (k + 1) := by
          rw [List.drop_eq_getElem_cons hkl]
          rw [List.getElem?_eq_getElem hkl] at hy
          injection hy with hy
          rw [hy]
        have HDR := Lib.hid hdr
        obtain ⟨ag, aog, e1, e2, a0, a1, a2⟩ := tri_rows (own_below HA1.out HBW.out) (own_below HA2.out HBW.out) HX.out
        obtain ⟨bg, bog, e3, e4, b0', b1', b2'⟩ := tri_rows (own_below HO3.out HBW.out) (own_below HO4.out HBW.out) hy
        subst e1; subst e2; subst e3; subst e4
        obtain ⟨x1, x2, x3⟩ := x
        obtain ⟨y1, y2, y3⟩ := y
        simp only at a0 a1 a2 b0' b1' b2'
        have hk1 : (k : Int) < (Tb.length : Int) := by omega
        have qk : decide ((k : Int) < (Tb.length : Int)) = true := by simpa using hkl
        have qn : decide (k < Tb.length) = true := by simpa using hkl
        clear hy hdr
        by_cases z1 : y2 = x2
        · subst z1
          by_cases z2 : y3 = x3
          · subst z2
            by_cases z3 : y1 = x1
            · subst z3
              have j1 : ((y2 : Int) == (y2 : Int)) = true := by simp
              have j2 : ((y3 : Int) == (y3 : Int)) = true := by simp
              have j3 : ((y1 : Int) == (y1 : Int)) = true := by simp
              go_wp2
              go_quiet (fail)
              go_wp2
              go_roundw
              case rel => exact ⟨k + 1, i + 1, by omega, by omega, by go_num, by go_num, Lib.hid (by rw [HSN.out, HDR.out]; simp [eat]), Lib.hid (below_drewN HBW.out _)⟩
              case measure => simp [intOf]; omega
            · have hne : ¬ (y1 = x1) := z3
              have j1 : ((y2 : Int) == (y2 : Int)) = true := by simp
              have j2 : ((y3 : Int) == (y3 : Int)) = true := by simp
              have j3 : ((y1 : Int) == (x1 : Int)) = false := by simp; omega
              have HNE := Lib.hid hne
              clear hne z3
              go_wp2
              go_quiet (fail)
              go_wp2
              go_roundw
              case rel => exact ⟨k, i + 1, by omega, by omega, by go_num, by go_num, Lib.hid (by rw [HSN.out, HDR.out]; simp [eat, HNE.out]), Lib.hid (below_drewN HBW.out _)⟩
              case measure => simp [intOf]; omega
          · have hne : ¬ (y3 = x3) := z2
            have j1 : ((y2 : Int) == (y2 : Int)) = true := by simp
            have j2 : ((y3 : Int) == (x3 : Int)) = false := by simp; omega
            have HNE := Lib.hid hne
            clear hne z2
            go_wp2
            go_quiet (fail)
            go_wp2
            go_roundw
            case rel => exact ⟨k, i + 1, by omega, by omega, by go_num, by go_num, Lib.hid (by rw [HSN.out, HDR.out]; simp [eat, HNE.out]), Lib.hid (below_drewN HBW.out _)⟩
            case measure => simp [intOf]; omega
        · have hne : ¬ (y2 = x2) := z1
          have j1 : ((y2 : Int) == (x2 : Int)) = false := by simp; omega
          have HNE := Lib.hid hne
          clear hne z1
          go_wp2
          go_quiet (fail)
          go_wp2
          go_roundw
          case rel => exact ⟨k, i + 1, by omega, by omega, by go_num, by go_num, Lib.hid (by rw [HSN.out, HDR.out]; simp [eat, HNE.out]), Lib.hid (below_drewN HBW.out _)⟩
          case measure => simp [intOf]; omega
      · have hke : k = Tb.length := by omega
        have qn : ¬ (k < Tb.length) := hkl
        have qi : decide ((k : Int) < (Tb.length : Int)) = false := by simp; omega
        have qd : decide (k < Tb.length) = false := by simp; omega
        have HKE := Lib.hid hke
        clear hke hkl
        go_wp2
        go_quiet (fail)
        go_wp2
        go_roundw
        case rel =>
          refine ⟨k, i + 1, by omega, by omega, by go_num, by go_num, Lib.hid ?_, Lib.hid (below_drewN HBW.out _)⟩
          rw [HSN.out, List.drop_eq_nil_of_le (by have := HKE.out; omega)]
          rfl
        case measure => simp [intOf]; omega
    · have hie : i = Ta.length := by omega
      have HIE := Lib.hid hie
      have hfin := HK.out
      rw [hie, List.take_length, eat_all Ta Tb HSUB.out] at hfin
      have hke : k = Tb.length := by
        have := congrArg List.length hfin
        simp at this
        omega
      have hle : Tb.length ≤ Ta.length := HSUB.out.length_le
      have HKE := Lib.hid hke
      have z1 : ((k : Int) == (Tb.length : Int)) = true := by simp; omega
      have z2 : (Tb.length : Int) ≤ (Ta.length : Int) := by omega
      have z3 : decide (Tb.length ≤ Ta.length) = true := by simpa using hle
      have z4 : (k == Tb.length) = true := by simpa using hke
      clear hie hfin hke
      go_wp2_with (go_at_call 11; refine (alive_any _).mono ?_; rintro e w6 ⟨rfl, hb6⟩; have HB6 := Lib.hid hb6; clear hb6)
      go_ret
      refine ⟨rfl, ?_⟩
      have k1 := HB3.out.trans (HB5.out.mono HB3.out.size)
      have k2 := k1.trans (HBW.out.mono k1.size)
      exact k2.trans (HB6.out.mono k2.size)
end Go.Proofs.Ytbaclbiedepjfaa
