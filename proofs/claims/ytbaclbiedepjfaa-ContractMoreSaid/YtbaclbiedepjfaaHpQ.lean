/- heap: the walks of New, Top, where, Drop, Pop. -/
import Derived.Test.YtbaclbiedepjfaaHpP
import Derived.Test.YtbaclbiedepjfaaBas2
set_option autoImplicit false
namespace Go.Proofs.Ytbaclbiedepjfaa
open Go Go.RowKit

/-- a heap, as its methods leave it -/
structure IsHeap (w : World) (H : Nat) (lv : Value) (ab : Nat) (n : Nat) (l : List Pl.Item) (p : List Int) : Prop where
  mem : HMem w H lv ab l p
  wf : Pl.WF n l p

def NewRel (H n : Nat) (w : World) (k : Nat) (wr : World) : Prop :=
  k ≤ n ∧ Blk wr H 3 ((List.replicate k (-1) ++ List.replicate (n - k) 0).map (Value.int .i64)).toArray ∧
    Blk wr (H + 1) 223 #[.slice none 0 0, .slice (some ⟨H, 0, none⟩) n n] ∧ Below w.heap.size w wr

theorem new_step (n k : Nat) (hk : k < n) : (List.replicate k (-1 : Int) ++ List.replicate (n - k) 0).set k (-1) = List.replicate (k + 1) (-1) ++ List.replicate (n - (k + 1)) 0 := by
  apply List.ext_getElem?
  intro i
  rw [List.getElem?_set]
  by_cases h : k = i
  · subst h
    rw [if_pos rfl, if_pos (by simp; omega), List.getElem?_append_left (by simp)]
    simp
  · rw [if_neg h]
    by_cases hi : i < k
    · rw [List.getElem?_append_left (by simpa using hi), List.getElem?_append_left (by simp; omega)]
      rw [List.getElem?_replicate, List.getElem?_replicate, if_pos hi, if_pos (by omega)]
    · rw [List.getElem?_append_right (by simp; omega), List.getElem?_append_right (by simp; omega)]
      simp only [List.length_replicate, List.getElem?_replicate]
      by_cases hin : i < n
      · rw [if_pos (by omega), if_pos (by omega)]
      · rw [if_neg (by omega), if_neg (by omega)]

set_option maxRecDepth 100000 in
set_option maxHeartbeats 1000000 in
theorem new_any (n : Nat) (hn : n ≤ 65536) (w : World) :
    Calls Try.prog 113 #[.int .i64 n] w fun e w' => ∃ H ab, e = .returned (.pointer (some ⟨H, 0, none⟩)) ∧ IsHeap w' H (.slice none 0 0) ab n [] (List.replicate n (-1)) ∧
      Below w.heap.size w w' ∧ w.heap.size ≤ H ∧ w.heap.size ≤ ab := by
  obtain ⟨i0, hi, hz0, hz1, hz2⟩ := info_parts infoInt
  have hmk := fun w => run_make_rowN (P := Try.prog) 25 3 i0 _ Try.underlying25 hi hz0 .i64 .i64 n n (Nat.le_refl _) (by rw [hz2]; omega) (by omega) w
  rw [hz1] at hmk
  simp only [Nat.mul_one, Value.cells, madeCells_one] at hmk
  have hR0 : NewRel w.heap.size n w 0 ((w.alloc (.cells (List.replicate n (.int .i64 0)).toArray 3)).alloc (.cells #[.slice none 0 0, .slice (some ⟨w.heap.size, 0, none⟩) n n] 223)) := by
    refine ⟨Nat.zero_le _, ?_, ?_, ((Below.refl _ _).alloc (Nat.le_refl _) _).alloc (by simp) _⟩
    · have := (Blk.new w 3 (List.replicate n (.int .i64 0)).toArray).alloc (.cells #[.slice none 0 0, .slice (some ⟨w.heap.size, 0, none⟩) n n] 223)
      simpa using this
    · have := Blk.new (w.alloc (.cells (List.replicate n (.int .i64 0)).toArray 3)) 223 #[.slice none 0 0, .slice (some ⟨w.heap.size, 0, none⟩) n n]
      simpa using this
  have HR0 := Lib.hid hR0
  clear hR0
  go_enter Try.func113, Try.ntmps113
  go_wp2
  go_loopw [20] (fun i wr => ∃ k : Nat, i = .int .i64 k ∧ NewRel w.heap.size n w k wr) (fun i _ => n - (intOf i).toNat)
  case atStart => exact ⟨0, rfl, HR0.out⟩
  case round =>
    obtain ⟨k, rfl, hk, hb, hh, hB⟩ := hrel
    have c1 : wr.cell? ⟨w.heap.size + 1, 1, none⟩ = some (.slice (some ⟨w.heap.size, 0, none⟩) n n) := by rw [hh.cell]; rfl
    by_cases hlt : k < n
    · have c2 := cellAt_ints hb (k := k) (by simp; omega)
      have f2 := hb.frozen k
      have HB := Lib.hid hb
      clear hb
      go_wp2
      go_roundw
      case rel =>
        refine ⟨k + 1, by go_num, by omega, ?_, hh.far (by simp) _, hB.setCell (Nat.le_refl _) _⟩
        rw [← new_step n k hlt]
        exact setAt_ints HB.out k (-1)
      case measure => simp [intOf]; omega
    · have hkn : k = n := by omega
      have HK := Lib.hid hkn
      clear hkn
      have HB := Lib.hid hb
      have HH := Lib.hid hh
      clear hb hh
      go_wp2
      go_ret
      have e := HK.out
      subst e
      refine ⟨_, _, rfl, ⟨⟨?_, World.ownsRow_nil _ _ _ _, ?_, by simpa using hn, by simp⟩, Pl.WF.start _⟩, hB, by omega, Nat.le_refl _⟩
      · simpa using HH.out
      · simpa using HB.out

set_option maxHeartbeats 1000000 in
theorem where_any (H ab v : Nat) (lv : Value) (l : List Pl.Item) (p : List Int) (w : World) (h : HMem w H lv ab l p) (hv : v < p.length) :
    Calls Try.prog 177 #[.pointer (some ⟨H, 0, none⟩), .int .i64 v] w fun e w' => e = .returned (.int .i64 (Pl.wher p v)) ∧ w = w' := by
  obtain ⟨_, c1, _, _⟩ := h.head
  obtain ⟨a0, _⟩ := h.place hv
  have hpm := h.pm
  have hi0 : (0 : Int) ≤ (v : Int) := by omega
  have hi1 : (v : Int) < (p.length : Int) := by omega
  clear h
  go_enter Try.func177, Try.ntmps177
  go_wp2
  go_ret
  exact ⟨rfl, rfl⟩

/-- what Top answers -/
def topV : List Pl.Item → Value
  | [] => .tuple #[.int .i64 0, .int .u64 0, .bool false]
  | (v, k) :: _ => .tuple #[.int .i64 v, .int .u64 k, .bool true]

set_option maxHeartbeats 1000000 in
theorem top_any (H ab : Nat) (lv : Value) (l : List Pl.Item) (p : List Int) (w : World) (h : HMem w H lv ab l p) :
    Calls Try.prog 117 #[.pointer (some ⟨H, 0, none⟩)] w fun e w' => e = .returned (topV l) ∧ ∃ n, w' = w.drewN n := by
  by_cases hl : l = []
  · subst hl
    have HH := Lib.hid h
    clear h
    go_enter Try.func117, Try.ntmps117
    go_wp2_with (go_at_call 154; refine (len_any H ab lv [] p _ HH.out).mono ?_; rintro e w' ⟨rfl, rfl⟩)
    go_ret3
    exact ⟨rfl, 0, rfl⟩
  · have hl0 : 0 < l.length := List.length_pos_iff.2 hl
    obtain ⟨lb, cap, rfl, hlb, hlH, hla⟩ := h.form hl0
    obtain ⟨c0, _, _, _⟩ := h.head
    obtain ⟨l0, l1, _, _⟩ := h.item hl0
    simp only [Nat.zero_mul, Nat.zero_add] at l0 l1
    have hlm := h.lm
    have hne : ((l.length : Int) == 0) = false := by rw [beq_eq_false_iff_ne]; omega
    have hi1 : (0 : Int) < (l.length : Int) := by omega
    have e : topV l = .tuple #[.int .i64 (Pl.gt l 0).1, .int .u64 (Pl.gt l 0).2, .bool true] := by
      cases l with
      | nil => exact absurd rfl hl
      | cons x r => rfl
    rw [e]
    have HH := Lib.hid h
    clear h e
    go_enter Try.func117, Try.ntmps117
    go_wp2_with (go_at_call 154; refine (len_any H ab _ l p _ HH.out).mono ?_; rintro e w' ⟨rfl, rfl⟩)
    go_quiet (fail)
    go_wp2
    go_ret3
    exact ⟨rfl, nq, rfl⟩

theorem HMem.cap_le {w : World} {H lb ab cap : Nat} {l : List Pl.Item} {p : List Int} (h : HMem w H (.slice (some ⟨lb, 0, none⟩) l.length cap) ab l p) : l.length ≤ cap := by
  rcases h.lo.2 with ⟨h', _⟩ | ⟨g', cap', cur, h', _, _, h3, _⟩
  · simp at h'
  · simp only [Value.slice.injEq] at h'
    omega
theorem HMem.cut {w : World} {H lb ab cap : Nat} {l : List Pl.Item} {p : List Int} (h : HMem w H (.slice (some ⟨lb, 0, none⟩) l.length cap) ab l p) {m : Nat} (hm : m ≤ l.length) :
    HMem (w.setCell ⟨H, 0, none⟩ (.slice (some ⟨lb, 0, none⟩) m cap)) H (.slice (some ⟨lb, 0, none⟩) m cap) ab (l.take m) p ∧
    Keep (hfoot H (.slice (some ⟨lb, 0, none⟩) l.length cap) ab) w (w.setCell ⟨H, 0, none⟩ (.slice (some ⟨lb, 0, none⟩) m cap)) := by
  have h1 := own_take h.lo hm
  rw [take_flat2 cellsI 2 cellsI_len] at h1
  refine ⟨⟨?_, ?_, h.at_.far h.H_ab.symm _, h.pm, by have := h.lm; simp; omega⟩, (Keep.refl _ w).setCell (Or.inl (Or.inl rfl)) _⟩
  · have := h.hb.set_ 0 (.slice (some ⟨lb, 0, none⟩) m cap)
    simpa using this
  · rw [List.length_take, Nat.min_eq_left hm]
    exact own_far h1 (own_blk_ne h1 h.hb (by decide)) _

set_option maxRecDepth 100000 in
set_option maxHeartbeats 1000000 in
theorem drop_any (H ab n v k : Nat) (r : List Pl.Item) (lv : Value) (l : List Pl.Item) (p : List Int) (w : World) (h : HMem w H lv ab l p) (hw : Pl.WF n l p) (hl : l = (v, k) :: r) :
    Calls Try.prog 153 #[.pointer (some ⟨H, 0, none⟩), .int .i64 v] w (HPut (.bool true) H lv ab (Pl.drop0 l p v).1 (Pl.drop0 l p v).2 w) := by
  have hl0 : 0 < l.length := by rw [hl]; simp
  have h0 : l[0]? = some (v, k) := by rw [hl]; rfl
  have hv : v < p.length := by rw [hw.len]; exact hw.lt (List.mem_of_getElem? h0)
  have hz : Pl.wher p v = 0 := by
    have := hw.fwd 0 _ h0
    unfold Pl.wher
    simp [List.getD, this]
  have hall : ∀ j, j < l.length → (Pl.gt l j).1 < p.length := fun j hj => by rw [hw.len]; exact hw.lt (List.mem_of_getElem? (Pl.gt_of hj))
  obtain ⟨lb, cap, rfl, hlb, hlH, hla⟩ := h.form hl0
  obtain ⟨c0, c1, f0, f1⟩ := h.head
  obtain ⟨a0, fa⟩ := h.place hv
  obtain ⟨la, hla2⟩ : ∃ la, la = l.length - 1 := ⟨_, rfl⟩
  have hlal : la < l.length := by omega
  obtain ⟨l0, l1, _, _⟩ := h.item hlal
  have hHb := h.hb.lt
  have hab := h.at_.lt
  have hHa := h.H_ab
  have hpm := h.pm
  have hlm := h.lm
  have hcap := h.cap_le
  have eLa : (l.length : Int) - 1 = (la : Int) := by omega
  have hi0 : (0 : Int) ≤ (la : Int) := by omega
  have hi1 : (la : Int) < (l.length : Int) := by omega
  have hi2 : (0 : Int) ≤ (v : Int) := by omega
  have hi3 : (v : Int) < (p.length : Int) := by omega
  have hi4 : (la : Int) ≤ (cap : Int) := by omega
  have hi5 : la ≤ cap := by omega
  have HLA := Lib.hid hla2
  have HL := Lib.hid hl
  have HW := Lib.hid hw
  have HA := Lib.hid hall
  have hM2 := Lib.hid ((((h.set_place v (-1)).1.cut (m := la) (by omega)).1).alloc (.cells #[.int .i64 (Pl.gt l la).1, .int .u64 (Pl.gt l la).2] 225))
  have hK2 : Keep (hfoot H (.slice (some ⟨lb, 0, none⟩) l.length cap) ab) w (((w.setCell ⟨ab, v, none⟩ (.int .i64 (-1))).setCell ⟨H, 0, none⟩ (.slice (some ⟨lb, 0, none⟩) la cap)).alloc (.cells #[.int .i64 (Pl.gt l la).1, .int .u64 (Pl.gt l la).2] 225)) :=
    ((h.set_place v (-1)).2.trans ((h.set_place v (-1)).1.cut (m := la) (by omega)).2 (fun b hb => Or.inl hb)).alloc _
  have HK2 := Lib.hid hK2
  have HFL := Lib.hid (fun b hb => h.foot_lt (b := b) hb)
  have HH := Lib.hid h
  clear h hla2 hl hw hall hK2
  by_cases hz1 : la = 0
  · have HZ1 := Lib.hid hz1
    have hb0 : ((0 : Int) == (la : Int)) = true := by rw [beq_iff_eq]; omega
    clear hz1
    go_enter Try.func153, Try.ntmps153
    go_wp2_with (go_at_call 177; refine (where_any H ab v _ l p _ HH.out hv).mono ?_; rintro e w' ⟨rfl, rfl⟩)
    go_ret
    have e : Pl.drop0 l p v = (l.take la, p.set v (-1)) := by
      unfold Pl.drop0
      rw [if_pos (by have := HLA.out; have := HZ1.out; omega), HLA.out]
    refine ⟨.slice (some ⟨lb, 0, none⟩) la cap, rfl, ?_, HK2.out, fun b hb => Or.inl ?_⟩
    · rw [e]; exact hM2.out
    · exact hb
  · have hb0 : ((0 : Int) == (la : Int)) = false := by rw [beq_eq_false_iff_ne]; omega
    have hmid := Pl.drop0_mid n l p v k r HW.out HL.out (by have := HLA.out; omega)
    rw [← HLA.out] at hmid
    have hM2' : HMem (((w.setCell ⟨ab, v, none⟩ (.int .i64 (-1))).setCell ⟨H, 0, none⟩ (.slice (some ⟨lb, 0, none⟩) la cap)).alloc (.cells #[.int .i64 (Pl.gt l la).1, .int .u64 (Pl.gt l la).2] 225)) H (.slice (some ⟨lb, 0, none⟩) (l.take la).length cap) ab (l.take la) (p.set v (-1)) := by
      rw [List.length_take, Nat.min_eq_left (by omega)]; exact hM2.out
    have HM2' := Lib.hid hM2'
    have hs1 : 0 < (l.take la).length := by rw [List.length_take]; omega
    have hxl : (Pl.gt l la).1 < (p.set v (-1)).length := by rw [List.length_set]; exact HA.out la hlal
    have HS2 := Lib.hid (show ∀ j, j < (l.take la).length → (Pl.gt (l.take la) j).1 < (p.set v (-1)).length from fun j hj => by
      rw [List.length_take] at hj
      have : Pl.gt (l.take la) j = Pl.gt l j := by unfold Pl.gt; simp only [List.getD, List.getElem?_take, if_pos (show j < la by omega)]
      rw [this, List.length_set]
      exact HA.out j (by omega))
    have hbx : Blk (((w.setCell ⟨ab, v, none⟩ (.int .i64 (-1))).setCell ⟨H, 0, none⟩ (.slice (some ⟨lb, 0, none⟩) la cap)).alloc (.cells #[.int .i64 (Pl.gt l la).1, .int .u64 (Pl.gt l la).2] 225)) w.heap.size 225 #[.int .i64 (Pl.gt l la).1, .int .u64 (Pl.gt l la).2] := by
      have := Blk.new ((w.setCell ⟨ab, v, none⟩ (.int .i64 (-1))).setCell ⟨H, 0, none⟩ (.slice (some ⟨lb, 0, none⟩) la cap)) 225 #[.int .i64 (Pl.gt l la).1, .int .u64 (Pl.gt l la).2]
      simpa using this
    have HBX := Lib.hid hbx
    obtain ⟨S, hS⟩ : ∃ S, S = Pl.sink (l.take la) (p.set v (-1)) 0 ((Pl.gt l la).1, (Pl.gt l la).2) := ⟨_, rfl⟩
    have hS' : S = Pl.sink (l.take la) (p.set v (-1)) 0 (Pl.gt l la) := hS
    rw [← hS'] at hmid
    have HMID := Lib.hid hmid
    have HSS := Lib.hid hS
    clear hM2' hbx hmid hS hS'
    go_enter Try.func153, Try.ntmps153
    go_wp2_with (first
      | (go_at_call 177; refine (where_any H ab v _ l p _ HH.out hv).mono ?_; rintro e w' ⟨rfl, rfl⟩)
      | (go_at_call 178; refine (sink_any H lb ab cap _ _ _ (l.take la) (p.set v (-1)) _ HM2'.out hs1 hxl HS2.out).mono ?_; rintro e w2 ⟨rfl, hM3, hK3⟩; rw [← HSS.out] at hM3; have HM3 := Lib.hid hM3; have HK3 := Lib.hid hK3; clear hM3 hK3))
    have HBX2 := Lib.hid (HBX.out.keep HK3.out (fun e => by
      rcases e with e | e | e
      · omega
      · omega
      · have : lb = w.heap.size := by simpa [Value.ownBlock] using e
        omega))
    obtain ⟨_, d1, _, _⟩ := HM3.out.head
    have hSl : S.2.length = n := HMID.out.1.len
    have hxn : (Pl.gt l la).1 < S.2.length := by rw [hSl]; exact HW.out.lt (List.mem_of_getElem? (Pl.gt_of hlal))
    obtain ⟨d2, _⟩ := HM3.out.place hxn
    have HSL := Lib.hid hSl
    clear hSl
    have b0 := HBX2.out.cell 0
    have b1 := HBX2.out.cell 1
    simp at b0 b1
    have hj0 : (0 : Int) ≤ ((Pl.gt l la).1 : Int) := by omega
    have hj1 : ((Pl.gt l la).1 : Int) < (S.2.length : Int) := by omega
    go_quiet (fail)
    by_cases hw0 : Pl.wher S.2 (Pl.gt l la).1 = 0
    · have hbt : (Pl.wher S.2 (Pl.gt l la).1 == 0) = true := by rw [beq_iff_eq]; exact hw0
      have HW0 := Lib.hid hw0
      clear hw0
      have HM4 : Hid (HMem (w2.drewN nq) H (.slice (some ⟨lb, 0, none⟩) S.1.length cap) ab S.1 S.2) := by
        have h := HM3.out
        have e : S.1.length = (l.take la).length := by rw [HSS.out]; exact (Pl.sink_len _ _ 0 _ _ (Nat.le_refl _)).1
        rw [e]
        exact Lib.hid (h.below (below_drewN (Below.refl _ _) _))
      have hs2 : 0 < S.1.length := by
        have e : S.1.length = (l.take la).length := by rw [HSS.out]; exact (Pl.sink_len _ _ 0 _ _ (Nat.le_refl _)).1
        rw [e]; exact hs1
      have HS3 := Lib.hid (show ∀ j, j < S.1.length → (Pl.gt S.1 j).1 < S.2.length from fun j hj => by
        rw [HSL.out]; exact HMID.out.1.lt (List.mem_of_getElem? (Pl.gt_of hj)))
      go_wp2_with (go_at_call 151; refine (rise_any H lb ab cap _ _ _ S.1 S.2 _ HM4.out hs2 hxn HS3.out).mono ?_; rintro e w5 ⟨rfl, hM5, hK5⟩)
      go_ret
      have e : Pl.drop0 l p v = Pl.rise S.1 S.2 0 (Pl.gt l la) := by
        unfold Pl.drop0
        rw [if_neg (by have := HLA.out; omega), ← HLA.out]
        show (if Pl.wher (Pl.sink (l.take la) (p.set v (-1)) 0 (Pl.gt l la)).2 (Pl.gt l la).1 = 0 then _ else _) = _
        rw [show Pl.sink (l.take la) (p.set v (-1)) 0 (Pl.gt l la) = S from HSS.out.symm, if_pos HW0.out]
      refine ⟨.slice (some ⟨lb, 0, none⟩) S.1.length cap, rfl, by rw [e]; exact hM5, ?_, fun b hb => Or.inl hb⟩
      exact HK2.out.trans ((HK3.out.drewN nq).trans hK5 (fun b hb => Or.inl hb)) (fun b hb => Or.inl hb)
    · have hbt : (Pl.wher S.2 (Pl.gt l la).1 == 0) = false := by rw [beq_eq_false_iff_ne]; exact hw0
      have HW0 := Lib.hid hw0
      clear hw0
      go_wp2
      go_ret
      have e : Pl.drop0 l p v = S := by
        unfold Pl.drop0
        rw [if_neg (by have := HLA.out; omega), ← HLA.out]
        show (if Pl.wher (Pl.sink (l.take la) (p.set v (-1)) 0 (Pl.gt l la)).2 (Pl.gt l la).1 = 0 then _ else _) = _
        rw [show Pl.sink (l.take la) (p.set v (-1)) 0 (Pl.gt l la) = S from HSS.out.symm, if_neg HW0.out]
      refine ⟨.slice (some ⟨lb, 0, none⟩) (l.take la).length cap, rfl, by rw [e]; exact HM3.out.below (below_drewN (Below.refl _ _) _), ?_, fun b hb => Or.inl hb⟩
      exact HK2.out.trans (HK3.out.drewN nq) (fun b hb => Or.inl hb)

theorem top_nil (H ab : Nat) (lv : Value) (p : List Int) (w : World) (h : HMem w H lv ab [] p) :
    Calls Try.prog 117 #[.pointer (some ⟨H, 0, none⟩)] w fun e w' => e = .returned (.tuple #[.int .i64 0, .int .u64 0, .bool false]) ∧ ∃ n, w' = w.drewN n :=
  top_any H ab lv _ p w h
theorem top_cons (H ab v k : Nat) (r : List Pl.Item) (lv : Value) (p : List Int) (w : World) (h : HMem w H lv ab ((v, k) :: r) p) :
    Calls Try.prog 117 #[.pointer (some ⟨H, 0, none⟩)] w fun e w' => e = .returned (.tuple #[.int .i64 v, .int .u64 k, .bool true]) ∧ ∃ n, w' = w.drewN n :=
  top_any H ab lv _ p w h

/-- Pop's way: what is told, the heap behind it -/
def HPop (H : Nat) (lv : Value) (ab n : Nat) (l : List Pl.Item) (p : List Int) (w : World) (e : Ending) (w' : World) : Prop :=
  e = .returned (topV l) ∧ Keep (hfoot H lv ab) w w' ∧ ∃ lv', (∀ b, hfoot H lv' ab b → hfoot H lv ab b ∨ w.heap.size ≤ b) ∧
    match l with
    | [] => IsHeap w' H lv' ab n [] p
    | (v, _) :: _ => IsHeap w' H lv' ab n (Pl.drop0 l p v).1 (Pl.drop0 l p v).2

set_option maxHeartbeats 1000000 in
theorem pop_any (H ab n : Nat) (lv : Value) (l : List Pl.Item) (p : List Int) (w : World) (h : IsHeap w H lv ab n l p) :
    Calls Try.prog 116 #[.pointer (some ⟨H, 0, none⟩)] w (HPop H lv ab n l p w) := by
  have HH := Lib.hid h.mem
  have HW := Lib.hid h.wf
  clear h
  cases l with
  | nil =>
    go_enter Try.func116, Try.ntmps116
    go_wp2_with (go_at_call 117; refine (top_nil H ab lv p _ HH.out).mono ?_; rintro e w' ⟨rfl, n1, rfl⟩)
    go_ret3
    exact ⟨rfl, (Keep.refl _ w).drewN _, lv, fun b hb => Or.inl hb, HH.out.below (below_drewN (Below.refl _ _) _), HW.out⟩
  | cons x r =>
    obtain ⟨v, k⟩ := x
    have HM1 := Lib.hid (fun n1 => HH.out.below (below_drewN (Below.refl _ w) n1))
    go_enter Try.func116, Try.ntmps116
    go_wp2_with (first
      | (go_at_call 117; refine (top_cons H ab v k r lv p _ HH.out).mono ?_; rintro e w' ⟨rfl, n1, rfl⟩)
      | (go_at_call 153; refine (drop_any H ab n v k r lv ((v, k) :: r) p _ (HM1.out _) HW.out rfl).mono ?_; rintro e w' ⟨lv', rfl, hM2, hK2, hF2⟩))
    go_ret3
    refine ⟨rfl, (((Keep.refl (hfoot H lv ab) w).drewN _).trans hK2 (fun b hb => Or.inl hb)), lv', hF2, hM2, ?_⟩
    exact (Pl.drop0_spec n ((v, k) :: r) p v k r HW.out rfl).1
end Go.Proofs.Ytbaclbiedepjfaa
