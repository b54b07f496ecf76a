/- contract.lightest: its walk. -/
import Derived.Test.YtbaclbiedepjfaaSrM
import Derived.Test.YtbaclbiedepjfaaMpM
import Derived.Test.YtbaclbiedepjfaaPlCon
set_option autoImplicit false
namespace Go.Proofs.Ytbaclbiedepjfaa
open Go Go.RowKit

/-- the map is turned -/
def MDone (mb N : Nat) (f : Nat → Option Nat) (w : World) (e : Ending) (w' : World) : Prop :=
  e = .returned (.tuple #[]) ∧ IsMapU w' mb N f ∧ Keep (fun b => b = mb) w w'

set_option maxRecDepth 100000 in
set_option maxHeartbeats 1000000 in
theorem least_any (mb vb nb u q v gb go gc n : Nat) (f : Nat → Option Nat) (net : Pl.Net) (w : World) (h : IsMapU w mb n f) (hn : n = net.out.length) (hsz : n ≤ 4096)
    (hu : u < n) (hq : q ≤ 4503599627370496) (cv : w.cell? ⟨vb, 0, none⟩ = some (.int .i64 (v : Int))) (cn : w.cell? ⟨nb, 1, none⟩ = some (.slice (some ⟨gb, go, none⟩) n gc))
    (cg : w.cell? ⟨gb, go + u, none⟩ = some (.bool (net.isGone u))) :
    Calls Try.prog 155 #[.map (some mb), .int .i64 u, .int .u64 q, .pointer (some ⟨vb, 0, none⟩), .pointer (some ⟨nb, 0, none⟩)] w (MDone mb n (Pl.leastF net v f u q) w) := by
  have HH := Lib.hid h
  have hi0 : (0 : Int) ≤ (u : Int) := by omega
  have hi1 : (u : Int) < (n : Int) := by omega
  have HN := Lib.hid hn
  clear h hn
  by_cases huv : u = v
  · have e : Pl.leastF net v f u q = f := by unfold Pl.leastF; rw [if_neg (fun h => h.1 huv)]
    rw [e]
    have hb : ((u : Int) != (v : Int)) = false := by rw [bne_eq_false_iff_eq, huv]
    clear e huv
    go_enter Try.func155, Try.ntmps155
    go_wp2_with (at_lookup; refine wpList_lookU rfl _ _ rfl mb n f HH.out u (by omega) rfl rfl ?_)
    go_end0
    exact ⟨rfl, HH.out, Keep.refl _ _⟩
  · have hb : ((u : Int) != (v : Int)) = true := by rw [bne_iff_ne]; omega
    cases hg : net.isGone u with
    | true =>
      have e : Pl.leastF net v f u q = f := by unfold Pl.leastF; rw [if_neg (fun h => by rw [hg] at h; exact absurd h.2.1 (by simp))]
      rw [e]
      rw [hg] at cg
      clear e huv hg
      go_enter Try.func155, Try.ntmps155
      go_wp2_with (at_lookup; refine wpList_lookU rfl _ _ rfl mb n f HH.out u (by omega) rfl rfl ?_)
      go_end0
      exact ⟨rfl, HH.out, Keep.refl _ _⟩
    | false =>
      rw [hg] at cg
      cases hf : f u with
      | none =>
        have e : Pl.leastF net v f u q = upd f u q := by unfold Pl.leastF; rw [if_pos ⟨huv, hg, by rw [hf]; rfl⟩]; rfl
        rw [e]
        have e1 : (f u).getD 0 = 0 := by rw [hf]; rfl
        have e2 : (f u).isSome = false := by rw [hf]; rfl
        clear e huv hg hf
        go_enter Try.func155, Try.ntmps155
        go_wp2_with (first
          | (at_lookup; refine wpList_lookU rfl _ _ rfl mb n f HH.out u (by omega) rfl rfl ?_; simp only [e1, e2])
          | (at_mapUpdate; refine wpList_putU rfl _ _ _ rfl mb n f HH.out u q hu (by omega) (by omega) rfl rfl rfl ?_; intro w1 hm1 hk1))
        go_end0
        exact ⟨rfl, hm1, hk1⟩
      | some p =>
        have e1 : (f u).getD 0 = p := by rw [hf]; rfl
        have e2 : (f u).isSome = true := by rw [hf]; rfl
        by_cases hlt : q < p
        · have e : Pl.leastF net v f u q = upd f u q := by unfold Pl.leastF; rw [if_pos ⟨huv, hg, by rw [hf]; simp [Pl.lessO, hlt]⟩]; rfl
          rw [e]
          clear e huv hg hf
          go_enter Try.func155, Try.ntmps155
          go_wp2_with (first
            | (at_lookup; refine wpList_lookU rfl _ _ rfl mb n f HH.out u (by omega) rfl rfl ?_; simp only [e1, e2])
            | (at_mapUpdate; refine wpList_putU rfl _ _ _ rfl mb n f HH.out u q hu (by omega) (by omega) rfl rfl rfl ?_; intro w1 hm1 hk1))
          go_end0
          exact ⟨rfl, hm1, hk1⟩
        · have e : Pl.leastF net v f u q = f := by unfold Pl.leastF; rw [if_neg (fun h => by rw [hf] at h; simp [Pl.lessO, hlt] at h)]
          rw [e]
          have hle : p ≤ q := by omega
          clear e huv hg hf hlt
          go_enter Try.func155, Try.ntmps155
          go_wp2_with (at_lookup; refine wpList_lookU rfl _ _ rfl mb n f HH.out u (by omega) rfl rfl ?_; simp only [e1, e2])
          go_end0
          exact ⟨rfl, HH.out, Keep.refl _ _⟩

/-- between two rounds: both maps -/
def LRel (base : Nat) (w0 : World) (mt mf n : Nat) (tf : Pl.F × Pl.F) (wr : World) : Prop :=
  IsMapU wr mt n tf.1 ∧ IsMapU wr mf n tf.2 ∧ Below base w0 wr

theorem LRel.alloc {base mt mf n : Nat} {w0 wr : World} {tf : Pl.F × Pl.F} (h : LRel base w0 mt mf n tf wr) (hb : base ≤ wr.heap.size) (o : Obj) : LRel base w0 mt mf n tf (wr.alloc o) :=
  ⟨h.1.below ((Below.refl _ _).alloc (Nat.le_refl _) _), h.2.1.below ((Below.refl _ _).alloc (Nat.le_refl _) _), h.2.2.trans ((Below.refl _ _).alloc hb _)⟩
theorem LRel.to_ {base mt mf n : Nat} {w0 wr w1 : World} {tf : Pl.F × Pl.F} {f : Pl.F} (h : LRel base w0 mt mf n tf wr) (hm : IsMapU w1 mt n f) (hk : Keep (fun b => b = mt) wr w1) (hne : mt ≠ mf) (hb : base ≤ wr.heap.size) (hmt : base ≤ mt) : LRel base w0 mt mf n (f, tf.2) w1 :=
  ⟨hm, h.2.1.keep hk (fun e => hne e.symm), h.2.2.trans (hk.below hb (fun b e => by omega))⟩
theorem LRel.from_ {base mt mf n : Nat} {w0 wr w1 : World} {tf : Pl.F × Pl.F} {f : Pl.F} (h : LRel base w0 mt mf n tf wr) (hm : IsMapU w1 mf n f) (hk : Keep (fun b => b = mf) wr w1) (hne : mt ≠ mf) (hb : base ≤ wr.heap.size) (hmf : base ≤ mf) : LRel base w0 mt mf n (tf.1, f) w1 :=
  ⟨h.1.keep hk hne, hm, h.2.2.trans (hk.below hb (fun b e => by omega))⟩

/-- the answer: two maps, all new -/
def LDone (n : Nat) (tf : Pl.F × Pl.F) (w : World) (e : Ending) (w' : World) : Prop :=
  ∃ mt mf, e = .returned (.tuple #[.map (some mt), .map (some mf)]) ∧ IsMapU w' mt n tf.1 ∧ IsMapU w' mf n tf.2 ∧ Below w.heap.size w w' ∧ w.heap.size ≤ mt ∧ w.heap.size ≤ mf ∧ mt ≠ mf

set_option maxRecDepth 100000 in
set_option maxHeartbeats 4000000 in
theorem lightest_any (oA gA : Option Addr) (oc gc v : Nat) (rows : List Value) (net : Pl.Net) (w : World)
    (hN : NetMem w w.heap.size oA gA rows net) (hv : v < net.out.length) (hW : ∀ v a, a ∈ net.arcs v → a.2 ≤ 1125899906842624) :
    Calls Try.prog 118 #[.agg #[.slice oA net.out.length oc, .slice gA net.out.length gc], .int .i64 v] w (LDone net.out.length (Pl.lightest net v) w) := by
  obtain ⟨gb, go, rfl, hgb, _, hgc⟩ := hN.goneAt (by omega)
  obtain ⟨ob, oo, rfl, hob, _, hoc⟩ := hN.outAt (by omega)
  have hsz := hN.sz
  have hmm := @run_makeMap Try.prog
  obtain ⟨w1, hw1⟩ : ∃ w1, w1 = ((w.alloc (.cells #[.slice (some ⟨ob, oo, none⟩) net.out.length oc, .slice (some ⟨gb, go, none⟩) net.out.length gc] 51)).alloc (.cells #[.int .i64 v] 3)) := ⟨_, rfl⟩
  have hs1 : w1.heap.size = w.heap.size + 2 := by rw [hw1]; simp
  have hR0 : LRel (w.heap.size + 2) w1 (w.heap.size + 2) (w.heap.size + 3) net.out.length (fun _ => none, fun _ => none) ((w1.alloc (.map #[] 0)).alloc (.map #[] 0)) := by
    refine ⟨?_, ?_, ((Below.refl _ _).alloc (by omega) _).alloc (by simp; omega) _⟩
    · have := (IsMapU.made w1 net.out.length).below ((Below.refl _ _).alloc (Nat.le_refl _) (.map #[] 0))
      rw [hs1] at this; exact this
    · have := IsMapU.made (w1.alloc (.map #[] 0)) net.out.length
      rw [show (w1.alloc (.map #[] 0)).heap.size = w.heap.size + 3 by simp [hs1]] at this; exact this
  have hB1 : Below w.heap.size w w1 := by rw [hw1]; exact ((Below.refl _ _).alloc (Nat.le_refl _) _).alloc (by simp) _
  have hbn : Blk w1 w.heap.size 51 #[.slice (some ⟨ob, oo, none⟩) net.out.length oc, .slice (some ⟨gb, go, none⟩) net.out.length gc] := by
    rw [hw1]; exact (Blk.new w _ _).alloc _
  have hbv : Blk w1 (w.heap.size + 1) 3 #[.int .i64 v] := by
    have := Blk.new (w.alloc (.cells #[.slice (some ⟨ob, oo, none⟩) net.out.length oc, .slice (some ⟨gb, go, none⟩) net.out.length gc] 51)) 3 #[.int .i64 v]
    rw [hw1]; simpa using this
  have HB1 := Lib.hid hB1
  have HBN := Lib.hid hbn
  have HBV := Lib.hid hbv
  have HW1 := Lib.hid hw1
  have HS1 := Lib.hid hs1
  have HR0 := Lib.hid hR0
  have HN := Lib.hid hN
  have HWT := Lib.hid hW
  have HG := Lib.hid hgc
  have HO := Lib.hid hoc
  clear hB1 hbn hbv hw1 hs1 hR0 hN hW hgc hoc
  go_enter Try.func118, Try.ntmps118
  go_wp2
  go_loopw [17] (fun i wr => ∃ k : Nat, k ≤ net.out.length ∧ i = .int .i64 k ∧ Hid (LRel (w.heap.size + 2) w1 (w.heap.size + 2) (w.heap.size + 3) net.out.length (Pl.lightTo net v (List.range k)) wr)) (fun i _ => net.out.length - (intOf i).toNat)
  case atStart =>
    refine ⟨0, Nat.zero_le _, rfl, ?_⟩
    have := HR0.out
    rw [HW1.out] at this
    rw [HW1.out]
    exact Lib.hid this
  case round =>
    obtain ⟨k, hk, rfl, hrel2⟩ := hrel
    have HR := hrel2
    clear hrel2
    by_cases hlt : k < net.out.length
    · have hB2 : Below w.heap.size w wr := HB1.out.trans (HR.out.2.2.mono (by omega))
      obtain ⟨A, ca, o1, oR⟩ := HO.out k hlt
      have o2 := (hB2.cell (p := ⟨ob, oo + k, none⟩) hob).trans o1
      have hrl := HN.out.rl k
      have HOR := Lib.hid oR
      have hi0 : (0 : Int) ≤ (k : Int) := by omega
      have hi1 : (k : Int) < (net.out.length : Int) := by omega
      clear hB2 o1 oR
      go_wp2
      go_loopw [24] (fun i wr => ∃ j : Nat, j ≤ (net.arcs k).length ∧ i = .int .i64 j ∧ Hid (LRel (w.heap.size + 2) w1 (w.heap.size + 2) (w.heap.size + 3) net.out.length (Pl.lightRow net v k (Pl.lightTo net v (List.range k)) ((net.arcs k).take j)) wr)) (fun i _ => (net.arcs k).length - (intOf i).toNat)
      case atStart => exact ⟨0, Nat.zero_le _, rfl, HR⟩
      case round =>
        obtain ⟨j, hj, rfl, hrel2⟩ := hrel
        have HI := hrel2
        clear hrel2
        by_cases hjl : j < (net.arcs k).length
        · obtain ⟨x, hx⟩ : ∃ x, (net.arcs k)[j]? = some x := ⟨_, List.getElem?_eq_getElem hjl⟩
          have hxm := List.mem_of_getElem? hx
          have hxn : x.1 < net.out.length := HN.out.ok.to k x hxm
          have hxw := HWT.out k x hxm
          have hB3 : Below w.heap.size w wr := HB1.out.trans (HI.out.2.2.mono (by omega))
          obtain ⟨bb, bo, hA, hbb, _, hac⟩ := arcAt (HOR.out.below hB3) (by omega)
          subst hA
          obtain ⟨a0, a1⟩ := hac j x hx
          have hsw : w.heap.size + 2 ≤ wr.heap.size := by have := HI.out.2.2.size; have := HS1.out; omega
          have g5 := (hB3.cell (p := ⟨gb, go + x.1, none⟩) hgb).trans (HG.out x.1 hxn)
          have g6 := (hB3.cell (p := ⟨gb, go + k, none⟩) hgb).trans (HG.out k hlt)
          have hbn5 := HBN.out.below HI.out.2.2 (by omega)
          have hbv5 := HBV.out.below HI.out.2.2 (by omega)
          have n1 := hbn5.cell 1
          have v0 := hbv5.cell 0
          simp at n1 v0
          have hgb5 : gb < wr.heap.size := by omega
          have hbb5 : bb < wr.heap.size := by omega
          have hwn5 : w.heap.size < wr.heap.size := by omega
          have hwv5 : w.heap.size + 1 < wr.heap.size := by omega
          have hj2 : (0 : Int) ≤ (j : Int) := by omega
          have hj3 : (j : Int) < ((net.arcs k).length : Int) := by omega
          have HA := Lib.hid (HI.out.alloc hsw (.cells #[.int .i64 x.1, .int .u64 x.2] 55))
          have HBX := Lib.hid (Blk.new wr 55 #[.int .i64 x.1, .int .u64 x.2])
          have HX := Lib.hid hx
          have hszA : w.heap.size + 2 ≤ (wr.alloc (.cells #[.int .i64 x.1, .int .u64 x.2] 55)).heap.size := by simp; omega
          have HSZA := Lib.hid hszA
          have n2 := (World.cell?_alloc_lt wr (.cells #[.int .i64 x.1, .int .u64 x.2] 55) ⟨w.heap.size, 1, none⟩ hwn5).trans n1
          have v2 := (World.cell?_alloc_lt wr (.cells #[.int .i64 x.1, .int .u64 x.2] 55) ⟨w.heap.size + 1, 0, none⟩ hwv5).trans v0
          have g7 := (World.cell?_alloc_lt wr (.cells #[.int .i64 x.1, .int .u64 x.2] 55) ⟨gb, go + x.1, none⟩ hgb5).trans g5
          have g8 := (World.cell?_alloc_lt wr (.cells #[.int .i64 x.1, .int .u64 x.2] 55) ⟨gb, go + k, none⟩ hgb5).trans g6
          have HNV := Lib.hid (And.intro n2 (And.intro v2 (And.intro g7 g8)))
          clear hx hac hB3 hbn5 hbv5 hszA n2 v2 g7 g8 g5 g6 n1
          by_cases hvk : k = v
          · have hb : ((v : Int) == (k : Int)) = true := by rw [beq_iff_eq, hvk]
            have HVK := Lib.hid hvk
            clear hvk
            go_wp2_with (go_at_call 155; refine (least_any (w.heap.size + 3) (w.heap.size + 1) w.heap.size x.1 x.2 v gb go gc net.out.length _ net _ HA.out.2.1 rfl hsz hxn (by omega) HNV.out.2.1 HNV.out.1 HNV.out.2.2.1).mono ?_; rintro e w6 ⟨rfl, hm6, hk6⟩)
            go_roundw
            case rel =>
              refine ⟨j + 1, by omega, by go_num, ?_⟩
              rw [Pl.take_snoc HX.out, Pl.lightRow_snoc]
              unfold Pl.lightStep
              rw [if_pos HVK.out]
              exact Lib.hid (HA.out.from_ hm6 hk6 (by omega) HSZA.out (by omega))
            case measure => simp [intOf]; omega
          · have hb : ((v : Int) == (k : Int)) = false := by rw [beq_eq_false_iff_ne]; omega
            have HVK := Lib.hid hvk
            clear hvk
            by_cases hvx : x.1 = v
            · have hb2 : ((v : Int) == (x.1 : Int)) = true := by rw [beq_iff_eq, hvx]
              have HVX := Lib.hid hvx
              clear hvx
              go_wp2_with (go_at_call 155; refine (least_any (w.heap.size + 2) (w.heap.size + 1) w.heap.size k x.2 v gb go gc net.out.length _ net _ HA.out.1 rfl hsz hlt (by omega) HNV.out.2.1 HNV.out.1 HNV.out.2.2.2).mono ?_; rintro e w6 ⟨rfl, hm6, hk6⟩)
              go_roundw
              case rel =>
                refine ⟨j + 1, by omega, by go_num, ?_⟩
                rw [Pl.take_snoc HX.out, Pl.lightRow_snoc]
                unfold Pl.lightStep
                rw [if_neg HVK.out, if_pos HVX.out]
                exact Lib.hid (HA.out.to_ hm6 hk6 (by omega) HSZA.out (by omega))
              case measure => simp [intOf]; omega
            · have hb2 : ((v : Int) == (x.1 : Int)) = false := by rw [beq_eq_false_iff_ne]; omega
              have HVX := Lib.hid hvx
              clear hvx
              go_wp2
              go_roundw
              case rel =>
                refine ⟨j + 1, by omega, by go_num, ?_⟩
                rw [Pl.take_snoc HX.out, Pl.lightRow_snoc]
                unfold Pl.lightStep
                rw [if_neg HVK.out, if_neg HVX.out]
                exact HA
              case measure => simp [intOf]; omega
        · go_wp2
          go_roundw
          case rel =>
            refine ⟨k + 1, by omega, by go_num, ?_⟩
            have h := HI.out
            rw [List.take_of_length_le (by omega)] at h
            rw [List.range_succ, Pl.lightTo_snoc]
            exact Lib.hid h
          case measure => simp [intOf]; omega
    · have hkn : k = net.out.length := by omega
      have HK := Lib.hid hkn
      clear hkn
      go_wp2
      go_ret2
      have h := HR.out
      rw [HK.out] at h
      exact ⟨_, _, rfl, h.1, h.2.1, HB1.out.trans (h.2.2.mono (by omega)), by omega, by omega, by omega⟩
end Go.Proofs.Ytbaclbiedepjfaa
