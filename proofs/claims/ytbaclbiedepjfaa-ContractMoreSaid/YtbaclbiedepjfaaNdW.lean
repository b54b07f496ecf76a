/- contract.may, contract.Node: their walks. -/
import Derived.Test.YtbaclbiedepjfaaRkW
import Derived.Test.YtbaclbiedepjfaaKpW
set_option autoImplicit false
namespace Go.Proofs.Ytbaclbiedepjfaa
open Go Go.RowKit

def toNet (rows : List RowD) (gone : List Bool) : Pl.Net := ⟨rows.map fun r => r.l.map fun x => (x.1.toNat, x.2), gone⟩
theorem toNet_len (rows : List RowD) (gone : List Bool) : (toNet rows gone).out.length = rows.length := by simp [toNet]
theorem toNet_arcs {rows : List RowD} {gone : List Bool} {v : Nat} {a : Nat × Nat} (h : a ∈ (toNet rows gone).arcs v) : ∃ r x, rows[v]? = some r ∧ x ∈ r.l ∧ a = (x.1.toNat, x.2) := by
  unfold Pl.Net.arcs toNet at h
  simp only [List.getD, List.getElem?_map] at h
  cases hr : rows[v]? with
  | none => rw [hr] at h; simp at h
  | some r =>
    rw [hr] at h
    simp only [Option.map_some, Option.getD_some, List.mem_map] at h
    obtain ⟨x, hx, e⟩ := h
    exact ⟨r, x, rfl, hx, e.symm⟩
theorem netRight_parts {rows : List RowD} {gone : List Bool} (h : netRight rows gone = true) : 1 ≤ rows.length ∧ rows.length ≤ 4096 ∧ gone.length = rows.length ∧
    ∀ r ∈ rows, ∀ x ∈ r.l, 0 ≤ x.1 ∧ x.1 < rows.length ∧ 1 ≤ x.2 ∧ x.2 ≤ 1125899906842624 := by
  unfold netRight at h
  simp only [Bool.and_eq_true, decide_eq_true_eq, Bool.not_eq_true', List.any_eq_false, Bool.not_eq_true] at h
  obtain ⟨⟨⟨h1, h2⟩, h3⟩, h4⟩ := h
  refine ⟨h1, h2, h3, fun r hr x hx => ?_⟩
  have := h4 r hr x hx
  unfold arcWrong at this
  simp only [Bool.or_eq_false_iff, decide_eq_false_iff_not] at this
  omega

theorem RawNet.mem {w : World} {B : Nat} {oA gA : Option Addr} {rows : List RowD} {gone : List Bool} (h : RawNet w B oA gA rows gone) (hR : netRight rows gone = true) :
    NetMem w B oA gA (rows.map RowD.V) (toNet rows gone) ∧ (∀ v a, a ∈ (toNet rows gone).arcs v → a.2 ≤ 1125899906842624) ∧ (∀ v a, a ∈ (toNet rows gone).arcs v → 0 < a.2) := by
  obtain ⟨h1, h2, h3, h4⟩ := netRight_parts hR
  have hok : Pl.NetOk (toNet rows gone) := by
    refine ⟨by rw [toNet_len]; exact h3, fun v a ha => ?_⟩
    obtain ⟨r, x, hr, hx, rfl⟩ := toNet_arcs ha
    have := h4 r (List.mem_of_getElem? hr) x hx
    rw [toNet_len]
    show x.1.toNat < rows.length
    omega
  have hrow : ∀ v, v < rows.length → ∃ r, rows[v]? = some r ∧ (toNet rows gone).arcs v = r.l.map fun x => (x.1.toNat, x.2) := by
    intro v hv
    refine ⟨_, List.getElem?_eq_getElem hv, ?_⟩
    unfold Pl.Net.arcs toNet
    simp [List.getD, hv]
  refine ⟨⟨by rw [toNet_len]; exact h.out, fun v hv => ?_, ?_, hok, by rw [toNet_len]; exact h2, fun v => ?_⟩, ?_, ?_⟩
  · rw [toNet_len] at hv
    obtain ⟨r, hr, e⟩ := hrow v hv
    rw [e, List.length_map]
    refine ⟨r.A, r.c, by rw [List.getElem?_map, hr]; rfl, ?_⟩
    have he : (r.l.map fun x => (x.1.toNat, x.2)).flatMap cellsI = r.l.flatMap cellsR := by
      have hx := fun x hx => (h4 r (List.mem_of_getElem? hr) x hx).1
      generalize r.l = l at hx
      induction l with
      | nil => rfl
      | cons x l ih =>
        have h0 := hx x List.mem_cons_self
        rw [List.map_cons, List.flatMap_cons, List.flatMap_cons, ih (fun y hy => hx y (List.mem_cons_of_mem _ hy))]
        congr 1
        show [Value.int .i64 (x.1.toNat : Int), Value.int .u64 x.2] = [Value.int .i64 x.1, Value.int .u64 x.2]
        rw [Int.toNat_of_nonneg h0]
    rw [he]
    exact h.row r (List.mem_of_getElem? hr)
  · rw [toNet_len, ← h3]; exact h.gn
  · by_cases hv : v < rows.length
    · obtain ⟨r, hr, e⟩ := hrow v hv
      rw [e, List.length_map]
      exact h.rl r (List.mem_of_getElem? hr)
    · unfold Pl.Net.arcs toNet
      simp [List.getD, hv]
  · intro v a ha
    obtain ⟨r, x, hr, hx, rfl⟩ := toNet_arcs ha
    exact (h4 r (List.mem_of_getElem? hr) x hx).2.2.2
  · intro v a ha
    obtain ⟨r, x, hr, hx, rfl⟩ := toNet_arcs ha
    exact (h4 r (List.mem_of_getElem? hr) x hx).2.2.1

def mayB (rows : List RowD) (gone : List Bool) (v h s : Int) (L : List Int) : Bool :=
  netRight rows gone && decide (0 ≤ v) && decide (v < rows.length) && !(gone.getD v.toNat false) && optRight h s L

set_option maxRecDepth 100000 in
set_option maxHeartbeats 8000000 in
theorem may_any (oA gA rA : Option Addr) (oc gc rc : Nat) (rows : List RowD) (gone : List Bool) (v h s : Int) (L : List Int) (w : World)
    (hN : RawNet w w.heap.size oA gA rows gone) (hL : Reads w w.heap.size 1 rA L.length (L.map (Value.int .i64))) (hs : L.length ≤ 65536) :
    Calls Try.prog 77 #[.agg #[.slice oA rows.length oc, .slice gA gone.length gc], .int .i64 v, .agg #[.int .i64 h, .int .i64 s, .slice rA L.length rc]] w (Fresh (.bool (mayB rows gone v h s L)) w) := by
  obtain ⟨W, hW⟩ : ∃ W, W = (w.alloc (.cells #[.slice oA rows.length oc, .slice gA gone.length gc] 51)).alloc (.cells #[.int .i64 h, .int .i64 s, .slice rA L.length rc] 27) := ⟨_, rfl⟩
  have hB : Below w.heap.size w W := by rw [hW]; exact ((Below.refl _ _).alloc (Nat.le_refl _) _).alloc (by simp) _
  have hs0 : W.heap.size = w.heap.size + 2 := by rw [hW]; simp
  have hb0 : Blk W w.heap.size 51 #[.slice oA rows.length oc, .slice gA gone.length gc] := by rw [hW]; exact (Blk.new w _ _).alloc _
  have hb1 : Blk W (w.heap.size + 1) 27 #[.int .i64 h, .int .i64 s, .slice rA L.length rc] := by
    have := Blk.new (w.alloc (.cells #[.slice oA rows.length oc, .slice gA gone.length gc] 51)) 27 #[.int .i64 h, .int .i64 s, .slice rA L.length rc]
    rw [hW]; simpa using this
  have hrs := hN.sz
  have hgs := hN.gz
  have HC := Lib.hid (nright_any oA gA oc gc rows gone W ((hN.below hB).more hB.size))
  have HB0 := Lib.hid hb0
  have HB1 := Lib.hid hb1
  have HW := Lib.hid hW
  have HB := Lib.hid hB
  have HN := Lib.hid hN
  have HL := Lib.hid hL
  have HS0 := Lib.hid hs0
  clear hb0 hb1 hW hB hN hL hs0
  cases hr : netRight rows gone with
  | false =>
    have e : mayB rows gone v h s L = false := by unfold mayB; rw [hr]; rfl
    rw [e]
    rw [hr] at HC
    clear hr e
    go_enter Try.func77, Try.ntmps77
    go_wp2_with (go_at_call 122; rw [← HW.out]; refine (Hid.out HC).mono ?_; rintro e w1 ⟨rfl, hc1⟩)
    go_ret
    exact ⟨rfl, HB.out.trans (hc1.mono HB.out.size)⟩
  | true =>
    rw [hr] at HC
    obtain ⟨q1, q2, q3, _⟩ := netRight_parts hr
    by_cases hv0 : 0 ≤ v
    · by_cases hv1 : v < rows.length
      · obtain ⟨x, rfl⟩ : ∃ x : Nat, v = (x : Int) := ⟨v.toNat, by omega⟩
        obtain ⟨gb, go, rfl, hgb, _, hgc⟩ := HN.out.gn.lit (by omega) (by omega)
        have hxg : x < gone.length := by omega
        have hgx := hgc x (.bool (gone.getD x false)) (by simp [List.getD, hxg])
        have hi1 : (x : Int) < (gone.length : Int) := by omega
        have HQ3 := Lib.hid q3
        clear q3 hgc
        cases hg : gone.getD x false with
        | true =>
          rw [hg] at hgx
          have HGX := Lib.hid hgx
          have e : mayB rows gone x h s L = false := by unfold mayB; rw [Int.toNat_natCast, hg]; simp
          rw [e]
          clear hr e hg hgx
          go_enter Try.func77, Try.ntmps77
          go_wp2_with (go_at_call 122; rw [← HW.out]; refine (Hid.out HC).mono ?_; rintro e w1 ⟨rfl, hc1⟩
                       have HC1 := Lib.hid hc1
                       have n0 := (HB0.out.below hc1 HB0.out.lt).cell 0
                       have n1 := (HB0.out.below hc1 HB0.out.lt).cell 1
                       simp at n0 n1
                       have n2 := (hc1.cell (p := ⟨gb, go + x, none⟩) (Nat.lt_of_lt_of_le hgb HB.out.size)).trans ((HB.out.cell (p := ⟨gb, go + x, none⟩) hgb).trans HGX.out)
                       clear hc1)
          go_ret
          exact ⟨rfl, HB.out.trans (HC1.out.mono HB.out.size)⟩
        | false =>
          rw [hg] at hgx
          have HGX := Lib.hid hgx
          have e : mayB rows gone x h s L = optRight h s L := by unfold mayB; rw [Int.toNat_natCast, hg, hr]; simp [hv1]
          rw [e]
          clear hr e hg hgx
          go_enter Try.func77, Try.ntmps77
          go_wp2_with (first
            | (go_at_call 122; rw [← HW.out]; refine (Hid.out HC).mono ?_; rintro e w1 ⟨rfl, hc1⟩
               have HC1 := Lib.hid hc1
               have n0 := (HB0.out.below hc1 HB0.out.lt).cell 0
               have n1 := (HB0.out.below hc1 HB0.out.lt).cell 1
               have n3 := (HB1.out.below hc1 HB1.out.lt).cell 0
               have n4 := (HB1.out.below hc1 HB1.out.lt).cell 1
               have n5 := (HB1.out.below hc1 HB1.out.lt).cell 2
               simp at n0 n1 n3 n4 n5
               have n2 := (hc1.cell (p := ⟨gb, go + x, none⟩) (Nat.lt_of_lt_of_le hgb HB.out.size)).trans ((HB.out.cell (p := ⟨gb, go + x, none⟩) hgb).trans HGX.out)
               clear hc1)
            | (go_at_call 18; refine (oright_any rA rc h s L w1 (((HL.out.below HB.out).below (HC1.out.mono HB.out.size)).more (Nat.le_trans HB.out.size HC1.out.size)) hs).mono ?_; rintro e w2 ⟨rfl, hc2⟩))
          go_ret
          exact ⟨rfl, (HB.out.trans (HC1.out.mono HB.out.size)).trans (hc2.mono (Nat.le_trans HB.out.size HC1.out.size))⟩
      · have e : mayB rows gone v h s L = false := by unfold mayB; simp [hv1]
        rw [e]
        clear hr e q3
        go_enter Try.func77, Try.ntmps77
        go_wp2_with (go_at_call 122; rw [← HW.out]; refine (Hid.out HC).mono ?_; rintro e w1 ⟨rfl, hc1⟩
                     have HC1 := Lib.hid hc1
                     have n0 := (HB0.out.below hc1 HB0.out.lt).cell 0
                     simp at n0
                     clear hc1)
        go_ret
        exact ⟨rfl, HB.out.trans (HC1.out.mono HB.out.size)⟩
    · have e : mayB rows gone v h s L = false := by unfold mayB; simp [hv0]
      rw [e]
      clear hr e q3
      go_enter Try.func77, Try.ntmps77
      go_wp2_with (go_at_call 122; rw [← HW.out]; refine (Hid.out HC).mono ?_; rintro e w1 ⟨rfl, hc1⟩)
      go_ret
      exact ⟨rfl, HB.out.trans (hc1.mono HB.out.size)⟩

/-- what Node answers -/
def nodeT (rows : List RowD) (gone : List Bool) (v h s : Int) (L : List Int) : List Tri :=
  if mayB rows gone v h s L then Pl.kept (toNet rows gone) v.toNat h.toNat s.toNat else []

set_option maxRecDepth 100000 in
set_option maxHeartbeats 8000000 in
theorem node_any (oA gA rA : Option Addr) (oc gc rc : Nat) (rows : List RowD) (gone : List Bool) (v h s : Int) (L : List Int) (w : World)
    (hN : RawNet w w.heap.size oA gA rows gone) (hL : Reads w w.heap.size 1 rA L.length (L.map (Value.int .i64))) (hs : L.length ≤ 65536) :
    Calls Try.prog 20 #[.agg #[.slice oA rows.length oc, .slice gA gone.length gc], .int .i64 v, .agg #[.int .i64 h, .int .i64 s, .slice rA L.length rc]] w (KDone (nodeT rows gone v h s L) w) := by
  obtain ⟨W, hW⟩ : ∃ W, W = (w.alloc (.cells #[.slice oA rows.length oc, .slice gA gone.length gc] 51)).alloc (.cells #[.int .i64 h, .int .i64 s, .slice rA L.length rc] 27) := ⟨_, rfl⟩
  have hB : Below w.heap.size w W := by rw [hW]; exact ((Below.refl _ _).alloc (Nat.le_refl _) _).alloc (by simp) _
  have hb0 : Blk W w.heap.size 51 #[.slice oA rows.length oc, .slice gA gone.length gc] := by rw [hW]; exact (Blk.new w _ _).alloc _
  have hb1 : Blk W (w.heap.size + 1) 27 #[.int .i64 h, .int .i64 s, .slice rA L.length rc] := by
    have := Blk.new (w.alloc (.cells #[.slice oA rows.length oc, .slice gA gone.length gc] 51)) 27 #[.int .i64 h, .int .i64 s, .slice rA L.length rc]
    rw [hW]; simpa using this
  have HC := Lib.hid (may_any oA gA rA oc gc rc rows gone v h s L W ((hN.below hB).more hB.size) ((hL.below hB).more hB.size) hs)
  have HB0 := Lib.hid hb0
  have HB1 := Lib.hid hb1
  have HW := Lib.hid hW
  have HB := Lib.hid hB
  have HN := Lib.hid hN
  clear hb0 hb1 hW hB hN hL
  cases hm : mayB rows gone v h s L with
  | false =>
    have e : nodeT rows gone v h s L = [] := by unfold nodeT; rw [hm]; rfl
    rw [e]
    rw [hm] at HC
    clear hm e
    go_enter Try.func20, Try.ntmps20
    go_wp2_with (go_at_call 77; rw [← HW.out]; refine (Hid.out HC).mono ?_; rintro e w1 ⟨rfl, hc1⟩; have HC1 := Lib.hid hc1; clear hc1)
    go_ret2
    exact ⟨_, _, rfl, World.ownsRow_nil _ _ _ _, World.ownsRow_nil _ _ _ _, HB.out.trans (HC1.out.mono HB.out.size)⟩
  | true =>
    have e : nodeT rows gone v h s L = Pl.kept (toNet rows gone) v.toNat h.toNat s.toNat := by unfold nodeT; rw [hm]; rfl
    rw [e]
    have hp : netRight rows gone = true ∧ (0 ≤ v ∧ v < rows.length) ∧ (1 ≤ h ∧ h ≤ 1000) ∧ (1 ≤ s ∧ s ≤ 1000) := by
      unfold mayB optRight within at hm
      simp only [Bool.and_eq_true, decide_eq_true_eq] at hm
      obtain ⟨⟨⟨⟨a1, a2⟩, a3⟩, _⟩, ⟨a5, a6⟩, _⟩ := hm
      exact ⟨a1, ⟨a2, a3⟩, a5, a6⟩
    obtain ⟨hnr, ⟨v0, v1⟩, ⟨h0, h1⟩, ⟨s0, s1⟩⟩ := hp
    obtain ⟨x, rfl⟩ : ∃ x : Nat, v = (x : Int) := ⟨v.toNat, by omega⟩
    obtain ⟨hh, rfl⟩ : ∃ x : Nat, h = (x : Int) := ⟨h.toNat, by omega⟩
    obtain ⟨ss, rfl⟩ : ∃ x : Nat, s = (x : Int) := ⟨s.toNat, by omega⟩
    simp only [Int.toNat_natCast]
    rw [hm] at HC
    obtain ⟨_, _, q3, _⟩ := netRight_parts hnr
    have HNR := Lib.hid hnr
    have HQ3 := Lib.hid q3
    have hxv : x < rows.length := by omega
    have hss : ss ≤ 1000 := by omega
    have HK : Hid (∀ W', Below w.heap.size w W' → Calls Try.prog 78 #[.agg #[.slice oA rows.length oc, .slice gA gone.length gc], .int .i64 x, .agg #[.int .i64 hh, .int .i64 ss, .slice rA L.length rc]] W' (KDone (Pl.kept (toNet rows gone) x hh ss) W')) := Lib.hid (by
      intro W' hW'
      obtain ⟨m1, m2, _⟩ := ((HN.out.below hW').more hW'.size).mem hnr
      have := kept_any oA gA oc gc x hh ss (.slice rA L.length rc) (rows.map RowD.V) (toNet rows gone) W' m1 (by rw [toNet_len]; exact hxv) m2 hss
      rw [toNet_len] at this
      rw [q3]
      exact this)
    clear hm e hnr q3
    go_enter Try.func20, Try.ntmps20
    go_wp2_with (first
      | (go_at_call 77; rw [← HW.out]; refine (Hid.out HC).mono ?_; rintro e w1 ⟨rfl, hc1⟩
         have n0 := (HB0.out.below hc1 HB0.out.lt).cell 0
         have n1 := (HB0.out.below hc1 HB0.out.lt).cell 1
         have n3 := (HB1.out.below hc1 HB1.out.lt).cell 0
         have n4 := (HB1.out.below hc1 HB1.out.lt).cell 1
         have n5 := (HB1.out.below hc1 HB1.out.lt).cell 2
         simp at n0 n1 n3 n4 n5
         have HC1 := Lib.hid (HB.out.trans (hc1.mono HB.out.size)); clear hc1)
      | (go_at_call 78; refine (HK.out w1 HC1.out).mono ?_; rintro e w2 ⟨lv, ov, rfl, hl2, ho2, hc2⟩))
    go_ret2
    exact ⟨lv, ov, rfl, own_base hl2 HC1.out.size, own_base ho2 HC1.out.size, HC1.out.trans (hc2.mono HC1.out.size)⟩
end Go.Proofs.Ytbaclbiedepjfaa
