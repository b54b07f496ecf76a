/- contract.kept: its lists in memory. -/
import Derived.Test.YtbaclbiedepjfaaSrW
import Derived.Test.YtbaclbiedepjfaaLiW
import Derived.Test.YtbaclbiedepjfaaClW
set_option autoImplicit false
namespace Go.Proofs.Ytbaclbiedepjfaa
open Go Go.RowKit

abbrev Tri := Nat × Nat × Nat
def cellsA (t : Tri) : List Value := [.int .i64 t.2.1, .int .u64 t.2.2]
theorem cellsA_len (t : Tri) : (cellsA t).length = 2 := rfl
def cellsU (t : Tri) : Value := .int .i64 t.1

/-- both lists: ways by a node, and from where they come -/
structure KRel (base : Nat) (w2 : World) (T : List Tri) (lv ov : Value) (wr : World) : Prop where
  l : wr.ownsRow base 55 2 lv T.length (T.flatMap cellsA)
  o : wr.ownsRow base 3 1 ov T.length (T.map cellsU)
  b : Below base w2 wr

theorem own_own_ne {w : World} {b1 b2 s1 s2 n1 n2 : Nat} {e1 e2 : TypeId} {v1 v2 : Value} {x1 x2 : List Value} (h1 : w.ownsRow b1 e1 s1 v1 n1 x1) (h2 : w.ownsRow b2 e2 s2 v2 n2 x2) (hne : e1 ≠ e2) :
    v1.ownBlock = none ∨ v1.ownBlock ≠ v2.ownBlock := by
  rcases h2.2 with ⟨rfl, _⟩ | ⟨g, cap, cur, rfl, _, hh, _⟩
  · rcases h1.2 with ⟨rfl, _⟩ | ⟨g', cap', cur', rfl, _, hh', _⟩
    · exact Or.inl rfl
    · exact Or.inr (by simp [Value.ownBlock])
  · exact Or.inr (own_blk_ne h1 (g := g) (t := e2) (cs := cur) hh hne)

theorem KRel.below {base : Nat} {w2 wr w' : World} {T : List Tri} {lv ov : Value} (h : KRel base w2 T lv ov wr) (hb : Below wr.heap.size wr w') (hs : base ≤ wr.heap.size) : KRel base w2 T lv ov w' :=
  ⟨own_below h.l hb, own_below h.o hb, h.b.trans (hb.mono hs)⟩

theorem KRel.push {base : Nat} {w2 wr w6 w7 : World} {T : List Tri} {lv ov lv' ov' : Value} {t : Tri} {A B : Obj} (h : KRel base w2 T lv ov wr) (hs : base ≤ wr.heap.size)
    (h1 : w6.ownsRow base 55 2 lv' (T.length + 1) (T.flatMap cellsA ++ cellsA t)) (g1 : (wr.alloc A).grownBy w6 lv.ownBlock)
    (h2 : w7.ownsRow base 3 1 ov' (T.length + 1) (T.map cellsU ++ [cellsU t])) (g2 : (w6.alloc B).grownBy w7 ov.ownBlock) : KRel base w2 (T ++ [t]) lv' ov' w7 := by
  have ho6 : w6.ownsRow base 3 1 ov T.length (T.map cellsU) := (h.o.alloc A).kept g1 (own_own_ne (h.o.alloc A) (h.l.alloc A) (by decide))
  have hl7 := (h1.alloc B).kept g2 (own_own_ne (h1.alloc B) (ho6.alloc B) (by decide))
  have hs6 : base ≤ w6.heap.size := Nat.le_trans (by simp; omega) g1.size
  refine ⟨by simpa using hl7, by simpa using h2, ?_⟩
  refine (((h.b.alloc hs A).grown g1 (by simp; omega) (fun k e => (h.l.lt k e).1)).alloc hs6 B).grown g2 (by simp; omega) (fun k e => (h.o.lt k e).1)

theorem KRel.o6 {base : Nat} {w2 wr w6 : World} {T : List Tri} {lv ov : Value} {A : Obj} (h : KRel base w2 T lv ov wr) (g1 : (wr.alloc A).grownBy w6 lv.ownBlock) : w6.ownsRow base 3 1 ov T.length (T.map cellsU) :=
  (h.o.alloc A).kept g1 (own_own_ne (h.o.alloc A) (h.l.alloc A) (by decide))

/-- the net without its node -/
theorem NetMem.without {w : World} {B g gc v : Nat} {oA gA : Option Addr} {rows : List Value} {net : Pl.Net} (h : NetMem w B oA gA rows net) (hB : B ≤ w.heap.size)
    (hg : w.ownsRow 0 4 1 (.slice (some ⟨g, 0, none⟩) net.out.length gc) net.out.length ((net.gone.set v true).map Value.bool)) : NetMem w w.heap.size oA (some ⟨g, 0, none⟩) rows (net.without v) :=
  ⟨h.out.more hB, fun u hu => by
    obtain ⟨A, c, h1, h2⟩ := h.row u hu
    exact ⟨A, c, h1, h2.more hB⟩, Reads.of_own hg, Pl.without_ok h.ok, h.sz, h.rl⟩

theorem own_base {w : World} {b b' size n : Nat} {e : TypeId} {v : Value} {xs : List Value} (h : w.ownsRow b e size v n xs) (hb : b' ≤ b) : w.ownsRow b' e size v n xs := by
  rcases h with ⟨h1, h2 | ⟨g, cap, cur, hv, hg, h3⟩⟩
  · exact ⟨h1, Or.inl h2⟩
  · exact ⟨h1, Or.inr ⟨g, cap, cur, hv, Nat.le_trans hb hg, h3⟩⟩

/-- behind the set-up of kept -/
structure KSet (w W : World) (oA : Option Addr) (oc g gc v mt mf hops settles : Nat) (rk : Value) (rows : List Value) (net : Pl.Net) : Prop where
  box : Blk W w.heap.size 51 #[.slice oA net.out.length oc, .slice (some ⟨g, 0, none⟩) net.out.length gc]
  opt : Blk W (w.heap.size + 1) 27 #[.int .i64 hops, .int .i64 settles, rk]
  nm : NetMem W W.heap.size oA (some ⟨g, 0, none⟩) rows (net.without v)
  mto : IsMapU W mt net.out.length (Pl.lightest net v).1
  mfr : IsMapU W mf net.out.length (Pl.lightest net v).2
  blw : Below w.heap.size w W
  gge : w.heap.size + 2 ≤ g
  sge : w.heap.size + 2 ≤ W.heap.size

theorem KSet.mk_ {w w0 w1 wc : World} {oA gA : Option Addr} {oc go g gc v mt mf hops settles : Nat} {rk : Value} {rows : List Value} {net : Pl.Net}
    (hN : NetMem w w.heap.size oA gA rows net) (hw0 : w0 = (w.alloc (.cells #[.slice oA net.out.length oc, .slice gA net.out.length go] 51)).alloc (.cells #[.int .i64 hops, .int .i64 settles, rk] 27))
    (h1 : IsMapU w1 mt net.out.length (Pl.lightest net v).1) (h2 : IsMapU w1 mf net.out.length (Pl.lightest net v).2) (hB1 : Below w0.heap.size w0 w1)
    (hc : wc.ownsRow w1.heap.size 4 1 (.slice (some ⟨g, 0, none⟩) net.out.length gc) net.out.length (net.gone.map Value.bool)) (hBc : Below w1.heap.size w1 wc) :
    KSet w ((wc.setCell ⟨w.heap.size, 1, none⟩ (.slice (some ⟨g, 0, none⟩) net.out.length gc)).setCell ⟨g, v, none⟩ (.bool true)) oA oc g gc v mt mf hops settles rk rows net := by
  have hs0 : w0.heap.size = w.heap.size + 2 := by rw [hw0]; simp
  have hs1 := hB1.size
  have hsc := hBc.size
  have hgl : w1.heap.size ≤ g := (hc.lt g rfl).1
  have hglt : g < wc.heap.size := (hc.lt g rfl).2
  have hbn0 : Blk w0 w.heap.size 51 #[.slice oA net.out.length oc, .slice gA net.out.length go] := by rw [hw0]; exact (Blk.new w _ _).alloc _
  have hbo0 : Blk w0 (w.heap.size + 1) 27 #[.int .i64 hops, .int .i64 settles, rk] := by
    have := Blk.new (w.alloc (.cells #[.slice oA net.out.length oc, .slice gA net.out.length go] 51)) 27 #[.int .i64 hops, .int .i64 settles, rk]
    rw [hw0]; simpa using this
  have hbn := (hbn0.below hB1 hbn0.lt).below hBc (by omega)
  have hbo := (hbo0.below hB1 hbo0.lt).below hBc (by omega)
  have hBw : Below w.heap.size w wc := by
    have h0 : Below w.heap.size w w0 := by rw [hw0]; exact ((Below.refl _ _).alloc (Nat.le_refl _) _).alloc (by simp) _
    exact (h0.trans (hB1.mono (by omega))).trans (hBc.mono (by omega))
  have hB2 : Below w.heap.size w ((wc.setCell ⟨w.heap.size, 1, none⟩ (.slice (some ⟨g, 0, none⟩) net.out.length gc)).setCell ⟨g, v, none⟩ (.bool true)) :=
    (hBw.setCell (Nat.le_refl _) _).setCell (by show w.heap.size ≤ g; omega) _
  have hk : Keep (fun b => b = w.heap.size ∨ b = g) wc ((wc.setCell ⟨w.heap.size, 1, none⟩ (.slice (some ⟨g, 0, none⟩) net.out.length gc)).setCell ⟨g, v, none⟩ (.bool true)) :=
    ((Keep.refl (fun b => b = w.heap.size ∨ b = g) wc).setCell (Or.inl (Or.inl rfl)) _).setCell (Or.inl (Or.inr rfl)) _
  have hne : g ≠ w.heap.size := by omega
  have hsz : ((wc.setCell ⟨w.heap.size, 1, none⟩ (.slice (some ⟨g, 0, none⟩) net.out.length gc)).setCell ⟨g, v, none⟩ (.bool true)).heap.size = wc.heap.size := by simp [World.setCell]
  have hmt : ∀ mb f, IsMapU w1 mb net.out.length f → ¬ (mb = w.heap.size ∨ mb = g) := by
    rintro mb f ⟨D, ⟨es, clock, h3, _⟩, _⟩ (rfl | rfl)
    · have := hbn0.below hB1 hbn0.lt
      unfold Blk at this
      rw [this] at h3; cases h3
    · have : mb < w1.heap.size := by
        rcases Nat.lt_or_ge mb w1.heap.size with hlt | hge
        · exact hlt
        · rw [Array.getElem?_eq_none hge] at h3; cases h3
      omega
  refine ⟨?_, (hbo.keep hk (by omega)), ?_, (h1.below hBc).keep hk (hmt mt _ h1), (h2.below hBc).keep hk (hmt mf _ h2), hB2, by omega, by omega⟩
  · have := (hbn.set_ 1 (.slice (some ⟨g, 0, none⟩) net.out.length gc)).far (p := ⟨g, v, none⟩) (fun e => hne e.symm) (.bool true)
    simpa using this
  · refine NetMem.without (gc := gc) (hN.below hB2) (by omega) ?_
    have h3 := own_far hc (p := ⟨w.heap.size, 1, none⟩) (fun e => hne (by simpa [Value.ownBlock] using e)) (.slice (some ⟨g, 0, none⟩) net.out.length gc)
    have h4 := (h3.stored v (.bool true)).1
    rw [List.map_set]
    exact own_base h4 (Nat.zero_le _)
end Go.Proofs.Ytbaclbiedepjfaa
