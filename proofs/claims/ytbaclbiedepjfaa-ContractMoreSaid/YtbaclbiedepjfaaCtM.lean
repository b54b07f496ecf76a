/- contract's core: what core.contract reads: the core as a net. -/
import Derived.Test.YtbaclbiedepjfaaBgW
import Derived.Test.YtbaclbiedepjfaaPlFull
import Derived.Maps.RangeWalk
set_option autoImplicit false
namespace Go.Proofs.Ytbaclbiedepjfaa
open Go Go.RowKit

/-- the values of a core's rows are what Search reads -/
theorem CM.net {base : Nat} {w : World} {C : Nat} {r : CRef} {n hops settles : Nat} {rk : Value} {dm : Nat} {out : List (List (Nat × Nat))} {gone : List Bool} {s : List Pl.Cut} {f : F2} {k : Nat}
    (h : CM base w C r n hops settles rk dm out gone s f k) (hto : ∀ v a, a ∈ out.getD v [] → a.1 < n) (hrl : ∀ v, (out.getD v []).length ≤ 65536) :
    NetMem w w.heap.size (some ⟨r.ob, 0, none⟩) (some ⟨r.gb, 0, none⟩) r.rows ⟨out, gone⟩ := by
  have hadd : ∀ (g j : Nat), (⟨g, 0, none⟩ : Addr).add j = ⟨g, j, none⟩ := by intro g j; unfold Addr.add; split <;> simp_all
  refine ⟨⟨by simp [h.rn, h.on], fun _ => ⟨_, rfl, h.ou.lt, fun j u hu => ?_⟩⟩, fun v hv => ?_, ⟨by simp [h.gn, h.on], fun _ => ⟨_, rfl, h.go.lt, fun j u hu => ?_⟩⟩, ⟨by rw [h.gn, h.on], fun v a ha => by show a.1 < out.length; rw [h.on]; exact hto v a ha⟩, by rw [h.on]; exact h.n1, fun v => hrl v⟩
  · rw [hadd, h.ou.cell, List.getElem?_toArray]; exact hu
  · rw [h.on] at hv
    obtain ⟨rv, h1, h2⟩ := h.row v hv
    rcases h2.2 with ⟨e1, e2⟩ | ⟨g, cap, cur, e1, _⟩
    · refine ⟨none, 0, ?_, ?_⟩
      · rw [h1, e1]; show some (Value.slice none 0 0) = some (Value.slice none (out.getD v []).length 0); rw [e2]
      · have e3 : out.getD v [] = [] := List.eq_nil_of_length_eq_zero e2
        show Reads w w.heap.size 2 none (out.getD v []).length ((out.getD v []).flatMap cellsI)
        rw [e3]
        exact Reads.none_
    · refine ⟨some ⟨g, 0, none⟩, cap, by rw [h1, e1]; rfl, ?_⟩
      rw [e1] at h2
      exact Reads.of_own h2
  · rw [hadd, h.go.cell, List.getElem?_toArray]; exact hu

section
variable {base : Nat} {w w' : World} {C : Nat} {r r0 : CRef} {n hops settles : Nat} {rk : Value} {dm : Nat} {out : List (List (Nat × Nat))} {gone : List Bool} {s : List Pl.Cut} {f : F2} {k : Nat}
/-- a node has gone -/
theorem CM.gone_ (h : CM base w C r n hops settles rk dm out gone s f k) (v : Nat) (b : Bool) : CM base (w.setCell ⟨r.gb, v, none⟩ (.bool b)) C r n hops settles rk dm out (gone.set v b) s f k := by
  have hk : Keep (fun b => b = r.gb) w (w.setCell ⟨r.gb, v, none⟩ (.bool b)) := (Keep.refl (fun b => b = r.gb) w).setCell (p := ⟨r.gb, v, none⟩) (Or.inl rfl) _
  obtain ⟨D, hd1, hd2, hd3⟩ := h.dep
  refine ⟨h.blk.keep hk (h.blk.ne_ h.go (by decide)), h.ou.keep hk (h.ou.ne_ h.go (by decide)), h.rn, h.on, ?_, by simpa using h.gn, h.mp.keep hk (fun e => map_ne h.mp h.go e.symm),
    own_keep h.sr hk (fun g hg e => by subst e; exact own_blk_ne h.sr h.go (by decide) hg), fun u hu => ?_, h.apart, ⟨D, hd1, hd2, hd3.keep hk (hd3.ne_ h.go (by decide))⟩, h.bs, h.n1⟩
  · have := h.go.set_ v (.bool b)
    simpa [List.map_set] using this
  · obtain ⟨rv, h1, h2⟩ := h.row u hu
    exact ⟨rv, h1, own_keep h2 hk (fun g hg e => by subst e; exact own_blk_ne h2 h.go (by decide) hg)⟩
/-- a depth has turned -/
theorem CM.dep_ (h : CM base w C r n hops settles rk dm out gone s f k) {D : List Int} (hd1 : D.length = n) (hd2 : ∀ d ∈ D, 0 ≤ d ∧ d ≤ (dm : Int)) (hd3 : Blk w r.db 3 (D.map (Value.int .i64)).toArray) (u : Nat) (d : Int) (hd : 0 ≤ d ∧ d ≤ (dm : Int)) :
    CM base (w.setCell ⟨r.db, u, none⟩ (.int .i64 d)) C r n hops settles rk dm out gone s f k ∧ Blk (w.setCell ⟨r.db, u, none⟩ (.int .i64 d)) r.db 3 ((D.set u d).map (Value.int .i64)).toArray := by
  have hk : Keep (fun b => b = r.db) w (w.setCell ⟨r.db, u, none⟩ (.int .i64 d)) := (Keep.refl (fun b => b = r.db) w).setCell (p := ⟨r.db, u, none⟩) (Or.inl rfl) _
  have hb : Blk (w.setCell ⟨r.db, u, none⟩ (.int .i64 d)) r.db 3 ((D.set u d).map (Value.int .i64)).toArray := by
    have := hd3.set_ u (.int .i64 d)
    simpa [List.map_set] using this
  refine ⟨⟨h.blk.keep hk (h.blk.ne_ hd3 (by decide)), h.ou.keep hk (h.ou.ne_ hd3 (by decide)), h.rn, h.on, h.go.keep hk (h.go.ne_ hd3 (by decide)), h.gn, h.mp.keep hk (fun e => map_ne h.mp hd3 e.symm),
    own_keep h.sr hk (fun g hg e => by subst e; exact own_blk_ne h.sr hd3 (by decide) hg), fun u hu => ?_, h.apart, ⟨D.set u d, by simpa using hd1, ?_, hb⟩, h.bs, h.n1⟩, hb⟩
  · obtain ⟨rv, h1, h2⟩ := h.row u hu
    exact ⟨rv, h1, own_keep h2 hk (fun g hg e => by subst e; exact own_blk_ne h2 hd3 (by decide) hg)⟩
  · intro x hx
    rcases List.mem_or_eq_of_mem_set hx with h1 | h1
    · exact hd2 x h1
    · subst h1; exact hd
theorem CM.deeper (h : CM base w C r n hops settles rk dm out gone s f k) {dm' : Nat} (hd : dm ≤ dm') : CM base w C r n hops settles rk dm' out gone s f k := by
  obtain ⟨D, h1, h2, h3⟩ := h.dep
  exact ⟨h.blk, h.ou, h.rn, h.on, h.go, h.gn, h.mp, h.sr, h.row, h.apart, ⟨D, h1, fun d hx => by have := h2 d hx; omega, h3⟩, h.bs, h.n1⟩

/-- since world w2 the core has turned, and nothing else of what there was -/
def CtR (base C : Nat) (r0 : CRef) (n hops settles : Nat) (rk : Value) (dm : Nat) (w2 : World) (c : Pl.Core) (wr : World) : Prop :=
  ∃ r, CM base wr C r n hops settles rk dm c.out c.gone c.s c.at_ c.s.length ∧ Keep (cfoot C r0) w2 wr ∧ (∀ b, cfoot C r b → cfoot C r0 b ∨ w2.heap.size ≤ b)
theorem CtR.start {c : Pl.Core} (h : CM base w C r n hops settles rk dm c.out c.gone c.s c.at_ c.s.length) : CtR base C r n hops settles rk dm w c w := ⟨r, h, Keep.refl _ _, fun _ hb => Or.inl hb⟩
theorem Keep.low {F : Nat → Prop} {w0 w w' : World} (h : Keep F w0 w) (hb : Below w.heap.size w w') : Keep F w0 w' :=
  h.trans (G := fun _ => False) (Keep.of_below hb (Nat.le_refl _)) (fun _ h => absurd h (fun h => h))
theorem coDone_ctR {c' : Pl.Core} {w2 wr wx : World} {e : Ending} {dm' : Nat} (h1 : Keep (cfoot C r0) w2 wr) (h2 : ∀ b, cfoot C r b → cfoot C r0 b ∨ w2.heap.size ≤ b)
    (hb : Below wr.heap.size wr wx) (hd : CoDone base C r n hops settles rk dm' c' wx e w') : CtR base C r0 n hops settles rk dm' w2 c' w' := by
  obtain ⟨_, r', k1, k2, k3⟩ := hd
  refine ⟨r', k1, (h1.low hb).trans k2 (fun b hb => h2 b hb), fun b hb' => ?_⟩
  rcases k3 b hb' with h3 | h3
  · exact h2 b h3
  · exact Or.inr (Nat.le_trans (Nat.le_trans h1.size hb.size) h3)

/-- the depths, while neighbours are gone through -/
def CtE (base C : Nat) (r0 : CRef) (n hops settles : Nat) (rk : Value) (dm v : Nat) (w2 : World) (c : Pl.Core) (wr : World) : Prop :=
  ∃ (r : CRef) (D : List Int), CM base wr C r n hops settles rk (dm + 1) c.out c.gone c.s c.at_ c.s.length ∧ D.length = n ∧ (∀ d ∈ D, 0 ≤ d ∧ d ≤ ((dm + 1 : Nat) : Int)) ∧ Blk wr r.db 3 (D.map (Value.int .i64)).toArray ∧ D.getD v 0 ≤ (dm : Int) ∧
    Keep (cfoot C r0) w2 wr ∧ (∀ b, cfoot C r b → cfoot C r0 b ∨ w2.heap.size ≤ b)
theorem CtR.toE {c : Pl.Core} {w2 wr : World} {v : Nat} (h : CtR base C r0 n hops settles rk dm w2 c wr) : CtE base C r0 n hops settles rk dm v w2 c wr := by
  obtain ⟨r, h1, h2, h3⟩ := h
  obtain ⟨D, d1, d2, d3⟩ := h1.dep
  refine ⟨r, D, h1.deeper (Nat.le_succ _), d1, fun d hd => by have := d2 d hd; omega, d3, ?_, h2, h3⟩
  by_cases hv : v < D.length
  · have := d2 D[v] (List.getElem_mem hv)
    simp only [List.getD, List.getElem?_eq_getElem hv, Option.getD_some]
    omega
  · simp only [List.getD, List.getElem?_eq_none (Nat.le_of_not_lt hv), Option.getD_none]
    omega
theorem CtE.low {c : Pl.Core} {w2 wr : World} {v : Nat} (h : CtE base C r0 n hops settles rk dm v w2 c wr) (hb : Below wr.heap.size wr w') : CtE base C r0 n hops settles rk dm v w2 c w' := by
  obtain ⟨r, D, h1, h2, h3, h4, h5, h6, h7⟩ := h
  exact ⟨r, D, h1.below hb, h2, h3, h4.below hb h4.lt, h5, h6.low hb, h7⟩
/-- the same, its parts where they lay, its depths by name -/
def CtF (base C : Nat) (r0 r : CRef) (n hops settles : Nat) (rk : Value) (dm v : Nat) (w2 : World) (c : Pl.Core) (D : List Int) (wr : World) : Prop :=
  CM base wr C r n hops settles rk (dm + 1) c.out c.gone c.s c.at_ c.s.length ∧ D.length = n ∧ (∀ d ∈ D, 0 ≤ d ∧ d ≤ ((dm + 1 : Nat) : Int)) ∧ Blk wr r.db 3 (D.map (Value.int .i64)).toArray ∧ D.getD v 0 ≤ (dm : Int) ∧ Keep (cfoot C r0) w2 wr
theorem CtF.grown {c : Pl.Core} {w2 wr : World} {v R : Nat} {D : List Int} (h : CtF base C r0 r n hops settles rk dm v w2 c D wr) (hg : wr.grownBy w' (some R)) (h1 : ¬ cfoot C r R) (h2 : w2.heap.size ≤ R) : CtF base C r0 r n hops settles rk dm v w2 c D w' := by
  obtain ⟨k1, k2, k3, k4, k5, k6⟩ := h
  have hk : Keep (fun b => b = R) wr w' := (Keep.refl (fun b => b = R) wr).grown hg (fun g e => Or.inl (by injection e with e; exact e.symm))
  exact ⟨k1.keep hk (fun b hb e => h1 (e ▸ hb)), k2, k3, k4.keep hk (fun e => h1 (e ▸ Or.inr (Or.inr (Or.inr (Or.inr (Or.inl rfl)))))), k5, k6.trans hk (fun b e => Or.inr (e ▸ h2))⟩
theorem CtF.step {c : Pl.Core} {w2 wr : World} {v u : Nat} {D : List Int} (h : CtF base C r0 r n hops settles rk dm v w2 c D wr) (huv : u ≠ v) (hf : cfoot C r0 r.db ∨ w2.heap.size ≤ r.db) {d : Int} (hd : 0 ≤ d ∧ d ≤ ((dm + 1 : Nat) : Int)) :
    CtF base C r0 r n hops settles rk dm v w2 c (D.set u d) (wr.setCell ⟨r.db, u, none⟩ (.int .i64 d)) := by
  obtain ⟨k1, k2, k3, k4, k5, k6⟩ := h
  obtain ⟨m1, m2⟩ := k1.dep_ k2 k3 k4 u d hd
  refine ⟨m1, by simpa using k2, fun x hx => ?_, m2, ?_, k6.setCell (p := ⟨r.db, u, none⟩) hf _⟩
  · rcases List.mem_or_eq_of_mem_set hx with h1 | h1
    · exact k3 x h1
    · subst h1; exact hd
  · have e : (D.set u d).getD v 0 = D.getD v 0 := by simp [List.getD, huv]
    rw [e]; exact k5
theorem CtF.drewN {c : Pl.Core} {w2 wr : World} {v : Nat} {D : List Int} (h : CtF base C r0 r n hops settles rk dm v w2 c D wr) (m : Nat) : CtF base C r0 r n hops settles rk dm v w2 c D (wr.drewN m) :=
  ⟨h.1.keep (F := fun _ => False) ((Keep.refl _ wr).drewN m) (fun _ _ h => h), h.2.1, h.2.2.1, h.2.2.2.1.drewN m, h.2.2.2.2.1, h.2.2.2.2.2.drewN m⟩
theorem CtF.drew {c : Pl.Core} {w2 wr : World} {v : Nat} {D : List Int} (h : CtF base C r0 r n hops settles rk dm v w2 c D wr) : CtF base C r0 r n hops settles rk dm v w2 c D wr.drew :=
  ⟨h.1.keep (F := fun _ => False) ((Keep.refl _ wr).drew) (fun _ _ h => h), h.2.1, h.2.2.1, h.2.2.2.1.drew, h.2.2.2.2.1, h.2.2.2.2.2.drew⟩
theorem CtF.cells {c : Pl.Core} {w2 wr : World} {v : Nat} {D : List Int} (h : CtF base C r0 r n hops settles rk dm v w2 c D wr) {u : Nat} (hu : u < n) : wr.cell? ⟨C, 7, none⟩ = some (.slice (some ⟨r.db, 0, none⟩) n n) ∧ wr.cell? ⟨r.db, u, none⟩ = some (.int .i64 (D.getD u 0)) ∧ wr.frozen? ⟨r.db, u, none⟩ = false := by
  obtain ⟨k1, k2, k3, k4, k5, k6⟩ := h
  refine ⟨by rw [k1.blk.cell]; rfl, ?_, k4.frozen u⟩
  rw [k4.cell]
  have : u < D.length := by omega
  simp [List.getD, this]
/-- what a range over the map hands out is a node -/
theorem view_key {D : MD} {N : Nat} {g : Nat → Option Nat} (h : View D N g) {x c : Int} (hat : ∀ zd, D.atKey (.int .i64 x) zd = .lit (.int .u64 c)) : ∃ (u q : Nat), x = (u : Int) ∧ g u = some q ∧ u < N := by
  have hh : Maps.has D (.int .i64 x) = true := by
    cases e : Maps.has D (.int .i64 x) with
    | true => rfl
    | false =>
      have h1 := hat .nil
      rw [Maps.atKey_of_not_has e] at h1
      cases h1
  obtain ⟨u, hu, e⟩ := h.keys _ hh
  unfold key at e
  injection e with _ e
  subst e
  cases hg : g u with
  | none =>
    have := h.no u hg
    unfold key at this
    rw [this] at hh; cases hh
  | some q => exact ⟨u, q, rfl, hg, hu⟩
end

theorem Pl.ways_ok {n v : Nat} (l : List (Nat × Nat × Nat)) : ∀ (c : Pl.Core), Pl.CoreOk n c → (∀ t ∈ l, t.1 < n ∧ t.2.1 < n) → Pl.CoreOk n (Pl.Core.ways v c l) ∧ (Pl.Core.ways v c l).s.length ≤ c.s.length + l.length := by
  induction l with
  | nil => intro c h _; exact ⟨h, by simp [Pl.Core.ways]⟩
  | cons t l ih =>
    intro c h hl
    obtain ⟨h1, h2⟩ := hl t List.mem_cons_self
    obtain ⟨h3, h4⟩ := ih (c.way v t) (h.add h1 h2) (fun x hx => hl x (List.mem_cons_of_mem _ hx))
    have : (c.way v t).s.length ≤ c.s.length + 1 := Pl.add_len c _
    refine ⟨h3, ?_⟩
    rw [List.length_cons]
    show (Pl.Core.ways v (c.way v t) l).s.length ≤ _
    omega
theorem grown_set (w : World) (p : Addr) (u : Value) : w.grownBy (w.setCell p u).drew (some p.block) :=
  ⟨rfl, rfl, rfl, by show w.heap.size ≤ (w.setCell p u).heap.size; simp [World.setCell], fun k _ hk => Below.heap_setCell w p u k (fun e => hk (by rw [e]))⟩
/-- the ways that are kept, as they lie, while the core turns -/
theorem ctl_cells {w w1 W2 wr : World} {lA oA : Option Addr} {lc oc : Nat} {T : List (Nat × Nat × Nat)} {F : Nat → Prop} (hl : w1.ownsRow w.heap.size 55 2 (.slice lA T.length lc) T.length (T.flatMap cellsA)) (ho : w1.ownsRow w.heap.size 3 1 (.slice oA T.length oc) T.length (T.map cellsU))
    (hb : Below w1.heap.size w1 W2) (hk : Keep F W2 wr) (hF : ∀ b, F b → b < w.heap.size) {k : Nat} {t : Nat × Nat × Nat} (ht : T[k]? = some t) :
    ∃ lg og, lA = some ⟨lg, 0, none⟩ ∧ oA = some ⟨og, 0, none⟩ ∧ lg < wr.heap.size ∧ og < wr.heap.size ∧ wr.cell? ⟨lg, k * 2, none⟩ = some (.int .i64 t.2.1) ∧ wr.cell? ⟨lg, k * 2 + 1, none⟩ = some (.int .u64 t.2.2) ∧ wr.cell? ⟨og, k, none⟩ = some (.int .i64 t.1) := by
  have hlt := (List.getElem?_eq_some_iff.1 ht).1
  have hl' := own_keep (own_below hl hb) hk (fun g hg e => by have := hF g e; have := (hl.lt g hg).1; omega)
  have ho' := own_keep (own_below ho hb) hk (fun g hg e => by have := hF g e; have := (ho.lt g hg).1; omega)
  obtain ⟨lg, lcap, el, _, lgl⟩ := hl'.form (by omega)
  obtain ⟨og, ocap, eo, _, ogl⟩ := ho'.form (by omega)
  injection el with el _ _
  injection eo with eo _ _
  subst el; subst eo
  have hadd : ∀ (g j : Nat), (⟨g, 0, none⟩ : Addr).add j = ⟨g, j, none⟩ := by intro g j; unfold Addr.add; split <;> simp_all
  have hc := hl'.cells (g := lg) rfl
  have hd := ho'.cells (g := og) rfl
  have c0 := flat_get cellsA 2 cellsA_len T k 0 (by omega)
  have c1 := flat_get cellsA 2 cellsA_len T k 1 (by omega)
  rw [ht] at c0 c1
  refine ⟨lg, og, rfl, rfl, lgl, ogl, ?_, ?_, ?_⟩
  · have := hc (k * 2) (.int .i64 t.2.1) (by simpa [cellsA] using c0)
    rwa [hadd] at this
  · have := hc (k * 2 + 1) (.int .u64 t.2.2) (by simpa [cellsA] using c1)
    rwa [hadd] at this
  · have := hd k (.int .i64 t.1) (by simp [ht, cellsU])
    rwa [hadd] at this
end Go.Proofs.Ytbaclbiedepjfaa
