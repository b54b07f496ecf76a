/- contract's core: how it lies in memory. -/
import Derived.Test.YtbaclbiedepjfaaPlCore
import Derived.Test.YtbaclbiedepjfaaMkM
import Derived.Test.YtbaclbiedepjfaaDlW
import Derived.Test.YtbaclbiedepjfaaNdW
set_option autoImplicit false
namespace Go.Proofs.Ytbaclbiedepjfaa
open Go Go.RowKit

def cellsC (x : Pl.Cut) : List Value := [.int .i64 x.u, .int .i64 x.v, .int .u64 x.w, .int .i64 x.e, .int .i64 x.a, .int .i64 x.b]
theorem cellsC_len (x : Pl.Cut) : (cellsC x).length = 6 := rfl

theorem own_blk {w : World} {base size n g : Nat} {e : TypeId} {v : Value} {xs : List Value} (h : w.ownsRow base e size v n xs) (hg : v.ownBlock = some g) : ∃ cs, Blk w g e cs ∧ base ≤ g := by
  rcases h.2 with ⟨rfl, _⟩ | ⟨g', cap, cur, rfl, h1, h2, _⟩
  · cases hg
  · injection hg with hg
    subst hg
    exact ⟨cur, h2, h1⟩

/-- where a core's parts lie -/
structure CRef where
  ob : Nat
  gb : Nat
  mb : Nat
  db : Nat
  sv : Value
  rows : List Value

structure CM (base : Nat) (w : World) (C : Nat) (r : CRef) (n hops settles : Nat) (rk : Value) (dm : Nat) (out : List (List (Nat × Nat))) (gone : List Bool) (s : List Pl.Cut) (f : F2) (k : Nat) : Prop where
  blk : Blk w C 124 #[.slice (some ⟨r.ob, 0, none⟩) n n, .slice (some ⟨r.gb, 0, none⟩) n n, .map (some r.mb), r.sv, .int .i64 hops, .int .i64 settles, rk, .slice (some ⟨r.db, 0, none⟩) n n]
  ou : Blk w r.ob 46 r.rows.toArray
  rn : r.rows.length = n
  on : out.length = n
  go : Blk w r.gb 4 (gone.map Value.bool).toArray
  gn : gone.length = n
  mp : IsMap2 w r.mb k n f
  sr : w.ownsRow base 69 6 r.sv s.length (s.flatMap cellsC)
  row : ∀ v, v < n → ∃ rv, r.rows[v]? = some rv ∧ w.ownsRow base 55 2 rv (out.getD v []).length ((out.getD v []).flatMap cellsI)
  apart : ∀ (u v : Nat) (a b : Value) (g : Nat), u ≠ v → r.rows[u]? = some a → r.rows[v]? = some b → a.ownBlock = some g → b.ownBlock ≠ some g
  dep : ∃ D : List Int, D.length = n ∧ (∀ d ∈ D, 0 ≤ d ∧ d ≤ (dm : Int)) ∧ Blk w r.db 3 (D.map (Value.int .i64)).toArray
  bs : base ≤ C ∧ base ≤ r.ob ∧ base ≤ r.gb ∧ base ≤ r.mb ∧ base ≤ r.db
  n1 : n ≤ 4096

def cfoot (C : Nat) (r : CRef) (b : Nat) : Prop :=
  b = C ∨ b = r.ob ∨ b = r.gb ∨ b = r.mb ∨ b = r.db ∨ r.sv.ownBlock = some b ∨ ∃ (v : Nat) (rv : Value), r.rows[v]? = some rv ∧ rv.ownBlock = some b

section
variable {base : Nat} {w w' : World} {C : Nat} {r : CRef} {n hops settles : Nat} {rk : Value} {dm : Nat} {out : List (List (Nat × Nat))} {gone : List Bool} {s : List Pl.Cut} {f : F2} {k : Nat}

theorem map_ne {g mb k n : Nat} {f : F2} {t : TypeId} {cs : Array Value} (h : IsMap2 w mb k n f) (hb : Blk w g t cs) : g ≠ mb := by
  rintro rfl
  obtain ⟨D, ⟨es, clock, h1, _⟩, _⟩ := h
  unfold Blk at hb
  rw [h1] at hb
  cases hb

theorem CM.keep {F : Nat → Prop} (h : CM base w C r n hops settles rk dm out gone s f k) (hk : Keep F w w') (hF : ∀ b, cfoot C r b → ¬ F b) : CM base w' C r n hops settles rk dm out gone s f k where
  blk := h.blk.keep hk (hF _ (Or.inl rfl))
  ou := h.ou.keep hk (hF _ (Or.inr (Or.inl rfl)))
  rn := h.rn
  on := h.on
  go := h.go.keep hk (hF _ (Or.inr (Or.inr (Or.inl rfl))))
  gn := h.gn
  mp := h.mp.keep hk (hF _ (Or.inr (Or.inr (Or.inr (Or.inl rfl)))))
  sr := own_keep h.sr hk (fun g hg => hF g (Or.inr (Or.inr (Or.inr (Or.inr (Or.inr (Or.inl hg)))))))
  row := fun v hv => by
    obtain ⟨rv, h1, h2⟩ := h.row v hv
    exact ⟨rv, h1, own_keep h2 hk (fun g hg => hF g (Or.inr (Or.inr (Or.inr (Or.inr (Or.inr (Or.inr ⟨v, rv, h1, hg⟩)))))))⟩
  apart := h.apart
  dep := by
    obtain ⟨D, h1, h2, h3⟩ := h.dep
    exact ⟨D, h1, h2, h3.keep hk (hF _ (Or.inr (Or.inr (Or.inr (Or.inr (Or.inl rfl))))))⟩
  bs := h.bs
  n1 := h.n1
theorem CM.below (h : CM base w C r n hops settles rk dm out gone s f k) (hb : Below w.heap.size w w') : CM base w' C r n hops settles rk dm out gone s f k :=
  h.keep (F := fun _ => False) (Keep.of_below hb (Nat.le_refl _)) (fun _ _ h => h)

/-- which kind of block each one is -/
theorem CM.kind (h : CM base w C r n hops settles rk dm out gone s f k) {b : Nat} (hb : cfoot C r b) :
    (∃ cs, Blk w b 124 cs ∧ b = C) ∨ (∃ cs, Blk w b 46 cs ∧ b = r.ob) ∨ (∃ cs, Blk w b 4 cs ∧ b = r.gb) ∨ b = r.mb ∨ (∃ cs, Blk w b 3 cs ∧ b = r.db) ∨
    (∃ cs, Blk w b 69 cs ∧ r.sv.ownBlock = some b) ∨ (∃ cs, Blk w b 55 cs ∧ ∃ (v : Nat) (rv : Value), r.rows[v]? = some rv ∧ rv.ownBlock = some b) := by
  rcases hb with rfl | rfl | rfl | rfl | rfl | hb | ⟨v, rv, h1, h2⟩
  · exact Or.inl ⟨_, h.blk, rfl⟩
  · exact Or.inr (Or.inl ⟨_, h.ou, rfl⟩)
  · exact Or.inr (Or.inr (Or.inl ⟨_, h.go, rfl⟩))
  · exact Or.inr (Or.inr (Or.inr (Or.inl rfl)))
  · obtain ⟨D, _, _, h3⟩ := h.dep
    exact Or.inr (Or.inr (Or.inr (Or.inr (Or.inl ⟨_, h3, rfl⟩))))
  · obtain ⟨cs, h1, _⟩ := own_blk h.sr hb
    exact Or.inr (Or.inr (Or.inr (Or.inr (Or.inr (Or.inl ⟨cs, h1, hb⟩)))))
  · have hv : v < n := by rw [← h.rn]; exact (List.getElem?_eq_some_iff.1 h1).1
    obtain ⟨rv', h3, h4⟩ := h.row v hv
    rw [h1] at h3
    injection h3 with h3
    subst h3
    obtain ⟨cs, h5, _⟩ := own_blk h4 h2
    exact Or.inr (Or.inr (Or.inr (Or.inr (Or.inr (Or.inr ⟨cs, h5, v, rv, h1, h2⟩)))))
theorem CM.foot_lt (h : CM base w C r n hops settles rk dm out gone s f k) {b : Nat} (hb : cfoot C r b) : b < w.heap.size ∧ base ≤ b := by
  have hbs := h.bs
  rcases h.kind hb with ⟨cs, h1, rfl⟩ | ⟨cs, h1, rfl⟩ | ⟨cs, h1, rfl⟩ | rfl | ⟨cs, h1, rfl⟩ | ⟨cs, h1, h2⟩ | ⟨cs, h1, v, rv, h2, h3⟩
  · exact ⟨h1.lt, hbs.1⟩
  · exact ⟨h1.lt, hbs.2.1⟩
  · exact ⟨h1.lt, hbs.2.2.1⟩
  · exact ⟨h.mp.lt, hbs.2.2.2.1⟩
  · exact ⟨h1.lt, hbs.2.2.2.2⟩
  · obtain ⟨_, _, h3⟩ := own_blk h.sr h2
    exact ⟨h1.lt, h3⟩
  · have hv : v < n := by rw [← h.rn]; exact (List.getElem?_eq_some_iff.1 h2).1
    obtain ⟨rv', h4, h5⟩ := h.row v hv
    rw [h2] at h4
    injection h4 with h4
    subst h4
    obtain ⟨_, _, h6⟩ := own_blk h5 h3
    exact ⟨h1.lt, h6⟩

theorem CM.notype {g : Nat} {t : TypeId} {cs : Array Value} (h : CM base w C r n hops settles rk dm out gone s f k) (hb : Blk w g t cs)
    (ht : t ≠ 124 ∧ t ≠ 46 ∧ t ≠ 4 ∧ t ≠ 3 ∧ t ≠ 69 ∧ t ≠ 55) : ¬ cfoot C r g := by
  intro hf
  rcases h.kind hf with ⟨cs', h1, _⟩ | ⟨cs', h1, _⟩ | ⟨cs', h1, _⟩ | e | ⟨cs', h1, _⟩ | ⟨cs', h1, _⟩ | ⟨cs', h1, _⟩
  · exact hb.ne_ h1 ht.1 rfl
  · exact hb.ne_ h1 ht.2.1 rfl
  · exact hb.ne_ h1 ht.2.2.1 rfl
  · exact map_ne h.mp hb e
  · exact hb.ne_ h1 ht.2.2.2.1 rfl
  · exact hb.ne_ h1 ht.2.2.2.2.1 rfl
  · exact hb.ne_ h1 ht.2.2.2.2.2 rfl

/-- the map has a new entry -/
theorem CM.map_ {f' : F2} {k' : Nat} (h : CM base w C r n hops settles rk dm out gone s f k) (hm : IsMap2 w' r.mb k' n f') (hk : Keep (fun b => b = r.mb) w w') : CM base w' C r n hops settles rk dm out gone s f' k' := by
  obtain ⟨D, hd1, hd2, hd3⟩ := h.dep
  exact ⟨h.blk.keep hk (map_ne h.mp h.blk), h.ou.keep hk (map_ne h.mp h.ou), h.rn, h.on, h.go.keep hk (map_ne h.mp h.go), h.gn, hm,
    own_keep h.sr hk (fun g hg e => by obtain ⟨cs, h1, _⟩ := own_blk h.sr hg; exact map_ne h.mp h1 e),
    fun v hv => by
      obtain ⟨rv, h1, h2⟩ := h.row v hv
      exact ⟨rv, h1, own_keep h2 hk (fun g hg e => by obtain ⟨cs, h3, _⟩ := own_blk h2 hg; exact map_ne h.mp h3 e)⟩,
    h.apart, ⟨D, hd1, hd2, hd3.keep hk (map_ne h.mp hd3)⟩, h.bs, h.n1⟩

/-- the shortcuts' row has grown, and the core says where it lies -/
theorem CM.s_ {sv' : Value} {s' : List Pl.Cut} {w1 : World} (h : CM base w C r n hops settles rk dm out gone s f k) (hg : w.grownBy w1 r.sv.ownBlock)
    (ho : w1.ownsRow base 69 6 sv' s'.length (s'.flatMap cellsC)) :
    CM base (w1.setCell ⟨C, 3, none⟩ sv') C { r with sv := sv' } n hops settles rk dm out gone s' f k := by
  have hk : Keep (fun b => r.sv.ownBlock = some b) w w1 := (Keep.refl _ w).grown hg (fun g e => Or.inl e)
  have hn : ∀ {g : Nat} {t : TypeId} {cs : Array Value}, Blk w g t cs → t ≠ 69 → r.sv.ownBlock ≠ some g := fun hb ht => own_blk_ne h.sr hb (fun e => ht e.symm)
  have hC : Blk w1 C 124 _ := h.blk.keep hk (hn h.blk (by decide))
  have hk2 : Keep (fun b => b = C) w1 (w1.setCell ⟨C, 3, none⟩ sv') := (Keep.refl (fun b => b = C) w1).setCell (p := ⟨C, 3, none⟩) (Or.inl rfl) sv'
  obtain ⟨D, hd1, hd2, hd3⟩ := h.dep
  have hou := h.ou.keep hk (hn h.ou (by decide))
  have hgo := h.go.keep hk (hn h.go (by decide))
  have hde := hd3.keep hk (hn hd3 (by decide))
  have hmp := h.mp.keep hk (fun e => by
    obtain ⟨cs, h1, _⟩ := own_blk h.sr e
    exact map_ne h.mp h1 rfl)
  refine ⟨?_, hou.keep hk2 (hou.ne_ hC (by decide)), h.rn, h.on, hgo.keep hk2 (hgo.ne_ hC (by decide)), h.gn, hmp.keep hk2 (fun e => map_ne hmp hC e.symm), ?_, ?_, h.apart, ⟨D, hd1, hd2, hde.keep hk2 (hde.ne_ hC (by decide))⟩, h.bs, h.n1⟩
  · have := hC.set_ 3 sv'
    simpa using this
  · exact own_keep ho hk2 (fun g hg e => by
      subst e
      exact own_blk_ne ho hC (by decide) hg)
  · intro v hv
    obtain ⟨rv, h1, h2⟩ := h.row v hv
    have h3 := own_keep h2 hk (fun g hg e => by
      obtain ⟨cs, h4, _⟩ := own_blk h2 hg
      exact hn h4 (by decide) e)
    exact ⟨rv, h1, own_keep h3 hk2 (fun g hg e => by
      subst e
      exact own_blk_ne h3 hC (by decide) hg)⟩

/-- a node's row has turned, and 'Out' says where it lies -/
theorem CM.row_ {u : Nat} {ru rv' : Value} {l' : List (Nat × Nat)} {w1 : World} (h : CM base w C r n hops settles rk dm out gone s f k) (hu : u < n) (hru : r.rows[u]? = some ru) (hk : Keep (fun b => ru.ownBlock = some b) w w1)
    (ho : w1.ownsRow base 55 2 rv' l'.length (l'.flatMap cellsI)) (hat : ∀ g, rv'.ownBlock = some g → ru.ownBlock = some g ∨ w.heap.size ≤ g) :
    CM base (w1.setCell ⟨r.ob, u, none⟩ rv') C { r with rows := r.rows.set u rv' } n hops settles rk dm (out.set u l') gone s f k := by
  obtain ⟨ru', hru', hou1⟩ := h.row u hu
  rw [hru] at hru'
  injection hru' with hru'
  subst hru'
  have hn : ∀ {g : Nat} {t : TypeId} {cs : Array Value}, Blk w g t cs → t ≠ 55 → ru.ownBlock ≠ some g := fun hb ht => own_blk_ne hou1 hb (fun e => ht e.symm)
  have hO : Blk w1 r.ob 46 _ := h.ou.keep hk (hn h.ou (by decide))
  have hk2 : Keep (fun b => b = r.ob) w1 (w1.setCell ⟨r.ob, u, none⟩ rv') := (Keep.refl (fun b => b = r.ob) w1).setCell (p := ⟨r.ob, u, none⟩) (Or.inl rfl) rv'
  obtain ⟨D, hd1, hd2, hd3⟩ := h.dep
  have hC := h.blk.keep hk (hn h.blk (by decide))
  have hgo := h.go.keep hk (hn h.go (by decide))
  have hde := hd3.keep hk (hn hd3 (by decide))
  have hmp := h.mp.keep hk (fun e => by
    obtain ⟨cs, h1, _⟩ := own_blk hou1 e
    exact map_ne h.mp h1 rfl)
  have hsr := own_keep h.sr hk (fun g hg e => by
    obtain ⟨cs, h1, _⟩ := own_blk h.sr hg
    exact hn h1 (by decide) e)
  refine ⟨hC.keep hk2 (hC.ne_ hO (by decide)), ?_, by simpa using h.rn, by simpa using h.on, hgo.keep hk2 (hgo.ne_ hO (by decide)), h.gn, hmp.keep hk2 (fun e => map_ne hmp hO e.symm), ?_, ?_, ?_, ⟨D, hd1, hd2, hde.keep hk2 (hde.ne_ hO (by decide))⟩, h.bs, h.n1⟩
  · have := hO.set_ u rv'
    simpa using this
  · exact own_keep hsr hk2 (fun g hg e => by
      subst e
      exact own_blk_ne hsr hO (by decide) hg)
  · intro v hv
    by_cases huv : u = v
    · subst huv
      refine ⟨rv', by simp [h.rn, hu], ?_⟩
      have e : (out.set u l').getD u [] = l' := by simp [List.getD, h.on, hu]
      rw [e]
      exact own_keep ho hk2 (fun g hg e => by
        subst e
        exact own_blk_ne ho hO (by decide) hg)
    · obtain ⟨rv, h1, h2⟩ := h.row v hv
      have e : (out.set u l').getD v [] = out.getD v [] := by simp [List.getD, huv]
      rw [e]
      refine ⟨rv, by simp [huv, h1], ?_⟩
      have h3 := own_keep h2 hk (fun g hg e => h.apart u v ru rv g huv hru h1 e hg)
      exact own_keep h3 hk2 (fun g hg e => by
        subst e
        exact own_blk_ne h3 hO (by decide) hg)
  · intro x y a b g hxy hx hy hga hgb
    have hlt : ∀ (z : Nat) (c : Value), r.rows[z]? = some c → c.ownBlock = some g → g < w.heap.size := fun z c hz hc => (h.foot_lt (Or.inr (Or.inr (Or.inr (Or.inr (Or.inr (Or.inr ⟨z, c, hz, hc⟩))))))).1
    simp only at hx hy
    by_cases hux : u = x
    · subst hux
      have : a = rv' := by
        rw [List.getElem?_set_self (by rw [h.rn]; exact hu)] at hx
        injection hx with hx
        exact hx.symm
      subst this
      rw [List.getElem?_set_ne hxy] at hy
      rcases hat g hga with h1 | h1
      · exact h.apart u y ru b g hxy hru hy h1 hgb
      · have := hlt y b hy hgb; omega
    · rw [List.getElem?_set_ne hux] at hx
      by_cases huy : u = y
      · subst huy
        have : b = rv' := by
          rw [List.getElem?_set_self (by rw [h.rn]; exact hu)] at hy
          injection hy with hy
          exact hy.symm
        subst this
        rcases hat g hgb with h1 | h1
        · exact h.apart x u a ru g hxy hx hru hga h1
        · have := hlt x a hx hga; omega
      · rw [List.getElem?_set_ne huy] at hy
        exact h.apart x y a b g hxy hx hy hga hgb
end
end Go.Proofs.Ytbaclbiedepjfaa
