/- contraction on lists: whatever the order, what is built is made of the graph, and full. Plain: no program. -/
import Derived.Test.YtbaclbiedepjfaaPlCor2
set_option autoImplicit false
namespace Go.Proofs.Ytbaclbiedepjfaa.Pl

/-- a way of one edge or more, whose inner nodes are such -/
inductive Via (E : Nat → Nat → Nat → Prop) (ok : Nat → Prop) : Nat → Nat → Nat → Prop
  | one {u w d : Nat} : E u w d → Via E ok u w d
  | two {u v w a b : Nat} : E u v a → ok v → Via E ok v w b → Via E ok u w (a + b)
section
variable {E : Nat → Nat → Nat → Prop} {ok ok' : Nat → Prop} {u v w a b d : Nat}
theorem Via.mono (h : Via E ok u w d) (hk : ∀ x, ok x → ok' x) : Via E ok' u w d := by
  induction h with
  | one e => exact .one e
  | two e o _ ih => exact .two e (hk _ o) ih
theorem Via.trans (h : Via E ok u v a) (hv : ok v) (k : Via E ok v w b) : Via E ok u w (a + b) := by
  induction h with
  | one e => exact .two e hv k
  | two e o _ ih => rw [Nat.add_assoc]; exact .two e o (ih hv k)
theorem Via.split (h : Via E (fun x => x = v ∨ ok x) u w d) : Via E ok u w d ∨ ∃ a b, Via E ok u v a ∧ Via E ok v w b ∧ a + b ≤ d := by
  induction h with
  | one e => exact .inl (.one e)
  | @two u x w a b e o _ ih =>
    rcases o with o | o
    · subst o
      rcases ih with h | ⟨a', b', _, h2, h3⟩
      · exact .inr ⟨a, b, .one e, h, Nat.le_refl _⟩
      · exact .inr ⟨a, b', .one e, h2, by omega⟩
    · rcases ih with h | ⟨a', b', h1, h2, h3⟩
      · exact .inl (.two e o h)
      · exact .inr ⟨a + a', b', .two e o h1, h2, by omega⟩
theorem Via.bound {n : Nat} (hE : ∀ u w d, E u w d → u < n ∧ w < n) (h : Via E ok u w d) : Via E (fun x => ok x ∧ x < n) u w d := by
  induction h with
  | one e => exact .one e
  | two e o _ ih => exact .two e ⟨o, (hE _ _ _ e).2⟩ ih
theorem Via.ends {n : Nat} (hE : ∀ u w d, E u w d → u < n ∧ w < n) (h : Via E ok u w d) : u < n ∧ w < n := by
  induction h with
  | one e => exact hE _ _ _ e
  | two e o _ ih => exact ⟨(hE _ _ _ e).1, ih.2⟩
end

def All (_ : Nat) : Prop := True
def Sound (E : Nat → Nat → Nat → Prop) (c : Core) : Prop := ∀ u w d, (w, d) ∈ c.out.getD u [] → Via E All u w d
def Least (E : Nat → Nat → Nat → Prop) (u w d : Nat) : Prop := Via E All u w d ∧ ∀ d', Via E All u w d' → d ≤ d'
def Has (E : Nat → Nat → Nat → Prop) (n : Nat) (G : Nat → Prop) (c : Core) : Prop := ∀ u w d, u < n → w < n → u ≠ w → ¬ G u → ¬ G w → Via E G u w d → Least E u w d → (w, d) ∈ c.out.getD u []
/-- arcs may have become lighter -/
def Lighter (c c' : Core) : Prop := ∀ u w d, (w, d) ∈ c.out.getD u [] → ∃ d', d' ≤ d ∧ (w, d') ∈ c'.out.getD u []
theorem Lighter.refl (c : Core) : Lighter c c := fun _ _ d h => ⟨d, Nat.le_refl _, h⟩
theorem Lighter.trans {a b c : Core} (h : Lighter a b) (k : Lighter b c) : Lighter a c := by
  intro u w d hd
  obtain ⟨d1, h1, h2⟩ := h u w d hd
  obtain ⟨d2, h3, h4⟩ := k u w d1 h2
  exact ⟨d2, by omega, h4⟩

theorem arcs_put {n : Nat} {c : Core} {x : Cut} (h : CoreOk n c) (hu : x.u < n) (u w d : Nat) :
    (w, d) ∈ (c.put x).out.getD u [] ↔ ((w, d) ∈ c.out.getD u [] ∧ ¬ (u = x.u ∧ w = x.v)) ∨ (u = x.u ∧ w = x.v ∧ d = x.w) := by
  have ho : x.u < c.out.length := by rw [h.on]; exact hu
  show (w, d) ∈ (c.out.set x.u (rowPut (c.out.getD x.u []) x.v x.w)).getD u [] ↔ _
  rw [set_getD _ _ _ _ ho]
  by_cases e : x.u = u
  · subst e
    rw [if_pos rfl, mem_rowPut]
    simp only [Prod.mk.injEq, true_and]
  · rw [if_neg e]
    constructor
    · intro h1; exact Or.inl ⟨h1, fun h2 => e h2.1.symm⟩
    · rintro (h1 | h1)
      · exact h1.1
      · exact absurd h1.1.symm e
theorem old_true {c : Core} {x : Cut} (h : c.old x = true) : ∃ i y, c.at_ x.u x.v = some i ∧ c.s[i]? = some y ∧ y.w ≤ x.w := by
  unfold Core.old at h
  split at h
  · cases h
  · rename_i i hi
    split at h
    · rename_i y hy
      exact ⟨i, y, hi, hy, of_decide_eq_true h⟩
    · cases h
theorem old_false {c : Core} {x : Cut} (h : c.old x = false) {i : Nat} {y : Cut} (h1 : c.at_ x.u x.v = some i) (h2 : c.s[i]? = some y) : x.w < y.w := by
  unfold Core.old at h
  rw [h1] at h
  simp only [h2, decide_eq_false_iff_not] at h
  omega

structure AddOk (n : Nat) (E : Nat → Nat → Nat → Prop) (B : Nat) (c c' : Core) : Prop where
  ok : CoreOk n c'
  so : Sound E c'
  li : Lighter c c'
  go : c'.gone = c.gone
  bd : ∀ p a, a ∈ c'.out.getD p [] → a.2 ≤ B
  pre : ∃ l, c'.s = c.s ++ l
theorem add_facts {n : Nat} {E : Nat → Nat → Nat → Prop} {B : Nat} {c : Core} {x : Cut} (h : CoreOk n c) (hs : Sound E c) (hb : ∀ p a, a ∈ c.out.getD p [] → a.2 ≤ B) (hu : x.u < n) (hv : x.v < n) (hx : Via E All x.u x.v x.w) (hw : x.w ≤ B) :
    AddOk n E B c (c.add x) ∧ (∃ d', d' ≤ x.w ∧ (x.v, d') ∈ (c.add x).out.getD x.u []) := by
  have hok := h.add hu hv (x := x)
  unfold Core.add at hok ⊢
  cases ho : c.old x with
  | true =>
    simp only [ho, if_true] at hok ⊢
    obtain ⟨i, y, h1, h2, h3⟩ := old_true ho
    obtain ⟨y', h4, _, _, _, _, h5⟩ := h.at1 _ _ _ h1
    rw [h2] at h4
    injection h4 with h4
    subst h4
    exact ⟨⟨h, hs, Lighter.refl c, rfl, hb, [], by simp⟩, y.w, h3, h5⟩
  | false =>
    simp only [ho, Bool.false_eq_true, if_false] at hok ⊢
    refine ⟨⟨hok, ?_, ?_, rfl, ?_, [x], rfl⟩, x.w, Nat.le_refl _, (arcs_put h hu _ _ _).2 (Or.inr ⟨rfl, rfl, rfl⟩)⟩
    · intro u w d hd
      rcases (arcs_put h hu u w d).1 hd with ⟨h1, _⟩ | ⟨rfl, rfl, rfl⟩
      · exact hs u w d h1
      · exact hx
    · intro u w d hd
      by_cases e : u = x.u ∧ w = x.v
      · obtain ⟨rfl, rfl⟩ := e
        obtain ⟨i, y, h1, h2, h3⟩ := h.at2 _ _ _ hd
        have := old_false ho h1 h2
        exact ⟨x.w, by omega, (arcs_put h hu _ _ _).2 (Or.inr ⟨rfl, rfl, rfl⟩)⟩
      · exact ⟨d, Nat.le_refl _, (arcs_put h hu _ _ _).2 (Or.inl ⟨hd, e⟩)⟩
    · intro p a ha
      rcases (arcs_put h hu p a.1 a.2).1 ha with ⟨h1, _⟩ | ⟨_, _, h1⟩
      · exact hb p a h1
      · omega

/-! the lightest arcs -/
def Lst (f : F) (P : Nat → Nat → Prop) : Prop := (∀ u q, f u = some q → P u q) ∧ (∀ u q, P u q → ∃ q', q' ≤ q ∧ f u = some q')
theorem Lst.congr {f : F} {P Q : Nat → Nat → Prop} (h : Lst f P) (e : ∀ u q, P u q ↔ Q u q) : Lst f Q :=
  ⟨fun u q hq => (e u q).1 (h.1 u q hq), fun u q hq => h.2 u q ((e u q).2 hq)⟩
theorem Lst.least {net : Net} {v : Nat} {f : F} {P : Nat → Nat → Prop} (h : Lst f P) (u w : Nat) :
    Lst (leastF net v f u w) (fun x q => P x q ∨ (x = u ∧ q = w ∧ u ≠ v ∧ net.isGone u = false)) := by
  unfold leastF
  by_cases c : u ≠ v ∧ net.isGone u = false ∧ lessO (f u) w = true
  · rw [if_pos c]
    refine ⟨?_, ?_⟩
    · intro x q hx
      simp only at hx
      by_cases e : x = u
      · rw [if_pos e] at hx
        injection hx with hx
        exact Or.inr ⟨e, hx.symm, c.1, c.2.1⟩
      · rw [if_neg e] at hx
        exact Or.inl (h.1 x q hx)
    · intro x q hx
      simp only
      by_cases e : x = u
      · subst e
        rw [if_pos rfl]
        refine ⟨w, ?_, rfl⟩
        rcases hx with hx | hx
        · obtain ⟨q', h1, h2⟩ := h.2 x q hx
          have := c.2.2
          rw [h2] at this
          simp only [lessO, decide_eq_true_eq] at this
          omega
        · omega
      · rw [if_neg e]
        rcases hx with hx | hx
        · exact h.2 x q hx
        · exact absurd hx.1 e
  · rw [if_neg c]
    refine ⟨fun x q hx => Or.inl (h.1 x q hx), ?_⟩
    intro x q hx
    rcases hx with hx | ⟨rfl, rfl, h1, h2⟩
    · exact h.2 x q hx
    · have h3 : lessO (f x) q = false := by
        cases e : lessO (f x) q with
        | false => rfl
        | true => exact absurd ⟨h1, h2, e⟩ c
      cases hf : f x with
      | none => rw [hf] at h3; simp [lessO] at h3
      | some y =>
        rw [hf] at h3
        simp only [lessO, decide_eq_false_iff_not] at h3
        exact ⟨y, by omega, rfl⟩
def LstTo (net : Net) (v : Nat) (S : Nat → Nat × Nat → Prop) (u q : Nat) : Prop := u ≠ v ∧ net.isGone u = false ∧ S u (v, q)
def LstFrom (net : Net) (v : Nat) (S : Nat → Nat × Nat → Prop) (w q : Nat) : Prop := w ≠ v ∧ net.isGone w = false ∧ S v (w, q)
theorem light_step {net : Net} {v u : Nat} {tf : F × F} {S : Nat → Nat × Nat → Prop} {a : Nat × Nat} (h : Lst tf.1 (LstTo net v S) ∧ Lst tf.2 (LstFrom net v S)) :
    Lst (lightStep net v u tf a).1 (LstTo net v (fun x b => S x b ∨ (x = u ∧ b = a))) ∧ Lst (lightStep net v u tf a).2 (LstFrom net v (fun x b => S x b ∨ (x = u ∧ b = a))) := by
  obtain ⟨a1, a2⟩ := a
  unfold lightStep
  by_cases e : u = v
  · subst e
    rw [if_pos rfl]
    refine ⟨h.1.congr ?_, (h.2.least a1 a2).congr ?_⟩
    · intro x q
      unfold LstTo
      constructor
      · rintro ⟨h1, h2, h3⟩; exact ⟨h1, h2, Or.inl h3⟩
      · rintro ⟨h1, h2, h3 | h3⟩
        · exact ⟨h1, h2, h3⟩
        · exact absurd h3.1 h1
    · intro x q
      unfold LstFrom
      simp only [Prod.mk.injEq, true_and]
      constructor
      · rintro (⟨h1, h2, h3⟩ | ⟨rfl, rfl, h1, h2⟩)
        · exact ⟨h1, h2, Or.inl h3⟩
        · exact ⟨h1, h2, Or.inr ⟨rfl, rfl⟩⟩
      · rintro ⟨h1, h2, h3 | ⟨rfl, rfl⟩⟩
        · exact Or.inl ⟨h1, h2, h3⟩
        · exact Or.inr ⟨rfl, rfl, h1, h2⟩
  · rw [if_neg e]
    have hfr : ∀ x q, LstFrom net v S x q ↔ LstFrom net v (fun x b => S x b ∨ (x = u ∧ b = (a1, a2))) x q := by
      intro x q
      unfold LstFrom
      constructor
      · rintro ⟨h1, h2, h3⟩; exact ⟨h1, h2, Or.inl h3⟩
      · rintro ⟨h1, h2, h3 | h3⟩
        · exact ⟨h1, h2, h3⟩
        · exact absurd h3.1.symm e
    by_cases e2 : a1 = v
    · subst e2
      rw [if_pos rfl]
      refine ⟨(h.1.least u a2).congr ?_, h.2.congr hfr⟩
      intro x q
      unfold LstTo
      simp only [Prod.mk.injEq, true_and]
      constructor
      · rintro (⟨h1, h2, h3⟩ | ⟨rfl, rfl, h1, h2⟩)
        · exact ⟨h1, h2, Or.inl h3⟩
        · exact ⟨h1, h2, Or.inr ⟨rfl, rfl⟩⟩
      · rintro ⟨h1, h2, h3 | ⟨rfl, rfl⟩⟩
        · exact Or.inl ⟨h1, h2, h3⟩
        · exact Or.inr ⟨rfl, rfl, h1, h2⟩
    · rw [if_neg e2]
      refine ⟨h.1.congr ?_, h.2.congr hfr⟩
      intro x q
      unfold LstTo
      constructor
      · rintro ⟨h1, h2, h3⟩; exact ⟨h1, h2, Or.inl h3⟩
      · rintro ⟨h1, h2, h3 | h3⟩
        · exact ⟨h1, h2, h3⟩
        · simp only [Prod.mk.injEq] at h3
          exact absurd h3.2.1.symm e2
theorem light_row {net : Net} {v u : Nat} (l : List (Nat × Nat)) : ∀ (tf : F × F) (S : Nat → Nat × Nat → Prop), (Lst tf.1 (LstTo net v S) ∧ Lst tf.2 (LstFrom net v S)) →
    Lst (lightRow net v u tf l).1 (LstTo net v (fun x b => S x b ∨ (x = u ∧ b ∈ l))) ∧ Lst (lightRow net v u tf l).2 (LstFrom net v (fun x b => S x b ∨ (x = u ∧ b ∈ l))) := by
  induction l with
  | nil =>
    intro tf S h
    refine ⟨h.1.congr ?_, h.2.congr ?_⟩ <;> intro x q <;> simp [LstTo, LstFrom]
  | cons a l ih =>
    intro tf S h
    have := ih _ _ (light_step (u := u) (a := a) h)
    refine ⟨this.1.congr ?_, this.2.congr ?_⟩
    · intro x q
      unfold LstTo
      simp only [List.mem_cons]
      constructor
      · rintro ⟨h1, h2, (h3 | h3) | h3⟩
        · exact ⟨h1, h2, Or.inl h3⟩
        · exact ⟨h1, h2, Or.inr ⟨h3.1, Or.inl h3.2⟩⟩
        · exact ⟨h1, h2, Or.inr ⟨h3.1, Or.inr h3.2⟩⟩
      · rintro ⟨h1, h2, h3 | ⟨h3, h4 | h4⟩⟩
        · exact ⟨h1, h2, Or.inl (Or.inl h3)⟩
        · exact ⟨h1, h2, Or.inl (Or.inr ⟨h3, h4⟩)⟩
        · exact ⟨h1, h2, Or.inr ⟨h3, h4⟩⟩
    · intro x q
      unfold LstFrom
      simp only [List.mem_cons]
      constructor
      · rintro ⟨h1, h2, (h3 | h3) | h3⟩
        · exact ⟨h1, h2, Or.inl h3⟩
        · exact ⟨h1, h2, Or.inr ⟨h3.1, Or.inl h3.2⟩⟩
        · exact ⟨h1, h2, Or.inr ⟨h3.1, Or.inr h3.2⟩⟩
      · rintro ⟨h1, h2, h3 | ⟨h3, h4 | h4⟩⟩
        · exact ⟨h1, h2, Or.inl (Or.inl h3)⟩
        · exact ⟨h1, h2, Or.inl (Or.inr ⟨h3, h4⟩)⟩
        · exact ⟨h1, h2, Or.inr ⟨h3, h4⟩⟩
theorem light_spec (net : Net) (v : Nat) : Lst (lightest net v).1 (fun u q => u ≠ v ∧ net.isGone u = false ∧ u < net.out.length ∧ (v, q) ∈ net.arcs u) ∧
    Lst (lightest net v).2 (fun w q => w ≠ v ∧ net.isGone w = false ∧ v < net.out.length ∧ (w, q) ∈ net.arcs v) := by
  have key : ∀ (l : List Nat) (tf : F × F) (S : Nat → Nat × Nat → Prop), (Lst tf.1 (LstTo net v S) ∧ Lst tf.2 (LstFrom net v S)) →
      Lst (l.foldl (fun tf u => lightRow net v u tf (net.arcs u)) tf).1 (LstTo net v (fun x b => S x b ∨ (x ∈ l ∧ b ∈ net.arcs x))) ∧
      Lst (l.foldl (fun tf u => lightRow net v u tf (net.arcs u)) tf).2 (LstFrom net v (fun x b => S x b ∨ (x ∈ l ∧ b ∈ net.arcs x))) := by
    intro l
    induction l with
    | nil =>
      intro tf S h
      refine ⟨h.1.congr ?_, h.2.congr ?_⟩ <;> intro x q <;> simp [LstTo, LstFrom]
    | cons u l ih =>
      intro tf S h
      have := ih _ _ (light_row (u := u) (net.arcs u) tf S h)
      refine ⟨this.1.congr ?_, this.2.congr ?_⟩
      · intro x q
        unfold LstTo
        simp only [List.mem_cons]
        constructor
        · rintro ⟨h1, h2, (h3 | ⟨rfl, h3⟩) | h3⟩
          · exact ⟨h1, h2, Or.inl h3⟩
          · exact ⟨h1, h2, Or.inr ⟨Or.inl rfl, h3⟩⟩
          · exact ⟨h1, h2, Or.inr ⟨Or.inr h3.1, h3.2⟩⟩
        · rintro ⟨h1, h2, h3 | ⟨rfl | h3, h4⟩⟩
          · exact ⟨h1, h2, Or.inl (Or.inl h3)⟩
          · exact ⟨h1, h2, Or.inl (Or.inr ⟨rfl, h4⟩)⟩
          · exact ⟨h1, h2, Or.inr ⟨h3, h4⟩⟩
      · intro x q
        unfold LstFrom
        simp only [List.mem_cons]
        constructor
        · rintro ⟨h1, h2, (h3 | ⟨rfl, h3⟩) | h3⟩
          · exact ⟨h1, h2, Or.inl h3⟩
          · exact ⟨h1, h2, Or.inr ⟨Or.inl rfl, h3⟩⟩
          · exact ⟨h1, h2, Or.inr ⟨Or.inr h3.1, h3.2⟩⟩
        · rintro ⟨h1, h2, h3 | ⟨rfl | h3, h4⟩⟩
          · exact ⟨h1, h2, Or.inl (Or.inl h3)⟩
          · exact ⟨h1, h2, Or.inl (Or.inr ⟨rfl, h4⟩)⟩
          · exact ⟨h1, h2, Or.inr ⟨h3, h4⟩⟩
  have h0 : Lst (fun _ => none : F) (LstTo net v (fun _ _ => False)) ∧ Lst (fun _ => none : F) (LstFrom net v (fun _ _ => False)) :=
    ⟨⟨fun _ _ h => (by cases h), fun _ _ h => absurd h.2.2 (fun h => h)⟩, ⟨fun _ _ h => (by cases h), fun _ _ h => absurd h.2.2 (fun h => h)⟩⟩
  have := key (List.range net.out.length) (fun _ => none, fun _ => none) _ h0
  refine ⟨this.1.congr ?_, this.2.congr ?_⟩
  · intro x q; unfold LstTo; simp [List.mem_range]
  · intro x q; unfold LstFrom; simp [List.mem_range]

theorem mem_keptOne {net : Net} {hops settles u a w : Nat} {b : Option Nat} {t : Nat × Nat × Nat} : t ∈ keptOne net hops settles u a w b ↔ ∃ y, b = some y ∧ u ≠ w ∧ search net u w (a + y) hops settles = none ∧ t = (u, w, a + y) := by
  unfold keptOne
  cases b with
  | none => simp
  | some y =>
    simp only [Option.some.injEq, exists_eq_left']
    by_cases e : u = w
    · simp [e]
    · rw [if_neg e]
      cases hs : search net u w (a + y) hops settles with
      | none => simp [e]
      | some d => simp
theorem mem_kept {net : Net} {v hops settles : Nat} {t : Nat × Nat × Nat} : t ∈ kept net v hops settles ↔
    ∃ u w a b, u < net.out.length ∧ w < net.out.length ∧ (lightest net v).1 u = some a ∧ (lightest net v).2 w = some b ∧ u ≠ w ∧ search (net.without v) u w (a + b) hops settles = none ∧ t = (u, w, a + b) := by
  unfold kept keptTo
  rw [List.mem_flatMap]
  constructor
  · rintro ⟨u, hu, h⟩
    unfold keptRow at h
    cases ht : (lightest net v).1 u with
    | none => rw [ht] at h; cases h
    | some a =>
      rw [ht] at h
      simp only [List.mem_flatMap] at h
      obtain ⟨w, hw, h⟩ := h
      obtain ⟨b, h1, h2, h3, h4⟩ := mem_keptOne.1 h
      exact ⟨u, w, a, b, List.mem_range.1 hu, List.mem_range.1 hw, ht, h1, h2, h3, h4⟩
  · rintro ⟨u, w, a, b, hu, hw, h1, h2, h3, h4, h5⟩
    refine ⟨u, List.mem_range.2 hu, ?_⟩
    unfold keptRow
    rw [h1]
    simp only [List.mem_flatMap]
    exact ⟨w, List.mem_range.2 hw, mem_keptOne.2 ⟨b, h2, h3, h4, h5⟩⟩

/-- what a way by a node that is kept stands on -/
structure KeptOk (n : Nat) (c : Core) (v : Nat) (t : Nat × Nat × Nat) (i j : Nat) (y z : Cut) : Prop where
  u : t.1 < n
  w : t.2.1 < n
  uv : t.1 ≠ v
  wv : t.2.1 ≠ v
  uw : t.1 ≠ t.2.1
  gu : c.gone.getD t.1 false = false
  gw : c.gone.getD t.2.1 false = false
  ai : c.at_ t.1 v = some i
  aj : c.at_ v t.2.1 = some j
  si : c.s[i]? = some y
  sj : c.s[j]? = some z
  yu : y.u = t.1
  yv : y.v = v
  zu : z.u = v
  zv : z.v = t.2.1
  sum : y.w + z.w = t.2.2
  m1 : (v, y.w) ∈ c.out.getD t.1 []
  m2 : (t.2.1, z.w) ∈ c.out.getD v []
theorem kept_ok {n : Nat} {c : Core} {v hops settles : Nat} (h : CoreOk n c) {t : Nat × Nat × Nat} (ht : t ∈ kept c.net v hops settles) : ∃ i j y z, KeptOk n c v t i j y z := by
  obtain ⟨u, w, a, b, hu, hw, h1, h2, h3, _, rfl⟩ := mem_kept.1 ht
  have hl : c.net.out.length = n := h.on
  rw [hl] at hu hw
  obtain ⟨l1, l2⟩ := light_spec c.net v
  obtain ⟨k1, k2, _, k4⟩ := l1.1 u a h1
  obtain ⟨m1, m2, _, m4⟩ := l2.1 w b h2
  obtain ⟨i, y, p1, p2, p3⟩ := h.at2 u v a k4
  obtain ⟨j, z, q1, q2, q3⟩ := h.at2 v w b m4
  obtain ⟨y', r1, r2, r3, _⟩ := h.at1 _ _ _ p1
  obtain ⟨z', s1, s2, s3, _⟩ := h.at1 _ _ _ q1
  rw [p2] at r1; injection r1 with r1; subst r1
  rw [q2] at s1; injection s1 with s1; subst s1
  exact ⟨i, j, y, z, hu, hw, k1, m1, h3, k2, m2, p1, q1, p2, q2, r2, r3, s2, s3, by simp only; omega, by rw [p3]; exact k4, by rw [q3]; exact m4⟩

/-! what is made -/
def EdgeCut (g : List (Nat × Nat × Nat)) (x : Cut) : Prop := 0 ≤ x.e ∧ g[x.e.toNat]? = some (x.u, x.v, x.w) ∧ x.a = -1 ∧ x.b = -1
def TwoCut (rk : Nat → Nat) (s : List Cut) (k : Nat) (x : Cut) : Prop :=
  x.e = -1 ∧ ∃ (i j : Nat) (y z : Cut), x.a = (i : Int) ∧ x.b = (j : Int) ∧ i < k ∧ j < k ∧ s[i]? = some y ∧ s[j]? = some z ∧ x.u ≠ x.v ∧ y.u = x.u ∧ y.v = z.u ∧ z.v = x.v ∧ y.w + z.w = x.w ∧ rk y.v < rk x.u ∧ rk y.v < rk x.v
def MadeS (n : Nat) (g : List (Nat × Nat × Nat)) (rk : Nat → Nat) (s : List Cut) : Prop := ∀ k x, s[k]? = some x → (EdgeCut g x ∨ TwoCut rk s k x) ∧ x.u < n ∧ x.v < n
theorem MadeS.snoc {n : Nat} {g : List (Nat × Nat × Nat)} {rk : Nat → Nat} {s : List Cut} (h : MadeS n g rk s) {x : Cut} (hu : x.u < n) (hv : x.v < n) (hx : EdgeCut g x ∨ TwoCut rk s s.length x) : MadeS n g rk (s ++ [x]) := by
  have tw : ∀ k y, k ≤ s.length → TwoCut rk s k y → TwoCut rk (s ++ [x]) k y := by
    rintro k y hk ⟨h1, i, j, a, b, h2, h3, h4, h5, h6, h7, h8⟩
    exact ⟨h1, i, j, a, b, h2, h3, h4, h5, by rw [List.getElem?_append_left (by omega)]; exact h6, by rw [List.getElem?_append_left (by omega)]; exact h7, h8⟩
  intro k y hy
  by_cases e : k < s.length
  · rw [List.getElem?_append_left e] at hy
    obtain ⟨h1, h2⟩ := h k y hy
    exact ⟨h1.imp id (tw k y (by omega)), h2⟩
  · have hk : k = s.length := by
      have := (List.getElem?_eq_some_iff.1 hy).1
      simp at this
      omega
    subst hk
    simp at hy
    subst hy
    exact ⟨hx.imp id (tw _ x (Nat.le_refl _)), hu, hv⟩
theorem MadeS.add {n : Nat} {g : List (Nat × Nat × Nat)} {rk : Nat → Nat} {c : Core} (h : MadeS n g rk c.s) {x : Cut} (hu : x.u < n) (hv : x.v < n) (hx : EdgeCut g x ∨ TwoCut rk c.s c.s.length x) : MadeS n g rk (c.add x).s := by
  unfold Core.add
  split
  · exact h
  · exact h.snoc hu hv hx

/-- one node's ways come in -/
theorem add_at {c : Core} {x : Cut} {p q : Nat} (h : ¬ (p = x.u ∧ q = x.v)) : (c.add x).at_ p q = c.at_ p q := by
  unfold Core.add
  split
  · rfl
  · show atPut c.at_ x.u x.v c.s.length p q = _
    unfold atPut
    rw [if_neg h]
theorem ways_facts {n : Nat} {E : Nat → Nat → Nat → Prop} {B v : Nat} {g : List (Nat × Nat × Nat)} {rk : Nat → Nat} {c0 : Core} (hs0 : Sound E c0) (hrk : ∀ u, u < n → u ≠ v → c0.gone.getD u false = false → rk v < rk u) :
    ∀ (l : List (Nat × Nat × Nat)) (c : Core), CoreOk n c → Sound E c → (∀ p a, a ∈ c.out.getD p [] → a.2 ≤ B) → MadeS n g rk c.s → (∃ m, c.s = c0.s ++ m) → (∀ p, c.at_ p v = c0.at_ p v) → (∀ q, c.at_ v q = c0.at_ v q) →
      (∀ t ∈ l, ∃ i j y z, KeptOk n c0 v t i j y z) → (∀ t ∈ l, t.2.2 ≤ B) → AddOk n E B c (Core.ways v c l) ∧ MadeS n g rk (Core.ways v c l).s ∧ (∀ t ∈ l, ∃ d', d' ≤ t.2.2 ∧ (t.2.1, d') ∈ (Core.ways v c l).out.getD t.1 []) := by
  intro l
  induction l with
  | nil =>
    intro c hok hs hb hm hp _ _ _ _
    exact ⟨⟨hok, hs, Lighter.refl c, rfl, hb, [], by simp [Core.ways]⟩, hm, fun _ h => (by cases h)⟩
  | cons t l ih =>
    intro c hok hs hb hm hp ha1 ha2 hk hB
    obtain ⟨i, j, y, z, K⟩ := hk t List.mem_cons_self
    obtain ⟨m, hp'⟩ := hp
    have hli := (List.getElem?_eq_some_iff.1 K.si).1
    have hlj := (List.getElem?_eq_some_iff.1 K.sj).1
    have hx : Via E All t.1 t.2.1 t.2.2 := by
      rw [← K.sum]
      exact (hs0 _ _ _ K.m1).trans trivial (hs0 _ _ _ K.m2)
    obtain ⟨A, d, hd1, hd2⟩ := add_facts (x := ⟨t.1, t.2.1, t.2.2, -1, (((c.at_ t.1 v).getD 0 : Nat) : Int), (((c.at_ v t.2.1).getD 0 : Nat) : Int)⟩) hok hs hb K.u K.w hx (hB t List.mem_cons_self)
    have hM : MadeS n g rk (c.way v t).s := by
      refine hm.add K.u K.w (Or.inr ⟨rfl, i, j, y, z, ?_, ?_, ?_, ?_, ?_, ?_, K.uw, K.yu, by rw [K.yv, K.zu], K.zv, K.sum, ?_, ?_⟩)
      · show (((c.at_ t.1 v).getD 0 : Nat) : Int) = i; rw [ha1, K.ai]; rfl
      · show (((c.at_ v t.2.1).getD 0 : Nat) : Int) = j; rw [ha2, K.aj]; rfl
      · rw [hp', List.length_append]; omega
      · rw [hp', List.length_append]; omega
      · rw [hp', List.getElem?_append_left hli]; exact K.si
      · rw [hp', List.getElem?_append_left hlj]; exact K.sj
      · rw [K.yv]; exact hrk _ K.u K.uv K.gu
      · rw [K.yv]; exact hrk _ K.w K.wv K.gw
    obtain ⟨l2, hl2⟩ := A.pre
    obtain ⟨A2, M2, K2⟩ := ih (c.way v t) A.ok A.so A.bd hM ⟨m ++ l2, by show (c.add _).s = _; rw [hl2, hp', List.append_assoc]⟩
      (fun p => (add_at (fun e => K.wv e.2.symm)).trans (ha1 p)) (fun q => (add_at (fun e => K.uv e.1.symm)).trans (ha2 q))
      (fun t ht => hk t (List.mem_cons_of_mem _ ht)) (fun t ht => hB t (List.mem_cons_of_mem _ ht))
    obtain ⟨l3, hl3⟩ := A2.pre
    refine ⟨⟨A2.ok, A2.so, A.li.trans A2.li, A2.go.trans A.go, A2.bd, l2 ++ l3, ?_⟩, M2, ?_⟩
    · show (Core.ways v (c.way v t) l).s = _
      rw [hl3]
      show (c.add _).s ++ l3 = _
      rw [hl2, List.append_assoc]
    · intro t' ht'
      rcases List.mem_cons.1 ht' with rfl | ht'
      · obtain ⟨d2, h1, h2⟩ := A2.li _ _ _ hd2
        exact ⟨d2, by simp only at hd1; omega, h2⟩
      · exact K2 t' ht'

theorem way_via {E : Nat → Nat → Nat → Prop} {c : Core} (hs : Sound E c) {v src x d : Nat} (h : Way (c.net.without v) src x d) : (x = src ∧ d = 0) ∨ Via E All src x d := by
  induction h with
  | here => exact Or.inl ⟨rfl, rfl⟩
  | on hw ha _ ih =>
    have := hs _ _ _ ha
    rcases ih with ⟨rfl, rfl⟩ | ih
    · rw [Nat.zero_add]; exact Or.inr this
    · exact Or.inr (ih.trans trivial this)

/-- between two contractions: B bounds the arcs' weights, done are those that have gone -/
structure Mid (n : Nat) (E : Nat → Nat → Nat → Prop) (g : List (Nat × Nat × Nat)) (rk : Nat → Nat) (B : Nat) (G : Nat → Prop) (c : Core) : Prop where
  ok : CoreOk n c
  so : Sound E c
  bd : ∀ p a, a ∈ c.out.getD p [] → a.2 ≤ B
  md : MadeS n g rk c.s
  go : ∀ u, u < n → (c.gone.getD u false = true ↔ G u)
  has : Has E n G c

theorem Mid.contract {n : Nat} {E : Nat → Nat → Nat → Prop} {g : List (Nat × Nat × Nat)} {rk : Nat → Nat} {B : Nat} {G : Nat → Prop} {c : Core} (h : Mid n E g rk B G c) {v hops settles : Nat} (hv : v < n) (hG : ¬ G v) (hrk : ∀ u, u < n → u ≠ v → ¬ G u → rk v < rk u) :
    Mid n E g rk (2 * B) (fun x => x = v ∨ G x) (c.contract hops settles v) ∧ (∃ m, (c.contract hops settles v).s = c.s ++ m) ∧ (c.contract hops settles v).s.length ≤ c.s.length + n * n := by
  have hnet : c.net.out.length = n := h.ok.on
  have hlen : (kept c.net v hops settles).length ≤ n * n := by
    have := keptTo_len c.net v hops settles (List.range c.net.out.length)
    rw [List.length_range, hnet] at this
    unfold kept
    rw [hnet]
    exact this
  have hgf : ∀ u, u < n → c.gone.getD u false = false → ¬ G u := fun u hu e hg => by
    have := (h.go u hu).2 hg
    rw [e] at this; cases this
  obtain ⟨A, M, K⟩ := ways_facts (B := 2 * B) (v := v) (g := g) (rk := rk) h.so (fun u hu huv hg => hrk u hu huv (hgf u hu hg)) (kept c.net v hops settles) c h.ok h.so
    (fun p a ha => by have := h.bd p a ha; omega) h.md ⟨[], by simp⟩ (fun _ => rfl) (fun _ => rfl) (fun t ht => kept_ok h.ok ht)
    (fun t ht => by
      obtain ⟨i, j, y, z, K⟩ := kept_ok h.ok ht
      have h1 := h.bd _ _ K.m1
      have h2 := h.bd _ _ K.m2
      have := K.sum
      simp only at h1 h2
      omega)
  have hlw : ∀ (l : List (Nat × Nat × Nat)) (c : Core), (Core.ways v c l).s.length ≤ c.s.length + l.length := by
    intro l
    induction l with
    | nil => intro c; simp [Core.ways]
    | cons t l ih =>
      intro c
      have h1 := ih (c.way v t)
      have h2 : (c.way v t).s.length ≤ c.s.length + 1 := add_len c _
      rw [List.length_cons]
      have e : Core.ways v c (t :: l) = Core.ways v (c.way v t) l := rfl
      rw [e]; omega
  have hgone : ∀ u, u < n → ((Core.ways v c (kept c.net v hops settles)).gone.set v true).getD u false = (if v = u then true else c.gone.getD u false) := by
    intro u _
    rw [A.go]
    exact getD_set _ _ _ _ _ (by rw [h.ok.gn]; exact hv)
  refine ⟨⟨⟨A.ok.on, ?_, A.ok.at1, A.ok.at2, A.ok.nd⟩, A.so, A.bd, M, ?_, ?_⟩, A.pre, Nat.le_trans (hlw _ c) (by omega)⟩
  · show ((Core.ways v c (kept c.net v hops settles)).gone.set v true).length = n
    rw [List.length_set]; exact A.ok.gn
  · intro u hu
    show ((Core.ways v c (kept c.net v hops settles)).gone.set v true).getD u false = true ↔ _
    rw [hgone u hu]
    by_cases e : v = u
    · simp [e]
    · rw [if_neg e, h.go u hu]
      constructor
      · exact Or.inr
      · rintro (h1 | h1)
        · exact absurd h1.symm e
        · exact h1
  · intro u w d hu hw huw hnu hnw hvia hl
    show (w, d) ∈ (Core.ways v c (kept c.net v hops settles)).out.getD u []
    have exact_ : ∀ d', d' ≤ d → (w, d') ∈ (Core.ways v c (kept c.net v hops settles)).out.getD u [] → (w, d) ∈ (Core.ways v c (kept c.net v hops settles)).out.getD u [] := by
      intro d' h1 h2
      have := hl.2 d' (A.so _ _ _ h2)
      have e : d' = d := by omega
      rw [← e]; exact h2
    have huv : u ≠ v := fun e => hnu (Or.inl e)
    have hwv : w ≠ v := fun e => hnw (Or.inl e)
    have hGu : ¬ G u := fun e => hnu (Or.inr e)
    have hGw : ¬ G w := fun e => hnw (Or.inr e)
    rcases hvia.split with h1 | ⟨a, b, ha, hb, hab⟩
    · obtain ⟨d', h2, h3⟩ := A.li _ _ _ (h.has u w d hu hw huw hGu hGw h1 hl)
      exact exact_ d' h2 h3
    · have hca := ha.mono (ok' := All) (fun _ _ => trivial)
      have hcb := hb.mono (ok' := All) (fun _ _ => trivial)
      have hd := hl.2 _ (hca.trans trivial hcb)
      have la : Least E u v a := ⟨hca, fun a' ha' => by have := hl.2 _ (ha'.trans trivial hcb); omega⟩
      have lb : Least E v w b := ⟨hcb, fun b' hb' => by have := hl.2 _ (hca.trans trivial hb'); omega⟩
      have ma := h.has u v a hu hv huv hGu hG ha la
      have mb := h.has v w b hv hw (fun e => hwv e.symm) hG hGw hb lb
      obtain ⟨l1, l2⟩ := light_spec c.net v
      have gu : c.net.isGone u = false := by
        cases e : c.gone.getD u false with
        | false => exact e
        | true => exact absurd ((h.go u hu).1 e) hGu
      have gw : c.net.isGone w = false := by
        cases e : c.gone.getD w false with
        | false => exact e
        | true => exact absurd ((h.go w hw).1 e) hGw
      obtain ⟨a', p1, p2⟩ := l1.2 u a ⟨huv, gu, by rw [hnet]; exact hu, ma⟩
      obtain ⟨b', q1, q2⟩ := l2.2 w b ⟨hwv, gw, by rw [hnet]; exact hv, mb⟩
      have ea : a' = a := by
        have := la.2 a' (h.so _ _ _ (l1.1 u a' p2).2.2.2)
        omega
      have eb : b' = b := by
        have := lb.2 b' (h.so _ _ _ (l2.1 w b' q2).2.2.2)
        omega
      subst ea; subst eb
      have hs : search (c.net.without v) u w (a' + b') hops settles = none := by
        cases e : search (c.net.without v) u w (a' + b') hops settles with
        | none => rfl
        | some x =>
          have hno : NetOk (c.net.without v) := without_ok ⟨by show c.gone.length = c.out.length; rw [h.ok.gn, h.ok.on], fun p a ha => by
            obtain ⟨i, y, r1, _⟩ := h.ok.at2 p a.1 a.2 ha
            obtain ⟨_, _, _, _, _, r5, _⟩ := h.ok.at1 _ _ _ r1
            show a.1 < c.out.length
            rw [h.ok.on]; exact r5⟩
          obtain ⟨r1, r2⟩ := search_sound hno (by show u < c.out.length; rw [h.ok.on]; exact hu) e
          rcases way_via h.so r2 with ⟨r3, _⟩ | r3
          · exact absurd r3.symm huw
          · have := hl.2 x r3; omega
      obtain ⟨d', r1, r2⟩ := K (u, w, a' + b') (mem_kept.2 ⟨u, w, a', b', by rw [hnet]; exact hu, by rw [hnet]; exact hw, p2, q2, huw, hs, rfl⟩)
      exact exact_ d' (by simp only at r1; omega) r2

/-! the beginning -/
def edgesOf (g : List (Nat × Nat × Nat)) (u w d : Nat) : Prop := (u, w, d) ∈ g
theorem begun_mid {n : Nat} {g : List (Nat × Nat × Nat)} {rk : Nat → Nat} {B : Nat} (hg : ∀ e ∈ g, e.1 < n ∧ e.2.1 < n ∧ e.2.2 ≤ B) :
    Mid n (edgesOf g) g rk B (fun _ => False) (begunFrom (Core.start n) 0 g) := by
  have emp : ∀ p, (Core.start n).out.getD p [] = [] := by
    intro p
    show (List.replicate n ([] : List (Nat × Nat))).getD p [] = []
    by_cases hp : p < n
    · simp [List.getD, hp]
    · simp [List.getD, hp]
  have key : ∀ (l : List (Nat × Nat × Nat)) (done : List (Nat × Nat × Nat)) (c : Core), done ++ l = g → CoreOk n c → Sound (edgesOf g) c → (∀ p a, a ∈ c.out.getD p [] → a.2 ≤ B) → MadeS n g rk c.s →
      (∀ e ∈ done, ∃ d, d ≤ e.2.2 ∧ (e.2.1, d) ∈ c.out.getD e.1 []) →
      AddOk n (edgesOf g) B c (begunFrom c done.length l) ∧ MadeS n g rk (begunFrom c done.length l).s ∧ (∀ e ∈ g, ∃ d, d ≤ e.2.2 ∧ (e.2.1, d) ∈ (begunFrom c done.length l).out.getD e.1 []) := by
    intro l
    induction l with
    | nil =>
      intro done c hd hok hs hb hm hh
      rw [List.append_nil] at hd
      subst hd
      exact ⟨⟨hok, hs, Lighter.refl c, rfl, hb, [], by simp [begunFrom]⟩, hm, hh⟩
    | cons e l ih =>
      intro done c hd hok hs hb hm hh
      have hget : g[done.length]? = some e := by rw [← hd]; simp
      have hmem : e ∈ g := List.mem_of_getElem? hget
      obtain ⟨g1, g2, g3⟩ := hg e hmem
      obtain ⟨A, d, d1, d2⟩ := add_facts (x := ⟨e.1, e.2.1, e.2.2, (done.length : Int), -1, -1⟩) hok hs hb g1 g2 (Via.one hmem) g3
      have hM : MadeS n g rk (c.add ⟨e.1, e.2.1, e.2.2, (done.length : Int), -1, -1⟩).s := hm.add g1 g2 (Or.inl ⟨by simp only; omega, by simp only [Int.toNat_natCast]; exact hget, rfl, rfl⟩)
      have := ih (done ++ [e]) _ (by rw [List.append_assoc]; exact hd) A.ok A.so A.bd hM (by
        intro e' he'
        rcases List.mem_append.1 he' with h | h
        · obtain ⟨d', h1, h2⟩ := hh e' h
          obtain ⟨d'', h3, h4⟩ := A.li _ _ _ h2
          exact ⟨d'', by omega, h4⟩
        · rw [List.mem_singleton] at h
          subst h
          exact ⟨d, d1, d2⟩)
      rw [List.length_append] at this
      obtain ⟨A2, M2, H2⟩ := this
      obtain ⟨l2, hl2⟩ := A.pre
      obtain ⟨l3, hl3⟩ := A2.pre
      refine ⟨⟨A2.ok, A2.so, A.li.trans A2.li, A2.go.trans A.go, A2.bd, l2 ++ l3, ?_⟩, M2, H2⟩
      show (begunFrom _ (done.length + 1) l).s = _
      have e1 : ([e] : List (Nat × Nat × Nat)).length = 1 := rfl
      rw [e1] at hl3
      rw [hl3, hl2, List.append_assoc]
  obtain ⟨A, M, H⟩ := key g [] (Core.start n) rfl (CoreOk.start n) (fun u w d h => by rw [emp] at h; cases h) (fun p a h => by rw [emp] at h; cases h) (fun k x h => by simp [Core.start] at h) (fun _ h => (by cases h))
  rw [List.length_nil] at A M H
  refine ⟨A.ok, A.so, A.bd, M, ?_, ?_⟩
  · intro u hu
    rw [A.go]
    show (List.replicate n false).getD u false = true ↔ _
    simp [List.getD, hu]
  · intro u w d _ _ _ _ _ hv hl
    cases hv with
    | one e =>
      obtain ⟨d', h1, h2⟩ := H _ e
      have := hl.2 d' (A.so _ _ _ h2)
      simp only at h1
      have e : d' = d := by omega
      rw [← e]; exact h2
    | two _ o _ => exact absurd o (fun h => h)

/-! all nodes go -/
def Core.build (hops settles : Nat) (c : Core) (l : List Nat) : Core := l.foldl (Core.contract hops settles) c
theorem Core.build_snoc (hops settles : Nat) (c : Core) (l : List Nat) (v : Nat) : Core.build hops settles c (l ++ [v]) = (Core.build hops settles c l).contract hops settles v := by
  unfold Core.build; rw [List.foldl_append]; rfl

/-- whom a shortcut stands for -/
def FullS (n : Nat) (E : Nat → Nat → Nat → Prop) (rk : Nat → Nat) (G : Nat → Prop) (s : List Cut) : Prop :=
  ∀ u w d, u < n → w < n → u ≠ w → (G u ∨ G w) → Via E (fun x => rk x < rk u ∧ rk x < rk w) u w d → Least E u w d → ∃ (i : Nat) (x : Cut), s[i]? = some x ∧ x.u = u ∧ x.v = w ∧ x.w = d

/-- rk says at which place a node goes -/
structure Ranked (n : Nat) (rk : Nat → Nat) (L : List Nat) : Prop where
  at_ : ∀ i v, L[i]? = some v → rk v = i ∧ v < n
  all : ∀ v, v < n → L[rk v]? = some v

theorem build_mid {n : Nat} {g : List (Nat × Nat × Nat)} {rk : Nat → Nat} {B : Nat} {hops settles : Nat} {L : List Nat} (hg : ∀ e ∈ g, e.1 < n ∧ e.2.1 < n ∧ e.2.2 ≤ B) (hL : Ranked n rk L) :
    ∀ k, k ≤ L.length → Mid n (edgesOf g) g rk (2 ^ k * B) (fun x => x < n ∧ rk x < k) (Core.build hops settles (begunFrom (Core.start n) 0 g) (L.take k)) ∧
      FullS n (edgesOf g) rk (fun x => x < n ∧ rk x < k) (Core.build hops settles (begunFrom (Core.start n) 0 g) (L.take k)).s ∧
      (Core.build hops settles (begunFrom (Core.start n) 0 g) (L.take k)).s.length ≤ g.length + k * (n * n) := by
  intro k
  have hE : ∀ u w d, edgesOf g u w d → u < n ∧ w < n := fun u w d h => ⟨(hg _ h).1, (hg _ h).2.1⟩
  induction k with
  | zero =>
    intro _
    have h := begun_mid (rk := rk) hg
    have hl := (begunFrom_ok (n := n) g (Core.start n) 0 (CoreOk.start n) (fun e he => ⟨(hg e he).1, (hg e he).2.1⟩)).2
    refine ⟨?_, ?_, ?_⟩
    · simp only [List.take_zero, Nat.pow_zero, Nat.one_mul]
      refine ⟨h.ok, h.so, h.bd, h.md, fun u hu => (h.go u hu).trans ⟨fun e => absurd e (fun h => h), fun e => by omega⟩, ?_⟩
      intro u w d hu hw huw _ _ hv hl
      refine h.has u w d hu hw huw (fun h => h) (fun h => h) (hv.mono (fun x hx => ?_)) hl
      omega
    · intro u w d _ _ _ hG
      rcases hG with hG | hG <;> omega
    · simp only [List.take_zero]
      have e : (Core.start n).s.length = 0 := rfl
      show (begunFrom (Core.start n) 0 g).s.length ≤ _
      omega
  | succ k ih =>
    intro hk
    obtain ⟨M, Fu, hle⟩ := ih (by omega)
    obtain ⟨v, hv⟩ : ∃ v, L[k]? = some v := ⟨_, List.getElem?_eq_getElem (by omega)⟩
    obtain ⟨hrv, hvn⟩ := hL.at_ k v hv
    rw [List.take_add_one, hv, Option.toList, Core.build_snoc]
    generalize Core.build hops settles (begunFrom (Core.start n) 0 g) (L.take k) = c at M Fu hle ⊢
    obtain ⟨M2, ⟨m, hm⟩, hle2⟩ := M.contract (v := v) (hops := hops) (settles := settles) hvn (fun e => by omega) (fun u hu huv hGu => by
      have h1 : ¬ rk u < k := fun e => hGu ⟨hu, e⟩
      have h2 : rk u ≠ k := fun e => by
        have := hL.all u hu
        rw [e, hv] at this
        injection this with this
        exact huv this.symm
      omega)
    have hiff : ∀ x, x < n → ((x = v ∨ (x < n ∧ rk x < k)) ↔ (x < n ∧ rk x < k + 1)) := by
      intro x hx
      constructor
      · rintro (rfl | h)
        · exact ⟨hx, by omega⟩
        · exact ⟨hx, by omega⟩
      · rintro ⟨_, h⟩
        by_cases e : rk x = k
        · have := hL.all x hx
          rw [e, hv] at this
          injection this with this
          exact Or.inl this.symm
        · exact Or.inr ⟨hx, by omega⟩
    refine ⟨⟨M2.ok, M2.so, ?_, M2.md, fun u hu => (M2.go u hu).trans (hiff u hu), ?_⟩, ?_, ?_⟩
    · intro p a ha
      have := M2.bd p a ha
      rw [Nat.pow_succ, Nat.mul_comm (2 ^ k) 2, Nat.mul_assoc]
      exact this
    · intro u w d hu hw huw hnu hnw hvia hl
      refine M2.has u w d hu hw huw (fun e => hnu ((hiff u hu).1 e)) (fun e => hnw ((hiff w hw).1 e)) (hvia.mono (fun x hx => (hiff x hx.1).2 hx)) hl
    · intro u w d hu hw huw hG hvia hl
      have old : (rk u < k ∨ rk w < k) → ∃ (i : Nat) (x : Cut), (c.contract hops settles v).s[i]? = some x ∧ x.u = u ∧ x.v = w ∧ x.w = d := by
        intro hG'
        obtain ⟨i, x, h1, h2⟩ := Fu u w d hu hw huw (hG'.imp (fun e => ⟨hu, e⟩) (fun e => ⟨hw, e⟩)) hvia hl
        refine ⟨i, x, ?_, h2⟩
        rw [hm, List.getElem?_append_left (List.getElem?_eq_some_iff.1 h1).1]; exact h1
      by_cases h1 : rk u < k ∨ rk w < k
      · exact old h1
      · have hmin : rk u = k ∨ rk w = k := by omega
        have hvia' := (hvia.bound hE).mono (ok' := fun x => x < n ∧ rk x < k) (fun x hx => ⟨hx.2, by omega⟩)
        have hin := M.has u w d hu hw huw (fun e => by omega) (fun e => by omega) hvia' hl
        obtain ⟨i, x, p1, p2, p3⟩ := M.ok.at2 u w d hin
        obtain ⟨x', q1, q2, q3, _⟩ := M.ok.at1 _ _ _ p1
        rw [p2] at q1; injection q1 with q1; subst q1
        refine ⟨i, x, ?_, q2, q3, p3⟩
        rw [hm, List.getElem?_append_left (List.getElem?_eq_some_iff.1 p2).1]; exact p2
    · rw [Nat.succ_mul]; omega
end Go.Proofs.Ytbaclbiedepjfaa.Pl
