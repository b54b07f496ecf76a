/- contract's core on lists: what stays true of it. Plain: no program. -/
import Derived.Test.YtbaclbiedepjfaaPlCore
set_option autoImplicit false
namespace Go.Proofs.Ytbaclbiedepjfaa.Pl

/-- of a core of n nodes -/
structure CoreOk (n : Nat) (c : Core) : Prop where
  on : c.out.length = n
  gn : c.gone.length = n
  at1 : ∀ p q i, c.at_ p q = some i → ∃ y, c.s[i]? = some y ∧ y.u = p ∧ y.v = q ∧ p < n ∧ q < n ∧ (q, y.w) ∈ c.out.getD p []
  at2 : ∀ p q w, (q, w) ∈ c.out.getD p [] → ∃ i y, c.at_ p q = some i ∧ c.s[i]? = some y ∧ y.w = w
  nd : ∀ p, ((c.out.getD p []).map (·.1)).Nodup

theorem mem_rowPut {l : List (Nat × Nat)} {v w : Nat} {a : Nat × Nat} : a ∈ rowPut l v w ↔ (a ∈ l ∧ a.1 ≠ v) ∨ a = (v, w) := by
  unfold rowPut
  rw [List.mem_append, List.mem_filter, List.mem_singleton]
  simp [isTo]
theorem rowPut_nodup {l : List (Nat × Nat)} {v w : Nat} (h : (l.map (·.1)).Nodup) : ((rowPut l v w).map (·.1)).Nodup := by
  unfold rowPut
  rw [List.map_append, List.nodup_append]
  refine ⟨?_, by simp, ?_⟩
  · exact h.sublist (List.filter_sublist.map _)
  · intro a ha b hb
    simp only [List.map_cons, List.map_nil, List.mem_singleton] at hb
    subst hb
    obtain ⟨x, hx, rfl⟩ := List.mem_map.1 ha
    have := (List.mem_filter.1 hx).2
    simpa [isTo] using this
theorem set_getD (l : List (List (Nat × Nat))) (u p : Nat) (r : List (Nat × Nat)) (hu : u < l.length) : (l.set u r).getD p [] = if u = p then r else l.getD p [] := by
  by_cases h : u = p
  · subst h; simp [List.getD, hu]
  · simp [List.getD, h]

theorem CoreOk.put {n : Nat} {c : Core} {x : Cut} (h : CoreOk n c) (hu : x.u < n) (hv : x.v < n) : CoreOk n (c.put x) := by
  have ho : x.u < c.out.length := by rw [h.on]; exact hu
  refine ⟨by simpa [Core.put] using h.on, h.gn, ?_, ?_, ?_⟩
  · intro p q i hi
    show ∃ y, (c.s ++ [x])[i]? = some y ∧ _
    change atPut c.at_ x.u x.v c.s.length p q = some i at hi
    unfold atPut at hi
    change ∃ y, (c.s ++ [x])[i]? = some y ∧ y.u = p ∧ y.v = q ∧ p < n ∧ q < n ∧ (q, y.w) ∈ (c.out.set x.u (rowPut (c.out.getD x.u []) x.v x.w)).getD p []
    rw [set_getD _ _ _ _ ho]
    by_cases e : p = x.u ∧ q = x.v
    · rw [if_pos e] at hi
      injection hi with hi
      subst hi
      obtain ⟨rfl, rfl⟩ := e
      refine ⟨x, by simp, rfl, rfl, hu, hv, ?_⟩
      rw [if_pos rfl, mem_rowPut]
      exact Or.inr rfl
    · rw [if_neg e] at hi
      obtain ⟨y, h1, h2, h3, h4, h5, h6⟩ := h.at1 p q i hi
      refine ⟨y, ?_, h2, h3, h4, h5, ?_⟩
      · rw [List.getElem?_append_left (List.getElem?_eq_some_iff.1 h1).1]; exact h1
      · by_cases hp : x.u = p
        · subst hp
          rw [if_pos rfl, mem_rowPut]
          exact Or.inl ⟨h6, fun hq => e ⟨rfl, hq⟩⟩
        · rw [if_neg hp]; exact h6
  · intro p q w hw
    change (q, w) ∈ (c.out.set x.u (rowPut (c.out.getD x.u []) x.v x.w)).getD p [] at hw
    change ∃ i y, atPut c.at_ x.u x.v c.s.length p q = some i ∧ (c.s ++ [x])[i]? = some y ∧ y.w = w
    rw [set_getD _ _ _ _ ho] at hw
    unfold atPut
    by_cases hp : x.u = p
    · subst hp
      rw [if_pos rfl, mem_rowPut] at hw
      rcases hw with ⟨h1, h2⟩ | h1
      · obtain ⟨i, y, h3, h4, h5⟩ := h.at2 _ _ _ h1
        rw [if_neg (fun e => h2 e.2)]
        exact ⟨i, y, h3, by rw [List.getElem?_append_left (List.getElem?_eq_some_iff.1 h4).1]; exact h4, h5⟩
      · injection h1 with h1 h2
        subst h1; subst h2
        rw [if_pos ⟨rfl, rfl⟩]
        exact ⟨_, x, rfl, by simp, rfl⟩
    · rw [if_neg hp] at hw
      obtain ⟨i, y, h3, h4, h5⟩ := h.at2 _ _ _ hw
      rw [if_neg (fun e => hp e.1.symm)]
      exact ⟨i, y, h3, by rw [List.getElem?_append_left (List.getElem?_eq_some_iff.1 h4).1]; exact h4, h5⟩
  · intro p
    change (((c.out.set x.u (rowPut (c.out.getD x.u []) x.v x.w)).getD p []).map (·.1)).Nodup
    rw [set_getD _ _ _ _ ho]
    split
    · exact rowPut_nodup (h.nd x.u)
    · exact h.nd p
theorem CoreOk.add {n : Nat} {c : Core} {x : Cut} (h : CoreOk n c) (hu : x.u < n) (hv : x.v < n) : CoreOk n (c.add x) := by
  unfold Core.add
  split
  · exact h
  · exact h.put hu hv
theorem nodup_lt : ∀ (n : Nat) (l : List Nat), l.Nodup → (∀ x ∈ l, x < n) → l.length ≤ n
  | 0, l, _, h => by
    cases l with
    | nil => simp
    | cons x l => exact absurd (h x List.mem_cons_self) (by omega)
  | n + 1, l, hd, h => by
    by_cases hm : n ∈ l
    · have h1 := List.length_erase_of_mem hm
      have h2 := nodup_lt n (l.erase n) (hd.erase n) (fun x hx => by
        have h3 := (List.Nodup.mem_erase_iff hd).1 hx
        have := h x h3.2
        omega)
      have : 0 < l.length := List.length_pos_of_mem hm
      omega
    · exact Nat.le_succ_of_le (nodup_lt n l hd (fun x hx => by
        have := h x hx
        have : x ≠ n := fun e => hm (e ▸ hx)
        omega))
theorem CoreOk.row_lt {n : Nat} {c : Core} (h : CoreOk n c) (p : Nat) : (c.out.getD p []).length ≤ n := by
  have h1 := nodup_lt n ((c.out.getD p []).map (·.1)) (h.nd p) (fun q hq => by
    obtain ⟨a, ha, rfl⟩ := List.mem_map.1 hq
    obtain ⟨i, y, h1, _, _⟩ := h.at2 p a.1 a.2 ha
    obtain ⟨_, _, _, _, _, h5, _⟩ := h.at1 p a.1 i h1
    exact h5)
  simpa using h1
theorem add_len (c : Core) (x : Cut) : (c.add x).s.length ≤ c.s.length + 1 := by
  unfold Core.add
  split
  · omega
  · simp [Core.put]
theorem CoreOk.start (n : Nat) : CoreOk n (Core.start n) := by
  have e : ∀ p, (List.replicate n ([] : List (Nat × Nat))).getD p [] = [] := by
    intro p
    by_cases hp : p < n
    · simp [List.getD, hp]
    · simp [List.getD, hp]
  refine ⟨by simp [Core.start], by simp [Core.start], fun _ _ _ h => (by cases h), ?_, ?_⟩
  · intro p q w h
    change (q, w) ∈ (List.replicate n ([] : List (Nat × Nat))).getD p [] at h
    rw [e] at h
    cases h
  · intro p
    change (((List.replicate n ([] : List (Nat × Nat))).getD p []).map (·.1)).Nodup
    rw [e]
    simp

/-- the edges come in -/
def begunFrom (c : Core) : Nat → List (Nat × Nat × Nat) → Core
  | _, [] => c
  | i, e :: l => begunFrom (c.add ⟨e.1, e.2.1, e.2.2, (i : Int), -1, -1⟩) (i + 1) l
theorem begunFrom_snoc (c : Core) (i : Nat) (l : List (Nat × Nat × Nat)) (e : Nat × Nat × Nat) :
    begunFrom c i (l ++ [e]) = (begunFrom c i l).add ⟨e.1, e.2.1, e.2.2, ((i + l.length : Nat) : Int), -1, -1⟩ := by
  induction l generalizing c i with
  | nil => simp [begunFrom]
  | cons x l ih =>
    rw [List.cons_append, begunFrom, ih, begunFrom]
    have : i + 1 + l.length = i + (x :: l).length := by simp; omega
    rw [this]
theorem begunFrom_ok {n : Nat} (l : List (Nat × Nat × Nat)) : ∀ (c : Core) (i : Nat), CoreOk n c → (∀ e ∈ l, e.1 < n ∧ e.2.1 < n) → CoreOk n (begunFrom c i l) ∧ (begunFrom c i l).s.length ≤ c.s.length + l.length := by
  induction l with
  | nil => intro c i h _; exact ⟨h, by simp [begunFrom]⟩
  | cons e l ih =>
    intro c i h hl
    have he := hl e List.mem_cons_self
    obtain ⟨h1, h2⟩ := ih (c.add ⟨e.1, e.2.1, e.2.2, (i : Int), -1, -1⟩) (i + 1) (h.add he.1 he.2) (fun x hx => hl x (List.mem_cons_of_mem _ hx))
    have := add_len c ⟨e.1, e.2.1, e.2.2, (i : Int), -1, -1⟩
    refine ⟨h1, ?_⟩
    rw [List.length_cons]
    rw [begunFrom]
    omega
end Go.Proofs.Ytbaclbiedepjfaa.Pl
