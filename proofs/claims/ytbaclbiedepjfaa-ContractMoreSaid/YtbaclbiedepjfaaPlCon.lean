/- contract on lists: the lightest arcs, what is kept. Plain: no program. -/
import Derived.Test.YtbaclbiedepjfaaPlSrch
set_option autoImplicit false
namespace Go.Proofs.Ytbaclbiedepjfaa.Pl

abbrev F := Nat → Option Nat
def lessO (o : Option Nat) (w : Nat) : Bool :=
  match o with
  | none => true
  | some q => decide (w < q)
def leastF (net : Net) (v : Nat) (f : F) (u w : Nat) : F :=
  if u ≠ v ∧ net.isGone u = false ∧ lessO (f u) w = true then (fun x => if x = u then some w else f x) else f
def lightStep (net : Net) (v u : Nat) (tf : F × F) (a : Nat × Nat) : F × F :=
  if u = v then (tf.1, leastF net v tf.2 a.1 a.2) else if a.1 = v then (leastF net v tf.1 u a.2, tf.2) else tf
def lightRow (net : Net) (v u : Nat) (tf : F × F) (l : List (Nat × Nat)) : F × F := l.foldl (lightStep net v u) tf
def lightTo (net : Net) (v : Nat) (l : List Nat) : F × F := l.foldl (fun tf u => lightRow net v u tf (net.arcs u)) (fun _ => none, fun _ => none)
def lightest (net : Net) (v : Nat) : F × F := lightTo net v (List.range net.out.length)

/-- a net without a node -/
def Net.without (net : Net) (v : Nat) : Net := { net with gone := net.gone.set v true }

/-- one way by a node: u, w, its weight -/
def keptOne (net : Net) (hops settles : Nat) (u a w : Nat) (b : Option Nat) : List (Nat × Nat × Nat) :=
  match b with
  | none => []
  | some b => if u = w then [] else match search net u w (a + b) hops settles with
    | none => [(u, w, a + b)]
    | some _ => []
def keptRow (net : Net) (hops settles : Nat) (fr : F) (u : Nat) (to : Option Nat) (l : List Nat) : List (Nat × Nat × Nat) :=
  match to with
  | none => []
  | some a => l.flatMap fun w => keptOne net hops settles u a w (fr w)
def keptTo (net : Net) (v hops settles : Nat) (l : List Nat) : List (Nat × Nat × Nat) :=
  l.flatMap fun u => keptRow (net.without v) hops settles (lightest net v).2 u ((lightest net v).1 u) (List.range net.out.length)
def kept (net : Net) (v hops settles : Nat) : List (Nat × Nat × Nat) := keptTo net v hops settles (List.range net.out.length)

theorem lightRow_snoc (net : Net) (v u : Nat) (tf : F × F) (l : List (Nat × Nat)) (a : Nat × Nat) : lightRow net v u tf (l ++ [a]) = lightStep net v u (lightRow net v u tf l) a := by
  unfold lightRow; rw [List.foldl_append]; rfl
theorem lightTo_snoc (net : Net) (v : Nat) (l : List Nat) (u : Nat) : lightTo net v (l ++ [u]) = lightRow net v u (lightTo net v l) (net.arcs u) := by
  unfold lightTo; rw [List.foldl_append]; rfl
theorem take_snoc {α : Type} {l : List α} {j : Nat} {x : α} (h : l[j]? = some x) : l.take (j + 1) = l.take j ++ [x] := by
  rw [List.take_add_one, h]; rfl

/-- what is below where all values are -/
def Small (n b : Nat) (f : F) : Prop := ∀ u q, f u = some q → u < n ∧ q ≤ b
theorem Small.least {net : Net} {v n b : Nat} {f : F} {u w : Nat} (h : Small n b f) (hu : u < n) (hw : w ≤ b) : Small n b (leastF net v f u w) := by
  unfold leastF
  split
  · intro x q hx
    simp only at hx
    split at hx
    · rename_i e
      injection hx with hx
      subst hx; subst e
      exact ⟨hu, hw⟩
    · exact h x q hx
  · exact h
def Small2 (n b : Nat) (tf : F × F) : Prop := Small n b tf.1 ∧ Small n b tf.2
theorem Small2.step {net : Net} {v u n b : Nat} {tf : F × F} {a : Nat × Nat} (h : Small2 n b tf) (hu : u < n) (ha : a.1 < n) (hw : a.2 ≤ b) : Small2 n b (lightStep net v u tf a) := by
  unfold lightStep
  split
  · exact ⟨h.1, h.2.least ha hw⟩
  · split
    · exact ⟨h.1.least hu hw, h.2⟩
    · exact h
theorem Small2.row {net : Net} {v u n b : Nat} (hu : u < n) (l : List (Nat × Nat)) : ∀ tf, Small2 n b tf → (∀ a ∈ l, a.1 < n ∧ a.2 ≤ b) → Small2 n b (lightRow net v u tf l) := by
  induction l with
  | nil => intro tf h _; exact h
  | cons a l ih =>
    intro tf h hl
    exact ih _ (h.step hu (hl a List.mem_cons_self).1 (hl a List.mem_cons_self).2) (fun x hx => hl x (List.mem_cons_of_mem _ hx))
theorem lightest_small {net : Net} {v b : Nat} (hn : NetOk net) (hb : ∀ u a, a ∈ net.arcs u → a.2 ≤ b) : Small2 net.out.length b (lightest net v) := by
  unfold lightest lightTo
  have : ∀ (l : List Nat) (tf : F × F), (∀ u ∈ l, u < net.out.length) → Small2 net.out.length b tf → Small2 net.out.length b (l.foldl (fun tf u => lightRow net v u tf (net.arcs u)) tf) := by
    intro l
    induction l with
    | nil => intro tf _ h; exact h
    | cons u l ih =>
      intro tf hl h
      exact ih _ (fun x hx => hl x (List.mem_cons_of_mem _ hx)) (Small2.row (hl u List.mem_cons_self) _ _ h (fun a ha => ⟨hn.to u a ha, hb u a ha⟩))
  exact this _ _ (fun u hu => List.mem_range.1 hu) ⟨fun _ _ h => (by cases h), fun _ _ h => (by cases h)⟩
theorem without_ok {net : Net} {v : Nat} (hn : NetOk net) : NetOk (net.without v) := ⟨by simpa [Net.without] using hn.gl, fun u a ha => hn.to u a ha⟩
theorem keptTo_snoc (net : Net) (v hops settles : Nat) (l : List Nat) (u : Nat) : keptTo net v hops settles (l ++ [u]) = keptTo net v hops settles l ++ keptRow (net.without v) hops settles (lightest net v).2 u ((lightest net v).1 u) (List.range net.out.length) := by
  unfold keptTo; rw [List.flatMap_append, List.flatMap_singleton]
theorem keptRow_snoc (net : Net) (hops settles : Nat) (fr : F) (u a : Nat) (l : List Nat) (w : Nat) : keptRow net hops settles fr u (some a) (l ++ [w]) = keptRow net hops settles fr u (some a) l ++ keptOne net hops settles u a w (fr w) := by
  unfold keptRow; simp only [List.flatMap_append, List.flatMap_singleton]
theorem keptOne_len (net : Net) (hops settles u a w : Nat) (b : Option Nat) : (keptOne net hops settles u a w b).length ≤ 1 := by
  unfold keptOne
  split
  · simp
  · split
    · simp
    · split <;> simp
theorem keptRow_len (net : Net) (hops settles : Nat) (fr : F) (u : Nat) (o : Option Nat) (l : List Nat) : (keptRow net hops settles fr u o l).length ≤ l.length := by
  cases o with
  | none => simp [keptRow]
  | some a =>
    induction l with
    | nil => simp [keptRow]
    | cons w l ih =>
      have h := keptOne_len net hops settles u a w (fr w)
      unfold keptRow at ih ⊢
      simp only [List.flatMap_cons, List.length_append, List.length_cons] at ih ⊢
      omega
theorem keptTo_len (net : Net) (v hops settles : Nat) (l : List Nat) : (keptTo net v hops settles l).length ≤ l.length * net.out.length := by
  unfold keptTo
  induction l with
  | nil => simp
  | cons u l ih =>
    rw [List.flatMap_cons, List.length_append, List.length_cons, Nat.succ_mul]
    have := keptRow_len (net.without v) hops settles (lightest net v).2 u ((lightest net v).1 u) (List.range net.out.length)
    rw [List.length_range] at this
    omega
end Go.Proofs.Ytbaclbiedepjfaa.Pl
