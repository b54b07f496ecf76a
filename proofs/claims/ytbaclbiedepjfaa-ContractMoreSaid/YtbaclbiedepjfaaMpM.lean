/- maps from int to uint64, as functions. -/
import Derived.Test.YtbaclbiedepjfaaBas2
import Derived.Test.YtbaclbiedepjfaaProg
import Derived.Maps.Own
import Derived.Maps.OwnOps
import Derived.Maps.OwnSet
import Derived.Maps.Range
set_option autoImplicit false
namespace Go.Proofs.Ytbaclbiedepjfaa
open Go Go.RowKit Go.Maps

abbrev MD := DataW Unit
def key (u : Nat) : Lit := .int .i64 (u : Int)
def num (u : Nat) : MD := .lit (.int .u64 (u : Int))

/-- a datum that reads as f, on numbers below N -/
structure View (D : MD) (N : Nat) (f : Nat → Option Nat) : Prop where
  no : ∀ u, f u = none → Maps.has D (key u) = false
  yes : ∀ u q, f u = some q → Maps.has D (key u) = true ∧ D.atKey (key u) (num 0) = num q
  keys : ∀ l, Maps.has D l = true → ∃ u, u < N ∧ l = key u
  sz : Maps.size D = (List.range N).countP fun u => (f u).isSome
  lt : ∀ u q, f u = some q → u < N ∧ q < 18446744073709551616

/-- block mb is a map that reads as f -/
def IsMapU (w : World) (mb N : Nat) (f : Nat → Option Nat) : Prop :=
  ∃ D : MD, w.ownsMap Try.prog 3 (plainElem Try.prog 53) mb (Maps.size D) D ∧ View D N f

theorem ownsMap_tight {w : World} {P : Program} {k : TypeId} {R : Value → Option (MD × List MemPlace)} {b n : Nat} {D : MD} (h : w.ownsMap P k R b n D) : w.ownsMap P k R b (Maps.size D) D := by
  obtain ⟨es, clock, h1, h2, h3, h4⟩ := h
  refine ⟨es, clock, h1, h2, ?_, h4⟩
  rw [h4, Maps.size_eq, length_sorted]
  simp

def upd (f : Nat → Option Nat) (u q : Nat) : Nat → Option Nat := fun x => if x = u then some q else f x

theorem key_lit (u : Nat) : WideAt.IsKeyLit (key u) := trivial
theorem key_ne {u v : Nat} (h : u ≠ v) : key u ≠ key v := by
  unfold key
  intro e
  injection e with _ e
  omega

theorem View.put {D : MD} {N : Nat} {f : Nat → Option Nat} (h : View D N f) (ht : Maps.Tidy D) {u q : Nat} (hu : u < N) (hq : q < 18446744073709551616) : View (D.put (key u) (num q)) N (upd f u q) := by
  have hm := ht.isMap
  refine ⟨?_, ?_, ?_, ?_, ?_⟩
  · intro x hx
    unfold upd at hx
    by_cases e : x = u
    · rw [if_pos e] at hx; cases hx
    · rw [if_neg e] at hx
      rw [Maps.has_put_other (key_ne e)]
      exact h.no x hx
  · intro x k hx
    unfold upd at hx
    by_cases e : x = u
    · rw [if_pos e] at hx
      injection hx with hx
      subst hx; subst e
      exact ⟨Maps.has_put_same hm (key_lit x) _, Maps.atKey_put_same hm (key_lit x) _ _⟩
    · rw [if_neg e] at hx
      rw [Maps.has_put_other (key_ne e), Maps.atKey_put_other (key_ne e)]
      exact h.yes x k hx
  · intro l hl
    by_cases e : l = key u
    · exact ⟨u, hu, e⟩
    · rw [Maps.has_put_other e] at hl
      exact h.keys l hl
  · rw [Maps.size_put ht]
    cases hfu : f u with
    | none =>
      rw [h.no u hfu, h.sz]
      simp only [Bool.false_eq_true, if_false]
      have : ∀ (l : List Nat), l.Nodup → u ∈ l → l.countP (fun x => (upd f u q x).isSome) = l.countP (fun x => (f x).isSome) + 1 := by
        intro l
        induction l with
        | nil => intro _ hm; cases hm
        | cons a l ih =>
          intro hnd hm
          rw [List.nodup_cons] at hnd
          rw [List.countP_cons, List.countP_cons]
          by_cases ha : a = u
          · subst ha
            have e : l.countP (fun x => (upd f a q x).isSome) = l.countP (fun x => (f x).isSome) := by
              apply List.countP_congr
              intro x hx
              unfold upd
              rw [if_neg (fun e : x = a => hnd.1 (e ▸ hx))]
            rw [e]
            unfold upd
            rw [if_pos rfl, hfu]
            simp
          · rw [ih hnd.2 (by rcases List.mem_cons.1 hm with e | e; exact absurd e.symm ha; exact e)]
            have : upd f u q a = f a := by unfold upd; rw [if_neg ha]
            rw [this]; omega
      rw [this _ List.nodup_range (List.mem_range.2 hu)]
    | some k =>
      rw [(h.yes u k hfu).1, h.sz]
      simp only [if_true]
      apply List.countP_congr
      intro x _
      unfold upd
      by_cases e : x = u
      · subst e; rw [if_pos rfl, hfu]; simp
      · rw [if_neg e]
  · intro x k hx
    unfold upd at hx
    by_cases e : x = u
    · rw [if_pos e] at hx
      injection hx with hx
      subst hx; subst e
      exact ⟨hu, hq⟩
    · rw [if_neg e] at hx
      exact h.lt x k hx

theorem View.empty (N : Nat) : View (.map [] : MD) N (fun _ => none) :=
  ⟨fun _ _ => rfl, fun _ _ h => (by cases h), fun l h => (by cases h), by
    symm
    show _ = 0
    rw [List.countP_eq_zero]; simp, fun _ _ h => (by cases h)⟩

theorem int_law : Keyed Try.prog 3 := Maps.int_keyed Try.underlying3
theorem key_of (u : Nat) (hu : u < 9223372036854775808) : keyOf Try.prog 3 (.int .i64 (u : Int)) = some (key u) :=
  Maps.keyOf_int_mk Try.underlying3 (by simp [Lit.wf, IntKind.min, IntKind.max, IntKind.bits, IntKind.signed]; omega)
theorem num_of (u : Nat) (hu : u < 18446744073709551616) : plainElem (H := Unit) Try.prog 53 (.int .u64 (u : Int)) = some (num u, []) :=
  plainElem_int Try.underlying53 (by simp [Lit.wf, IntKind.min, IntKind.max, IntKind.bits, IntKind.signed]; omega)
theorem zeroU (w : World) : (zeroValue 53).run Try.prog w = .ok (.int .u64 0) w := by kernel_rfl

section
variable {w w' : World} {mb N : Nat} {f : Nat → Option Nat}
theorem IsMapU.made (w : World) (N : Nat) : IsMapU (w.alloc (.map #[] 0)) w.heap.size N (fun _ => none) :=
  ⟨.map [], World.ownsMap_made _ _ _ _, View.empty N⟩
theorem IsMapU.lt (h : IsMapU w mb N f) : mb < w.heap.size := by obtain ⟨D, h1, _⟩ := h; exact h1.lt
theorem IsMapU.keep {F : Nat → Prop} (h : IsMapU w mb N f) (k : Keep F w w') (hF : ¬ F mb) : IsMapU w' mb N f := by
  obtain ⟨D, ⟨es, clock, h1, h2⟩, hv⟩ := h
  have hlt : mb < w.heap.size := by
    rcases Nat.lt_or_ge mb w.heap.size with hlt | hge
    · exact hlt
    · rw [Array.getElem?_eq_none hge] at h1; cases h1
  exact ⟨D, ⟨es, clock, by rw [k.block mb hlt hF]; exact h1, h2⟩, hv⟩
theorem IsMapU.below (h : IsMapU w mb N f) (k : Below w.heap.size w w') : IsMapU w' mb N f :=
  h.keep (F := fun _ => False) (Keep.of_below k (Nat.le_refl _)) (fun h => h)
end

/-- 'v, ok := m[u]' -/
theorem wpList_lookU {ops : Array Oper} {rest : List Oper} {o : Oper} {a : Act} {w : World} {Q : Exit → Act → World → Prop} (hg : o.guard = none) (m x : Operand)
    (hop : o.op = Op.lookup 186 m x true) (mb N : Nat) (f : Nat → Option Nat) (h : IsMapU w mb N f) (u : Nat) (hu : u < 9223372036854775808) (hm : a.eval m = .map (some mb)) (hx : a.eval x = .int .i64 (u : Int))
    (hK : wpList Try.prog ops Q rest (a.put o.dst (.tuple #[.int .u64 (((f u).getD 0 : Nat) : Int), .bool (f u).isSome])) w) : wpList Try.prog ops Q (o :: rest) a w := by
  obtain ⟨D, hown, hv⟩ := h
  refine wpList_lookup_own_ok_int w hg m x 186 hop 3 53 .u64 int_law Try.underlying186 Try.underlying53 (zeroU w) mb _ D hm hown _ (key u) hx (key_of u hu) ?_
  intro c hat _
  cases hf : f u with
  | none =>
    have h0 := hv.no u hf
    rw [Maps.atKey_of_not_has h0] at hat
    injection hat with hat
    injection hat with _ hat
    subst hat
    rw [h0]
    rw [hf] at hK
    exact hK
  | some q =>
    obtain ⟨h1, h2⟩ := hv.yes u q hf
    have h3 : (num q : MD) = .lit (.int .u64 c) := h2.symm.trans hat
    unfold num at h3
    injection h3 with h3
    injection h3 with _ h3
    subst h3
    rw [h1]
    rw [hf] at hK
    exact hK

/-- 'm[u] = q' -/
theorem wpList_putU {ops : Array Oper} {rest : List Oper} {o : Oper} {a : Act} {w : World} {Q : Exit → Act → World → Prop} (hg : o.guard = none) (m x v : Operand)
    (hop : o.op = Op.mapUpdate 186 m x v) (mb N : Nat) (f : Nat → Option Nat) (h : IsMapU w mb N f) (u q : Nat) (hu : u < N) (hN : N ≤ 65536) (hq : q < 18446744073709551616)
    (hm : a.eval m = .map (some mb)) (hx : a.eval x = .int .i64 (u : Int)) (hv' : a.eval v = .int .u64 (q : Int))
    (hK : ∀ w', IsMapU w' mb N (upd f u q) → Keep (fun b => b = mb) w w' → wpList Try.prog ops Q rest (a.put o.dst undef) w') : wpList Try.prog ops Q (o :: rest) a w := by
  obtain ⟨D, hown, hv⟩ := h
  have hsz : Maps.size D ≤ 65536 := by
    rw [hv.sz]
    have := List.countP_le_length (p := fun u => (f u).isSome) (l := List.range N)
    simp at this; omega
  refine wpList_mapUpdate_own w hg m x v 186 hop 3 53 int_law Try.underlying186 (plainElem Try.prog 53) mb _ D hm hown (by unfold maxLen; omega) _ _ (key u) hx hv' (key_of u (by omega)) (num q) [] (num_of q hq) ?_
  intro w' h1 h2
  exact hK w' ⟨_, ownsMap_tight h1, hv.put (hown.tidy int_law) hu hq⟩ ((Keep.refl _ w).grown h2 (fun g e => Or.inl (by injection e with e; exact e.symm)))
end Go.Proofs.Ytbaclbiedepjfaa
