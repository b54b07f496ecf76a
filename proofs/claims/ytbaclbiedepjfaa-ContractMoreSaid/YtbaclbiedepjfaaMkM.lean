/- maps from [2]int to int, as functions. -/
import Derived.Test.YtbaclbiedepjfaaMpM
import Derived.WideKeyPair
set_option autoImplicit false
namespace Go.Proofs.Ytbaclbiedepjfaa
open Go Go.RowKit Go.Maps Go.WideMaps

theorem arr2 : ArrKey Try.prog 189 3 2 := ⟨Try.underlying189, by kernel_rfl, by kernel_rfl, by kernel_rfl⟩
theorem arr2_law : Keyed Try.prog 189 := Maps.Keyed.of_law arr2.law
theorem types_pos : ∃ m, Try.prog.types.size = m + 1 := by
  have h : (0 : Nat) < Try.prog.types.size := of_decide_eq_true (by kernel_rfl)
  exact ⟨Try.prog.types.size - 1, by omega⟩

def key2 (u v : Nat) : Lit := .string (keyBytes [.int .i64 (u : Int), .int .i64 (v : Int)])
theorem key2_lit (u v : Nat) : WideAt.IsKeyLit (key2 u v) := trivial
theorem wf_i64 (u : Nat) (hu : u < 9223372036854775808) : (Lit.int .i64 (u : Int)).wf = true := by
  simp [Lit.wf, IntKind.min, IntKind.max, IntKind.bits, IntKind.signed]; omega
theorem key2_of (u v : Nat) (hu : u < 9223372036854775808) (hv : v < 9223372036854775808) : keyOf Try.prog 189 (.agg #[.int .i64 (u : Int), .int .i64 (v : Int)]) = some (key2 u v) :=
  keyOf_pair arr2 Try.underlying3 types_pos (wf_i64 u hu) (wf_i64 v hv)
theorem key2_inj {u v u' v' : Nat} (hu : u < 9223372036854775808) (hv : v < 9223372036854775808) (hu' : u' < 9223372036854775808) (hv' : v' < 9223372036854775808) (h : key2 u v = key2 u' v') : u = u' ∧ v = v' := by
  have h1 := key2_of u v hu hv
  rw [h] at h1
  have := arr2_law.inj h1 (key2_of u' v' hu' hv')
  simp only [Value.agg.injEq, Array.mk.injEq, List.cons.injEq, Value.int.injEq] at this
  omega

abbrev F2 := Nat → Nat → Option Nat
def num2 (q : Nat) : MD := .lit (.int .i64 (q : Int))
structure View2 (D : MD) (N : Nat) (f : F2) : Prop where
  no : ∀ u v, u < N → v < N → f u v = none → Maps.has D (key2 u v) = false
  yes : ∀ u v q, f u v = some q → Maps.has D (key2 u v) = true ∧ D.atKey (key2 u v) (num2 0) = num2 q
  lt : ∀ u v q, f u v = some q → u < N ∧ v < N ∧ q < 9223372036854775808

/-- block mb is a map of at most k entries that reads as f, on numbers below N -/
def IsMap2 (w : World) (mb k N : Nat) (f : F2) : Prop :=
  ∃ D : MD, w.ownsMap Try.prog 189 (plainElem Try.prog 3) mb k D ∧ View2 D N f

def upd2 (f : F2) (u v q : Nat) : F2 := fun x y => if x = u ∧ y = v then some q else f x y

theorem View2.put {D : MD} {N : Nat} {f : F2} (h : View2 D N f) (hN : N ≤ 65536) (ht : Maps.Tidy D) {u v q : Nat} (hu : u < N) (hv : v < N) (hq : q < 9223372036854775808) : View2 (D.put (key2 u v) (num2 q)) N (upd2 f u v q) := by
  have hm := ht.isMap
  have hne : ∀ x y, x < N → y < N → ¬ (x = u ∧ y = v) → key2 x y ≠ key2 u v := fun x y hx hy hn e => hn (key2_inj (by omega) (by omega) (by omega) (by omega) e)
  refine ⟨?_, ?_, ?_⟩
  · intro x y hx hy hxy
    unfold upd2 at hxy
    by_cases e : x = u ∧ y = v
    · rw [if_pos e] at hxy; cases hxy
    · rw [if_neg e] at hxy
      rw [Maps.has_put_other (hne x y hx hy e)]
      exact h.no x y hx hy hxy
  · intro x y k hxy
    unfold upd2 at hxy
    by_cases e : x = u ∧ y = v
    · rw [if_pos e] at hxy
      injection hxy with hxy
      obtain ⟨rfl, rfl⟩ := e
      subst hxy
      exact ⟨Maps.has_put_same hm (key2_lit x y) _, Maps.atKey_put_same hm (key2_lit x y) _ _⟩
    · rw [if_neg e] at hxy
      obtain ⟨hx, hy, _⟩ := h.lt x y k hxy
      rw [Maps.has_put_other (hne x y hx hy e), Maps.atKey_put_other (hne x y hx hy e)]
      exact h.yes x y k hxy
  · intro x y k hxy
    unfold upd2 at hxy
    by_cases e : x = u ∧ y = v
    · rw [if_pos e] at hxy
      injection hxy with hxy
      obtain ⟨rfl, rfl⟩ := e
      subst hxy
      exact ⟨hu, hv, hq⟩
    · rw [if_neg e] at hxy
      exact h.lt x y k hxy

theorem num2_of (q : Nat) (hq : q < 9223372036854775808) : plainElem (H := Unit) Try.prog 3 (.int .i64 (q : Int)) = some (num2 q, []) := plainElem_int Try.underlying3 (wf_i64 q hq)
theorem zeroI (w : World) : (zeroValue 3).run Try.prog w = .ok (.int .i64 0) w := by kernel_rfl

section
variable {w w' : World} {mb N k : Nat} {f : F2}
theorem IsMap2.made (w : World) (N : Nat) : IsMap2 (w.alloc (.map #[] 0)) w.heap.size 0 N (fun _ _ => none) :=
  ⟨.map [], World.ownsMap_made _ _ _ _, ⟨fun _ _ _ _ _ => rfl, fun _ _ _ h => (by cases h), fun _ _ _ h => (by cases h)⟩⟩
theorem IsMap2.lt (h : IsMap2 w mb k N f) : mb < w.heap.size := by obtain ⟨D, h1, _⟩ := h; exact h1.lt
theorem IsMap2.keep {F : Nat → Prop} (h : IsMap2 w mb k N f) (hk : Keep F w w') (hF : ¬ F mb) : IsMap2 w' mb k N f := by
  obtain ⟨D, ⟨es, clock, h1, h2⟩, hv⟩ := h
  have hlt : mb < w.heap.size := by
    rcases Nat.lt_or_ge mb w.heap.size with hlt | hge
    · exact hlt
    · rw [Array.getElem?_eq_none hge] at h1; cases h1
  exact ⟨D, ⟨es, clock, by rw [hk.block mb hlt hF]; exact h1, h2⟩, hv⟩
theorem IsMap2.below (h : IsMap2 w mb k N f) (hk : Below w.heap.size w w') : IsMap2 w' mb k N f :=
  h.keep (F := fun _ => False) (Keep.of_below hk (Nat.le_refl _)) (fun h => h)
theorem IsMap2.run_look (h : IsMap2 w mb k N f) (u v : Nat) (hu : u < N) (hv : v < N) (hN : N ≤ 65536) :
    (Instr.lookup 122 (.map (some mb)) (.agg #[.int .i64 (u : Int), .int .i64 (v : Int)]) false).run Try.prog w = .ok (.int .i64 (((f u v).getD 0 : Nat) : Int)) w ∧
    (Instr.lookup 122 (.map (some mb)) (.agg #[.int .i64 (u : Int), .int .i64 (v : Int)]) true).run Try.prog w = .ok (.tuple #[.int .i64 (((f u v).getD 0 : Nat) : Int), .bool (f u v).isSome]) w := by
  obtain ⟨D, hown, hv2⟩ := h
  have hk := key2_of u v (by omega) (by omega)
  obtain ⟨c, hrun, hat, _⟩ := hown.lookup_int arr2_law Try.underlying122 Try.underlying3 (zeroI w) hk
  obtain ⟨v2, ps, hrun2, hR⟩ := hown.look_ok arr2_law Try.underlying122 (zeroI w) (plainElem_int Try.underlying3 (by decide)) hk
  obtain ⟨c2, rfl, hc2, _⟩ := plainElem_int_inv Try.underlying3 hR
  simp only [Prod.mk.injEq] at hc2
  rw [hrun, hrun2]
  cases hf : f u v with
  | none =>
    have h0 := hv2.no u v hu hv hf
    rw [Maps.atKey_of_not_has h0] at hat hc2
    injection hat with hat
    injection hat with _ hat
    obtain ⟨hc2, _⟩ := hc2
    injection hc2 with hc2
    injection hc2 with _ hc2
    subst hat; subst hc2
    rw [h0]
    exact ⟨rfl, rfl⟩
  | some q =>
    obtain ⟨h1, h2⟩ := hv2.yes u v q hf
    have h3 : (num2 q : MD) = .lit (.int .i64 c) := h2.symm.trans hat
    have h4 : (num2 q : MD) = .lit (.int .i64 c2) := h2.symm.trans hc2.1
    unfold num2 at h3 h4
    injection h3 with h3
    injection h3 with _ h3
    injection h4 with h4
    injection h4 with _ h4
    subst h3; subst h4
    rw [h1]
    exact ⟨rfl, rfl⟩
set_option maxRecDepth 100000 in
theorem IsMap2.run_put (h : IsMap2 w mb k N f) (u v q : Nat) (hu : u < N) (hv : v < N) (hN : N ≤ 65536) (hk : k < maxLen) (hq : q < 9223372036854775808) :
    ∃ w', (Instr.mapUpdate 122 (.map (some mb)) (.agg #[.int .i64 (u : Int), .int .i64 (v : Int)]) (.int .i64 (q : Int))).run Try.prog w = .ok () w' ∧ IsMap2 w' mb (k + 1) N (upd2 f u v q) ∧ Keep (fun b => b = mb) w w' := by
  obtain ⟨D, hown, hv2⟩ := h
  obtain ⟨w', h1, h2, h3⟩ := hown.update arr2_law Try.underlying122 hk (key2_of u v (Nat.lt_of_lt_of_le hu (Nat.le_trans hN (by decide))) (Nat.lt_of_lt_of_le hv (Nat.le_trans hN (by decide)))) (num2_of q hq)
  exact ⟨w', h1, ⟨_, h2, hv2.put hN (hown.tidy arr2_law) hu hv hq⟩, (Keep.refl _ w).grown h3 (fun g e => Or.inl (by injection e with e; exact e.symm))⟩
end
end Go.Proofs.Ytbaclbiedepjfaa
