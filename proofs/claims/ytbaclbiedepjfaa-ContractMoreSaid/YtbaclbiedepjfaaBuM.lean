/- contract.Build: what it answers. -/
import Derived.Test.YtbaclbiedepjfaaCtW
import Derived.Test.YtbaclbiedepjfaaBhW
import Derived.Test.YtbaclbiedepjfaaPlRk
import Derived.Test.YtbaclbiedepjfaaCmW
set_option autoImplicit false
namespace Go.Proofs.Ytbaclbiedepjfaa
open Go Go.RowKit

theorem graphF_ok {N : Int} {E : List EdgeT} (h : graphF N E = 0) : 1 ≤ N ∧ N ≤ 4096 ∧ E.length ≤ 16384 ∧ ∀ x ∈ E, (0 ≤ x.1 ∧ x.1 < N) ∧ (0 ≤ x.2.1 ∧ x.2.1 < N) ∧ x.1 ≠ x.2.1 ∧ 1 ≤ x.2.2 ∧ x.2.2 ≤ 4294967296 := by
  unfold graphF at h
  split at h
  · cases h
  · rename_i h1
    split at h
    · cases h
    · rename_i h2
      split at h
      · cases h
      · rename_i h3
        split at h
        · cases h
        · rename_i h4
          refine ⟨by omega, by omega, by omega, fun x hx => ?_⟩
          have a : looseB N x = false := by
            cases e : looseB N x with
            | false => rfl
            | true => exact absurd (List.any_eq_true.2 ⟨x, hx, e⟩) h3
          have b : heavyB x = false := by
            cases e : heavyB x with
            | false => rfl
            | true => exact absurd (List.any_eq_true.2 ⟨x, hx, e⟩) h4
          simp only [looseB, nodeB, Bool.or_eq_false_iff, Bool.not_eq_false', Bool.and_eq_true, decide_eq_true_eq, decide_eq_false_iff_not] at a
          simp only [heavyB, Bool.or_eq_false_iff, decide_eq_false_iff_not] at b
          exact ⟨a.1.1, a.1.2, a.2, by omega, by omega⟩
theorem graphF_edges {n : Nat} {E : List EdgeT} (h : graphF n E = 0) : ∀ e ∈ E.map toE, e.1 < n ∧ e.2.1 < n ∧ e.2.2 ≤ 4294967296 := by
  intro e he
  obtain ⟨x, hx, rfl⟩ := List.mem_map.1 he
  obtain ⟨h1, h2, _, _, h5⟩ := (graphF_ok h).2.2.2 x hx
  unfold toE
  simp only
  omega

/-- the answer: a hierarchy, all new -/
def builtS (n hops settles : Nat) (E : List EdgeT) (L : List Int) : List Pl.Cut := (Pl.Core.build hops settles (begunC n E) (orderOf L)).s
def BuDone (n hops settles : Nat) (E : List EdgeT) (L : List Int) (w : World) (e : Ending) (w' : World) : Prop :=
  ∃ rv sv, e = .returned (.tuple #[.agg #[rv, sv], .int .i64 0]) ∧ w'.ownsRow w.heap.size 3 1 rv L.length (L.map (Value.int .i64)) ∧
    w'.ownsRow w.heap.size 69 6 sv (builtS n hops settles E L).length ((builtS n hops settles E L).flatMap cellsC) ∧ Below w.heap.size w w'
def BuFail (f : Int) (w : World) (e : Ending) (w' : World) : Prop := e = .returned (.tuple #[.agg #[.slice none 0 0, .slice none 0 0], .int .i64 f]) ∧ Below w.heap.size w w'

/-- what holds of the core between two nodes -/
structure BuMid (n : Nat) (E : List EdgeT) (hops settles : Nat) (O : List Nat) (k : Nat) : Prop where
  ok : Pl.CoreOk n (Pl.Core.build hops settles (begunC n E) (O.take k))
  bd : ∀ v a, a ∈ (Pl.Core.build hops settles (begunC n E) (O.take k)).out.getD v [] → a.2 ≤ 1125899906842624
  ln : (Pl.Core.build hops settles (begunC n E) (O.take k)).s.length + n * n ≤ 1000000
theorem buMid {n : Nat} {E : List EdgeT} {hops settles : Nat} {rk : Nat → Nat} {O : List Nat} (hg : graphF n E = 0) (hn : n ≤ 12) (hO : Pl.Ranked n rk O) (hl : O.length ≤ n) {k : Nat} (hk : k ≤ O.length) : BuMid n E hops settles O k := by
  obtain ⟨M, _, h3⟩ := Pl.build_mid (hops := hops) (settles := settles) (graphF_edges hg) hO k hk
  have hE := (graphF_ok hg).2.2.1
  refine ⟨M.ok, fun v a ha => ?_, ?_⟩
  · have h1 := M.bd v a ha
    have h2 : 2 ^ k ≤ 2 ^ 12 := Nat.pow_le_pow_right (by omega) (by omega)
    have h3 : 2 ^ k * 4294967296 ≤ 2 ^ 12 * 4294967296 := Nat.mul_le_mul_right _ h2
    omega
  · rw [List.length_map] at h3
    have h4 : n * n ≤ 12 * 12 := Nat.mul_le_mul hn hn
    have h5 : k * (n * n) ≤ 12 * (12 * 12) := Nat.mul_le_mul (by omega) h4
    show (Pl.Core.build hops settles (Pl.begunFrom (Pl.Core.start n) 0 (E.map toE)) (O.take k)).s.length + n * n ≤ 1000000
    omega
end Go.Proofs.Ytbaclbiedepjfaa
