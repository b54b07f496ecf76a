/- ranks: an order and its inverse. Plain: no program steps. -/
import Derived.Test.YtbaclbiedepjfaaInW
import Derived.Test.YtbaclbiedepjfaaPlFull
set_option autoImplicit false
namespace Go.Proofs.Ytbaclbiedepjfaa
open Go Go.RowKit

theorem rankFrom_nd : ∀ (L : List Int) (m : List Bool), rankFrom m L = true → (L.map Int.toNat).Nodup ∧ ∀ x ∈ L, m.getD x.toNat false = false
  | [], _, _ => ⟨by simp, fun _ h => (by cases h)⟩
  | x :: L, m, h => by
    unfold rankFrom at h
    simp only [Bool.and_eq_true, decide_eq_true_eq, Bool.not_eq_true'] at h
    obtain ⟨⟨⟨h0, h1⟩, h2⟩, h3⟩ := h
    obtain ⟨i1, i2⟩ := rankFrom_nd L _ h3
    have hx : x.toNat < m.length := by omega
    refine ⟨?_, ?_⟩
    · rw [List.map_cons, List.nodup_cons]
      refine ⟨fun hm => ?_, i1⟩
      obtain ⟨y, hy, e⟩ := List.mem_map.1 hm
      have := i2 y hy
      rw [e, Pl.getD_set _ _ _ _ _ hx, if_pos rfl] at this
      cases this
    · intro y hy
      rcases List.mem_cons.1 hy with rfl | hy
      · exact h2
      · have := i2 y hy
        rw [Pl.getD_set _ _ _ _ _ hx] at this
        by_cases e : x.toNat = y.toNat
        · rw [if_pos e] at this; cases this
        · rwa [if_neg e] at this
theorem rankOk_nd {L : List Int} (h : rankOk L = true) : (L.map Int.toNat).Nodup := (rankFrom_nd L _ h).1

theorem invFrom_other : ∀ (L : List Int) (out : List Int) (k x : Nat), x ∉ L.map Int.toNat → (invFrom out k L).getD x 0 = out.getD x 0
  | [], _, _, _, _ => rfl
  | y :: L, out, k, x, h => by
    rw [List.map_cons, List.mem_cons, not_or] at h
    rw [invFrom, invFrom_other L _ _ _ h.2]
    simp [List.getD, Ne.symm h.1]
theorem invFrom_at : ∀ (L : List Int) (out : List Int) (k i : Nat) (x : Int), (L.map Int.toNat).Nodup → (∀ y ∈ L, y.toNat < out.length) → L[i]? = some x → (invFrom out k L).getD x.toNat 0 = ((k + i : Nat) : Int)
  | [], _, _, _, _, _, _, h => by simp at h
  | y :: L, out, k, i, x, hn, hl, h => by
    rw [List.map_cons, List.nodup_cons] at hn
    cases i with
    | zero =>
      simp only [List.getElem?_cons_zero, Option.some.injEq] at h
      subst h
      rw [invFrom, invFrom_other L _ _ _ hn.1]
      have := hl y List.mem_cons_self
      simp [List.getD, this]
    | succ i =>
      rw [List.getElem?_cons_succ] at h
      rw [invFrom, invFrom_at L _ (k + 1) i x hn.2 (fun z hz => by rw [List.length_set]; exact hl z (List.mem_cons_of_mem _ hz)) h]
      omega

/-- the order in which nodes go -/
def orderOf (L : List Int) : List Nat := (inverse L).map Int.toNat
def rkOf (L : List Int) (v : Nat) : Nat := (L.getD v 0).toNat

theorem all_in {n : Nat} {l : List Nat} (hd : l.Nodup) (hl : ∀ x ∈ l, x < n) (hn : l.length = n) {i : Nat} (hi : i < n) : i ∈ l := by
  by_cases h : i ∈ l
  · exact h
  · have := Pl.nodup_lt n (i :: l) (List.nodup_cons.2 ⟨h, hd⟩) (fun x hx => by
      rcases List.mem_cons.1 hx with rfl | hx
      · exact hi
      · exact hl x hx)
    rw [List.length_cons] at this
    omega

theorem orderOf_len {L : List Int} (h : rankOk L = true) : (orderOf L).length = L.length := by
  unfold orderOf inverse
  rw [if_pos h, List.length_map, invFrom_len, List.length_replicate]
theorem orderOf_ranked {L : List Int} (h : rankOk L = true) : Pl.Ranked L.length (rkOf L) (orderOf L) := by
  have hnd := rankOk_nd h
  have hin := rankOk_in h
  have hlt : ∀ y ∈ L, y.toNat < L.length := fun y hy => by have := hin y hy; omega
  have hat : ∀ (v : Nat) (x : Int), L[v]? = some x → (orderOf L)[x.toNat]? = some v := by
    intro v x hx
    have h1 := invFrom_at L (List.replicate L.length 0) 0 v x hnd (fun y hy => by rw [List.length_replicate]; exact hlt y hy) hx
    have h2 : x.toNat < (invFrom (List.replicate L.length 0) 0 L).length := by rw [invFrom_len, List.length_replicate]; exact hlt x (List.mem_of_getElem? hx)
    unfold orderOf inverse
    rw [if_pos h, List.getElem?_map, List.getElem?_eq_getElem h2]
    simp only [List.getD, List.getElem?_eq_getElem h2, Option.getD_some] at h1
    rw [h1]
    simp
  have hrk : ∀ v, v < L.length → (orderOf L)[rkOf L v]? = some v := by
    intro v hv
    have := hat v L[v] (List.getElem?_eq_getElem hv)
    unfold rkOf
    simp only [List.getD, List.getElem?_eq_getElem hv, Option.getD_some]
    exact this
  refine ⟨?_, hrk⟩
  intro i v hi
  have hil : i < L.length := by
    have := (List.getElem?_eq_some_iff.1 hi).1
    rwa [orderOf_len h] at this
  have hm := all_in hnd (fun x hx => by obtain ⟨y, hy, rfl⟩ := List.mem_map.1 hx; exact hlt y hy) (by simp) hil
  obtain ⟨x, hx, e⟩ := List.mem_map.1 hm
  obtain ⟨j, hj, hjx⟩ := List.mem_iff_getElem.1 hx
  have h1 := hat j x (by rw [← hjx]; exact List.getElem?_eq_getElem hj)
  rw [e, hi] at h1
  injection h1 with h1
  subst h1
  refine ⟨?_, hj⟩
  unfold rkOf
  simp only [List.getD, List.getElem?_eq_getElem hj, Option.getD_some, hjx]
  exact e
end Go.Proofs.Ytbaclbiedepjfaa
