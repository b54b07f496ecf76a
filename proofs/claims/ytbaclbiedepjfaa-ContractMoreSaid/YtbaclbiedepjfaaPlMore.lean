/- with greater limits less is kept. Plain. -/
import Derived.Test.YtbaclbiedepjfaaNdW
import Derived.Test.YtbaclbiedepjfaaPlFull
set_option autoImplicit false
namespace Go.Proofs.Ytbaclbiedepjfaa
open Go Go.RowKit

/-- one step of the comparison: what is left of the shorter list -/
def eat (rest : List Tri) (x : Tri) : List Tri :=
  match rest with
  | [] => []
  | y :: r => if y = x then r else y :: r
theorem eat_all : ∀ (a b : List Tri), b.Sublist a → a.foldl eat b = []
  | [], b, h => by
    cases h
    rfl
  | x :: a, b, h => by
    rw [List.foldl_cons]
    cases b with
    | nil => exact eat_all a [] (List.nil_sublist a)
    | cons y r =>
      show a.foldl eat (if y = x then r else y :: r) = []
      by_cases e : y = x
      · rw [if_pos e]
        subst e
        exact eat_all a r (List.cons_sublist_cons.1 h)
      · rw [if_neg e]
        refine eat_all a (y :: r) ?_
        cases h with
        | cons _ h => exact h
        | cons_cons _ _ => exact absurd rfl e

theorem flatMap_sub {α β : Type} (f g : α → List β) : ∀ (l : List α), (∀ x ∈ l, (f x).Sublist (g x)) → (l.flatMap f).Sublist (l.flatMap g)
  | [], _ => List.Sublist.refl _
  | x :: l, h => by
    rw [List.flatMap_cons, List.flatMap_cons]
    exact (h x List.mem_cons_self).append (flatMap_sub f g l (fun y hy => h y (List.mem_cons_of_mem _ hy)))

theorem kept_sub {net : Pl.Net} {v hops settles : Nat} (hn : Pl.NetOk net) (hp : ∀ v a, a ∈ net.arcs v → 0 < a.2) (hl : net.out.length < 1000) (hv : v < net.out.length) :
    (Pl.kept net v 1000 1000).Sublist (Pl.kept net v hops settles) := by
  obtain ⟨l1, l2⟩ := Pl.light_spec net v
  unfold Pl.kept Pl.keptTo
  refine flatMap_sub _ _ _ (fun u hu => ?_)
  have hul := List.mem_range.1 hu
  unfold Pl.keptRow
  cases ht : (Pl.lightest net v).1 u with
  | none => exact List.Sublist.refl _
  | some a =>
    refine flatMap_sub _ _ _ (fun x hx => ?_)
    obtain ⟨u1, u2, _, _⟩ := l1.1 u a ht
    unfold Pl.keptOne
    cases hb : (Pl.lightest net v).2 x with
    | none => exact List.Sublist.refl _
    | some b =>
      obtain ⟨x1, x2, _, _⟩ := l2.1 x b hb
      simp only
      by_cases e : u = x
      · rw [if_pos e, if_pos e]; exact List.Sublist.refl _
      · rw [if_neg e, if_neg e]
        have hno : Pl.NetOk (net.without v) := Pl.without_ok hn
        have hgl : v < net.gone.length := by rw [hn.gl]; exact hv
        have g : ∀ z, z ≠ v → net.isGone z = false → (net.without v).isGone z = false := by
          intro z hz hg
          show (net.gone.set v true).getD z false = false
          rw [Pl.getD_set _ _ _ _ _ hgl, if_neg (fun e => hz e.symm)]
          exact hg
        cases hs : Pl.search (net.without v) u x (a + b) 1000 1000 with
        | some d => exact List.nil_sublist _
        | none =>
          have hc := Pl.search_complete (n := net.without v) hno (fun z c hc => hp z c hc) (by show net.out.length < 1000; exact hl) (by show net.out.length < 1000; exact hl) (by show u < net.out.length; exact hul) (g u u1 u2) (g x x1 x2) hs
          cases hs2 : Pl.search (net.without v) u x (a + b) hops settles with
          | none => exact List.Sublist.refl _
          | some d =>
            obtain ⟨d1, d2⟩ := Pl.search_sound hno (by show u < net.out.length; exact hul) hs2
            have := hc d d2
            omega

theorem netRight_congr {rs rows : List RowD} {gone : List Bool} (h : rs.map RowD.l = rows.map RowD.l) : netRight rs gone = netRight rows gone := by
  have hl : rs.length = rows.length := by have := congrArg List.length h; simpa using this
  have ha : ∀ (n : Nat), (rs.any fun r => r.l.any (arcWrong n)) = (rows.any fun r => r.l.any (arcWrong n)) := by
    intro n
    have e : ∀ (l : List RowD), (l.any fun r => r.l.any (arcWrong n)) = (l.map RowD.l).any (fun z => z.any (arcWrong n)) := by
      intro l; rw [List.any_map]; rfl
    rw [e, e, h]
  unfold netRight
  rw [hl, ha]
theorem toNet_congr {rs rows : List RowD} {gone : List Bool} (h : rs.map RowD.l = rows.map RowD.l) : toNet rs gone = toNet rows gone := by
  have e : ∀ (l : List RowD), (l.map fun r => r.l.map fun x => (x.1.toNat, x.2)) = (l.map RowD.l).map (fun z => z.map fun x => (x.1.toNat, x.2)) := by
    intro l; rw [List.map_map]; rfl
  unfold toNet
  rw [e, e, h]
theorem nodeT_congr {rs rows : List RowD} {gone : List Bool} (h : rs.map RowD.l = rows.map RowD.l) (v a b : Int) (L : List Int) : nodeT rs gone v a b L = nodeT rows gone v a b L := by
  have hl : rs.length = rows.length := by have := congrArg List.length h; simpa using this
  unfold nodeT mayB
  rw [netRight_congr h, toNet_congr h, hl]

theorem nodeT_sub {w : World} {B : Nat} {oA gA : Option Addr} {rows : List RowD} {gone : List Bool} (hN : RawNet w B oA gA rows gone) (v h s : Int) (h1 : 1 ≤ h ∧ h ≤ 1000) (s1 : 1 ≤ s ∧ s ≤ 1000) (hl : rows.length < 1000) :
    (nodeT rows gone v 1000 1000 []).Sublist (nodeT rows gone v h s []) := by
  have e1 : within h = true := by unfold within; simp; omega
  have e2 : within s = true := by unfold within; simp; omega
  have e : mayB rows gone v 1000 1000 [] = mayB rows gone v h s [] := by
    unfold mayB optRight
    rw [e1, e2]
    rfl
  unfold nodeT
  rw [e]
  cases hm : mayB rows gone v h s [] with
  | false => exact List.Sublist.refl _
  | true =>
    simp only [if_true]
    unfold mayB at hm
    simp only [Bool.and_eq_true, decide_eq_true_eq] at hm
    obtain ⟨⟨⟨⟨a1, a2⟩, a3⟩, _⟩, _⟩ := hm
    obtain ⟨m1, _, m3⟩ := hN.mem a1
    refine kept_sub m1.ok m3 (by rw [toNet_len]; exact hl) (by rw [toNet_len]; omega)
theorem nodeT_len (rows : List RowD) (gone : List Bool) (v h s : Int) (L : List Int) : (nodeT rows gone v h s L).length ≤ rows.length * rows.length := by
  unfold nodeT
  split
  · have := Pl.keptTo_len (toNet rows gone) v.toNat h.toNat s.toNat (List.range (toNet rows gone).out.length)
    rw [List.length_range, toNet_len] at this
    unfold Pl.kept
    rw [toNet_len]
    exact this
  · simp
end Go.Proofs.Ytbaclbiedepjfaa
