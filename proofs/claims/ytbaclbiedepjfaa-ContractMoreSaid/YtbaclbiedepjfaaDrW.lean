/- slices.DeleteFunc on a core's own row. -/
import Derived.Test.YtbaclbiedepjfaaDlW
import Derived.Test.YtbaclbiedepjfaaPlCore
import Derived.Test.YtbaclbiedepjfaaHpM
set_option autoImplicit false
namespace Go.Proofs.Ytbaclbiedepjfaa
open Go Go.RowKit

def toR (x : Nat × Nat) : Int × Nat := ((x.1 : Int), x.2)
theorem toR_cells (l : List (Nat × Nat)) : (l.map toR).flatMap cellsR = l.flatMap cellsI := by
  induction l with
  | nil => rfl
  | cons x l ih => rw [List.map_cons, List.flatMap_cons, List.flatMap_cons, ih]; rfl
theorem toR_filter (v : Nat) (l : List (Nat × Nat)) : (l.map toR).filter (keepB v) = (l.filter (Pl.isTo v)).map toR := by
  rw [List.filter_map]
  congr 1
  apply List.filter_congr
  intro x _
  show (!decide ((x.1 : Int) = (v : Int))) = !decide (x.1 = v)
  congr 1
  rw [decide_eq_decide]
  omega

/-- the answer: a row of its own, in the same block -/
def DrDone (base : Nat) (ru : Value) (l' : List (Nat × Nat)) (w : World) (e : Ending) (w' : World) : Prop :=
  ∃ rv', e = .returned rv' ∧ w'.ownsRow base 55 2 rv' l'.length (l'.flatMap cellsI) ∧ rv'.ownBlock = ru.ownBlock ∧ Keep (fun b => ru.ownBlock = some b) w w'

set_option maxRecDepth 100000 in
set_option maxHeartbeats 8000000 in
theorem delrow_any (base X v : Nat) (ru : Value) (l : List (Nat × Nat)) (w : World) (h : w.ownsRow base 55 2 ru l.length (l.flatMap cellsI))
    (c0 : w.cell? ⟨X, 1, none⟩ = some (.int .i64 (v : Int))) (hX : X < w.heap.size) (hne : ru.ownBlock ≠ some X) (hs : l.length ≤ 65536) :
    Calls Try.prog 149 #[ru, .func (.func 150) #[] #[.pointer (some ⟨X, 0, none⟩)]] w (DrDone base ru (l.filter (Pl.isTo v)) w) := by
  rcases h with ⟨h1, ⟨rfl, h2⟩ | ⟨g, cap, cur, rfl, h2, h3, h4, h5, h6, h7⟩⟩
  · have hl : l = [] := List.eq_nil_of_length_eq_zero h2
    subst hl
    have HI := Lib.hid (idx_del (.pointer (some ⟨X, 0, none⟩)) none 0 0 [] (fun x => decide (x.1 = (v : Int))) w Reads.none_ rfl (by omega) (fun x hx => by cases hx))
    clear c0 hX hne h1 h2
    go_enter Try.func149, Try.ntmps149
    go_wp2_with (go_at_call 174; refine (Hid.out HI).mono ?_; rintro e w1 ⟨rfl, hb1⟩)
    go_ret
    exact ⟨_, rfl, World.ownsRow_nil _ _ _ _, rfl, Keep.of_below hb1 (Nat.le_refl _)⟩
  · have hcur : cur = ((l.map toR).flatMap cellsR ++ cur.toList.drop (l.length * 2)).toArray := by
      apply Array.ext'
      rw [toR_cells, ← h7, List.take_append_drop]
    have hb : Blk w g 55 ((l.map toR).flatMap cellsR ++ cur.toList.drop (l.length * 2)).toArray := by rw [← hcur]; exact h3
    have hcap : ((l.map toR).flatMap cellsR ++ cur.toList.drop (l.length * 2)).length = cap * 2 := by
      rw [← h6]
      have := congrArg Array.size hcur
      rw [this]
      simp only [List.size_toArray]
    have := del_any X g cap (v : Int) (l.map toR) _ w hb hcap c0 hX (fun e => hne (by rw [e]; rfl)) (by rw [List.length_map]; exact hs)
    rw [List.length_map, toR_filter] at this
    refine this.mono ?_
    rintro e w' ⟨cs', rfl, k1, k2, k3, k4⟩
    have hfl : (l.filter (Pl.isTo v)).length ≤ l.length := List.length_filter_le _ _
    rw [List.length_map] at k3 ⊢
    rw [toR_cells] at k3
    refine ⟨_, rfl, ⟨flat_length cellsI 2 cellsI_len _, Or.inr ⟨g, cap, cs', rfl, h2, k1, by omega, h5, k2, k3⟩⟩, rfl, k4.mono (fun b _ hb => by rw [hb]; rfl)⟩
end Go.Proofs.Ytbaclbiedepjfaa
