/- contract's core: add in one; begun's walk. -/
import Derived.Test.YtbaclbiedepjfaaAdW
import Derived.Test.YtbaclbiedepjfaaGrW
import Derived.Deep.RegionHeld3
set_option autoImplicit false
namespace Go.Proofs.Ytbaclbiedepjfaa
open Go Go.RowKit

theorem add_any (base C : Nat) (r : CRef) (n hops settles : Nat) (rk : Value) (dm : Nat) (c : Pl.Core) (x : Pl.Cut) (w : World) (h : CM base w C r n hops settles rk dm c.out c.gone c.s c.at_ c.s.length)
    (hu : x.u < n) (hv : x.v < n) (hat : ∀ i, c.at_ x.u x.v = some i → ∃ y, c.s[i]? = some y) (hsl : c.s.length ≤ 1000000) (hrl : ∀ v, (c.out.getD v []).length ≤ 65000) :
    Calls Try.prog 112 #[.pointer (some ⟨C, 0, none⟩), .agg #[.int .i64 x.u, .int .i64 x.v, .int .u64 x.w, .int .i64 x.e, .int .i64 x.a, .int .i64 x.b]] w (CoDone base C r n hops settles rk dm (c.add x) w) := by
  unfold Pl.Core.add
  cases ho : c.old x with
  | true => exact add_old base C r n hops settles rk dm c x w h hu hv ho
  | false => exact add_new base C r n hops settles rk dm c x w h hu hv hat ho hsl hrl

theorem infoRows : (Try.prog.info? 46).map (fun i => (i.zero, i.size, i.bytes)) = some (some (.slice none 0 0), 1, 24) := by kernel_rfl

/-- a core that has just begun -/
def Bgn (base : Nat) (w0 : World) (n hops settles : Nat) (rk : Value) (s5 : Value) (w : World) : Prop :=
  ∃ C r, s5 = .pointer (some ⟨C, 0, none⟩) ∧ CM base w C r n hops settles rk 0 (List.replicate n []) (List.replicate n false) [] (fun _ _ => none) 0 ∧ Below w0.heap.size w0 w ∧ (∀ b, cfoot C r b → w0.heap.size ≤ b)

theorem blk_at {X : World} {g : Nat} {t : TypeId} {cs : Array Value} (h : g = X.heap.size) : Blk (X.alloc (.cells cs t)) g t cs := by subst h; exact Blk.new X t cs
theorem hp_at {X : World} {g : Nat} {o : Obj} (h : g = X.heap.size) : (X.alloc o).heap[g]? = some o := by subst h; exact heap_alloc_new X o
theorem hp_drew {X : World} {g : Nat} {o : Obj} (h : X.heap[g]? = some o) : X.drew.heap[g]? = some o := h
theorem hp_alloc {X : World} {g : Nat} {o : Obj} (o' : Obj) (h : X.heap[g]? = some o) : (X.alloc o').heap[g]? = some o := by
  have hlt : g < X.heap.size := (Array.getElem?_eq_some_iff.1 h).1
  exact (Below.heap_alloc X o' g hlt).trans h

theorem Bgn.mk_ {base n hops settles C ob gb mb db : Nat} {rk : Value} {w0 w : World} (hn : n ≤ 4096) (hB : Below w0.heap.size w0 w) (hb : base ≤ w0.heap.size)
    (hC : Blk w C 124 #[.slice (some ⟨ob, 0, none⟩) n n, .slice (some ⟨gb, 0, none⟩) n n, .map (some mb), .slice none 0 0, .int .i64 hops, .int .i64 settles, rk, .slice (some ⟨db, 0, none⟩) n n])
    (hO : Blk w ob 46 (Array.replicate n (.slice none 0 0))) (hG : Blk w gb 4 (Array.replicate n (.bool false))) (hM : w.heap[mb]? = some (.map #[] 0)) (hD : Blk w db 3 (Array.replicate n (.int .i64 0)))
    (h1 : w0.heap.size ≤ C ∧ w0.heap.size ≤ ob ∧ w0.heap.size ≤ gb ∧ w0.heap.size ≤ mb ∧ w0.heap.size ≤ db) : Bgn base w0 n hops settles rk (.pointer (some ⟨C, 0, none⟩)) w := by
  obtain ⟨a1, a2, a3, a4, a5⟩ := h1
  refine ⟨C, ⟨ob, gb, mb, db, .slice none 0 0, List.replicate n (.slice none 0 0)⟩, rfl, ⟨hC, ?_, by simp, by simp, ?_, by simp, ⟨.map [], ⟨#[], 0, hM, ⟨by simp, MapKept.stamped_empty 0, by simp⟩, Nat.le_refl _, rfl⟩, ⟨fun _ _ _ _ _ => rfl, fun _ _ _ h => (by cases h), fun _ _ _ h => (by cases h)⟩⟩, World.ownsRow_nil _ _ _ _, ?_, ?_, ⟨List.replicate n 0, by simp, ?_, ?_⟩, ⟨Nat.le_trans hb a1, Nat.le_trans hb a2, Nat.le_trans hb a3, Nat.le_trans hb a4, Nat.le_trans hb a5⟩, hn⟩, hB, ?_⟩
  · simpa using hO
  · simpa using hG
  · intro v hv
    refine ⟨.slice none 0 0, by simp [hv], ?_⟩
    have e : (List.replicate n ([] : List (Nat × Nat))).getD v [] = [] := by simp [List.getD, hv]
    rw [e]
    exact World.ownsRow_nil _ _ _ _
  · intro u v a b g _ hu _ hg
    simp only [List.getElem?_replicate] at hu
    split at hu
    · injection hu with hu
      subst hu
      cases hg
    · cases hu
  · intro d hd
    rw [List.eq_of_mem_replicate hd]
    omega
  · simpa using hD
  · rintro b (e | e | e | e | e | e | ⟨v, rv, e1, e2⟩)
    · omega
    · simp only at e; omega
    · simp only at e; omega
    · simp only at e; omega
    · simp only at e; omega
    · cases e
    · simp only [List.getElem?_replicate] at e1
      split at e1
      · injection e1 with e1
        subst e1
        cases e2
      · cases e1

end Go.Proofs.Ytbaclbiedepjfaa
