/- contract's core: add's walk. -/
import Derived.Test.YtbaclbiedepjfaaCoM
import Derived.Test.YtbaclbiedepjfaaDrW
import Derived.Deep.QuietTactic
import Derived.BigQuiet
import Derived.StillTailTactics
import Derived.Deep.AppendLies
import Derived.RegionTactic
import Derived.Outline
set_option autoImplicit false
namespace Go.Proofs.Ytbaclbiedepjfaa
open Go Go.RowKit

theorem infoCut : (Try.prog.info? 69).map (fun i => (i.zero, i.size, i.bytes)) = some (some (.agg #[.int .i64 0, .int .i64 0, .int .u64 0, .int .i64 0, .int .i64 0, .int .i64 0]), 6, 48) := by kernel_rfl

/-- the core has turned -/
def CoDone (base : Nat) (C : Nat) (r : CRef) (n hops settles : Nat) (rk : Value) (dm : Nat) (c : Pl.Core) (w : World) (e : Ending) (w' : World) : Prop :=
  e = .returned (.tuple #[]) ∧ ∃ r' : CRef, CM base w' C r' n hops settles rk dm c.out c.gone c.s c.at_ c.s.length ∧ Keep (cfoot C r) w w' ∧ (∀ b, cfoot C r' b → cfoot C r b ∨ w.heap.size ≤ b)

theorem cut_at {w : World} {base n : Nat} {sv : Value} {s : List Pl.Cut} (h : w.ownsRow base 69 6 sv n (s.flatMap cellsC)) (hn : s.length = n) {i : Nat} {y : Pl.Cut} (hy : s[i]? = some y) :
    ∃ g cap, sv = .slice (some ⟨g, 0, none⟩) n cap ∧ w.cell? ⟨g, i * 6 + 2, none⟩ = some (.int .u64 y.w) := by
  have hi := (List.getElem?_eq_some_iff.1 hy).1
  obtain ⟨g, cap, e, _, hgl⟩ := h.form (by omega)
  subst e
  refine ⟨g, cap, rfl, ?_⟩
  have hR := Reads.of_own h
  obtain ⟨ad, e, _, hc⟩ := hR.2 (by omega)
  injection e with e
  subst e
  have := hc (i * 6 + 2) (.int .u64 y.w) (by
    have := flat_get cellsC 6 cellsC_len s i 2 (by omega)
    rw [hy] at this
    simpa [cellsC] using this)
  have h2 : (⟨g, 0, none⟩ : Addr).add (i * 6 + 2) = ⟨g, i * 6 + 2, none⟩ := by unfold Addr.add; simp
  rwa [h2] at this

set_option maxRecDepth 100000 in
set_option maxHeartbeats 8000000 in
theorem add_old (base C : Nat) (r : CRef) (n hops settles : Nat) (rk : Value) (dm : Nat) (c : Pl.Core) (x : Pl.Cut) (w : World) (h : CM base w C r n hops settles rk dm c.out c.gone c.s c.at_ c.s.length)
    (hu : x.u < n) (hv : x.v < n) (ho : c.old x = true) :
    Calls Try.prog 112 #[.pointer (some ⟨C, 0, none⟩), .agg #[.int .i64 x.u, .int .i64 x.v, .int .u64 x.w, .int .i64 x.e, .int .i64 x.a, .int .i64 x.b]] w (CoDone base C r n hops settles rk dm c w) := by
  obtain ⟨i, y, h1, h2, h3⟩ : ∃ i y, c.at_ x.u x.v = some i ∧ c.s[i]? = some y ∧ y.w ≤ x.w := by
    unfold Pl.Core.old at ho
    split at ho
    · cases ho
    · rename_i i hi
      split at ho
      · rename_i y hy
        exact ⟨i, y, hi, hy, of_decide_eq_true ho⟩
      · cases ho
  obtain ⟨W, hW⟩ : ∃ W, W = ((w.alloc (.cells #[.int .i64 x.u, .int .i64 x.v, .int .u64 x.w, .int .i64 x.e, .int .i64 x.a, .int .i64 x.b] 69)).alloc (.cells #[.int .i64 x.u, .int .i64 x.v] 189)) := ⟨_, rfl⟩
  have hB : Below w.heap.size w W := by rw [hW]; exact ((Below.refl _ _).alloc (Nat.le_refl _) _).alloc (by simp) _
  have hM := h.below hB
  have hlk := fun m => ((hM.mp.keep ((Keep.refl (fun _ => False) W).drewN m) (fun h => h)).run_look x.u x.v hu hv (by have := h.n1; omega)).2
  rw [h1] at hlk
  simp only [Option.getD_some, Option.isSome_some] at hlk
  obtain ⟨sg, scap, hsv, hcw⟩ := cut_at hM.sr rfl h2
  have c2 := hM.blk.cell 2
  have c3 := hM.blk.cell 3
  rw [hsv] at c3
  simp at c2 c3
  have hb0 : Blk W w.heap.size 69 #[.int .i64 x.u, .int .i64 x.v, .int .u64 x.w, .int .i64 x.e, .int .i64 x.a, .int .i64 x.b] := by rw [hW]; exact (Blk.new w _ _).alloc _
  have hb1 : Blk W (w.heap.size + 1) 189 #[.int .i64 x.u, .int .i64 x.v] := by
    have := Blk.new (w.alloc (.cells #[.int .i64 x.u, .int .i64 x.v, .int .u64 x.w, .int .i64 x.e, .int .i64 x.a, .int .i64 x.b] 69)) 189 #[.int .i64 x.u, .int .i64 x.v]
    rw [hW]; simpa using this
  have d0 := hb0.cell 2
  have d1 := hb1.cell 0
  have d2 := hb1.cell 1
  simp at d0 d1 d2
  have hi := (List.getElem?_eq_some_iff.1 h2).1
  have hi0 : (0 : Int) ≤ (i : Int) := by omega
  have hi1 : (i : Int) < (c.s.length : Int) := by omega
  have hle : (y.w : Int) ≤ (x.w : Int) := by omega
  have hld : decide ((y.w : Int) ≤ (x.w : Int)) = true := by simpa using hle
  have HM := Lib.hid hM
  have HW := Lib.hid hW
  have HB := Lib.hid hB
  have HH := Lib.hid h
  clear hM hb0 hb1 h1 h2 h3 ho hB h hW hsv
  go_enter Try.func112, Try.ntmps112
  go_wp2
  rw [← HW.out]
  go_quiet (fail)
  go_wp2
  go_quiet (fail)
  go_wp2
  refine bodyPost_ret (results_none rfl _ _ _) rfl ?_
  refine ⟨rfl, r, ?_, ((Keep.of_below HB.out (Nat.le_refl _)).drewN _).drewN _, fun b hb => Or.inl hb⟩
  exact (HM.out.keep (((Keep.refl (fun _ => False) _).drewN _).drewN _) (fun _ _ h => h))

/-- the core, and add's two boxes -/
structure AP (base : Nat) (w : World) (C : Nat) (r : CRef) (n hops settles : Nat) (rk : Value) (dm : Nat) (out : List (List (Nat × Nat))) (gone : List Bool) (s : List Pl.Cut) (f : F2) (k : Nat) (X Y : Nat) (x : Pl.Cut) : Prop where
  cm : CM base w C r n hops settles rk dm out gone s f k
  bx : Blk w X 69 #[.int .i64 x.u, .int .i64 x.v, .int .u64 x.w, .int .i64 x.e, .int .i64 x.a, .int .i64 x.b]
  byy : Blk w Y 189 #[.int .i64 x.u, .int .i64 x.v]
  nx : ¬ cfoot C r X
  ny : ¬ cfoot C r Y

/-- 'm[ends] = q', in a walk -/
theorem wpList_put2 {ops : Array Oper} {rest : List Oper} {o : Oper} {a : Act} {w : World} {Q : Exit → Act → World → Prop} (hg : o.guard = none) (m x v : Operand)
    (hop : o.op = Op.mapUpdate 122 m x v) {mb k N : Nat} {f : F2} (h : IsMap2 w mb k N f) (p q z : Nat) (hp : p < N) (hq : q < N) (hN : N ≤ 65536) (hk : k < maxLen) (hz : z < 9223372036854775808)
    (hm : a.eval m = .map (some mb)) (hx : a.eval x = .agg #[.int .i64 (p : Int), .int .i64 (q : Int)]) (hv' : a.eval v = .int .i64 (z : Int))
    (hK : ∀ w', IsMap2 w' mb (k + 1) N (upd2 f p q z) → Keep (fun b => b = mb) w w' → wpList Try.prog ops Q rest (a.put o.dst undef) w') : wpList Try.prog ops Q (o :: rest) a w := by
  obtain ⟨w', hrun, h1, h2⟩ := h.run_put p q z hp hq hN hk hz
  refine wpList_plain hg fun K' hK' => ?_
  unfold Oper.wp
  simp [execOp, hop, hm, hx, hv', hrun, Result.andThen]
  exact hK' _ _ (hK w' h1 h2)

section
variable {base : Nat} {w w' : World} {C : Nat} {r : CRef} {n hops settles : Nat} {rk : Value} {dm : Nat} {out : List (List (Nat × Nat))} {gone : List Bool} {s : List Pl.Cut} {f : F2} {k X Y : Nat} {x : Pl.Cut}
theorem AP.keep {F : Nat → Prop} (h : AP base w C r n hops settles rk dm out gone s f k X Y x) (hk : Keep F w w') (hF : ∀ b, cfoot C r b ∨ b = X ∨ b = Y → ¬ F b) : AP base w' C r n hops settles rk dm out gone s f k X Y x :=
  ⟨h.cm.keep hk (fun b hb => hF b (Or.inl hb)), h.bx.keep hk (hF X (Or.inr (Or.inl rfl))), h.byy.keep hk (hF Y (Or.inr (Or.inr rfl))), h.nx, h.ny⟩
theorem AP.drewN (h : AP base w C r n hops settles rk dm out gone s f k X Y x) (m : Nat) : AP base (w.drewN m) C r n hops settles rk dm out gone s f k X Y x :=
  h.keep (F := fun _ => False) ((Keep.refl _ w).drewN m) (fun _ _ h => h)
theorem AP.drew (h : AP base w C r n hops settles rk dm out gone s f k X Y x) : AP base w.drew C r n hops settles rk dm out gone s f k X Y x :=
  h.keep (F := fun _ => False) ((Keep.refl _ w).drew) (fun _ _ h => h)
/-- the cells that a walk wants -/
theorem AP.cells (h : AP base w C r n hops settles rk dm out gone s f k X Y x) : w.cell? ⟨C, 0, none⟩ = some (.slice (some ⟨r.ob, 0, none⟩) n n) ∧ w.cell? ⟨C, 2, none⟩ = some (.map (some r.mb)) ∧ w.cell? ⟨C, 3, none⟩ = some r.sv ∧ w.frozen? ⟨C, 3, none⟩ = false ∧
    w.cell? ⟨X, 0, none⟩ = some (.int .i64 x.u) ∧ w.cell? ⟨X, 1, none⟩ = some (.int .i64 x.v) ∧ w.cell? ⟨X, 2, none⟩ = some (.int .u64 x.w) ∧ w.cell? ⟨X, 3, none⟩ = some (.int .i64 x.e) ∧ w.cell? ⟨X, 4, none⟩ = some (.int .i64 x.a) ∧ w.cell? ⟨X, 5, none⟩ = some (.int .i64 x.b) ∧
    w.cell? ⟨Y, 0, none⟩ = some (.int .i64 x.u) ∧ w.cell? ⟨Y, 1, none⟩ = some (.int .i64 x.v) :=
  ⟨by rw [h.cm.blk.cell]; rfl, by rw [h.cm.blk.cell]; rfl, by rw [h.cm.blk.cell]; rfl, h.cm.blk.frozen 3, by rw [h.bx.cell]; rfl, by rw [h.bx.cell]; rfl, by rw [h.bx.cell]; rfl, by rw [h.bx.cell]; rfl, by rw [h.bx.cell]; rfl, by rw [h.bx.cell]; rfl,
    by rw [h.byy.cell]; rfl, by rw [h.byy.cell]; rfl⟩
end

/-- what has been since w0 -/
def AR (base : Nat) (w0 : World) (C : Nat) (r0 r : CRef) (n hops settles : Nat) (rk : Value) (dm : Nat) (out : List (List (Nat × Nat))) (gone : List Bool) (s : List Pl.Cut) (f : F2) (k X Y : Nat) (x : Pl.Cut) (w : World) : Prop :=
  AP base w C r n hops settles rk dm out gone s f k X Y x ∧ Keep (cfoot C r0) w0 w ∧ (∀ b, cfoot C r b → cfoot C r0 b ∨ w0.heap.size ≤ b)

section
variable {base : Nat} {w0 w w' : World} {C : Nat} {r0 r : CRef} {n hops settles : Nat} {rk : Value} {dm : Nat} {out : List (List (Nat × Nat))} {gone : List Bool} {s : List Pl.Cut} {f : F2} {k X Y : Nat} {x : Pl.Cut}
theorem AR.drew (h : AR base w0 C r0 r n hops settles rk dm out gone s f k X Y x w) : AR base w0 C r0 r n hops settles rk dm out gone s f k X Y x w.drew := ⟨h.1.drew, h.2.1.drew, h.2.2⟩
theorem AR.map_ {f' : F2} {k' : Nat} (h : AR base w0 C r0 r n hops settles rk dm out gone s f k X Y x w) (hm : IsMap2 w' r.mb k' n f') (hk : Keep (fun b => b = r.mb) w w') : AR base w0 C r0 r n hops settles rk dm out gone s f' k' X Y x w' :=
  ⟨⟨h.1.cm.map_ hm hk, h.1.bx.keep hk (map_ne h.1.cm.mp h.1.bx), h.1.byy.keep hk (map_ne h.1.cm.mp h.1.byy), h.1.nx, h.1.ny⟩,
    h.2.1.trans hk (fun b hb => by subst hb; exact h.2.2 _ (Or.inr (Or.inr (Or.inr (Or.inl rfl))))), h.2.2⟩
theorem AR.foot0 (h : AR base w0 C r0 r n hops settles rk dm out gone s f k X Y x w) {b : Nat} (hb : cfoot C r b) : cfoot C r0 b ∨ w0.heap.size ≤ b := h.2.2 b hb
theorem AR.alloc (h : AR base w0 C r0 r n hops settles rk dm out gone s f k X Y x w) (o : Obj) : AR base w0 C r0 r n hops settles rk dm out gone s f k X Y x (w.alloc o) :=
  ⟨h.1.keep (F := fun _ => False) ((Keep.refl _ w).alloc o) (fun _ _ h => h), h.2.1.alloc o, h.2.2⟩
theorem AR.s_ {g m cap : Nat} {s' : List Pl.Cut} {w1 : World} (h : AR base w0 C r0 r n hops settles rk dm out gone s f k X Y x w) (hg : w.grownBy w1 r.sv.ownBlock)
    (hm : m = s'.length) (ho : w1.ownsRow base 69 6 (.slice (some ⟨g, 0, none⟩) m cap) m (s'.flatMap cellsC)) (hat : r.sv.ownBlock = some g ∨ (w0.heap.size ≤ g ∧ X < g ∧ Y < g)) :
    AR base w0 C r0 { r with sv := .slice (some ⟨g, 0, none⟩) m cap } n hops settles rk dm out gone s' f k X Y x (w1.setCell ⟨C, 3, none⟩ (.slice (some ⟨g, 0, none⟩) m cap)) := by
  subst hm
  have hfs : ∀ b, cfoot C { r with sv := .slice (some ⟨g, 0, none⟩) s'.length cap } b → cfoot C r b ∨ (w0.heap.size ≤ b ∧ X < b ∧ Y < b) := by
    rintro b (e | e | e | e | e | e | e)
    · exact Or.inl (Or.inl e)
    · exact Or.inl (Or.inr (Or.inl e))
    · exact Or.inl (Or.inr (Or.inr (Or.inl e)))
    · exact Or.inl (Or.inr (Or.inr (Or.inr (Or.inl e))))
    · exact Or.inl (Or.inr (Or.inr (Or.inr (Or.inr (Or.inl e)))))
    · have : g = b := by simpa [Value.ownBlock] using e
      subst this
      rcases hat with h1 | h1
      · exact Or.inl (Or.inr (Or.inr (Or.inr (Or.inr (Or.inr (Or.inl h1))))))
      · exact Or.inr h1
    · exact Or.inl (Or.inr (Or.inr (Or.inr (Or.inr (Or.inr (Or.inr e))))))
  have hk : Keep (fun b => r.sv.ownBlock = some b) w w1 := (Keep.refl _ w).grown hg (fun g e => Or.inl e)
  have hk2 : Keep (fun b => b = C) w1 (w1.setCell ⟨C, 3, none⟩ (.slice (some ⟨g, 0, none⟩) s'.length cap)) := (Keep.refl (fun b => b = C) w1).setCell (p := ⟨C, 3, none⟩) (Or.inl rfl) _
  have hsf : ∀ {b}, r.sv.ownBlock = some b → cfoot C r b := fun e => Or.inr (Or.inr (Or.inr (Or.inr (Or.inr (Or.inl e)))))
  refine ⟨⟨h.1.cm.s_ hg ho, (h.1.bx.keep hk (fun e => h.1.nx (hsf e))).keep hk2 (fun e => h.1.nx (Or.inl e)), (h.1.byy.keep hk (fun e => h.1.ny (hsf e))).keep hk2 (fun e => h.1.ny (Or.inl e)), ?_, ?_⟩, ?_, ?_⟩
  · intro e
    rcases hfs X e with e | e
    · exact h.1.nx e
    · omega
  · intro e
    rcases hfs Y e with e | e
    · exact h.1.ny e
    · omega
  · exact (h.2.1.trans hk (fun b e => h.2.2 b (hsf e))).trans hk2 (fun b e => by subst e; exact h.2.2 b (Or.inl rfl))
  · intro b e
    rcases hfs b e with e | e
    · exact h.2.2 b e
    · exact Or.inr e.1
theorem AR.done {u g m cap : Nat} {ru : Value} {l' : List (Nat × Nat)} {w1 : World} (h : AR base w0 C r0 r n hops settles rk dm out gone s f k X Y x w) (hu : u < n) (hru : r.rows[u]? = some ru)
    (hk : Keep (fun b => ru.ownBlock = some b) w w1) (hm : m = l'.length) (ho : w1.ownsRow base 55 2 (.slice (some ⟨g, 0, none⟩) m cap) m (l'.flatMap cellsI)) (hat : ru.ownBlock = some g ∨ w.heap.size ≤ g) :
    ∃ r', CM base (w1.setCell ⟨r.ob, u, none⟩ (.slice (some ⟨g, 0, none⟩) m cap)) C r' n hops settles rk dm (out.set u l') gone s f k ∧ Keep (cfoot C r0) w0 (w1.setCell ⟨r.ob, u, none⟩ (.slice (some ⟨g, 0, none⟩) m cap)) ∧ (∀ b, cfoot C r' b → cfoot C r0 b ∨ w0.heap.size ≤ b) := by
  subst hm
  have hrf : ∀ b, ru.ownBlock = some b → cfoot C r b := fun b e => Or.inr (Or.inr (Or.inr (Or.inr (Or.inr (Or.inr ⟨u, ru, hru, e⟩)))))
  have hk2 : Keep (fun b => b = r.ob) w1 (w1.setCell ⟨r.ob, u, none⟩ (.slice (some ⟨g, 0, none⟩) l'.length cap)) := (Keep.refl (fun b => b = r.ob) w1).setCell (p := ⟨r.ob, u, none⟩) (Or.inl rfl) _
  refine ⟨_, h.1.cm.row_ hu hru hk ho (fun b e => ?_), (h.2.1.trans hk (fun b e => h.2.2 b (hrf b e))).trans hk2 (fun b e => by subst e; exact h.2.2 _ (Or.inr (Or.inl rfl))), ?_⟩
  · have : g = b := by simpa [Value.ownBlock] using e
    subst this
    exact hat
  · rintro b (e | e | e | e | e | e | ⟨v, rv, e1, e2⟩)
    · exact h.2.2 b (Or.inl e)
    · exact h.2.2 b (Or.inr (Or.inl e))
    · exact h.2.2 b (Or.inr (Or.inr (Or.inl e)))
    · exact h.2.2 b (Or.inr (Or.inr (Or.inr (Or.inl e))))
    · exact h.2.2 b (Or.inr (Or.inr (Or.inr (Or.inr (Or.inl e)))))
    · exact h.2.2 b (Or.inr (Or.inr (Or.inr (Or.inr (Or.inr (Or.inl e))))))
    · simp only at e1
      by_cases huv : u = v
      · subst huv
        rw [List.getElem?_set_self (by rw [h.1.cm.rn]; exact hu)] at e1
        injection e1 with e1
        subst e1
        have : g = b := by simpa [Value.ownBlock] using e2
        subst this
        rcases hat with h1 | h1
        · exact h.2.2 _ (hrf _ h1)
        · exact Or.inr (Nat.le_trans h.2.1.size h1)
      · rw [List.getElem?_set_ne huv] at e1
        exact h.2.2 b (Or.inr (Or.inr (Or.inr (Or.inr (Or.inr (Or.inr ⟨v, rv, e1, e2⟩))))))
end

set_option maxRecDepth 100000 in
set_option maxHeartbeats 16000000 in
theorem add_new (base C : Nat) (r : CRef) (n hops settles : Nat) (rk : Value) (dm : Nat) (c : Pl.Core) (x : Pl.Cut) (w : World) (h : CM base w C r n hops settles rk dm c.out c.gone c.s c.at_ c.s.length)
    (hu : x.u < n) (hv : x.v < n) (hat : ∀ i, c.at_ x.u x.v = some i → ∃ y, c.s[i]? = some y) (ho : c.old x = false) (hsl : c.s.length ≤ 1000000) (hrl : ∀ v, (c.out.getD v []).length ≤ 65000) :
    Calls Try.prog 112 #[.pointer (some ⟨C, 0, none⟩), .agg #[.int .i64 x.u, .int .i64 x.v, .int .u64 x.w, .int .i64 x.e, .int .i64 x.a, .int .i64 x.b]] w (CoDone base C r n hops settles rk dm (c.put x) w) := by
  obtain ⟨W, hW⟩ : ∃ W, W = ((w.alloc (.cells #[.int .i64 x.u, .int .i64 x.v, .int .u64 x.w, .int .i64 x.e, .int .i64 x.a, .int .i64 x.b] 69)).alloc (.cells #[.int .i64 x.u, .int .i64 x.v] 189)) := ⟨_, rfl⟩
  have hB : Below w.heap.size w W := by rw [hW]; exact ((Below.refl _ _).alloc (Nat.le_refl _) _).alloc (by simp) _
  have hb0 : Blk W w.heap.size 69 #[.int .i64 x.u, .int .i64 x.v, .int .u64 x.w, .int .i64 x.e, .int .i64 x.a, .int .i64 x.b] := by rw [hW]; exact (Blk.new w _ _).alloc _
  have hb1 : Blk W (w.heap.size + 1) 189 #[.int .i64 x.u, .int .i64 x.v] := by
    have := Blk.new (w.alloc (.cells #[.int .i64 x.u, .int .i64 x.v, .int .u64 x.w, .int .i64 x.e, .int .i64 x.a, .int .i64 x.b] 69)) 189 #[.int .i64 x.u, .int .i64 x.v]
    rw [hW]; simpa using this
  have hA : AR base w C r r n hops settles rk dm c.out c.gone c.s c.at_ c.s.length w.heap.size (w.heap.size + 1) x W :=
    ⟨⟨h.below hB, hb0, hb1, fun e => by have := (h.foot_lt e).1; omega, fun e => by have := (h.foot_lt e).1; omega⟩, Keep.of_below hB (Nat.le_refl _), fun b hb => Or.inl hb⟩
  obtain ⟨iv, hiv⟩ : ∃ iv, iv = (c.at_ x.u x.v).getD 0 := ⟨_, rfl⟩
  obtain ⟨is, his⟩ : ∃ is, is = (c.at_ x.u x.v).isSome := ⟨_, rfl⟩
  have hn1 := h.n1
  have hlk := fun m => ((hA.1.drewN m).cm.mp.run_look x.u x.v hu hv (by omega)).2
  rw [← hiv, ← his] at hlk
  have HA := Lib.hid hA
  have HIV := Lib.hid hiv
  have HIS := Lib.hid his
  have HO := Lib.hid ho
  have HAT := Lib.hid hat
  have HW := Lib.hid hW
  have HRL := Lib.hid hrl
  clear hA hiv his ho hat hW hb0 hb1 hB h hrl
  obtain ⟨i0, hi, hz0, hz1, hz2⟩ := info_parts infoCut
  obtain ⟨c0, c2, c3, f3, d0, d1, d2, d3, d4, d5, g0, g1⟩ := HA.out.1.cells
  go_enter Try.func112, Try.ntmps112
  go_wp2
  rw [← HW.out]
  go_quiet (fail)
  go_upto_region 3 with fail
  go_cut [35] (fun s35 wx => s35 = .bool false ∧ Hid (AR base w C r r n hops settles rk dm c.out c.gone c.s c.at_ c.s.length w.heap.size (w.heap.size + 1) x wx))
  case first =>
    rcases hcase : c.at_ x.u x.v with _ | i
    · have e1 : is = false := by rw [HIS.out, hcase]; rfl
      subst e1
      clear hcase
      go_quiet (fail)
      go_wp2_with fail
      go_meet
      case rel => exact ⟨rfl, Lib.hid ⟨(HA.out.1.drewN _).drewN _, (HA.out.2.1.drewN _).drewN _, HA.out.2.2⟩⟩
    · obtain ⟨y, hy⟩ := HAT.out i hcase
      have e1 : is = true := by rw [HIS.out, hcase]; rfl
      have e2 : iv = i := by rw [HIV.out, hcase]; rfl
      subst e1; subst e2
      have hw : ¬ (y.w ≤ x.w) := by
        have := HO.out
        unfold Pl.Core.old at this
        rw [hcase] at this
        simp only [hy] at this
        exact of_decide_eq_false this
      have hld : decide ((y.w : Int) ≤ (x.w : Int)) = false := by rw [decide_eq_false_iff_not]; omega
      have HLN := Lib.hid (decide_eq_false hw)
      obtain ⟨sg, scap, hsv, hcw⟩ := cut_at HA.out.1.cm.sr rfl hy
      rw [hsv] at c3
      have hi := (List.getElem?_eq_some_iff.1 hy).1
      have hi0 : (0 : Int) ≤ (iv : Int) := by omega
      have hi1 : (iv : Int) < (c.s.length : Int) := by omega
      clear hcase hy hw hsv
      go_quiet (fail)
      go_wp2_with fail
      go_meet
      case rel => exact ⟨congrArg Value.bool HLN.out, Lib.hid ⟨(HA.out.1.drewN _).drewN _, (HA.out.2.1.drewN _).drewN _, HA.out.2.2⟩⟩
  case rest =>
    obtain ⟨rfl, HA2⟩ := hcut
    clear c0 c2 c3 f3 d0 d1 d2 d3 d4 d5 g0 g1 hlk
    have hlen : (0 : Int) ≤ (c.s.length : Int) := by omega
    obtain ⟨c0, c2, c3, f3, d0, d1, d2, d3, d4, d5, g0, g1⟩ := HA2.out.1.cells
    obtain ⟨sA, scap, hsv⟩ : ∃ A cap, r.sv = .slice A c.s.length cap := by
      rcases HA2.out.1.cm.sr.2 with ⟨e, e2⟩ | ⟨g, cap, _, e, _⟩
      · exact ⟨none, 0, by rw [e, e2]⟩
      · exact ⟨_, _, e⟩
    have HSV := Lib.hid hsv
    have HC3 := Lib.hid c3
    rw [hsv] at c3
    clear hsv
    go_wp2_with fail
    go_upto_region 4 with fail
    go_cut [46] (fun _ wx => Hid (AR base w C r r n hops settles rk dm c.out c.gone c.s (upd2 c.at_ x.u x.v c.s.length) (c.s.length + 1) w.heap.size (w.heap.size + 1) x wx))
    case first =>
      go_still_tail 10, (by kernel_rfl)
      change wpList _ _ _ _ _ wc.drew
      refine wpList_put2 rfl (.tmp 39) (.tmp 40) (.tmp 45) rfl HA2.out.1.drew.cm.mp x.u x.v c.s.length hu hv (by omega) (by unfold maxLen; omega) (by omega) rfl rfl rfl ?_
      intro w4 hm4 hk4
      go_wp2_with fail
      go_meet
      case rel => exact Lib.hid (AR.map_ (AR.drew HA2.out) hm4 hk4)
    case rest =>
      have HA3 := hcut
      clear hcut c0 c2 c3 f3 d0 d1 d2 d3 d4 d5 g0 g1
      obtain ⟨c0, c2, c3, f3, d0, d1, d2, d3, d4, d5, g0, g1⟩ := HA3.out.1.cells
      go_upto_region 5 with fail
      go_cut [53] (fun _ wx => Hid (∃ sv', AR base w C r { r with sv := sv' } n hops settles rk dm c.out c.gone (c.s ++ [x]) (upd2 c.at_ x.u x.v c.s.length) (c.s.length + 1) w.heap.size (w.heap.size + 1) x wx))
      case first =>
        have hCl := HA3.out.1.cm.blk.lt
        have hbase : base ≤ wc.heap.size := Nat.le_trans HA3.out.1.cm.bs.1 (Nat.le_of_lt hCl)
        have HZ0 := Lib.hid (fun B : Obj => ((Keep.refl (fun _ => False) wc).alloc B).cell (p := ⟨C, 3, none⟩) hCl (fun h => h) |>.trans c3)
        have HZ3 := Lib.hid (fun B : Obj => ((Below.refl wc.heap.size wc).alloc (Nat.le_refl _) B).frozen (p := ⟨C, 3, none⟩) hCl |>.trans f3)
        have HF0 := Lib.hid (fun e => own_blk_ne HA3.out.1.cm.sr HA3.out.1.cm.blk (by decide) (Eq.symm e))
        go_region_law ((refine step_append_lies _ (by rfl) _ _ _ (by rfl) base 69 i0 _ 6 48 Try.underlying30 hi hz0 hz1 hz2 rfl (by omega) r.sv c.s.length (c.s.flatMap cellsC) (by rfl) (HA3.out.1.cm.sr.alloc _).drew ⟨wc.heap.size, 0, none⟩ 1 1 (cellsC x) (by rfl) (by rfl) (World.news_of_block (cs := #[.int .i64 x.u, .int .i64 x.v, .int .u64 x.w, .int .i64 x.e, .int .i64 x.a, .int .i64 x.b]) (t := 69) (fr := (0, 0)) (heap_alloc_new wc _)) (by simp [cellsC, Value.oneCell']) (by omega) (by unfold maxLen; omega) (by omega) (by simp; omega) (wc.heap.size + 1) (by simp) ?_; intro g cap w1 hown1 hgrow hat hlt; have z0 := (hgrow.cell_far ⟨C, 3, none⟩ (by simp; omega) HF0.out).trans (HZ0.out _); have z3 := (hgrow.frozen_far ⟨C, 3, none⟩ (by simp; omega) HF0.out).trans (HZ3.out _)))
        all_goals
          go_wp2_with fail
          go_meet
          case rel =>
            have hXw := HA3.out.1.bx.lt
            have hYw := HA3.out.1.byy.lt
            exact Lib.hid ⟨_, AR.s_ (s' := c.s ++ [x]) (AR.drew (AR.alloc HA3.out _)) hgrow (by simp) (by rw [List.flatMap_append, List.flatMap_singleton]; exact hown1) (hat.imp id (fun e => by have := HA3.out.2.1.size; omega))⟩
      case rest =>
        obtain ⟨sv', hA4⟩ := hcut.out
        obtain ⟨w5, hw5⟩ : ∃ w5, w5 = wc := ⟨_, rfl⟩
        rw [← hw5] at hA4 ⊢
        have HA4 := Lib.hid hA4
        clear hcut hw5 hA4 c0 c2 c3 f3 d0 d1 d2 d3 d4 d5 g0 g1
        obtain ⟨c0, c2, c3, f3, d0, d1, d2, d3, d4, d5, g0, g1⟩ := HA4.out.1.cells
        obtain ⟨ru, hru, hro⟩ := HA4.out.1.cm.row x.u hu
        have e0 : w5.cell? ⟨r.ob, x.u, none⟩ = some ru := by
          rw [HA4.out.1.cm.ou.cell]
          simpa using hru
        have hXl := HA4.out.1.bx.lt
        have hrX : ru.ownBlock ≠ some w.heap.size := fun e => HA4.out.1.nx (Or.inr (Or.inr (Or.inr (Or.inr (Or.inr (Or.inr ⟨x.u, ru, hru, e⟩))))))
        have HRO := Lib.hid hro
        have HRU := Lib.hid hru
        have HRX := Lib.hid hrX
        have hi0 : (0 : Int) ≤ (x.u : Int) := by omega
        have hi1 : (x.u : Int) < (n : Int) := by omega
        have hl5 := HRL.out x.u
        obtain ⟨lf, hlf⟩ : ∃ lf, lf = (c.out.getD x.u []).filter (Pl.isTo x.v) := ⟨_, rfl⟩
        have HLF := Lib.hid hlf
        clear hro hru hrX hlf
        go_upto_region 6 with fail
        go_cut [7] (fun s7 wx => Hid (wx.ownsRow base 55 2 s7 lf.length (lf.flatMap cellsI) ∧ s7.ownBlock = ru.ownBlock ∧ Keep (fun b => ru.ownBlock = some b) w5 wx))
        case first =>
          go_still_tail 10, (by kernel_rfl)
          change wpList _ _ _ _ _ w5.drew
          go_wp2_with (go_at_call 149; refine (delrow_any base w.heap.size x.v ru (c.out.getD x.u []) w5.drew (own_keep HRO.out ((Keep.refl (fun _ => False) w5).drew) (fun _ _ h => h)) (by simpa using d1) (by simpa using hXl) HRX.out (by omega)).mono ?_; rintro e w6 ⟨rv', rfl, ho6, hb6, hk6⟩; have HO6 := Lib.hid ho6; have HK6 := Lib.hid hk6; have HB6 := Lib.hid hb6; clear ho6 hb6 hk6)
          go_meet
          case rel => exact Lib.hid ⟨by rw [HLF.out]; exact HO6.out, HB6.out, ((Keep.refl _ w5).drew).trans HK6.out (fun b hb => Or.inl hb)⟩
        case rest =>
          obtain ⟨w6, hw6⟩ : ∃ w6, w6 = wc := ⟨_, rfl⟩
          rw [← hw6] at hcut ⊢
          have HR6 := hcut
          clear hcut hw6
          have hk6 := HR6.out.2.2
          obtain ⟨hC5, hO5⟩ : cfoot C { r with sv := sv' } C ∧ cfoot C { r with sv := sv' } r.ob := ⟨Or.inl rfl, Or.inr (Or.inl rfl)⟩
          have hnrow : ∀ {g : Nat} {t : TypeId} {cs : Array Value}, Blk w5 g t cs → t ≠ 55 → ru.ownBlock ≠ some g := fun hb ht => own_blk_ne HRO.out hb (fun e => ht e.symm)
          have bC := HA4.out.1.cm.blk.keep hk6 (hnrow HA4.out.1.cm.blk (by decide))
          have bO := HA4.out.1.cm.ou.keep hk6 (hnrow HA4.out.1.cm.ou (by decide))
          have bX := HA4.out.1.bx.keep hk6 HRX.out
          have x0 : w6.cell? ⟨C, 0, none⟩ = some (.slice (some ⟨r.ob, 0, none⟩) n n) := by rw [bC.cell]; rfl
          have x1 : w6.cell? ⟨r.ob, x.u, none⟩ = some ru := by rw [bO.cell]; simpa using HRU.out
          have x2 := bO.frozen x.u
          have x3 : w6.cell? ⟨w.heap.size, 0, none⟩ = some (.int .i64 x.u) := by rw [bX.cell]; rfl
          have x4 : w6.cell? ⟨w.heap.size, 1, none⟩ = some (.int .i64 x.v) := by rw [bX.cell]; rfl
          have x5 : w6.cell? ⟨w.heap.size, 2, none⟩ = some (.int .u64 x.w) := by rw [bX.cell]; rfl
          obtain ⟨j0, hj, hy0, hy1, hy2⟩ := info_parts infoArc
          have hCl : C < w6.heap.size := bC.lt
          have hOl : r.ob < w6.heap.size := bO.lt
          have hXl6 := bX.lt
          have hll : lf.length ≤ 65000 := by rw [HLF.out]; exact Nat.le_trans (List.length_filter_le _ _) hl5
          have hbase : base ≤ w6.heap.size := Nat.le_trans HA4.out.1.cm.bs.1 (Nat.le_of_lt hCl)
          have HBC := Lib.hid bC
          have HBO := Lib.hid bO
          have HBX := Lib.hid bX
          have HY0 := Lib.hid (fun B : Obj => ((Keep.refl (fun _ => False) w6).alloc B).cell (p := ⟨C, 0, none⟩) hCl (fun h => h) |>.trans x0)
          have HY1 := Lib.hid (fun B : Obj => ((Keep.refl (fun _ => False) w6).alloc B).cell (p := ⟨r.ob, x.u, none⟩) hOl (fun h => h) |>.trans x1)
          have HY2 := Lib.hid (fun B : Obj => ((Below.refl w6.heap.size w6).alloc (Nat.le_refl _) B).frozen (p := ⟨r.ob, x.u, none⟩) hOl |>.trans x2)
          have HY3 := Lib.hid (fun B : Obj => ((Keep.refl (fun _ => False) w6).alloc B).cell (p := ⟨w.heap.size, 0, none⟩) hXl6 (fun h => h) |>.trans x3)
          have HNC := Lib.hid (fun e => own_blk_ne HR6.out.1 bC (by decide) (Eq.symm e))
          have HNO := Lib.hid (fun e => own_blk_ne HR6.out.1 bO (by decide) (Eq.symm e))
          have HNX : Hid (some w.heap.size ≠ u7.ownBlock) := Lib.hid (fun e => HRX.out (by rw [← HR6.out.2.1]; exact e.symm))
          clear hk6 bC bO bX c0 c2 c3 f3 d0 d1 d2 d3 d4 d5 g0 g1 e0 hnrow
          go_upto_region 7 with fail
          go_region_law ((refine step_append_lies _ (by rfl) _ _ _ (by rfl) base 55 j0 _ 2 16 Try.underlying46 hj hy0 hy1 hy2 rfl (by omega) u7 lf.length (lf.flatMap cellsI) (by rfl) (HR6.out.1.alloc _).drew ⟨w6.heap.size, 0, none⟩ 1 1 [.int .i64 x.v, .int .u64 x.w] (by rfl) (by rfl) (World.news_of_block (cs := #[.int .i64 x.v, .int .u64 x.w]) (t := 55) (fr := (0, 0)) (heap_alloc_new w6 _)) (by simp [Value.oneCell']) (by omega) (by unfold maxLen; omega) (by omega) (by simp; omega) (w6.heap.size + 1) (by simp) ?_; intro g cap w1 hown1 hgrow hat hlt; have z0 := (hgrow.cell_far ⟨C, 0, none⟩ (by simp; omega) HNC.out).trans (HY0.out _); have z1 := (hgrow.cell_far ⟨r.ob, x.u, none⟩ (by simp; omega) HNO.out).trans (HY1.out _); have z2 := (hgrow.frozen_far ⟨r.ob, x.u, none⟩ (by simp; omega) HNO.out).trans (HY2.out _); have z3 := (hgrow.cell_far ⟨w.heap.size, 0, none⟩ (by simp; omega) HNX.out).trans (HY3.out _)))
          all_goals
            have hfin := AR.done (l' := Pl.rowPut (c.out.getD x.u []) x.v x.w) HA4.out hu HRU.out (((HR6.out.2.2.alloc _).drew).grown hgrow (fun b e => Or.inl (by rw [← HR6.out.2.1]; exact e))) (m := lf.length + 1) (by unfold Pl.rowPut; rw [HLF.out]; simp) (by unfold Pl.rowPut; rw [List.flatMap_append, List.flatMap_singleton, ← HLF.out]; exact hown1) (hat.imp (fun e => by rw [← HR6.out.2.1]; exact e) (fun e => by have := HR6.out.2.2.size; omega))
            have HFIN := Lib.hid hfin
            clear hfin
            go_wp2_with fail
            go_end0
            obtain ⟨r', h1, h2, h3⟩ := HFIN.out
            refine ⟨rfl, r', ?_, h2, h3⟩
            have e : (c.put x).s.length = c.s.length + 1 := by unfold Pl.Core.put; simp
            rw [e]
            exact h1
end Go.Proofs.Ytbaclbiedepjfaa
