/- stamp: how a row lies in memory, and the walks of New, Put, Get, Least. -/
import Derived.Test.YtbaclbiedepjfaaBas2
import Derived.Test.YtbaclbiedepjfaaPlSrch
import Derived.Test.YtbaclbiedepjfaaProg
import Derived.WalkKit
import Derived.WalkSpells
import Derived.WalkLawsBesides
import Derived.Lib.Hide
import Derived.Outline
import Derived.Deep.QuietTactic
import Derived.BigQuiet
set_option autoImplicit false
namespace Go.Proofs.Ytbaclbiedepjfaa
open Go Go.RowKit

def cellsS : Option Nat → List Value
  | none => [.int .u64 0, .int .u64 0]
  | some v => [.int .u64 v, .int .u64 1]
theorem cellsS_len (x : Option Nat) : (cellsS x).length = 2 := by cases x <;> rfl

def rfoot (R lb : Nat) (b : Nat) : Prop := b = R ∨ b = lb

structure IsRow (w : World) (R lb : Nat) (far : List (Option Nat)) : Prop where
  hb : ∃ many : Int, Blk w R 251 #[.slice (some ⟨lb, 0, none⟩) far.length far.length, .int .u64 1, .int .i64 many]
  lo : Blk w lb 255 (far.flatMap cellsS).toArray
  pm : far.length ≤ 65536

section
variable {w w' : World} {R lb : Nat} {far : List (Option Nat)}
theorem IsRow.keep {F : Nat → Prop} (h : IsRow w R lb far) (k : Keep F w w') (hF : ∀ b, rfoot R lb b → ¬ F b) : IsRow w' R lb far :=
  ⟨h.hb.imp fun _ hb => hb.keep k (hF _ (Or.inl rfl)), h.lo.keep k (hF _ (Or.inr rfl)), h.pm⟩
theorem IsRow.below (h : IsRow w R lb far) (k : Below w.heap.size w w') : IsRow w' R lb far :=
  h.keep (F := fun _ => False) (Keep.of_below k (Nat.le_refl _)) (fun _ _ h => h)
theorem IsRow.foot_lt (h : IsRow w R lb far) {b : Nat} (hb : rfoot R lb b) : b < w.heap.size := by
  rcases hb with rfl | rfl
  · obtain ⟨_, hb⟩ := h.hb; exact hb.lt
  · exact h.lo.lt
theorem IsRow.ne (h : IsRow w R lb far) : R ≠ lb := by
  obtain ⟨_, hb⟩ := h.hb
  exact hb.ne_ h.lo (by decide)
theorem IsRow.at_ (h : IsRow w R lb far) {i : Nat} (hi : i < far.length) : ∃ a b : Nat, cellsS (far.getD i none) = [.int .u64 a, .int .u64 b] ∧
    w.cell? ⟨lb, i * 2, none⟩ = some (.int .u64 a) ∧ w.cell? ⟨lb, i * 2 + 1, none⟩ = some (.int .u64 b) := by
  have hg : far[i]? = some (far.getD i none) := by simp [List.getD, hi]
  have e0 := flat_get cellsS 2 cellsS_len far i 0 (by omega)
  have e1 := flat_get cellsS 2 cellsS_len far i 1 (by omega)
  rw [hg] at e0 e1
  cases h1 : far.getD i none with
  | none =>
    refine ⟨0, 0, rfl, ?_, ?_⟩
    · rw [h.lo.cell]; rw [h1] at e0; simpa [cellsS] using e0
    · rw [h.lo.cell]; rw [h1] at e1; simpa [cellsS] using e1
  | some v =>
    refine ⟨v, 1, rfl, ?_, ?_⟩
    · rw [h.lo.cell]; rw [h1] at e0; simpa [cellsS] using e0
    · rw [h.lo.cell]; rw [h1] at e1; simpa [cellsS] using e1
theorem IsRow.set_ (h : IsRow w R lb far) (i v : Nat) : IsRow ((w.setCell ⟨lb, i * 2, none⟩ (.int .u64 v)).setCell ⟨lb, i * 2 + 1, none⟩ (.int .u64 1)) R lb (far.set i (some v)) ∧
    Keep (rfoot R lb) w ((w.setCell ⟨lb, i * 2, none⟩ (.int .u64 v)).setCell ⟨lb, i * 2 + 1, none⟩ (.int .u64 1)) := by
  refine ⟨⟨?_, ?_, by simpa using h.pm⟩, ((Keep.refl _ w).setCell (Or.inl (Or.inr rfl)) _).setCell (Or.inl (Or.inr rfl)) _⟩
  · obtain ⟨m, hb⟩ := h.hb
    refine ⟨m, ?_⟩
    rw [List.length_set]
    exact (hb.far h.ne _).far h.ne _
  · have := (h.lo.set_ (i * 2) (.int .u64 v)).set_ (i * 2 + 1) (.int .u64 1)
    rw [← flat2_set cellsS cellsS_len far i (some v) _ _ rfl]
    simpa using this
theorem IsRow.many (h : IsRow w R lb far) (m : Int) : IsRow (w.setCell ⟨R, 2, none⟩ (.int .i64 m)) R lb far ∧ Keep (rfoot R lb) w (w.setCell ⟨R, 2, none⟩ (.int .i64 m)) := by
  refine ⟨⟨?_, h.lo.far h.ne.symm _, h.pm⟩, (Keep.refl _ w).setCell (Or.inl (Or.inl rfl)) _⟩
  obtain ⟨m0, hb⟩ := h.hb
  have := hb.set_ 2 (.int .i64 m)
  exact ⟨m, by simpa using this⟩
end

theorem rep_none (n : Nat) : (List.replicate n (none : Option Nat)).flatMap cellsS = (List.replicate n ()).flatMap fun _ => [Value.int .u64 0, .int .u64 0] := by
  induction n with
  | zero => rfl
  | succ n ih => rw [List.replicate_succ, List.replicate_succ, List.flatMap_cons, List.flatMap_cons, ih]; rfl
theorem infoCell : (Try.prog.info? 255).map (fun i => (i.zero, i.size, i.bytes)) = some (some (.agg #[.int .u64 0, .int .u64 0]), 2, 16) := by kernel_rfl

set_option maxRecDepth 100000 in
set_option maxHeartbeats 1000000 in
theorem snew_any (n : Nat) (hn : n ≤ 65536) (w : World) :
    Calls Try.prog 160 #[.int .i64 n] w fun e w' => ∃ R lb, e = .returned (.pointer (some ⟨R, 0, none⟩)) ∧ IsRow w' R lb (List.replicate n none) ∧ Below w.heap.size w w' ∧ w.heap.size ≤ R ∧ w.heap.size ≤ lb := by
  obtain ⟨i0, hi, hz0, hz1, hz2⟩ := info_parts infoCell
  have hmk := fun w => run_make_rowN (P := Try.prog) 249 255 i0 _ Try.underlying249 hi hz0 .i64 .i64 n n (Nat.le_refl _) (by rw [hz2]; omega) (by omega) w
  rw [hz1] at hmk
  simp only [Value.cells, madeCells_two] at hmk
  go_enter Try.func160, Try.ntmps160
  go_wp2
  go_ret
  refine ⟨w.heap.size + 1, w.heap.size, rfl, ⟨⟨0, ?_⟩, ?_, by simpa using hn⟩, ((Below.refl _ _).alloc (Nat.le_refl _) _).alloc (by simp) _, by omega, Nat.le_refl _⟩
  · have := Blk.new (w.alloc (.cells ((List.replicate n ()).flatMap fun _ => [Value.int .u64 0, .int .u64 0]).toArray 255)) 251 #[.slice (some ⟨w.heap.size, 0, none⟩) n n, .int .u64 1, .int .i64 0]
    simpa using this
  · have := (Blk.new w 255 ((List.replicate n ()).flatMap fun _ => [Value.int .u64 0, .int .u64 0]).toArray).alloc (.cells #[.slice (some ⟨w.heap.size, 0, none⟩) n n, .int .u64 1, .int .i64 0] 251)
    rw [rep_none]
    exact this

theorem IsRow.head {w : World} {R lb : Nat} {far : List (Option Nat)} (h : IsRow w R lb far) : ∃ many : Int, w.cell? ⟨R, 0, none⟩ = some (.slice (some ⟨lb, 0, none⟩) far.length far.length) ∧ w.cell? ⟨R, 1, none⟩ = some (.int .u64 1) ∧
    w.cell? ⟨R, 2, none⟩ = some (.int .i64 many) ∧ (∀ i, w.frozen? ⟨R, i, none⟩ = false) := by
  obtain ⟨m, hb⟩ := h.hb
  exact ⟨m, by rw [hb.cell]; rfl, by rw [hb.cell]; rfl, by rw [hb.cell]; rfl, hb.frozen⟩

set_option maxHeartbeats 400000 in
theorem slen_any (R lb : Nat) (far : List (Option Nat)) (w : World) (h : IsRow w R lb far) :
    Calls Try.prog 188 #[.pointer (some ⟨R, 0, none⟩)] w fun e w' => e = .returned (.int .i64 far.length) ∧ w = w' := by
  obtain ⟨_, c0, _⟩ := h.head
  have := h.pm
  clear h
  go_enter Try.func188, Try.ntmps188
  go_wp2
  go_ret
  exact ⟨rfl, rfl⟩

set_option maxHeartbeats 1000000 in
theorem sat_any (R lb i : Nat) (far : List (Option Nat)) (w : World) (h : IsRow w R lb far) (hi : i < far.length) :
    Calls Try.prog 180 #[.pointer (some ⟨R, 0, none⟩), .int .i64 i] w fun e w' => e = .returned (.pointer (some ⟨lb, i * 2, none⟩)) ∧ w = w' := by
  obtain ⟨_, c0, _⟩ := h.head
  have := h.pm
  have hi0 : (0 : Int) ≤ (i : Int) := by omega
  have hi1 : (i : Int) < (far.length : Int) := by omega
  have HH := Lib.hid h
  clear h
  go_enter Try.func180, Try.ntmps180
  go_wp2_with (go_at_call 188; refine (slen_any R lb far _ HH.out).mono ?_; rintro e w' ⟨rfl, rfl⟩)
  go_ret
  exact ⟨by simp, rfl⟩

/-- the call answers v; the row is turned -/
def SDone (v : Value) (R lb : Nat) (far : List (Option Nat)) (w : World) (e : Ending) (w' : World) : Prop :=
  e = .returned v ∧ IsRow w' R lb far ∧ Keep (rfoot R lb) w w'

set_option maxRecDepth 100000 in
set_option maxHeartbeats 1000000 in
theorem sput_any (R lb i v : Nat) (far : List (Option Nat)) (w : World) (h : IsRow w R lb far) (hi : i < far.length) :
    Calls Try.prog 161 #[.pointer (some ⟨R, 0, none⟩), .int .i64 i, .int .u64 v] w (SDone (.bool true) R lb (far.set i (some v)) w) := by
  obtain ⟨m, c0, c1, c2, f⟩ := h.head
  have f2 := f 2
  obtain ⟨a, b, hab, d0, d1⟩ := h.at_ hi
  have g0 := h.lo.frozen (i * 2)
  have g1 := h.lo.frozen (i * 2 + 1)
  have hne := h.ne
  have HAB := Lib.hid hab
  have HH := Lib.hid h
  clear h f hab
  by_cases hb1 : b = 1
  · subst hb1
    go_enter Try.func161, Try.ntmps161
    go_wp2_with (go_at_call 180; refine (sat_any R lb i far _ HH.out hi).mono ?_; rintro e w' ⟨rfl, rfl⟩)
    go_quiet (fail)
    go_wp2
    go_ret
    have hR := HH.out.below (below_drewN (Below.refl _ _) nq)
    exact ⟨rfl, (hR.set_ i v).1, ((Keep.refl (rfoot R lb) w).drewN nq).trans (hR.set_ i v).2 (fun b hb => Or.inl hb)⟩
  · have hbt : ((b : Int) != 1) = true := by rw [bne_iff_ne]; omega
    have hbf : ((b : Int) == 1) = false := by rw [beq_eq_false_iff_ne]; omega
    go_enter Try.func161, Try.ntmps161
    go_wp2_with (go_at_call 180; refine (sat_any R lb i far _ HH.out hi).mono ?_; rintro e w' ⟨rfl, rfl⟩)
    go_quiet (fail)
    go_wp2
    go_ret
    have hR := HH.out.below (below_drewN (Below.refl _ _) nq)
    have hR2 := hR.many (wrap64 (m + 1))
    have hR3 := hR2.1.set_ i v
    exact ⟨rfl, hR3.1, ((Keep.refl (rfoot R lb) w).drewN nq).trans (hR2.2.trans hR3.2 (fun b hb => Or.inl hb)) (fun b hb => Or.inl hb)⟩

/-- what Get answers -/
def getV : Option Nat → Value
  | none => .tuple #[.int .u64 0, .bool false]
  | some v => .tuple #[.int .u64 v, .bool true]

set_option maxRecDepth 100000 in
set_option maxHeartbeats 1000000 in
theorem sget_any (R lb i : Nat) (far : List (Option Nat)) (w : World) (h : IsRow w R lb far) (hi : i < far.length) :
    Calls Try.prog 181 #[.pointer (some ⟨R, 0, none⟩), .int .i64 i] w fun e w' => e = .returned (getV (far.getD i none)) ∧ ∃ n, w' = w.drewN n := by
  obtain ⟨m, c0, c1, c2, f⟩ := h.head
  obtain ⟨a, b, hab, d0, d1⟩ := h.at_ hi
  have HH := Lib.hid h
  clear h f
  cases hv : far.getD i none with
  | none =>
    rw [hv] at hab
    have h0 : b = 0 := by simp [cellsS] at hab; omega
    subst h0
    clear hab hv
    go_enter Try.func181, Try.ntmps181
    go_wp2_with (go_at_call 180; refine (sat_any R lb i far _ HH.out hi).mono ?_; rintro e w' ⟨rfl, rfl⟩)
    go_quiet (fail)
    go_wp2
    go_ret2
    exact ⟨rfl, nq, rfl⟩
  | some v =>
    rw [hv] at hab
    have h0 : a = v ∧ b = 1 := by simp [cellsS] at hab; omega
    obtain ⟨rfl, rfl⟩ := h0
    clear hab hv
    go_enter Try.func181, Try.ntmps181
    go_wp2_with (go_at_call 180; refine (sat_any R lb i far _ HH.out hi).mono ?_; rintro e w' ⟨rfl, rfl⟩)
    go_quiet (fail)
    go_wp2
    go_ret2
    exact ⟨rfl, nq, rfl⟩

set_option maxHeartbeats 1000000 in
theorem sleast_any (R lb i v : Nat) (far : List (Option Nat)) (w : World) (h : IsRow w R lb far) (hi : i < far.length) :
    Calls Try.prog 162 #[.pointer (some ⟨R, 0, none⟩), .int .i64 i, .int .u64 v] w
      (SDone (.bool (Pl.lessen far i v)) R lb (if Pl.lessen far i v = true then far.set i (some v) else far) w) := by
  have HH := Lib.hid h
  have HG := Lib.hid (sget_any R lb i far w h hi)
  clear h
  cases hv : far.getD i none with
  | none =>
    have hl : Pl.lessen far i v = true := by unfold Pl.lessen; rw [hv]
    rw [hl, if_pos rfl]
    rw [hv] at HG
    have HG' : Hid (Calls Try.prog 181 #[.pointer (some ⟨R, 0, none⟩), .int .i64 i] w fun e w' => e = .returned (.tuple #[.int .u64 0, .bool false]) ∧ ∃ n, w' = w.drewN n) := HG
    clear HG hv hl
    go_enter Try.func162, Try.ntmps162
    go_wp2_with (first
      | (go_at_call 181; refine HG'.out.mono ?_; rintro e w' ⟨rfl, nq, rfl⟩; have HR1 := Lib.hid (HH.out.below (below_drewN (Below.refl _ _) nq)))
      | (go_at_call 161; refine (sput_any R lb i v far _ HR1.out hi).mono ?_; rintro e w' ⟨rfl, hR2, hK2⟩))
    go_ret
    exact ⟨rfl, hR2, ((Keep.refl (rfoot R lb) w).drewN _).trans hK2 (fun b hb => Or.inl hb)⟩
  | some was =>
    rw [hv] at HG
    have HG' : Hid (Calls Try.prog 181 #[.pointer (some ⟨R, 0, none⟩), .int .i64 i] w fun e w' => e = .returned (.tuple #[.int .u64 was, .bool true]) ∧ ∃ n, w' = w.drewN n) := HG
    have hl : Pl.lessen far i v = !decide (was ≤ v) := by unfold Pl.lessen; rw [hv]
    by_cases hle : was ≤ v
    · have hl' : Pl.lessen far i v = false := by rw [hl]; simp [hle]
      rw [hl', if_neg (by simp)]
      clear HG hv hl hl'
      go_enter Try.func162, Try.ntmps162
      go_wp2_with (go_at_call 181; refine HG'.out.mono ?_; rintro e w' ⟨rfl, nq, rfl⟩; have HR1 := Lib.hid (HH.out.below (below_drewN (Below.refl _ _) nq)))
      go_ret
      exact ⟨rfl, HR1.out, (Keep.refl (rfoot R lb) w).drewN _⟩
    · have hl' : Pl.lessen far i v = true := by rw [hl]; simp [hle]
      rw [hl', if_pos rfl]
      have hlt : v < was := by omega
      clear HG hv hl hl' hle
      go_enter Try.func162, Try.ntmps162
      go_wp2_with (first
        | (go_at_call 181; refine HG'.out.mono ?_; rintro e w' ⟨rfl, nq, rfl⟩; have HR1 := Lib.hid (HH.out.below (below_drewN (Below.refl _ _) nq)))
        | (go_at_call 161; refine (sput_any R lb i v far _ HR1.out hi).mono ?_; rintro e w' ⟨rfl, hR2, hK2⟩))
      go_ret
      exact ⟨rfl, hR2, ((Keep.refl (rfoot R lb) w).drewN _).trans hK2 (fun b hb => Or.inl hb)⟩
end Go.Proofs.Ytbaclbiedepjfaa
