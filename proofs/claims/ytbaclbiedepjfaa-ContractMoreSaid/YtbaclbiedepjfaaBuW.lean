/- contract.Build where a rank is given; where it is refused: its walks. -/
import Derived.Test.YtbaclbiedepjfaaBuM
set_option autoImplicit false
namespace Go.Proofs.Ytbaclbiedepjfaa
open Go Go.RowKit

/-- Build's three boxes -/
structure BuBox (w W : World) (N : Int) (eA rA : Option Addr) (el ec hops settles rl rc : Nat) : Prop where
  g : Blk W w.heap.size 24 #[.int .i64 N, .slice eA el ec]
  o : Blk W (w.heap.size + 1) 27 #[.int .i64 hops, .int .i64 settles, .slice rA rl rc]
  h : Blk W (w.heap.size + 2) 32 #[.slice none 0 0, .slice none 0 0]
  b : Below w.heap.size w W
  s : W.heap.size = w.heap.size + 3

theorem bu_box (w : World) (N : Int) (eA rA : Option Addr) (el ec : Nat) (h s : Int) (rl rc : Nat) {W : World}
    (hW : W = ((w.alloc (.cells #[.int .i64 N, .slice eA el ec] 24)).alloc (.cells #[.int .i64 h, .int .i64 s, .slice rA rl rc] 27)).alloc (.cells #[.slice none 0 0, .slice none 0 0] 32)) :
    Blk W w.heap.size 24 #[.int .i64 N, .slice eA el ec] ∧ Blk W (w.heap.size + 1) 27 #[.int .i64 h, .int .i64 s, .slice rA rl rc] ∧ Blk W (w.heap.size + 2) 32 #[.slice none 0 0, .slice none 0 0] ∧ Below w.heap.size w W ∧ W.heap.size = w.heap.size + 3 := by
  subst hW
  refine ⟨((Blk.new w _ _).alloc _).alloc _, ?_, ?_, ?_, by simp⟩
  · have := (Blk.new (w.alloc (.cells #[.int .i64 N, .slice eA el ec] 24)) 27 #[.int .i64 h, .int .i64 s, .slice rA rl rc]).alloc (.cells #[.slice none 0 0, .slice none 0 0] 32)
    simpa using this
  · have := Blk.new ((w.alloc (.cells #[.int .i64 N, .slice eA el ec] 24)).alloc (.cells #[.int .i64 h, .int .i64 s, .slice rA rl rc] 27)) 32 #[.slice none 0 0, .slice none 0 0]
    simpa using this
  · exact (((Below.refl _ _).alloc (Nat.le_refl _) _).alloc (by simp) _).alloc (by simp; omega) _

set_option maxRecDepth 100000 in
set_option maxHeartbeats 4000000 in
theorem build_bad (N : Int) (eA rA : Option Addr) (ec rc : Nat) (h s : Int) (E : List EdgeT) (R : List Int) (w : World) (hG : RawG w w.heap.size eA E) (hR : Reads w w.heap.size 1 rA R.length (R.map (Value.int .i64))) (hs : R.length ≤ 65536)
    (hbad : graphF N E ≠ 0 ∨ optRight h s R = false) :
    Calls Try.prog 12 #[.agg #[.int .i64 N, .slice eA E.length ec], .agg #[.int .i64 h, .int .i64 s, .slice rA R.length rc]] w (BuFail 1 w) := by
  obtain ⟨W, hW⟩ : ∃ W, W = ((w.alloc (.cells #[.int .i64 N, .slice eA E.length ec] 24)).alloc (.cells #[.int .i64 h, .int .i64 s, .slice rA R.length rc] 27)).alloc (.cells #[.slice none 0 0, .slice none 0 0] 32) := ⟨_, rfl⟩
  obtain ⟨hb0, hb1, hb2, hB, hs0⟩ := bu_box w N eA rA E.length ec h s R.length rc hW
  have c0 := hb0.cell 0
  have c1 := hb0.cell 1
  simp at c0 c1
  have HW := Lib.hid hW
  have HB := Lib.hid hB
  have HB0 := Lib.hid hb0
  have HB1 := Lib.hid hb1
  have HB2 := Lib.hid hb2
  have HGR := Lib.hid (gright_any N eA ec E W ((hG.below hB).more hB.size))
  have HOR : Hid (∀ w1, Below W.heap.size W w1 → Calls Try.prog 18 #[.agg #[.int .i64 h, .int .i64 s, .slice rA R.length rc]] w1 (Fresh (.bool (optRight h s R)) w1)) := Lib.hid (fun w1 h1 =>
    oright_any rA rc h s R w1 (((hR.below hB).below (h1.mono hB.size)).more (Nat.le_trans hB.size h1.size)) hs)
  obtain ⟨f, hf⟩ : ∃ f, f = graphF N E := ⟨_, rfl⟩
  rw [← hf] at HGR hbad
  clear hW hB hb0 hb1 hb2 hG hR hf
  have fin : ∀ w1, Below W.heap.size W w1 → Blk w1 (w.heap.size + 2) 32 #[.slice none 0 0, .slice none 0 0] ∧ w1.cell? ⟨w.heap.size + 2, 0, none⟩ = some (.slice none 0 0) ∧ w1.cell? ⟨w.heap.size + 2, 1, none⟩ = some (.slice none 0 0) ∧ w1.frozen? ⟨w.heap.size + 2, 0, none⟩ = false ∧ w1.frozen? ⟨w.heap.size + 2, 1, none⟩ = false := fun w1 h1 => by
    have := HB2.out.below h1 HB2.out.lt
    exact ⟨this, by rw [this.cell]; rfl, by rw [this.cell]; rfl, this.frozen 0, this.frozen 1⟩
  have FIN := Lib.hid fin
  clear fin
  by_cases hz : f = 0
  · subst hz
    have ho : optRight h s R = false := by rcases hbad with h1 | h1; exact absurd rfl h1; exact h1
    rw [ho] at HOR
    clear hbad ho
    go_enter Try.func12, Try.ntmps12
    go_wp2_with (first
      | (go_at_call 63; rw [← HW.out]; refine (Hid.out HGR).mono ?_; rintro e w1 ⟨rfl, hb1⟩
         have e1 := (HB1.out.below hb1 HB1.out.lt).cell 0
         have e2 := (HB1.out.below hb1 HB1.out.lt).cell 1
         have e3 := (HB1.out.below hb1 HB1.out.lt).cell 2
         simp at e1 e2 e3
         have HC1 := Lib.hid hb1; clear hb1)
      | (go_at_call 18; refine (HOR.out w1 HC1.out).mono ?_; rintro e w2 ⟨rfl, hb2⟩
         have HC2 := Lib.hid (HC1.out.trans (hb2.mono HC1.out.size)); clear hb2
         obtain ⟨_, x0, x1, y0, y1⟩ := FIN.out _ HC2.out))
    refine bodyPost_ret (v := .tuple #[.agg #[.slice none 0 0, .slice none 0 0], .int .i64 1]) (by simp [results, Try.results12, go_sem, x0, x1]) rfl ⟨rfl, ?_⟩
    exact ((HB.out.trans (HC2.out.mono HB.out.size)).setCell (by show w.heap.size ≤ w.heap.size + 1 + 1; omega) _).setCell (by show w.heap.size ≤ w.heap.size + 1 + 1; omega) _
  · have z1 : (f == 0) = false := by simpa using hz
    have z2 : (f != 0) = true := by simpa using hz
    clear hbad hz
    go_enter Try.func12, Try.ntmps12
    go_wp2_with (go_at_call 63; rw [← HW.out]; refine (Hid.out HGR).mono ?_; rintro e w1 ⟨rfl, hb1⟩
                 have HC2 := Lib.hid hb1; clear hb1
                 obtain ⟨_, x0, x1, y0, y1⟩ := FIN.out _ HC2.out)
    refine bodyPost_ret (v := .tuple #[.agg #[.slice none 0 0, .slice none 0 0], .int .i64 1]) (by simp [results, Try.results12, go_sem, x0, x1]) rfl ⟨rfl, ?_⟩
    exact ((HB.out.trans (HC2.out.mono HB.out.size)).setCell (by show w.heap.size ≤ w.heap.size + 1 + 1; omega) _).setCell (by show w.heap.size ≤ w.heap.size + 1 + 1; omega) _

set_option maxRecDepth 100000 in
set_option maxHeartbeats 4000000 in
theorem build_range (N : Int) (eA rA : Option Addr) (ec rc : Nat) (h s : Int) (E : List EdgeT) (R : List Int) (w : World) (hG : RawG w w.heap.size eA E) (hR : Reads w w.heap.size 1 rA R.length (R.map (Value.int .i64))) (hs : R.length ≤ 65536)
    (hg : graphF N E = 0) (ho : optRight h s R = true) (hr0 : 0 < R.length) (hrN : (R.length : Int) ≠ N) :
    Calls Try.prog 12 #[.agg #[.int .i64 N, .slice eA E.length ec], .agg #[.int .i64 h, .int .i64 s, .slice rA R.length rc]] w (BuFail 2 w) := by
  obtain ⟨W, hW⟩ : ∃ W, W = ((w.alloc (.cells #[.int .i64 N, .slice eA E.length ec] 24)).alloc (.cells #[.int .i64 h, .int .i64 s, .slice rA R.length rc] 27)).alloc (.cells #[.slice none 0 0, .slice none 0 0] 32) := ⟨_, rfl⟩
  obtain ⟨hb0, hb1, hb2, hB, hs0⟩ := bu_box w N eA rA E.length ec h s R.length rc hW
  have c0 := hb0.cell 0
  have c1 := hb0.cell 1
  simp at c0 c1
  have HW := Lib.hid hW
  have HB := Lib.hid hB
  have HGR := Lib.hid (gright_any N eA ec E W ((hG.below hB).more hB.size))
  have HOR : Hid (∀ w1, Below W.heap.size W w1 → Calls Try.prog 18 #[.agg #[.int .i64 h, .int .i64 s, .slice rA R.length rc]] w1 (Fresh (.bool (optRight h s R)) w1)) := Lib.hid (fun w1 h1 =>
    oright_any rA rc h s R w1 (((hR.below hB).below (h1.mono hB.size)).more (Nat.le_trans hB.size h1.size)) hs)
  rw [ho] at HOR
  rw [hg] at HGR
  have FIN : Hid (∀ w1, Below W.heap.size W w1 → w1.cell? ⟨w.heap.size, 0, none⟩ = some (.int .i64 N) ∧ w1.cell? ⟨w.heap.size + 1, 0, none⟩ = some (.int .i64 h) ∧ w1.cell? ⟨w.heap.size + 1, 1, none⟩ = some (.int .i64 s) ∧ w1.cell? ⟨w.heap.size + 1, 2, none⟩ = some (.slice rA R.length rc) ∧
      w1.cell? ⟨w.heap.size + 2, 0, none⟩ = some (.slice none 0 0) ∧ w1.cell? ⟨w.heap.size + 2, 1, none⟩ = some (.slice none 0 0) ∧ w1.frozen? ⟨w.heap.size + 2, 0, none⟩ = false ∧ w1.frozen? ⟨w.heap.size + 2, 1, none⟩ = false) := Lib.hid (fun w1 h1 => by
    have a0 := hb0.below h1 hb0.lt
    have a1 := hb1.below h1 hb1.lt
    have a2 := hb2.below h1 hb2.lt
    exact ⟨by rw [a0.cell]; rfl, by rw [a1.cell]; rfl, by rw [a1.cell]; rfl, by rw [a1.cell]; rfl, by rw [a2.cell]; rfl, by rw [a2.cell]; rfl, a2.frozen 0, a2.frozen 1⟩)
  have r1 : (0 : Int) < (R.length : Int) := by omega
  have r2 : ((R.length : Int) == N) = false := by simpa using hrN
  have r3 : ((R.length : Int) != N) = true := by simpa using hrN
  clear hW hB hb0 hb1 hb2 hG hR hg ho hr0 hrN hs0
  go_enter Try.func12, Try.ntmps12
  go_wp2_with (first
    | (go_at_call 63; rw [← HW.out]; refine (Hid.out HGR).mono ?_; rintro e w1 ⟨rfl, hb1⟩
       have HC1 := Lib.hid hb1; clear hb1
       obtain ⟨_, e1, e2, e3, _⟩ := FIN.out _ HC1.out)
    | (go_at_call 18; refine (HOR.out w1 HC1.out).mono ?_; rintro e w2 ⟨rfl, hb2⟩
       have HC2 := Lib.hid (HC1.out.trans (hb2.mono HC1.out.size)); clear hb2
       obtain ⟨f0, f1, f2, f3, x0, x1, y0, y1⟩ := FIN.out _ HC2.out))
  refine bodyPost_ret (v := .tuple #[.agg #[.slice none 0 0, .slice none 0 0], .int .i64 2]) (by simp [results, Try.results12, go_sem, x0, x1]) rfl ⟨rfl, ?_⟩
  exact ((HB.out.trans (HC2.out.mono HB.out.size)).setCell (by show w.heap.size ≤ w.heap.size + 1 + 1; omega) _).setCell (by show w.heap.size ≤ w.heap.size + 1 + 1; omega) _
end Go.Proofs.Ytbaclbiedepjfaa
