/- Words for memory, the second part: make. No program. -/
import Derived.Test.YtbaclbiedepjfaaBase
import Derived.Laws.MakeOwn
import Derived.Laws.Entries
set_option autoImplicit false
namespace Go.Proofs.Ytbaclbiedepjfaa
open Go Go.RowKit

theorem run_make_rowN {P : Program} (t e : TypeId) (i : TypeInfo) (z : Value) (ht : P.underlying t = some (.slice e)) (hi : P.info? e = some i) (hz : i.zero = some z)
    (kl kc : IntKind) (n c : Nat) (hnc : n ≤ c) (hbytes : i.bytes * c ≤ 281474976710656) (h63 : c ≤ 9223372036854775807) (w : World) :
    (Instr.makeSlice t (.int kl (n : Int)) (.int kc (c : Int))).run P w = .ok (.slice (some ⟨w.heap.size, 0, none⟩) n c) (w.alloc (.cells (madeCells z.cells (c * i.size)) e)) := by
  have hb : (i.bytes : Int) * (c : Int) ≤ 281474976710656 := by
    have h : ((i.bytes * c : Nat) : Int) ≤ 281474976710656 := by omega
    rwa [Int.natCast_mul] at h
  have hr := run_make (P := P) w t e i z ht hi hz kl kc n c (by omega) (by omega) hb (by omega)
  simp only [Int.toNat_natCast] at hr
  exact hr
theorem madeCells_one (z : Value) (n : Nat) : madeCells #[z] n = (List.replicate n z).toArray := by
  rw [← toList_madeCells_one, Array.toArray_toList]
theorem madeCells_two (y z : Value) (n : Nat) : madeCells #[y, z] (n * 2) = ((List.replicate n ()).flatMap fun _ => [y, z]).toArray := by
  apply Array.ext'
  rw [List.toList_toArray]
  apply flat_ext (fun _ : Unit => [y, z]) 2 (fun _ => rfl) (by omega)
  · simp [madeCells]
  · intro i x j hi hj
    have hl := (List.getElem?_eq_some_iff.1 hi).1
    rw [List.length_replicate] at hl
    rcases (by omega : j = 0 ∨ j = 1) with rfl | rfl
    · have h0 : i * 2 % 2 = 0 := by omega
      have : i * 2 < n * 2 := by omega
      simp [madeCells, h0, this]
    · have h1 : (i * 2 + 1) % 2 = 1 := by omega
      have : i * 2 + 1 < n * 2 := by omega
      simp [madeCells, h1, this]
theorem ints_at (L : List Int) {k : Nat} (h : k < L.length) : (L.map (Value.int .i64)).toArray[k]? = some (.int .i64 (L.getD k 0)) := by
  simp [List.getD, h]
theorem cellAt_ints {w : World} {g : Nat} {t : TypeId} {L : List Int} (hb : Blk w g t (L.map (Value.int .i64)).toArray) {k : Nat} (h : k < L.length) : w.cell? ⟨g, k, none⟩ = some (.int .i64 (L.getD k 0)) := by
  rw [hb.cell, ints_at L h]
theorem setAt_ints {w : World} {g : Nat} {t : TypeId} {L : List Int} (hb : Blk w g t (L.map (Value.int .i64)).toArray) (k : Nat) (z : Int) : Blk (w.setCell ⟨g, k, none⟩ (.int .i64 z)) g t ((L.set k z).map (Value.int .i64)).toArray := by
  have := hb.set_ k (.int .i64 z)
  rw [List.map_set]
  simpa using this
/-- where a row that is not empty begins, written out -/
theorem Reads.lit {w : World} {B size n : Nat} {A : Option Addr} {xs : List Value} (h : Reads w B size A n xs) (hn : 0 < n) (hs : 0 < size) :
    ∃ b o, A = some ⟨b, o, none⟩ ∧ b < B ∧ b < w.heap.size ∧ ∀ j u, xs[j]? = some u → w.cell? ⟨b, o + j, none⟩ = some u := by
  obtain ⟨ad, e, hb, hc⟩ := h.2 hn
  have hl : 0 < xs.length := by rw [h.1]; exact Nat.mul_pos hn hs
  have h0 := hc 0 _ (List.getElem?_eq_getElem hl)
  obtain ⟨b, o, sp⟩ := ad
  have hsp : sp = none := by
    cases sp with
    | none => rfl
    | some x =>
      simp [Addr.add, World.cell?] at h0
      split at h0 <;> simp at h0
  subst hsp
  refine ⟨b, o, e, hb, block_lt_of_cell h0, fun j u hu => ?_⟩
  have := hc j u hu
  unfold Addr.add at this
  split at this
  · rename_i hj; subst hj; exact this
  · exact this
end Go.Proofs.Ytbaclbiedepjfaa
