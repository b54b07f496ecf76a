/- The frame: what an argument that reads gives the walks. -/
import Derived.Test.YtbaclbiedepjfaaRows
import Derived.Test.YtbaclbiedepjfaaBas2
import Derived.WalkKit
import Derived.ProofKit
import Derived.OpenShut
import Derived.ShutString
import Derived.ChangeOld
import Derived.Below
import Derived.Deep.Slices
import Derived.Deep.Strs
import Derived.Lib.SmallJoins
set_option autoImplicit false
namespace Go.Proofs.Ytbaclbiedepjfaa
open Go Go.RowKit Go.ChangeShapes Go.WideShapes Go.ChangeAt Go.Joins

theorem own : ownKnob Try.prog.godebug = none := by kernel_rfl
theorem laidOut : laidOutB Try.prog = true := by kernel_rfl

section
variable {H : Type} {enc : TypeId × Value → H} {w : World}
/-- a slice of elements that are rows of cells -/
theorem open_reads {α : Type} [Inhabited α] {fuel k : Nat} (f : α → List Value) (hf : ∀ a, (f a).length = k) (Q : α → Prop) {t e : TypeId} {v : Value} {x : DataW H × List MemPlace} (ht : Try.prog.underlying t = some (.slice e)) (hk : Try.prog.cellsOf e = k) (hk0 : 0 < k)
    (el : ∀ n cs y, cs.length = k → DataW.trod enc Try.prog w 0 (fun _ => true) true n e cs = some y → ∃ a, cs = f a ∧ Q a)
    (h : DataW.trod enc Try.prog w 0 (fun _ => true) true fuel t [v] = some x) :
    ∃ (A : Option Addr) (c : Nat) (L : List α), v = .slice A L.length c ∧ Reads w w.heap.size k A L.length (L.flatMap f) ∧ (∀ a ∈ L, Q a) ∧ (A = none → c = 0) ∧ L.length ≤ c ∧ c ≤ maxLen := by
  rcases Go.Deep.open_slice ht h with ⟨hv, _⟩ | ⟨a, len, cap, m, n, D, Pl, hv, hb, hl, hm, hmm, hx, hi⟩
  · injection hv with hv
    exact ⟨none, 0, [], hv, Reads.none_, fun _ h => (by cases h), fun _ => rfl, Nat.le_refl _, by unfold maxLen; omega⟩
  · injection hv with hv
    have hlm : len ≤ m := by
      rw [hmm]
      simp
      exact hl
    rw [hk] at hi
    obtain ⟨E, hE⟩ := Go.Deep.choose_lt (α := α) (n := len) (p := fun i z => (∀ q, q < k → w.cell? ((a.add (i * k)).add q) = (f z)[q]?) ∧ Q z) (fun i hil => by
      obtain ⟨cs', h1, h2⟩ := hi i (by omega)
      obtain ⟨_, h3, h4⟩ := World.cells?_some h1
      obtain ⟨z, rfl, hz⟩ := el n cs' _ h3 h2
      exact ⟨z, h4, hz⟩)
    have hlen : ((List.range len).map E).length = len := by simp
    refine ⟨some a, cap, (List.range len).map E, by rw [hlen]; exact hv, ⟨by rw [flat_length f k hf], fun hn => ⟨a, rfl, ?_, ?_⟩⟩, ?_, fun h => (by cases h), by rw [hlen]; exact hl, hm⟩
    · rw [hlen] at hn
      obtain ⟨cs', h1, _⟩ := hi 0 (by omega)
      have := World.cells?_block h1 hk0
      rw [block_of_add] at this
      exact this
    · intro j u hj
      have hjl : j < len * k := by
        have := (List.getElem?_eq_some_iff.1 hj).1
        rw [flat_length f k hf, hlen] at this
        exact this
      have hq : j % k < k := Nat.mod_lt _ hk0
      have hd : j / k < len := (Nat.div_lt_iff_lt_mul hk0).2 hjl
      have e : j = j / k * k + j % k := by rw [Nat.mul_comm]; exact (Nat.div_add_mod j k).symm
      have h1 := (hE (j / k) hd).1 (j % k) hq
      rw [add_of_add, ← e] at h1
      rw [h1, ← hj]
      conv => rhs; rw [e]
      rw [flat_get f k hf _ _ _ hq]
      simp [hd]
    · intro z hz
      obtain ⟨i, hi', rfl⟩ := List.mem_map.1 hz
      exact (hE i (List.mem_range.1 hi')).2

theorem flat_one {α : Type} (V : α → Value) (L : List α) : L.flatMap (fun a => [V a]) = L.map V := by
  induction L with
  | nil => rfl
  | cons a L ih => rw [List.flatMap_cons, ih]; rfl
theorem open_reads1 {α : Type} [Inhabited α] {fuel : Nat} (V : α → Value) (Q : α → Prop) {t e : TypeId} {v : Value} {x : DataW H × List MemPlace} (ht : Try.prog.underlying t = some (.slice e)) (hk : Try.prog.cellsOf e = 1)
    (el : ∀ n u y, DataW.trod enc Try.prog w 0 (fun _ => true) true n e [u] = some y → ∃ a, u = V a ∧ Q a)
    (h : DataW.trod enc Try.prog w 0 (fun _ => true) true fuel t [v] = some x) :
    ∃ (A : Option Addr) (c : Nat) (L : List α), v = .slice A L.length c ∧ Reads w w.heap.size 1 A L.length (L.map V) ∧ (∀ a ∈ L, Q a) ∧ (A = none → c = 0) ∧ L.length ≤ c ∧ c ≤ maxLen := by
  obtain ⟨A, c, L, h1, h2, h3⟩ := open_reads (k := 1) (fun a => [V a]) (fun _ => rfl) Q ht hk (by omega) (fun n cs y hl hy => by
    match cs, hl with
    | [u], _ =>
      obtain ⟨a, rfl, hq⟩ := el n u y hy
      exact ⟨a, rfl, hq⟩) h
  rw [flat_one] at h2
  exact ⟨A, c, L, h1, h2, h3⟩

theorem wf_i64_bd {n : Int} (h : (Lit.int .i64 n).wf = true) : -9223372036854775808 ≤ n ∧ n ≤ 9223372036854775807 := by
  simp [Lit.wf, IntKind.min, IntKind.max, IntKind.bits, IntKind.signed] at h; omega
theorem wf_u64_nat {n : Int} (h : (Lit.int .u64 n).wf = true) : ∃ m : Nat, n = (m : Int) ∧ m ≤ 18446744073709551615 := by
  simp [Lit.wf, IntKind.min, IntKind.max, IntKind.bits, IntKind.signed] at h
  exact ⟨n.toNat, by omega, by omega⟩
def I64 (n : Int) : Prop := -9223372036854775808 ≤ n ∧ n ≤ 9223372036854775807
def U64 (m : Nat) : Prop := m ≤ 18446744073709551615

theorem el_int {fuel : Nat} {u : Value} {y : DataW H × List MemPlace} (h : DataW.trod enc Try.prog w 0 (fun _ => true) true fuel 3 [u] = some y) : ∃ a, u = Value.int .i64 a ∧ I64 a := by
  obtain ⟨n, h1, _, h2⟩ := DataW.trod_int Try.underlying3 h
  injection h1 with h1
  exact ⟨n, h1, wf_i64_bd h2⟩
theorem el_bool {fuel : Nat} {u : Value} {y : DataW H × List MemPlace} (h : DataW.trod enc Try.prog w 0 (fun _ => true) true fuel 4 [u] = some y) : ∃ a, u = Value.bool a ∧ True := by
  obtain ⟨b, h1, _⟩ := DataW.trod_bool Try.underlying4 h
  injection h1 with h1
  exact ⟨b, h1, trivial⟩
theorem el_u64 {fuel : Nat} {u : Value} {y : DataW H × List MemPlace} (h : DataW.trod enc Try.prog w 0 (fun _ => true) true fuel 53 [u] = some y) : ∃ a : Nat, u = Value.int .u64 a ∧ U64 a := by
  obtain ⟨n, h1, _, h2⟩ := DataW.trod_int Try.underlying53 h
  obtain ⟨m, rfl, hm⟩ := wf_u64_nat h2
  injection h1 with h1
  exact ⟨m, h1, hm⟩
end
end Go.Proofs.Ytbaclbiedepjfaa
