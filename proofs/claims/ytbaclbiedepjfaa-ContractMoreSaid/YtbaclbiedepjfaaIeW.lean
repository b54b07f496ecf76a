/- slices.ContainsFunc at edges with graph.Right's second function. Printed by gen_idx.py. -/
import Derived.Test.YtbaclbiedepjfaaIdW
set_option autoImplicit false
namespace Go.Proofs.Ytbaclbiedepjfaa
open Go Go.RowKit

set_option maxRecDepth 100000 in
set_option maxHeartbeats 1000000 in
theorem idx_heavy (A : Option Addr) (n c : Nat) (xs : List (Int × Int × Nat)) (p : (Int × Int × Nat) → Bool) (w : World)
    (h : Reads w w.heap.size 3 A n (xs.flatMap cellsE)) (hn : xs.length = n) (hs : n ≤ 65536)
    (hf : ∀ x ∈ xs, ∀ W, Below w.heap.size w W → Calls Try.prog 109 #[.agg #[.int .i64 x.1, .int .i64 x.2.1, .int .u64 x.2.2]] W (Fresh (.bool (p x)) W)) :
    Calls Try.prog 148 #[.slice A n c, .func (.func 109) #[] #[]] w (Fresh (.int .i64 (idxOf p xs)) w) := by
  have HF := Lib.hid hf
  have HR := Lib.hid h
  have HN := Lib.hid hn
  clear hf h hn
  go_enter Try.func148, Try.ntmps148
  go_wp2
  go_loopw [8] (fun i wr => ∃ k : Nat, k ≤ n ∧ i = .int .i64 k ∧ Hid ((∀ j y, j < k → xs[j]? = some y → p y = false) ∧ Below w.heap.size w wr)) (fun i _ => n - (intOf i).toNat)
  case atStart => exact ⟨0, Nat.zero_le _, rfl, Lib.hid ⟨fun j y h => absurd h (by omega), Below.refl _ _⟩⟩
  case round =>
    obtain ⟨k, hk, rfl, HI⟩ := hrel
    by_cases hlt : k < n
    · obtain ⟨x, hx⟩ : ∃ x, xs[k]? = some x := ⟨_, List.getElem?_eq_getElem (by rw [HN.out]; exact hlt)⟩
      obtain ⟨b, o, hA, _, _, hac⟩ := rowAt3 (HR.out.below HI.out.2) (by omega)
      subst hA
      obtain ⟨d0, d1, d2⟩ := hac k x hx
      have hi0 : (0 : Int) ≤ (k : Int) := by omega
      have hi1 : (k : Int) < (n : Int) := by omega
      have HC := Lib.hid (HF.out x (List.mem_of_getElem? hx) wr HI.out.2)
      have HX := Lib.hid hx
      clear hx hac
      cases hp : p x with
      | true =>
        have HP := Lib.hid hp
        have HC2 := HC.out
        rw [hp] at HC2
        have HC3 := Lib.hid HC2
        clear HC2 hp
        go_wp2_with (go_at_call 109; refine (Hid.out HC3).mono ?_; rintro e w1 ⟨rfl, hb1⟩)
        go_ret
        have e := idxOf_some HX.out HP.out HI.out.1
        exact ⟨by rw [e]; rfl, HI.out.2.trans (hb1.mono HI.out.2.size)⟩
      | false =>
        have HP := Lib.hid hp
        have HC2 := HC.out
        rw [hp] at HC2
        have HC3 := Lib.hid HC2
        clear HC2 hp
        go_wp2_with (go_at_call 109; refine (Hid.out HC3).mono ?_; rintro e w1 ⟨rfl, hb1⟩)
        go_roundw
        case rel =>
          refine ⟨k + 1, by omega, by go_num, Lib.hid ⟨fun j y hj hy => ?_, HI.out.2.trans (hb1.mono HI.out.2.size)⟩⟩
          by_cases hjk : j = k
          · subst hjk
            rw [HX.out] at hy
            injection hy with hy
            subst hy
            exact HP.out
          · exact HI.out.1 j y (by omega) hy
        case measure => simp [intOf]; omega
    · have hkn : k = n := by omega
      have HK := Lib.hid hkn
      clear hkn
      go_wp2
      go_ret
      have e := idxOf_none (p := p) (xs := xs) (fun j y hj hy => HI.out.1 j y (by rw [HK.out, ← HN.out]; exact hj) hy)
      exact ⟨by rw [e]; rfl, HI.out.2⟩

theorem con_heavy (A : Option Addr) (n c : Nat) (xs : List (Int × Int × Nat)) (p : (Int × Int × Nat) → Bool) (w : World)
    (h : Reads w w.heap.size 3 A n (xs.flatMap cellsE)) (hn : xs.length = n) (hs : n ≤ 65536)
    (hf : ∀ x ∈ xs, ∀ W, Below w.heap.size w W → Calls Try.prog 109 #[.agg #[.int .i64 x.1, .int .i64 x.2.1, .int .u64 x.2.2]] W (Fresh (.bool (p x)) W)) :
    Calls Try.prog 111 #[.slice A n c, .func (.func 109) #[] #[]] w (Fresh (.bool (xs.any p)) w) := by
  have HI := Lib.hid (idx_heavy  A n c xs p w h hn hs hf)
  clear h hf
  go_enter Try.func111, Try.ntmps111
  go_wp2_with (go_at_call 148; refine (Hid.out HI).mono ?_; rintro e w1 ⟨rfl, hb1⟩)
  go_ret
  exact ⟨by rw [← idxOf_any]; rfl, hb1⟩

set_option maxRecDepth 100000 in
set_option maxHeartbeats 1000000 in
theorem idx_del (cap : Value) (A : Option Addr) (n c : Nat) (xs : List (Int × Nat)) (p : (Int × Nat) → Bool) (w : World)
    (h : Reads w w.heap.size 2 A n (xs.flatMap cellsR)) (hn : xs.length = n) (hs : n ≤ 65536)
    (hf : ∀ x ∈ xs, ∀ W, Below w.heap.size w W → Calls Try.prog 150 #[.agg #[.int .i64 x.1, .int .u64 x.2], cap] W (Fresh (.bool (p x)) W)) :
    Calls Try.prog 174 #[.slice A n c, .func (.func 150) #[] #[cap]] w (Fresh (.int .i64 (idxOf p xs)) w) := by
  have HF := Lib.hid hf
  have HR := Lib.hid h
  have HN := Lib.hid hn
  clear hf h hn
  go_enter Try.func174, Try.ntmps174
  go_wp2
  go_loopw [8] (fun i wr => ∃ k : Nat, k ≤ n ∧ i = .int .i64 k ∧ Hid ((∀ j y, j < k → xs[j]? = some y → p y = false) ∧ Below w.heap.size w wr)) (fun i _ => n - (intOf i).toNat)
  case atStart => exact ⟨0, Nat.zero_le _, rfl, Lib.hid ⟨fun j y h => absurd h (by omega), Below.refl _ _⟩⟩
  case round =>
    obtain ⟨k, hk, rfl, HI⟩ := hrel
    by_cases hlt : k < n
    · obtain ⟨x, hx⟩ : ∃ x, xs[k]? = some x := ⟨_, List.getElem?_eq_getElem (by rw [HN.out]; exact hlt)⟩
      obtain ⟨b, o, hA, _, _, hac⟩ := rowAt2 (HR.out.below HI.out.2) (by omega)
      subst hA
      obtain ⟨d0, d1⟩ := hac k x hx
      have hi0 : (0 : Int) ≤ (k : Int) := by omega
      have hi1 : (k : Int) < (n : Int) := by omega
      have HC := Lib.hid (HF.out x (List.mem_of_getElem? hx) wr HI.out.2)
      have HX := Lib.hid hx
      clear hx hac
      cases hp : p x with
      | true =>
        have HP := Lib.hid hp
        have HC2 := HC.out
        rw [hp] at HC2
        have HC3 := Lib.hid HC2
        clear HC2 hp
        go_wp2_with (go_at_call 150; refine (Hid.out HC3).mono ?_; rintro e w1 ⟨rfl, hb1⟩)
        go_ret
        have e := idxOf_some HX.out HP.out HI.out.1
        exact ⟨by rw [e]; rfl, HI.out.2.trans (hb1.mono HI.out.2.size)⟩
      | false =>
        have HP := Lib.hid hp
        have HC2 := HC.out
        rw [hp] at HC2
        have HC3 := Lib.hid HC2
        clear HC2 hp
        go_wp2_with (go_at_call 150; refine (Hid.out HC3).mono ?_; rintro e w1 ⟨rfl, hb1⟩)
        go_roundw
        case rel =>
          refine ⟨k + 1, by omega, by go_num, Lib.hid ⟨fun j y hj hy => ?_, HI.out.2.trans (hb1.mono HI.out.2.size)⟩⟩
          by_cases hjk : j = k
          · subst hjk
            rw [HX.out] at hy
            injection hy with hy
            subst hy
            exact HP.out
          · exact HI.out.1 j y (by omega) hy
        case measure => simp [intOf]; omega
    · have hkn : k = n := by omega
      have HK := Lib.hid hkn
      clear hkn
      go_wp2
      go_ret
      have e := idxOf_none (p := p) (xs := xs) (fun j y hj hy => HI.out.1 j y (by rw [HK.out, ← HN.out]; exact hj) hy)
      exact ⟨by rw [e]; rfl, HI.out.2⟩

theorem con_del (cap : Value) (A : Option Addr) (n c : Nat) (xs : List (Int × Nat)) (p : (Int × Nat) → Bool) (w : World)
    (h : Reads w w.heap.size 2 A n (xs.flatMap cellsR)) (hn : xs.length = n) (hs : n ≤ 65536)
    (hf : ∀ x ∈ xs, ∀ W, Below w.heap.size w W → Calls Try.prog 150 #[.agg #[.int .i64 x.1, .int .u64 x.2], cap] W (Fresh (.bool (p x)) W)) :
    Calls Try.prog 159 #[.slice A n c, .func (.func 150) #[] #[cap]] w (Fresh (.bool (xs.any p)) w) := by
  have HI := Lib.hid (idx_del cap A n c xs p w h hn hs hf)
  clear h hf
  go_enter Try.func159, Try.ntmps159
  go_wp2_with (go_at_call 174; refine (Hid.out HI).mono ?_; rintro e w1 ⟨rfl, hb1⟩)
  go_ret
  exact ⟨by rw [← idxOf_any]; rfl, hb1⟩
end Go.Proofs.Ytbaclbiedepjfaa
