/- slices.IndexFunc, slices.ContainsFunc: the function that is handed in, by its contract. Printed by gen_idx.py. -/
import Derived.Test.YtbaclbiedepjfaaBas2
import Derived.Test.YtbaclbiedepjfaaHpW
set_option autoImplicit false
namespace Go.Proofs.Ytbaclbiedepjfaa
open Go Go.RowKit

def idxOf {α : Type} (p : α → Bool) (xs : List α) : Int :=
  match xs.findIdx? p with
  | some i => (i : Int)
  | none => -1
theorem idxOf_some {α : Type} {p : α → Bool} {xs : List α} {k : Nat} {x : α} (hx : xs[k]? = some x) (hp : p x = true) (h : ∀ j y, j < k → xs[j]? = some y → p y = false) : idxOf p xs = (k : Int) := by
  have hk := (List.getElem?_eq_some_iff.1 hx).1
  have e : xs.findIdx? p = some k := by
    rw [List.findIdx?_eq_some_iff_getElem]
    refine ⟨hk, ?_, ?_⟩
    · have := List.getElem?_eq_getElem hk
      rw [hx] at this
      injection this with this
      rw [← this]; exact hp
    · intro j hj
      have := h j xs[j] hj (List.getElem?_eq_getElem (by omega))
      simp [this]
  unfold idxOf
  rw [e]
theorem idxOf_none {α : Type} {p : α → Bool} {xs : List α} (h : ∀ j y, j < xs.length → xs[j]? = some y → p y = false) : idxOf p xs = -1 := by
  have e : xs.findIdx? p = none := by
    rw [List.findIdx?_eq_none_iff]
    intro x hx
    obtain ⟨j, hj⟩ := List.getElem?_of_mem hx
    exact h j x (List.getElem?_eq_some_iff.1 hj).1 hj
  unfold idxOf
  rw [e]
theorem idxOf_any {α : Type} (p : α → Bool) (xs : List α) : decide (0 ≤ idxOf p xs) = xs.any p := by
  unfold idxOf
  cases e : xs.findIdx? p with
  | some i =>
    rw [List.findIdx?_eq_some_iff_getElem] at e
    obtain ⟨hi, hp, _⟩ := e
    have : xs.any p = true := List.any_eq_true.2 ⟨_, List.getElem_mem hi, hp⟩
    rw [this]
    simp
  | none =>
    rw [List.findIdx?_eq_none_iff] at e
    have : xs.any p = false := List.any_eq_false.2 (fun x hx => by rw [e x hx]; simp)
    rw [this]
    rfl
theorem idxOf_ge {α : Type} (p : α → Bool) (xs : List α) : -1 ≤ idxOf p xs ∧ idxOf p xs < (xs.length : Int) := by
  unfold idxOf
  cases e : xs.findIdx? p with
  | some i =>
    rw [List.findIdx?_eq_some_iff_getElem] at e
    obtain ⟨hi, _, _⟩ := e
    simp only
    omega
  | none => simp only; omega

/-- a row of arcs: where it lies, its capacity, its arcs -/
structure RowD where
  A : Option Addr
  c : Nat
  l : List (Int × Nat)
def RowD.V (r : RowD) : Value := .slice r.A r.l.length r.c

def cellsR (x : Int × Nat) : List Value := [.int .i64 x.1, .int .u64 x.2]
theorem cellsR_len (x : Int × Nat) : (cellsR x).length = 2 := rfl
def cellsE (x : Int × Int × Nat) : List Value := [.int .i64 x.1, .int .i64 x.2.1, .int .u64 x.2.2]
theorem cellsE_len (x : Int × Int × Nat) : (cellsE x).length = 3 := rfl
theorem rowAt2 {w : World} {B n : Nat} {A : Option Addr} {l : List (Int × Nat)} (h : Reads w B 2 A n (l.flatMap cellsR)) (hl : 0 < n) :
    ∃ b o, A = some ⟨b, o, none⟩ ∧ b < B ∧ b < w.heap.size ∧ ∀ k x, l[k]? = some x → w.cell? ⟨b, o + k * 2, none⟩ = some (.int .i64 x.1) ∧ w.cell? ⟨b, o + k * 2 + 1, none⟩ = some (.int .u64 x.2) := by
  obtain ⟨b, o, e, hb, hb2, hc⟩ := h.lit hl (by omega)
  refine ⟨b, o, e, hb, hb2, fun k x hx => ⟨hc _ _ ?_, ?_⟩⟩
  · have := flat_get cellsR 2 cellsR_len l k 0 (by omega)
    rw [hx] at this
    simpa [cellsR] using this
  · rw [Nat.add_assoc]
    refine hc _ _ ?_
    have := flat_get cellsR 2 cellsR_len l k 1 (by omega)
    rw [hx] at this
    simpa [cellsR] using this
theorem rowAt3 {w : World} {B n : Nat} {A : Option Addr} {l : List (Int × Int × Nat)} (h : Reads w B 3 A n (l.flatMap cellsE)) (hl : 0 < n) :
    ∃ b o, A = some ⟨b, o, none⟩ ∧ b < B ∧ b < w.heap.size ∧ ∀ k x, l[k]? = some x → w.cell? ⟨b, o + k * 3, none⟩ = some (.int .i64 x.1) ∧ w.cell? ⟨b, o + k * 3 + 1, none⟩ = some (.int .i64 x.2.1) ∧ w.cell? ⟨b, o + k * 3 + 2, none⟩ = some (.int .u64 x.2.2) := by
  obtain ⟨b, o, e, hb, hb2, hc⟩ := h.lit hl (by omega)
  refine ⟨b, o, e, hb, hb2, fun k x hx => ⟨hc _ _ ?_, ?_, ?_⟩⟩
  · have := flat_get cellsE 3 cellsE_len l k 0 (by omega)
    rw [hx] at this
    simpa [cellsE] using this
  · rw [Nat.add_assoc]
    refine hc _ _ ?_
    have := flat_get cellsE 3 cellsE_len l k 1 (by omega)
    rw [hx] at this
    simpa [cellsE] using this
  · rw [Nat.add_assoc]
    refine hc _ _ ?_
    have := flat_get cellsE 3 cellsE_len l k 2 (by omega)
    rw [hx] at this
    simpa [cellsE] using this
theorem rowAt1 {w : World} {B n : Nat} {A : Option Addr} {α : Type} {V : α → Value} {l : List α} (h : Reads w B 1 A n (l.map V)) (hl : 0 < n) :
    ∃ b o, A = some ⟨b, o, none⟩ ∧ b < B ∧ b < w.heap.size ∧ ∀ k x, l[k]? = some x → w.cell? ⟨b, o + k, none⟩ = some (V x) := by
  obtain ⟨b, o, e, hb, hb2, hc⟩ := h.lit hl (by omega)
  refine ⟨b, o, e, hb, hb2, fun k x hx => hc _ _ ?_⟩
  rw [List.getElem?_map, hx]; rfl

set_option maxRecDepth 100000 in
set_option maxHeartbeats 1000000 in
theorem idx_arc (cap : Value) (A : Option Addr) (n c : Nat) (xs : List (Int × Nat)) (p : (Int × Nat) → Bool) (w : World)
    (h : Reads w w.heap.size 2 A n (xs.flatMap cellsR)) (hn : xs.length = n) (hs : n ≤ 65536)
    (hf : ∀ x ∈ xs, ∀ W, Below w.heap.size w W → Calls Try.prog 156 #[.agg #[.int .i64 x.1, .int .u64 x.2], cap] W (Fresh (.bool (p x)) W)) :
    Calls Try.prog 174 #[.slice A n c, .func (.func 156) #[] #[cap]] w (Fresh (.int .i64 (idxOf p xs)) w) := by
  have HF := Lib.hid hf
  have HR := Lib.hid h
  have HN := Lib.hid hn
  clear hf h hn
  go_enter Try.func174, Try.ntmps174
  go_wp2
  go_loopw [8] (fun i wr => ∃ k : Nat, k ≤ n ∧ i = .int .i64 k ∧ Hid ((∀ j y, j < k → xs[j]? = some y → p y = false) ∧ Below w.heap.size w wr)) (fun i _ => n - (intOf i).toNat)
  case atStart => exact ⟨0, Nat.zero_le _, rfl, Lib.hid ⟨fun j y h => absurd h (by omega), Below.refl _ _⟩⟩
  case round =>
    obtain ⟨k, hk, rfl, HI⟩ := hrel
    by_cases hlt : k < n
    · obtain ⟨x, hx⟩ : ∃ x, xs[k]? = some x := ⟨_, List.getElem?_eq_getElem (by rw [HN.out]; exact hlt)⟩
      obtain ⟨b, o, hA, _, _, hac⟩ := rowAt2 (HR.out.below HI.out.2) (by omega)
      subst hA
      obtain ⟨d0, d1⟩ := hac k x hx
      have hi0 : (0 : Int) ≤ (k : Int) := by omega
      have hi1 : (k : Int) < (n : Int) := by omega
      have HC := Lib.hid (HF.out x (List.mem_of_getElem? hx) wr HI.out.2)
      have HX := Lib.hid hx
      clear hx hac
      cases hp : p x with
      | true =>
        have HP := Lib.hid hp
        have HC2 := HC.out
        rw [hp] at HC2
        have HC3 := Lib.hid HC2
        clear HC2 hp
        go_wp2_with (go_at_call 156; refine (Hid.out HC3).mono ?_; rintro e w1 ⟨rfl, hb1⟩)
        go_ret
        have e := idxOf_some HX.out HP.out HI.out.1
        exact ⟨by rw [e]; rfl, HI.out.2.trans (hb1.mono HI.out.2.size)⟩
      | false =>
        have HP := Lib.hid hp
        have HC2 := HC.out
        rw [hp] at HC2
        have HC3 := Lib.hid HC2
        clear HC2 hp
        go_wp2_with (go_at_call 156; refine (Hid.out HC3).mono ?_; rintro e w1 ⟨rfl, hb1⟩)
        go_roundw
        case rel =>
          refine ⟨k + 1, by omega, by go_num, Lib.hid ⟨fun j y hj hy => ?_, HI.out.2.trans (hb1.mono HI.out.2.size)⟩⟩
          by_cases hjk : j = k
          · subst hjk
            rw [HX.out] at hy
            injection hy with hy
            subst hy
            exact HP.out
          · exact HI.out.1 j y (by omega) hy
        case measure => simp [intOf]; omega
    · have hkn : k = n := by omega
      have HK := Lib.hid hkn
      clear hkn
      go_wp2
      go_ret
      have e := idxOf_none (p := p) (xs := xs) (fun j y hj hy => HI.out.1 j y (by rw [HK.out, ← HN.out]; exact hj) hy)
      exact ⟨by rw [e]; rfl, HI.out.2⟩

theorem con_arc (cap : Value) (A : Option Addr) (n c : Nat) (xs : List (Int × Nat)) (p : (Int × Nat) → Bool) (w : World)
    (h : Reads w w.heap.size 2 A n (xs.flatMap cellsR)) (hn : xs.length = n) (hs : n ≤ 65536)
    (hf : ∀ x ∈ xs, ∀ W, Below w.heap.size w W → Calls Try.prog 156 #[.agg #[.int .i64 x.1, .int .u64 x.2], cap] W (Fresh (.bool (p x)) W)) :
    Calls Try.prog 159 #[.slice A n c, .func (.func 156) #[] #[cap]] w (Fresh (.bool (xs.any p)) w) := by
  have HI := Lib.hid (idx_arc cap A n c xs p w h hn hs hf)
  clear h hf
  go_enter Try.func159, Try.ntmps159
  go_wp2_with (go_at_call 174; refine (Hid.out HI).mono ?_; rintro e w1 ⟨rfl, hb1⟩)
  go_ret
  exact ⟨by rw [← idxOf_any]; rfl, hb1⟩

set_option maxRecDepth 100000 in
set_option maxHeartbeats 1000000 in
theorem idx_row (cap : Value) (A : Option Addr) (n c : Nat) (xs : List RowD) (p : RowD → Bool) (w : World)
    (h : Reads w w.heap.size 1 A n (xs.map RowD.V)) (hn : xs.length = n) (hs : n ≤ 65536)
    (hf : ∀ x ∈ xs, ∀ W, Below w.heap.size w W → Calls Try.prog 158 #[.slice x.A x.l.length x.c, cap] W (Fresh (.bool (p x)) W)) :
    Calls Try.prog 179 #[.slice A n c, .func (.func 158) #[] #[cap]] w (Fresh (.int .i64 (idxOf p xs)) w) := by
  have HF := Lib.hid hf
  have HR := Lib.hid h
  have HN := Lib.hid hn
  clear hf h hn
  go_enter Try.func179, Try.ntmps179
  go_wp2
  go_loopw [8] (fun i wr => ∃ k : Nat, k ≤ n ∧ i = .int .i64 k ∧ Hid ((∀ j y, j < k → xs[j]? = some y → p y = false) ∧ Below w.heap.size w wr)) (fun i _ => n - (intOf i).toNat)
  case atStart => exact ⟨0, Nat.zero_le _, rfl, Lib.hid ⟨fun j y h => absurd h (by omega), Below.refl _ _⟩⟩
  case round =>
    obtain ⟨k, hk, rfl, HI⟩ := hrel
    by_cases hlt : k < n
    · obtain ⟨x, hx⟩ : ∃ x, xs[k]? = some x := ⟨_, List.getElem?_eq_getElem (by rw [HN.out]; exact hlt)⟩
      obtain ⟨b, o, hA, _, _, hac⟩ := rowAt1 (HR.out.below HI.out.2) (by omega)
      subst hA
      have d0 : _ = some (Value.slice x.A x.l.length x.c) := hac k x hx
      have hi0 : (0 : Int) ≤ (k : Int) := by omega
      have hi1 : (k : Int) < (n : Int) := by omega
      have HC := Lib.hid (HF.out x (List.mem_of_getElem? hx) wr HI.out.2)
      have HX := Lib.hid hx
      clear hx hac
      cases hp : p x with
      | true =>
        have HP := Lib.hid hp
        have HC2 := HC.out
        rw [hp] at HC2
        have HC3 := Lib.hid HC2
        clear HC2 hp
        go_wp2_with (go_at_call 158; refine (Hid.out HC3).mono ?_; rintro e w1 ⟨rfl, hb1⟩)
        go_ret
        have e := idxOf_some HX.out HP.out HI.out.1
        exact ⟨by rw [e]; rfl, HI.out.2.trans (hb1.mono HI.out.2.size)⟩
      | false =>
        have HP := Lib.hid hp
        have HC2 := HC.out
        rw [hp] at HC2
        have HC3 := Lib.hid HC2
        clear HC2 hp
        go_wp2_with (go_at_call 158; refine (Hid.out HC3).mono ?_; rintro e w1 ⟨rfl, hb1⟩)
        go_roundw
        case rel =>
          refine ⟨k + 1, by omega, by go_num, Lib.hid ⟨fun j y hj hy => ?_, HI.out.2.trans (hb1.mono HI.out.2.size)⟩⟩
          by_cases hjk : j = k
          · subst hjk
            rw [HX.out] at hy
            injection hy with hy
            subst hy
            exact HP.out
          · exact HI.out.1 j y (by omega) hy
        case measure => simp [intOf]; omega
    · have hkn : k = n := by omega
      have HK := Lib.hid hkn
      clear hkn
      go_wp2
      go_ret
      have e := idxOf_none (p := p) (xs := xs) (fun j y hj hy => HI.out.1 j y (by rw [HK.out, ← HN.out]; exact hj) hy)
      exact ⟨by rw [e]; rfl, HI.out.2⟩

theorem con_row (cap : Value) (A : Option Addr) (n c : Nat) (xs : List RowD) (p : RowD → Bool) (w : World)
    (h : Reads w w.heap.size 1 A n (xs.map RowD.V)) (hn : xs.length = n) (hs : n ≤ 65536)
    (hf : ∀ x ∈ xs, ∀ W, Below w.heap.size w W → Calls Try.prog 158 #[.slice x.A x.l.length x.c, cap] W (Fresh (.bool (p x)) W)) :
    Calls Try.prog 157 #[.slice A n c, .func (.func 158) #[] #[cap]] w (Fresh (.bool (xs.any p)) w) := by
  have HI := Lib.hid (idx_row cap A n c xs p w h hn hs hf)
  clear h hf
  go_enter Try.func157, Try.ntmps157
  go_wp2_with (go_at_call 179; refine (Hid.out HI).mono ?_; rintro e w1 ⟨rfl, hb1⟩)
  go_ret
  exact ⟨by rw [← idxOf_any]; rfl, hb1⟩

set_option maxRecDepth 100000 in
set_option maxHeartbeats 1000000 in
theorem idx_loose (cap : Value) (A : Option Addr) (n c : Nat) (xs : List (Int × Int × Nat)) (p : (Int × Int × Nat) → Bool) (w : World)
    (h : Reads w w.heap.size 3 A n (xs.flatMap cellsE)) (hn : xs.length = n) (hs : n ≤ 65536)
    (hf : ∀ x ∈ xs, ∀ W, Below w.heap.size w W → Calls Try.prog 108 #[.agg #[.int .i64 x.1, .int .i64 x.2.1, .int .u64 x.2.2], cap] W (Fresh (.bool (p x)) W)) :
    Calls Try.prog 148 #[.slice A n c, .func (.func 108) #[] #[cap]] w (Fresh (.int .i64 (idxOf p xs)) w) := by
  have HF := Lib.hid hf
  have HR := Lib.hid h
  have HN := Lib.hid hn
  clear hf h hn
  go_enter Try.func148, Try.ntmps148
  go_wp2
  go_loopw [8] (fun i wr => ∃ k : Nat, k ≤ n ∧ i = .int .i64 k ∧ Hid ((∀ j y, j < k → xs[j]? = some y → p y = false) ∧ Below w.heap.size w wr)) (fun i _ => n - (intOf i).toNat)
  case atStart => exact ⟨0, Nat.zero_le _, rfl, Lib.hid ⟨fun j y h => absurd h (by omega), Below.refl _ _⟩⟩
  case round =>
    obtain ⟨k, hk, rfl, HI⟩ := hrel
    by_cases hlt : k < n
    · obtain ⟨x, hx⟩ : ∃ x, xs[k]? = some x := ⟨_, List.getElem?_eq_getElem (by rw [HN.out]; exact hlt)⟩
      obtain ⟨b, o, hA, _, _, hac⟩ := rowAt3 (HR.out.below HI.out.2) (by omega)
      subst hA
      obtain ⟨d0, d1, d2⟩ := hac k x hx
      have hi0 : (0 : Int) ≤ (k : Int) := by omega
      have hi1 : (k : Int) < (n : Int) := by omega
      have HC := Lib.hid (HF.out x (List.mem_of_getElem? hx) wr HI.out.2)
      have HX := Lib.hid hx
      clear hx hac
      cases hp : p x with
      | true =>
        have HP := Lib.hid hp
        have HC2 := HC.out
        rw [hp] at HC2
        have HC3 := Lib.hid HC2
        clear HC2 hp
        go_wp2_with (go_at_call 108; refine (Hid.out HC3).mono ?_; rintro e w1 ⟨rfl, hb1⟩)
        go_ret
        have e := idxOf_some HX.out HP.out HI.out.1
        exact ⟨by rw [e]; rfl, HI.out.2.trans (hb1.mono HI.out.2.size)⟩
      | false =>
        have HP := Lib.hid hp
        have HC2 := HC.out
        rw [hp] at HC2
        have HC3 := Lib.hid HC2
        clear HC2 hp
        go_wp2_with (go_at_call 108; refine (Hid.out HC3).mono ?_; rintro e w1 ⟨rfl, hb1⟩)
        go_roundw
        case rel =>
          refine ⟨k + 1, by omega, by go_num, Lib.hid ⟨fun j y hj hy => ?_, HI.out.2.trans (hb1.mono HI.out.2.size)⟩⟩
          by_cases hjk : j = k
          · subst hjk
            rw [HX.out] at hy
            injection hy with hy
            subst hy
            exact HP.out
          · exact HI.out.1 j y (by omega) hy
        case measure => simp [intOf]; omega
    · have hkn : k = n := by omega
      have HK := Lib.hid hkn
      clear hkn
      go_wp2
      go_ret
      have e := idxOf_none (p := p) (xs := xs) (fun j y hj hy => HI.out.1 j y (by rw [HK.out, ← HN.out]; exact hj) hy)
      exact ⟨by rw [e]; rfl, HI.out.2⟩

theorem con_loose (cap : Value) (A : Option Addr) (n c : Nat) (xs : List (Int × Int × Nat)) (p : (Int × Int × Nat) → Bool) (w : World)
    (h : Reads w w.heap.size 3 A n (xs.flatMap cellsE)) (hn : xs.length = n) (hs : n ≤ 65536)
    (hf : ∀ x ∈ xs, ∀ W, Below w.heap.size w W → Calls Try.prog 108 #[.agg #[.int .i64 x.1, .int .i64 x.2.1, .int .u64 x.2.2], cap] W (Fresh (.bool (p x)) W)) :
    Calls Try.prog 111 #[.slice A n c, .func (.func 108) #[] #[cap]] w (Fresh (.bool (xs.any p)) w) := by
  have HI := Lib.hid (idx_loose cap A n c xs p w h hn hs hf)
  clear h hf
  go_enter Try.func111, Try.ntmps111
  go_wp2_with (go_at_call 148; refine (Hid.out HI).mono ?_; rintro e w1 ⟨rfl, hb1⟩)
  go_ret
  exact ⟨by rw [← idxOf_any]; rfl, hb1⟩
end Go.Proofs.Ytbaclbiedepjfaa
