/- rank.Inverse: its walk. -/
import Derived.Test.YtbaclbiedepjfaaRkW
import Derived.Test.YtbaclbiedepjfaaKpM
set_option autoImplicit false
namespace Go.Proofs.Ytbaclbiedepjfaa
open Go Go.RowKit

def invFrom : List Int → Nat → List Int → List Int
  | out, _, [] => out
  | out, k, n :: l => invFrom (out.set n.toNat (k : Int)) (k + 1) l
def inverse (L : List Int) : List Int := if rankOk L then invFrom (List.replicate L.length 0) 0 L else []

theorem rankFrom_in : ∀ (L : List Int) (m : List Bool), rankFrom m L = true → ∀ n ∈ L, 0 ≤ n ∧ n < m.length
  | [], _, _, _, h => by cases h
  | x :: L, m, h, n, hn => by
    unfold rankFrom at h
    simp only [Bool.and_eq_true, decide_eq_true_eq] at h
    rcases List.mem_cons.1 hn with rfl | hn
    · exact ⟨h.1.1.1, h.1.1.2⟩
    · have := rankFrom_in L _ h.2 n hn
      simpa using this
theorem rankOk_in {L : List Int} (h : rankOk L = true) : ∀ n ∈ L, 0 ≤ n ∧ n < (L.length : Int) := by
  intro n hn
  have := rankFrom_in L _ h n hn
  simpa using this
theorem invFrom_len : ∀ (L : List Int) (out : List Int) (k : Nat), (invFrom out k L).length = out.length
  | [], _, _ => rfl
  | _ :: L, out, k => by rw [invFrom, invFrom_len L]; simp

theorem own_of_blk {w : World} {base g n : Nat} {e : TypeId} {xs : List Value} {size : Nat} (h : Blk w g e xs.toArray) (hl : xs.length = n * size) (hb : base ≤ g) (hn : n ≤ maxLen) :
    w.ownsRow base e size (.slice (some ⟨g, 0, none⟩) n n) n xs :=
  ⟨hl, Or.inr ⟨g, n, xs.toArray, rfl, hb, h, Nat.le_refl _, hn, by simpa using hl, by rw [← hl]; simp⟩⟩

/-- the answer: a list of its own -/
def IDone (L : List Int) (w : World) (e : Ending) (w' : World) : Prop :=
  ∃ v, e = .returned v ∧ w'.ownsRow w.heap.size 3 1 v L.length (L.map (Value.int .i64)) ∧ Below w.heap.size w w'

def InvRel (L : List Int) (B : Nat) (w0 : World) (k : Nat) (w : World) : Prop :=
  ∃ out : List Int, out.length = L.length ∧ Blk w B 3 (out.map (Value.int .i64)).toArray ∧ invFrom out k (L.drop k) = inverse L ∧ Below B w0 w

set_option maxRecDepth 100000 in
set_option maxHeartbeats 4000000 in
theorem rinv_any (oA : Option Addr) (oc : Nat) (L : List Int) (w : World) (h : Reads w w.heap.size 1 oA L.length (L.map (Value.int .i64))) (hs : L.length ≤ 65536) :
    Calls Try.prog 65 #[.slice oA L.length oc] w (IDone (inverse L) w) := by
  obtain ⟨i0, hi, hz0, hz1, hz2⟩ := info_parts infoInt
  have HC := Lib.hid (rright_any oA oc L w h hs)
  have HR := Lib.hid h
  clear h
  cases hr : rankOk L with
  | false =>
    have e : inverse L = [] := by unfold inverse; rw [hr]; rfl
    rw [e]
    rw [hr] at HC
    clear hr e
    go_enter Try.func65, Try.ntmps65
    go_wp2_with (go_at_call 76; refine (Hid.out HC).mono ?_; rintro e w1 ⟨rfl, hb1⟩; have HB1 := Lib.hid hb1; clear hb1)
    go_ret
    exact ⟨_, rfl, World.ownsRow_nil _ _ _ _, HB1.out⟩
  | true =>
    have HIN := Lib.hid (rankOk_in hr)
    rw [hr] at HC
    have e0 : inverse L = invFrom (List.replicate L.length 0) 0 L := by unfold inverse; rw [if_pos hr]
    have E0 := Lib.hid e0
    have hmk := fun w => run_make_rowN (P := Try.prog) 25 3 i0 _ Try.underlying25 hi hz0 .i64 .i64 L.length L.length (Nat.le_refl _) (by rw [hz2]; omega) (by omega) w
    rw [hz1] at hmk
    simp only [Nat.mul_one, Value.cells, madeCells_one] at hmk
    clear hr e0
    go_enter Try.func65, Try.ntmps65
    go_wp2_with (go_at_call 76; refine (Hid.out HC).mono ?_; rintro e w1 ⟨rfl, hb1⟩; have HB1 := Lib.hid hb1; clear hb1)
    have h0 : InvRel L w1.heap.size w1 0 (w1.alloc (.cells (List.replicate L.length (Value.int .i64 0)).toArray 3)) := by
      refine ⟨List.replicate L.length 0, by simp, ?_, E0.out.symm, (Below.refl _ _).alloc (Nat.le_refl _) _⟩
      rw [List.map_replicate]
      exact Blk.new w1 _ _
    have H0 := Lib.hid h0
    clear h0
    go_loopw [4, 5, 14] (fun _ _ i wr => ∃ k : Nat, k ≤ L.length ∧ i = .int .i64 k ∧ Hid (InvRel L w1.heap.size w1 k wr)) (fun _ _ i _ => L.length - (intOf i).toNat)
    case atStart => exact ⟨0, Nat.zero_le _, rfl, H0⟩
    case round =>
      obtain ⟨k, hk, rfl, HK⟩ := hrel
      obtain ⟨out, hol, hb, hik, hbw⟩ := HK.out
      by_cases hlt : k < L.length
      · obtain ⟨ab, ao, rfl, hab, _, hac⟩ := HR.out.lit (by omega) (by omega)
        obtain ⟨n, hn⟩ : ∃ n, L[k]? = some n := ⟨_, List.getElem?_eq_getElem hlt⟩
        have c0 : wr.cell? ⟨ab, ao + k, none⟩ = some (.int .i64 n) := (hbw.cell (p := ⟨ab, ao + k, none⟩) (Nat.lt_of_lt_of_le hab HB1.out.size)).trans ((HB1.out.cell (p := ⟨ab, ao + k, none⟩) hab).trans (hac k _ (by simp [hn])))
        have hdr : L.drop k = n :: L.drop (k + 1) := by
          rw [List.drop_eq_getElem_cons hlt]
          rw [List.getElem?_eq_getElem hlt] at hn
          injection hn with hn
          rw [hn]
        rw [hdr, invFrom] at hik
        obtain ⟨n0, n1⟩ := HIN.out n (List.mem_of_getElem? hn)
        obtain ⟨x, rfl⟩ : ∃ x : Nat, n = (x : Int) := ⟨n.toNat, by omega⟩
        rw [Int.toNat_natCast] at hik
        have hi0 : (0 : Int) ≤ (k : Int) := by omega
        have hi1 : (k : Int) < (L.length : Int) := by omega
        have f1 := hb.frozen x
        have c1 : wr.cell? ⟨w1.heap.size, x, none⟩ = some (.int .i64 (out.getD x 0)) := cellAt_ints hb (by omega)
        have HNX : Hid (InvRel L w1.heap.size w1 (k + 1) (wr.setCell ⟨w1.heap.size, x, none⟩ (.int .i64 (k : Int)))) := Lib.hid
          ⟨out.set x (k : Int), by simpa using hol, setAt_ints hb x k, hik, hbw.trans ((Below.refl w1.heap.size wr).setCell (p := ⟨w1.heap.size, x, none⟩) (Nat.le_refl _) _)⟩
        clear hik hn hdr hol hb hbw hac
        go_wp2
        go_roundw
        case rel => exact ⟨k + 1, by omega, by go_num, HNX⟩
        case measure => simp [intOf]; omega
      · rw [List.drop_eq_nil_of_le (by omega), invFrom] at hik
        have HI := Lib.hid hik
        have HOL := Lib.hid hol
        have HB := Lib.hid hb
        have HBW := Lib.hid hbw
        clear hik hol hb hbw
        go_wp2
        go_ret
        have hl := HOL.out
        have hbl := HB.out
        rw [HI.out] at hl hbl
        refine ⟨_, rfl, ?_, HB1.out.trans (HBW.out.mono HB1.out.size)⟩
        rw [← hl]
        exact own_of_blk hbl (by simp) HB1.out.size (by unfold maxLen; omega)
end Go.Proofs.Ytbaclbiedepjfaa
