/- The search for a witness on lists: what it finds, and that it finds it. Plain: no program. -/
import Derived.Test.YtbaclbiedepjfaaPlHeap
set_option autoImplicit false
namespace Go.Proofs.Ytbaclbiedepjfaa.Pl
/-- a net: of each node its arcs (to, weight), and whether it is gone -/
structure Net where
  out : List (List (Nat × Nat))
  gone : List Bool

def Net.arcs (n : Net) (v : Nat) : List (Nat × Nat) := n.out.getD v []
def Net.isGone (n : Net) (v : Nat) : Bool := n.gone.getD v false

/-- a search's state -/
structure St where
  far : List (Option Nat)
  steps : List Nat
  l : List Item
  p : List Int

/-- Least: whether it is less, and the row then -/
def lessen (far : List (Option Nat)) (u k : Nat) : Bool :=
  match far.getD u none with
  | some was => !decide (was ≤ k)
  | none => true

def relax1 (n : Net) (v d : Nat) (s : St) (a : Nat × Nat) : St :=
  if n.isGone a.1 = false ∧ lessen s.far a.1 (d + a.2) = true then
    { far := s.far.set a.1 (some (d + a.2)), steps := s.steps.set a.1 (s.steps.getD v 0 + 1), l := (put s.l s.p a.1 (d + a.2)).1, p := (put s.l s.p a.1 (d + a.2)).2.1 }
  else s

def relax (n : Net) (v d : Nat) (s : St) (l : List (Nat × Nat)) : St := l.foldl (relax1 n v d) s

def pop (s : St) (v : Nat) : St := { s with l := (drop0 s.l s.p v).1, p := (drop0 s.l s.p v).2 }

def srch (n : Net) (to below hops : Nat) : Nat → St → Option Nat
  | 0, _ => none
  | k + 1, s =>
    match s.l with
    | [] => none
    | (v, d) :: _ =>
      if below ≤ d then none
      else if v = to then some d
      else if hops ≤ s.steps.getD v 0 then srch n to below hops k (pop s v)
      else srch n to below hops k (relax n v d (pop s v) (n.arcs v))

def start (m src : Nat) : St :=
  { far := (List.replicate m none).set src (some 0), steps := List.replicate m 0, l := (put [] (List.replicate m (-1)) src 0).1, p := (put [] (List.replicate m (-1)) src 0).2.1 }

def search (n : Net) (src to below hops settles : Nat) : Option Nat :=
  if n.isGone src = true ∨ n.isGone to = true then none
  else srch n to below hops settles (start n.out.length src)

/-- a way in a net by nodes that are not gone (but, perhaps, the first one), and what it weighs -/
inductive Way (n : Net) (src : Nat) : Nat → Nat → Prop
  | here : Way n src src 0
  | on {v u d w : Nat} : Way n src v d → (u, w) ∈ n.arcs v → n.isGone u = false → Way n src u (d + w)

/-- a net that may be -/
structure NetOk (n : Net) : Prop where
  gl : n.gone.length = n.out.length
  to : ∀ v a, a ∈ n.arcs v → a.1 < n.out.length

/-- what holds all the time: nodes' distances are ways; who waits, waits by its distance -/
structure Inv (n : Net) (src : Nat) (s : St) : Prop where
  fl : s.far.length = n.out.length
  sl : s.steps.length = n.out.length
  wf : WF n.out.length s.l s.p
  way : ∀ v d, s.far.getD v none = some d → Way n src v d
  key : ∀ v k, (v, k) ∈ s.l → s.far.getD v none = some k

theorem getD_set {α : Type} (l : List α) (i j : Nat) (x y : α) (hi : i < l.length) : (l.set i x).getD j y = if i = j then x else l.getD j y := by
  simp only [List.getD, List.getElem?_set]
  by_cases h : i = j
  · subst h; simp [hi]
  · simp [h]

theorem lessen_true {far : List (Option Nat)} {u k : Nat} (h : lessen far u k = true) : ∀ d, far.getD u none = some d → k < d := by
  intro d hd
  unfold lessen at h
  rw [hd] at h
  simpa using h

theorem lessen_false {far : List (Option Nat)} {u k : Nat} (h : lessen far u k = false) : ∃ d, far.getD u none = some d ∧ d ≤ k := by
  unfold lessen at h
  cases hd : far.getD u none with
  | none => rw [hd] at h; cases h
  | some d => rw [hd] at h; exact ⟨d, rfl, by simpa using h⟩

/-- how a Put turns the heap where the key is less than what is there -/
theorem put_mem {m : Nat} {l : List Item} {p : List Int} {v key : Nat} (h : WF m l p) (hv : v < m) (hk : ∀ k, (v, k) ∈ l → key < k) :
    WF m (put l p v key).1 (put l p v key).2.1 ∧ (∀ x, x ∈ (put l p v key).1 ↔ x = (v, key) ∨ (x ∈ l ∧ x.1 ≠ v)) := by
  by_cases hm : ∃ k, (v, k) ∈ l
  · obtain ⟨k, hm⟩ := hm
    obtain ⟨l', p', r, e, hw, h1, h2⟩ := put_less m l p v key k h hm (hk k hm)
    rw [e]
    refine ⟨hw, fun x => ?_⟩
    show x ∈ l' ↔ _
    rw [h1.mem_iff, List.mem_cons]
    constructor
    · rintro (rfl | hx)
      · exact Or.inl rfl
      · refine Or.inr ⟨h2.mem_iff.2 (List.mem_cons_of_mem _ hx), ?_⟩
        intro ev
        -- two of one number in l' 
        have hx' : x ∈ l' := h1.mem_iff.2 (List.mem_cons_of_mem _ hx)
        have hv' : (v, key) ∈ l' := h1.mem_iff.2 (List.mem_cons_self)
        have := hw.inj hx' hv' ev
        subst this
        have h3 : (v, key) ∈ l := h2.mem_iff.2 (List.mem_cons_of_mem _ hx)
        have := hk key h3
        omega
    · rintro (rfl | ⟨hx, hne⟩)
      · exact Or.inl rfl
      · have := h2.mem_iff.1 hx
        rw [List.mem_cons] at this
        rcases this with rfl | hr
        · exact absurd rfl hne
        · exact Or.inr hr
  · have he : ∀ x ∈ l, x.1 ≠ v := by
      intro x hx ex
      exact hm ⟨x.2, by rw [← ex]; exact hx⟩
    obtain ⟨l', p', e, hw, h1⟩ := put_new m l p v key h hv he
    rw [e]
    refine ⟨hw, fun x => ?_⟩
    show x ∈ l' ↔ _
    rw [h1.mem_iff, List.mem_cons]
    constructor
    · rintro (rfl | hx)
      · exact Or.inl rfl
      · exact Or.inr ⟨hx, he x hx⟩
    · rintro (rfl | ⟨hx, _⟩)
      · exact Or.inl rfl
      · exact Or.inr hx

theorem Inv.relax1 {n : Net} {src v d : Nat} {s : St} (hn : NetOk n) (h : Inv n src s) (hv : Way n src v d) {a : Nat × Nat} (ha : a ∈ n.arcs v) :
    Inv n src (relax1 n v d s a) := by
  unfold Pl.relax1
  by_cases hc : n.isGone a.1 = false ∧ lessen s.far a.1 (d + a.2) = true
  · rw [if_pos hc]
    have hlt := hn.to v a ha
    have hp := put_mem (key := d + a.2) h.wf hlt (fun k hk => lessen_true hc.2 _ (h.key _ _ hk))
    refine ⟨by simpa using h.fl, by simpa using h.sl, hp.1, ?_, ?_⟩
    · intro u k hk
      simp only at hk
      rw [getD_set _ _ _ _ _ (by rw [h.fl]; exact hlt)] at hk
      by_cases hau : a.1 = u
      · rw [if_pos hau] at hk
        injection hk with hk
        subst hk
        subst hau
        exact Way.on hv ha hc.1
      · rw [if_neg hau] at hk
        exact h.way u k hk
    · intro u k hk
      simp only at hk ⊢
      rw [getD_set _ _ _ _ _ (by rw [h.fl]; exact hlt)]
      rcases (hp.2 _).1 hk with e | ⟨hk2, hne⟩
      · injection e with e1 e2
        subst e1; subst e2
        rw [if_pos rfl]
      · rw [if_neg (fun e => hne e.symm)]
        exact h.key u k hk2
  · rw [if_neg hc]
    exact h

theorem Inv.relax {n : Net} {src v d : Nat} (hn : NetOk n) (hv : Way n src v d) (l : List (Nat × Nat)) : ∀ (s : St), Inv n src s → (∀ a ∈ l, a ∈ n.arcs v) →
    Inv n src (relax n v d s l) := by
  induction l with
  | nil => intro s h _; exact h
  | cons a l ih =>
    intro s h hl
    exact ih _ (h.relax1 hn hv (hl a List.mem_cons_self)) (fun b hb => hl b (List.mem_cons_of_mem _ hb))

theorem Inv.pop {n : Net} {src v k : Nat} {r : List Item} {s : St} (h : Inv n src s) (hl : s.l = (v, k) :: r) :
    Inv n src (pop s v) ∧ (∀ x, x ∈ (pop s v).l ↔ x ∈ r) := by
  obtain ⟨h1, h2⟩ := drop0_spec n.out.length s.l s.p v k r h.wf hl
  refine ⟨⟨h.fl, h.sl, h1, h.way, ?_⟩, fun x => h2.mem_iff⟩
  intro u q hq
  exact h.key u q (by rw [hl]; exact List.mem_cons_of_mem _ (h2.mem_iff.1 hq))

theorem Inv.start {n : Net} {src : Nat} (hs : src < n.out.length) : Inv n src (start n.out.length src) ∧ (∀ x, x ∈ (start n.out.length src).l ↔ x = (src, 0)) := by
  have hp := put_mem (l := []) (key := 0) (v := src) (WF.start n.out.length) hs (fun k hk => by cases hk)
  refine ⟨⟨by simp [Pl.start], by simp [Pl.start], hp.1, ?_, ?_⟩, ?_⟩
  · intro v d hd
    simp only [Pl.start] at hd
    rw [getD_set _ _ _ _ _ (by simpa using hs)] at hd
    by_cases hv : src = v
    · rw [if_pos hv] at hd
      injection hd with hd
      subst hv; subst hd
      exact Way.here
    · rw [if_neg hv] at hd
      simp [List.getD, List.getElem?_replicate] at hd
      split at hd <;> simp at hd
  · intro v k hk
    rcases (hp.2 _).1 hk with e | ⟨hk2, _⟩
    · injection e with e1 e2
      subst e1; subst e2
      simp only [Pl.start]
      rw [getD_set _ _ _ _ _ (by simpa using hs), if_pos rfl]
    · cases hk2
  · intro x
    rw [show (Pl.start n.out.length src).l = (put [] (List.replicate n.out.length (-1)) src 0).1 from rfl, hp.2]
    simp

/-- what a search finds is a way, and below -/
theorem srch_sound {n : Net} {src to below hops : Nat} (hn : NetOk n) : ∀ (k : Nat) (s : St) (d : Nat), Inv n src s → srch n to below hops k s = some d → d < below ∧ Way n src to d := by
  intro k
  induction k with
  | zero => intro s d _ h; cases h
  | succ k ih =>
    intro s d hI h
    unfold srch at h
    cases hl : s.l with
    | nil => rw [hl] at h; cases h
    | cons x r =>
      obtain ⟨v, e⟩ := x
      rw [hl] at h
      simp only at h
      have hw : Way n src v e := hI.way v e (hI.key v e (by rw [hl]; exact List.mem_cons_self))
      by_cases h1 : below ≤ e
      · rw [if_pos h1] at h; cases h
      · rw [if_neg h1] at h
        by_cases h2 : v = to
        · rw [if_pos h2] at h
          injection h with h
          subst h; subst h2
          exact ⟨by omega, hw⟩
        · rw [if_neg h2] at h
          by_cases h3 : hops ≤ s.steps.getD v 0
          · rw [if_pos h3] at h
            exact ih _ _ (hI.pop hl).1 h
          · rw [if_neg h3] at h
            exact ih _ _ (Inv.relax hn hw _ _ (hI.pop hl).1 (fun a ha => ha)) h

theorem search_sound {n : Net} {src to below hops settles d : Nat} (hn : NetOk n) (hs : src < n.out.length) (h : search n src to below hops settles = some d) : d < below ∧ Way n src to d := by
  unfold search at h
  split at h
  · cases h
  · exact srch_sound hn _ _ _ (Inv.start hs).1 h

/-- is a node settled? -/
def settled (s : St) (v : Nat) : Bool := (s.far.getD v none).isSome && !(s.l.any fun x => x.1 == v)

theorem settled_iff {s : St} {v : Nat} : settled s v = true ↔ (∃ d, s.far.getD v none = some d) ∧ ∀ x ∈ s.l, x.1 ≠ v := by
  unfold settled
  rw [Bool.and_eq_true, Option.isSome_iff_exists, Bool.not_eq_true', List.any_eq_false]
  simp

/-- Dijkstra's own: m: as far as all that are settled; v: the one that is being gone from (its arcs so far: done) -/
structure Dij (n : Net) (src : Nat) (s : St) (m c : Nat) (v : Nat) (done : List (Nat × Nat)) : Prop where
  inv : Inv n src s
  zero : s.far.getD src none = some 0
  heap : ∀ x ∈ s.l, m ≤ x.2
  sle : ∀ u d, settled s u = true → s.far.getD u none = some d → d ≤ m
  cl : ∀ u d, u ≠ v → settled s u = true → s.far.getD u none = some d → ∀ a ∈ n.arcs u, n.isGone a.1 = false → ∃ k, s.far.getD a.1 none = some k ∧ k ≤ d + a.2
  cv : ∀ d, settled s v = true → s.far.getD v none = some d → ∀ a ∈ done, n.isGone a.1 = false → ∃ k, s.far.getD a.1 none = some k ∧ k ≤ d + a.2
  st : ∀ u, s.steps.getD u 0 ≤ c

theorem Dij.relax1 {n : Net} {src m c v : Nat} {done : List (Nat × Nat)} {s : St} (hn : NetOk n) (h : Dij n src s m c v done) (hv : settled s v = true) (hd : s.far.getD v none = some m)
    (hst : s.steps.getD v 0 < c) {a : Nat × Nat} (ha : a ∈ n.arcs v) (hw : 0 < a.2 ∨ a.1 ≠ v) :
    Dij n src (relax1 n v m s a) m c v (done ++ [a]) ∧ (∀ u, settled (Pl.relax1 n v m s a) u = settled s u) ∧ (Pl.relax1 n v m s a).far.getD v none = some m ∧ (Pl.relax1 n v m s a).steps.getD v 0 < c := by
  have hlt := hn.to v a ha
  have hI := h.inv.relax1 hn (h.inv.way v m hd) ha
  by_cases hc : n.isGone a.1 = false ∧ lessen s.far a.1 (m + a.2) = true
  · have e : Pl.relax1 n v m s a = { far := s.far.set a.1 (some (m + a.2)), steps := s.steps.set a.1 (s.steps.getD v 0 + 1), l := (put s.l s.p a.1 (m + a.2)).1, p := (put s.l s.p a.1 (m + a.2)).2.1 } := by
      unfold Pl.relax1; rw [if_pos hc]
    rw [e] at hI ⊢
    have hp := put_mem (key := m + a.2) h.inv.wf hlt (fun k hk => lessen_true hc.2 _ (h.inv.key _ _ hk))
    have hns : settled s a.1 = false := by
      cases hh : settled s a.1 with
      | false => rfl
      | true =>
        obtain ⟨⟨d, hd'⟩, _⟩ := settled_iff.1 hh
        have h1 := h.sle _ _ hh hd'
        have h2 := lessen_true hc.2 _ hd'
        omega
    have hav : a.1 ≠ v := by
      intro e
      rw [e, hv] at hns
      cases hns
    have hfar : ∀ u, (s.far.set a.1 (some (m + a.2))).getD u none = if a.1 = u then some (m + a.2) else s.far.getD u none := by
      intro u; exact getD_set _ _ _ _ _ (by rw [h.inv.fl]; exact hlt)
    have hset : ∀ u, settled { far := s.far.set a.1 (some (m + a.2)), steps := s.steps.set a.1 (s.steps.getD v 0 + 1), l := (put s.l s.p a.1 (m + a.2)).1, p := (put s.l s.p a.1 (m + a.2)).2.1 } u = settled s u := by
      intro u
      by_cases hau : a.1 = u
      · subst hau
        rw [hns]
        cases hh : settled { far := s.far.set a.1 (some (m + a.2)), steps := s.steps.set a.1 (s.steps.getD v 0 + 1), l := (put s.l s.p a.1 (m + a.2)).1, p := (put s.l s.p a.1 (m + a.2)).2.1 } a.1 with
        | false => rfl
        | true =>
          have := (settled_iff.1 hh).2 (a.1, m + a.2) ((hp.2 _).2 (Or.inl rfl))
          exact absurd rfl this
      · rw [Bool.eq_iff_iff, settled_iff, settled_iff]
        simp only
        rw [hfar u, if_neg hau]
        constructor
        · rintro ⟨h1, h2⟩
          exact ⟨h1, fun x hx hxu => h2 x ((hp.2 x).2 (Or.inr ⟨hx, fun e => hau (e.symm.trans hxu)⟩)) hxu⟩
        · rintro ⟨h1, h2⟩
          refine ⟨h1, fun x hx hxu => ?_⟩
          rcases (hp.2 x).1 hx with rfl | ⟨hx2, _⟩
          · exact hau hxu
          · exact h2 x hx2 hxu
    have hmono : ∀ u k, s.far.getD u none = some k → ∃ k', (s.far.set a.1 (some (m + a.2))).getD u none = some k' ∧ k' ≤ k := by
      intro u k hk
      rw [hfar u]
      by_cases hau : a.1 = u
      · rw [if_pos hau]
        rw [← hau] at hk
        exact ⟨_, rfl, Nat.le_of_lt (lessen_true hc.2 _ hk)⟩
      · rw [if_neg hau]
        exact ⟨k, hk, Nat.le_refl _⟩
    have hsrc : a.1 ≠ src := by
      intro e
      have := lessen_true hc.2 0 (by rw [e]; exact h.zero)
      omega
    refine ⟨⟨hI, ?_, ?_, ?_, ?_, ?_, ?_⟩, hset, ?_, ?_⟩
    · show (s.far.set a.1 (some (m + a.2))).getD src none = some 0
      rw [hfar, if_neg hsrc]; exact h.zero
    · intro x hx
      rcases (hp.2 x).1 hx with rfl | ⟨hx2, _⟩
      · show m ≤ m + a.2; omega
      · exact h.heap x hx2
    · intro u d hu hd'
      rw [hset] at hu
      rw [show (_ : St).far = s.far.set a.1 (some (m + a.2)) from rfl, hfar] at hd'
      by_cases hau : a.1 = u
      · rw [← hau, hns] at hu; cases hu
      · rw [if_neg hau] at hd'
        exact h.sle u d hu hd'
    · intro u d huv hu hd' b hb hg
      rw [hset] at hu
      rw [show (_ : St).far = s.far.set a.1 (some (m + a.2)) from rfl, hfar] at hd'
      by_cases hau : a.1 = u
      · rw [← hau, hns] at hu; cases hu
      · rw [if_neg hau] at hd'
        obtain ⟨k, hk, hkle⟩ := h.cl u d huv hu hd' b hb hg
        obtain ⟨k', hk', hle⟩ := hmono _ _ hk
        exact ⟨k', hk', by omega⟩
    · intro d hu hd' b hb hg
      rw [show (_ : St).far = s.far.set a.1 (some (m + a.2)) from rfl, hfar, if_neg hav] at hd'
      rcases List.mem_append.1 hb with hb | hb
      · obtain ⟨k, hk, hkle⟩ := h.cv d hv hd' b hb hg
        obtain ⟨k', hk', hle⟩ := hmono _ _ hk
        exact ⟨k', hk', by omega⟩
      · rw [List.mem_singleton] at hb
        subst hb
        refine ⟨m + b.2, ?_, ?_⟩
        · show (s.far.set b.1 (some (m + b.2))).getD b.1 none = _
          rw [hfar, if_pos rfl]
        · rw [hd] at hd'; injection hd' with hd'; omega
    · intro u
      show (s.steps.set a.1 (s.steps.getD v 0 + 1)).getD u 0 ≤ c
      rw [getD_set _ _ _ _ _ (by rw [h.inv.sl]; exact hlt)]
      split
      · omega
      · exact h.st u
    · show (s.far.set a.1 (some (m + a.2))).getD v none = some m
      rw [hfar, if_neg hav]; exact hd
    · show (s.steps.set a.1 (s.steps.getD v 0 + 1)).getD v 0 < c
      rw [getD_set _ _ _ _ _ (by rw [h.inv.sl]; exact hlt), if_neg hav]; exact hst
  · have e : Pl.relax1 n v m s a = s := by unfold Pl.relax1; rw [if_neg hc]
    rw [e]
    refine ⟨⟨h.inv, h.zero, h.heap, h.sle, h.cl, ?_, h.st⟩, fun _ => rfl, hd, hst⟩
    intro d hu hd' b hb hg
    rcases List.mem_append.1 hb with hb | hb
    · exact h.cv d hu hd' b hb hg
    · rw [List.mem_singleton] at hb
      subst hb
      have hl : lessen s.far b.1 (m + b.2) = false := by
        cases hh : lessen s.far b.1 (m + b.2) with
        | false => rfl
        | true => exact absurd ⟨hg, hh⟩ hc
      obtain ⟨k, hk, hkle⟩ := lessen_false hl
      rw [hd] at hd'; injection hd' with hd'
      exact ⟨k, hk, by omega⟩

theorem Dij.relax {n : Net} {src m c v : Nat} (hn : NetOk n) (l : List (Nat × Nat)) : ∀ (done : List (Nat × Nat)) (s : St), Dij n src s m c v done → settled s v = true → s.far.getD v none = some m →
    s.steps.getD v 0 < c → (∀ a ∈ l, a ∈ n.arcs v) → (∀ a ∈ l, 0 < a.2) →
    Dij n src (relax n v m s l) m c v (done ++ l) ∧ (∀ u, settled (Pl.relax n v m s l) u = settled s u) := by
  induction l with
  | nil => intro done s h _ _ _ _ _; rw [List.append_nil]; exact ⟨h, fun _ => rfl⟩
  | cons a l ih =>
    intro done s h hv hd hst hl hw
    obtain ⟨h1, h2, h3, h4⟩ := h.relax1 hn hv hd hst (hl a List.mem_cons_self) (Or.inl (hw a List.mem_cons_self))
    obtain ⟨h5, h6⟩ := ih (done ++ [a]) _ h1 (by rw [h2]; exact hv) h3 h4 (fun b hb => hl b (List.mem_cons_of_mem _ hb)) (fun b hb => hw b (List.mem_cons_of_mem _ hb))
    rw [List.append_assoc] at h5
    exact ⟨h5, fun u => (h6 u).trans (h2 u)⟩

theorem countP_one {α : Type} [DecidableEq α] (l : List α) (p q : α → Bool) (v : α) (hnd : l.Nodup) (hv : v ∈ l) (hp : p v = false) (hq : q v = true) (h : ∀ u, u ≠ v → q u = p u) :
    l.countP q = l.countP p + 1 := by
  induction l with
  | nil => cases hv
  | cons a l ih =>
    rw [List.countP_cons, List.countP_cons]
    rw [List.nodup_cons] at hnd
    by_cases ha : a = v
    · subst ha
      have : l.countP q = l.countP p := by
        apply List.countP_congr
        intro x hx
        rw [h x (fun e => hnd.1 (e ▸ hx))]
      rw [this, hp, hq]; simp
    · rw [h a ha, ih hnd.2 (by rcases List.mem_cons.1 hv with e | e; exact absurd e.symm ha; exact e)]
      omega

theorem srch_complete {n : Net} {src to below hops : Nat} (hn : NetOk n) (hpos : ∀ v a, a ∈ n.arcs v → 0 < a.2) (hh : n.out.length < hops) :
    ∀ (k : Nat) (s : St) (m c : Nat), Dij n src s m c n.out.length [] → c = (List.range n.out.length).countP (settled s) → n.out.length < k + c → settled s to = false →
      srch n to below hops k s = none → ∀ w, Way n src to w → below ≤ w := by
  intro k
  induction k with
  | zero =>
    intro s m c _ hc hk _ _
    have := List.countP_le_length (p := settled s) (l := List.range n.out.length)
    rw [List.length_range] at this
    omega
  | succ k ih =>
    intro s m c hD hc hk hto hs
    -- when all that wait are too far
    have fin : (∀ x ∈ s.l, below ≤ x.2) → ∀ u w, Way n src u w → w < below → settled s u = true ∧ ∃ d, s.far.getD u none = some d ∧ d ≤ w := by
      intro hall u w hw
      induction hw with
      | here =>
        intro hb
        refine ⟨settled_iff.2 ⟨⟨0, hD.zero⟩, ?_⟩, 0, hD.zero, Nat.le_refl _⟩
        rintro ⟨x, q⟩ hx rfl
        have h1 := hD.inv.key _ _ hx
        have h0 : s.far.getD x none = some 0 := hD.zero
        rw [h0] at h1
        injection h1 with h1
        have := hall _ hx
        simp only at this
        omega
      | @on v u d w hw ha hg ihw =>
        intro hb
        obtain ⟨hsv, dv, hdv, hle⟩ := ihw (by omega)
        have hne : v ≠ n.out.length := by
          intro e
          subst e
          simp [List.getD, hD.inv.fl] at hdv
        obtain ⟨q, hq, hqle⟩ := hD.cl v dv hne hsv hdv _ ha hg
        refine ⟨settled_iff.2 ⟨⟨q, hq⟩, ?_⟩, q, hq, by simp only at hqle; omega⟩
        rintro ⟨x, z⟩ hx rfl
        have h1 := hD.inv.key _ _ hx
        simp only at h1 hq
        rw [hq] at h1
        injection h1 with h1
        have := hall _ hx
        simp only at this hqle
        omega
    unfold srch at hs
    cases hl : s.l with
    | nil =>
      intro w hw
      apply Classical.byContradiction
      intro hb
      have := (fin (by rw [hl]; intro x hx; cases hx) to w hw (by omega)).1
      rw [hto] at this; cases this
    | cons x r =>
      obtain ⟨v, d⟩ := x
      rw [hl] at hs
      simp only at hs
      have hvl : (v, d) ∈ s.l := by rw [hl]; exact List.mem_cons_self
      have hfar := hD.inv.key v d hvl
      have hleast : ∀ x ∈ s.l, d ≤ x.2 := by
        intro x hx
        obtain ⟨j, hj⟩ := List.getElem?_of_mem hx
        have := hD.inv.wf.least j x (v, d) hj (by rw [hl]; rfl)
        unfold le at this
        simp only at this
        omega
      by_cases h1 : below ≤ d
      · intro w hw
        apply Classical.byContradiction
        intro hb
        have := (fin (fun x hx => Nat.le_trans h1 (hleast x hx)) to w hw (by omega)).1
        rw [hto] at this; cases this
      · rw [if_neg h1] at hs
        by_cases h2 : v = to
        · rw [if_pos h2] at hs; cases hs
        · rw [if_neg h2] at hs
          have hcle := List.countP_le_length (p := settled s) (l := List.range n.out.length)
          rw [List.length_range] at hcle
          have h3 : ¬ hops ≤ s.steps.getD v 0 := by have := hD.st v; omega
          rw [if_neg h3] at hs
          obtain ⟨hI, hmem⟩ := hD.inv.pop hl
          have hnd : ∀ q, (v, q) ∉ r := by
            intro q hq
            have hq2 : (v, q) ∈ s.l := by rw [hl]; exact List.mem_cons_of_mem _ hq
            have e := hD.inv.wf.inj hq2 hvl rfl
            obtain ⟨j, hj⟩ := List.getElem?_of_mem hq
            have := hD.inv.wf.nodup (i := j + 1) (j := 0) (x := (v, q)) (y := (v, d)) (by rw [hl]; exact hj) (by rw [hl]; rfl) rfl
            omega
          have hns : settled s v = false := by
            cases e : settled s v with
            | false => rfl
            | true => exact absurd rfl ((settled_iff.1 e).2 _ hvl)
          have hsv : settled (Pl.pop s v) v = true := by
            refine settled_iff.2 ⟨⟨d, hfar⟩, ?_⟩
            rintro ⟨x, q⟩ hx rfl
            exact hnd q ((hmem _).1 hx)
          have hso : ∀ u, u ≠ v → settled (Pl.pop s v) u = settled s u := by
            intro u hu
            rw [Bool.eq_iff_iff, settled_iff, settled_iff]
            constructor
            · rintro ⟨q1, q2⟩
              refine ⟨q1, fun x hx => ?_⟩
              rw [hl] at hx
              rcases List.mem_cons.1 hx with rfl | hx
              · exact fun e => hu e.symm
              · exact q2 x ((hmem x).2 hx)
            · rintro ⟨q1, q2⟩
              exact ⟨q1, fun x hx => q2 x (by rw [hl]; exact List.mem_cons_of_mem _ ((hmem x).1 hx))⟩
          have hvn : v < n.out.length := hD.inv.wf.lt hvl
          have hD2 : Dij n src (Pl.pop s v) d (c + 1) v [] := by
            refine ⟨hI, hD.zero, ?_, ?_, ?_, ?_, ?_⟩
            · intro x hx
              exact hleast x (by rw [hl]; exact List.mem_cons_of_mem _ ((hmem x).1 hx))
            · intro u q hu hq
              by_cases huv : u = v
              · subst huv
                have : s.far.getD u none = some q := hq
                rw [hfar] at this; injection this with this; omega
              · rw [hso u huv] at hu
                have h5 := hD.sle u q hu hq
                have h6 := hD.heap _ hvl
                simp only at h6
                omega
            · intro u q huv hu hq a ha hg
              rw [hso u huv] at hu
              have hne : u ≠ n.out.length := by
                intro e
                subst e
                have hq' : s.far.getD n.out.length none = some q := hq
                simp [List.getD, hD.inv.fl] at hq'
              exact hD.cl u q hne hu hq a ha hg
            · intro _ _ _ a ha; cases ha
            · intro u
              have := hD.st u
              show s.steps.getD u 0 ≤ c + 1
              omega
          obtain ⟨hD3, hset⟩ := Dij.relax hn (n.arcs v) [] (Pl.pop s v) hD2 hsv hfar (by have := hD.st v; show s.steps.getD v 0 < c + 1; omega) (fun a ha => ha) (fun a ha => hpos v a ha)
          have hD4 : Dij n src (Pl.relax n v d (Pl.pop s v) (n.arcs v)) d (c + 1) n.out.length [] := by
            refine ⟨hD3.inv, hD3.zero, hD3.heap, hD3.sle, ?_, ?_, hD3.st⟩
            · intro u q _ hu hq a ha hg
              by_cases huv : u = v
              · subst huv
                exact hD3.cv q hu hq a (by simpa using ha) hg
              · exact hD3.cl u q huv hu hq a ha hg
            · intro _ _ _ a ha; cases ha
          have hcount : (List.range n.out.length).countP (settled (Pl.relax n v d (Pl.pop s v) (n.arcs v))) = c + 1 := by
            rw [hc]
            exact countP_one _ _ _ v List.nodup_range (List.mem_range.2 hvn) hns (by rw [hset]; exact hsv) (fun u hu => by rw [hset, hso u hu])
          exact ih _ d (c + 1) hD4 hcount.symm (by omega) (by rw [hset, hso to (fun e => h2 e.symm)]; exact hto) hs

theorem search_complete {n : Net} {src to below hops settles : Nat} (hn : NetOk n) (hpos : ∀ v a, a ∈ n.arcs v → 0 < a.2) (hh : n.out.length < hops) (hs : n.out.length < settles)
    (hsrc : src < n.out.length) (g1 : n.isGone src = false) (g2 : n.isGone to = false) (h : search n src to below hops settles = none) : ∀ w, Way n src to w → below ≤ w := by
  unfold search at h
  rw [if_neg (by rw [g1, g2]; simp)] at h
  obtain ⟨hI, hm⟩ := Inv.start hsrc
  have hns : ∀ u, settled (start n.out.length src) u = false := by
    intro u
    cases e : settled (start n.out.length src) u with
    | false => rfl
    | true =>
      obtain ⟨⟨d, hd⟩, h2⟩ := settled_iff.1 e
      have hu : u = src := by
        have hd' : ((List.replicate n.out.length none).set src (some 0)).getD u none = some d := hd
        rw [getD_set _ _ _ _ _ (by simpa using hsrc)] at hd'
        by_cases hsu : src = u
        · exact hsu.symm
        · rw [if_neg hsu] at hd'
          simp [List.getD, List.getElem?_replicate] at hd'
          split at hd' <;> simp at hd'
      exact absurd hu.symm (h2 (src, 0) ((hm _).2 rfl))
  refine srch_complete hn hpos hh settles (start n.out.length src) 0 0 ?_ ?_ (by omega) (hns to) h
  · refine ⟨hI, ?_, fun _ _ => Nat.zero_le _, ?_, ?_, ?_, ?_⟩
    · show ((List.replicate n.out.length none).set src (some 0)).getD src none = some 0
      rw [getD_set _ _ _ _ _ (by simpa using hsrc), if_pos rfl]
    · intro u d hu; rw [hns] at hu; cases hu
    · intro u d _ hu; rw [hns] at hu; cases hu
    · intro d hu; rw [hns] at hu; cases hu
    · intro u
      show (List.replicate n.out.length 0).getD u 0 ≤ 0
      simp [List.getD, List.getElem?_replicate]
      split <;> simp
  · symm
    rw [List.countP_eq_zero]
    intro u _
    simp [hns]
end Go.Proofs.Ytbaclbiedepjfaa.Pl
