/- A heap on lists, and what it answers. Plain: no program. -/
set_option autoImplicit false
namespace Go.Proofs.Ytbaclbiedepjfaa.Pl
abbrev Item := Nat × Nat
def less (a b : Item) : Bool := decide (a.2 < b.2) || (decide (a.2 = b.2) && decide (a.1 < b.1))
def le (a b : Item) : Prop := a.2 < b.2 ∨ (a.2 = b.2 ∧ a.1 ≤ b.1)
theorem le_of_less {a b : Item} (h : less a b = true) : le a b := by
  unfold less at h; unfold le; simp at h; omega
theorem le_of_not_less {a b : Item} (h : less a b = false) : le b a := by
  unfold less at h; unfold le; simp at h; omega
theorem le_trans {a b c : Item} (h : le a b) (k : le b c) : le a c := by unfold le at *; omega
theorem le_refl (a : Item) : le a a := by unfold le; omega

def gt (l : List Item) (i : Nat) : Item := l.getD i (0, 0)

def rise (l : List Item) (p : List Int) (i : Nat) (x : Item) : List Item × List Int :=
  if _h : 0 < i then
    if less x (gt l ((i - 1) / 2)) then rise (l.set i (gt l ((i - 1) / 2))) (p.set (gt l ((i - 1) / 2)).1 i) ((i - 1) / 2) x
    else (l.set i x, p.set x.1 i)
  else (l.set i x, p.set x.1 i)
termination_by i
decreasing_by omega

/-- the lesser of the two below a place -/
def low (l : List Item) (i : Nat) : Nat :=
  if 2 * i + 1 + 1 < l.length ∧ less (gt l (2 * i + 1 + 1)) (gt l (2 * i + 1)) = true then 2 * i + 1 + 1 else 2 * i + 1
theorem low_or (l : List Item) (i : Nat) : low l i = 2 * i + 1 ∨ low l i = 2 * i + 2 := by unfold low; split <;> simp

def sink (l : List Item) (p : List Int) (i : Nat) (x : Item) : List Item × List Int :=
  if _h : low l i < l.length ∧ less (gt l (low l i)) x = true then
    sink (l.set i (gt l (low l i))) (p.set (gt l (low l i)).1 i) (low l i) x
  else (l.set i x, p.set x.1 i)
termination_by l.length - i
decreasing_by
  have := low_or l i
  simp only [List.length_set]; omega

structure WF (n : Nat) (l : List Item) (p : List Int) : Prop where
  len : p.length = n
  fwd : ∀ (i : Nat) (x : Item), l[i]? = some x → p[x.1]? = some (i : Int)
  bwd : ∀ (v i : Nat), p[v]? = some (i : Int) → ∃ k, l[i]? = some (v, k)
  rng : ∀ (v : Nat) (z : Int), p[v]? = some z → -1 ≤ z
  ord : ∀ (j : Nat) (x y : Item), 0 < j → l[j]? = some x → l[(j - 1) / 2]? = some y → le y x

/-- positions, with a hole at i for x -/
structure Hole (n : Nat) (l : List Item) (p : List Int) (i : Nat) (x : Item) : Prop where
  len : p.length = n
  lt : i < l.length
  xn : x.1 < n
  fwd : ∀ (j : Nat) (y : Item), j ≠ i → l[j]? = some y → y.1 ≠ x.1 ∧ p[y.1]? = some (j : Int)
  bwd : ∀ (v j : Nat), v ≠ x.1 → p[v]? = some (j : Int) → j ≠ i ∧ ∃ k, l[j]? = some (v, k)
  rng : ∀ (v : Nat) (z : Int), v ≠ x.1 → p[v]? = some z → -1 ≤ z

theorem gt_of {l : List Item} {i : Nat} (h : i < l.length) : l[i]? = some (gt l i) := by
  unfold gt; simp [List.getD, h]

theorem gt_set_same (l : List Item) (i : Nat) (x : Item) (h : i < l.length) : gt (l.set i x) i = x := by
  unfold gt; simp [List.getD, h]
theorem gt_set_other (l : List Item) (i j : Nat) (x : Item) (h : i ≠ j) : gt (l.set i x) j = gt l j := by
  unfold gt; simp [List.getD, h]

theorem Hole.move {n l p i x} (h : Hole n l p i x) {j : Nat} (hj : j < l.length) (hne : j ≠ i) :
    Hole n (l.set i (gt l j)) (p.set (gt l j).1 i) j x := by
  have hg := gt_of hj
  have hf := h.fwd j _ hne hg
  have hpl : (gt l j).1 < p.length := by
    have := hf.2
    exact (List.getElem?_eq_some_iff.1 this).1
  refine ⟨by simpa using h.len, by simpa using hj, h.xn, ?_, ?_, ?_⟩
  · intro k y hk hy
    rw [List.getElem?_set] at hy
    by_cases hik : i = k
    · subst hik
      rw [if_pos rfl, if_pos h.lt] at hy
      injection hy with hy
      subst hy
      refine ⟨hf.1, ?_⟩
      rw [List.getElem?_set, if_pos rfl, if_pos hpl]
    · rw [if_neg hik] at hy
      have hk2 := h.fwd k y (fun e => hik e.symm) hy
      refine ⟨hk2.1, ?_⟩
      rw [List.getElem?_set, if_neg]
      · exact hk2.2
      · intro e
        rw [← e] at hk2
        have := hf.2.symm.trans hk2.2
        injection this with this
        exact hk (by omega)
  · intro v k hv hk
    rw [List.getElem?_set] at hk
    by_cases hvj : (gt l j).1 = v
    · rw [if_pos hvj, if_pos hpl] at hk
      injection hk with hk
      have hki : k = i := by omega
      subst hki
      refine ⟨fun e => hne e.symm, (gt l j).2, ?_⟩
      rw [List.getElem?_set, if_pos rfl, if_pos h.lt, ← hvj]
    · rw [if_neg hvj] at hk
      obtain ⟨hki, q, hq⟩ := h.bwd v k hv hk
      refine ⟨?_, q, ?_⟩
      · intro e; subst e
        rw [hg] at hq
        injection hq with hq
        rw [hq] at hvj
        exact hvj rfl
      · rw [List.getElem?_set, if_neg (fun e => hki e.symm)]
        exact hq
  · intro v z hv hz
    rw [List.getElem?_set] at hz
    by_cases hvj : (gt l j).1 = v
    · rw [if_pos hvj, if_pos hpl] at hz
      injection hz with hz
      omega
    · rw [if_neg hvj] at hz
      exact h.rng v z hv hz

theorem Hole.fill {n l p i x} (h : Hole n l p i x)
    (ho : ∀ j a b, 0 < j → (l.set i x)[j]? = some a → (l.set i x)[(j - 1) / 2]? = some b → le b a) :
    WF n (l.set i x) (p.set x.1 i) := by
  have hxp : x.1 < p.length := by have := h.len; have := h.xn; omega
  refine ⟨by simpa using h.len, ?_, ?_, ?_, ho⟩
  · intro j y hy
    rw [List.getElem?_set] at hy
    by_cases hij : i = j
    · subst hij
      rw [if_pos rfl, if_pos h.lt] at hy
      injection hy with hy
      subst hy
      rw [List.getElem?_set, if_pos rfl, if_pos hxp]
    · rw [if_neg hij] at hy
      have := h.fwd j y (fun e => hij e.symm) hy
      rw [List.getElem?_set, if_neg (fun e => this.1 e.symm)]
      exact this.2
  · intro v j hj
    rw [List.getElem?_set] at hj
    by_cases hv : x.1 = v
    · rw [if_pos hv, if_pos hxp] at hj
      injection hj with hj
      have : j = i := by omega
      subst this
      exact ⟨x.2, by rw [List.getElem?_set, if_pos rfl, if_pos h.lt, ← hv]⟩
    · rw [if_neg hv] at hj
      obtain ⟨hji, k, hk⟩ := h.bwd v j (fun e => hv e.symm) hj
      exact ⟨k, by rw [List.getElem?_set, if_neg (fun e => hji e.symm)]; exact hk⟩
  · intro v z hz
    rw [List.getElem?_set] at hz
    by_cases hv : x.1 = v
    · rw [if_pos hv, if_pos hxp] at hz
      injection hz with hz
      omega
    · rw [if_neg hv] at hz
      exact h.rng v z (fun e => hv e.symm) hz

theorem set_swap (l : List Item) (i j : Nat) (x : Item) (hi : i < l.length) (hj : j < l.length) (hne : j ≠ i) :
    ((l.set i (gt l j)).set j x).Perm (l.set i x) := by
  have h := List.set_set_perm (as := l.set i x) (i := i) (j := j) (by simpa) (by simpa)
  have e1 : (l.set i x)[j]'(by simpa) = gt l j := by
    rw [List.getElem_set, if_neg (fun e => hne e.symm)]
    unfold gt; simp [List.getD, hj]
  have e2 : (l.set i x)[i]'(by simpa) = x := by simp
  rw [e1, e2, List.set_set] at h
  exact h

/-- the order of a heap, but at place i, at which x is to be laid, upward -/
structure UpOrd (l : List Item) (i : Nat) (x : Item) : Prop where
  off : ∀ (j : Nat) (a b : Item), 0 < j → j ≠ i → (j - 1) / 2 ≠ i → l[j]? = some a → l[(j - 1) / 2]? = some b → le b a
  child : ∀ (j : Nat) (a : Item), 0 < j → (j - 1) / 2 = i → l[j]? = some a → le x a
  over : ∀ (j : Nat) (a b : Item), 0 < j → 0 < i → (j - 1) / 2 = i → l[j]? = some a → l[(i - 1) / 2]? = some b → le b a

theorem UpOrd.done {l i x} (h : UpOrd l i x) (hi : i < l.length) (hp : ∀ b, 0 < i → l[(i - 1) / 2]? = some b → le b x) :
    ∀ j a b, 0 < j → (l.set i x)[j]? = some a → (l.set i x)[(j - 1) / 2]? = some b → le b a := by
  intro j a b hj ha hb
  rw [List.getElem?_set] at ha hb
  by_cases hji : i = j
  · subst hji
    rw [if_pos rfl, if_pos hi] at ha
    rw [if_neg (by omega)] at hb
    injection ha with ha
    subst ha
    exact hp b hj hb
  · rw [if_neg hji] at ha
    by_cases hpi : i = (j - 1) / 2
    · rw [if_pos hpi, if_pos hi] at hb
      injection hb with hb
      subst hb
      exact h.child j a hj hpi.symm ha
    · rw [if_neg hpi] at hb
      exact h.off j a b hj (fun e => hji e.symm) (fun e => hpi e.symm) ha hb

theorem rise_spec (n : Nat) (x : Item) (i : Nat) : ∀ (l : List Item) (p : List Int), Hole n l p i x → UpOrd l i x →
    WF n (rise l p i x).1 (rise l p i x).2 ∧ (rise l p i x).1.Perm (l.set i x) := by
  induction i using Nat.strongRecOn with
  | ind i ih =>
    intro l p hh ho
    have hi := hh.lt
    by_cases h0 : 0 < i
    · have hu : (i - 1) / 2 < l.length := by omega
      have hg := gt_of hu
      cases hl : less x (gt l ((i - 1) / 2)) with
      | true =>
        have e : rise l p i x = rise (l.set i (gt l ((i - 1) / 2))) (p.set (gt l ((i - 1) / 2)).1 i) ((i - 1) / 2) x := by
          rw [rise, dif_pos h0, if_pos hl]
        rw [e]
        have hlt : (i - 1) / 2 < i := by omega
        have hm := hh.move hu (by omega)
        have hord : UpOrd (l.set i (gt l ((i - 1) / 2))) ((i - 1) / 2) x := by
          refine ⟨?_, ?_, ?_⟩
          · intro j a b hj hjne hpne ha hb
            rw [List.getElem?_set] at ha hb
            have hji : i ≠ j := fun e => hpne (by rw [← e])
            rw [if_neg hji] at ha
            by_cases hpi : i = (j - 1) / 2
            · rw [if_pos hpi, if_pos hi] at hb
              injection hb with hb
              subst hb
              exact ho.over j a _ hj h0 hpi.symm ha hg
            · rw [if_neg hpi] at hb
              exact ho.off j a b hj (fun e => hji e.symm) (fun e => hpi e.symm) ha hb
          · intro j a hj hp ha
            rw [List.getElem?_set] at ha
            by_cases hji : i = j
            · rw [if_pos hji, if_pos hi] at ha
              injection ha with ha
              subst ha
              exact le_of_less hl
            · rw [if_neg hji] at ha
              exact le_trans (le_of_less hl) (ho.off j a _ hj (fun e => hji e.symm) (by omega) ha (by rw [hp]; exact hg))
          · intro j a b hj hu0 hp ha hb
            rw [List.getElem?_set] at ha hb
            rw [if_neg (by omega)] at hb
            have hub := ho.off ((i - 1) / 2) _ b hu0 (by omega) (by omega) hg hb
            by_cases hji : i = j
            · rw [if_pos hji, if_pos hi] at ha
              injection ha with ha
              subst ha
              exact hub
            · rw [if_neg hji] at ha
              exact le_trans hub (ho.off j a _ hj (fun e => hji e.symm) (by omega) ha (by rw [hp]; exact hg))
        obtain ⟨r1, r2⟩ := ih _ hlt _ _ hm hord
        exact ⟨r1, r2.trans (set_swap l i _ x hi hu (by omega))⟩
      | false =>
        have e : rise l p i x = (l.set i x, p.set x.1 i) := by rw [rise, dif_pos h0, if_neg (by rw [hl]; simp)]
        rw [e]
        refine ⟨hh.fill (ho.done hi fun b _ hb => ?_), List.Perm.refl _⟩
        rw [hg] at hb
        injection hb with hb
        subst hb
        exact le_of_not_less hl
    · have e : rise l p i x = (l.set i x, p.set x.1 i) := by rw [rise, dif_neg h0]
      rw [e]
      exact ⟨hh.fill (ho.done hi fun b hb _ => absurd hb h0), List.Perm.refl _⟩

/-- the order of a heap, but at place i, at which x is to be laid, downward -/
structure DownOrd (l : List Item) (i : Nat) (x : Item) : Prop where
  off : ∀ (j : Nat) (a b : Item), 0 < j → j ≠ i → (j - 1) / 2 ≠ i → l[j]? = some a → l[(j - 1) / 2]? = some b → le b a
  par : ∀ (b : Item), 0 < i → l[(i - 1) / 2]? = some b → le b x
  over : ∀ (j : Nat) (a b : Item), 0 < j → 0 < i → (j - 1) / 2 = i → l[j]? = some a → l[(i - 1) / 2]? = some b → le b a

theorem low_least {l : List Item} {i j : Nat} {a : Item} (hj : 0 < j) (hp : (j - 1) / 2 = i) (ha : l[j]? = some a) :
    low l i < l.length ∧ le (gt l (low l i)) a := by
  have hjl := (List.getElem?_eq_some_iff.1 ha).1
  have hga : gt l j = a := by have := gt_of hjl; rw [ha] at this; injection this with this; exact this.symm
  have hj2 : j = 2 * i + 1 ∨ j = 2 * i + 2 := by omega
  unfold low
  by_cases hc : 2 * i + 1 + 1 < l.length ∧ less (gt l (2 * i + 1 + 1)) (gt l (2 * i + 1)) = true
  · rw [if_pos hc]
    refine ⟨hc.1, ?_⟩
    rcases hj2 with e | e
    · rw [← hga, e]; exact le_of_less hc.2
    · rw [← hga, e]; exact le_refl _
  · rw [if_neg hc]
    refine ⟨by omega, ?_⟩
    rcases hj2 with e | e
    · rw [← hga, e]; exact le_refl _
    · have hlt : 2 * i + 1 + 1 < l.length := by omega
      have : less (gt l (2 * i + 1 + 1)) (gt l (2 * i + 1)) = false := by
        cases hh : less (gt l (2 * i + 1 + 1)) (gt l (2 * i + 1)) with
        | true => exact absurd ⟨hlt, hh⟩ hc
        | false => rfl
      rw [← hga, e]; exact le_of_not_less this

theorem sink_spec (n : Nat) (x : Item) (m : Nat) : ∀ (i : Nat) (l : List Item) (p : List Int), l.length - i ≤ m → Hole n l p i x → DownOrd l i x →
    WF n (sink l p i x).1 (sink l p i x).2 ∧ (sink l p i x).1.Perm (l.set i x) := by
  induction m with
  | zero => intro i l p hm hh _; have := hh.lt; omega
  | succ m ih =>
    intro i l p hm hh ho
    have hi := hh.lt
    by_cases hc : low l i < l.length ∧ less (gt l (low l i)) x = true
    · have e : sink l p i x = sink (l.set i (gt l (low l i))) (p.set (gt l (low l i)).1 i) (low l i) x := by
        rw [sink, dif_pos hc]
      rw [e]
      have hlo := low_or l i
      have hg := gt_of hc.1
      have hpar : (low l i - 1) / 2 = i := by omega
      have hm2 := hh.move hc.1 (by omega)
      have hord : DownOrd (l.set i (gt l (low l i))) (low l i) x := by
        refine ⟨?_, ?_, ?_⟩
        · intro j a b hj hjne hpne ha hb
          rw [List.getElem?_set] at ha hb
          by_cases hji : i = j
          · rw [if_pos hji, if_pos hi] at ha
            rw [if_neg (by omega)] at hb
            injection ha with ha
            subst ha
            subst hji
            exact ho.over _ _ b (by omega) hj hpar hg hb
          · rw [if_neg hji] at ha
            by_cases hpi : i = (j - 1) / 2
            · rw [if_pos hpi, if_pos hi] at hb
              injection hb with hb
              subst hb
              exact (low_least hj hpi.symm ha).2
            · rw [if_neg hpi] at hb
              exact ho.off j a b hj (fun e => hji e.symm) (fun e => hpi e.symm) ha hb
        · intro b _ hb
          rw [hpar, List.getElem?_set, if_pos rfl, if_pos hi] at hb
          injection hb with hb
          subst hb
          exact le_of_less hc.2
        · intro j a b hj _ hp ha hb
          rw [List.getElem?_set, if_neg (by omega)] at ha
          rw [hpar, List.getElem?_set, if_pos rfl, if_pos hi] at hb
          injection hb with hb
          subst hb
          exact ho.off j a _ hj (by omega) (by omega) ha (by rw [hp]; exact hg)
      obtain ⟨r1, r2⟩ := ih (low l i) _ _ (by simp only [List.length_set]; omega) hm2 hord
      exact ⟨r1, r2.trans (set_swap l i _ x hi hc.1 (by omega))⟩
    · have e : sink l p i x = (l.set i x, p.set x.1 i) := by rw [sink, dif_neg hc]
      rw [e]
      refine ⟨hh.fill ?_, List.Perm.refl _⟩
      intro j a b hj ha hb
      rw [List.getElem?_set] at ha hb
      by_cases hji : i = j
      · subst hji
        rw [if_pos rfl, if_pos hi] at ha
        rw [if_neg (by omega)] at hb
        injection ha with ha
        subst ha
        exact ho.par b hj hb
      · rw [if_neg hji] at ha
        by_cases hpi : i = (j - 1) / 2
        · rw [if_pos hpi, if_pos hi] at hb
          injection hb with hb
          subst hb
          have hl := low_least hj hpi.symm ha
          have : less (gt l (low l i)) x = false := by
            cases hh : less (gt l (low l i)) x with
            | true => exact absurd ⟨hl.1, hh⟩ hc
            | false => rfl
          exact le_trans (le_of_not_less this) hl.2
        · rw [if_neg hpi] at hb
          exact ho.off j a b hj (fun e => hji e.symm) (fun e => hpi e.symm) ha hb

/-- where a number is; -1: nowhere -/
def wher (p : List Int) (v : Nat) : Int := p.getD v (-1)

/-- Put -/
def put (l : List Item) (p : List Int) (v key : Nat) : List Item × List Int × Bool :=
  if v < p.length then
    if wher p v = -1 then ((rise (l ++ [(v, key)]) p l.length (v, key)).1, (rise (l ++ [(v, key)]) p l.length (v, key)).2, true)
    else if (gt l (wher p v).toNat).2 ≤ key then (l, p, false)
    else ((rise l p (wher p v).toNat (v, key)).1, (rise l p (wher p v).toNat (v, key)).2, true)
  else (l, p, false)

theorem WF.nodup {n l p} (h : WF n l p) {i j : Nat} {x y : Item} (hx : l[i]? = some x) (hy : l[j]? = some y) (e : x.1 = y.1) : i = j := by
  have h1 := h.fwd i x hx
  have h2 := h.fwd j y hy
  rw [e] at h1
  have := h1.symm.trans h2
  injection this with this
  omega

theorem WF.inj {n l p} (h : WF n l p) {x y : Item} (hx : x ∈ l) (hy : y ∈ l) (e : x.1 = y.1) : x = y := by
  obtain ⟨i, hi⟩ := List.getElem?_of_mem hx
  obtain ⟨j, hj⟩ := List.getElem?_of_mem hy
  have := h.nodup hi hj e
  subst this
  rw [hi] at hj
  injection hj

theorem WF.lt {n l p} (h : WF n l p) {x : Item} (hx : x ∈ l) : x.1 < n := by
  obtain ⟨i, hi⟩ := List.getElem?_of_mem hx
  have := h.fwd i x hi
  rw [← h.len]
  exact (List.getElem?_eq_some_iff.1 this).1

theorem wher_some {p : List Int} {v : Nat} (hv : v < p.length) : p[v]? = some (wher p v) := by
  unfold wher; simp [List.getD, hv]

theorem WF.there {n l p} (h : WF n l p) {v : Nat} (hv : v < n) (hne : wher p v ≠ -1) :
    ∃ i : Nat, wher p v = i ∧ i < l.length ∧ (gt l i).1 = v ∧ (v, (gt l i).2) ∈ l := by
  have hp := wher_some (p := p) (v := v) (by rw [h.len]; exact hv)
  have hr := h.rng v _ hp
  obtain ⟨i, hi⟩ : ∃ i : Nat, wher p v = i := ⟨(wher p v).toNat, by omega⟩
  rw [hi] at hp
  obtain ⟨k, hk⟩ := h.bwd v i hp
  have hlt := (List.getElem?_eq_some_iff.1 hk).1
  have hg := gt_of hlt
  rw [hk] at hg
  injection hg with hg
  refine ⟨i, hi, hlt, by rw [← hg], ?_⟩
  rw [← hg]
  exact List.mem_of_getElem? hk

theorem WF.nowhere {n l p} (h : WF n l p) {v : Nat} (he : wher p v = -1) : ∀ x ∈ l, x.1 ≠ v := by
  intro x hx e
  obtain ⟨i, hi⟩ := List.getElem?_of_mem hx
  have := h.fwd i x hi
  unfold wher at he
  rw [e] at this
  simp [List.getD, this] at he

theorem WF.hole {n l p} (h : WF n l p) {i : Nat} {x : Item} (hi : i < l.length) (hx : (gt l i).1 = x.1) : Hole n l p i x := by
  have hg := gt_of hi
  refine ⟨h.len, hi, ?_, ?_, ?_, fun v z _ hz => h.rng v z hz⟩
  · rw [← hx]; exact h.lt (List.mem_of_getElem? hg)
  · intro j y hj hy
    refine ⟨fun e => hj (h.nodup hy hg (by rw [hx, e])), h.fwd j y hy⟩
  · intro v j hv hj
    obtain ⟨k, hk⟩ := h.bwd v j hj
    refine ⟨?_, k, hk⟩
    intro e
    subst e
    rw [hk] at hg
    injection hg with hg
    rw [← hg] at hx
    exact hv hx

theorem put_new (n : Nat) (l : List Item) (p : List Int) (v key : Nat) (h : WF n l p) (hv : v < n) (he : ∀ x ∈ l, x.1 ≠ v) :
    ∃ l' p', put l p v key = (l', p', true) ∧ WF n l' p' ∧ l'.Perm ((v, key) :: l) := by
  have hw : wher p v = -1 := by
    apply Classical.byContradiction
    intro hne
    obtain ⟨i, _, _, h3, h4⟩ := h.there hv hne
    exact he _ h4 rfl
  have e : put l p v key = ((rise (l ++ [(v, key)]) p l.length (v, key)).1, (rise (l ++ [(v, key)]) p l.length (v, key)).2, true) := by
    unfold put
    rw [if_pos (by rw [h.len]; exact hv), if_pos hw]
  have hset : (l ++ [(v, key)]).set l.length (v, key) = l ++ [(v, key)] := by
    apply List.ext_getElem?
    intro j
    rw [List.getElem?_set]
    by_cases hj : l.length = j
    · subst hj; simp
    · rw [if_neg hj]
  have hh : Hole n (l ++ [(v, key)]) p l.length (v, key) := by
    refine ⟨h.len, by simp, hv, ?_, ?_, fun v' z _ hz => h.rng v' z hz⟩
    · intro j y hj hy
      have hjl : j < l.length := by
        have := (List.getElem?_eq_some_iff.1 hy).1
        simp at this; omega
      rw [List.getElem?_append_left hjl] at hy
      exact ⟨he y (List.mem_of_getElem? hy), h.fwd j y hy⟩
    · intro v' j _ hj
      obtain ⟨k, hk⟩ := h.bwd v' j hj
      have hjl := (List.getElem?_eq_some_iff.1 hk).1
      exact ⟨by omega, k, by rw [List.getElem?_append_left hjl]; exact hk⟩
  have ho : UpOrd (l ++ [(v, key)]) l.length (v, key) := by
    refine ⟨?_, ?_, ?_⟩
    · intro j a b hj hjne _ ha hb
      have hjl : j < l.length := by
        have := (List.getElem?_eq_some_iff.1 ha).1
        simp at this; omega
      rw [List.getElem?_append_left hjl] at ha
      rw [List.getElem?_append_left (by omega)] at hb
      exact h.ord j a b hj ha hb
    · intro j a hj hp ha
      have := (List.getElem?_eq_some_iff.1 ha).1
      simp at this; omega
    · intro j a b hj _ hp ha
      have := (List.getElem?_eq_some_iff.1 ha).1
      simp at this; omega
  obtain ⟨r1, r2⟩ := rise_spec n (v, key) l.length _ p hh ho
  refine ⟨_, _, e, r1, r2.trans ?_⟩
  rw [hset]
  exact List.perm_append_singleton _ _

theorem put_same (n : Nat) (l : List Item) (p : List Int) (v key k : Nat) (h : WF n l p) (hm : (v, k) ∈ l) (hk : k ≤ key) :
    put l p v key = (l, p, false) := by
  have hv := h.lt hm
  have hne : wher p v ≠ -1 := fun e => h.nowhere e _ hm rfl
  obtain ⟨i, h1, h2, h3, h4⟩ := h.there hv hne
  have := h.inj hm h4 rfl
  injection this with _ hk2
  unfold put
  rw [if_pos (by rw [h.len]; exact hv), if_neg hne, if_pos]
  rw [h1]; simp only [Int.toNat_natCast]; omega

theorem put_less (n : Nat) (l : List Item) (p : List Int) (v key k : Nat) (h : WF n l p) (hm : (v, k) ∈ l) (hk : key < k) :
    ∃ l' p' r, put l p v key = (l', p', true) ∧ WF n l' p' ∧ l'.Perm ((v, key) :: r) ∧ l.Perm ((v, k) :: r) := by
  have hv := h.lt hm
  have hne : wher p v ≠ -1 := fun e => h.nowhere e _ hm rfl
  obtain ⟨i, h1, h2, h3, h4⟩ := h.there hv hne
  have hinj := h.inj hm h4 rfl
  injection hinj with _ hk2
  have e : put l p v key = ((rise l p i (v, key)).1, (rise l p i (v, key)).2, true) := by
    unfold put
    rw [if_pos (by rw [h.len]; exact hv), if_neg hne, if_neg]
    · rw [h1]; simp
    · rw [h1]; simp only [Int.toNat_natCast]; omega
  have hg := gt_of h2
  have ho : UpOrd l i (v, key) := by
    have hle : le (v, key) (gt l i) := by unfold le; rw [h3]; omega
    refine ⟨fun j a b hj _ _ ha hb => h.ord j a b hj ha hb, ?_, ?_⟩
    · intro j a hj hp ha
      exact le_trans hle (h.ord j a _ hj ha (by rw [hp]; exact hg))
    · intro j a b hj hi hp ha hb
      exact le_trans (h.ord i _ b hi hg hb) (h.ord j a _ hj ha (by rw [hp]; exact hg))
  obtain ⟨r1, r2⟩ := rise_spec n (v, key) i l p (h.hole h2 h3) ho
  have hsplit : ∃ r, l.Perm (gt l i :: r) ∧ (l.set i (v, key)).Perm ((v, key) :: r) := by
    refine ⟨l.take i ++ l.drop (i + 1), ?_, ?_⟩
    · have hl : l = l.take i ++ gt l i :: l.drop (i + 1) := by
        have hd := List.drop_eq_getElem_cons h2
        have hge : l[i] = gt l i := by
          have := gt_of h2
          rw [List.getElem?_eq_getElem h2] at this
          injection this
        conv => lhs; rw [← List.take_append_drop i l, hd, hge]
      conv => lhs; rw [hl]
      exact List.perm_middle
    · rw [List.set_eq_take_append_cons_drop, if_pos h2]
      exact List.perm_middle
  obtain ⟨r, hr1, hr2⟩ := hsplit
  refine ⟨_, _, r, e, r1, r2.trans hr2, ?_⟩
  have : gt l i = (v, k) := by rw [hk2]; exact Prod.ext h3 rfl
  rw [← this]
  exact hr1

/-- the first one is the least one -/
theorem WF.least {n l p} (h : WF n l p) : ∀ (j : Nat) (x y : Item), l[j]? = some x → l[0]? = some y → le y x := by
  intro j
  induction j using Nat.strongRecOn with
  | ind j ih =>
    intro x y hx hy
    by_cases hj : 0 < j
    · have hl := (List.getElem?_eq_some_iff.1 hx).1
      have hg := gt_of (l := l) (i := (j - 1) / 2) (by omega)
      exact le_trans (ih _ (by omega) _ y hg hy) (h.ord j x _ hj hx hg)
    · have : j = 0 := by omega
      subst this
      rw [hx] at hy
      injection hy with hy
      subst hy
      exact le_refl _

/-- Drop of what is first -/
def drop0 (l : List Item) (p : List Int) (v : Nat) : List Item × List Int :=
  if l.length = 1 then (l.take (l.length - 1), p.set v (-1))
  else
    let r := sink (l.take (l.length - 1)) (p.set v (-1)) 0 (gt l (l.length - 1))
    if wher r.2 (gt l (l.length - 1)).1 = 0 then rise r.1 r.2 0 (gt l (l.length - 1)) else r

theorem perm_last (l : List Item) (h : 0 < l.length) : l.Perm (gt l (l.length - 1) :: l.take (l.length - 1)) := by
  have hd := List.drop_eq_getElem_cons (l := l) (i := l.length - 1) (by omega)
  have hge : l[l.length - 1] = gt l (l.length - 1) := by
    have := gt_of (l := l) (i := l.length - 1) (by omega)
    rw [List.getElem?_eq_getElem (by omega)] at this
    injection this
  have e : l = l.take (l.length - 1) ++ [gt l (l.length - 1)] := by
    conv => lhs; rw [← List.take_append_drop (l.length - 1) l, hd, hge]
    rw [List.drop_eq_nil_of_le (by omega)]
  conv => lhs; rw [e]
  exact List.perm_append_singleton _ _

theorem drop0_mid (n : Nat) (l : List Item) (p : List Int) (v k : Nat) (r : List Item) (h : WF n l p) (hl : l = (v, k) :: r) (hlen : 1 < l.length) :
    WF n (sink (l.take (l.length - 1)) (p.set v (-1)) 0 (gt l (l.length - 1))).1 (sink (l.take (l.length - 1)) (p.set v (-1)) 0 (gt l (l.length - 1))).2 ∧
    (sink (l.take (l.length - 1)) (p.set v (-1)) 0 (gt l (l.length - 1))).1.Perm ((l.take (l.length - 1)).set 0 (gt l (l.length - 1))) := by
  have h0 : l[0]? = some (v, k) := by rw [hl]; rfl
  have hv := h.lt (List.mem_of_getElem? h0)
  have hgl := gt_of (l := l) (i := l.length - 1) (by omega)
  have hne : (gt l (l.length - 1)).1 ≠ v := by
    intro e
    have := h.nodup hgl h0 e
    omega
  have hh : Hole n (l.take (l.length - 1)) (p.set v (-1)) 0 (gt l (l.length - 1)) := by
    refine ⟨by simpa using h.len, by simp; omega, h.lt (List.mem_of_getElem? hgl), ?_, ?_, ?_⟩
    · intro j y hj hy
      rw [List.getElem?_take] at hy
      by_cases hjl : j < l.length - 1
      · rw [if_pos hjl] at hy
        refine ⟨fun e => by have := h.nodup hy hgl e; omega, ?_⟩
        rw [List.getElem?_set, if_neg]
        · exact h.fwd j y hy
        · intro e
          have := h.nodup hy h0 e.symm
          omega
      · rw [if_neg hjl] at hy; cases hy
    · intro u j hu hj
      rw [List.getElem?_set] at hj
      by_cases huv : v = u
      · rw [if_pos huv, if_pos (by rw [h.len]; exact hv)] at hj
        injection hj with hj
        omega
      · rw [if_neg huv] at hj
        obtain ⟨q, hq⟩ := h.bwd u j hj
        have hjl := (List.getElem?_eq_some_iff.1 hq).1
        have hj1 : j ≠ l.length - 1 := by
          intro e
          subst e
          rw [hgl] at hq
          injection hq with hq
          rw [hq] at hu
          exact hu rfl
        refine ⟨?_, q, ?_⟩
        · intro e
          subst e
          rw [h0] at hq
          injection hq with hq
          injection hq with hq
          exact huv hq
        · rw [List.getElem?_take, if_pos (by omega)]
          exact hq
    · intro u z _ hz
      rw [List.getElem?_set] at hz
      by_cases huv : v = u
      · rw [if_pos huv, if_pos (by rw [h.len]; exact hv)] at hz
        injection hz with hz
        omega
      · rw [if_neg huv] at hz
        exact h.rng u z hz
  have ho : DownOrd (l.take (l.length - 1)) 0 (gt l (l.length - 1)) := by
    refine ⟨?_, fun _ h => absurd h (by omega), fun _ _ _ _ h => absurd h (by omega)⟩
    intro j a b hj _ _ ha hb
    rw [List.getElem?_take] at ha hb
    split at ha <;> split at hb <;> first | cases ha | cases hb | exact h.ord j a b hj ha hb
  exact sink_spec n (gt l (l.length - 1)) _ 0 (l.take (l.length - 1)) (p.set v (-1)) (Nat.le_refl _) hh ho

theorem drop0_spec (n : Nat) (l : List Item) (p : List Int) (v k : Nat) (r : List Item) (h : WF n l p) (hl : l = (v, k) :: r) :
    WF n (drop0 l p v).1 (drop0 l p v).2 ∧ (drop0 l p v).1.Perm r := by
  have h0 : l[0]? = some (v, k) := by rw [hl]; rfl
  have hv := h.lt (List.mem_of_getElem? h0)
  by_cases h1 : l.length = 1
  · have hr : r = [] := by rw [hl] at h1; simpa using h1
    have e : drop0 l p v = ([], p.set v (-1)) := by unfold drop0; rw [if_pos h1, h1]; simp
    rw [e, hr]
    refine ⟨⟨by simpa using h.len, by simp, ?_, ?_, by simp⟩, List.Perm.refl _⟩
    · intro u i hu
      rw [List.getElem?_set] at hu
      by_cases huv : v = u
      · rw [if_pos huv, if_pos (by rw [h.len]; exact hv)] at hu
        injection hu with hu
        omega
      · rw [if_neg huv] at hu
        obtain ⟨q, hq⟩ := h.bwd u i hu
        have := (List.getElem?_eq_some_iff.1 hq).1
        have : i = 0 := by omega
        subst this
        rw [h0] at hq
        injection hq with hq
        injection hq with hq
        exact absurd hq huv
    · intro u z hz
      rw [List.getElem?_set] at hz
      by_cases huv : v = u
      · rw [if_pos huv, if_pos (by rw [h.len]; exact hv)] at hz
        injection hz with hz
        omega
      · rw [if_neg huv] at hz
        exact h.rng u z hz
  · have hlen : 1 < l.length := by have := congrArg List.length hl; simp at this; omega
    have hgl := gt_of (l := l) (i := l.length - 1) (by omega)
    have hne : (gt l (l.length - 1)).1 ≠ v := by
      intro e
      have := h.nodup hgl h0 e
      omega
    have hh : Hole n (l.take (l.length - 1)) (p.set v (-1)) 0 (gt l (l.length - 1)) := by
      refine ⟨by simpa using h.len, by simp; omega, h.lt (List.mem_of_getElem? hgl), ?_, ?_, ?_⟩
      · intro j y hj hy
        rw [List.getElem?_take] at hy
        by_cases hjl : j < l.length - 1
        · rw [if_pos hjl] at hy
          refine ⟨fun e => by have := h.nodup hy hgl e; omega, ?_⟩
          rw [List.getElem?_set, if_neg]
          · exact h.fwd j y hy
          · intro e
            have := h.nodup hy h0 e.symm
            omega
        · rw [if_neg hjl] at hy; cases hy
      · intro u j hu hj
        rw [List.getElem?_set] at hj
        by_cases huv : v = u
        · rw [if_pos huv, if_pos (by rw [h.len]; exact hv)] at hj
          injection hj with hj
          omega
        · rw [if_neg huv] at hj
          obtain ⟨q, hq⟩ := h.bwd u j hj
          have hjl := (List.getElem?_eq_some_iff.1 hq).1
          have hj1 : j ≠ l.length - 1 := by
            intro e
            subst e
            rw [hgl] at hq
            injection hq with hq
            rw [hq] at hu
            exact hu rfl
          refine ⟨?_, q, ?_⟩
          · intro e
            subst e
            rw [h0] at hq
            injection hq with hq
            injection hq with hq
            exact huv hq
          · rw [List.getElem?_take, if_pos (by omega)]
            exact hq
      · intro u z _ hz
        rw [List.getElem?_set] at hz
        by_cases huv : v = u
        · rw [if_pos huv, if_pos (by rw [h.len]; exact hv)] at hz
          injection hz with hz
          omega
        · rw [if_neg huv] at hz
          exact h.rng u z hz
    have ho : DownOrd (l.take (l.length - 1)) 0 (gt l (l.length - 1)) := by
      refine ⟨?_, fun _ h => absurd h (by omega), fun _ _ _ _ h => absurd h (by omega)⟩
      intro j a b hj _ _ ha hb
      rw [List.getElem?_take] at ha hb
      split at ha <;> split at hb <;> first | cases ha | cases hb | exact h.ord j a b hj ha hb
    obtain ⟨s1, s2⟩ := sink_spec n (gt l (l.length - 1)) _ 0 (l.take (l.length - 1)) (p.set v (-1)) (Nat.le_refl _) hh ho
    have hperm : ((l.take (l.length - 1)).set 0 (gt l (l.length - 1))).Perm r := by
      have h2 := perm_last r (by have := congrArg List.length hl; simp at this; omega)
      have er : gt l (l.length - 1) = gt r (r.length - 1) := by
        unfold gt
        rw [hl]
        simp only [List.length_cons, Nat.add_sub_cancel]
        have hr0 : 0 < r.length := by have := congrArg List.length hl; simp at this; omega
        obtain ⟨m, hm⟩ : ∃ m, r.length = m + 1 := ⟨r.length - 1, by omega⟩
        rw [hm]
        simp [List.getD]
      have et : (l.take (l.length - 1)).set 0 (gt l (l.length - 1)) = gt r (r.length - 1) :: r.take (r.length - 1) := by
        rw [er, hl]
        have hr0 : 0 < r.length := by have := congrArg List.length hl; simp at this; omega
        obtain ⟨m, hm⟩ : ∃ m, r.length = m + 1 := ⟨r.length - 1, by omega⟩
        simp only [List.length_cons, Nat.add_sub_cancel]
        rw [hm]
        simp
      rw [et]
      exact h2.symm
    have e : drop0 l p v = if wher (sink (l.take (l.length - 1)) (p.set v (-1)) 0 (gt l (l.length - 1))).2 (gt l (l.length - 1)).1 = 0 then
        rise (sink (l.take (l.length - 1)) (p.set v (-1)) 0 (gt l (l.length - 1))).1 (sink (l.take (l.length - 1)) (p.set v (-1)) 0 (gt l (l.length - 1))).2 0 (gt l (l.length - 1))
        else sink (l.take (l.length - 1)) (p.set v (-1)) 0 (gt l (l.length - 1)) := by
      unfold drop0; rw [if_neg h1]
    rw [e]
    by_cases hw : wher (sink (l.take (l.length - 1)) (p.set v (-1)) 0 (gt l (l.length - 1))).2 (gt l (l.length - 1)).1 = 0
    · rw [if_pos hw]
      generalize sink (l.take (l.length - 1)) (p.set v (-1)) 0 (gt l (l.length - 1)) = s at *
      have hxn := hh.xn
      have hpx := wher_some (p := s.2) (v := (gt l (l.length - 1)).1) (by rw [s1.len]; exact hxn)
      rw [hw] at hpx
      obtain ⟨q, hq⟩ := s1.bwd _ 0 hpx
      have hlt := (List.getElem?_eq_some_iff.1 hq).1
      have hmem : (gt l (l.length - 1)) ∈ s.1 := by
        refine (s2.mem_iff).2 ?_
        rw [List.mem_iff_getElem?]
        exact ⟨0, by rw [List.getElem?_set, if_pos rfl, if_pos (by simp; omega)]⟩
      have hg0 : gt s.1 0 = gt l (l.length - 1) := by
        have hg := gt_of hlt
        refine s1.inj (List.mem_of_getElem? hg) hmem ?_
        rw [hq] at hg
        injection hg with hg
        rw [← hg]
      have er : rise s.1 s.2 0 (gt l (l.length - 1)) = (s.1.set 0 (gt l (l.length - 1)), s.2.set (gt l (l.length - 1)).1 0) := by
        rw [rise, dif_neg (by omega)]; rfl
      have es : s.1.set 0 (gt l (l.length - 1)) = s.1 := by
        apply List.ext_getElem?
        intro j
        rw [List.getElem?_set]
        by_cases hj : 0 = j
        · subst hj; rw [if_pos rfl, if_pos hlt, gt_of hlt, hg0]
        · rw [if_neg hj]
      have ep : s.2.set (gt l (l.length - 1)).1 0 = s.2 := by
        apply List.ext_getElem?
        intro j
        rw [List.getElem?_set]
        by_cases hj : (gt l (l.length - 1)).1 = j
        · subst hj; rw [if_pos rfl, if_pos (by rw [s1.len]; exact hxn), hpx]
        · rw [if_neg hj]
      rw [er, es, ep]
      exact ⟨s1, s2.trans hperm⟩
    · rw [if_neg hw]
      exact ⟨s1, s2.trans hperm⟩

theorem WF.start (n : Nat) : WF n [] (List.replicate n (-1)) := by
  refine ⟨by simp, by simp, ?_, ?_, by simp⟩
  · intro v i h
    rw [List.getElem?_replicate] at h
    split at h
    · injection h with h; omega
    · cases h
  · intro v z h
    rw [List.getElem?_replicate] at h
    split at h
    · injection h with h; omega
    · cases h

theorem nodup_lt_length (n : Nat) : ∀ (l : List Nat), l.Nodup → (∀ x ∈ l, x < n) → l.length ≤ n := by
  intro l hn hl
  have := List.Nodup.length_le_of_subset hn (l₂ := List.range n) (fun x hx => List.mem_range.2 (hl x hx))
  simpa using this
theorem WF.vs_nodup {n l p} (h : WF n l p) : (l.map (·.1)).Nodup := by
  refine List.pairwise_iff_getElem.2 fun i j hi hj hij e => ?_
  rw [List.length_map] at hi hj
  rw [List.getElem_map, List.getElem_map] at e
  have := h.nodup (List.getElem?_eq_getElem hi) (List.getElem?_eq_getElem hj) e
  omega
theorem WF.len_lt {n l p} (h : WF n l p) {v : Nat} (hv : v < n) (he : ∀ x ∈ l, x.1 ≠ v) : l.length < n := by
  have := nodup_lt_length n (v :: l.map (·.1)) (List.nodup_cons.2 ⟨by
    intro hm
    obtain ⟨x, hx, e⟩ := List.mem_map.1 hm
    exact he x hx e, h.vs_nodup⟩) (by
    intro x hx
    rcases List.mem_cons.1 hx with rfl | hx
    · exact hv
    · obtain ⟨y, hy, rfl⟩ := List.mem_map.1 hx
      exact h.lt hy)
  simp at this
  omega
theorem sink_len (x : Item) (m : Nat) : ∀ (i : Nat) (l : List Item) (p : List Int), l.length - i ≤ m → (sink l p i x).1.length = l.length ∧ (sink l p i x).2.length = p.length := by
  induction m with
  | zero =>
    intro i l p hm
    have := low_or l i
    rw [sink, dif_neg (by omega)]
    simp
  | succ m ih =>
    intro i l p hm
    rw [sink]
    have := low_or l i
    by_cases hc : low l i < l.length ∧ less (gt l (low l i)) x = true
    · rw [dif_pos hc]
      have h := ih (low l i) (l.set i (gt l (low l i))) (p.set (gt l (low l i)).1 i) (by simp only [List.length_set]; omega)
      simpa using h
    · rw [dif_neg hc]
      simp
end Go.Proofs.Ytbaclbiedepjfaa.Pl
