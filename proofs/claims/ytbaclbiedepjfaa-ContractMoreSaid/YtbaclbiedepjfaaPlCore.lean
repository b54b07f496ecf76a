/- contract's core on lists. Plain: no program. -/
import Derived.Test.YtbaclbiedepjfaaPlCon
set_option autoImplicit false
namespace Go.Proofs.Ytbaclbiedepjfaa.Pl

structure Cut where
  u : Nat
  v : Nat
  w : Nat
  e : Int
  a : Int
  b : Int

structure Core where
  out : List (List (Nat × Nat))
  gone : List Bool
  s : List Cut
  at_ : Nat → Nat → Option Nat

def Core.net (c : Core) : Net := ⟨c.out, c.gone⟩
def isTo (v : Nat) (a : Nat × Nat) : Bool := !decide (a.1 = v)
def rowPut (l : List (Nat × Nat)) (v w : Nat) : List (Nat × Nat) := l.filter (isTo v) ++ [(v, w)]
def atPut (f : Nat → Nat → Option Nat) (u v q : Nat) : Nat → Nat → Option Nat := fun x y => if x = u ∧ y = v then some q else f x y
def Core.put (c : Core) (x : Cut) : Core :=
  ⟨c.out.set x.u (rowPut (c.out.getD x.u []) x.v x.w), c.gone, c.s ++ [x], atPut c.at_ x.u x.v c.s.length⟩
def Core.old (c : Core) (x : Cut) : Bool :=
  match c.at_ x.u x.v with
  | none => false
  | some i => match c.s[i]? with
    | some y => decide (y.w ≤ x.w)
    | none => false
def Core.add (c : Core) (x : Cut) : Core := if c.old x then c else c.put x

def Core.start (n : Nat) : Core := ⟨List.replicate n [], List.replicate n false, [], fun _ _ => none⟩

/-- one way by a node becomes a shortcut -/
def Core.way (v : Nat) (c : Core) (t : Nat × Nat × Nat) : Core :=
  c.add ⟨t.1, t.2.1, t.2.2, -1, (((c.at_ t.1 v).getD 0 : Nat) : Int), (((c.at_ v t.2.1).getD 0 : Nat) : Int)⟩
def Core.ways (v : Nat) (c : Core) (l : List (Nat × Nat × Nat)) : Core := l.foldl (Core.way v) c
def Core.lose (c : Core) (v : Nat) : Core := { c with gone := c.gone.set v true }
def Core.contract (hops settles : Nat) (c : Core) (v : Nat) : Core := (Core.ways v c (kept c.net v hops settles)).lose v

theorem Core.ways_snoc (v : Nat) (c : Core) (l : List (Nat × Nat × Nat)) (t : Nat × Nat × Nat) : Core.ways v c (l ++ [t]) = (Core.ways v c l).way v t := by
  unfold Core.ways; rw [List.foldl_append]; rfl
end Go.Proofs.Ytbaclbiedepjfaa.Pl
