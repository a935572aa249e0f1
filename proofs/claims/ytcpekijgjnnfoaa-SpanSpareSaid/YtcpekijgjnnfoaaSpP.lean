/-
  Package span in plain words: ends, vectors, beliefs, links, states.
-/
import Derived.Lib.Small
namespace Go.Proofs.Ytcpekijgjnnfoaa.Sp
open Go

/-- The first that is not zero. -/
def orL : List Int → Int
  | [] => 0
  | x :: l => if x = 0 then orL l else x
/-- An end of a link. -/
structure End where
  bridge : Int
  port : Int
  peer : Int
  peerPort : Int
  cost : Int
instance : Inhabited End := ⟨⟨0, 0, 0, 0, 0⟩⟩
/-- A vector. -/
structure Vec where
  root : Int
  cost : Int
  id : Int
  port : Int
def cmpI (x y : Int) : Int := Lib.compareInt x y
def cmpE (x y : End) : Int := orL [cmpI x.bridge y.bridge, cmpI x.port y.port]
def cmpV (x y : Vec) : Int := orL [cmpI x.root y.root, cmpI x.cost y.cost, cmpI x.id y.id, cmpI x.port y.port]
def better (x y : Vec) : Bool := decide (cmpV x y < 0)
/-- A belief. -/
structure Bel where
  root : Int
  cost : Int
  port : Int
/-- What a bridge announces. -/
def vecOf (ids : List Int) (N : List Bel) (i : Nat) (port : Int) : Vec := ⟨(N.getD i ⟨0, 0, 0⟩).root, (N.getD i ⟨0, 0, 0⟩).cost, ids.getD i 0, port⟩
def startN (ids : List Int) : List Bel := ids.map fun x => ⟨x, 0, -1⟩
/-- A link. -/
structure Link where
  a : Int
  pa : Int
  b : Int
  pb : Int
  cost : Int
/-- Both ends of each link, as they stand. -/
def bothE (l : Link) : List End := [⟨l.a, l.pa, l.b, l.pb, l.cost⟩, ⟨l.b, l.pb, l.a, l.pa, l.cost⟩]
def rawE (L : List Link) : List End := L.flatMap bothE
theorem rawE_len (L : List Link) : (rawE L).length = L.length * 2 := by
  induction L with
  | nil => rfl
  | cons l L ih => unfold rawE at *; rw [List.flatMap_cons, List.length_append, ih, List.length_cons]; simp [bothE]; omega
/-- The state of a port. -/
structure SPort where
  bridge : Int
  port : Int
  isOpen : Bool
def belAt (N : List Bel) (i : Int) : Bel := N.getD i.toNat ⟨0, 0, 0⟩
def vecAt (ids : List Int) (N : List Bel) (i : Int) (port : Int) : Vec := vecOf ids N i.toNat port
def stateOf (ids : List Int) (N : List Bel) (x : End) : SPort :=
  ⟨x.bridge, x.port, (belAt N x.bridge).port == x.port || better (vecAt ids N x.bridge x.port) (vecAt ids N x.peer x.peerPort)⟩
def statesL (ids : List Int) (N : List Bel) (E : List End) : List SPort := E.map (stateOf ids N)
/-- Ends of a network of n bridges. -/
def InNet (n : Nat) (E : List End) : Prop := ∀ x ∈ E, 0 ≤ x.bridge ∧ x.bridge < n ∧ 0 ≤ x.peer ∧ x.peer < n

/-- What is heard over an end. -/
def heard (ids : List Int) (N : List Bel) (x : End) : Vec := { vecAt ids N x.peer x.peerPort with cost := (vecAt ids N x.peer x.peerPort).cost + x.cost }

/-- step: a round of the protocol. -/
def stepOne (ids : List Int) (N : List Bel) (s : List Bel × List Vec) (x : End) : List Bel × List Vec :=
  if better (heard ids N x) (s.2.getD x.bridge.toNat ⟨0, 0, 0, 0⟩) then
    (s.1.set x.bridge.toNat ⟨(heard ids N x).root, (heard ids N x).cost, x.port⟩, s.2.set x.bridge.toNat (heard ids N x)) else s
def ownV (ids : List Int) : List Vec := ids.map fun x => ⟨x, 0, x, -1⟩
def stepS (ids : List Int) (N : List Bel) (E : List End) : List Bel × List Vec := E.foldl (stepOne ids N) (startN ids, ownV ids)
def stepN (ids : List Int) (E : List End) (N : List Bel) : List Bel := (stepS ids N E).1

/-- Tree: a relaxation. -/
def relax1 (N : List Bel) (x : End) : List Bel :=
  if (belAt N x.peer).root < (belAt N x.bridge).root ∨ ((belAt N x.peer).root = (belAt N x.bridge).root ∧ (belAt N x.peer).cost + x.cost < (belAt N x.bridge).cost) then
    N.set x.bridge.toNat ⟨(belAt N x.peer).root, (belAt N x.peer).cost + x.cost, -1⟩ else N
def pass (E : List End) (N : List Bel) : List Bel := E.foldl relax1 N
def passes (E : List End) : Nat → List Bel → List Bel
  | 0, N => N
  | k + 1, N => pass E (passes E k N)
/-- Tree: the root port of bridge i. -/
def portOne (ids : List Int) (i : Nat) (s : List Bel × Vec) (x : End) : List Bel × Vec :=
  if x.bridge = (i : Int) ∧ (s.1.getD i ⟨0, 0, 0⟩).root ≠ ids.getD i 0 ∧ ((s.1.getD i ⟨0, 0, 0⟩).port < 0 ∨ better (heard ids s.1 x) s.2 = true) then
    (s.1.set i { s.1.getD i ⟨0, 0, 0⟩ with port := x.port }, heard ids s.1 x) else s
def portOf (ids : List Int) (E : List End) (N : List Bel) (i : Nat) : List Bel := (E.foldl (portOne ids i) (N, ⟨0, 0, 0, 0⟩)).1
def portsN (ids : List Int) (E : List End) (N : List Bel) : Nat → List Bel
  | 0 => N
  | k + 1 => portOf ids E (portsN ids E N k) k
def treeN (ids : List Int) (E : List End) : List Bel := portsN ids E (passes E ids.length (startN ids)) ids.length
end Go.Proofs.Ytcpekijgjnnfoaa.Sp
