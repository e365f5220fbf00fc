/- JSON: which values can be, how they are printed, as plain functions. Conditions: none. -/
import Derived.Test.YthkpbgpgcpkiiaaGreatDoorJsonA
import Derived.Lib.ItoaNum
namespace Go.Proofs.YthkpbgpgcpkiiaaGreatDoor
set_option linter.unusedVariables false
set_option linter.unusedSimpArgs false
set_option maxRecDepth 100000

/-- Have all fields but those of a kind their zero value? -/
def blankJ : J → Bool
  | .mk k n t ns is =>
    if k = 0 then n == 0 && t.isEmpty && ns.isEmpty && is.isEmpty
    else if k = 1 then (n == 0 || n == 1) && t.isEmpty && ns.isEmpty && is.isEmpty
    else if k = 2 then t.isEmpty && ns.isEmpty && is.isEmpty
    else if k = 3 then n == 0 && ns.isEmpty && is.isEmpty && wholeL t
    else if k = 4 then n == 0 && t.isEmpty && ns.isEmpty
    else if k = 5 then n == 0 && t.isEmpty && ns.length == is.length && wholeL ns.flatten && ns.all wholeL
    else false
/-- Does a name stand twice? -/
def twiceL : List B → Bool
  | [] => false
  | s :: l => l.contains s || twiceL l
def deeper (k : Int) (deep : Nat) : Nat := if k = 4 ∨ k = 5 then deep + 1 else deep
mutual
/-- The first error of a value that stands in so many others. -/
def checkJ (deep : Nat) : J → Nat
  | .mk k n t ns is =>
    if 16 < deeper k deep then 41
    else if blankJ (.mk k n t ns is) = false then 1
    else if twiceL ns then 43
    else checksJ (deeper k deep) is
def checksJ (deep : Nat) : List J → Nat
  | [] => 0
  | v :: l => if checkJ deep v = 0 then checksJ deep l else checkJ deep v
end

/-- Texts as JSON. -/
def hexc (n : Nat) : UInt8 := [48, 49, 50, 51, 52, 53, 54, 55, 56, 57, 97, 98, 99, 100, 101, 102].getD n 0
def quoteC (c : UInt8) : B := if c = 34 ∨ c = 92 then [92, c] else if c < 32 then [92, 117, 48, 48, hexc (c.toNat / 16), hexc (c.toNat % 16)] else [c]
def quoteB (s : B) : B := 34 :: (s.flatMap quoteC ++ [34])
/-- Texts by their bytes. -/
def ltB : B → B → Bool
  | [], [] => false
  | [], _ :: _ => true
  | _ :: _, [] => false
  | a :: x, b :: y => if a < b then true else if b < a then false else ltB x y
def insP {α : Type} (p : B × α) : List (B × α) → List (B × α)
  | [] => [p]
  | q :: l => if ltB p.1 q.1 then p :: q :: l else q :: insP p l
/-- Pairs by rising names. -/
def sortP {α : Type} (l : List (B × α)) : List (B × α) := l.foldr insP []
def joinB : List B → B
  | [] => []
  | [x] => x
  | x :: y :: l => x ++ 44 :: joinB (y :: l)
def memB (p : B × B) : B := quoteB p.1 ++ 58 :: p.2
mutual
/-- The print of a value that can be. -/
def textJ : J → B
  | .mk k n t ns is =>
    if k = 0 then [110, 117, 108, 108]
    else if k = 1 then (if n = 1 then [116, 114, 117, 101] else [102, 97, 108, 115, 101])
    else if k = 2 then Lib.itoa n
    else if k = 3 then quoteB t
    else if k = 4 then 91 :: (joinB (textsJ is) ++ [93])
    else 123 :: (joinB ((sortP (ns.zip (textsJ is))).map memB) ++ [125])
def textsJ : List J → List B
  | [] => []
  | v :: l => textJ v :: textsJ l
end
/-- What Print tells. -/
def printJ (v : J) : B × Nat := if checkJ 0 v ≠ 0 then ([], checkJ 0 v) else if 65536 < (textJ v).length then ([], 4) else (textJ v, 0)
def sameJ (a b : J) : Bool := checkJ 0 a == 0 && checkJ 0 b == 0 && textJ a == textJ b
mutual
/-- The value with its members by rising names. -/
def canonJ : J → J
  | .mk k n t ns is => if k = 5 then .mk k n t ((sortP (ns.zip (canonsJ is))).map (·.1)) ((sortP (ns.zip (canonsJ is))).map (·.2)) else .mk k n t ns (canonsJ is)
def canonsJ : List J → List J
  | [] => []
  | v :: l => canonJ v :: canonsJ l
end
end Go.Proofs.YthkpbgpgcpkiiaaGreatDoor
