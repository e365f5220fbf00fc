/- JSON: values, characters, the parser as plain functions. Conditions: none. -/
import Derived.Test.YtigdjnfnkjfkmaaGreatDoorBase
namespace Go.Proofs.YtigdjnfnkjfkmaaGreatDoor
set_option linter.unusedVariables false
set_option linter.unusedSimpArgs false
set_option maxRecDepth 100000

/-- A value. -/
inductive J where
  | mk (kind int : Int) (text : B) (names : List B) (items : List J)
namespace J
def kind : J → Int | .mk k _ _ _ _ => k
def int : J → Int | .mk _ n _ _ _ => n
def text : J → B | .mk _ _ t _ _ => t
def names : J → List B | .mk _ _ _ ns _ => ns
def items : J → List J | .mk _ _ _ _ is => is
end J
def J0 : J := .mk 0 0 [] [] []

/-- Characters: how long one is that begins with a byte, and which byte may come second. -/
def longB (c : UInt8) : Nat × UInt8 × UInt8 :=
  if c < 0x80 then (1, 0x80, 0xbf)
  else if 0xc2 ≤ c ∧ c ≤ 0xdf then (2, 0x80, 0xbf)
  else if c = 0xe0 then (3, 0xa0, 0xbf)
  else if c = 0xed then (3, 0x80, 0x9f)
  else if 0xe1 ≤ c ∧ c ≤ 0xef then (3, 0x80, 0xbf)
  else if c = 0xf0 then (4, 0x90, 0xbf)
  else if c = 0xf4 then (4, 0x80, 0x8f)
  else if 0xf1 ≤ c ∧ c ≤ 0xf3 then (4, 0x80, 0xbf)
  else (0, 0, 0)
def contB (lo hi c : UInt8) : Bool := decide (lo ≤ c) && decide (c ≤ hi)
/-- Do the bytes behind the first fit? -/
def tailB : Nat → UInt8 → UInt8 → B → Bool
  | 0, _, _, _ => true
  | n + 1, lo, hi, [] => false
  | n + 1, lo, hi, c :: r => contB lo hi c && tailB n 0x80 0xbf r
/-- How many bytes the character has with which a text begins; 0: none begins it. -/
def firstB : B → Nat
  | [] => 0
  | c :: r => if (longB c).1 = 0 then 0 else if tailB ((longB c).1 - 1) (longB c).2.1 (longB c).2.2 r then (longB c).1 else 0
/-- Is a text whole characters? -/
def wholeF : Nat → B → Bool
  | 0, l => l.isEmpty
  | n + 1, l => if l = [] then true else if firstB l = 0 then false else wholeF n (l.drop (firstB l))
def wholeL (l : B) : Bool := wholeF l.length l

/-- What a part of the parser tells: what was read and what is left; or where it gave up (what was left), and why. -/
inductive PR (α : Type) where
  | ok (a : α) (r : B)
  | fail (r : B) (why : Nat)
def blankB (c : UInt8) : Bool := c == 32 || c == 9 || c == 10 || c == 13
def skipB (l : B) : B := l.dropWhile blankB
def oneB (of : B) : B → PR UInt8
  | [] => .fail [] 40
  | c :: r => if of.contains c then .ok c r else .fail (c :: r) 40
def wordB : B → B → PR Unit
  | [], l => .ok () l
  | c :: w, l => match oneB [c] l with
    | .fail r e => .fail r e
    | .ok _ r => wordB w r
def digitsL : B := [48, 49, 50, 51, 52, 53, 54, 55, 56, 57]
def digB (c : UInt8) : Bool := decide (48 ≤ c) && decide (c ≤ 57)
/-- A number's digits, from the first on. -/
def numB (neg zero : Bool) (n : Int) : B → PR Int
  | [] => .fail [] 40
  | c :: r =>
    if (neg = false ∧ n > (9223372036854775807 - ((c.toNat : Int) - 48)) / 10) ∨ (neg = true ∧ n < (-9223372036854775808 + ((c.toNat : Int) - 48)).tdiv 10) then .fail (c :: r) 42
    else match r with
      | [] => .ok (if neg then 10 * n - ((c.toNat : Int) - 48) else 10 * n + ((c.toNat : Int) - 48)) []
      | d :: r' =>
        if digB d && !zero then numB neg zero (if neg then 10 * n - ((c.toNat : Int) - 48) else 10 * n + ((c.toNat : Int) - 48)) (d :: r')
        else if d == 46 || d == 101 || d == 69 then .fail (d :: r') 42
        else .ok (if neg then 10 * n - ((c.toNat : Int) - 48) else 10 * n + ((c.toNat : Int) - 48)) (d :: r')
def numberB : B → PR Int
  | [] => .fail [] 40
  | m :: l =>
    if m = 45 then match oneB digitsL l with
      | .fail r e => .fail r e
      | .ok c _ => numB true (c == 48) 0 l
    else match oneB digitsL (m :: l) with
      | .fail r e => .fail r e
      | .ok c _ => numB false (c == 48) 0 (m :: l)
def hexDL : B := [48, 49, 50, 51, 52, 53, 54, 55, 56, 57, 97, 98, 99, 100, 101, 102, 65, 66, 67, 68, 69, 70]
def hexVal (c : UInt8) : Nat := if c ≤ 57 then c.toNat - 48 else if 97 ≤ c then c.toNat - 87 else c.toNat - 55
/-- m digits more, behind which n stands. -/
def hexGo (two : B) : Nat → Nat → B → PR Nat
  | 0, n, l => .ok n l
  | m + 1, n, l => match oneB (if m = 2 ∧ n = 13 then two else hexDL) l with
    | .fail r e => .fail r e
    | .ok c r => hexGo two m (16 * n + hexVal c) r
def hexB (two : B) (l : B) : PR Nat := hexGo two 4 0 l
def utf8B (n : Nat) : B :=
  if n < 128 then [UInt8.ofNat n]
  else if n < 2048 then [UInt8.ofNat (192 + n / 64), UInt8.ofNat (128 + n % 64)]
  else if n < 65536 then [UInt8.ofNat (224 + n / 4096), UInt8.ofNat (128 + n / 64 % 64), UInt8.ofNat (128 + n % 64)]
  else [UInt8.ofNat (240 + n / 262144), UInt8.ofNat (128 + n / 4096 % 64), UInt8.ofNat (128 + n / 64 % 64), UInt8.ofNat (128 + n % 64)]
def loTwo : B := [48, 49, 50, 51, 52, 53, 54, 55, 56, 57, 97, 98, 65, 66]
def hiTwo : B := [99, 100, 101, 102, 67, 68, 69, 70]
def escL : B := [34, 92, 47, 98, 102, 110, 114, 116, 117]
def ctlB (c : UInt8) : Option UInt8 := if c = 98 then some 8 else if c = 102 then some 12 else if c = 110 then some 10 else if c = 114 then some 13 else if c = 116 then some 9 else none
/-- What stands behind a backslash. -/
def escB (l : B) : PR B := match oneB escL l with
  | .fail r e => .fail r e
  | .ok c r => match ctlB c with
    | some d => .ok [d] r
    | none =>
      if c ≠ 117 then .ok [c] r
      else match hexB loTwo r with
        | .fail r e => .fail r e
        | .ok n r =>
          if 0xd800 ≤ n ∧ n < 0xdc00 then match wordB [92, 117] r with
            | .fail r e => .fail r e
            | .ok _ r => match r with
              | [] => .fail [] 40
              | d :: _ =>
                if d ≠ 100 ∧ d ≠ 68 then .fail r 40
                else match hexB hiTwo r with
                  | .fail r e => .fail r e
                  | .ok m r => .ok (utf8B (0x10000 + (n - 0xd800) * 1024 + m - 0xdc00)) r
          else .ok (utf8B n) r
def endsB : List B := [[0x80], [0x80, 0x80], [0x80, 0x80, 0x80], [0xbf], [0xbf, 0xbf], [0xbf, 0xbf, 0xbf]]
/-- Is it the beginning of a character? -/
def growsB (b : B) : Bool := endsB.any fun e => wholeL (b ++ e)
/-- The next character: k bytes are taken. -/
def charF : Nat → Nat → B → PR B
  | 0, _, l => .fail l 0
  | f + 1, k, l =>
    if wholeL (l.take (k + 1)) then .ok (l.take (k + 1)) (l.drop (k + 1))
    else if growsB (l.take (k + 1)) = false then .fail (l.drop k) 40
    else if l.length ≤ k + 1 then .fail [] 40
    else charF f (k + 1) l
def charB (l : B) : PR B := charF (l.length + 1) 0 l
/-- What stands between quotes; what is left begins with the last one. -/
def textF : Nat → B → B → PR B
  | 0, _, l => .fail l 0
  | f + 1, acc, l => match l with
    | [] => .fail [] 40
    | c :: r =>
      if c = 34 then .ok acc (c :: r)
      else if c < 32 then .fail (c :: r) 40
      else if c = 92 then match escB r with
        | .fail r e => .fail r e
        | .ok b r => textF f (acc ++ b) r
      else match charB (c :: r) with
        | .fail r e => .fail r e
        | .ok b r => textF f (acc ++ b) r
def textB (l : B) : PR B := match oneB [34] l with
  | .fail r e => .fail r e
  | .ok _ r => textF (r.length + 1) [] r
def mapPR {α β : Type} (g : α → β) : PR α → PR β
  | .ok a r => .ok (g a) r
  | .fail r e => .fail r e

mutual
/-- The next value, within deep others. -/
def valF : Nat → Nat → B → PR J
  | 0, _, l => .fail l 0
  | f + 1, deep, l => match skipB l with
    | [] => .fail [] 40
    | c :: r =>
      if c = 91 ∨ c = 123 then
        if 16 ≤ deep then .fail (c :: r) 41
        else if c = 91 then match skipB r with
          | [] => .fail [] 40
          | d :: r' => if d = 93 then .ok (.mk 4 0 [] [] []) r' else itemsF f (deep + 1) [] (d :: r')
        else match skipB r with
          | [] => .fail [] 40
          | d :: r' => if d = 125 then .ok (.mk 5 0 [] [] []) r' else memsF f (deep + 1) [] [] (d :: r')
      else if c = 34 then match textB (c :: r) with
        | .fail r e => .fail r e
        | .ok s r => .ok (.mk 3 0 s [] []) (r.drop 1)
      else if c = 110 then mapPR (fun _ => J0) (wordB [110, 117, 108, 108] (c :: r))
      else if c = 116 then mapPR (fun _ => .mk 1 1 [] [] []) (wordB [116, 114, 117, 101] (c :: r))
      else if c = 102 then mapPR (fun _ => .mk 1 0 [] [] []) (wordB [102, 97, 108, 115, 101] (c :: r))
      else if c = 45 ∨ digB c = true then mapPR (fun n => .mk 2 n [] [] []) (numberB (c :: r))
      else .fail (c :: r) 40
/-- A list's items, behind those that were read. -/
def itemsF : Nat → Nat → List J → B → PR J
  | 0, _, _, l => .fail l 0
  | f + 1, deep, acc, l => match valF f deep l with
    | .fail r e => .fail r e
    | .ok v r => match oneB [44, 93] (skipB r) with
      | .fail r e => .fail r e
      | .ok c r => if c = 93 then .ok (.mk 4 0 [] [] (acc ++ [v])) r else itemsF f deep (acc ++ [v]) r
/-- An object's members, behind those that were read. -/
def memsF : Nat → Nat → List B → List J → B → PR J
  | 0, _, _, _, l => .fail l 0
  | f + 1, deep, ns, is, l => match textB (skipB l) with
    | .fail r e => .fail r e
    | .ok s r =>
      if ns.contains s then .fail r 43
      else match oneB [58] (skipB (r.drop 1)) with
        | .fail r e => .fail r e
        | .ok _ r => match valF f deep r with
          | .fail r e => .fail r e
          | .ok v r => match oneB [44, 125] (skipB r) with
            | .fail r e => .fail r e
            | .ok c r => if c = 125 then .ok (.mk 5 0 [] (ns ++ [s]) (is ++ [v])) r else memsF f deep (ns ++ [s]) (is ++ [v]) r
end
def fuelB (l : B) : Nat := 2 * l.length + 2
/-- A whole text: the value; or how much was left, and why. -/
def wholeP (l : B) : PR J := match valF (fuelB l) 0 l with
  | .fail r e => .fail r e
  | .ok v r => match skipB r with
    | [] => .ok v []
    | c :: r => .fail (c :: r) 40
/-- What Parse tells. -/
def parseJ (l : B) : J × Nat × Nat :=
  if 65536 < l.length then (J0, 0, 4)
  else match wholeP l with
    | .ok v _ => (v, 0, 0)
    | .fail r e => (J0, l.length - r.length, e)
end Go.Proofs.YtigdjnfnkjfkmaaGreatDoor
