/- Plain facts and walks that the law's proof uses; each says its own conditions. -/
import Derived.Test.YtpeiolimdglmhaaGreatDoorZ03
import Derived.Test.YtpeiolimdglmhaaGreatDoorZ07
-- Plain mathematics: words, digits, decimals as lists of bytes; a string of the program's with these bytes.
namespace Go.Proofs.YtpeiolimdglmhaaGreatDoor
open Go

abbrev Bs := List UInt8
/-- the string with these bytes -/
def S (l : Bs) : ByteArray := ⟨l.toArray⟩
theorem S_size (l : Bs) : (S l).size = l.length := by simp [S, ByteArray.size]
theorem S_app (a b : Bs) : S a ++ S b = S (a ++ b) := ByteArray.mk_append_mk a b
theorem S_ext (l : Bs) (i j : Nat) : (S l).extract i j = S ((l.drop i).take (j - i)) := ByteArray.extract_mk l i j
theorem S_list (l : Bs) : (S l).toList = l := by rw [ByteArray.toList_eq]; simp [S]
/-- a number of at most two digits -/
def dec2 (n : Nat) : Bs := if n < 10 then [UInt8.ofNat (48 + n)] else [UInt8.ofNat (48 + n / 10), UInt8.ofNat (48 + n % 10)]
/-- numbers, each with a space ahead -/
def decs (l : List Int) : Bs := l.flatMap (fun n => 32 :: dec2 n.toNat)
def isDig (c : UInt8) : Bool := decide (48 ≤ c) && decide (c ≤ 57)
def digV (c : UInt8) : Int := (c.toNat : Int) - 48
/-- a word of one digit, or -1 -/
def dgt (s : Bs) : Int := match s with
  | [c] => if isDig c then digV c else -1
  | _ => -1
/-- the digits of a word of at most six -/
def dgs (s : Bs) : List Int := if decide (s.length ≤ 6) && s.all isDig then s.map digV else []
def isCell (c : UInt8) : Bool := c == 35 || c == 46
/-- a row that is read -/
def rowV (s : Bs) : Nat := mkRow (fun j => s[j]? == some 35) s.length
end Go.Proofs.YtpeiolimdglmhaaGreatDoor
