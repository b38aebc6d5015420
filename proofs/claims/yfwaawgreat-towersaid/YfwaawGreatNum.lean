import Derived.Test.YfwaawGreatN0
namespace Go.Aw

/-- A bound on every number that comes up; never reached. -/
def Lim : Nat := 2 ^ 1048576
def lim (n : Nat) : Bool := decide (n < Lim)
/-- The number of significant bits. -/
def blen (n : Nat) : Nat := if n = 0 then 0 else Nat.log2 n + 1
def nmod (a b : Nat) : Nat := if b = 0 then 0 else a % b
def ncmp (a b : Nat) : Int := if a < b then -1 else if a = b then 0 else 1
def nbit (a : Nat) (i : Int) : Bool := decide (0 ≤ i) && a.testBit i.toNat
def i64ok (i : Int) : Bool := decide (-9223372036854775808 ≤ i) && decide (i ≤ 9223372036854775807)
/-- The floor of the square root. -/
def isq : Nat → Nat
  | 0 => 0
  | n + 1 => if (isq n + 1) * (isq n + 1) ≤ n + 1 then isq n + 1 else isq n
end Go.Aw
