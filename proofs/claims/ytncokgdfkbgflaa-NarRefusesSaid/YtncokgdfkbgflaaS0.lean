/- Plain words: a number in eight bytes, a text with its length ahead and bytes 0 behind. -/
import Derived.Lib.Strings
namespace Go.Proofs.Ytncokgdfkbgflaa

/-- A number in eight bytes, the lowest first. -/
def le8 (n : Nat) : List UInt8 := [UInt8.ofNat n, UInt8.ofNat (n / 2 ^ 8), UInt8.ofNat (n / 2 ^ 16), UInt8.ofNat (n / 2 ^ 24), UInt8.ofNat (n / 2 ^ 32), UInt8.ofNat (n / 2 ^ 40), UInt8.ofNat (n / 2 ^ 48), UInt8.ofNat (n / 2 ^ 56)]
/-- How many bytes 0 fill a text. -/
def pad (n : Nat) : Nat := (8 - n % 8) % 8
/-- A text, with its length ahead, and bytes 0 behind. -/
def strB (s : List UInt8) : List UInt8 := le8 s.length ++ s ++ List.replicate (pad s.length) 0
/-- Of each. -/
def strsB : List (List UInt8) → List UInt8
  | [] => []
  | s :: l => strB s ++ strsB l

theorem le8_length (n : Nat) : (le8 n).length = 8 := rfl
theorem strB_length (s : List UInt8) : (strB s).length = 8 + s.length + pad s.length := by simp [strB, le8_length]; omega
theorem strB_le (s : List UInt8) : (strB s).length ≤ s.length + 15 := by rw [strB_length]; unfold pad; omega
theorem strB_mod (s : List UInt8) : (strB s).length % 8 = 0 := by rw [strB_length]; unfold pad; omega
theorem strsB_append (a b : List (List UInt8)) : strsB (a ++ b) = strsB a ++ strsB b := by
  induction a with
  | nil => rfl
  | cons s l ih => simp [strsB, ih]
end Go.Proofs.Ytncokgdfkbgflaa
