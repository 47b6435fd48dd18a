/- The trees of NarLimits: may they be? -/
import Derived.Test.YtncokgdfkbgflaaS3
namespace Go.Proofs.Ytncokgdfkbgflaa

def rootN : Nd := ⟨[], 4, []⟩
def nameN (m : Nat) : List Nd := [rootN, ⟨List.replicate m 110, 1, []⟩]
def chainPath : Nat → List UInt8
  | 0 => [100]
  | i + 1 => chainPath i ++ [47, 100]
def chainN (m : Nat) : List Nd := rootN :: (List.range m).map fun j => ⟨chainPath j, 4, []⟩
def flatPath (i : Nat) : List UInt8 := [UInt8.ofNat (97 + i / 26 % 26), UInt8.ofNat (97 + i % 26)]
def flatN (m : Nat) : List Nd := rootN :: (List.range m).map fun j => ⟨flatPath (j + 1), 1, []⟩

set_option maxRecDepth 100000 in
theorem nameN_may : (List.range 10).all (fun m => May (nameN (250 + m)) == decide (250 + m ≤ 255)) = true := by decide +kernel
set_option maxRecDepth 100000 in
theorem flatN_may : (List.range 12).all (fun m => May (flatN (249 + m)) == decide (250 + m ≤ 256)) = true := by decide +kernel
set_option maxRecDepth 100000 in
theorem chainN_may : (List.range 8).all (fun m => May (chainN (60 + m)) == decide (60 + m ≤ 64)) = true := by decide +kernel
end Go.Proofs.Ytncokgdfkbgflaa
