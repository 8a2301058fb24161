/- RelateNames, run by the interpreter in the kernel. -/
import Derived.Test.YtnbglampelmgoaaGreatVRn
namespace Go.Proofs.YtnbglampelmgoaaGreat.VRn
open Go Vpi
set_option maxRecDepth 100000

def isTrue : Option (CV × Store) → Bool
  | some (.p (.bool b), _) => b
  | _ => false

theorem runs : isTrue (runF rp 1000 3 [] []) = true := by kernel_rfl
end Go.Proofs.YtnbglampelmgoaaGreat.VRn
