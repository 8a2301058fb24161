/- The functions together. -/
import Derived.Test.YtiboahllkpociaaGreatVCn1
namespace Go.Proofs.YtiboahllkpociaaGreat.VCn
open Go Vpi
set_option maxRecDepth 100000

def tab : List (Nat × RFun) := [(5, f5), (6, f6), (10, f10), (11, f11), (13, f13), (23, f23), (24, f24), (25, f25), (30, f30), (34, f34), (37, f37), (41, f41), (46, f46), (47, f47), (48, f48), (49, f49), (50, f50), (52, f52), (53, f53), (55, f55), (57, f57), (58, f58), (64, f64), (65, f65), (72, f72), (73, f73), (74, f74), (75, f75), (76, f76), (78, f78), (90, f90), (94, f94), (95, f95), (96, f96), (97, f97), (98, f98), (99, f99)]

def rp : RProg := fun f => (tab.find? fun x => x.1 == f).map (·.2)

theorem all_ok : (tab.all fun x => chkF Tryz.prog x.1 x.2) = true := by
  simp only [tab, List.all_cons, List.all_nil, c5, c6, c10, c11, c13, c23, c24, c25, c30, c34, c37, c41, c46, c47, c48, c49, c50, c52, c53, c55, c57, c58, c64, c65, c72, c73, c74, c75, c76, c78, c90, c94, c95, c96, c97, c98, c99, Bool.and_self]

theorem rp_ok : ∀ f rf, rp f = some rf → chkF Tryz.prog f rf = true := by
  intro f rf h
  unfold rp at h
  rw [Option.map_eq_some_iff] at h
  obtain ⟨x, hx, rfl⟩ := h
  have h1 := List.find?_some hx
  have h2 := List.mem_of_find?_eq_some hx
  have h3 := List.all_eq_true.1 all_ok x h2
  have h4 : x.1 = f := by simpa using h1
  rw [← h4]; exact h3

theorem mixed : Tryz.prog.follows .mixedOrders = true := by kernel_rfl

theorem sim (m : Nat) : CallSim Tryz.prog (runF rp m) := callSim mixed rp_ok m

end Go.Proofs.YtiboahllkpociaaGreat.VCn
