/- The functions together. -/
import Derived.Test.YtnbglampelmgoaaGreatVRn1
import Derived.Test.YtnbglampelmgoaaGreatVRn2
namespace Go.Proofs.YtnbglampelmgoaaGreat.VRn
open Go Vpi
set_option maxRecDepth 100000

def tab : List (Nat × RFun) := [(3, f3), (4, f4), (5, f5), (6, f6), (7, f7), (8, f8), (10, f10), (11, f11), (12, f12), (13, f13), (14, f14), (15, f15), (16, f16), (17, f17), (18, f18), (20, f20), (21, f21), (22, f22), (23, f23), (24, f24), (25, f25), (26, f26), (27, f27), (28, f28), (29, f29), (30, f30), (31, f31), (32, f32), (40, f40), (41, f41), (42, f42), (43, f43), (44, f44), (45, f45), (46, f46), (47, f47), (48, f48), (49, f49), (50, f50), (51, f51), (52, f52), (65, f65), (66, f66), (67, f67), (68, f68), (69, f69), (70, f70), (71, f71), (72, f72), (73, f73), (74, f74), (75, f75), (76, f76), (101, f101), (102, f102), (103, f103), (104, f104), (105, f105), (106, f106), (107, f107), (108, f108), (109, f109), (110, f110), (111, f111), (112, f112), (113, f113), (114, f114), (115, f115), (165, f165), (166, f166), (212, f212)]

def rp : RProg := fun f => (tab.find? fun x => x.1 == f).map (·.2)

theorem all_ok : (tab.all fun x => chkF Tryz.prog x.1 x.2) = true := by
  simp only [tab, List.all_cons, List.all_nil, c3, c4, c5, c6, c7, c8, c10, c11, c12, c13, c14, c15, c16, c17, c18, c20, c21, c22, c23, c24, c25, c26, c27, c28, c29, c30, c31, c32, c40, c41, c42, c43, c44, c45, c46, c47, c48, c49, c50, c51, c52, c65, c66, c67, c68, c69, c70, c71, c72, c73, c74, c75, c76, c101, c102, c103, c104, c105, c106, c107, c108, c109, c110, c111, c112, c113, c114, c115, c165, c166, c212, Bool.and_self]

theorem rp_ok : ∀ f rf, rp f = some rf → chkF Tryz.prog f rf = true := by
  intro f rf h
  unfold rp at h
  rw [Option.map_eq_some_iff] at h
  obtain ⟨x, hx, rfl⟩ := h
  have h1 := List.find?_some hx
  have h2 := List.mem_of_find?_eq_some hx
  have h3 := List.all_eq_true.1 all_ok x h2
  have h4 : x.1 = f := by simpa using h1
  rw [← h4]; exact h3

theorem mixed : Tryz.prog.follows .mixedOrders = true := by kernel_rfl

theorem sim (m : Nat) : CallSim Tryz.prog (runF rp m) := callSim mixed rp_ok m

end Go.Proofs.YtnbglampelmgoaaGreat.VRn
