/- The functions together. -/
import Derived.Test.YtdieenbfdeaffaaVMn1
namespace Go.Proofs.Ytdieenbfdeaffaa.VMn
open Go Vpi
set_option maxRecDepth 100000

def tab : List (Nat × RFun) := [(7, f7), (24, f24), (25, f25), (26, f26), (27, f27), (54, f54), (62, f62), (63, f63), (64, f64), (65, f65), (66, f66), (67, f67), (68, f68), (69, f69), (77, f77), (80, f80), (93, f93), (96, f96), (97, f97), (98, f98), (105, f105), (107, f107), (108, f108), (111, f111), (112, f112), (113, f113), (119, f119), (121, f121), (133, f133), (134, f134), (137, f137), (138, f138), (144, f144), (145, f145), (146, f146), (148, f148), (157, f157), (158, f158), (159, f159), (169, f169), (176, f176), (177, f177), (178, f178), (184, f184), (185, f185), (186, f186), (187, f187), (188, f188), (201, f201)]

def rp : RProg := fun f => (tab.find? fun x => x.1 == f).map (·.2)

theorem all_ok : (tab.all fun x => chkF Try.prog x.1 x.2) = true := by
  simp only [tab, List.all_cons, List.all_nil, c7, c24, c25, c26, c27, c54, c62, c63, c64, c65, c66, c67, c68, c69, c77, c80, c93, c96, c97, c98, c105, c107, c108, c111, c112, c113, c119, c121, c133, c134, c137, c138, c144, c145, c146, c148, c157, c158, c159, c169, c176, c177, c178, c184, c185, c186, c187, c188, c201, Bool.and_self]

theorem rp_ok : ∀ f rf, rp f = some rf → chkF Try.prog f rf = true := by
  intro f rf h
  unfold rp at h
  rw [Option.map_eq_some_iff] at h
  obtain ⟨x, hx, rfl⟩ := h
  have h1 := List.find?_some hx
  have h2 := List.mem_of_find?_eq_some hx
  have h3 := List.all_eq_true.1 all_ok x h2
  have h4 : x.1 = f := by simpa using h1
  rw [← h4]; exact h3

theorem mixed : Try.prog.follows .mixedOrders = true := by kernel_rfl

theorem sim (m : Nat) : CallSim Try.prog (runF rp m) := callSim mixed rp_ok m

end Go.Proofs.Ytdieenbfdeaffaa.VMn
