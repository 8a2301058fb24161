/- The functions together. -/
import Derived.Test.YtdieenbfdeaffaaVKd1
namespace Go.Proofs.Ytdieenbfdeaffaa.VKd
open Go Vpi
set_option maxRecDepth 100000

def tab : List (Nat × RFun) := [(3, f3), (5, f5), (12, f12), (13, f13), (17, f17), (18, f18), (19, f19), (20, f20), (21, f21), (49, f49), (50, f50), (53, f53), (54, f54), (55, f55), (56, f56), (57, f57), (58, f58), (66, f66), (68, f68), (98, f98), (104, f104), (105, f105), (106, f106), (107, f107)]

def rp : RProg := fun f => (tab.find? fun x => x.1 == f).map (·.2)

theorem all_ok : (tab.all fun x => chkF Try.prog x.1 x.2) = true := by
  simp only [tab, List.all_cons, List.all_nil, c3, c5, c12, c13, c17, c18, c19, c20, c21, c49, c50, c53, c54, c55, c56, c57, c58, c66, c68, c98, c104, c105, c106, c107, Bool.and_self]

theorem rp_ok : ∀ f rf, rp f = some rf → chkF Try.prog f rf = true := by
  intro f rf h
  unfold rp at h
  rw [Option.map_eq_some_iff] at h
  obtain ⟨x, hx, rfl⟩ := h
  have h1 := List.find?_some hx
  have h2 := List.mem_of_find?_eq_some hx
  have h3 := List.all_eq_true.1 all_ok x h2
  have h4 : x.1 = f := by simpa using h1
  rw [← h4]; exact h3

theorem mixed : Try.prog.follows .mixedOrders = true := by kernel_rfl

theorem sim (m : Nat) : CallSim Try.prog (runF rp m) := callSim mixed rp_ok m

end Go.Proofs.Ytdieenbfdeaffaa.VKd
