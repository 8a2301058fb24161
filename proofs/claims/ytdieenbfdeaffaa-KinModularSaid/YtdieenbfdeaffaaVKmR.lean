/- KinModular: the argument's fields. -/
import Derived.Test.YtdieenbfdeaffaaVKmL
import Derived.Test.YtdieenbfdeaffaaVpiRow
namespace Go.Proofs.Ytdieenbfdeaffaa.VKd
open Go Vpi
set_option maxRecDepth 100000
set_option linter.unusedSimpArgs false
set_option linter.unusedVariables false
theorem shp_int {P : Program} {n : Nat} {t : TypeId} {k : IntKind} {ps : List PV} (ht : P.underlying t = some (.int k)) (h : shp P (n + 1) t ps) : ∃ i, ps = [.int k i] := by
  rw [shp, ht] at h
  obtain ⟨i, h, _⟩ := h
  exact ⟨i, h⟩
theorem shp_struct {P : Program} {n : Nat} {t : TypeId} {fs : Array Field} {ps : List PV} (ht : P.underlying t = some (.struct fs)) (h : shp P (n + 1) t ps) : shpL (shp P n) fs.toList ps := by
  rw [shp, ht] at h
  exact h
theorem row5 (ps : List PV) (w : shp Try.prog 8 38 ps) : Pu rp 5 [.agg ps] (.p (.bool true)) := by
  replace w := shp_struct Try.underlying38 w
  obtain ⟨a, r, rfl, ha, b, r, rfl, hb, c, r, rfl, hc, d, r, rfl, hd, rfl⟩ := w
  obtain ⟨n, rfl⟩ := shp_int Try.underlying3 ha
  obtain ⟨k, rfl⟩ := shp_int Try.underlying3 hb
  obtain ⟨q, rfl⟩ := shp_int Try.underlying22 hc
  obtain ⟨z, rfl⟩ := shp_int Try.underlying22 hd
  exact modular n k q z
end Go.Proofs.Ytdieenbfdeaffaa.VKd
