/- The verified interpreter, part 25: rows of numbers in a block of their own. -/
import Derived.Test.YtdieenbfdeaffaaVpiGl
import Derived.Test.YtdieenbfdeaffaaBig
namespace Go.Proofs.Ytdieenbfdeaffaa.Vpi
open Go
set_option linter.unusedVariables false
set_option linter.unusedSimpArgs false

theorem mk_zero {s : Bool} : mk s 0 = .agg [.bool false, .sl []] := by simp [mk, dgl_zero, lm]
theorem updPV_mk {s s' : Bool} {v v' : Nat} : updPV (mk s v) 0 2 (mk s' v') = some (mk s' v') := by simp [updPV, mk, PV.cells, setCells]
theorem subPV_mk {s : Bool} {v : Nat} : subPV true 2 (mk s v) 0 = some (mk s v) := by simp [subPV, mk]
theorem updPV_int {k k' : IntKind} {a b : Int} : updPV (.int k a) 0 1 (.int k' b) = some (.int k' b) := rfl
theorem updPV_sl {a b : List PV} : updPV (.sl a) 0 1 (.sl b) = some (.sl b) := rfl

/-- all are numbers -/
def Nums (r : List PV) : Prop := ∀ (i : Nat), i < r.length → ∃ s v, r[i]? = some (mk s v)

theorem Nums.rep {n : Nat} : Nums (List.replicate n (mk false 0)) := by
  intro i hi
  exact ⟨false, 0, by rw [List.length_replicate] at hi; simp [hi]⟩
theorem Nums.set {r : List PV} (h : Nums r) {j : Nat} {s : Bool} {v : Nat} : Nums (r.set j (mk s v)) := by
  intro i hi
  rw [List.length_set] at hi
  by_cases hj : j = i
  · subst hj; exact ⟨s, v, by simp [hi]⟩
  · obtain ⟨s', v', h'⟩ := h i hi
    exact ⟨s', v', by rw [List.getElem?_set_ne hj]; exact h'⟩

section
variable {rp : RProg} {rs : List RRes} {ks : List KI} {base : Nat} {e : Env} {σ : Store} {Q : CV → Store → Prop} {d : Option Nat} {l : List LOp} {dr : Dr} {sz : Nat} {c : CV} {es xs : List PV}

theorem kc_keep' {f : Nat} {args : List CV} (h : Rn rp f args σ fun v τ => ExR rp rs base l dr ks (sto d v e) τ Q) : KC rp rs base .keep f args d l dr ks e σ Q := cl_keep h

theorem GL.set_ne (h : GL σ sz c es) {k : Nat} (hk : ∀ b o n, c = .own b o n → b ≠ k) {x : Blk} : GL (σ.set k x) sz c es := by
  rcases h with ⟨rfl, rfl⟩ | ⟨b, rfl, hb⟩
  · exact .nil
  · exact .own (by rw [List.getElem?_set_ne (fun h => hk _ _ _ rfl h.symm)]; exact hb) rfl

/-- a cell of a seed, a list of rows, and the row that is being made -/
structure Inv (σ : Store) (z : Int) (c : CV) (rows : List PV) (b : Nat) (row : List PV) : Prop where
  wf : Wf σ
  z : σ[0]? = some (.kblk 1 [.p (.int .u64 z)])
  gl : GL σ 1 c rows
  row : σ[b]? = some (.prow 2 row)
  ne : ∀ b' o n, c = .own b' o n → b' ≠ b

variable {z : Int} {rows row : List PV} {b : Nat}

theorem Inv.b0 (h : Inv σ z c rows b row) : b ≠ 0 := by
  rintro rfl
  have h1 := h.row
  rw [h.z] at h1
  cases h1

theorem Inv.put (h : Inv σ z c rows b row) {row' : List PV} : Inv (σ.set b (.prow 2 row')) z c rows b row' where
  wf := h.wf.set rfl
  z := by rw [List.getElem?_set_ne h.b0]; exact h.z
  gl := h.gl.set_ne h.ne
  row := get_self (List.getElem?_eq_some_iff.1 h.row).1
  ne := h.ne

theorem Inv.seed (h : Inv σ z c rows b row) {z' : Int} : Inv (σ.set 0 (.kblk 1 [.p (.int .u64 z')])) z' c rows b row where
  wf := h.wf.set rfl
  z := get_self (List.getElem?_eq_some_iff.1 h.z).1
  gl := h.gl.set h.z
  row := by rw [List.getElem?_set_ne h.b0.symm]; exact h.row
  ne := h.ne

/-- the row goes into the list -/
theorem Inv.done_gl (h : Inv σ z c rows b row) : GL (σ.set b .dead) 1 c rows := h.gl.set_ne h.ne
theorem Inv.done_z (h : Inv σ z c rows b row) {τ : Store} : (nd (σ.set b .dead) c ++ τ)[0]? = some (.kblk 1 [.p (.int .u64 z)]) :=
  nd_get h.done_gl (by rw [List.getElem?_set_ne h.b0]; exact h.z)
theorem Inv.done_wf (h : Inv σ z c rows b row) {a b' : Nat} {xs ys : List PV} : Wf (nd (σ.set b .dead) c ++ [.prow a xs, .prow b' ys]) := nd_wf2 (h.wf.set rfl)

theorem Inv.new (hw : Wf σ) (hz : σ[0]? = some (.kblk 1 [.p (.int .u64 z)])) (hg : GL σ 1 c rows) {τ : Store} (hwτ : Wf (σ ++ τ)) (hb : (σ ++ τ)[b]? = some (.prow 2 row)) (hle : σ.length ≤ b) : Inv (σ ++ τ) z c rows b row where
  wf := hwτ
  z := by rw [List.getElem?_append_left (List.getElem?_eq_some_iff.1 hz).1]; exact hz
  gl := hg.left
  row := hb
  ne := fun b' o n hc => by have := hg.lt.2 b' o n hc; omega

/-- the same without a seed -/
structure Jnv (σ : Store) (c : CV) (rows : List PV) (b : Nat) (row : List PV) : Prop where
  wf : Wf σ
  gl : GL σ 1 c rows
  row : σ[b]? = some (.prow 2 row)
  ne : ∀ b' o n, c = .own b' o n → b' ≠ b

theorem Jnv.lt (h : Jnv σ c rows b row) : b < σ.length := (List.getElem?_eq_some_iff.1 h.row).1
theorem Jnv.put (h : Jnv σ c rows b row) {row' : List PV} : Jnv (σ.set b (.prow 2 row')) c rows b row' where
  wf := h.wf.set rfl
  gl := h.gl.set_ne h.ne
  row := get_self h.lt
  ne := h.ne
theorem Jnv.push (h : Jnv σ c rows b row) {x : Blk} (hx : blkBelow (σ.length + 1) x = true) : Jnv (σ ++ [x]) c rows b row where
  wf := h.wf.push hx
  gl := h.gl.left
  row := by rw [List.getElem?_append_left h.lt]; exact h.row
  ne := h.ne
theorem Jnv.done_gl (h : Jnv σ c rows b row) : GL (σ.set b .dead) 1 c rows := h.gl.set_ne h.ne
theorem Jnv.done_wf (h : Jnv σ c rows b row) {a b' : Nat} {xs ys : List PV} : Wf (nd (σ.set b .dead) c ++ [.prow a xs, .prow b' ys]) := nd_wf2 (h.wf.set rfl)
theorem Jnv.new (hw : Wf σ) (hg : GL σ 1 c rows) {τ : Store} (hwτ : Wf (σ ++ τ)) (hb : (σ ++ τ)[b]? = some (.prow 2 row)) (hle : σ.length ≤ b) : Jnv (σ ++ τ) c rows b row where
  wf := hwτ
  gl := hg.left
  row := hb
  ne := fun b' o n hc => by have := hg.lt.2 b' o n hc; omega
theorem r_row' {n : Nat} {x y : Opd} (hn : n ≤ 4096) (hw : Wf σ) (hg : GL σ 1 c rows) (hx : vl e x = .p (.int .i64 n)) (hy : vl e y = .p (.int .i64 n))
    (h : ∀ ρ b, Jnv ρ c rows b (List.replicate n (mk false 0)) → ExR rp rs base l dr ks (sto d (.own b 0 n) e) ρ Q) :
    ExR rp rs base (⟨d, none, none, .mks false 2 32 (.agg [.bool false, .sl []]) x y⟩ :: l) dr ks e σ Q := by
  rw [r_mks]
  have h1 : 0 ≤ (n : Int) ∧ (n : Int) ≤ n ∧ ((32 : Nat) : Int) * n ≤ 281474976710656 ∧ (n : Int) ≤ 9223372036854775807 ∧ (PV.agg [.bool false, .sl []]).cells.length = 2 := ⟨by omega, by omega, by omega, by omega, rfl⟩
  simp only [ev, hx, hy, num_int, h1, and_self, if_true, push_none, Option.map_some, ke_some, Int.toNat_natCast]
  refine h _ _ (Jnv.new hw hg (hw.push rfl) ?_ (Nat.le_refl _))
  rw [get_app0, mk_zero]
  rfl

/-- make: a new row -/
theorem r_row {n : Nat} {x y : Opd} (hn : n ≤ 4096) (hw : Wf σ) (hz : σ[0]? = some (.kblk 1 [.p (.int .u64 z)])) (hg : GL σ 1 c rows) (hx : vl e x = .p (.int .i64 n)) (hy : vl e y = .p (.int .i64 n))
    (h : ∀ ρ b, Inv ρ z c rows b (List.replicate n (mk false 0)) → ExR rp rs base l dr ks (sto d (.own b 0 n) e) ρ Q) :
    ExR rp rs base (⟨d, none, none, .mks false 2 32 (.agg [.bool false, .sl []]) x y⟩ :: l) dr ks e σ Q := by
  rw [r_mks]
  have h1 : 0 ≤ (n : Int) ∧ (n : Int) ≤ n ∧ ((32 : Nat) : Int) * n ≤ 281474976710656 ∧ (n : Int) ≤ 9223372036854775807 ∧ (PV.agg [.bool false, .sl []]).cells.length = 2 := ⟨by omega, by omega, by omega, by omega, rfl⟩
  simp only [ev, hx, hy, num_int, h1, and_self, if_true, push_none, Option.map_some, ke_some, Int.toNat_natCast]
  refine h _ _ (Inv.new hw hz hg (hw.push rfl) ?_ (Nat.le_refl _))
  rw [get_app0, mk_zero]
  rfl
end
end Go.Proofs.Ytdieenbfdeaffaa.Vpi
