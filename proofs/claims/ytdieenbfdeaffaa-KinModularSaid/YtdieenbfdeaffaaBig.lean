/- Whole numbers as lists of limbs: plain facts, no program in sight. -/
import Derived.Test.YtdieenbfdeaffaaVpiCore
namespace Go.Proofs.Ytdieenbfdeaffaa.Vpi
open Go
set_option linter.unusedVariables false

/-- the base of the limbs -/
def LB : Nat := 4294967296

theorem LB_pos : 0 < LB := by decide

def val : List Nat → Nat
  | [] => 0
  | x :: l => x + LB * val l

def lm (l : List Nat) : List PV := l.map fun (x : Nat) => .int .u32 (x : Int)

def dgl (n : Nat) : List Nat := if h : n = 0 then [] else n % LB :: dgl (n / LB)
termination_by n
decreasing_by exact Nat.div_lt_self (Nat.pos_of_ne_zero h) (by decide)

def trimL : List Nat → List Nat
  | [] => []
  | x :: l => if x = 0 ∧ trimL l = [] then [] else x :: trimL l

/-- all are limbs -/
def Lim (l : List Nat) : Prop := ∀ x ∈ l, x < LB

/-- a number with a sign, in its one form -/
def mk (neg : Bool) (v : Nat) : PV := .agg [.bool (neg && decide (v ≠ 0)), .sl (lm (dgl v))]
def zi (x : Int) : PV := mk (decide (x < 0)) x.natAbs

theorem mk_cells {neg : Bool} {v : Nat} : (mk neg v).cells = [.bool (neg && decide (v ≠ 0)), .sl (lm (dgl v))] := rfl
theorem zi_cells {x : Int} : (zi x).cells = [.bool (decide (x < 0) && decide (x.natAbs ≠ 0)), .sl (lm (dgl x.natAbs))] := rfl
theorem dgl_zero : dgl 0 = [] := by rw [dgl]; simp
theorem dgl_pos {n : Nat} (h : n ≠ 0) : dgl n = n % LB :: dgl (n / LB) := by rw [dgl]; simp [h]
theorem lm_len {l : List Nat} : (lm l).length = l.length := by simp [lm]
theorem lm_get {l : List Nat} {i : Nat} (h : i < l.length) : (lm l)[i]? = some (.int .u32 (l[i] : Nat)) := by simp [lm, h]
theorem lm_get? {l : List Nat} {i x : Nat} (h : l[i]? = some x) : (lm l)[i]? = some (.int .u32 (x : Nat)) := by simp [lm, h]
theorem lm_take {l : List Nat} {n : Nat} : (lm l).take n = lm (l.take n) := by simp [lm, List.map_take]
theorem lm_drop {l : List Nat} {n : Nat} : (lm l).drop n = lm (l.drop n) := by simp [lm, List.map_drop]
theorem lm_append {l m : List Nat} : lm l ++ lm m = lm (l ++ m) := by simp [lm]
theorem lm_set {l : List Nat} {i x : Nat} : (lm l).set i (.int .u32 (x : Nat)) = lm (l.set i x) := by simp [lm, List.map_set]
theorem lm_rep {n : Nat} : List.replicate n (PV.int .u32 0) = lm (List.replicate n 0) := by simp [lm]
theorem lm_nil : lm [] = [] := rfl
theorem lm_cons {x : Nat} {l : List Nat} : lm (x :: l) = .int .u32 (x : Nat) :: lm l := rfl
theorem lm_sz {l : List Nat} : allSz 1 (lm l) = true := by simp [allSz, lm, PV.cells]

theorem val_append {l m : List Nat} : val (l ++ m) = val l + LB ^ l.length * val m := by
  induction l with
  | nil => simp [val]
  | cons x l ih => simp only [List.cons_append, val, ih, List.length_cons, Nat.pow_succ]; rw [Nat.mul_add, ← Nat.add_assoc, ← Nat.mul_assoc, Nat.mul_comm LB (LB ^ l.length)]

theorem val_lt {l : List Nat} (h : Lim l) : val l < LB ^ l.length := by
  induction l with
  | nil => simp [val]
  | cons x l ih =>
    have h1 := h x (List.mem_cons_self ..)
    have h2 := ih fun y hy => h y (List.mem_cons_of_mem _ hy)
    simp only [val, List.length_cons, Nat.pow_succ]
    have h3 : LB * (val l + 1) ≤ LB * LB ^ l.length := Nat.mul_le_mul_left _ h2
    rw [Nat.mul_add] at h3
    rw [Nat.mul_comm (LB ^ l.length)]
    omega

theorem trimL_dgl : ∀ {l : List Nat}, Lim l → trimL l = dgl (val l)
  | [], _ => by simp [trimL, val, dgl_zero]
  | x :: l, h => by
    have h1 := h x (List.mem_cons_self ..)
    have h2 := trimL_dgl (l := l) fun y hy => h y (List.mem_cons_of_mem _ hy)
    simp only [trimL, h2, val]
    by_cases hv : val l = 0
    · rw [hv, dgl_zero]
      by_cases hx : x = 0
      · simp [hx, dgl_zero]
      · rw [dgl_pos (by omega)]
        simp only [hx, false_and, if_false, Nat.mul_zero, Nat.add_zero]
        rw [Nat.mod_eq_of_lt h1, Nat.div_eq_of_lt h1, dgl_zero]
    · rw [dgl_pos (n := x + LB * val l) (by have := Nat.mul_pos LB_pos (Nat.pos_of_ne_zero hv); omega)]
      rw [Nat.add_mul_mod_self_left, Nat.mod_eq_of_lt h1, Nat.add_mul_div_left _ _ LB_pos, Nat.div_eq_of_lt h1, Nat.zero_add]
      rw [dgl_pos hv]
      simp

theorem trimL_nil : ∀ {l : List Nat}, (∀ x ∈ l, x = 0) → trimL l = []
  | [], _ => rfl
  | x :: l, h => by
    simp only [trimL, trimL_nil (l := l) fun y hy => h y (List.mem_cons_of_mem _ hy), h x (List.mem_cons_self ..)]
    simp

theorem trimL_take : ∀ {l : List Nat} {n : Nat}, (∀ i, n ≤ i → ∀ x, l[i]? = some x → x = 0) → (n = 0 ∨ ∃ x, l[n - 1]? = some x ∧ x ≠ 0) → trimL l = l.take n
  | [], n, _, _ => by simp [trimL]
  | x :: l, 0, h, _ => by
    rw [List.take_zero]
    refine trimL_nil fun y hy => ?_
    obtain ⟨i, hi, rfl⟩ := List.getElem_of_mem hy
    exact h i (Nat.zero_le _) _ (by simp)
  | x :: l, 1, h, hn => by
    have h2 : trimL l = [] := trimL_nil fun y hy => by
      obtain ⟨i, hi, rfl⟩ := List.getElem_of_mem hy
      exact h (i + 1) (by omega) _ (by simp)
    obtain hn | ⟨y, hy, h0⟩ := hn
    · omega
    · simp at hy
      subst hy
      simp [trimL, h2, h0]
  | x :: l, n + 2, h, hn => by
    obtain hn | ⟨y, hy, h0⟩ := hn
    · omega
    have h2 := trimL_take (l := l) (n := n + 1) (fun i hi z hz => h (i + 1) (by omega) z (by simpa using hz)) (.inr ⟨y, by simpa using hy, h0⟩)
    have hne : l.take (n + 1) ≠ [] := by
      intro h3
      cases l with
      | nil => simp at hy
      | cons a b => simp at h3
    simp only [trimL, h2, List.take_succ_cons]
    rw [if_neg (by simp [hne])]

theorem dgl_lim (n : Nat) : Lim (dgl n) := by
  induction n using Nat.strongRecOn with
  | ind n ih =>
    intro x hx
    by_cases h : n = 0
    · subst h; rw [dgl_zero] at hx; cases hx
    · rw [dgl_pos h] at hx
      rcases List.mem_cons.1 hx with rfl | hx
      · exact Nat.mod_lt _ LB_pos
      · exact ih _ (Nat.div_lt_self (Nat.pos_of_ne_zero h) (by decide)) x hx

theorem val_dgl (n : Nat) : val (dgl n) = n := by
  induction n using Nat.strongRecOn with
  | ind n ih =>
    by_cases h : n = 0
    · subst h; rw [dgl_zero]; rfl
    · rw [dgl_pos h, val, ih _ (Nat.div_lt_self (Nat.pos_of_ne_zero h) (by decide))]
      exact Nat.mod_add_div n LB

theorem dgl_len {n k : Nat} (h : n < LB ^ k) : (dgl n).length ≤ k := by
  induction k generalizing n with
  | zero => simp at h; subst h; rw [dgl_zero]; simp
  | succ k ih =>
    by_cases h0 : n = 0
    · subst h0; rw [dgl_zero]; simp
    · rw [dgl_pos h0, List.length_cons]
      have : n / LB < LB ^ k := by
        rw [Nat.div_lt_iff_lt_mul LB_pos, ← Nat.pow_succ]
        exact h
      have := ih this
      omega

theorem dgl_ne {n : Nat} (h : n ≠ 0) : dgl n ≠ [] := by rw [dgl_pos h]; simp

/-- two limbs -/
theorem val_two {v : Nat} (h : v < LB * LB) : val [v % LB, v / LB] = v := by
  simp only [val, Nat.mul_zero, Nat.add_zero]
  exact Nat.mod_add_div v LB
theorem lim_two {v : Nat} (h : v < LB * LB) : Lim [v % LB, v / LB] := by
  intro x hx
  simp only [List.mem_cons, List.not_mem_nil, or_false] at hx
  rcases hx with rfl | rfl
  · exact Nat.mod_lt _ LB_pos
  · exact Nat.div_lt_of_lt_mul h
end Go.Proofs.Ytdieenbfdeaffaa.Vpi
