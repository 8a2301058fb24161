/- The verified interpreter, part 23: lists that grow by append; Whole numbers as lists of limbs: plain facts, no program in sight; The verified interpreter, part 25: rows of numbers in a block of their own; The verified interpreter, part 27: all rewriting rules of a run in one word; The verified interpreter, part 22: what a row reads of an argument is a value without references; The verified interpreter, part 24: from a run of the interpreter to what a row asks; The verified interpreter, part 26: a larger table of functions answers what a smaller one does. No condition. -/
import Derived.Test.YtdieenbfdeaffaaZa2
import Derived.Test.YtdieenbfdeaffaaZa1
import Derived.Deep.Slices
import Derived.Carry
import Derived.Below

namespace Go.Proofs.Ytdieenbfdeaffaa.Vpi
open Go
set_option linter.unusedVariables false
set_option linter.unusedSimpArgs false

/-- a list on its way: nil, or a block of its own -/
def GL (σ : Store) (sz : Nat) (c : CV) (es : List PV) : Prop := (c = .nils ∧ es = []) ∨ ∃ b, c = .own b 0 es.length ∧ σ[b]? = some (.prow sz es)

/-- the store without a list's block -/
def nd (σ : Store) : CV → Store
  | .own b _ _ => σ.set b .dead
  | _ => σ

theorem back1_p {b : Nat} {σ : Store} {v : PV} : back1 b σ (.p v) = some (.p v) := by cases v <;> rfl
theorem back_p {b : Nat} {σ : Store} {v : PV} : back b σ (.p v) = some (.p v) := by cases v <;> rfl
theorem back1_nils {b : Nat} {σ : Store} : back1 b σ .nils = some (.p (.sl [])) := rfl
theorem back_t2 {b : Nat} {σ : Store} {x y : CV} {p q : PV} (hx : back1 b σ x = some (.p p)) (hy : back1 b σ y = some (.p q)) : back b σ (.tup [x, y]) = some (.tup [.p p, .p q]) := by
  simp only [back, backL, hx, hy, Option.map_some]
theorem back_t3 {b : Nat} {σ : Store} {x y z : CV} {p q r : PV} (hx : back1 b σ x = some (.p p)) (hy : back1 b σ y = some (.p q)) (hz : back1 b σ z = some (.p r)) : back b σ (.tup [x, y, z]) = some (.tup [.p p, .p q, .p r]) := by
  simp only [back, backL, hx, hy, hz, Option.map_some]

theorem nd_len {σ : Store} {c : CV} : (nd σ c).length = σ.length := by cases c <;> simp [nd]

section
variable {rp : RProg} {rs : List RRes} {ks : List KI} {base : Nat} {e : Env} {σ : Store} {Q : CV → Store → Prop} {d : Option Nat} {l : List LOp} {dr : Dr} {sz : Nat} {c : CV} {es xs : List PV}

/-- a loop: where it stands is told by a value b -/
theorem loop_rule {β : Type} (S : β → Env × Store) (I : β → Prop) (μ : β → Nat) {keep : List Nat} {c : RCode} (b0 : β) (h0 : fgt keep e = (S b0).1) (h1 : σ = (S b0).2) (hi : I b0)
    (hstep : ∀ b, I b → (∀ b' e', I b' → μ b' < μ b → fgt keep e' = (S b').1 → Ex rp rs .skip (.lp (.fg keep c) :: ks) e' (S b').2 Q) → Ex rp rs c (.lp (.fg keep c) :: ks) (S b).1 (S b).2 Q) : Ex rp rs (.loop (.fg keep c)) ks e σ Q := by
  rw [ex_loop, ex_fg, h0, h1]
  have key : ∀ n b, I b → μ b < n → Ex rp rs c (.lp (.fg keep c) :: ks) (S b).1 (S b).2 Q := by
    intro n
    induction n with
    | zero => intro b _ h; omega
    | succ n ih =>
      intro b hb hn
      refine hstep b hb fun b' e' hb' hlt he => ?_
      rw [ex_lp, ex_fg, he]
      exact ih b' hb' (by omega)
  exact key _ b0 hi (Nat.lt_succ_self _)

/-- a loop in its block, and what comes behind -/
theorem bloop {β γ : Type} (S : β → Env × Store) (I : β → Prop) (μ : β → Nat) (T : γ → Env × Store) (J : γ → Prop) {keep keepx : List Nat} {c c2 : RCode} {id : Nat} {ks2 : List KI} (b0 : β) (h0 : fgt keep e = (S b0).1) (h1 : σ = (S b0).2) (hi : I b0)
    (hstep : ∀ (ks' : List KI) b, I b → (∀ b' e', I b' → μ b' < μ b → fgt keep e' = (S b').1 → Ex rp rs .skip (.lp (.fg keep c) :: .blk id :: ks') e' (S b').2 Q) →
      (∀ g e', J g → fgt keepx e' = (T g).1 → Ex rp rs .skip ks' e' (T g).2 Q) → Ex rp rs c (.lp (.fg keep c) :: .blk id :: ks') (S b).1 (S b).2 Q)
    (hend : ∀ g, J g → Ex rp rs c2 ks2 (T g).1 (T g).2 Q) : Ex rp rs (.loop (.fg keep c)) (.blk id :: .code (.fg keepx c2) :: ks2) e σ Q :=
  loop_rule S I μ b0 h0 h1 hi fun b hb ih => hstep _ b hb ih fun g e' hg he => by rw [ex_code, ex_fg, he]; exact hend g hg

/-- calls that take a block of their caller -/
theorem kf_own {f b n : Nat} {es : List PV} {r : CV} (h : Pu rp f [.sl es] r) (hσ : σ[b]? = some (.prow 1 es)) (hn : n = es.length) :
    KC rp rs base .fz f [.own b 0 n] d l dr ks e σ Q = ExR rp rs base l dr ks (sto d r e) (σ.set b .dead) Q := by
  have hf := frz1_own hσ hn
  exact kc_fz h (by simp only [frzs, frz, hf, Option.map_some])
theorem kf_p_own {f b n : Nat} {a : PV} {es : List PV} {r : CV} (h : Pu rp f [a, .sl es] r) (hσ : σ[b]? = some (.prow 1 es)) (hn : n = es.length) :
    KC rp rs base .fz f [.p a, .own b 0 n] d l dr ks e σ Q = ExR rp rs base l dr ks (sto d r e) (σ.set b .dead) Q := by
  have hf := frz1_own hσ hn
  exact kc_fz h (by simp only [frzs, frz, frz1_p, hf, Option.map_some])
theorem GL.nil : GL σ sz .nils [] := .inl ⟨rfl, rfl⟩
theorem GL.own {b : Nat} (h : σ[b]? = some (.prow sz es)) {n : Nat} (hn : n = es.length) : GL σ sz (.own b 0 n) es := .inr ⟨b, by rw [hn], h⟩

theorem GL.content (h : GL σ sz c es) : content σ c = some es := by
  rcases h with ⟨rfl, rfl⟩ | ⟨b, rfl, hb⟩
  · rfl
  · exact cont_own hb rfl

theorem GL.frz1 (h : GL σ sz c es) : frz1 σ c = some (.sl es) := by
  rcases h with ⟨rfl, rfl⟩ | ⟨b, rfl, hb⟩
  · rfl
  · exact frz1_own hb rfl

theorem GL.frz (h : GL σ sz c es) : frz σ c = some (.sl es) := by
  have h2 := h.frz1
  rcases h with ⟨rfl, rfl⟩ | ⟨b, rfl, hb⟩
  · rfl
  · exact h2

theorem GL.kill (h : GL σ sz c es) : kill σ c = nd σ c := by
  rcases h with ⟨rfl, rfl⟩ | ⟨b, rfl, hb⟩ <;> rfl

theorem GL.back1 (h : GL σ sz c es) : back1 0 σ c = some (.p (.sl es)) := by
  rcases h with ⟨rfl, rfl⟩ | ⟨b, rfl, hb⟩
  · rfl
  · simp only [Vpi.back1, frz1_own hb rfl]; rfl

theorem GL.back (h : GL σ sz c es) : back 0 σ c = some (.p (.sl es)) := by
  rcases h with ⟨rfl, rfl⟩ | ⟨b, rfl, hb⟩
  · rfl
  · simp only [Vpi.back, Vpi.back1, frz1_own hb rfl]; rfl

theorem GL.len (h : GL σ sz c es) : lenV c = some es.length := by
  rcases h with ⟨rfl, rfl⟩ | ⟨b, rfl, hb⟩ <;> rfl

theorem GL.lt (h : GL σ sz c es) : GL σ sz c es ∧ ∀ b o n, c = .own b o n → b < σ.length := by
  refine ⟨h, ?_⟩
  rintro b o n rfl
  rcases h with ⟨h, _⟩ | ⟨b', h, hb⟩
  · cases h
  · cases h; exact (List.getElem?_eq_some_iff.1 hb).1

theorem GL.left (h : GL σ sz c es) {τ : Store} : GL (σ ++ τ) sz c es := by
  rcases h with ⟨rfl, rfl⟩ | ⟨b, rfl, hb⟩
  · exact .nil
  · exact .own (by rw [List.getElem?_append_left (List.getElem?_eq_some_iff.1 hb).1]; exact hb) rfl

theorem GL.set (h : GL σ sz c es) {k s : Nat} {cs : List CV} (hk : σ[k]? = some (.kblk s cs)) {x : Blk} : GL (σ.set k x) sz c es := by
  rcases h with ⟨rfl, rfl⟩ | ⟨b, rfl, hb⟩
  · exact .nil
  · refine .own ?_ rfl
    rw [List.getElem?_set_ne]
    · exact hb
    · rintro rfl; rw [hk] at hb; cases hb

theorem nd_get (h : GL σ sz c es) {k s : Nat} {cs : List CV} (hk : σ[k]? = some (.kblk s cs)) {τ : Store} : (nd σ c ++ τ)[k]? = some (.kblk s cs) := by
  have hlt := (List.getElem?_eq_some_iff.1 hk).1
  rw [List.getElem?_append_left (by rw [nd_len]; exact hlt)]
  rcases h with ⟨rfl, rfl⟩ | ⟨b, rfl, hb⟩
  · exact hk
  · simp only [nd]
    rw [List.getElem?_set_ne]
    · exact hk
    · rintro rfl; rw [hk] at hb; cases hb

theorem nd_wf (h : Wf σ) : Wf (nd σ c) := by
  cases c <;> try exact h
  exact h.set rfl
theorem nd_wf2 (h : Wf σ) {a b : Nat} {xs ys : List PV} : Wf (nd σ c ++ [.prow a xs, .prow b ys]) := by
  have := ((nd_wf (c := c) h).push (x := .prow a xs) rfl).push (x := .prow b ys) rfl
  rwa [List.append_assoc] at this
theorem GL.new2 {x : Blk} {n m : Nat} (hn : n = es.length) (hm : m = σ.length) : GL (nd σ c ++ [x, .prow sz es]) sz (.own (m + 1) 0 n) es :=
  .own (by rw [hm, ← nd_len (c := c), get_app]; rfl) hn

/-- append of what bslice just laid -/
theorem r_app {s x : Opd} {bytes : Nat} (h : GL σ sz c es) (hc : (es.length + xs.length) * bytes ≤ 140737488355328) (hs : vl e s = c) (hx : vl e x = .own σ.length 0 xs.length) (hz : allSz sz xs = true) :
    ExR rp rs base (⟨d, none, none, .append sz bytes s x⟩ :: l) dr ks e (σ ++ [.prow sz xs]) Q = ExR rp rs base l dr ks (sto d (.own (σ.length + 1) 0 (es.length + xs.length)) e) (nd σ c ++ [.prow sz xs, .prow sz (es ++ xs)]) Q := by
  rw [r_append]
  have h1 : content (σ ++ [.prow sz xs]) (vl e s) = some es := by rw [hs]; exact h.left.content
  have h2 : content (σ ++ [.prow sz xs]) (vl e x) = some xs := by rw [hx]; exact cont_own (s := sz) (by simp) rfl
  have hlt := h.lt.2
  simp only [ev, h1, h2, hc, hz, and_self, if_true]
  rcases h with ⟨rfl, rfl⟩ | ⟨b, rfl, hb⟩
  · rw [hs]
    simp only [push_none, Option.map_some, ke_some, nd, List.length_append, List.length_cons, List.length_nil, List.append_assoc, List.cons_append, List.nil_append, Nat.zero_add]
  · rw [hs]
    have hb' : (σ ++ [.prow sz xs])[b]? = some (.prow sz es) := by rw [List.getElem?_append_left (hlt _ _ _ rfl)]; exact hb
    simp only [hb', if_true, push_none, Option.map_some, ke_some, nd, List.length_append, List.length_set, List.length_cons, List.length_nil, Nat.zero_add]
    rw [List.set_append_left _ _ (hlt _ _ _ rfl), List.append_assoc]
    rfl
end
end Go.Proofs.Ytdieenbfdeaffaa.Vpi

namespace Go.Proofs.Ytdieenbfdeaffaa.Vpi
open Go
set_option linter.unusedVariables false

/-- the base of the limbs -/
def LB : Nat := 4294967296

theorem LB_pos : 0 < LB := by decide

def val : List Nat → Nat
  | [] => 0
  | x :: l => x + LB * val l

def lm (l : List Nat) : List PV := l.map fun (x : Nat) => .int .u32 (x : Int)

def dgl (n : Nat) : List Nat := if h : n = 0 then [] else n % LB :: dgl (n / LB)
termination_by n
decreasing_by exact Nat.div_lt_self (Nat.pos_of_ne_zero h) (by decide)

def trimL : List Nat → List Nat
  | [] => []
  | x :: l => if x = 0 ∧ trimL l = [] then [] else x :: trimL l

/-- all are limbs -/
def Lim (l : List Nat) : Prop := ∀ x ∈ l, x < LB

/-- a number with a sign, in its one form -/
def mk (neg : Bool) (v : Nat) : PV := .agg [.bool (neg && decide (v ≠ 0)), .sl (lm (dgl v))]
def zi (x : Int) : PV := mk (decide (x < 0)) x.natAbs

theorem mk_cells {neg : Bool} {v : Nat} : (mk neg v).cells = [.bool (neg && decide (v ≠ 0)), .sl (lm (dgl v))] := rfl
theorem zi_cells {x : Int} : (zi x).cells = [.bool (decide (x < 0) && decide (x.natAbs ≠ 0)), .sl (lm (dgl x.natAbs))] := rfl
theorem dgl_zero : dgl 0 = [] := by rw [dgl]; simp
theorem dgl_pos {n : Nat} (h : n ≠ 0) : dgl n = n % LB :: dgl (n / LB) := by rw [dgl]; simp [h]
theorem lm_len {l : List Nat} : (lm l).length = l.length := by simp [lm]
theorem lm_get {l : List Nat} {i : Nat} (h : i < l.length) : (lm l)[i]? = some (.int .u32 (l[i] : Nat)) := by simp [lm, h]
theorem lm_get? {l : List Nat} {i x : Nat} (h : l[i]? = some x) : (lm l)[i]? = some (.int .u32 (x : Nat)) := by simp [lm, h]
theorem lm_take {l : List Nat} {n : Nat} : (lm l).take n = lm (l.take n) := by simp [lm, List.map_take]
theorem lm_append {l m : List Nat} : lm l ++ lm m = lm (l ++ m) := by simp [lm]
theorem lm_set {l : List Nat} {i x : Nat} : (lm l).set i (.int .u32 (x : Nat)) = lm (l.set i x) := by simp [lm, List.map_set]
theorem lm_rep {n : Nat} : List.replicate n (PV.int .u32 0) = lm (List.replicate n 0) := by simp [lm]
theorem lm_nil : lm [] = [] := rfl
theorem lm_cons {x : Nat} {l : List Nat} : lm (x :: l) = .int .u32 (x : Nat) :: lm l := rfl
theorem lm_sz {l : List Nat} : allSz 1 (lm l) = true := by simp [allSz, lm, PV.cells]

theorem val_append {l m : List Nat} : val (l ++ m) = val l + LB ^ l.length * val m := by
  induction l with
  | nil => simp [val]
  | cons x l ih => simp only [List.cons_append, val, ih, List.length_cons, Nat.pow_succ]; rw [Nat.mul_add, ← Nat.add_assoc, ← Nat.mul_assoc, Nat.mul_comm LB (LB ^ l.length)]

theorem val_lt {l : List Nat} (h : Lim l) : val l < LB ^ l.length := by
  induction l with
  | nil => simp [val]
  | cons x l ih =>
    have h1 := h x (List.mem_cons_self ..)
    have h2 := ih fun y hy => h y (List.mem_cons_of_mem _ hy)
    simp only [val, List.length_cons, Nat.pow_succ]
    have h3 : LB * (val l + 1) ≤ LB * LB ^ l.length := Nat.mul_le_mul_left _ h2
    rw [Nat.mul_add] at h3
    rw [Nat.mul_comm (LB ^ l.length)]
    omega

theorem trimL_dgl : ∀ {l : List Nat}, Lim l → trimL l = dgl (val l)
  | [], _ => by simp [trimL, val, dgl_zero]
  | x :: l, h => by
    have h1 := h x (List.mem_cons_self ..)
    have h2 := trimL_dgl (l := l) fun y hy => h y (List.mem_cons_of_mem _ hy)
    simp only [trimL, h2, val]
    by_cases hv : val l = 0
    · rw [hv, dgl_zero]
      by_cases hx : x = 0
      · simp [hx, dgl_zero]
      · rw [dgl_pos (by omega)]
        simp only [hx, false_and, if_false, Nat.mul_zero, Nat.add_zero]
        rw [Nat.mod_eq_of_lt h1, Nat.div_eq_of_lt h1, dgl_zero]
    · rw [dgl_pos (n := x + LB * val l) (by have := Nat.mul_pos LB_pos (Nat.pos_of_ne_zero hv); omega)]
      rw [Nat.add_mul_mod_self_left, Nat.mod_eq_of_lt h1, Nat.add_mul_div_left _ _ LB_pos, Nat.div_eq_of_lt h1, Nat.zero_add]
      rw [dgl_pos hv]
      simp

theorem trimL_nil : ∀ {l : List Nat}, (∀ x ∈ l, x = 0) → trimL l = []
  | [], _ => rfl
  | x :: l, h => by
    simp only [trimL, trimL_nil (l := l) fun y hy => h y (List.mem_cons_of_mem _ hy), h x (List.mem_cons_self ..)]
    simp

theorem trimL_take : ∀ {l : List Nat} {n : Nat}, (∀ i, n ≤ i → ∀ x, l[i]? = some x → x = 0) → (n = 0 ∨ ∃ x, l[n - 1]? = some x ∧ x ≠ 0) → trimL l = l.take n
  | [], n, _, _ => by simp [trimL]
  | x :: l, 0, h, _ => by
    rw [List.take_zero]
    refine trimL_nil fun y hy => ?_
    obtain ⟨i, hi, rfl⟩ := List.getElem_of_mem hy
    exact h i (Nat.zero_le _) _ (by simp)
  | x :: l, 1, h, hn => by
    have h2 : trimL l = [] := trimL_nil fun y hy => by
      obtain ⟨i, hi, rfl⟩ := List.getElem_of_mem hy
      exact h (i + 1) (by omega) _ (by simp)
    obtain hn | ⟨y, hy, h0⟩ := hn
    · omega
    · simp at hy
      subst hy
      simp [trimL, h2, h0]
  | x :: l, n + 2, h, hn => by
    obtain hn | ⟨y, hy, h0⟩ := hn
    · omega
    have h2 := trimL_take (l := l) (n := n + 1) (fun i hi z hz => h (i + 1) (by omega) z (by simpa using hz)) (.inr ⟨y, by simpa using hy, h0⟩)
    have hne : l.take (n + 1) ≠ [] := by
      intro h3
      cases l with
      | nil => simp at hy
      | cons a b => simp at h3
    simp only [trimL, h2, List.take_succ_cons]
    rw [if_neg (by simp [hne])]

theorem dgl_lim (n : Nat) : Lim (dgl n) := by
  induction n using Nat.strongRecOn with
  | ind n ih =>
    intro x hx
    by_cases h : n = 0
    · subst h; rw [dgl_zero] at hx; cases hx
    · rw [dgl_pos h] at hx
      rcases List.mem_cons.1 hx with rfl | hx
      · exact Nat.mod_lt _ LB_pos
      · exact ih _ (Nat.div_lt_self (Nat.pos_of_ne_zero h) (by decide)) x hx

theorem val_dgl (n : Nat) : val (dgl n) = n := by
  induction n using Nat.strongRecOn with
  | ind n ih =>
    by_cases h : n = 0
    · subst h; rw [dgl_zero]; rfl
    · rw [dgl_pos h, val, ih _ (Nat.div_lt_self (Nat.pos_of_ne_zero h) (by decide))]
      exact Nat.mod_add_div n LB

theorem dgl_len {n k : Nat} (h : n < LB ^ k) : (dgl n).length ≤ k := by
  induction k generalizing n with
  | zero => simp at h; subst h; rw [dgl_zero]; simp
  | succ k ih =>
    by_cases h0 : n = 0
    · subst h0; rw [dgl_zero]; simp
    · rw [dgl_pos h0, List.length_cons]
      have : n / LB < LB ^ k := by
        rw [Nat.div_lt_iff_lt_mul LB_pos, ← Nat.pow_succ]
        exact h
      have := ih this
      omega

theorem dgl_ne {n : Nat} (h : n ≠ 0) : dgl n ≠ [] := by rw [dgl_pos h]; simp

/-- two limbs -/
theorem val_two {v : Nat} (h : v < LB * LB) : val [v % LB, v / LB] = v := by
  simp only [val, Nat.mul_zero, Nat.add_zero]
  exact Nat.mod_add_div v LB
theorem lim_two {v : Nat} (h : v < LB * LB) : Lim [v % LB, v / LB] := by
  intro x hx
  simp only [List.mem_cons, List.not_mem_nil, or_false] at hx
  rcases hx with rfl | rfl
  · exact Nat.mod_lt _ LB_pos
  · exact Nat.div_lt_of_lt_mul h

theorem Lim.take {l : List Nat} (h : Lim l) {n : Nat} : Lim (l.take n) := fun x hx => h x (List.mem_of_mem_take hx)
theorem Lim.drop {l : List Nat} (h : Lim l) {n : Nat} : Lim (l.drop n) := fun x hx => h x (List.mem_of_mem_drop hx)
theorem Lim.append {l m : List Nat} (h : Lim l) (k : Lim m) : Lim (l ++ m) := fun x hx => (List.mem_append.1 hx).elim (h x) (k x)
theorem Lim.one {x : Nat} (h : x < LB) : Lim [x] := fun y hy => by simp at hy; subst hy; exact h
theorem Lim.rep {n : Nat} : Lim (List.replicate n 0) := fun x hx => by rw [List.eq_of_mem_replicate hx]; exact LB_pos
theorem Lim.get {l : List Nat} (h : Lim l) {i : Nat} (hi : i < l.length) : l[i] < LB := h _ (List.getElem_mem hi)
theorem val_rep {n : Nat} : val (List.replicate n 0) = 0 := by
  induction n with
  | zero => rfl
  | succ n ih => simp [List.replicate_succ, val, ih]
theorem val_one {x : Nat} : val [x] = x := by simp [val]
theorem val_take_succ {l : List Nat} {i : Nat} (h : i < l.length) : val (l.take (i + 1)) = val (l.take i) + LB ^ i * l[i] := by
  rw [List.take_add_one, List.getElem?_eq_getElem h, val_append, List.length_take, Nat.min_eq_left (Nat.le_of_lt h)]
  simp [val]
theorem val_split {l : List Nat} {i : Nat} (h : i ≤ l.length) : val l = val (l.take i) + LB ^ i * val (l.drop i) := by
  have := val_append (l := l.take i) (m := l.drop i)
  rw [List.take_append_drop, List.length_take, Nat.min_eq_left h] at this
  exact this
theorem set_next {o : List Nat} {m x : Nat} : (o ++ List.replicate (m + 1) 0).set o.length x = o ++ [x] ++ List.replicate m 0 := by
  rw [List.set_append_right _ _ (Nat.le_refl _), Nat.sub_self, List.replicate_succ, List.set_cons_zero, List.append_assoc]
  rfl

/-- the number from a place on is above -/
theorem val_lt_top {a b : List Nat} (ha : Lim a) {i : Nat} (hi : i < a.length) (hj : i < b.length) (hd : val (a.drop (i + 1)) = val (b.drop (i + 1))) (hlt : a[i] < b[i]) : val a < val b := by
  rw [val_split (i := i + 1) hi, val_split (l := b) (i := i + 1) hj, val_take_succ hi, val_take_succ hj, hd]
  have h1 := val_lt (ha.take (n := i))
  rw [List.length_take, Nat.min_eq_left (Nat.le_of_lt hi)] at h1
  have h2 : LB ^ i * (a[i] + 1) ≤ LB ^ i * b[i] := Nat.mul_le_mul_left _ hlt
  rw [Nat.mul_add] at h2
  omega

theorem dgl_lt_len {x y : Nat} (h : (dgl x).length < (dgl y).length) : x < y := by
  rcases Nat.lt_or_ge x y with h1 | h1
  · exact h1
  · have h2 : y < LB ^ (dgl x).length := Nat.lt_of_le_of_lt h1 (by have := val_lt (dgl_lim x); rwa [val_dgl] at this)
    have := dgl_len h2
    omega

theorem w64 {x : Nat} (h : x < 18446744073709551616) : IntKind.u64.wrap (x : Int) = (x : Int) := by
  simp only [IntKind.wrap, IntKind.bits, IntKind.signed]
  simp
  omega
theorem w32 {x : Nat} : IntKind.u32.wrap (x : Int) = ((x % LB : Nat) : Int) := by
  simp only [IntKind.wrap, IntKind.bits, IntKind.signed, LB]
  simp
theorem w64s {x y : Nat} (h : x + y < 18446744073709551616) : IntKind.u64.wrap ((x : Int) + (y : Int)) = ((x + y : Nat) : Int) := by
  rw [← Int.natCast_add]; exact w64 h
theorem w64m {x y : Nat} (h : x * y < 18446744073709551616) : IntKind.u64.wrap ((x : Int) * (y : Int)) = ((x * y : Nat) : Int) := by
  rw [← Int.natCast_mul]; exact w64 h
theorem w64l {x : Nat} (h : x < LB) : IntKind.u64.wrap (x : Int) = (x : Int) := w64 (by unfold LB at h; omega)
theorem sh32 {x : Nat} : ((x : Int).fdiv (2 ^ min (Int.toNat 32) IntKind.u64.bits)) = ((x / LB : Nat) : Int) := by
  have h1 : ((2 : Int) ^ min (Int.toNat 32) IntKind.u64.bits) = 4294967296 := by decide
  rw [h1, Int.fdiv_eq_ediv_of_nonneg _ (by decide)]
  rfl
end Go.Proofs.Ytdieenbfdeaffaa.Vpi

namespace Go.Proofs.Ytdieenbfdeaffaa.Vpi
open Go
set_option linter.unusedVariables false
set_option linter.unusedSimpArgs false

theorem mk_zero {s : Bool} : mk s 0 = .agg [.bool false, .sl []] := by simp [mk, dgl_zero, lm]
theorem updPV_mk {s s' : Bool} {v v' : Nat} : updPV (mk s v) 0 2 (mk s' v') = some (mk s' v') := by simp [updPV, mk, PV.cells, setCells]
theorem subPV_mk {s : Bool} {v : Nat} : subPV true 2 (mk s v) 0 = some (mk s v) := by simp [subPV, mk]
theorem updPV_int {k k' : IntKind} {a b : Int} : updPV (.int k a) 0 1 (.int k' b) = some (.int k' b) := rfl
theorem updPV_sl {a b : List PV} : updPV (.sl a) 0 1 (.sl b) = some (.sl b) := rfl

/-- all are numbers -/
def Nums (r : List PV) : Prop := ∀ (i : Nat), i < r.length → ∃ s v, r[i]? = some (mk s v)

theorem Nums.rep {n : Nat} : Nums (List.replicate n (mk false 0)) := by
  intro i hi
  exact ⟨false, 0, by rw [List.length_replicate] at hi; simp [hi]⟩
theorem Nums.set {r : List PV} (h : Nums r) {j : Nat} {s : Bool} {v : Nat} : Nums (r.set j (mk s v)) := by
  intro i hi
  rw [List.length_set] at hi
  by_cases hj : j = i
  · subst hj; exact ⟨s, v, by simp [hi]⟩
  · obtain ⟨s', v', h'⟩ := h i hi
    exact ⟨s', v', by rw [List.getElem?_set_ne hj]; exact h'⟩

section
variable {rp : RProg} {rs : List RRes} {ks : List KI} {base : Nat} {e : Env} {σ : Store} {Q : CV → Store → Prop} {d : Option Nat} {l : List LOp} {dr : Dr} {sz : Nat} {c : CV} {es xs : List PV}

theorem kc_keep' {f : Nat} {args : List CV} (h : Rn rp f args σ fun v τ => ExR rp rs base l dr ks (sto d v e) τ Q) : KC rp rs base .keep f args d l dr ks e σ Q := cl_keep h

theorem GL.set_ne (h : GL σ sz c es) {k : Nat} (hk : ∀ b o n, c = .own b o n → b ≠ k) {x : Blk} : GL (σ.set k x) sz c es := by
  rcases h with ⟨rfl, rfl⟩ | ⟨b, rfl, hb⟩
  · exact .nil
  · exact .own (by rw [List.getElem?_set_ne (fun h => hk _ _ _ rfl h.symm)]; exact hb) rfl

/-- a cell of a seed, a list of rows, and the row that is being made -/
structure Inv (σ : Store) (z : Int) (c : CV) (rows : List PV) (b : Nat) (row : List PV) : Prop where
  wf : Wf σ
  z : σ[0]? = some (.kblk 1 [.p (.int .u64 z)])
  gl : GL σ 1 c rows
  row : σ[b]? = some (.prow 2 row)
  ne : ∀ b' o n, c = .own b' o n → b' ≠ b

variable {z : Int} {rows row : List PV} {b : Nat}

theorem Inv.b0 (h : Inv σ z c rows b row) : b ≠ 0 := by
  rintro rfl
  have h1 := h.row
  rw [h.z] at h1
  cases h1

theorem Inv.put (h : Inv σ z c rows b row) {row' : List PV} : Inv (σ.set b (.prow 2 row')) z c rows b row' where
  wf := h.wf.set rfl
  z := by rw [List.getElem?_set_ne h.b0]; exact h.z
  gl := h.gl.set_ne h.ne
  row := get_self (List.getElem?_eq_some_iff.1 h.row).1
  ne := h.ne

theorem Inv.seed (h : Inv σ z c rows b row) {z' : Int} : Inv (σ.set 0 (.kblk 1 [.p (.int .u64 z')])) z' c rows b row where
  wf := h.wf.set rfl
  z := get_self (List.getElem?_eq_some_iff.1 h.z).1
  gl := h.gl.set h.z
  row := by rw [List.getElem?_set_ne h.b0.symm]; exact h.row
  ne := h.ne

theorem Inv.new (hw : Wf σ) (hz : σ[0]? = some (.kblk 1 [.p (.int .u64 z)])) (hg : GL σ 1 c rows) {τ : Store} (hwτ : Wf (σ ++ τ)) (hb : (σ ++ τ)[b]? = some (.prow 2 row)) (hle : σ.length ≤ b) : Inv (σ ++ τ) z c rows b row where
  wf := hwτ
  z := by rw [List.getElem?_append_left (List.getElem?_eq_some_iff.1 hz).1]; exact hz
  gl := hg.left
  row := hb
  ne := fun b' o n hc => by have := hg.lt.2 b' o n hc; omega

/-- the same without a seed -/
structure Jnv (σ : Store) (c : CV) (rows : List PV) (b : Nat) (row : List PV) : Prop where
  wf : Wf σ
  gl : GL σ 1 c rows
  row : σ[b]? = some (.prow 2 row)
  ne : ∀ b' o n, c = .own b' o n → b' ≠ b

theorem Jnv.lt (h : Jnv σ c rows b row) : b < σ.length := (List.getElem?_eq_some_iff.1 h.row).1
theorem Jnv.put (h : Jnv σ c rows b row) {row' : List PV} : Jnv (σ.set b (.prow 2 row')) c rows b row' where
  wf := h.wf.set rfl
  gl := h.gl.set_ne h.ne
  row := get_self h.lt
  ne := h.ne
theorem Jnv.push (h : Jnv σ c rows b row) {x : Blk} (hx : blkBelow (σ.length + 1) x = true) : Jnv (σ ++ [x]) c rows b row where
  wf := h.wf.push hx
  gl := h.gl.left
  row := by rw [List.getElem?_append_left h.lt]; exact h.row
  ne := h.ne
theorem Jnv.new (hw : Wf σ) (hg : GL σ 1 c rows) {τ : Store} (hwτ : Wf (σ ++ τ)) (hb : (σ ++ τ)[b]? = some (.prow 2 row)) (hle : σ.length ≤ b) : Jnv (σ ++ τ) c rows b row where
  wf := hwτ
  gl := hg.left
  row := hb
  ne := fun b' o n hc => by have := hg.lt.2 b' o n hc; omega
end
end Go.Proofs.Ytdieenbfdeaffaa.Vpi

namespace Go.Proofs.Ytdieenbfdeaffaa.Vpi
open Go
set_option linter.unusedVariables false
set_option maxRecDepth 10000

theorem S1 : type_of% (And.intro (@ex_seq) <| And.intro (@ex_code) <| And.intro (@ex_blk) <| And.intro (@ex_block) <| And.intro (@ex_fg) <| And.intro (@x_reg) <| And.intro (@x_draw) <| And.intro (@x_if) <| And.intro (@x_if_b) <| And.intro (@ex_exit_blk) <| And.intro (@ex_exit_code) <| And.intro (@ex_exit_lp) <| And.intro (@ex_sc) <| And.intro (@ex_scope) <| And.intro (@ex_exit_sc) <| And.intro (@x_ret) <| And.intro (@x_end) <| And.intro (@kr_some) <| And.intro (@r_nil) <| And.intro (@r_nild) <| And.intro (@ke_some) <| And.intro (@ke_if) <| And.intro (@r_mv) <| And.intro (@r_mkfn) <| And.intro (@r_pick) <| And.intro (@r_alloc) <| And.intro (@r_box) <| And.intro (@r_build) <| And.intro (@r_bslice) <| And.intro (@r_load) <| And.intro (@r_store) <| And.intro (@r_nilc) <| And.intro (@r_bin) <| And.intro (@r_bslk) <| And.intro (@r_appk) <| And.intro (@cellL_own1) <| (@r_appz)) := And.intro (@ex_seq) <| And.intro (@ex_code) <| And.intro (@ex_blk) <| And.intro (@ex_block) <| And.intro (@ex_fg) <| And.intro (@x_reg) <| And.intro (@x_draw) <| And.intro (@x_if) <| And.intro (@x_if_b) <| And.intro (@ex_exit_blk) <| And.intro (@ex_exit_code) <| And.intro (@ex_exit_lp) <| And.intro (@ex_sc) <| And.intro (@ex_scope) <| And.intro (@ex_exit_sc) <| And.intro (@x_ret) <| And.intro (@x_end) <| And.intro (@kr_some) <| And.intro (@r_nil) <| And.intro (@r_nild) <| And.intro (@ke_some) <| And.intro (@ke_if) <| And.intro (@r_mv) <| And.intro (@r_mkfn) <| And.intro (@r_pick) <| And.intro (@r_alloc) <| And.intro (@r_box) <| And.intro (@r_build) <| And.intro (@r_bslice) <| And.intro (@r_load) <| And.intro (@r_store) <| And.intro (@r_nilc) <| And.intro (@r_bin) <| And.intro (@r_bslk) <| And.intro (@r_appk) <| And.intro (@cellL_own1) <| (@r_appz)

theorem S2 : type_of% (And.intro (@r_beq) <| And.intro (@r_un) <| And.intro (@r_conv) <| And.intro (@r_slice) <| And.intro (@r_fieldA) <| And.intro (@r_field) <| And.intro (@r_indexA) <| And.intro (@r_extract) <| And.intro (@r_len) <| And.intro (@r_copy) <| And.intro (@r_mx) <| And.intro (@r_mn) <| And.intro (@r_call) <| And.intro (@r_callv) <| And.intro (@kv_fn) <| And.intro (@r_g) <| And.intro (@kg_b) <| And.intro (@kg_t) <| And.intro (@List.all_nil.{0}) <| And.intro (@push_none) <| And.intro (@res_t) <| And.intro (@res_tt) <| And.intro (@res_ttt) <| And.intro (@res_n) <| And.intro (@cells_int) <| And.intro (@cells_bool) <| And.intro (@cells_sl) <| And.intro (@cells_agg) <| And.intro (@mk_cells) <| (@zi_cells)) := And.intro (@r_beq) <| And.intro (@r_un) <| And.intro (@r_conv) <| And.intro (@r_slice) <| And.intro (@r_fieldA) <| And.intro (@r_field) <| And.intro (@r_indexA) <| And.intro (@r_extract) <| And.intro (@r_len) <| And.intro (@r_copy) <| And.intro (@r_mx) <| And.intro (@r_mn) <| And.intro (@r_call) <| And.intro (@r_callv) <| And.intro (@kv_fn) <| And.intro (@r_g) <| And.intro (@kg_b) <| And.intro (@kg_t) <| And.intro (@List.all_nil.{0}) <| And.intro (@push_none) <| And.intro (@res_t) <| And.intro (@res_tt) <| And.intro (@res_ttt) <| And.intro (@res_n) <| And.intro (@cells_int) <| And.intro (@cells_bool) <| And.intro (@cells_sl) <| And.intro (@cells_agg) <| And.intro (@mk_cells) <| (@zi_cells)

theorem S3 : type_of% (And.intro (@ccells_p) <| And.intro (@ccells_agg) <| And.intro (@ccells_nils) <| And.intro (@ccells_own) <| And.intro (@ccells_ptr) <| And.intro (@ccells_fn) <| And.intro (@num_int) <| And.intro (@len_p) <| And.intro (@len_own) <| And.intro (@len_nils) <| And.intro (@cont_p) <| And.intro (@cont_nils) <| And.intro (@binV_add) <| And.intro (@binV_sub) <| And.intro (@binV_mul) <| And.intro (@binV_and) <| And.intro (@binV_or) <| And.intro (@binV_xor) <| And.intro (@binV_eql) <| And.intro (@binV_neq) <| And.intro (@binV_lss) <| And.intro (@binV_leq) <| And.intro (@binV_shl) <| And.intro (@binV_shr) <| And.intro (@binV_gtr) <| And.intro (@binV_geq) <| And.intro (@subPV_f) <| And.intro (@subPV_agg) <| And.intro (@subPV_mk) <| (@updPV_mk)) := And.intro (@ccells_p) <| And.intro (@ccells_agg) <| And.intro (@ccells_nils) <| And.intro (@ccells_own) <| And.intro (@ccells_ptr) <| And.intro (@ccells_fn) <| And.intro (@num_int) <| And.intro (@len_p) <| And.intro (@len_own) <| And.intro (@len_nils) <| And.intro (@cont_p) <| And.intro (@cont_nils) <| And.intro (@binV_add) <| And.intro (@binV_sub) <| And.intro (@binV_mul) <| And.intro (@binV_and) <| And.intro (@binV_or) <| And.intro (@binV_xor) <| And.intro (@binV_eql) <| And.intro (@binV_neq) <| And.intro (@binV_lss) <| And.intro (@binV_leq) <| And.intro (@binV_shl) <| And.intro (@binV_shr) <| And.intro (@binV_gtr) <| And.intro (@binV_geq) <| And.intro (@subPV_f) <| And.intro (@subPV_agg) <| And.intro (@subPV_mk) <| (@updPV_mk)

theorem S4 : type_of% (And.intro (@updPV_int) <| And.intro (@updPV_sl) <| And.intro (@allSz_nil) <| And.intro (@allSz_cons) <| And.intro (@List.map_cons.{0,0}) <| And.intro (@List.map_nil.{0,0}) <| And.intro (@List.foldl_cons.{0,0}) <| And.intro (@List.foldl_nil.{0,0}) <| And.intro (@List.length_cons.{0}) <| And.intro (@List.length_nil.{0}) <| And.intro (@List.all_cons.{0}) <| And.intro (@List.append_nil.{0}) <| And.intro (@List.nil_append.{0}) <| And.intro (@List.cons_append.{0}) <| And.intro (@List.set_cons_zero.{0}) <| And.intro (@List.set_cons_succ.{0}) <| And.intro (@List.getElem?_cons_zero.{0}) <| And.intro (@List.getElem?_cons_succ.{0}) <| And.intro (@List.take_succ_cons.{0}) <| And.intro (@List.take_zero.{0}) <| And.intro (@List.drop_succ_cons.{0}) <| And.intro (@List.drop_zero.{0}) <| And.intro (@List.take_nil.{0}) <| And.intro (@List.drop_nil.{0}) <| And.intro (@List.append_assoc.{0}) <| And.intro (@List.length_append.{0}) <| And.intro (@List.length_set.{0}) <| And.intro (@get_app0) <| And.intro (@get_app) <| (@set_app0)) := And.intro (@updPV_int) <| And.intro (@updPV_sl) <| And.intro (@allSz_nil) <| And.intro (@allSz_cons) <| And.intro (@List.map_cons.{0,0}) <| And.intro (@List.map_nil.{0,0}) <| And.intro (@List.foldl_cons.{0,0}) <| And.intro (@List.foldl_nil.{0,0}) <| And.intro (@List.length_cons.{0}) <| And.intro (@List.length_nil.{0}) <| And.intro (@List.all_cons.{0}) <| And.intro (@List.append_nil.{0}) <| And.intro (@List.nil_append.{0}) <| And.intro (@List.cons_append.{0}) <| And.intro (@List.set_cons_zero.{0}) <| And.intro (@List.set_cons_succ.{0}) <| And.intro (@List.getElem?_cons_zero.{0}) <| And.intro (@List.getElem?_cons_succ.{0}) <| And.intro (@List.take_succ_cons.{0}) <| And.intro (@List.take_zero.{0}) <| And.intro (@List.drop_succ_cons.{0}) <| And.intro (@List.drop_zero.{0}) <| And.intro (@List.take_nil.{0}) <| And.intro (@List.drop_nil.{0}) <| And.intro (@List.append_assoc.{0}) <| And.intro (@List.length_append.{0}) <| And.intro (@List.length_set.{0}) <| And.intro (@get_app0) <| And.intro (@get_app) <| (@set_app0)

theorem S5 : type_of% (And.intro (@set_app) <| And.intro (@Option.map_some.{0,0}) <| And.intro (@Option.map_none.{0,0}) <| And.intro (@and_self) <| And.intro (@true_and) <| And.intro (@and_true) <| And.intro (@if_true.{1}) <| And.intro (@if_false.{1}) <| And.intro (@ite_true.{1}) <| And.intro (@ite_false.{1}) <| And.intro (@Nat.zero_add) <| And.intro (@Nat.add_zero) <| And.intro (@Nat.zero_mul) <| And.intro (@beq_self_eq_true.{0}) <| And.intro (@Bool.false_eq_true) <| And.intro (@Bool.and_self) <| And.intro (@Bool.and_true) <| And.intro (@Bool.true_and) <| And.intro (@decide_eq_true_eq) <| And.intro (@decide_true) <| And.intro (@decide_false) <| (@Nat.le_refl)) := And.intro (@set_app) <| And.intro (@Option.map_some.{0,0}) <| And.intro (@Option.map_none.{0,0}) <| And.intro (@and_self) <| And.intro (@true_and) <| And.intro (@and_true) <| And.intro (@if_true.{1}) <| And.intro (@if_false.{1}) <| And.intro (@ite_true.{1}) <| And.intro (@ite_false.{1}) <| And.intro (@Nat.zero_add) <| And.intro (@Nat.add_zero) <| And.intro (@Nat.zero_mul) <| And.intro (@beq_self_eq_true.{0}) <| And.intro (@Bool.false_eq_true) <| And.intro (@Bool.and_self) <| And.intro (@Bool.and_true) <| And.intro (@Bool.true_and) <| And.intro (@decide_eq_true_eq) <| And.intro (@decide_true) <| And.intro (@decide_false) <| (@Nat.le_refl)

end Go.Proofs.Ytdieenbfdeaffaa.Vpi

namespace Go.Proofs.Ytdieenbfdeaffaa.Vpi
open Go Go.Deep
set_option linter.unusedVariables false
set_option linter.unusedSimpArgs false

def isSt (P : Program) (t : TypeId) : Bool :=
  match P.underlying t with
  | some (.struct _) => true
  | _ => false

def ofCells (agg : Bool) (ps : List PV) : PV := if agg = true then .agg ps else ps.headD default

def laidFs (P : Program) (q : TypeId → Bool) (tot : Nat) : Nat → List Field → Bool
  | off, [] => off == tot
  | off, f :: fs => f.offset == off && q f.type && laidFs P q tot (off + P.cellsOf f.type) fs

/-- types that this text reads -/
def sup (P : Program) : Nat → TypeId → Bool
  | 0, _ => false
  | n + 1, t =>
    match P.underlying t with
    | some .bool => P.cellsOf t == 1
    | some (.int _) => P.cellsOf t == 1
    | some (.slice e) => sup P n e && decide (0 < P.cellsOf e) && (isSt P e || P.cellsOf e == 1) && P.cellsOf t == 1
    | some (.struct fs) => laidFs P (sup P n) (P.cellsOf t) 0 fs.toList
    | _ => false

def shpL (q : TypeId → List PV → Prop) : List Field → List PV → Prop
  | [], ps => ps = []
  | f :: fs, ps => ∃ a b, ps = a ++ b ∧ q f.type a ∧ shpL q fs b

def RepL (w : World) (G : Nat → Prop) (ps : List PV) (cs : List Value) : Prop :=
  ps.length = cs.length ∧ ∀ (k : Nat) c u, ps[k]? = some c → cs[k]? = some u → RepP w G c u ∧ u.oneCell' = true

section
variable {H : Type} {enc : TypeId × Value → H} {P : Program} {w : World} {G : Nat → Prop} {spare : Nat → Bool}

theorem RepL.append {ps qs : List PV} {cs ds : List Value} (h : RepL w G ps cs) (k : RepL w G qs ds) : RepL w G (ps ++ qs) (cs ++ ds) := by
  refine ⟨by simp [h.1, k.1], fun i c u hc hu => ?_⟩
  rcases Nat.lt_or_ge i ps.length with h1 | h1
  · rw [List.getElem?_append_left h1] at hc
    rw [List.getElem?_append_left (by rw [← h.1]; exact h1)] at hu
    exact h.2 i c u hc hu
  · rw [List.getElem?_append_right h1] at hc
    rw [List.getElem?_append_right (by rw [← h.1]; exact h1), ← h.1] at hu
    exact k.2 _ c u hc hu

theorem RepL.one {p : PV} {v : Value} (h : RepP w G p v) (h1 : v.oneCell' = true) : RepL w G [p] [v] := by
  refine ⟨rfl, fun k c u hc hu => ?_⟩
  cases k with
  | zero => simp at hc hu; subst hc; subst hu; exact ⟨h, h1⟩
  | succ k => simp at hc

theorem open_ofCells {agg : Bool} {ps : List PV} {cs : List Value} (h : RepL w G ps cs) (h0 : agg = true ∨ cs.length = 1) : (ofCells agg ps).cells = ps ∨ (agg = false ∧ ∃ c, ps = [.agg c]) := by
  unfold ofCells
  cases agg with
  | true => left; simp [PV.cells]
  | false =>
    have h2 : cs.length = 1 := by simpa using h0
    have h1 := h.1
    rw [h2] at h1
    obtain ⟨p, rfl⟩ := List.length_eq_one_iff.1 h1
    cases p with
    | agg c => right; exact ⟨rfl, c, rfl⟩
    | _ => left; simp [PV.cells]

theorem open_cells {ps : List PV} {cs : List Value} (h : RepL w G ps cs) (h1 : cs.length = 1) {c : List PV} (hc : ps = [.agg c]) : False := by
  subst hc
  obtain ⟨v, rfl⟩ := List.length_eq_one_iff.1 h1
  obtain ⟨h2, h3⟩ := h.2 0 _ _ rfl rfl
  cases h2
  simp [Value.oneCell'] at h3

end
end Go.Proofs.Ytdieenbfdeaffaa.Vpi

namespace Go.Proofs.Ytdieenbfdeaffaa.Vpi
open Go Go.RowKit
set_option linter.unusedVariables false
set_option linter.unusedSimpArgs false

theorem back_bool {τ : Store} {v : CV} {b : Bool} (h : back 0 τ v = some (.p (.bool b))) : v = .p (.bool b) := by
  cases v with
  | p x => rw [back_p] at h; cases h; rfl
  | tup vs => simp only [back, Option.map_eq_some_iff] at h; obtain ⟨_, _, h⟩ := h; cases h
  | own b' o n =>
    simp only [back, back1, frz1] at h
    split at h
    · cases h
    · simp only [Option.map_eq_some_iff] at h
      obtain ⟨x, hx, h⟩ := h
      cases h
      split at hx
      · split at hx <;> cases hx
      · cases hx
  | agg cs =>
    simp only [back, back1] at h
    split at h
    · simp only [frz, Option.map_eq_some_iff] at h
      obtain ⟨x, ⟨y, _, rfl⟩, h⟩ := h
      cases h
    · cases h
  | ptr b' i o => simp [back, back1] at h
  | _ => simp [back, back1, frz, frz1] at h

theorem walk_pu {P : Program} {rp : RProg} (sim : ∀ m, CallSim P (runF rp m)) {W : World} {f : Nat} {ps : List PV} {vs : List Value} (h : Pu rp f ps (.p (.bool true))) (hl : ps.length = vs.length)
    (hr : ∀ (k : Nat) p v, ps[k]? = some p → vs[k]? = some v → RepP W (· < W.heap.size) p v) : Calls P f vs.toArray W fun e w' => e = .returned (.bool true) ∧ Below W.heap.size W w' := by
  obtain ⟨m, r, hrun, hb⟩ := h
  have hv := back_bool hb
  have hst : St W (· < W.heap.size) [] [] := ⟨fun k h => h, rfl, by simp, by simp⟩
  obtain ⟨_, hc⟩ := sim m f _ [] r hrun W _ [] hst vs (by simpa using hl) (by
    intro k c v hk hv
    rw [List.getElem?_map, Option.map_eq_some_iff] at hk
    obtain ⟨p, hp, rfl⟩ := hk
    exact .p _ _ (hr k p v hp hv))
  refine hc.mono ?_
  rintro e w' ⟨v, G', ρ', rfl, s1, x1, r1⟩
  rw [hv] at r1
  have hv := rep_bool r1
  refine ⟨by rw [hv], x1.wld.1, x1.wld.2.1, x1.wld.2.2, x1.heap, fun k hk => x1.below k hk ?_⟩
  rintro ⟨i, o, t, s, h⟩
  simp at h

theorem heap_lt {W : World} : ∀ k arr el fr, W.heap[k]? = some (.cells arr el fr) → k < W.heap.size := by
  intro k arr el fr h
  rcases Nat.lt_or_ge k W.heap.size with h1 | h1
  · exact h1
  · rw [Array.getElem?_eq_none h1] at h; cases h
end Go.Proofs.Ytdieenbfdeaffaa.Vpi

namespace Go.Proofs.Ytdieenbfdeaffaa.Vpi
open Go
set_option linter.unusedVariables false
set_option linter.unusedSimpArgs false

def TabLe (rp rp' : RProg) : Prop := ∀ f rf, rp f = some rf → rp' f = some rf

theorem runK_lift {rp rp' : RProg} (ht : TabLe rp rp') : ∀ (n : Nat) (rs : List RRes) (c : RCode) (ks : List KI) (e : Env) (σ : Store) (x : CV × Store), runK rp n rs c ks e σ = some x → runK rp' n rs c ks e σ = some x := by
  intro n
  induction n with
  | zero => intro rs c ks e σ x h; simp [runK] at h
  | succ n ih =>
    intro rs c ks e σ x h
    have hle : CallerLe (runF rp n) (runF rp' n) := by
      intro f args σ x hx
      unfold runF at hx ⊢
      split at hx
      · rename_i rf hf
        rw [ht _ _ hf]
        exact ih _ _ _ _ _ _ hx
      · cases hx
    cases c with
    | skip =>
      cases ks with
      | nil => simpa only [runK] using h
      | cons k ks => cases k <;> (simp only [runK] at h ⊢; exact ih _ _ _ _ _ _ h)
    | reg ops dr =>
      cases dr with
      | none =>
        rw [runK_reg, Option.bind_eq_some_iff] at h
        obtain ⟨p, ho, h⟩ := h
        rw [runK_reg, runO_mono hle ho]
        exact ih _ _ _ _ _ _ h
      | some hx =>
        obtain ⟨hh, xp⟩ := hx
        rw [runK_draw, Option.bind_eq_some_iff] at h
        obtain ⟨p, ho, h⟩ := h
        rw [runK_draw, runO_mono hle ho]
        simp only [Option.bind_some]
        split at h
        · rename_i hp
          rw [if_pos hp]
          exact ih _ _ _ _ _ _ h
        · cases h
    | seq a b => simp only [runK] at h ⊢; exact ih _ _ _ _ _ _ h
    | cond c a b =>
      simp only [runK] at h ⊢
      split at h
      · split at h
        · rename_i hb; rw [if_pos hb]; exact ih _ _ _ _ _ _ h
        · rename_i hb; rw [if_neg hb]; exact ih _ _ _ _ _ _ h
      · cases h
    | block id c => simp only [runK] at h ⊢; exact ih _ _ _ _ _ _ h
    | scope c => simp only [runK] at h ⊢; exact ih _ _ _ _ _ _ h
    | loop c => simp only [runK] at h ⊢; exact ih _ _ _ _ _ _ h
    | exit id =>
      simp only [runK] at h ⊢
      split at h
      · exact ih _ _ _ _ _ _ h
      · cases h
    | ret => simpa only [runK] using h
    | fg keep c => simp only [runK] at h ⊢; exact ih _ _ _ _ _ _ h

theorem Rn.lift {rp rp' : RProg} (ht : TabLe rp rp') {f : Nat} {args : List CV} {σ : Store} {Q : CV → Store → Prop} (h : Rn rp f args σ Q) : Rn rp' f args σ Q := by
  obtain ⟨n, v, h1, h2⟩ := h
  refine ⟨n, v, ?_, h2⟩
  unfold runF at h1 ⊢
  split at h1
  · rename_i rf hf
    rw [ht _ _ hf]
    exact runK_lift ht _ _ _ _ _ _ _ h1
  · cases h1

theorem Pu.lift {rp rp' : RProg} (ht : TabLe rp rp') {f : Nat} {ps : List PV} {r : CV} (h : Pu rp f ps r) : Pu rp' f ps r := Rn.lift ht h

section
variable {rp : RProg} {rs : List RRes} {base : Nat} {d : Option Nat} {l : List LOp} {dr : Dr} {ks : List KI} {e : Env} {σ : Store} {Q : CV → Store → Prop}

theorem kc_cell0 {f : Nat} {args : List CV} {ps : List PV} {r : CV} (h : Pu rp f ps r) (ha : toPs args = some ps) (hn : args.flatMap addrs = []) : KC rp rs base .cell f args d l dr ks e σ Q = ExR rp rs base l dr ks (sto d r e) σ Q := by
  rw [← kc_pu (rs := rs) (base := base) (d := d) (l := l) (dr := dr) (ks := ks) (e := e) (σ := σ) (Q := Q) h ha]
  unfold KC Cl
  simp only [doCall, hn]

theorem kc_cell {f : Nat} {args al : List CV} {b s : Nat} {cs cs' : List CV} {v : PV} (hb : args.flatMap addrs = [b]) (hσ : σ[b]? = some (.kblk s cs)) (ha : cellArgs b args = some al) (hp : (allP cs).isSome = true)
    (h : Rn rp f al [.kblk s cs] fun v' τ => v' = .p v ∧ τ[0]? = some (.kblk s cs')) (hp' : (allP cs').isSome = true) :
    KC rp rs base .cell f args d l dr ks e σ Q = ExR rp rs base l dr ks (sto d (.p v) e) (σ.set b (.kblk s cs')) Q := by
  unfold KC
  obtain ⟨m, u, h2, h3, h4⟩ := h
  obtain ⟨q, hq⟩ := Option.isSome_iff_exists.1 hp
  obtain ⟨u1, u2⟩ := u
  simp only [] at h3 h4
  subst h3
  refine propext ⟨?_, fun hk => ⟨m, .p v, σ.set b (.kblk s cs'), ?_, hk⟩⟩
  · rintro ⟨n, v', σ', h1, hk⟩
    simp only [doCall, hb, hσ, ha, hq] at h1
    split at h1
    · rename_i v0 τ hr
      have := runF_det hr h2
      cases this
      simp only [h4, hp', and_self, if_true, Option.some.injEq, Prod.mk.injEq] at h1
      obtain ⟨rfl, rfl⟩ := h1
      exact hk
    · cases h1
  · simp only [doCall, hb, hσ, ha, hq, h2, h4, hp', and_self, if_true]
end
end Go.Proofs.Ytdieenbfdeaffaa.Vpi
