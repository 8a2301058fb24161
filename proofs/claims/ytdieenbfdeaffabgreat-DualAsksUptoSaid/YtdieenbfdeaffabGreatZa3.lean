/- The verified interpreter, part 23: lists that grow by append; Whole numbers as lists of limbs: plain facts, no program in sight; The verified interpreter, part 25: rows of numbers in a block of their own; The verified interpreter, part 27: all rewriting rules of a run in one word; The verified interpreter, part 22: what a row reads of an argument is a value without references; The verified interpreter, part 24: from a run of the interpreter to what a row asks; The verified interpreter, part 26: a larger table of functions answers what a smaller one does; The verified interpreter, part 29: ranges over the rows of a list, rules. No condition. -/
import Derived.Test.YtdieenbfdeaffabGreatZa2
import Derived.Test.YtdieenbfdeaffabGreatZa1
import Derived.Deep.Slices
import Derived.Carry
import Derived.Below
set_option linter.unusedSimpArgs false
set_option linter.unusedVariables false
open And renaming intro → ao
open Bool renaming and_eq_true → aA, false_eq_true → aR
open Int renaming toNat → gG
open List renaming getElem?_eq_some_iff → aq, replicate → aw, length_set → ay, getElem?_append_left → aB, getElem?_append_right → aC, getElem?_set_ne → aE, mem_append → aF, append_assoc → aP, length_take → aS, getElem?_eq_getElem → bG, length_append → bX, getElem?_map → cd, not_mem_nil → cU, append_nil → c8, mem_cons_self → dj, mem_cons_of_mem → dK, length_cons → dZ, cons_append → fk, getElem?_cons_zero → gO
open Nat renaming le_refl → av, lt_or_ge → ax, zero_le → aD, mod_eq_of_lt → a6, mul_comm → a7, add_zero → bw, mul_le_mul_left → bH, pow_succ → bJ, lt_succ_self → bO, lt_of_le_of_lt → bQ, mul_assoc → bW, mul_add → ck, add_assoc → dh, pos_of_ne_zero → dU, zero_add → d8, mod_lt → ep, sub_self → eI, mul_zero → fj
open Option renaming map_eq_some_iff → au, map_some → aH, isSome_iff_exists → cw, bind_eq_some_iff → fo
namespace Go.Proofs.YtdieenbfdeaffabGreat.Vpi
open Go
def GL (σ : ar) (sz : Nat) (c : CV) (es : List PV) : Prop := (c = .nils ∧ es = []) ∨ ∃ b, c = .own b 0 es.length ∧ σ[b]? = some (.prow sz es)
def nd (σ : ar) : CV → ar
 | .own b _ _ => σ.set b .dead
 | _ => σ
theorem aQ {b : Nat} {σ : ar} {v : PV} : dL b σ (.p v) = some (.p v) := by cases v <;> rfl
theorem uG {b : Nat} {σ : ar} {v : PV} : back b σ (.p v) = some (.p v) := by cases v <;> rfl
theorem pj {b : Nat} {σ : ar} : dL b σ .nils = some (.p (.sl [])) := rfl
theorem dz {b : Nat} {σ : ar} {x y : CV} {p q : PV} (hx : dL b σ x = some (.p p)) (hy : dL b σ y = some (.p q)) : back b σ (.tup [x, y]) = some (.tup [.p p, .p q]) := by
 simp only [back, j2, hx, hy, aH]
theorem dT {b : Nat} {σ : ar} {x y z : CV} {p q r : PV} (hx : dL b σ x = some (.p p)) (hy : dL b σ y = some (.p q)) (hz : dL b σ z = some (.p r)) : back b σ (.tup [x, y, z]) = some (.tup [.p p, .p q, .p r]) := by
 simp only [back, j2, hx, hy, hz, aH]
theorem c7 {σ : ar} {c : CV} : (nd σ c).length = σ.length := by cases c <;> simp [nd]
section
variable {rp : cg} {rs : List dH} {ks : List KI} {base : Nat} {e : Env} {σ : ar} {Q : CV → ar → Prop} {d : Option Nat} {l : List LOp} {dr : Dr} {sz : Nat} {c : CV} {es xs : List PV}
theorem aM {β : Type} (S : β → Env × ar) (I : β → Prop) (μ : β → Nat) {ct : List Nat} {c : RCode} (b0 : β) (h0 : fgt ct e = (S b0).1) (h1 : σ = (S b0).2) (hi : I b0)
 (hstep : ∀ b, I b → (∀ b' e', I b' → μ b' < μ b → fgt ct e' = (S b').1 → Ex rp rs .skip (.lp (.fg ct c) :: ks) e' (S b').2 Q) → Ex rp rs c (.lp (.fg ct c) :: ks) (S b).1 (S b).2 Q) : Ex rp rs (.loop (.fg ct c)) ks e σ Q := by
 rw [qZ, s7, h0, h1]
 have key : ∀ n b, I b → μ b < n → Ex rp rs c (.lp (.fg ct c) :: ks) (S b).1 (S b).2 Q := by
  intro n
  induction n with
  | zero => intro b _ h; omega
  | succ n ih =>
    intro b hb hn
    refine hstep b hb fun b' e' hb' hlt he => ?_
    rw [Dd, s7, he]
    exact ih b' hb' (by omega)
 exact key _ b0 hi (bO _)
theorem qe {β γ : Type} (S : β → Env × ar) (I : β → Prop) (μ : β → Nat) (T : γ → Env × ar) (J : γ → Prop) {ct keepx : List Nat} {c c2 : RCode} {id : Nat} {ks2 : List KI} (b0 : β) (h0 : fgt ct e = (S b0).1) (h1 : σ = (S b0).2) (hi : I b0)
 (hstep : ∀ (ks' : List KI) b, I b → (∀ b' e', I b' → μ b' < μ b → fgt ct e' = (S b').1 → Ex rp rs .skip (.lp (.fg ct c) :: .blk id :: ks') e' (S b').2 Q) →
   (∀ g e', J g → fgt keepx e' = (T g).1 → Ex rp rs .skip ks' e' (T g).2 Q) → Ex rp rs c (.lp (.fg ct c) :: .blk id :: ks') (S b).1 (S b).2 Q)
 (hend : ∀ g, J g → Ex rp rs c2 ks2 (T g).1 (T g).2 Q) : Ex rp rs (.loop (.fg ct c)) (.blk id :: .code (.fg keepx c2) :: ks2) e σ Q :=
 aM S I μ b0 h0 h1 hi fun b hb ih => hstep _ b hb ih fun g e' hg he => by rw [q6, s7, he]; exact hend g hg
theorem g8 {f b n : Nat} {es : List PV} {r : CV} (h : Pu rp f [.sl es] r) (hσ : σ[b]? = some (.prow 1 es)) (hn : n = es.length) :
 KC rp rs base .fz f [.own b 0 n] d l dr ks e σ Q = ExR rp rs base l dr ks (sto d r e) (σ.set b .dead) Q := by
 have hf := e9 hσ hn
 exact kx h (by simp only [eG, frz, hf, aH])
theorem jC {f b n : Nat} {a : PV} {es : List PV} {r : CV} (h : Pu rp f [a, .sl es] r) (hσ : σ[b]? = some (.prow 1 es)) (hn : n = es.length) :
 KC rp rs base .fz f [.p a, .own b 0 n] d l dr ks e σ Q = ExR rp rs base l dr ks (sto d r e) (σ.set b .dead) Q := by
 have hf := e9 hσ hn
 exact kx h (by simp only [eG, frz, oS, hf, aH])
theorem GL.nil : GL σ sz .nils [] := .inl ⟨rfl, rfl⟩
theorem GL.own {b : Nat} (h : σ[b]? = some (.prow sz es)) {n : Nat} (hn : n = es.length) : GL σ sz (.own b 0 n) es := .inr ⟨b, by rw [hn], h⟩
theorem GL.content (h : GL σ sz c es) : content σ c = some es := by
 rcases h with ⟨rfl, rfl⟩ | ⟨b, rfl, hb⟩
 ·rfl
 ·exact jb hb rfl
theorem GL.dD (h : GL σ sz c es) : dD σ c = some (.sl es) := by
 rcases h with ⟨rfl, rfl⟩ | ⟨b, rfl, hb⟩
 ·rfl
 ·exact e9 hb rfl
theorem GL.frz (h : GL σ sz c es) : frz σ c = some (.sl es) := by
 have h2 := h.dD
 rcases h with ⟨rfl, rfl⟩ | ⟨b, rfl, hb⟩
 ·rfl
 ·exact h2
theorem GL.kill (h : GL σ sz c es) : kill σ c = nd σ c := by
 rcases h with ⟨rfl, rfl⟩ | ⟨b, rfl, hb⟩ <;> rfl
theorem GL.dL (h : GL σ sz c es) : dL 0 σ c = some (.p (.sl es)) := by
 rcases h with ⟨rfl, rfl⟩ | ⟨b, rfl, hb⟩
 ·rfl
 ·simp only [Vpi.dL, e9 hb rfl]; rfl
theorem GL.back (h : GL σ sz c es) : back 0 σ c = some (.p (.sl es)) := by
 rcases h with ⟨rfl, rfl⟩ | ⟨b, rfl, hb⟩
 ·rfl
 ·simp only [Vpi.back, Vpi.dL, e9 hb rfl]; rfl
theorem GL.len (h : GL σ sz c es) : jR c = some es.length := by
 rcases h with ⟨rfl, rfl⟩ | ⟨b, rfl, hb⟩ <;> rfl
theorem GL.lt (h : GL σ sz c es) : GL σ sz c es ∧ ∀ b o n, c = .own b o n → b < σ.length := by
 refine ⟨h, ?_⟩
 rintro b o n rfl
 rcases h with ⟨h, _⟩ | ⟨b', h, hb⟩
 ·cases h
 ·cases h; exact (aq.1 hb).1
theorem GL.left (h : GL σ sz c es) {τ : ar} : GL (σ ++ τ) sz c es := by
 rcases h with ⟨rfl, rfl⟩ | ⟨b, rfl, hb⟩
 ·exact .nil
 ·exact .own (by rw [aB (aq.1 hb).1]; exact hb) rfl
theorem GL.set (h : GL σ sz c es) {k s : Nat} {cs : List CV} (hk : σ[k]? = some (.kblk s cs)) {x : Blk} : GL (σ.set k x) sz c es := by
 rcases h with ⟨rfl, rfl⟩ | ⟨b, rfl, hb⟩
 ·exact .nil
 ·refine .own ?_ rfl
  rw [aE]
  ·exact hb
  ·rintro rfl; rw [hk] at hb; cases hb
theorem fO (h : GL σ sz c es) {k s : Nat} {cs : List CV} (hk : σ[k]? = some (.kblk s cs)) {τ : ar} : (nd σ c ++ τ)[k]? = some (.kblk s cs) := by
 have hlt := (aq.1 hk).1
 rw [aB (by rw [c7]; exact hlt)]
 rcases h with ⟨rfl, rfl⟩ | ⟨b, rfl, hb⟩
 ·exact hk
 ·simp only [nd]
  rw [aE]
  ·exact hk
  ·rintro rfl; rw [hk] at hb; cases hb
theorem C6 (h : Wf σ) : Wf (nd σ c) := by
 cases c <;> try exact h
 exact h.set rfl
theorem B1 (h : Wf σ) {a b : Nat} {xs ys : List PV} : Wf (nd σ c ++ [.prow a xs, .prow b ys]) := by
 have := ((C6 (c := c) h).push (x := .prow a xs) rfl).push (x := .prow b ys) rfl
 rwa [aP] at this
theorem GL.nb {x : Blk} {n m : Nat} (hn : n = es.length) (hm : m = σ.length) : GL (nd σ c ++ [x, .prow sz es]) sz (.own (m + 1) 0 n) es :=
 .own (by rw [hm, ← c7 (c := c), cY]; rfl) hn
theorem ia {s x : Opd} {bytes : Nat} (h : GL σ sz c es) (hc : (es.length + xs.length) * bytes ≤ 140737488355328) (hs : vl e s = c) (hx : vl e x = .own σ.length 0 xs.length) (hz : dE sz xs = true) :
 ExR rp rs base (⟨d, none, none, .append sz bytes s x⟩ :: l) dr ks e (σ ++ [.prow sz xs]) Q = ExR rp rs base l dr ks (sto d (.own (σ.length + 1) 0 (es.length + xs.length)) e) (nd σ c ++ [.prow sz xs, .prow sz (es ++ xs)]) Q := by
 rw [fN]
 have h1 : content (σ ++ [.prow sz xs]) (vl e s) = some es := by rw [hs]; exact h.left.content
 have h2 : content (σ ++ [.prow sz xs]) (vl e x) = some xs := by rw [hx]; exact jb (s := sz) (by simp) rfl
 have hlt := h.lt.2
 simp only [ev, h1, h2, hc, hz, and_self, if_true]
 rcases h with ⟨rfl, rfl⟩ | ⟨b, rfl, hb⟩
 ·rw [hs]
  simp only [gU, aH, eY, nd, bX, dZ, List.length_nil, aP, fk, List.nil_append, d8]
 ·rw [hs]
  have hb' : (σ ++ [.prow sz xs])[b]? = some (.prow sz es) := by rw [aB (hlt _ _ _ rfl)]; exact hb
  simp only [hb', if_true, gU, aH, eY, nd, bX, ay, dZ, List.length_nil, d8]
  rw [List.set_append_left _ _ (hlt _ _ _ rfl), aP]
  rfl
end
def LB : Nat := 4294967296
theorem cQ : 0 < LB := by decide
def val : List Nat → Nat
 | [] => 0
 | x :: l => x + LB * val l
def lm (l : List Nat) : List PV := l.map fun (x : Nat) => .int .u32 (x : Int)
def dgl (n : Nat) : List Nat := if h : n = 0 then [] else n % LB :: dgl (n / LB)
termination_by n
decreasing_by exact Nat.div_lt_self (dU h) (by decide)
def iO : List Nat → List Nat
 | [] => []
 | x :: l => if x = 0 ∧ iO l = [] then [] else x :: iO l
def Lim (l : List Nat) : Prop := ∀ x ∈ l, x < LB
def mk (neg : Bool) (v : Nat) : PV := .agg [.bool (neg && decide (v ≠ 0)), .sl (lm (dgl v))]
def zi (x : Int) : PV := mk (decide (x < 0)) x.natAbs
theorem sG {neg : Bool} {v : Nat} : (mk neg v).cells = [.bool (neg && decide (v ≠ 0)), .sl (lm (dgl v))] := rfl
theorem rE {x : Int} : (zi x).cells = [.bool (decide (x < 0) && decide (x.natAbs ≠ 0)), .sl (lm (dgl x.natAbs))] := rfl
theorem cJ : dgl 0 = [] := by rw [dgl]; simp
theorem iF {n : Nat} (h : n ≠ 0) : dgl n = n % LB :: dgl (n / LB) := by rw [dgl]; simp [h]
theorem aT {l : List Nat} : (lm l).length = l.length := by simp [lm]
theorem cO {l : List Nat} {i : Nat} (h : i < l.length) : (lm l)[i]? = some (.int .u32 (l[i] : Nat)) := by simp [lm, h]
theorem fI {l : List Nat} {i x : Nat} (h : l[i]? = some x) : (lm l)[i]? = some (.int .u32 (x : Nat)) := by simp [lm, h]
theorem mJ {l : List Nat} {n : Nat} : (lm l).take n = lm (l.take n) := by simp [lm, List.map_take]
theorem iY {l m : List Nat} : lm l ++ lm m = lm (l ++ m) := by simp [lm]
theorem eB {l : List Nat} {i x : Nat} : (lm l).set i (.int .u32 (x : Nat)) = lm (l.set i x) := by simp [lm, List.map_set]
theorem i9 {n : Nat} : aw n (PV.int .u32 0) = lm (aw n 0) := by simp [lm]
theorem yh : lm [] = [] := rfl
theorem qR {x : Nat} {l : List Nat} : lm (x :: l) = .int .u32 (x : Nat) :: lm l := rfl
theorem oG {l : List Nat} : dE 1 (lm l) = true := by simp [dE, lm, PV.cells]
theorem c9 {l m : List Nat} : val (l ++ m) = val l + LB ^ l.length * val m := by
 induction l with
 | nil => simp [val]
 | cons x l ih => simp only [fk, val, ih, dZ, bJ]; rw [ck, ← dh, ← bW, a7 LB (LB ^ l.length)]
theorem bR {l : List Nat} (h : Lim l) : val l < LB ^ l.length := by
 induction l with
 | nil => simp [val]
 | cons x l ih =>
   have h1 := h x (dj ..)
   have h2 := ih fun y hy => h y (dK _ hy)
   simp only [val, dZ, bJ]
   have h3 : LB * (val l + 1) ≤ LB * LB ^ l.length := bH _ h2
   rw [ck] at h3
   rw [a7 (LB ^ l.length)]
   omega
theorem jv : ∀ {l : List Nat}, Lim l → iO l = dgl (val l)
 | [], _ => by simp [iO, val, cJ]
 | x :: l, h => by
   have h1 := h x (dj ..)
   have h2 := jv (l := l) fun y hy => h y (dK _ hy)
   simp only [iO, h2, val]
   by_cases hv : val l = 0
   ·rw [hv, cJ]
    by_cases hx : x = 0
    ·simp [hx, cJ]
    ·rw [iF (by omega)]
     simp only [hx, false_and, if_false, fj, bw]
     rw [a6 h1, Nat.div_eq_of_lt h1, cJ]
   ·rw [iF (n := x + LB * val l) (by have := Nat.mul_pos cQ (dU hv); omega)]
    rw [Nat.add_mul_mod_self_left, a6 h1, Nat.add_mul_div_left _ _ cQ, Nat.div_eq_of_lt h1, d8]
    rw [iF hv]
    simp
theorem mY : ∀ {l : List Nat}, (∀ x ∈ l, x = 0) → iO l = []
 | [], _ => rfl
 | x :: l, h => by
   simp only [iO, mY (l := l) fun y hy => h y (dK _ hy), h x (dj ..)]
   simp
theorem fu : ∀ {l : List Nat} {n : Nat}, (∀ i, n ≤ i → ∀ x, l[i]? = some x → x = 0) → (n = 0 ∨ ∃ x, l[n - 1]? = some x ∧ x ≠ 0) → iO l = l.take n
 | [], n, _, _ => by simp [iO]
 | x :: l, 0, h, _ => by
   rw [List.take_zero]
   refine mY fun y hy => ?_
   obtain ⟨i, hi, rfl⟩ := List.getElem_of_mem hy
   exact h i (aD _) _ (by simp)
 | x :: l, 1, h, hn => by
   have h2 : iO l = [] := mY fun y hy => by
    obtain ⟨i, hi, rfl⟩ := List.getElem_of_mem hy
    exact h (i + 1) (by omega) _ (by simp)
   obtain hn | ⟨y, hy, h0⟩ := hn
   ·omega
   ·simp at hy
    subst hy
    simp [iO, h2, h0]
 | x :: l, n + 2, h, hn => by
   obtain hn | ⟨y, hy, h0⟩ := hn
   ·omega
   have h2 := fu (l := l) (n := n + 1) (fun i hi z hz => h (i + 1) (by omega) z (by simpa using hz)) (.inr ⟨y, by simpa using hy, h0⟩)
   have hne : l.take (n + 1) ≠ [] := by
    intro h3
    cases l with
    | nil => simp at hy
    | cons a b => simp at h3
   simp only [iO, h2, List.take_succ_cons]
   rw [if_neg (by simp [hne])]
theorem aW (n : Nat) : Lim (dgl n) := by
 induction n using Nat.strongRecOn with
 | ind n ih =>
   intro x hx
   by_cases h : n = 0
   ·subst h; rw [cJ] at hx; cases hx
   ·rw [iF h] at hx
    rcases List.mem_cons.1 hx with rfl | hx
    ·exact ep _ cQ
    ·exact ih _ (Nat.div_lt_self (dU h) (by decide)) x hx
theorem aZ (n : Nat) : val (dgl n) = n := by
 induction n using Nat.strongRecOn with
 | ind n ih =>
   by_cases h : n = 0
   ·subst h; rw [cJ]; rfl
   ·rw [iF h, val, ih _ (Nat.div_lt_self (dU h) (by decide))]
    exact Nat.mod_add_div n LB
theorem bE {n k : Nat} (h : n < LB ^ k) : (dgl n).length ≤ k := by
 induction k generalizing n with
 | zero => simp at h; subst h; rw [cJ]; simp
 | succ k ih =>
   by_cases h0 : n = 0
   ·subst h0; rw [cJ]; simp
   ·rw [iF h0, dZ]
    have : n / LB < LB ^ k := by
     rw [Nat.div_lt_iff_lt_mul cQ, ← bJ]
     exact h
    have := ih this
    omega
theorem jt {n : Nat} (h : n ≠ 0) : dgl n ≠ [] := by rw [iF h]; simp
theorem val_two {v : Nat} (h : v < LB * LB) : val [v % LB, v / LB] = v := by
 simp only [val, fj, bw]
 exact Nat.mod_add_div v LB
theorem nR {v : Nat} (h : v < LB * LB) : Lim [v % LB, v / LB] := by
 intro x hx
 simp only [List.mem_cons, cU, or_false] at hx
 rcases hx with rfl | rfl
 ·exact ep _ cQ
 ·exact Nat.div_lt_of_lt_mul h
theorem Lim.take {l : List Nat} (h : Lim l) {n : Nat} : Lim (l.take n) := fun x hx => h x (List.mem_of_mem_take hx)
theorem Lim.drop {l : List Nat} (h : Lim l) {n : Nat} : Lim (l.drop n) := fun x hx => h x (List.mem_of_mem_drop hx)
theorem Lim.append {l m : List Nat} (h : Lim l) (k : Lim m) : Lim (l ++ m) := fun x hx => (aF.1 hx).elim (h x) (k x)
theorem Lim.one {x : Nat} (h : x < LB) : Lim [x] := fun y hy => by simp at hy; subst hy; exact h
theorem Lim.rep {n : Nat} : Lim (aw n 0) := fun x hx => by rw [List.eq_of_mem_replicate hx]; exact cQ
theorem Lim.get {l : List Nat} (h : Lim l) {i : Nat} (hi : i < l.length) : l[i] < LB := h _ (List.getElem_mem hi)
theorem uT {n : Nat} : val (aw n 0) = 0 := by
 induction n with
 | zero => rfl
 | succ n ih => simp [List.replicate_succ, val, ih]
theorem val_one {x : Nat} : val [x] = x := by simp [val]
theorem dR {l : List Nat} {i : Nat} (h : i < l.length) : val (l.take (i + 1)) = val (l.take i) + LB ^ i * l[i] := by
 rw [List.take_add_one, bG h, c9, aS, Nat.min_eq_left (Nat.le_of_lt h)]
 simp [val]
theorem gQ {l : List Nat} {i : Nat} (h : i ≤ l.length) : val l = val (l.take i) + LB ^ i * val (l.drop i) := by
 have := c9 (l := l.take i) (m := l.drop i)
 rw [List.take_append_drop, aS, Nat.min_eq_left h] at this
 exact this
theorem me {o : List Nat} {m x : Nat} : (o ++ aw (m + 1) 0).set o.length x = o ++ [x] ++ aw m 0 := by
 rw [List.set_append_right _ _ (av _), eI, List.replicate_succ, List.set_cons_zero, aP]
 rfl
theorem n8 {a b : List Nat} (ha : Lim a) {i : Nat} (hi : i < a.length) (hj : i < b.length) (hd : val (a.drop (i + 1)) = val (b.drop (i + 1))) (hlt : a[i] < b[i]) : val a < val b := by
 rw [gQ (i := i + 1) hi, gQ (l := b) (i := i + 1) hj, dR hi, dR hj, hd]
 have h1 := bR (ha.take (n := i))
 rw [aS, Nat.min_eq_left (Nat.le_of_lt hi)] at h1
 have h2 : LB ^ i * (a[i] + 1) ≤ LB ^ i * b[i] := bH _ hlt
 rw [ck] at h2
 omega
theorem lP {x y : Nat} (h : (dgl x).length < (dgl y).length) : x < y := by
 rcases ax x y with h1 | h1
 ·exact h1
 ·have h2 : y < LB ^ (dgl x).length := bQ h1 (by have := bR (aW x); rwa [aZ] at this)
  have := bE h2
  omega
theorem w64 {x : Nat} (h : x < 18446744073709551616) : IntKind.u64.wrap (x : Int) = (x : Int) := by
 simp only [IntKind.wrap, IntKind.bits, IntKind.signed]
 simp
 omega
theorem w32 {x : Nat} : IntKind.u32.wrap (x : Int) = ((x % LB : Nat) : Int) := by
 simp only [IntKind.wrap, IntKind.bits, IntKind.signed, LB]
 simp
theorem je {x y : Nat} (h : x + y < 18446744073709551616) : IntKind.u64.wrap ((x : Int) + (y : Int)) = ((x + y : Nat) : Int) := by
 rw [← Int.natCast_add]; exact w64 h
theorem vT {x y : Nat} (h : x * y < 18446744073709551616) : IntKind.u64.wrap ((x : Int) * (y : Int)) = ((x * y : Nat) : Int) := by
 rw [← Int.natCast_mul]; exact w64 h
theorem fM {x : Nat} (h : x < LB) : IntKind.u64.wrap (x : Int) = (x : Int) := w64 (by unfold LB at h; omega)
theorem sh32 {x : Nat} : ((x : Int).fdiv (2 ^ min (gG 32) IntKind.u64.bits)) = ((x / LB : Nat) : Int) := by
 have h1 : ((2 : Int) ^ min (gG 32) IntKind.u64.bits) = 4294967296 := by decide
 rw [h1, Int.fdiv_eq_ediv_of_nonneg _ (by decide)]
 rfl
theorem mk_zero {s : Bool} : mk s 0 = .agg [.bool false, .sl []] := by simp [mk, cJ, lm]
theorem lX {s s' : Bool} {v v' : Nat} : ke (mk s v) 0 2 (mk s' v') = some (mk s' v') := by simp [ke, mk, PV.cells, setCells]
theorem og {s : Bool} {v : Nat} : fp true 2 (mk s v) 0 = some (mk s v) := by simp [fp, mk]
theorem pE {k k' : IntKind} {a b : Int} : ke (.int k a) 0 1 (.int k' b) = some (.int k' b) := rfl
theorem rM {a b : List PV} : ke (.sl a) 0 1 (.sl b) = some (.sl b) := rfl
section
variable {rp : cg} {rs : List dH} {ks : List KI} {base : Nat} {e : Env} {σ : ar} {Q : CV → ar → Prop} {d : Option Nat} {l : List LOp} {dr : Dr} {sz : Nat} {c : CV} {es xs : List PV}
theorem cC {f : Nat} {args : List CV} (h : Rn rp f args σ fun v τ => ExR rp rs base l dr ks (sto d v e) τ Q) : KC rp rs base .ct f args d l dr ks e σ Q := At h
theorem GL.iq (h : GL σ sz c es) {k : Nat} (hk : ∀ b o n, c = .own b o n → b ≠ k) {x : Blk} : GL (σ.set k x) sz c es := by
 rcases h with ⟨rfl, rfl⟩ | ⟨b, rfl, hb⟩
 ·exact .nil
 ·exact .own (by rw [aE (fun h => hk _ _ _ rfl h.symm)]; exact hb) rfl
structure Inv (σ : ar) (z : Int) (c : CV) (rows : List PV) (b : Nat) (row : List PV) : Prop where
 wf : Wf σ
 z : σ[0]? = some (.kblk 1 [.p (.int .u64 z)])
 gl : GL σ 1 c rows
 row : σ[b]? = some (.prow 2 row)
 ne : ∀ b' o n, c = .own b' o n → b' ≠ b
variable {z : Int} {rows row : List PV} {b : Nat}
structure Jnv (σ : ar) (c : CV) (rows : List PV) (b : Nat) (row : List PV) : Prop where
 wf : Wf σ
 gl : GL σ 1 c rows
 row : σ[b]? = some (.prow 2 row)
 ne : ∀ b' o n, c = .own b' o n → b' ≠ b
end
end Go.Proofs.YtdieenbfdeaffabGreat.Vpi
namespace Go.Proofs.YtdieenbfdeaffabGreat.Vpi
open Go
set_option maxRecDepth 10000
theorem S1 : type_of% (ao (@yy) <| ao (@q6) <| ao (@yA) <| ao (@s9) <| ao (@s7) <| ao (@AI) <| ao (@wP) <| ao (@CA) <| ao (@wN) <| ao (@nF) <| ao (@mM) <| ao (@oW) <| ao (@Ba) <| ao (@s6) <| ao (@oV) <| ao (@AH) <| ao (@AJ) <| ao (@vr) <| ao (@AU) <| ao (@xH) <| ao (@eY) <| ao (@A9) <| ao (@CT) <| ao (@xJ) <| ao (@xG) <| ao (@vg) <| ao (@AW) <| ao (@ve) <| ao (@ml) <| ao (@xK) <| ao (@va) <| ao (@xI) <| ao (@AX) <| ao (@xO) <| ao (@ud) <| ao (@o8) <| (@xP)) := ao (@yy) <| ao (@q6) <| ao (@yA) <| ao (@s9) <| ao (@s7) <| ao (@AI) <| ao (@wP) <| ao (@CA) <| ao (@wN) <| ao (@nF) <| ao (@mM) <| ao (@oW) <| ao (@Ba) <| ao (@s6) <| ao (@oV) <| ao (@AH) <| ao (@AJ) <| ao (@vr) <| ao (@AU) <| ao (@xH) <| ao (@eY) <| ao (@A9) <| ao (@CT) <| ao (@xJ) <| ao (@xG) <| ao (@vg) <| ao (@AW) <| ao (@ve) <| ao (@ml) <| ao (@xK) <| ao (@va) <| ao (@xI) <| ao (@AX) <| ao (@xO) <| ao (@ud) <| ao (@o8) <| (@xP)
theorem S2 : type_of% (ao (@AY) <| ao (@CR) <| ao (@xM) <| ao (@vb) <| ao (@sh) <| ao (@vc) <| ao (@sf) <| ao (@pK) <| ao (@AV) <| ao (@xL) <| ao (@CS) <| ao (@CU) <| ao (@xN) <| ao (@vd) <| ao (@ym) <| ao (@r_g) <| ao (@Db) <| ao (@Da) <| ao (@List.all_nil.{0}) <| ao (@gU) <| ao (@AR) <| ao (@xC) <| ao (@u9) <| ao (@AS) <| ao (@p9) <| ao (@o7) <| ao (@tj) <| ao (@qa) <| ao (@sG) <| (@rE)) := ao (@AY) <| ao (@CR) <| ao (@xM) <| ao (@vb) <| ao (@sh) <| ao (@vc) <| ao (@sf) <| ao (@pK) <| ao (@AV) <| ao (@xL) <| ao (@CS) <| ao (@CU) <| ao (@xN) <| ao (@vd) <| ao (@ym) <| ao (@r_g) <| ao (@Db) <| ao (@Da) <| ao (@List.all_nil.{0}) <| ao (@gU) <| ao (@AR) <| ao (@xC) <| ao (@u9) <| ao (@AS) <| ao (@p9) <| ao (@o7) <| ao (@tj) <| ao (@qa) <| ao (@sG) <| (@rE)
theorem S3 : type_of% (ao (@tk) <| ao (@pc) <| ao (@nI) <| ao (@pa) <| ao (@o9) <| ao (@qc) <| ao (@nP) <| ao (@A7) <| ao (@vq) <| ao (@sQ) <| ao (@yR) <| ao (@np) <| ao (@tI) <| ao (@tw) <| ao (@tB) <| ao (@tH) <| ao (@vK) <| ao (@tu) <| ao (@tG) <| ao (@tA) <| ao (@tC) <| ao (@tD) <| ao (@tz) <| ao (@tx) <| ao (@tE) <| ao (@tF) <| ao (@uY) <| ao (@pG) <| ao (@og) <| (@lX)) := ao (@tk) <| ao (@pc) <| ao (@nI) <| ao (@pa) <| ao (@o9) <| ao (@qc) <| ao (@nP) <| ao (@A7) <| ao (@vq) <| ao (@sQ) <| ao (@yR) <| ao (@np) <| ao (@tI) <| ao (@tw) <| ao (@tB) <| ao (@tH) <| ao (@vK) <| ao (@tu) <| ao (@tG) <| ao (@tA) <| ao (@tC) <| ao (@tD) <| ao (@tz) <| ao (@tx) <| ao (@tE) <| ao (@tF) <| ao (@uY) <| ao (@pG) <| ao (@og) <| (@lX)
theorem S4 : type_of% (ao (@pE) <| ao (@rM) <| ao (@nr) <| ao (@lU) <| ao (@List.map_cons.{0,0}) <| ao (@List.map_nil.{0,0}) <| ao (@List.foldl_cons.{0,0}) <| ao (@List.foldl_nil.{0,0}) <| ao (@dZ.{0}) <| ao (@List.length_nil.{0}) <| ao (@List.all_cons.{0}) <| ao (@c8.{0}) <| ao (@List.nil_append.{0}) <| ao (@fk.{0}) <| ao (@List.set_cons_zero.{0}) <| ao (@List.set_cons_succ.{0}) <| ao (@gO.{0}) <| ao (@List.getElem?_cons_succ.{0}) <| ao (@List.take_succ_cons.{0}) <| ao (@List.take_zero.{0}) <| ao (@List.drop_succ_cons.{0}) <| ao (@List.drop_zero.{0}) <| ao (@List.take_nil.{0}) <| ao (@List.drop_nil.{0}) <| ao (@aP.{0}) <| ao (@bX.{0}) <| ao (@ay.{0}) <| ao (@cP) <| ao (@cY) <| (@jz)) := ao (@pE) <| ao (@rM) <| ao (@nr) <| ao (@lU) <| ao (@List.map_cons.{0,0}) <| ao (@List.map_nil.{0,0}) <| ao (@List.foldl_cons.{0,0}) <| ao (@List.foldl_nil.{0,0}) <| ao (@dZ.{0}) <| ao (@List.length_nil.{0}) <| ao (@List.all_cons.{0}) <| ao (@c8.{0}) <| ao (@List.nil_append.{0}) <| ao (@fk.{0}) <| ao (@List.set_cons_zero.{0}) <| ao (@List.set_cons_succ.{0}) <| ao (@gO.{0}) <| ao (@List.getElem?_cons_succ.{0}) <| ao (@List.take_succ_cons.{0}) <| ao (@List.take_zero.{0}) <| ao (@List.drop_succ_cons.{0}) <| ao (@List.drop_zero.{0}) <| ao (@List.take_nil.{0}) <| ao (@List.drop_nil.{0}) <| ao (@aP.{0}) <| ao (@bX.{0}) <| ao (@ay.{0}) <| ao (@cP) <| ao (@cY) <| (@jz)
theorem S5 : type_of% (ao (@iB) <| ao (@aH.{0,0}) <| ao (@Option.map_none.{0,0}) <| ao (@and_self) <| ao (@true_and) <| ao (@and_true) <| ao (@if_true.{1}) <| ao (@if_false.{1}) <| ao (@ite_true.{1}) <| ao (@ite_false.{1}) <| ao (@d8) <| ao (@bw) <| ao (@Nat.zero_mul) <| ao (@beq_self_eq_true.{0}) <| ao (@aR) <| ao (@Bool.and_self) <| ao (@Bool.and_true) <| ao (@Bool.true_and) <| ao (@decide_eq_true_eq) <| ao (@decide_true) <| ao (@decide_false) <| (@av)) := ao (@iB) <| ao (@aH.{0,0}) <| ao (@Option.map_none.{0,0}) <| ao (@and_self) <| ao (@true_and) <| ao (@and_true) <| ao (@if_true.{1}) <| ao (@if_false.{1}) <| ao (@ite_true.{1}) <| ao (@ite_false.{1}) <| ao (@d8) <| ao (@bw) <| ao (@Nat.zero_mul) <| ao (@beq_self_eq_true.{0}) <| ao (@aR) <| ao (@Bool.and_self) <| ao (@Bool.and_true) <| ao (@Bool.true_and) <| ao (@decide_eq_true_eq) <| ao (@decide_true) <| ao (@decide_false) <| (@av)
theorem S6 : type_of% (ao (@ev.eq_1) <| ao (@ev.eq_2) <| ao (@ev.eq_3) <| ao (@ev.eq_4) <| ao (@ev.eq_5) <| ao (@ev.eq_6) <| ao (@ev.eq_7) <| ao (@ev.eq_8) <| ao (@ev.eq_9) <| ao (@ev.eq_10) <| ao (@ev.eq_11) <| ao (@ev.eq_12) <| ao (@ev.eq_13) <| ao (@ev.eq_14) <| ao (@ev.eq_15) <| ao (@ev.eq_16) <| ao (@ev.eq_17) <| ao (@ev.eq_18) <| ao (@ev.eq_19) <| ao (@ev.eq_20) <| ao (@ev.eq_21) <| ao (@ev.eq_22) <| ao (@ev.eq_23) <| ao (@ev.eq_24) <| ao (@ev.eq_25) <| ao (@ev.eq_26) <| ao (@ev.eq_27) <| ao (@ev.eq_28) <| ao (@ev.eq_29) <| ao (@ev.eq_30) <| ao (@ev.eq_31) <| ao (@ev.eq_32) <| ao (@cW.eq_1) <| ao (@kj.eq_1) <| ao (@kj.eq_2) <| ao (@lH.eq_1) <| ao (@lH.eq_2) <| ao (@vl.eq_1) <| ao (@vl.eq_2) <| ao (@gt.eq_1) <| ao (@gt.eq_2) <| ao (@st.eq_1) <| ao (@st.eq_2) <| ao (@sto.eq_1) <| ao (@sto.eq_2) <| ao (@fgt.eq_1) <| ao (@fgt.eq_2) <| ao (@i64.eq_1) <| ao (@gR.eq_1) <| ao (@gR.eq_2) <| ao (@iS.eq_1) <| ao (@fe.eq_1) <| ao (@fe.eq_2) <| ao (@fe.eq_3) <| ao (@bnd.eq_1) <| ao (@bnd.eq_2) <| ao (@unV.eq_1) <| ao (@unV.eq_2) <| ao (@unV.eq_3) <| ao (@bsz.eq_1) <| ao (@ig.eq_1) <| ao (@ig.eq_2) <| ao (@toP.eq_1) <| ao (@toP.eq_2) <| ao (@eP.eq_1) <| ao (@eP.eq_2) <| ao (@eP.eq_3) <| ao (@iP.eq_1) <| ao (@iP.eq_2) <| ao (@fill.eq_1) <| ao (@fill.eq_2) <| ao (@List.elem.eq_1.{0}) <| ao (@List.elem.eq_2.{0}) <| ao (@List.replicate.eq_1.{0}) <| (@List.replicate.eq_2.{0})) := ao (@ev.eq_1) <| ao (@ev.eq_2) <| ao (@ev.eq_3) <| ao (@ev.eq_4) <| ao (@ev.eq_5) <| ao (@ev.eq_6) <| ao (@ev.eq_7) <| ao (@ev.eq_8) <| ao (@ev.eq_9) <| ao (@ev.eq_10) <| ao (@ev.eq_11) <| ao (@ev.eq_12) <| ao (@ev.eq_13) <| ao (@ev.eq_14) <| ao (@ev.eq_15) <| ao (@ev.eq_16) <| ao (@ev.eq_17) <| ao (@ev.eq_18) <| ao (@ev.eq_19) <| ao (@ev.eq_20) <| ao (@ev.eq_21) <| ao (@ev.eq_22) <| ao (@ev.eq_23) <| ao (@ev.eq_24) <| ao (@ev.eq_25) <| ao (@ev.eq_26) <| ao (@ev.eq_27) <| ao (@ev.eq_28) <| ao (@ev.eq_29) <| ao (@ev.eq_30) <| ao (@ev.eq_31) <| ao (@ev.eq_32) <| ao (@cW.eq_1) <| ao (@kj.eq_1) <| ao (@kj.eq_2) <| ao (@lH.eq_1) <| ao (@lH.eq_2) <| ao (@vl.eq_1) <| ao (@vl.eq_2) <| ao (@gt.eq_1) <| ao (@gt.eq_2) <| ao (@st.eq_1) <| ao (@st.eq_2) <| ao (@sto.eq_1) <| ao (@sto.eq_2) <| ao (@fgt.eq_1) <| ao (@fgt.eq_2) <| ao (@i64.eq_1) <| ao (@gR.eq_1) <| ao (@gR.eq_2) <| ao (@iS.eq_1) <| ao (@fe.eq_1) <| ao (@fe.eq_2) <| ao (@fe.eq_3) <| ao (@bnd.eq_1) <| ao (@bnd.eq_2) <| ao (@unV.eq_1) <| ao (@unV.eq_2) <| ao (@unV.eq_3) <| ao (@bsz.eq_1) <| ao (@ig.eq_1) <| ao (@ig.eq_2) <| ao (@toP.eq_1) <| ao (@toP.eq_2) <| ao (@eP.eq_1) <| ao (@eP.eq_2) <| ao (@eP.eq_3) <| ao (@iP.eq_1) <| ao (@iP.eq_2) <| ao (@fill.eq_1) <| ao (@fill.eq_2) <| ao (@List.elem.eq_1.{0}) <| ao (@List.elem.eq_2.{0}) <| ao (@List.replicate.eq_1.{0}) <| (@List.replicate.eq_2.{0})
theorem S7 : type_of% (ao (@frz.eq_1) <| ao (@frz.eq_2) <| ao (@dD.eq_1) <| ao (@dD.eq_2) <| ao (@dD.eq_3) <| ao (@dD.eq_4) <| ao (@eU.eq_1) <| ao (@eU.eq_2) <| ao (@eG.eq_1) <| (@eG.eq_2)) := ao (@frz.eq_1) <| ao (@frz.eq_2) <| ao (@dD.eq_1) <| ao (@dD.eq_2) <| ao (@dD.eq_3) <| ao (@dD.eq_4) <| ao (@eU.eq_1) <| ao (@eU.eq_2) <| ao (@eG.eq_1) <| (@eG.eq_2)
theorem S8 : type_of% (ao (@kill.eq_1) <| ao (@kill.eq_2) <| ao (@gi.eq_1) <| ao (@gi.eq_2) <| ao (@eE.eq_1) <| (@eC.eq_1)) := ao (@kill.eq_1) <| ao (@kill.eq_2) <| ao (@gi.eq_1) <| ao (@gi.eq_2) <| ao (@eE.eq_1) <| (@eC.eq_1)
theorem wr1 {i : Nat} (h : i + 1 ≤ 9223372036854775807) : IntKind.i64.wrap ((i : Int) + 1) = ((i + 1 : Nat) : Int) := by rw [IntWalk.i64_in _ (by omega)]; omega
theorem SN : type_of% (ao (@Int.natCast_nonneg) (@Int.toNat_natCast)) := ao (@Int.natCast_nonneg) (@Int.toNat_natCast)
theorem SA : type_of% (ao S1 <| ao S2 <| ao S3 <| ao S4 <| ao S5 <| ao (@iK) <| ao (@gT) <| ao S6 <| ao S7 S8) := ao S1 <| ao S2 <| ao S3 <| ao S4 <| ao S5 <| ao (@iK) <| ao (@gT) <| ao S6 <| ao S7 S8
theorem SB : type_of% (ao (@setCells.eq_1) SA) := ao (@setCells.eq_1) SA
end Go.Proofs.YtdieenbfdeaffabGreat.Vpi
namespace Go.Proofs.YtdieenbfdeaffabGreat.Vpi
open Go Go.Deep
def jT (P : Program) (t : TypeId) : Bool :=
 match P.underlying t with
 | some (.struct _) => true
 | _ => false
def fX (agg : Bool) (ps : List PV) : PV := if agg = true then .agg ps else ps.headD default
def oI (P : Program) (q : TypeId → Bool) (tot : Nat) : Nat → List Field → Bool
 | off, [] => off == tot
 | off, f :: fs => f.offset == off && q f.type && oI P q tot (off + P.cellsOf f.type) fs
def sup (P : Program) : Nat → TypeId → Bool
 | 0, _ => false
 | n + 1, t =>
   match P.underlying t with
   | some .bool => P.cellsOf t == 1
   | some (.int _) => P.cellsOf t == 1
   | some (.slice e) => sup P n e && decide (0 < P.cellsOf e) && (jT P e || P.cellsOf e == 1) && P.cellsOf t == 1
   | some (.struct fs) => oI P (sup P n) (P.cellsOf t) 0 fs.toList
   | _ => false
def zJ (q : TypeId → List PV → Prop) : List Field → List PV → Prop
 | [], ps => ps = []
 | f :: fs, ps => ∃ a b, ps = a ++ b ∧ q f.type a ∧ zJ q fs b
def j6 (w : World) (G : Nat → Prop) (ps : List PV) (cs : List Value) : Prop :=
 ps.length = cs.length ∧ ∀ (k : Nat) c u, ps[k]? = some c → cs[k]? = some u → dG w G c u ∧ u.oneCell' = true
section
variable {H : Type} {enc : TypeId × Value → H} {P : Program} {w : World} {G : Nat → Prop} {spare : Nat → Bool}
theorem j6.append {ps qs : List PV} {cs ds : List Value} (h : j6 w G ps cs) (k : j6 w G qs ds) : j6 w G (ps ++ qs) (cs ++ ds) := by
 refine ⟨by simp [h.1, k.1], fun i c u hc hu => ?_⟩
 rcases ax i ps.length with h1 | h1
 ·rw [aB h1] at hc
  rw [aB (by rw [← h.1]; exact h1)] at hu
  exact h.2 i c u hc hu
 ·rw [aC h1] at hc
  rw [aC (by rw [← h.1]; exact h1), ← h.1] at hu
  exact k.2 _ c u hc hu
theorem j6.one {p : PV} {v : Value} (h : dG w G p v) (h1 : v.oneCell' = true) : j6 w G [p] [v] := by
 refine ⟨rfl, fun k c u hc hu => ?_⟩
 cases k with
 | zero => simp at hc hu; subst hc; subst hu; exact ⟨h, h1⟩
 | succ k => simp at hc
theorem qN {agg : Bool} {ps : List PV} {cs : List Value} (h : j6 w G ps cs) (h0 : agg = true ∨ cs.length = 1) : (fX agg ps).cells = ps ∨ (agg = false ∧ ∃ c, ps = [.agg c]) := by
 unfold fX
 cases agg with
 | true => left; simp [PV.cells]
 | false =>
   have h2 : cs.length = 1 := by simpa using h0
   have h1 := h.1
   rw [h2] at h1
   obtain ⟨p, rfl⟩ := List.length_eq_one_iff.1 h1
   cases p with
   | agg c => right; exact ⟨rfl, c, rfl⟩
   | _ => left; simp [PV.cells]
theorem uh {ps : List PV} {cs : List Value} (h : j6 w G ps cs) (h1 : cs.length = 1) {c : List PV} (hc : ps = [.agg c]) : False := by
 subst hc
 obtain ⟨v, rfl⟩ := List.length_eq_one_iff.1 h1
 obtain ⟨h2, h3⟩ := h.2 0 _ _ rfl rfl
 cases h2
 simp [Value.oneCell'] at h3
end
end Go.Proofs.YtdieenbfdeaffabGreat.Vpi
namespace Go.Proofs.YtdieenbfdeaffabGreat.Vpi
open Go Go.RowKit
theorem wF {τ : ar} {v : CV} {b : Bool} (h : back 0 τ v = some (.p (.bool b))) : v = .p (.bool b) := by
 cases v with
 | p x => rw [uG] at h; cases h; rfl
 | tup vs => simp only [back, au] at h; obtain ⟨_, _, h⟩ := h; cases h
 | own b' o n =>
   simp only [back, dL, dD] at h
   split at h
   ·cases h
   ·simp only [au] at h
    obtain ⟨x, hx, h⟩ := h
    cases h
    split at hx
    ·split at hx <;> cases hx
    ·cases hx
 | agg cs =>
   simp only [back, dL] at h
   split at h
   ·simp only [frz, au] at h
    obtain ⟨x, ⟨y, _, rfl⟩, h⟩ := h
    cases h
   ·cases h
 | ptr b' i o => simp [back, dL] at h
 | _ => simp [back, dL, frz, dD] at h
theorem walk_pu {P : Program} {rp : cg} (sim : ∀ m, eF P (fJ rp m)) {W : World} {f : Nat} {ps : List PV} {vs : List Value} (h : Pu rp f ps (.p (.bool true))) (hl : ps.length = vs.length)
 (hr : ∀ (k : Nat) p v, ps[k]? = some p → vs[k]? = some v → dG W (·< W.heap.size) p v) : Calls P f vs.toArray W fun e w' => e = .returned (.bool true) ∧ Below W.heap.size W w' := by
 obtain ⟨m, r, hrun, hb⟩ := h
 have hv := wF hb
 have hst : St W (·< W.heap.size) [] [] := ⟨fun k h => h, rfl, by simp, by simp⟩
 obtain ⟨_, hc⟩ := sim m f _ [] r hrun W _ [] hst vs (by simpa using hl) (by
  intro k c v hk hv
  rw [cd, au] at hk
  obtain ⟨p, hp, rfl⟩ := hk
  exact .p _ _ (hr k p v hp hv))
 refine hc.mono ?_
 rintro e w' ⟨v, G', ρ', rfl, s1, x1, r1⟩
 rw [hv] at r1
 have hv := iJ r1
 refine ⟨by rw [hv], x1.wld.1, x1.wld.2.1, x1.wld.2.2, x1.heap, fun k hk => x1.below k hk ?_⟩
 rintro ⟨i, o, t, s, h⟩
 simp at h
theorem heap_lt {W : World} : ∀ k arr el fr, W.heap[k]? = some (.cells arr el fr) → k < W.heap.size := by
 intro k arr el fr h
 rcases ax k W.heap.size with h1 | h1
 ·exact h1
 ·rw [Array.getElem?_eq_none h1] at h; cases h
end Go.Proofs.YtdieenbfdeaffabGreat.Vpi
namespace Go.Proofs.YtdieenbfdeaffabGreat.Vpi
open Go
def mW (rp rp' : cg) : Prop := ∀ f rf, rp f = some rf → rp' f = some rf
theorem runK_lift {rp rp' : cg} (ht : mW rp rp') : ∀ (n : Nat) (rs : List dH) (c : RCode) (ks : List KI) (e : Env) (σ : ar) (x : CV × ar), runK rp n rs c ks e σ = some x → runK rp' n rs c ks e σ = some x := by
 intro n
 induction n with
 | zero => intro rs c ks e σ x h; simp [runK] at h
 | succ n ih =>
   intro rs c ks e σ x h
   have hle : fS (fJ rp n) (fJ rp' n) := by
    intro f args σ x hx
    unfold fJ at hx ⊢
    split at hx
    ·rename_i rf hf
     rw [ht _ _ hf]
     exact ih _ _ _ _ _ _ hx
    ·cases hx
   cases c with
   | skip =>
     cases ks with
     | nil => simpa only [runK] using h
     | cons k ks =>
       cases k with
       | fin => simpa only [runK] using h
       | code c => simp only [runK] at h ⊢; exact ih _ _ _ _ _ _ h
       | blk i => simp only [runK] at h ⊢; exact ih _ _ _ _ _ _ h
       | sc => simp only [runK] at h ⊢; exact ih _ _ _ _ _ _ h
       | lp c => simp only [runK] at h ⊢; exact ih _ _ _ _ _ _ h
   | reg ops dr =>
     cases dr with
     | none =>
       rw [i4, fo] at h
       obtain ⟨p, ho, h⟩ := h
       rw [i4, eo hle ho]
       exact ih _ _ _ _ _ _ h
     | some hx =>
       obtain ⟨hh, xp⟩ := hx
       rw [iX, fo] at h
       obtain ⟨p, ho, h⟩ := h
       rw [iX, eo hle ho]
       simp only [Option.bind_some]
       split at h
       ·rename_i hp
        rw [if_pos hp]
        exact ih _ _ _ _ _ _ h
       ·cases h
   | seq a b => simp only [runK] at h ⊢; exact ih _ _ _ _ _ _ h
   | cond c a b =>
     simp only [runK] at h ⊢
     split at h
     ·split at h
      ·rename_i hb; rw [if_pos hb]; exact ih _ _ _ _ _ _ h
      ·rename_i hb; rw [if_neg hb]; exact ih _ _ _ _ _ _ h
     ·cases h
   | block id c => simp only [runK] at h ⊢; exact ih _ _ _ _ _ _ h
   | scope c => simp only [runK] at h ⊢; exact ih _ _ _ _ _ _ h
   | loop c => simp only [runK] at h ⊢; exact ih _ _ _ _ _ _ h
   | exit id =>
     simp only [runK] at h ⊢
     split at h
     ·exact ih _ _ _ _ _ _ h
     ·cases h
   | ret => simpa only [runK] using h
   | fg ct c => simp only [runK] at h ⊢; exact ih _ _ _ _ _ _ h
   | bret => simpa only [runK] using h
   | bexit id => simpa only [runK] using h
   | iter c => simp [runK] at h
   | yld _ _ _ _ _ => simp [runK] at h
   | jV t c =>
     simp only [runK] at h ⊢
     split at h
     ·split at h
      ·split at h
       ·split at h
        ·rename_i hcond
         try rw [if_pos hcond]
         exact ih _ _ _ _ _ _ h
        ·cases h
       ·cases h
      ·exact ih _ _ _ _ _ _ h
     ·exact ih _ _ _ _ _ _ h
   | rng b ps x asg body =>
     have hYle : YLe (lG rp n ps asg body e) (lG rp' n ps asg body e) := by
      intro args τ y hy
      unfold lG at hy ⊢
      split at hy
      ·rename_i hl
       rw [if_pos hl]
       split at hy
       ·rename_i h1
        simp only [ir hle h1]
        exact ih _ _ _ _ _ _ hy
       ·cases hy
      ·cases hy
     rw [mh] at h ⊢
     split at h
     ·rename_i f cap hx
      try simp only [hx]
      split at h
      ·rename_i c hrf
       simp only [ht _ _ hrf]
       split at h
       ·rename_i hI
        simp only [cK hle hYle (av n) hI]
        exact ih _ _ _ _ _ _ h
       ·rename_i hI
        simp only [cK hle hYle (av n) hI]
        exact ih _ _ _ _ _ _ h
       ·rename_i hI
        simp only [cK hle hYle (av n) hI]
        split at h
        ·rename_i he
         try simp only [he]
         exact ih _ _ _ _ _ _ h
        ·rename_i he
         try simp only [he]
         split at h
         ·rename_i hb
          try rw [if_pos hb]
          exact ih _ _ _ _ _ _ h
         ·cases h
       ·cases h
      ·cases h
     ·cases h
theorem Rn.lift {rp rp' : cg} (ht : mW rp rp') {f : Nat} {args : List CV} {σ : ar} {Q : CV → ar → Prop} (h : Rn rp f args σ Q) : Rn rp' f args σ Q := by
 obtain ⟨n, v, h1, h2⟩ := h
 refine ⟨n, v, ?_, h2⟩
 unfold fJ at h1 ⊢
 split at h1
 ·rename_i rf hf
  rw [ht _ _ hf]
  exact runK_lift ht _ _ _ _ _ _ _ h1
 ·cases h1
theorem Pu.lift {rp rp' : cg} (ht : mW rp rp') {f : Nat} {ps : List PV} {r : CV} (h : Pu rp f ps r) : Pu rp' f ps r := Rn.lift ht h
section
variable {rp : cg} {rs : List dH} {base : Nat} {d : Option Nat} {l : List LOp} {dr : Dr} {ks : List KI} {e : Env} {σ : ar} {Q : CV → ar → Prop}
theorem yp {f : Nat} {args : List CV} {ps : List PV} {r : CV} (h : Pu rp f ps r) (ha : ig args = some ps) (hn : args.flatMap fq = []) : KC rp rs base .cell f args d l dr ks e σ Q = ExR rp rs base l dr ks (sto d r e) σ Q := by
 rw [← j1 (rs := rs) (base := base) (d := d) (l := l) (dr := dr) (ks := ks) (e := e) (σ := σ) (Q := Q) h ha]
 unfold KC Cl
 simp only [de, hn]
theorem qV {f : Nat} {args al : List CV} {b s : Nat} {cs cs' : List CV} {v : PV} (hb : args.flatMap fq = [b]) (hσ : σ[b]? = some (.kblk s cs)) (ha : jc b args = some al) (hp : (fe cs).isSome = true)
 (h : Rn rp f al [.kblk s cs] fun v' τ => v' = .p v ∧ τ[0]? = some (.kblk s cs')) (hp' : (fe cs').isSome = true) :
 KC rp rs base .cell f args d l dr ks e σ Q = ExR rp rs base l dr ks (sto d (.p v) e) (σ.set b (.kblk s cs')) Q := by
 unfold KC
 obtain ⟨m, u, h2, h3, h4⟩ := h
 obtain ⟨q, hq⟩ := cw.1 hp
 obtain ⟨u1, u2⟩ := u
 simp only [] at h3 h4
 subst h3
 refine propext ⟨?_, fun hk => ⟨m, .p v, σ.set b (.kblk s cs'), ?_, hk⟩⟩
 ·rintro ⟨n, v', σ', h1, hk⟩
  simp only [de, hb, hσ, ha, hq] at h1
  split at h1
  ·rename_i v0 τ hr
   have := ow hr h2
   cases this
   simp only [h4, hp', and_self, if_true, Option.some.injEq, Prod.mk.injEq] at h1
   obtain ⟨rfl, rfl⟩ := h1
   exact hk
  ·cases h1
 ·simp only [de, hb, hσ, ha, hq, h2, h4, hp', and_self, if_true]
end
theorem nN {rp : cg} {n m : Nat} (h : n ≤ m) {ps : List Nat} {asg body : RCode} {e : Env} : YLe (lG rp n ps asg body e) (lG rp m ps asg body e) := by
 intro args τ y hy
 unfold lG at hy ⊢
 split at hy
 ·rename_i hl
  rw [if_pos hl]
  split at hy
  ·rename_i h1
   simp only [ir (gB h) h1]
   exact jf h hy
  ·cases hy
 ·cases hy
def gV : RCode → Bool
 | .skip => true
 | .reg _ none => true
 | .seq a b => gV a && gV b
 | _ => false
theorem qE {rp : cg} : ∀ {asg : RCode} {c : RCode} {ks : List KI} {e : Env} {σ : ar} {n : Nat} {rs : List dH} {r : CV × ar}, gV asg = true → runK rp n rs asg (.code c :: ks) e σ = some r → ∃ e1 σ1, gv (fJ rp n) asg e σ = some (e1, σ1) ∧ runK rp n rs c ks e1 σ1 = some r
 | .skip, c, ks, e, σ, 0, rs, r, _, h => by simp [runK] at h
 | .skip, c, ks, e, σ, n + 1, rs, r, _, h => by
   simp only [runK] at h
   exact ⟨e, σ, rfl, jf (Nat.le_succ n) h⟩
 | .reg L none, c, ks, e, σ, 0, rs, r, _, h => by simp [runK] at h
 | .reg L none, c, ks, e, σ, n + 1, rs, r, _, h => by
   rw [i4, fo] at h
   obtain ⟨p, ho, h⟩ := h
   cases n with
   | zero => simp [runK] at h
   | succ n =>
     simp only [runK] at h
     refine ⟨p.1, p.2, ?_, jf (by omega) h⟩
     simp only [gv]
     exact eo (gB (Nat.le_succ _)) ho
 | .seq a b, c, ks, e, σ, 0, rs, r, _, h => by simp [runK] at h
 | .seq a b, c, ks, e, σ, n + 1, rs, r, hk, h => by
   simp only [gV, aA] at hk
   simp only [runK] at h
   obtain ⟨e1, σ1, h1, h2⟩ := qE (asg := a) hk.1 h
   obtain ⟨e2, σ2, h3, h4⟩ := qE (asg := b) hk.2 h2
   refine ⟨e2, σ2, ?_, jf (Nat.le_succ n) h4⟩
   simp only [gv, ir (gB (Nat.le_succ n)) h1, ir (gB (Nat.le_succ n)) h3]
 | .reg _ (some _), _, _, _, _, _, _, _, hk, _ => by simp [gV] at hk
 | .cond _ _ _, _, _, _, _, _, _, _, hk, _ => by simp [gV] at hk
 | .block _ _, _, _, _, _, _, _, _, hk, _ => by simp [gV] at hk
 | .scope _, _, _, _, _, _, _, _, hk, _ => by simp [gV] at hk
 | .loop _, _, _, _, _, _, _, _, hk, _ => by simp [gV] at hk
 | .exit _, _, _, _, _, _, _, _, hk, _ => by simp [gV] at hk
 | .ret, _, _, _, _, _, _, _, hk, _ => by simp [gV] at hk
 | .fg _ _, _, _, _, _, _, _, _, hk, _ => by simp [gV] at hk
 | .rng _ _ _ _ _, _, _, _, _, _, _, _, hk, _ => by simp [gV] at hk
 | .iter _, _, _, _, _, _, _, _, hk, _ => by simp [gV] at hk
 | .yld _ _ _ _ _, _, _, _, _, _, _, _, hk, _ => by simp [gV] at hk
 | .bret, _, _, _, _, _, _, _, hk, _ => by simp [gV] at hk
 | .bexit _, _, _, _, _, _, _, _, hk, _ => by simp [gV] at hk
 | .jV _ _, _, _, _, _, _, _, _, hk, _ => by simp [gV] at hk
theorem zL {rp : cg} {ps : List Nat} {asg body : RCode} {e : Env} {args : List CV} {σ : ar} {K : CV → ar → Prop} (hl : args.length = ps.length) (ha : gV asg = true) (h : Ex rp [] (.seq asg body) [.fin] (stL ps args e) σ K) :
 ∃ n r, lG rp n ps asg body e args σ = some r ∧ K r.1 r.2 := by
 obtain ⟨n, r, h1, h2⟩ := h
 cases n with
 | zero => simp [runK] at h1
 | succ n =>
   simp only [runK] at h1
   obtain ⟨e1, σ1, h3, h4⟩ := qE ha h1
   refine ⟨n, r, ?_, h2⟩
   unfold lG
   rw [if_pos hl]
   simp only [h3]
   exact h4
theorem yz {rp : cg} {rs : List dH} {e : Env} {σ : ar} {Q : CV → ar → Prop} : Ex rp rs .skip [.fin] e σ Q = Q (.p (.bool true)) σ := by
 rw [q5 (o := some (.p (.bool true), σ)) fun n => by simp only [runK]]
 exact propext ⟨fun ⟨v, h1, h2⟩ => by cases h1; exact h2, fun h => ⟨_, rfl, h⟩⟩
theorem nU {rp : cg} {rs : List dH} {ks : List KI} {e : Env} {σ : ar} {Q : CV → ar → Prop} {t b o n : Nat} {c : RCode} {cs : List CV} {qs : List PV} (hg : gt e t = .own b o n) (hb : σ[b]? = some (.kblk 1 cs)) (hf : eU σ cs = some qs) (hs : qs.all uv = true) (hm : (cs.flatMap eA).elem b = false) :
 Ex rp rs (.jV t c) ks e σ Q = Ex rp rs c ks e ((eE σ cs).set b (.prow 1 qs)) Q := fY fun n => by
 simp only [runK, hg, hb, hf]
 rw [if_pos ⟨trivial, hs, hm⟩]
def nG : RCode := .fg [0, 5, 6, 7] (.seq (.reg [⟨some 8, none, none, .bin .lss (.t 7) (.t 6)⟩] none)
 (.seq (.cond (.t 8) .skip (.exit 0))
 (.fg [0, 5, 6, 7] (.seq (.block 1
   (.seq (.reg [⟨some 9, none, none, .mv (.t 7)⟩, ⟨some 10, none, none, .indexA 1 (.t 5) (.t 7)⟩, ⟨some 11, none, none, .load false 1 (.t 10)⟩, ⟨some 3, none, none, .mv (.t 9)⟩, ⟨some 4, none, none, .mv (.t 11)⟩] none)
   (.seq (.yld 12 [⟨some 13, none, none, .mv (.t 3)⟩, ⟨some 14, none, none, .mv (.t 4)⟩] 15 [.t 13, .t 14] [⟨some 16, none, none, .un .not (.t 15)⟩])
   (.fg [0, 5, 6, 7, 16] (.cond (.t 16) .ret .skip)))))
 (.fg [0, 5, 6, 7] (.reg [⟨some 17, none, none, .bin .add (.t 7) (.c (.p (.int .i64 1)))⟩, ⟨some 7, none, none, .mv (.t 17)⟩] none))))))
def yL : RCode := .seq (.reg [⟨some 5, none, none, .load false 1 (.t 1)⟩, ⟨some 6, none, none, .len (.t 5)⟩, ⟨some 7, none, none, .mv (.c (.p (.int .i64 0)))⟩] none)
 (.fg [0, 5, 6, 7] (.block 0 (.loop nG)))
def elC (σ : ar) : CV → Nat → Option CV
 | .p (.sl es), i =>
   match es[i]? with
   | some v => if v.cells.length = 1 then (fp false 1 v 0).map .p else none
   | none => none
 | .own b off n, i =>
   if i < n ∧ bsz σ b = some 1 then
    match σ[b]? with
    | some (.prow _ es) =>
      match es[off + i]? with
      | some x => (fp false 1 x 0).map .p
      | none => none
    | some (.kblk s cs) => gR false 1 cs ((off + i) * s + 0)
    | _ => none
   else none
 | _, _ => none
section
variable {call : dx} {e : Env} {σ : ar} {base : Nat} {c : CV} {n i : Nat}
def kM (e : Env) (c : CV) (n i : Nat) : Prop := gt e 5 = c ∧ gt e 6 = i64 (n : Int) ∧ gt e 7 = i64 (i : Int)
theorem kM.forget {ct : List Nat} (h : kM e c n i) (h5 : ct.elem 5 = true) (h6 : ct.elem 6 = true) (h7 : ct.elem 7 = true) : kM (fgt ct e) c n i := by
 have key : ∀ k, ct.elem k = true → gt (fgt ct e) k = gt e k := by
  intro k hk
  clear h
  induction e with
  | nil => rfl
  | cons a l ih =>
    obtain ⟨j, u⟩ := a
    simp only [fgt]
    by_cases hj : j = k
    ·subst hj
     rw [if_pos hk]
     simp only [gt, if_true]
    ·by_cases hkj : ct.elem j = true
     ·rw [if_pos hkj]
      simp only [gt, if_neg hj]
      exact ih
     ·rw [if_neg hkj]
      simp only [gt, if_neg hj]
      exact ih
 exact ⟨(key 5 h5).trans h.1, (key 6 h6).trans h.2.1, (key 7 h7).trans h.2.2⟩
theorem kM.put {d : Nat} {v : CV} (h : kM e c n i) (h5 : d ≠ 5) (h6 : d ≠ 6) (h7 : d ≠ 7) : kM (st d v e) c n i := by
 refine ⟨?_, ?_, ?_⟩ <;> rw [gj, if_neg (by omega)]
 ·exact h.1
 ·exact h.2.1
 ·exact h.2.2
theorem vC (h : kM e c n i) : du call base [⟨some 8, none, none, .bin .lss (.t 7) (.t 6)⟩] e σ = some (st 8 (.p (.bool (decide ((i : Int) < (n : Int))))) e, σ) := by
 simp only [du, evL, ev1, ev, vl, h.2.1, h.2.2, i64, aH, sto]
 rfl
theorem Am {v : CV} (h : kM e c n i) (hv : elC σ c i = some v) : ∃ e', du call base [⟨some 9, none, none, .mv (.t 7)⟩, ⟨some 10, none, none, .indexA 1 (.t 5) (.t 7)⟩, ⟨some 11, none, none, .load false 1 (.t 10)⟩, ⟨some 3, none, none, .mv (.t 9)⟩, ⟨some 4, none, none, .mv (.t 11)⟩] e σ = some (e', σ) ∧
 kM e' c n i ∧ gt e' 3 = i64 (i : Int) ∧ gt e' 4 = v := by
 have key : ∃ q, ev base none (.indexA 1 (.t 5) (.t 7)) (st 9 (i64 (i : Int)) e) σ = some (q, σ) ∧ ev base none (.load false 1 (.t 10)) (st 10 q (st 9 (i64 (i : Int)) e)) σ = some (v, σ) := by
  have h7 : (gt (st 9 (i64 (i : Int)) e) 7).num = some (i : Int) := by rw [gj, if_neg (by decide), h.2.2]; rfl
  have h5 : gt (st 9 (i64 (i : Int)) e) 5 = c := by rw [gj, if_neg (by decide), h.1]
  have h10 : ∀ q, gt (st 10 q (st 9 (i64 (i : Int)) e)) 10 = q := fun q => by rw [gj, if_pos rfl]
  simp only [ev, vl, h5, h7, h10, Int.natCast_nonneg, if_true, Int.toNat_natCast]
  unfold elC at hv
  split at hv
  ·split at hv
   ·rename_i x hx
    split at hv
    ·rename_i hl
     rw [au] at hv
     obtain ⟨w, hw, rfl⟩ := hv
     refine ⟨.rp x 0, by simp only [hx, hl, if_true], by simp only [hw, aH]⟩
    ·cases hv
   ·cases hv
  ·split at hv
   ·rename_i hc
    refine ⟨_, by simp only [hc, if_true, and_self]; rfl, ?_⟩
    simp only []
    split at hv
    ·rename_i s es hb
     simp only [hb]
     split at hv
     ·rename_i x hx
      simp only [hx]
      rw [au] at hv
      obtain ⟨w, hw, rfl⟩ := hv
      simp only [hw, aH]
     ·cases hv
    ·rename_i s cs hb
     simp only [hb, hv, aH]
    ·cases hv
   ·cases hv
  ·cases hv
 obtain ⟨q, k1, k2⟩ := key
 have g7 : gt e 7 = i64 (i : Int) := h.2.2
 refine ⟨st 4 v (st 3 (i64 (i : Int)) (st 11 v (st 10 q (st 9 (i64 (i : Int)) e)))), ?_, ?_, ?_, ?_⟩
 ·have mv : ∀ (t : Nat) (e : Env), ev base none (.mv (.t t)) e σ = some (gt e t, σ) := fun _ _ => rfl
  simp only [du, evL, ev1, mv, g7, k1, k2, aH, sto, gj]
  simp
 ·exact ((((h.put (by decide) (by decide) (by decide)).put (by decide) (by decide) (by decide)).put (by decide) (by decide) (by decide)).put (by decide) (by decide) (by decide)).put (by decide) (by decide) (by decide)
 ·rw [gj, if_neg (by decide), gj, if_pos rfl]
 ·rw [gj, if_pos rfl]
theorem yK {v : CV} (h3 : gt e 3 = i64 (i : Int)) (h4 : gt e 4 = v) : du call base [⟨some 13, none, none, .mv (.t 3)⟩, ⟨some 14, none, none, .mv (.t 4)⟩] (st 12 .any e) σ = some (st 14 v (st 13 (i64 (i : Int)) (st 12 .any e)), σ) := by
 have mv : ∀ (t : Nat) (e : Env), ev base none (.mv (.t t)) e σ = some (gt e t, σ) := fun _ _ => rfl
 simp only [du, evL, ev1, mv, aH, sto, gj, h3, h4]
 simp
theorem wy {b : Bool} (h : gt e 15 = .p (.bool b)) : du call base [⟨some 16, none, none, .un .not (.t 15)⟩] e σ = some (st 16 (.p (.bool (!b))) e, σ) := by
 simp only [du, evL, ev1, ev, vl, h, aH, sto]
 rfl
theorem Al (h : kM e c n i) (hi : i < 9223372036854775807) : ∃ e', du call base [⟨some 17, none, none, .bin .add (.t 7) (.c (.p (.int .i64 1)))⟩, ⟨some 7, none, none, .mv (.t 17)⟩] e σ = some (e', σ) ∧ kM e' c n (i + 1) := by
 have w : IntKind.i64.wrap ((i : Int) + 1) = ((i + 1 : Nat) : Int) := by rw [IntWalk.i64_in _ (by omega)]; omega
 have hb : ev base none (.bin .add (.t 7) (.c (.p (.int .i64 1)))) e σ = some (i64 ((i + 1 : Nat) : Int), σ) := by
  simp only [ev, vl, h.2.2, i64]
  show Option.map _ (some (PV.int IntKind.i64 (IntKind.i64.wrap ((i : Int) + 1)))) = _
  rw [w]; rfl
 have mv : ∀ (t : Nat) (e : Env), ev base none (.mv (.t t)) e σ = some (gt e t, σ) := fun _ _ => rfl
 refine ⟨st 7 (i64 ((i + 1 : Nat) : Int)) (st 17 (i64 ((i + 1 : Nat) : Int)) e), ?_, ?_⟩
 ·simp only [du, evL, ev1, hb, mv, aH, sto, gj]
  simp
 ·refine ⟨?_, ?_, ?_⟩
  ·rw [gj, if_neg (by decide), gj, if_neg (by decide)]; exact h.1
  ·rw [gj, if_neg (by decide), gj, if_neg (by decide)]; exact h.2.1
  ·rw [gj, if_pos rfl]
theorem pz {r : dx} : fS r r := fun _ _ _ _ h => h
theorem wK {Y : List CV → ar → Option (CV × ar)} : YLe Y Y := fun _ _ _ h => h
variable {Y : List CV → ar → Option (CV × ar)} {L : RCode} {m : Nat} {τ : ar}
variable {pd : Option CV} {ks : List KI}
theorem pI {k : List Nat} {q : RCode} : b8 call Y (m + 1) pd (.fg k q) ks e σ = b8 call Y m pd q ks (fgt k e) σ := by simp only [b8]
theorem kh {a b : RCode} : b8 call Y (m + 1) pd (.seq a b) ks e σ = b8 call Y m pd a (.code b :: ks) e σ := by simp only [b8]
theorem jM {a : RCode} : b8 call Y (m + 1) pd .skip (.code a :: ks) e σ = b8 call Y m pd a ks e σ := by simp only [b8]
theorem BS {a : Nat} : b8 call Y (m + 1) pd .skip (.blk a :: ks) e σ = b8 call Y m pd .skip ks e σ := by simp only [b8]
theorem CQ {a : RCode} : b8 call Y (m + 1) pd .skip (.lp a :: ks) e σ = b8 call Y m pd a (.lp a :: ks) e σ := by simp only [b8]
theorem zN {a : RCode} : b8 call Y (m + 1) pd (.loop a) ks e σ = b8 call Y m pd a (.lp a :: ks) e σ := by simp only [b8]
theorem BR : b8 call Y (m + 1) pd .skip [] e σ = some (pd, σ) := by simp only [b8]
theorem BQ : b8 call Y (m + 1) pd .ret ks e σ = some (pd, σ) := by simp only [b8]
theorem r6 {k : Nat} {a : RCode} : b8 call Y (m + 1) pd (.block k a) ks e σ = b8 call Y m pd a (.blk k :: ks) e σ := by simp only [b8]
theorem zO {k : Nat} {ks' : List KI} (h : gx k ks = some ks') : b8 call Y (m + 1) pd (.exit k) ks e σ = b8 call Y m pd .skip ks' e σ := by simp only [b8, h]
theorem qG {x : Opd} {a b : RCode} {t : Bool} (h : vl e x = .p (.bool t)) : b8 call Y (m + 1) pd (.cond x a b) ks e σ = if t = true then b8 call Y m pd a ks e σ else b8 call Y m pd b ks e σ := by simp only [b8, h]
theorem ox {l : List LOp} {e' : Env} {σ' : ar} (h : du call σ.length l e σ = some (e', σ')) : b8 call Y (m + 1) pd (.reg l none) ks e σ = b8 call Y m pd .skip ks e' σ' := by simp only [b8, h]
theorem BP {y d : Nat} {pre post : List LOp} {args : List Opd} {e1 e3 : Env} {σ1 σ2 σ3 : ar} {out : CV} (h1 : du call σ.length pre (st y .any e) σ = some (e1, σ1)) (h2 : Y (args.map (vl e1)) σ1 = some (out, σ2)) (h3 : du call σ2.length post (st d (.p (.bool (isT out))) e1) σ2 = some (e3, σ3)) :
 b8 call Y (m + 1) none (.yld y pre d args post) ks e σ = b8 call Y m (if isT out = true then none else some out) .skip ks e3 σ3 := by simp only [b8, h1, h2, h3]
theorem wz (h : kM e c n n) : b8 call Y (m + 12) none nG [.lp L, .blk 0] e τ = some (none, τ) := by
 have h1 := vC (call := call) (base := τ.length) (σ := τ) (h.forget (ct := [0, 5, 6, 7]) rfl rfl rfl)
 have hf : decide ((n : Int) < (n : Int)) = false := by simp
 rw [hf] at h1
 have hc8 : ∀ e : Env, vl (st 8 (.p (.bool false)) e) (.t 8) = .p (.bool false) := fun e => by simp only [vl, gj, if_true]
 unfold nG
 rw [pI, kh, ox h1, jM, kh, qG (hc8 _), if_neg (by decide), zO (ks' := []) (by simp [gx]), BR]
theorem pW {v : CV} {out : CV} {τ1 : ar} {r : Option CV × ar} (h : kM e c n i) (hi : i < n) (hn : n < 9223372036854775807) (hv : elC τ c i = some v) (hY : Y [i64 (i : Int), v] τ = some (out, τ1))
 (hr : (isT out = true ∧ ∀ e', kM e' c n (i + 1) → b8 call Y m none L [.lp L, .blk 0] e' τ1 = some r) ∨ (isT out = false ∧ r = (some out, τ1))) : b8 call Y (m + 40) none nG [.lp L, .blk 0] e τ = some r := by
 have h0 := h.forget (ct := [0, 5, 6, 7]) rfl rfl rfl
 have h1 := fun base => vC (call := call) (base := base) (σ := τ) h0
 have ht : decide ((i : Int) < (n : Int)) = true := by simp [hi]
 have hE2 := (h0.put (d := 8) (v := .p (.bool true)) (by decide) (by decide) (by decide)).forget (ct := [0, 5, 6, 7]) rfl rfl rfl
 have h2 : ∃ e2, (∀ base, du call base [⟨some 9, none, none, .mv (.t 7)⟩, ⟨some 10, none, none, .indexA 1 (.t 5) (.t 7)⟩, ⟨some 11, none, none, .load false 1 (.t 10)⟩, ⟨some 3, none, none, .mv (.t 9)⟩, ⟨some 4, none, none, .mv (.t 11)⟩] (fgt [0, 5, 6, 7] (st 8 (.p (.bool true)) (fgt [0, 5, 6, 7] e))) τ = some (e2, τ)) ∧ kM e2 c n i ∧ gt e2 3 = i64 (i : Int) ∧ gt e2 4 = v := by
  obtain ⟨e2, q1, q2, q3, q4⟩ := Am (call := call) (base := 0) (σ := τ) hE2 hv
  refine ⟨e2, fun base => ?_, q2, q3, q4⟩
  rw [← q1]
  rfl
 obtain ⟨e2, h2, hE3, g3, g4⟩ := h2
 have h3 := fun base => yK (call := call) (base := base) (σ := τ) g3 g4
 have hargs : List.map (vl (st 14 v (st 13 (i64 (i : Int)) (st 12 .any e2)))) [.t 13, .t 14] = [i64 (i : Int), v] := by
  simp only [List.map_cons, List.map_nil, vl, gj]
  simp
 have g15 : ∀ b, gt (st 15 (.p (.bool b)) (st 14 v (st 13 (i64 (i : Int)) (st 12 .any e2)))) 15 = .p (.bool b) := fun b => by rw [gj, if_pos rfl]
 have h4 := fun base b => wy (call := call) (base := base) (σ := τ1) (g15 b)
 have hE5 : ∀ b, kM (st 16 (.p (.bool (!b))) (st 15 (.p (.bool b)) (st 14 v (st 13 (i64 (i : Int)) (st 12 .any e2))))) c n i := fun b => ((((hE3.put (by decide) (by decide) (by decide)).put (by decide) (by decide) (by decide)).put (by decide) (by decide) (by decide)).put (by decide) (by decide) (by decide)).put (by decide) (by decide) (by decide)
 have g16 : ∀ b, gt (fgt [0, 5, 6, 7, 16] (st 16 (.p (.bool (!b))) (st 15 (.p (.bool b)) (st 14 v (st 13 (i64 (i : Int)) (st 12 .any e2)))))) 16 = .p (.bool (!b)) := fun b => by
  have key : ∀ (e : Env) (k : Nat), ([0, 5, 6, 7, 16] : List Nat).elem k = true → gt (fgt [0, 5, 6, 7, 16] e) k = gt e k := by
   intro e k hk
   induction e with
   | nil => rfl
   | cons a l ih =>
     obtain ⟨j, u⟩ := a
     simp only [fgt]
     by_cases hj : j = k
     ·subst hj
      rw [if_pos hk]
      simp only [gt, if_true]
     ·by_cases hkj : ([0, 5, 6, 7, 16] : List Nat).elem j = true
      ·rw [if_pos hkj]
       simp only [gt, if_neg hj]
       exact ih
      ·rw [if_neg hkj]
       simp only [gt, if_neg hj]
       exact ih
  rw [key _ 16 rfl, gj, if_pos rfl]
 rw [ht] at h1
 have hy := BP (call := call) (Y := Y) (m := m + 25) (ks := [.code (.fg [0, 5, 6, 7, 16] (.cond (.t 16) .ret .skip)), .blk 1, .code (.fg [0, 5, 6, 7] (.reg [⟨some 17, none, none, .bin .add (.t 7) (.c (.p (.int .i64 1)))⟩, ⟨some 7, none, none, .mv (.t 17)⟩] none)), .lp L, .blk 0]) (y := 12) (d := 15) (pre := [⟨some 13, none, none, .mv (.t 3)⟩, ⟨some 14, none, none, .mv (.t 4)⟩]) (post := [⟨some 16, none, none, .un .not (.t 15)⟩]) (args := [.t 13, .t 14]) (h3 τ.length) (by rw [hargs]; exact hY) (h4 τ1.length (isT out))
 have hc8 : ∀ e : Env, vl (st 8 (.p (.bool true)) e) (.t 8) = .p (.bool true) := fun e => by simp only [vl, gj, if_true]
 have st0 : b8 call Y (m + 40) none nG [.lp L, .blk 0] e τ = b8 call Y (m + 25) (if isT out = true then none else some out) .skip [.code (.fg [0, 5, 6, 7, 16] (.cond (.t 16) .ret .skip)), .blk 1, .code (.fg [0, 5, 6, 7] (.reg [⟨some 17, none, none, .bin .add (.t 7) (.c (.p (.int .i64 1)))⟩, ⟨some 7, none, none, .mv (.t 17)⟩] none)), .lp L, .blk 0] (st 16 (.p (.bool (!isT out))) (st 15 (.p (.bool (isT out))) (st 14 v (st 13 (i64 (i : Int)) (st 12 .any e2))))) τ1 := by
  rw [← hy]
  unfold nG
  rw [pI, kh, ox (h1 _), jM, kh, qG (hc8 _), if_pos rfl, jM, pI, kh, r6, kh, ox (h2 _), jM, kh]
 rw [st0, jM, pI, qG (show vl _ (.t 16) = _ from g16 (isT out))]
 rcases hr with ⟨ho, hr⟩ | ⟨ho, rfl⟩
 ·have hE6 := ((hE5 true).forget (ct := [0, 5, 6, 7, 16]) rfl rfl rfl).forget (ct := [0, 5, 6, 7]) rfl rfl rfl
  obtain ⟨e7, h7, hE7⟩ := Al (call := call) (base := τ1.length) (σ := τ1) hE6 (by omega)
  rw [ho] at *
  simp only [Bool.not_true, aR, if_false, if_true] at h7 ⊢
  rw [BS, jM, pI, ox h7, CQ]
  exact cK pz wK (by omega) (hr e7 hE7)
 ·rw [ho]
  simp only [Bool.not_false, if_true, aR, if_false]
  rw [BQ]
end
section
variable {rp : cg} {ps : List Nat} {asg body : RCode} {e0 : Env} {c : CV} {n : Nat} {I : Nat → ar → Prop} {J : ar → Prop}
theorem pX (hn : n < 9223372036854775807)
 (hb : ∀ i τ, i < n → I i τ → ∃ v, elC τ c i = some v ∧ ∃ m r, lG rp m ps asg body e0 [i64 (i : Int), v] τ = some r ∧ ((r.1 = .p (.bool true) ∧ I (i + 1) r.2) ∨ (r.1 = .p (.bool false) ∧ J r.2))) :
 ∀ (k i : Nat) (τ : ar), i + k = n → I i τ → ∃ m pd τ', (∀ e, kM e c n i → b8 (fJ rp m) (lG rp m ps asg body e0) m none nG [.lp nG, .blk 0] e τ = some (pd, τ')) ∧ ((pd = none ∧ I n τ') ∨ (pd = some (.p (.bool false)) ∧ J τ'))
 | 0, i, τ, hk, hI => by
   obtain rfl : i = n := by omega
   exact ⟨12, none, τ, fun e hE => wz (m := 0) hE, .inl ⟨rfl, hI⟩⟩
 | k + 1, i, τ, hk, hI => by
   obtain ⟨v, hv, m1, ⟨out, τ1⟩, hY, hr⟩ := hb i τ (by omega) hI
   simp only [] at hr
   rcases hr with ⟨rfl, hI1⟩ | ⟨rfl, hJ⟩
   ·obtain ⟨m2, pd, τ', h2, hR⟩ := pX hn hb k (i + 1) τ1 (by omega) hI1
    refine ⟨max m1 m2 + 40, pd, τ', fun e hE => ?_, hR⟩
    refine pW (m := max m1 m2) hE (by omega) hn hv (nN (by omega) _ _ _ hY) (.inl ⟨rfl, fun e' he' => ?_⟩)
    exact cK (gB (by omega)) (nN (by omega)) (by omega) (h2 e' he')
   ·exact ⟨m1 + 40, some (.p (.bool false)), τ1, fun e hE => pW (m := m1) hE (by omega) hn hv (nN (by omega) _ _ _ hY) (.inr ⟨rfl, rfl⟩), .inr ⟨rfl, hJ⟩⟩
theorem wO {rs : List dH} {b : Bool} {x : Opd} {ks : List KI} {e : Env} {σ : ar} {Q : CV → ar → Prop} {gf bx : Nat} (hgf : rp gf = some ⟨.iter yL, []⟩) (hx : vl e x = .fn gf [.ptr bx 0 0]) (hbx : σ[bx]? = some (.kblk 1 [c])) (hlen : jR c = some n) (hn : n < 9223372036854775807) (hps : ps.length = 2) (ha : gV asg = true) (I : Nat → ar → Prop) (J : ar → Prop) (h0 : I 0 σ)
 (hbody : ∀ i τ, i < n → I i τ → ∃ v, elC τ c i = some v ∧ Ex rp [] (.seq asg body) [.fin] (stL ps [i64 (i : Int), v] e) τ (fun out τ' => (out = .p (.bool true) ∧ I (i + 1) τ') ∨ (out = .p (.bool false) ∧ J τ')))
 (hend : ∀ τ, I n τ → Ex rp rs .skip ks e τ Q) (hret : ∀ τ, J τ → Ex rp rs (if b = true then .bret else .ret) ks e τ Q) : Ex rp rs (.rng b ps x asg body) ks e σ Q := by
 obtain ⟨m, pd, τ, h1, h2⟩ := pX (rp := rp) (ps := ps) (asg := asg) (body := body) (e0 := e) (c := c) (I := I) (J := J) hn (fun i τ hi hI => by
  obtain ⟨v, hv, hex⟩ := hbody i τ hi hI
  obtain ⟨m, r, q1, q2⟩ := zL (by simp [hps]) ha hex
  exact ⟨v, hv, m, r, q1, q2⟩) n 0 σ (by omega) h0
 have hstart : ∀ M, m ≤ M → b8 (fJ rp (M + 10)) (lG rp (M + 10) ps asg body e) (M + 10) none yL [] (aJ 0 [.any, .ptr bx 0 0]) σ = some (pd, τ) := by
  intro M hM
  have hr : du (fJ rp (M + 10)) σ.length [⟨some 5, none, none, .load false 1 (.t 1)⟩, ⟨some 6, none, none, .len (.t 5)⟩, ⟨some 7, none, none, .mv (.c (.p (.int .i64 0)))⟩] [(0, .any), (1, .ptr bx 0 0)] σ = some ([(0, .any), (1, .ptr bx 0 0), (5, c), (6, i64 (n : Int)), (7, i64 ((0 : Nat) : Int))], σ) := by
   have e1 : ev σ.length none (.load false 1 (.t 1)) [(0, .any), (1, .ptr bx 0 0)] σ = some (c, σ) := by
    have : gt [(0, CV.any), (1, CV.ptr bx 0 0)] 1 = .ptr bx 0 0 := rfl
    simp only [ev, vl, this, hbx]
    rfl
   have e2 : ev σ.length none (.len (.t 5)) [(0, .any), (1, .ptr bx 0 0), (5, c)] σ = some (i64 (n : Int), σ) := by
    have : gt [(0, CV.any), (1, CV.ptr bx 0 0), (5, c)] 5 = c := rfl
    simp only [ev, vl, this, hlen, aH]
   simp only [du, evL, ev1, e1, aH, sto]
   show (match (Option.map (fun x => (st 6 x.1 [(0, CV.any), (1, CV.ptr bx 0 0), (5, c)], x.2)) (ev σ.length none (.len (.t 5)) [(0, .any), (1, .ptr bx 0 0), (5, c)] σ)) with | some (e, σ) => _ | none => none) = _
   rw [e2]
   rfl
  unfold yL
  rw [kh, ox (by exact hr), jM, pI, r6, zN]
  exact cK (gB (by omega)) (nN (by omega)) (by omega) (h1 _ ⟨rfl, rfl, rfl⟩)
 have go : ∀ {c' : RCode}, (∀ M, runK rp (M + 10 + 1) rs (.rng b ps x asg body) ks e σ = runK rp (M + 10) rs c' ks e τ ∨ M < m) → Ex rp rs c' ks e τ Q → Ex rp rs (.rng b ps x asg body) ks e σ Q := by
  rintro c' hM ⟨n', v, q1, q2⟩
  refine ⟨max m n' + 10 + 1, v, ?_, q2⟩
  rcases hM (max m n') with h | h
  ·rw [h]; exact jf (by omega) q1
  ·omega
 rcases h2 with ⟨rfl, hI⟩ | ⟨rfl, hJ⟩
 ·refine go (c' := .skip) (fun M => ?_) (hend τ hI)
  rcases ax M m with h | h
  ·exact .inr h
  ·left
   rw [mh]
   simp only [hx, hgf, hstart M h]
 ·refine go (c' := if b = true then .bret else .ret) (fun M => ?_) (hret τ hJ)
  rcases ax M m with h | h
  ·exact .inr h
  ·left
   rw [mh]
   simp only [hx, hgf, hstart M h]
end
end Go.Proofs.YtdieenbfdeaffabGreat.Vpi

