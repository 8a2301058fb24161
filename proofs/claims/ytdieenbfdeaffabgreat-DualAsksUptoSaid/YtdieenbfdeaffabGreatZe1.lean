/- dual.Pairs; Comparison of numbers and lists, awake; The law DualPairs; DualAsks, plain: the level is 1 just where the dual rows and the rows by the determinant span one lattice; dual.Level; Coefficients along rows: what the reference computes, and that it solves the equations: plain; The reference: rationals once more, unit vectors, a row's product with rationals; The reference's data of a basis; The reference's Coords: the walk; The reference's data, unit vectors, dual rows; The reference's dual rows; The reference's level, plain; Resolved code of functions, printed by a program of ours (genfun.py); each is held against the model by chkF; The functions together; dual.Even, and the reference's; herm.Same, whatever it answers; dual.Self; The reference's level: the coordinates of a dual row; The reference's Level; The reference's Self; Matrices as arguments; The law DualAsks; What the bound on all arguments gives for their parts. No condition. -/
import Derived.Test.YtdieenbfdeaffabGreatZd1
import Derived.Test.YtdieenbfdeaffabGreatZh1
import Derived.Test.YtdieenbfdeaffabGreatZb2
import Derived.Test.YtdieenbfdeaffabGreatZa2
import Derived.Test.YtdieenbfdeaffabGreatProg
import Derived.KernelRfl
import Derived.Test.YtdieenbfdeaffabGreatZr1
import Derived.Test.YtdieenbfdeaffabGreatZa3
import Derived.Test.YtdieenbfdeaffabGreatZc1
import Derived.Test.YtdieenbfdeaffabGreatChecked
import Derived.Test.YtdieenbfdeaffabGreatRows
set_option linter.unusedSimpArgs false
set_option linter.unusedVariables false
open Bool renaming and_eq_true → aA
open Classical renaming byContradiction → cq
open Int renaming reduceLT → aj, reduceLE → ak, sign_eq_one_of_pos → bo, sign_eq_neg_one_of_neg → bY, le_refl → dN, natAbs_natCast → d9, toNat → gG
open List renaming getElem?_eq_some_iff → aq, replicate → aw, length_set → ay, getElem?_append_left → aB, getElem?_append_right → aC, getElem?_set_ne → aE, getElem?_eq_none → aG, getD_eq_getElem?_getD → aK, getElem?_take → aN, getElem?_set_self → aO, length_take → aS, all_eq_true → aU, range → ca, getElem?_map → cd, append_nil → c8, mem_cons_self → dj, ext_getElem? → dv, mem_cons_of_mem → dK, length_cons → dZ, length_replicate → eK, getElem?_range → gn, getElem?_cons_zero → gO
open Nat renaming reduceLeDiff → aa, reduceEqDiff → ab, reduceMul → ae, reduceBEq → af, reduceAdd → ah, reduceLT → ai, le_refl → av, lt_or_ge → ax, mul_le_mul_right → az, zero_le → aD, mod_eq_of_lt → a6, mul_comm → a7, le_trans → a9, add_zero → bw, pow_succ → bJ, lt_succ_self → bO, lt_of_le_of_lt → bQ, mul_assoc → bW, gcd → bZ, mul_add → ck, pow_pos → dg, add_assoc → dh, mul_one → dq, succ_mul → dX, mod_lt → ep, eq_zero_or_pos → eu, sub_self → eI, mul_zero → fj
open Option renaming map_eq_some_iff → au, map_some → aH
open Rat renaming intCast_mul → dA, num_divInt_den → dP, intCast_inj → eT, divInt → eZ, div_def → gg
namespace Go.Proofs.YtdieenbfdeaffabGreat.VDd
open Go Vpi
open VBn hiding rp tab cV cj mixed sim Big
set_option maxRecDepth 100000
open Gs (V Dv Pos dI sk cI bU)
section
variable {b m : List PV} {nn : Nat → Nat} {X Y : Nat → Nat → Int} {L N : Nat}
section
variable {rp : cg} {rs : List dH} {d : Option Nat} {l : List LOp} {e : Env} {ρ : ar} {Q : CV → ar → Prop} {c : CV} {sz : Nat} {es xs : List PV}
end
structure ib (τ : ar) (cs : List CV) (n : Nat) (R : Nat → List PV) : Prop where
 len : cs.length = n
 row : ∀ a, a < n → ∃ c, cs[a]? = some c ∧ GL τ 2 c (R a)
 ne : ∀ a a' b b' o o' k k' : Nat, a ≠ a' → cs[a]? = some (.own b o k) → cs[a']? = some (.own b' o' k') → b ≠ b'
theorem ib.app {τ : ar} {cs : List CV} {n : Nat} {R : Nat → List PV} (h : ib τ cs n R) {l : ar} : ib (τ ++ l) cs n R :=
 ⟨h.len, fun a ha => by obtain ⟨c, h1, h2⟩ := h.row a ha; exact ⟨c, h1, h2.left⟩, h.ne⟩
theorem ib.grow {τ : ar} {cs : List CV} {n i : Nat} {R : Nat → List PV} {c : CV} {es es' : List PV} (h : ib τ cs n R) (hi : i < n) (hc : cs[i]? = some c) (hg : GL τ 2 c es) {l : ar} {t k : Nat} (hl : l[t]? = some (.prow 2 es')) (hk : k = es'.length) :
 ib (nd τ c ++ l) (cs.set i (.own (τ.length + t) 0 k)) n (fun a => if a = i then es' else R a) := by
 have hlen : (nd τ c).length = τ.length := c7
 have hnew : (nd τ c ++ l)[τ.length + t]? = some (.prow 2 es') := by rw [← hlen, cY]; exact hl
 have hap : ∀ a c', a ≠ i → cs[a]? = some c' → ∀ b o k b' o' k', c' = .own b o k → c = .own b' o' k' → b ≠ b' := fun a c' hai hc' b o k b' o' k' e1 e2 => h.ne a i b b' o o' k k' hai (by rw [hc', e1]) (by rw [hc, e2])
 have hlt : ∀ a b o k, a < n → cs[a]? = some (.own b o k) → b < τ.length := fun a b o k ha hb => by
  obtain ⟨c', h1, h2⟩ := h.row a ha
  rw [hb] at h1
  cases h1
  exact h2.lt.2 _ _ _ rfl
 refine ⟨by rw [ay]; exact h.len, fun a ha => ?_, fun a a' b b' o o' k1 k2 hne h1 h2 => ?_⟩
 ·by_cases hai : a = i
  ·subst hai
   refine ⟨_, aO (by rw [h.len]; exact hi), ?_⟩
   rw [if_pos rfl]
   exact .own hnew hk
  ·obtain ⟨c', h1, h2⟩ := h.row a ha
   refine ⟨c', by rw [aE (Ne.symm hai)]; exact h1, ?_⟩
   rw [if_neg hai]
   exact (VBn.GL.nd h2 fun b o k b' o' k' e1 e2 => hap a c' hai h1 b o k b' o' k' e1 e2).left
 ·have hlt2 : ∀ {a x}, (cs.set i (.own (τ.length + t) 0 k))[a]? = some x → a < n := fun {a x} hx => by
   have := (aq.1 hx).1
   rw [ay, h.len] at this
   exact this
  have ha := hlt2 h1
  have ha' := hlt2 h2
  by_cases hai : a = i
  ·subst hai
   rw [aO (by rw [h.len]; exact ha)] at h1
   cases h1
   rw [aE hne] at h2
   have := hlt a' b' o' k2 ha' h2
   omega
  ·rw [aE (Ne.symm hai)] at h1
   by_cases hai' : a' = i
   ·subst hai'
    rw [aO (by rw [h.len]; exact ha')] at h2
    cases h2
    have := hlt a b o k1 ha h1
    omega
   ·rw [aE (Ne.symm hai')] at h2
    exact h.ne a a' b b' o o' k1 k2 hne h1 h2
theorem ib.eU {τ : ar} : ∀ {n : Nat} {cs : List CV} {R : Nat → List PV}, cs.length = n → (∀ a, a < n → ∃ c, cs[a]? = some c ∧ GL τ 2 c (R a)) → eU τ cs = some ((ca n).map fun a => .sl (R a))
 | 0, [], R, _, _ => rfl
 | 0, _ :: _, R, h, _ => by simp at h
 | n + 1, [], R, h, _ => by simp at h
 | n + 1, c :: cs, R, h, hr => by
   obtain ⟨c0, h1, h2⟩ := hr 0 (by omega)
   simp at h1
   subst h1
   have ih := ib.eU (n := n) (cs := cs) (R := fun a => R (a + 1)) (by simpa using h) fun a ha => hr (a + 1) (by omega)
   simp only [Vpi.eU, h2.dD, ih, aH]
   rw [List.range_succ_eq_map]
   simp
theorem ib.eE {τ : ar} {cs : List CV} {n j s : Nat} {R : Nat → List PV} {xs : List CV} (h : ib τ cs n R) (hj : τ[j]? = some (.kblk s xs)) : (∀ c, c ∈ cs → ∀ b o k, c = .own b o k → b ≠ j) := by
 rintro c hc b o k rfl
 obtain ⟨a, ha⟩ := List.getElem?_of_mem hc
 have hal : a < n := by rw [← h.len]; exact (aq.1 ha).1
 obtain ⟨c', h1, h2⟩ := h.row a hal
 rw [ha] at h1
 cases h1
 exact VBn.GL.nek h2 hj _ _ _ rfl
theorem ib.xY {τ : ar} {cs : List CV} {n j s : Nat} {R : Nat → List PV} {xs : List CV} (h : ib τ cs n R) (hj : τ[j]? = some (.kblk s xs)) : (cs.flatMap eA).elem j = false := by
 rw [Bool.eq_false_iff]
 intro he
 have hm := List.elem_iff.1 he
 obtain ⟨c, hc, hb⟩ := List.mem_flatMap.1 hm
 cases c <;> simp [eA] at hb
 exact h.eE hj _ hc _ _ _ rfl hb.symm
theorem GL.elem {τ : ar} {c : CV} {es : List PV} {j s : Nat} {xs : List CV} (h : GL τ 2 c es) (hj : τ[j]? = some (.kblk s xs)) : List.elem j (aV c) = false := by
 have := VBn.GL.nek h hj
 rcases h with ⟨rfl, _⟩ | ⟨b, rfl, _⟩
 ·rfl
 ·have h2 := this _ _ _ rfl
  simp [aV, eA, Ne.symm h2]
structure Fp (b m : List PV) (B : Nat) (τ : ar) (cs : List CV) (R : Nat → List PV) : Prop where
 h0 : τ[0]? = some (.kblk 1 [.p (.sl b)])
 h1 : τ[1]? = some (.kblk 1 [.p (.sl m)])
 h2 : τ[2]? = some (.kblk 1 [.nils])
 h3 : τ[3]? = some (.kblk 1 [.p (.int .i64 0)])
 h5 : τ[5]? = some (.kblk 1 cs)
 h6 : τ[6]? = some (.kblk 1 [.own 5 0 B])
 ro : ib τ cs B R
theorem ib.v9 {τ : ar} {cs : List CV} {n j s : Nat} {R : Nat → List PV} {xs : List CV} (h : ib τ cs n R) (hj : τ[j]? = some (.kblk s xs)) {x : Blk} : ib (τ.set j x) cs n R :=
 ⟨h.len, fun a ha => by obtain ⟨c, h1, h2⟩ := h.row a ha; exact ⟨c, h1, h2.set hj⟩, h.ne⟩
end
end Go.Proofs.YtdieenbfdeaffabGreat.VDd
namespace Go.Proofs.YtdieenbfdeaffabGreat.VDd
open Go Vpi
open VBn hiding rp tab cV cj mixed sim Big
set_option maxRecDepth 100000
theorem rp47 : rp 8 = some f8 := rfl
theorem p47 {s : Bool} {l : List Nat} (hl : l.length ≤ 1000000000000) : Pu rp 8 [.agg [.bool s, .sl (lm l)], .agg [.bool s, .sl (lm l)]] (.p (.bool true)) := by
 refine aY rp47 ?_
 simp only [f8, aJ, SB, ak, aj, ↓reduceIte, reduceCtorEq, ai, ab, ah, ae, aa, af, aT, bne_self_eq_false, Bool.not_true]
 refine aM (β := Nat) (fun t => ([(2, .ptr 0 0 0), (3, .ptr 1 0 0), (5, i64 t)], [.kblk 2 [.p (.bool s), .p (.sl (lm l))], .kblk 2 [.p (.bool s), .p (.sl (lm l))]])) (fun t => t ≤ l.length) (fun t => l.length - t) 0 rfl rfl (aD _) ?_
 intro i hi ih
 by_cases hin : (i : Int) < l.length
 ·have hin' : i < l.length := by omega
  have w1 := wr1 (i := i) (by omega)
  simp only [SB, ak, aj, ↓reduceIte, reduceCtorEq, ai, ab, ah, ae, aa, af, aT, hin, cO hin', SN, bne_self_eq_false, w1]
  exact ih (i + 1) _ (by omega) (by omega) rfl
 ·simp only [SB, ak, aj, ↓reduceIte, reduceCtorEq, ai, ab, ah, ae, aa, af, aT, hin]
  rfl
theorem CW {x : Int} (h : Sz x) : Pu rp 8 [zi x, zi x] (.p (.bool true)) := by
 have hdl : (dgl x.natAbs).length ≤ 1000000000000 := by
  have := bE (show x.natAbs < LB ^ fR from h)
  rw [cH] at this
  omega
 exact p47 (s := decide (x < 0) && decide (x.natAbs ≠ 0)) hdl
def isTrue : Option (CV × ar) → Bool
 | some (.p (.bool b), _) => b
 | _ => false
theorem BO : isTrue (fJ rp 3000 9 [] []) = true := by kernel_rfl
theorem wq {x : Option (CV × ar)} (h : isTrue x = true) : ∃ ρ, x = some (.p (.bool true), ρ) := by
 unfold isTrue at h
 split at h
 ·subst h; exact ⟨_, rfl⟩
 ·cases h
theorem p48 : Pu rp 9 [] (.p (.bool true)) := by
 obtain ⟨ρ, h⟩ := wq BO
 exact ⟨3000, _, h, rfl⟩
end Go.Proofs.YtdieenbfdeaffabGreat.VDd
namespace Go.Proofs.YtdieenbfdeaffabGreat.VDd
open Go Vpi
open VBn hiding rp tab cV cj mixed sim Big
set_option maxRecDepth 100000
open Gs (V Dv Pos dI sk cI bU)
section
variable {b : List PV} {nn : Nat → Nat} {X : Nat → Nat → Int} {N n : Nat}
theorem oZ {x y : Nat → Int} : ∀ {k : Nat}, eh x y k = bU (fun t => x t * y t) k
 | 0 => rfl
 | k + 1 => by rw [eh, bU, oZ]
theorem pS (h : Bs b N X) (hn : b.length = n + 1) : ∀ i j, i < n + 1 → j < n + 1 → Sk 17 (gr N X i j) := fun i j hi hj => js (fun t ht => ⟨h.sz i t (by omega) ht, h.sz j t (by omega) ht⟩) h.n
theorem Dj (h : Bs b N X) (hn : b.length = n + 1) : ∀ i k, i < n + 1 → k < n + 1 → Sk 217 (cI n (gr N X) i k) := fun i k hi hk => by
 have hm := h.m
 have h1 := (kD (n := n) (W := fun p q => gr N X (sk i p) (sk k q)) (by omega) fun a c ha hc => pS h hn _ _ (Gs.jY hi ha) (Gs.jY hk hc)).mono (m := 217) (by omega)
 unfold cI
 split
 ·rw [Int.neg_one_mul]; exact h1.neg
 ·rw [Int.one_mul]; exact h1
theorem vF (h : Bs b N X) (hn : b.length = n + 1) {i c : Nat} (hi : i < n + 1) (hc : c < N) : Sk 226 (dmM (n + 1) N X i c) := by
 have hm := h.m
 exact l8 (e := 225) (by omega) fun t ht => (Dj h hn t i ht hi).mul (h.sz t c (by omega) hc)
end
end Go.Proofs.YtdieenbfdeaffabGreat.VDd
namespace Go.Proofs.YtdieenbfdeaffabGreat.VDd
open Go Vpi
open VBn hiding rp tab cV cj mixed sim Big
open Gs (V Dv Pos dI sk cI bU kH tN)
open Hn (Sp vm vec SpE en Wd)
theorem yw {g : Nat} {f : Nat → Int} : ∀ {n : Nat}, (∀ j, j < n → g ∣ (f j).natAbs) → gF g f n = g
 | 0, _ => rfl
 | n + 1, h => by
   have ih := yw (n := n) fun j hj => h j (by omega)
   show bZ (gF g f n) (f n).natAbs = g
   rw [ih]
   exact Nat.gcd_eq_left (h n (by omega))
theorem fD {f : Nat → Int} : ∀ {n : Nat}, (∀ t, t < n → f t = 0) → bU f n = 0
 | 0, _ => rfl
 | n + 1, h => by
   show bU f n + f n = 0
   rw [fD fun t ht => h t (by omega), h n (by omega)]; rfl
theorem kR {f : Nat → Nat → Int} {m : Nat} : ∀ {n : Nat}, bU (fun i => bU (f i) m) n = bU (fun t => bU (fun i => f i t) n) m
 | 0 => (fD fun _ _ => rfl).symm
 | n + 1 => by
   show bU (fun i => bU (f i) m) n + bU (f n) m = _
   rw [kR, ← kg]
   rfl
theorem kf {f : Nat → Int} {j : Nat} : ∀ {n : Nat}, j < n → bU (fun t => if t = j then f t else 0) n = f j
 | 0, h => by omega
 | n + 1, h => by
   show bU _ n + (if n = j then f n else 0) = f j
   rcases ax j n with hj | hj
   ·rw [kf hj, if_neg (by omega)]; omega
   ·obtain rfl : j = n := by omega
    rw [fD fun t ht => if_neg (by omega), if_pos rfl]; omega
def lst (m N : Nat) (W : Nat → Nat → Int) : List (List Int) := (ca m).map fun i => (ca N).map (W i)
theorem gC {m N : Nat} {W : Nat → Nat → Int} : (lst m N W).length = m := by simp [lst]
theorem jP {m N i : Nat} {W : Nat → Nat → Int} (h : i < m) : (lst m N W)[i]? = some ((ca N).map (W i)) := by simp [lst, h]
theorem yg {m N : Nat} {W : Nat → Nat → Int} : Wd N (lst m N W) := fun i r h => by
 have hi := (aq.1 h).1
 rw [gC] at hi
 rw [jP hi] at h
 cases h
 simp
theorem mI {N : Nat} {w : Nat → Int} (j : Nat) : vec ((ca N).map w) j = if j < N then w j else 0 := by
 unfold vec
 rw [aK, cd]
 split
 ·rename_i h; rw [gn h]; rfl
 ·rename_i h; rw [aG (by simpa using h)]; rfl
theorem qP {m N i : Nat} {W : Nat → Nat → Int} (h : i < m) : Sp (vm (lst m N W)) fun c => if c < N then W i c else 0 := (Hn.e8 (jP h)).cast fun j => mI j
theorem qz {M : List Hn.Vec} {v : Nat → Hn.Vec} {a : Nat → Int} : ∀ {n : Nat}, (∀ t, t < n → Sp M (v t)) → Sp M fun c => bU (fun t => a t * v t c) n
 | 0, _ => Sp.zero
 | n + 1, h => ((qz (n := n) fun t ht => h t (by omega)).sum ((h n (by omega)).smul (a n))).cast fun c => rfl
theorem wX {m N : Nat} {W : Nat → Nat → Int} {v : Hn.Vec} (h : Sp (vm (lst m N W)) v) : ∃ x : Nat → Int, ∀ c, v c = bU (fun t => x t * (if c < N then W t c else 0)) m := by
 induction h with
 | zero => exact ⟨fun _ => 0, fun c => (fD fun t _ => Int.zero_mul _).symm⟩
 | @add v s k hs _ ih =>
   obtain ⟨x, hx⟩ := ih
   obtain ⟨i, r, hr, rfl⟩ := Hn.fG.1 hs
   have hi := (aq.1 hr).1
   rw [gC] at hi
   rw [jP hi] at hr
   cases hr
   refine ⟨fun t => x t + if t = i then k else 0, fun c => ?_⟩
   dsimp only
   rw [hx, mI]
   have e : bU (fun t => (x t + if t = i then k else 0) * (if c < N then W t c else 0)) m = bU (fun t => x t * (if c < N then W t c else 0)) m + bU (fun t => if t = i then k * (if c < N then W t c else 0) else 0) m := by
    rw [← kg]
    refine Gs.cT fun t _ => ?_
    split <;> simp [Int.add_mul]
   rw [e, kf hi]
section
variable {n N : Nat} {X : Nat → Nat → Int}
theorem Cj (hD : ∀ t i, t < n + 1 → i < n + 1 → dI (n + 1) (gr N X) ∣ cI n (gr N X) t i) :
 SpE (lst (n + 1) N (dmM (n + 1) N X)) (lst (n + 1) N fun i c => dI (n + 1) (gr N X) * X i c) := by
 intro v
 constructor
 ·refine Sp.mono fun q hq => ?_
  obtain ⟨i, r, hr, rfl⟩ := Hn.fG.1 hq
  have hi := (aq.1 hr).1
  rw [gC] at hi
  rw [jP hi] at hr
  cases hr
  refine (qz (n := n + 1) (a := fun t => cI n (gr N X) t i / dI (n + 1) (gr N X)) fun t ht => qP (W := fun i c => dI (n + 1) (gr N X) * X i c) ht).cast fun c => ?_
  rw [mI]
  split
  ·unfold dmM
   rw [Nat.add_sub_cancel]
   refine Gs.cT fun t ht => ?_
   rw [← Int.mul_assoc, Int.ediv_mul_cancel (hD t i ht hi)]
  ·exact fD fun t _ => Int.mul_zero _
 ·refine Sp.mono fun q hq => ?_
  obtain ⟨j, r, hr, rfl⟩ := Hn.fG.1 hq
  have hj := (aq.1 hr).1
  rw [gC] at hj
  rw [jP hj] at hr
  cases hr
  refine (qz (n := n + 1) (a := fun i => gr N X j i) fun i hi => qP (W := dmM (n + 1) N X) hi).cast fun c => ?_
  rw [mI]
  split
  ·unfold dmM
   rw [Nat.add_sub_cancel]
   have e1 : bU (fun i => gr N X j i * bU (fun t => cI n (gr N X) t i * X t c) (n + 1)) (n + 1) = bU (fun t => (if t = j then dI (n + 1) (gr N X) * X t c else 0)) (n + 1) := by
    have e2 : ∀ i, gr N X j i * bU (fun t => cI n (gr N X) t i * X t c) (n + 1) = bU (fun t => gr N X j i * (cI n (gr N X) t i * X t c)) (n + 1) := fun i => iI.symm
    rw [Gs.cT fun i _ => e2 i, kR]
    refine Gs.cT fun t ht => ?_
    have e3 : bU (fun i => gr N X j i * (cI n (gr N X) t i * X t c)) (n + 1) = X t c * bU (fun i => gr N X j i * cI n (gr N X) t i) (n + 1) := by
     rw [← iI]
     exact Gs.cT fun i _ => by rw [← Int.mul_assoc, Int.mul_comm]
    rw [e3, kH ht hj]
    split
    ·rw [Int.mul_comm]
    ·rw [Int.mul_zero]
   rw [e1, kf hj]
  ·exact fD fun t _ => Int.mul_zero _
theorem Ao (hp : 0 < dI (n + 1) (gr N X)) (h : SpE (lst (n + 1) N (dmM (n + 1) N X)) (lst (n + 1) N fun i c => dI (n + 1) (gr N X) * X i c)) {s i : Nat} (hs : s < n + 1) (hi : i < n + 1) : dI (n + 1) (gr N X) ∣ cI n (gr N X) s i := by
 obtain ⟨x, hx⟩ := wX ((h _).1 (qP (W := dmM (n + 1) N X) hi))
 generalize hDD : dI (n + 1) (gr N X) = D at *
 have h1 : ∀ c, c < N → bU (fun t => (cI n (gr N X) t i - D * x t) * X t c) (n + 1) = 0 := fun c hc => by
  have := hx c
  simp only [if_pos hc] at this
  unfold dmM at this
  rw [Nat.add_sub_cancel] at this
  have e : bU (fun t => (cI n (gr N X) t i - D * x t) * X t c) (n + 1) + bU (fun t => x t * (D * X t c)) (n + 1) = bU (fun t => cI n (gr N X) t i * X t c) (n + 1) := by
   rw [← kg]
   refine Gs.cT fun t _ => ?_
   rw [Int.sub_mul, Int.mul_assoc D, Int.mul_left_comm]; omega
  rw [this] at e
  omega
 have h2 : ∀ k, bU (fun t => (cI n (gr N X) t i - D * x t) * gr N X t k) (n + 1) = 0 := fun k => by
  have e : bU (fun t => (cI n (gr N X) t i - D * x t) * gr N X t k) (n + 1) = bU (fun c => X k c * bU (fun t => (cI n (gr N X) t i - D * x t) * X t c) (n + 1)) N := by
   have e2 : ∀ c, X k c * bU (fun t => (cI n (gr N X) t i - D * x t) * X t c) (n + 1) = bU (fun t => X k c * ((cI n (gr N X) t i - D * x t) * X t c)) (n + 1) := fun c => iI.symm
   rw [Gs.cT fun c _ => e2 c, kR]
   refine Gs.cT fun t _ => ?_
   show _ * eh (X t) (X k) N = _
   rw [oZ, ← iI]
   refine Gs.cT fun c _ => ?_
   rw [← Int.mul_assoc, Int.mul_comm]
  rw [e]
  exact fD fun c hc => by rw [h1 c hc, Int.mul_zero]
 have h3 : (cI n (gr N X) s i - D * x s) * D = 0 := by
  have e : bU (fun k => cI n (gr N X) s k * bU (fun t => (cI n (gr N X) t i - D * x t) * gr N X t k) (n + 1)) (n + 1) = bU (fun t => if t = s then (cI n (gr N X) t i - D * x t) * D else 0) (n + 1) := by
   have e2 : ∀ k, cI n (gr N X) s k * bU (fun t => (cI n (gr N X) t i - D * x t) * gr N X t k) (n + 1) = bU (fun t => cI n (gr N X) s k * ((cI n (gr N X) t i - D * x t) * gr N X t k)) (n + 1) := fun k => iI.symm
   rw [Gs.cT fun k _ => e2 k, kR]
   refine Gs.cT fun t ht => ?_
   have e3 : bU (fun k => cI n (gr N X) s k * ((cI n (gr N X) t i - D * x t) * gr N X t k)) (n + 1) = (cI n (gr N X) t i - D * x t) * bU (fun k => gr N X t k * cI n (gr N X) s k) (n + 1) := by
    rw [← iI]
    exact Gs.cT fun k _ => by rw [Int.mul_left_comm, Int.mul_comm (cI n (gr N X) s k)]
   rw [e3, kH hs ht, hDD]
   by_cases hts : t = s
   ·rw [if_pos hts.symm, if_pos hts]
   ·rw [if_neg (Ne.symm hts), if_neg hts, Int.mul_zero]
  rw [kf hs, fD fun k _ => by rw [h2 k, Int.mul_zero]] at e
  exact e.symm
 rcases Int.mul_eq_zero.1 h3 with h | h
 ·exact ⟨x s, by omega⟩
 ·omega
end
end Go.Proofs.YtdieenbfdeaffabGreat.VDd
namespace Go.Proofs.YtdieenbfdeaffabGreat.VDd
open Go Vpi
open VBn hiding rp tab cV cj mixed sim Big
set_option maxRecDepth 100000
open Gs (V Dv Pos dI sk cI bU)
theorem rq4 : rp 4 = some f4 := rfl
def lvI (m : Nat) (W : Nat → Nat → Int) : Int := dI m W / (gF (dI m W).natAbs (flC (m - 1) W) (m * m) : Nat)
section
variable {b : List PV} {nn : Nat → Nat} {X : Nat → Nat → Int}
theorem p4 (hb : MR b nn X) (hlb : b.length ≤ 2000000) (hv : vE nn X b.length = 0) : Pu rp 4 [.sl b] (.tup [.p (zi (lvI b.length (gr (nn 0) X))), .p (.int .i64 0)]) := by
 have h := kd hb hv
 have hbm := h.bs.m
 have hN := h.bs.n
 have k59 := (VBn.p59 hb hlb).lift aX
 rw [hv] at k59
 have k165 := p165 h.bs h.ne
 obtain ⟨n, hn⟩ : ∃ n, b.length = n + 1 := ⟨b.length - 1, by have := h.ne; omega⟩
 have hW : ∀ i j, i < n + 1 → j < n + 1 → Sk 17 (gr (nn 0) X i j) := fun i j hi hj => js (fun t ht => ⟨h.bs.sz i t (by omega) ht, h.bs.sz j t (by omega) ht⟩) hN
 have hd := h.dI
 rw [hn] at hd k165
 have k167 := z167 (by omega) (by decide) (by decide) hW hd
 have e : lvI b.length (gr (nn 0) X) = dI (n + 1) (gr (nn 0) X) / (gF (dI (n + 1) (gr (nn 0) X)).natAbs (flC n (gr (nn 0) X)) ((n + 1) * (n + 1)) : Nat) := by
  unfold lvI; rw [hn, Nat.add_sub_cancel]
 rw [e]
 generalize dI (n + 1) (gr (nn 0) X) / (gF (dI (n + 1) (gr (nn 0) X)).natAbs (flC n (gr (nn 0) X)) ((n + 1) * (n + 1)) : Nat) = L at *
 refine aY rq4 ?_
 rw [bg (x := L)] at k167 ⊢
 simp only [f4, aJ, SB, ak, aj, ↓reduceIte, reduceCtorEq, ai, ab, ah, ae, aa, af, kp1 k59, bne_self_eq_false, kp1 k165, kp1 k167]
 exact dz aQ aQ
theorem e4 (hb : MR b nn X) (hlb : b.length ≤ 2000000) (hv : vE nn X b.length ≠ 0) : Pu rp 4 [.sl b] (.tup [.p (.agg [.bool false, .sl []]), .p (.int .i64 (vE nn X b.length))]) := by
 have k59 := (VBn.p59 hb hlb).lift aX
 have e0 : (vE nn X b.length != 0) = true := by simp [hv]
 refine aY rq4 ?_
 simp only [f4, aJ, SB, ak, aj, ↓reduceIte, reduceCtorEq, ai, ab, ah, ae, aa, af, kp1 k59, e0]
 rfl
end
end Go.Proofs.YtdieenbfdeaffabGreat.VDd
namespace Go.Proofs.YtdieenbfdeaffabGreat.VBn
open Go Vpi
open Gs (V Dv Pos U Dk rg bz)
def alF (mu : Nat → Nat → Rat) (tt : Nat → Rat) : Nat → Nat → Rat
 | 0 => fun _ => 0
 | i + 1 => fun a => if a = i then tt i - bz (fun j => mu i j * alF mu tt i j) i else alF mu tt i a
def al (mu : Nat → Nat → Rat) (tt : Nat → Rat) (a : Nat) : Rat := alF mu tt (a + 1) a
theorem y8 {mu : Nat → Nat → Rat} {tt : Nat → Rat} {a : Nat} : ∀ {i : Nat}, a < i → alF mu tt i a = al mu tt a
 | 0, h => by omega
 | i + 1, h => by
   by_cases h1 : a = i
   ·subst h1; rfl
   ·rw [alF]
    simp only [if_neg h1]
    exact y8 (by omega)
theorem vM {mu : Nat → Nat → Rat} {tt : Nat → Rat} {i : Nat} : al mu tt i = tt i - bz (fun j => mu i j * al mu tt j) i := by
 unfold al
 rw [alF]
 simp only [if_true]
 rw [Gs.cG (g := fun j => mu i j * alF mu tt (j + 1) j) fun j hj => by rw [y8 hj]; rfl]
theorem Cs {mu : Nat → Nat → Rat} {tt : Nat → Rat} {i : Nat} : bz (fun j => mu i j * al mu tt j) i + al mu tt i = tt i := by
 rw [vM]; grind
def cF (mu : Nat → Nat → Rat) (q : Nat → Rat) (n : Nat) : Nat → Nat → Rat
 | 0 => fun _ => 0
 | s + 1 => fun a => if a = n - 1 - s then q a - bz (fun u => mu (a + 1 + u) a * cF mu q n s (a + 1 + u)) s else cF mu q n s a
def co (mu : Nat → Nat → Rat) (q : Nat → Rat) (n a : Nat) : Rat := cF mu q n n a
theorem Bh {mu : Nat → Nat → Rat} {q : Nat → Rat} {n a : Nat} (ha : a < n) : ∀ {s t : Nat}, n - s ≤ a → s ≤ n → t ≤ n → s ≤ t → cF mu q n t a = cF mu q n s a := by
 intro s t h1 h2 h3 h4
 obtain ⟨d, rfl⟩ : ∃ d, t = s + d := ⟨t - s, by omega⟩
 clear h4
 induction d with
 | zero => rfl
 | succ d ih =>
   rw [← dh, cF]
   simp only []
   rw [if_neg (by omega)]
   exact ih (by omega)
theorem nW {mu : Nat → Nat → Rat} {q : Nat → Rat} {n s : Nat} (hs : s < n) : co mu q n (n - 1 - s) = q (n - 1 - s) - bz (fun u => mu (n - 1 - s + 1 + u) (n - 1 - s) * co mu q n (n - 1 - s + 1 + u)) s := by
 unfold co
 rw [Bh (s := s + 1) (t := n) (by omega) (by omega) (by omega) (av _) (by omega), cF]
 simp only [if_true]
 rw [Gs.cG (f := fun u => mu (n - 1 - s + 1 + u) (n - 1 - s) * cF mu q n s (n - 1 - s + 1 + u)) (g := fun u => mu (n - 1 - s + 1 + u) (n - 1 - s) * cF mu q n n (n - 1 - s + 1 + u)) fun u hu => by
  rw [Bh (s := s) (t := n) (by omega) (by omega) (by omega) (av _) (by omega)]]
theorem Cr {mu : Nat → Nat → Rat} {q : Nat → Rat} {n k : Nat} (hk : k < n) : bz (fun j => Gs.fW mu j k * co mu q n j) n = q k := by
 rw [Gs.xV hk]
 have h := nW (mu := mu) (q := q) (n := n) (s := n - (k + 1)) (by omega)
 rw [show n - 1 - (n - (k + 1)) = k by omega] at h
 rw [h]; grind
theorem Ad {g : Nat → Nat → Int} (hs : ∀ i j, g i j = g j i) {n : Nat} (hp : Pos g n) {i l : Nat} (hl : l ≤ i) (hi : i < n) : rg g i l = bz (fun k => mu g i k * mu g l k * star g k) l + Gs.fW (mu g) i l * star g l := by
 have key : ∀ m, m ≤ l → rg g i l = bz (fun k => mu g i k * mu g l k * star g k) m + U (rg g) m i l := by
  intro m
  induction m with
  | zero => intro _; simp only [bz, U]; grind
  | succ m ih =>
    intro hm
    have h1 := uH hs (hp.mono (m := m + 1) (by omega)) (i := i) (j := l)
    rw [ih (by omega), bz, ← h1]
    grind
 rw [key l (av _)]
 congr 1
 have hst := jx hs (hp.mono (m := l + 1) (by omega))
 unfold Gs.fW
 by_cases h : l < i
 ·rw [if_pos h]
  unfold mu star at *
  have : U (rg g) l l l ≠ 0 := by grind
  grind
 ·obtain rfl : l = i := by omega
  rw [if_neg (by omega), if_pos rfl]
  unfold star
  grind
theorem yT {g : Nat → Nat → Int} (hs : ∀ i j, g i j = g j i) {n : Nat} (hp : Pos g n) {tt : Nat → Rat} :
 ∀ i, i < n → bz (fun l => rg g i l * co (mu g) (fun a => al (mu g) tt a / star g a) n l) n = tt i :=
 Gs.Cq (G := rg g) (mu := mu g) (star := star g) (al := al (mu g) tt) (fun i l => by unfold rg; rw [hs]) (fun i l hl hi => Ad hs hp hl hi) (fun k hk => by have := jx hs (hp.mono (m := k + 1) (by omega)); grind)
  (fun i _ => Cs) fun k hk => Cr hk
theorem yU {g : Nat → Nat → Int} (hs : ∀ i j, g i j = g j i) {n : Nat} (hp : Pos g (n + 1)) {tt : Nat → Int} {k : Nat} (hk : k < n + 1) :
 co (mu g) (fun a => al (mu g) (fun i => (tt i : Rat)) a / star g a) (n + 1) k * ((Gs.dI (n + 1) g : Int) : Rat) = ((Gs.bU (fun i => tt i * Gs.cI n g i k) (n + 1) : Int) : Rat) := by
 have h := Gs.Cn (A := rg g) hk (yT hs hp (tt := fun i => (tt i : Rat)))
 rw [Gs.kS, Rat.mul_comm, Gs.tg, h]
 refine Gs.cG fun i _ => ?_
 rw [dA, Gs.tl]
theorem RSn.sub {n m : Nat} {x y : Rat} (h : RSn n x) (h' : RSn m y) : RSn (n + m + 1) (x - y) := by
 have hd : (0 : Int) < (x.den : Int) * (y.den : Int) := Int.mul_pos (Int.natCast_pos.2 x.den_pos) (Int.natCast_pos.2 y.den_pos)
 have e : x - y = eZ (x.num * y.den - y.num * x.den) ((x.den : Int) * y.den) := by
  have hx := dP x
  have hy := dP y
  conv => lhs; rw [← hx, ← hy]
  rw [Rat.divInt_sub_divInt _ _ (by have := x.den_nz; omega) (by have := y.den_nz; omega)]
 rw [e]
 exact iu hd (((h.1.mul h'.2).sub ((h'.1.mul h.2).mono (by omega)))) ((h.2.mul h'.2).mono (by omega))
theorem RSn.mono {n m : Nat} {x : Rat} (h : RSn n x) (hn : n ≤ m) : RSn m x := ⟨h.1.mono hn, h.2.mono hn⟩
theorem RSn.inv {n : Nat} {x : Rat} (h : RSn n x) (h0 : x ≠ 0) : RSn n x⁻¹ := by
 have hx0 : x.num ≠ 0 := fun h => h0 (Rat.num_eq_zero.1 h)
 have e : x⁻¹ = eZ x.den x.num := by
  conv => lhs; rw [← dP x]
  rw [Rat.inv_divInt]
 rw [e]
 rcases Int.lt_or_gt_of_ne hx0 with hlt | hgt
 ·rw [← Rat.neg_divInt_neg]
  exact iu (by omega) h.2.neg h.1.neg
 ·exact iu hgt h.2 h.1
theorem RSn.div {n m : Nat} {x y : Rat} (h : RSn n x) (h' : RSn m y) (h0 : y ≠ 0) : RSn (n + m) (x / y) := by
 rw [gg]
 exact h.mul (h'.inv h0)
theorem RSn.int {n : Nat} {x : Int} (h : Sk n x) (hn : 1 ≤ n) : RSn n (x : Rat) := by
 refine ⟨h, ?_⟩
 unfold Sk
 exact Nat.one_lt_pow (by omega) (by decide)
def zA : Nat → Nat
 | 0 => 8
 | i + 1 => 2 * zA i + 218
theorem AG : ∀ {i : Nat}, zA i + 218 = 226 * 2 ^ i
 | 0 => rfl
 | i + 1 => by rw [zA, bJ, ← bW, ← AG]; omega
theorem wJ {i : Nat} (hi : i ≤ 12) : zA i ≤ 925478 := by
 have h := AG (i := i)
 have h1 : 2 ^ i ≤ 2 ^ 12 := Nat.pow_le_pow_right (by decide) hi
 omega
def zC : Nat → Nat
 | 0 => 925695
 | s + 1 => 2 * zC s + 218
theorem AF : ∀ {s : Nat}, zC s + 218 = 925913 * 2 ^ s
 | 0 => rfl
 | s + 1 => by rw [zC, bJ, ← bW, ← AF]; omega
theorem Cz {s : Nat} (hs : s ≤ 12) : zC s ≤ 3800000000 := by
 have h := AF (s := s)
 have h1 : 2 ^ s ≤ 2 ^ 12 := Nat.pow_le_pow_right (by decide) hs
 omega
theorem uO : ∀ {j i : Nat}, j ≤ i → zC j ≤ zC i
 | j, 0, h => by
   obtain rfl : j = 0 := by omega
   exact av _
 | j, i + 1, h => by
   by_cases h1 : j = i + 1
   ·rw [h1]; exact av _
   ·have := uO (j := j) (i := i) (by omega)
    rw [zC]; omega
section
variable {m : Nat} {mu : Nat → Nat → Rat} {tt q : Nat → Rat}
theorem vL (hmu : ∀ i j, j < i → i < m → RSn 217 (mu i j)) (htt : ∀ i, i < m → RSn 8 (tt i)) : ∀ {i : Nat}, i < m → ∀ {j : Nat}, j ≤ i → RSn (zA j) (tt i - bz (fun u => mu i u * al mu tt u) j) := by
 intro i
 induction i using Nat.strongRecOn with
 | ind i ih =>
   intro hi j
   induction j with
   | zero =>
     intro _
     have e : tt i - bz (fun u => mu i u * al mu tt u) 0 = tt i := by simp only [bz]; grind
     rw [e]
     exact htt i hi
   | succ j ihj =>
     intro hj
     have h1 := ihj (by omega)
     have h2 := ih j (by omega) (by omega) (av j)
     rw [← vM] at h2
     have h3 := h1.sub ((hmu i j (by omega) hi).mul h2)
     have e : tt i - bz (fun u => mu i u * al mu tt u) (j + 1) = tt i - bz (fun u => mu i u * al mu tt u) j - mu i j * al mu tt j := by rw [bz]; grind
     rw [e]
     exact h3.mono (by rw [zA]; omega)
theorem Bk (hmu : ∀ i j, j < i → i < m → RSn 217 (mu i j)) (htt : ∀ i, i < m → RSn 8 (tt i)) {i : Nat} (hi : i < m) : RSn (zA i) (al mu tt i) := by
 rw [vM]
 exact vL hmu htt hi (av i)
theorem As (hmu : ∀ i j, j < i → i < m → RSn 217 (mu i j)) (hq : ∀ i, i < m → RSn 925695 (q i)) : ∀ {s : Nat}, s < m → ∀ {u : Nat}, u ≤ s → ∃ z, z + zC (s - u) ≤ zC s + 925695 ∧ RSn z (q (m - 1 - s) - bz (fun v => mu (m - 1 - s + 1 + v) (m - 1 - s) * co mu q m (m - 1 - s + 1 + v)) u) := by
 intro s
 induction s using Nat.strongRecOn with
 | ind s ih =>
   intro hs u
   induction u with
   | zero =>
     intro _
     refine ⟨925695, by rw [Nat.sub_zero]; omega, ?_⟩
     have e : q (m - 1 - s) - bz (fun v => mu (m - 1 - s + 1 + v) (m - 1 - s) * co mu q m (m - 1 - s + 1 + v)) 0 = q (m - 1 - s) := by simp only [bz]; grind
     rw [e]
     exact hq _ (by omega)
   | succ u ihu =>
     intro hu
     obtain ⟨z, hz, h1⟩ := ihu (by omega)
     obtain ⟨z2, hz2, h2⟩ := ih (s - 1 - u) (by omega) (by omega) (av _)
     rw [← nW (by omega), show m - 1 - (s - 1 - u) = m - 1 - s + 1 + u by omega] at h2
     rw [eI] at hz2
     have h0 : zC 0 = 925695 := rfl
     have h3 := h1.sub ((hmu (m - 1 - s + 1 + u) (m - 1 - s) (by omega) (by omega)).mul h2)
     refine ⟨z + (217 + z2) + 1, ?_, ?_⟩
     ·have h4 : zC (s - u) = 2 * zC (s - 1 - u) + 218 := by
       rw [show s - u = (s - 1 - u) + 1 by omega, zC]
      rw [show s - (u + 1) = s - 1 - u by omega]
      omega
     ·rw [show q (m - 1 - s) - bz (fun v => mu (m - 1 - s + 1 + v) (m - 1 - s) * co mu q m (m - 1 - s + 1 + v)) (u + 1) = q (m - 1 - s) - bz (fun v => mu (m - 1 - s + 1 + v) (m - 1 - s) * co mu q m (m - 1 - s + 1 + v)) u - mu (m - 1 - s + 1 + u) (m - 1 - s) * co mu q m (m - 1 - s + 1 + u) by rw [bz]; grind]
      exact h3
theorem Be (hmu : ∀ i j, j < i → i < m → RSn 217 (mu i j)) (hq : ∀ i, i < m → RSn 925695 (q i)) (hm : m ≤ 12) {s u : Nat} (hs : s < m) (hu : u ≤ s) : RSn 3800000000 (q (m - 1 - s) - bz (fun v => mu (m - 1 - s + 1 + v) (m - 1 - s) * co mu q m (m - 1 - s + 1 + v)) u) := by
 obtain ⟨z, h1, h2⟩ := As hmu hq hs hu
 have h3 := Cz (s := s) (by omega)
 have h4 : zC 0 ≤ zC (s - u) := uO (aD _)
 have h5 : zC 0 = 925695 := rfl
 exact h2.mono (by omega)
end
end Go.Proofs.YtdieenbfdeaffabGreat.VBn
namespace Go.Proofs.YtdieenbfdeaffabGreat.VDd
open Go Vpi
open VBn hiding rp tab cV cj mixed sim Big
set_option maxRecDepth 100000
open Gs (V Dv Pos dI sk cI bU U rg)
theorem rp31 : rp 64 = some f64 := rfl
theorem rp107 : rp 109 = some f109 := rfl
theorem rp65 : rp 72 = some f72 := rfl
theorem rp66 : rp 73 = some f73 := rfl
theorem rp30 : rp 63 = some f63 := rfl
theorem p31 {x : Rat} (h : RS x) : Pu rp 64 [rq x] (.p (zi (x.num / (x.den : Int)))) := by
 have hd : (0 : Int) < (x.den : Int) := Int.natCast_pos.2 x.den_pos
 have hn := mC (h.1.sz (by rw [eQ]; omega))
 have hdn := mD (h.2.sz (by rw [eQ]; omega))
 obtain ⟨q, r, h1, h2⟩ := fl100 hn hdn (by omega)
 have hq : q = x.num / (x.den : Int) := by
  have h3 := h1.flq (by omega)
  rw [h3]; unfold flq; rw [if_pos hd]
 rw [hq] at h2
 refine aY rp31 ?_
 simp only [f64, aJ, SB, ak, aj, ↓reduceIte, reduceCtorEq, ai, ab, ah, ae, aa, af, gH, kp2 h2]
 rfl
def qF (n : Nat) (f : Nat → Rat) : List PV := (ca n).map fun j => rq (f j)
theorem d7 {n : Nat} {f : Nat → Rat} : (qF n f).length = n := by simp [qF]
theorem lI {n j : Nat} {f : Nat → Rat} (h : j < n) : (qF n f)[j]? = some (rq (f j)) := by simp [qF, h]
theorem ue {n : Nat} {f : Nat → Rat} : qF n f ++ [rq (f n)] = qF (n + 1) f := by simp [qF, List.range_succ]
theorem p107 {x : Rat} {p : PV} {y : Int} (h : RS x) (hp : Nu p y) (hy : RS (y : Rat)) : Pu rp 109 [rq x, p] (.p (rq (x * (y : Rat)))) := by
 have k27 := (VBn.p27 hp).lift aX
 have k173 := (VBn.p173 h hy).lift aX
 obtain ⟨s1, l1, rfl⟩ := Nu.agg hp
 refine aY rp107 ?_
 rw [gH (x := x)] at k173
 simp only [f109, aJ, SB, ak, aj, ↓reduceIte, reduceCtorEq, ai, ab, ah, ae, aa, af, gH (x := x), kz1 k27, kp1 k27, kp2 k173, kz2 k173, cN]
 rfl
theorem p65 {x : Rat} (h : RS x) : Pu rp 72 [rq x] (.p (.bool true)) := by
 have hdn := mD (h.2.sz (by rw [eQ]; omega))
 have k79 := (VBn.p79 hdn).lift aX
 rw [bo (Int.natCast_pos.2 x.den_pos)] at k79
 refine aY rp65 ?_
 have e1 : (1 : Int) > 0 := by decide
 simp only [f72, aJ, SB, ak, aj, ↓reduceIte, reduceCtorEq, ai, ab, ah, ae, aa, af, gH, kp1 k79, e1]
 rfl
theorem p66 {n : Nat} {t : Nat → Rat} {r : List PV} {x : Nat → Int} (hr : NuR r x) (hl : r.length = n) (hn : n ≤ 12) (h1 : ∀ j, j < n → RS (t j) ∧ RS (x j : Rat) ∧ RS (t j * (x j : Rat))) (h2 : ∀ j, j ≤ n → RS (Gs.bz (fun u => t u * (x u : Rat)) j)) :
 Pu rp 73 [.sl (qF n t), .sl r] (.p (rq (Gs.bz (fun u => t u * (x u : Rat)) n))) := by
 have k27 := (VBn.p27 nu0).lift aX
 refine aY rp66 ?_
 simp only [f73, aJ, SB, ak, aj, ↓reduceIte, reduceCtorEq, ai, ab, ah, ae, aa, af, j1 k27 (show ig [CV.agg [CV.p (.bool false), .nils]] = some [.agg [.bool false, .sl []]] from rfl), cN]
 refine aM (β := Nat) (fun j => ([(0, .p (.sl (qF n t))), (1, .p (.sl r)), (4, .ptr 0 0 0), (5, .ptr 1 0 0), (6, i64 j)], [.kblk 4 [.p (.bool false), .nils, .p (.bool false), .nils], .kblk 4 (cr (Gs.bz (fun u => t u * (x u : Rat)) j))])) (fun j => j ≤ n) (fun j => n - j) 0 rfl rfl (aD _) ?_
 intro j hj ih
 simp only [] at hj ih ⊢
 by_cases hjn : (j : Int) < n
 ·have hj' : j < n := by omega
  obtain ⟨p, hp, hpx⟩ := hr j (by omega)
  obtain ⟨a1, a2, a3⟩ := h1 j hj'
  have k107 := p107 a1 hpx a2
  have k198 := (VBn.p198 (h2 j (by omega)) a3).lift aX
  rw [gH (x := Gs.bz (fun u => t u * (x u : Rat)) j)] at k198
  have w1 := wr1 (i := j) (by omega)
  obtain ⟨s1, l1, rfl⟩ := Nu.agg hpx
  simp only [SB, ak, aj, ↓reduceIte, reduceCtorEq, ai, ab, ah, ae, aa, af, d7, hjn, lI hj', hp, fy, cN, cr, kp2 k107, kp2 k198, SN, w1]
  exact ih (j + 1) _ (by omega) (by omega) rfl
 ·obtain rfl : j = n := by omega
  simp only [SB, ak, aj, ↓reduceIte, reduceCtorEq, ai, ab, ah, ae, aa, af, d7, hjn, cr]
  rfl
theorem rp64 : rp 101 = some f101 := rfl
section
variable {rp : cg} {rs : List dH} {d : Option Nat} {l : List LOp} {e : Env} {ρ : ar} {Q : CV → ar → Prop} {c : CV} {sz : Nat} {es xs : List PV}
theorem mw {s x : Opd} {bytes : Nat} {dr : Dr} {ks : List KI} (h : GL ρ sz c es) (hc : (es.length + xs.length) * bytes ≤ 140737488355328) (hs : vl e s = c) (hx : vl e x = .own ρ.length 0 xs.length) (hz : dE sz xs = true) :
 ExR rp rs ρ.length (⟨d, none, some 1, .append sz bytes s x⟩ :: l) dr ks e (ρ ++ [.prow sz xs, .hole]) Q = ExR rp rs ρ.length l dr ks (sto d (.own (ρ.length + 1) 0 (es.length + xs.length)) e) (nd ρ c ++ [.prow sz xs, .prow sz (es ++ xs)]) Q := by
 rw [fN]
 have h1 : content (ρ ++ [.prow sz xs, .hole]) (vl e s) = some es := by rw [hs]; exact h.left.content
 have h2 : content (ρ ++ [.prow sz xs, .hole]) (vl e x) = some xs := by rw [hx]; exact jb (s := sz) (by rw [cP]; rfl) rfl
 have hlt := h.lt.2
 simp only [ev, h1, h2, hc, hz, and_self, if_true]
 rcases h with ⟨rfl, rfl⟩ | ⟨b, rfl, hb⟩
 ·rw [hs]
  simp only [bV, cY, List.getElem?_cons_succ, gO, iB, List.set_cons_succ, List.set_cons_zero, aH, eY]
  rfl
 ·rw [hs]
  have hbl := hlt b 0 _ rfl
  have h3 : (ρ ++ [.prow sz xs, .hole])[b]? = some (.prow sz es) := by rw [aL hbl]; exact hb
  have h4 : (ρ ++ [Blk.prow sz xs, .hole]).set b .dead = ρ.set b .dead ++ [.prow sz xs, .hole] := cv hbl
  have h5 : (ρ.set b .dead ++ [Blk.prow sz xs, .hole])[ρ.length + 1]? = some .hole := by rw [show ρ.length = (ρ.set b .dead).length by rw [ay], cY]; rfl
  have h6 : ∀ x : Blk, (ρ.set b .dead ++ [Blk.prow sz xs, .hole]).set (ρ.length + 1) x = ρ.set b .dead ++ [.prow sz xs, x] := fun x => by rw [show ρ.length = (ρ.set b .dead).length by rw [ay], iB]; rfl
  simp only [h3, if_true, h4, bV, h5, h6, aH, eY]
  rfl
end
theorem xQ {rp : cg} {rs : List dH} {base : Nat} {d : Option Nat} {l : List LOp} {dr : Dr} {ks : List KI} {ε : Env} {σ : ar} {Q : CV → ar → Prop} {c : CV} {sz m : Nat} {es xs : List PV} {s x : Opd} {bytes : Nat} {a a' : Blk} (hm : σ.length = m) (h : GL σ sz c es) (hc : (es.length + xs.length) * bytes ≤ 140737488355328) (hs : vl ε s = c) (hx : vl ε x = .own (m + 2) 0 xs.length) (hz : dE sz xs = true) :
 ExR rp rs base (⟨d, none, none, .append sz bytes s x⟩ :: l) dr ks ε (σ ++ [a, a', .prow sz xs]) Q = ExR rp rs base l dr ks (sto d (.own (m + 3) 0 (es.length + xs.length)) ε) (nd σ c ++ [a, a', .prow sz xs, .prow sz (es ++ xs)]) Q := by
 subst hm
 exact zW h hc hs hx hz
theorem GL.at {σ : ar} {sz k n : Nat} {es : List PV} (hn : es.length = n) (h : σ[k]? = some (.prow sz es)) : GL σ sz (.own k 0 n) es := by
 subst hn
 exact .own h rfl
theorem get_at {σ l : ar} {m k : Nat} (h : σ.length = m) : (σ ++ l)[m + k]? = l[k]? := by subst h; exact cY
def lf (x : Rat) : Int := x.num / (x.den : Int)
theorem yi {x : Int} : lf (x : Rat) = x := by
 unfold lf
 show x / ((1 : Nat) : Int) = x
 exact Int.ediv_one x
def el (g : Nat → Nat → Int) (i j : Nat) : Int := lf (mu g i j * ((Dv g (j + 1) : Int) : Rat))
def eL (g : Nat → Nat → Int) (i : Nat) : List PV := (ca i).map fun a => .sl (zF a (el g a))
theorem uB {g : Nat → Nat → Int} {i : Nat} : (eL g i).length = i := by simp [eL]
theorem Ci {g : Nat → Nat → Int} {i : Nat} : eL g i ++ [.sl (zF i (el g i))] = eL g (i + 1) := by simp [eL, List.range_succ]
structure Kd (g : Nat → Nat → Int) (m : Nat) (τ : ar) (cD cL : CV) (i : Nat) : Prop where
 h0 : τ[0]? = some (.kblk 2 [.p (.sl (Ml g m)), .p (.sl (Sl g m))])
 h1 : τ[1]? = some (.kblk 2 [.nils, .nils])
 h2 : τ[2]? = some (.kblk 2 [cD, cL])
 h3 : τ[3]? = some (.kblk 2 (cz (Dv g i)))
 gD : GL τ 2 cD (zF (i + 1) (Dv g))
 gL : GL τ 1 cL (eL g i)
theorem Kd.push {g : Nat → Nat → Int} {m : Nat} {τ : ar} {cD cL : CV} {i : Nat} (h : Kd g m τ cD cL i) {l : ar} : Kd g m (τ ++ l) cD cL i := by
 obtain ⟨a0, a1, a2, a3, a4, a5⟩ := h
 exact ⟨by rw [aL (aq.1 a0).1]; exact a0, by rw [aL (aq.1 a1).1]; exact a1, by rw [aL (aq.1 a2).1]; exact a2, by rw [aL (aq.1 a3).1]; exact a3, a4.left, a5.left⟩
theorem Kd.nd {g : Nat → Nat → Int} {m : Nat} {τ : ar} {cD cL c : CV} {i : Nat} {es : List PV} (h : Kd g m τ cD cL i) (hc : GL τ 2 c es) (ha : hZ cD c) {l : ar} : Kd g m (nd τ c ++ l) cD cL i :=
 ⟨GL.kb hc h.h0, GL.kb hc h.h1, GL.kb hc h.h2, GL.kb hc h.h3, (VBn.GL.nd h.gD ha).left, (VBn.GL.nd h.gL (VBn.GL.pN h.gL hc (by decide))).left⟩
section
variable {b : List PV} {N : Nat} {X : Nat → Nat → Int}
set_option maxHeartbeats 1000000 in
theorem p64 (h : Vb b N X) : Pu rp 101 [.agg [.sl (Ml (gr N X) b.length), .sl (Sl (gr N X) b.length)]] (.p (.agg [.sl (zF (b.length + 1) (Dv (gr N X))), .sl (eL (gr N X) b.length)])) := by
 have k66 := (VBn.p66 (x := 1) (by decide) (by decide)).lift aX
 have hbm := h.bs.m
 refine aY rp64 ?_
 have hraw1 : PV.agg [.bool (false && decide (Int.natAbs 1 ≠ 0)), .sl (lm (dgl (Int.natAbs 1)))] = zi 1 := rfl
 simp only [f101, aJ, SB, ak, aj, ↓reduceIte, reduceCtorEq, ai, ab, ah, ae, aa, af, kp1 k66, fN, content, hraw1]
 refine aM (β := Nat × ar × Nat × CV) (fun t => ([(1, .ptr 0 0 0), (2, .ptr 1 0 0), (3, .ptr 2 0 0), (4, .ptr 3 0 0), (5, i64 t.1)], t.2.1)) (fun t => t.1 ≤ b.length ∧ Kd (gr N X) b.length t.2.1 (.own t.2.2.1 0 (t.1 + 1)) t.2.2.2 t.1) (fun t => b.length - t.1)
  ((0, [.kblk 2 [.p (.sl (Ml (gr N X) b.length)), .p (.sl (Sl (gr N X) b.length))], .kblk 2 [.nils, .nils], .kblk 2 [.own 5 0 1, .nils], .kblk 2 (cz 1), .prow 2 [zi 1], .prow 2 [zi 1]], 5, .nils) : Nat × ar × Nat × CV) rfl rfl ⟨aD _, rfl, rfl, rfl, rfl, .own rfl rfl, .nil⟩ ?_
 rintro ⟨i, τ, bD, cL⟩ ⟨hi, hK⟩ ih
 simp only [] at hi hK ih ⊢
 by_cases hin : (i : Int) < b.length
 ·have hi' : i < b.length := by omega
  have hpi := h.pos.mono (m := i + 1) (by omega)
  have w1 := wr1 (i := i) (by omega)
  simp only [SB, ak, aj, ↓reduceIte, reduceCtorEq, ai, ab, ah, ae, aa, af, hK.h0, kK, hin]
  refine aM (β := Nat × ar × CV) (fun t => ([(1, .ptr 0 0 0), (2, .ptr 1 0 0), (3, .ptr 2 0 0), (4, .ptr 3 0 0), (5, i64 i), (6, t.2.2), (7, i64 t.1)], t.2.1)) (fun t => t.1 ≤ i ∧ Kd (gr N X) b.length t.2.1 (.own bD 0 (i + 1)) cL i ∧ GL t.2.1 2 t.2.2 (zF t.1 (el (gr N X) i)) ∧ hZ (.own bD 0 (i + 1)) t.2.2) (fun t => i - t.1) ((0, τ, .nils) : Nat × ar × CV) rfl rfl ⟨aD _, hK, .nil, by rintro b o n b' o' n' _ h; cases h⟩ ?_
  clear hK
  rintro ⟨j, τ, c⟩ ⟨hj, hK, hg, hap⟩ ih2
  simp only [] at hj hK hg hap ih2 ⊢
  have hbD : bD < τ.length := hK.gD.lt.2 _ _ _ rfl
  have gD : τ[bD]? = some (.prow 2 (zF (i + 1) (Dv (gr N X)))) := by
   obtain ⟨k', e', g', l'⟩ := VBn.GL.jr hK.gD b7 (Nat.succ_pos i)
   cases e'
   exact g'
  by_cases hji : (j : Int) < i
  ·have hj' : j < i := by omega
   have w2 := wr1 (i := j) (by omega)
   have s1 := (pO h.bs (h.pos.mono (m := j + 1) (by omega)) (show j ≤ i by omega) hi')
   have s2 := qh h.bs (h.pos.mono (m := j + 1) (by omega)) (k := j + 1) (by omega)
   have s3 := RSn.int s2 (by decide)
   have k107 := p107 (s1.rs (by omega)) (Nu.zi (s2.sz (by omega))) (s3.rs (by omega))
   have k31 := p31 ((s1.mul s3).rs (by omega))
   have e0 : ∀ l, (τ ++ l)[0]? = some (.kblk 2 [.p (.sl (Ml (gr N X) b.length)), .p (.sl (Sl (gr N X) b.length))]) := fun l => hK.push.h0
   have e2 : ∀ l, (τ ++ l)[2]? = some (.kblk 2 [.own bD 0 (i + 1), cL]) := fun l => hK.push.h2
   have eD : ∀ l, (τ ++ l)[bD]? = some (.prow 2 (zF (i + 1) (Dv (gr N X)))) := fun l => by rw [aL hbD]; exact gD
   have hj1 : j + 1 < i + 1 := by omega
   have hzD := dV (f := Dv (gr N X)) hj1
   have hc : ((zF j (el (gr N X) i)).length + [zi (el (gr N X) i j)].length) * 32 ≤ 140737488355328 := by rw [b7]; simp; omega
   have hsuc := lz (n := j) (f := el (gr N X) i)
   have k31' : Pu rp 64 [rq (mu (gr N X) i j * ((Dv (gr N X) (j + 1) : Int) : Rat))] (.p (zi (el (gr N X) i j))) := k31
   simp only [SB, ak, aj, ↓reduceIte, reduceCtorEq, ai, ab, ah, ae, aa, af, hji, e0, e2, eD, uJ hi', po hj', fy, hj1, hzD, cf, cN, kz2 k107, kp1 k31', bV, mw hg hc, hsuc, b7, SN, w2]
   refine ih2 (j + 1, nd τ c ++ [.prow 2 [zi (el (gr N X) i j)], .prow 2 (zF (j + 1) (el (gr N X) i))], .own (τ.length + 1) 0 (j + 1)) _ ⟨by simp only []; omega, hK.nd hg hap, GL.nb b7.symm rfl, ?_⟩ (by simp only []; omega) ?_
   ·rintro b1 o1 n1 b2 o2 n2 h1 h2
    cases h1
    cases h2
    omega
   ·rfl
  ·obtain rfl : j = i := by omega
   have hc2 : ((zF (j + 1) (Dv (gr N X))).length + [zi (Dv (gr N X) (j + 1))].length) * 32 ≤ 140737488355328 := by
    rw [show (zF (j + 1) (Dv (gr N X))).length = j + 1 from b7, show [zi (Dv (gr N X) (j + 1))].length = 1 from rfl]
    exact a9 (az 32 (show j + 1 + 1 ≤ 14 by omega)) (by decide)
   have hK1 : Kd (gr N X) b.length (nd τ c) (.own bD 0 (j + 1)) cL j := by
    have := hK.nd hg hap (l := [])
    rwa [c8] at this
   have hf : eG τ [c] = some [.sl (zF j (el (gr N X) j))] := by simp only [eG, hg.frz, aH]
   have hkl : eC τ [c] = nd τ c := hg.kill
   have hnl : (nd τ c).length = τ.length := c7
   have hc1 : ((eL (gr N X) j).length + [PV.sl (zF j (el (gr N X) j))].length) * 24 ≤ 140737488355328 := by rw [uB]; simp; omega
   have hR1 := fun {rp rs base d l dr ks ε Q s x} => vf (rp := rp) (rs := rs) (base := base) (d := d) (l := l) (dr := dr) (ks := ks) (ε := ε) (Q := Q) (s := s) (x := x) hnl hK1.gL hc1
   have hz1 : dE 1 [PV.sl (zF j (el (gr N X) j))] = true := rfl
   obtain ⟨σ0, hσ0⟩ : ∃ σ0, σ0 = nd (nd τ c) cL := ⟨_, rfl⟩
   have hl0 : σ0.length = τ.length := by rw [hσ0, c7, c7]
   have k0 : ∀ (t : Nat) (xs : List CV), (nd τ c)[t]? = some (Blk.kblk 2 xs) → ∀ l, (σ0 ++ l)[t]? = some (Blk.kblk 2 xs) := fun t xs hx l => by rw [hσ0]; exact GL.kb hK1.gL hx
   have b2 := k0 _ _ hK1.h2
   have l2 : 2 < σ0.length := by have := (aq.1 hK.h2).1; omega
   have l3 : 3 < σ0.length := by have := (aq.1 hK.h3).1; omega
   have t2 : ∀ l x, (σ0 ++ l).set 2 x = σ0.set 2 x ++ l := fun l x => cv l2
   have t0 : ∀ l x, (σ0.set 2 x ++ l)[0]? = some (.kblk 2 [.p (.sl (Ml (gr N X) b.length)), .p (.sl (Sl (gr N X) b.length))]) := fun l x => by rw [← t2, bC (by decide)]; exact k0 _ _ hK1.h0 l
   have t3 : ∀ l x, (σ0.set 2 x ++ l)[3]? = some (.kblk 2 (cz (Dv (gr N X) j))) := fun l x => by rw [← t2, bC (by decide)]; exact k0 _ _ hK1.h3 l
   have u3 : ∀ l x y, (σ0.set 2 x ++ l).set 3 y = (σ0.set 2 x).set 3 y ++ l := fun l x y => cv (by rw [ay]; exact l3)
   have v2 : ∀ l x y, ((σ0.set 2 x).set 3 y ++ l)[2]? = some x := fun l x y => by rw [aL (by rw [ay, ay]; exact l2), bC (by decide), bt l2]
   have v3 : ∀ l x y, ((σ0.set 2 x).set 3 y ++ l)[3]? = some y := fun l x y => by rw [aL (by rw [ay, ay]; exact l3), bt (by rw [ay]; exact l3)]
   have hst := tO h.bs (h.pos.mono (m := j) (by omega)) (av j) (av j) hi' hi'
   have hDj := qh h.bs (h.pos.mono (m := j) (by omega)) (k := j) (by omega)
   have hDj1 := qh h.bs (h.pos.mono (m := j + 1) (by omega)) (k := j + 1) (by omega)
   have hstar : star (gr N X) j * ((Dv (gr N X) j : Int) : Rat) = ((Dv (gr N X) (j + 1) : Int) : Rat) := by
    have h1 := Bl (g := gr N X) dY (h.pos.mono (m := j) (by omega)) (av j) (av j)
    have h2 : (0 : Rat) < ((Dv (gr N X) j : Int) : Rat) := Rat.intCast_pos.2 (Gs.j4 dY (M := 0) (h.pos.mono (m := j) (by omega))).dp
    unfold star
    rw [h1, Rat.divInt_eq_div]
    show _ = ((V (gr N X) j j j : Int) : Rat)
    grind
   have k107 := p107 (hst.rs (by omega)) (Nu.zi (hDj.sz (by omega))) ((RSn.int hDj (by decide)).rs (by omega))
   rw [show U (rg (gr N X)) j j j = star (gr N X) j from rfl, hstar, bg (x := Dv (gr N X) j)] at k107
   have k31 : Pu rp 64 [rq ((Dv (gr N X) (j + 1) : Int) : Rat)] (.p (zi (Dv (gr N X) (j + 1)))) := by
    have := p31 ((RSn.int hDj1 (by decide)).rs (by omega))
    rwa [show ((Dv (gr N X) (j + 1) : Int) : Rat).num / ((((Dv (gr N X) (j + 1) : Int) : Rat).den : Nat) : Int) = Dv (gr N X) (j + 1) from yi] at this
   have gD2 : ∀ x y, GL ((σ0.set 2 x).set 3 y) 2 (.own bD 0 (j + 1)) (zF (j + 1) (Dv (gr N X))) := fun x y => by
    have g1 : GL σ0 2 (.own bD 0 (j + 1)) (zF (j + 1) (Dv (gr N X))) := by rw [hσ0]; exact VBn.GL.nd hK1.gD ((VBn.GL.pN hK1.gL hK1.gD (by decide)).symm)
    have a2 := k0 _ _ hK1.h2 []
    have a3 := k0 _ _ hK1.h3 []
    rw [c8] at a2 a3
    exact (g1.set a2).set (by rw [bC (by decide)]; exact a3)
   have hR2 := fun {rp rs base d l dr ks ε Q a a' s x y z} => xQ (rp := rp) (rs := rs) (base := base) (d := d) (l := l) (dr := dr) (ks := ks) (ε := ε) (Q := Q) (a := a) (a' := a') (s := s) (x := x) (m := τ.length) (σ := (σ0.set 2 y).set 3 z) (by rw [ay, ay]; exact hl0) (gD2 y z) hc2
   have hraw := (bg (x := Dv (gr N X) (j + 1))).symm
   have hsuc2 := lz (n := j + 1) (f := Dv (gr N X))
   have hfp : ∀ (σ : ar) (v : PV), eG σ [.p v] = some [v] := fun _ _ => rfl
   have hkp : ∀ (σ : ar) (v : PV), eC σ [.p v] = σ := fun _ _ => rfl
   have z0 : ∀ (t : Nat) (xs : List CV), t ≠ 2 → t ≠ 3 → (nd τ c)[t]? = some (Blk.kblk 2 xs) → ∀ x y l, (nd ((σ0.set 2 x).set 3 y) (.own bD 0 (j + 1)) ++ l)[t]? = some (Blk.kblk 2 xs) := fun t xs h2 h3 hx x y l => by
    refine GL.kb (gD2 x y) ?_
    rw [bC (Ne.symm h3), bC (Ne.symm h2)]
    have := k0 t xs hx []
    rwa [c8] at this
   have z2 : ∀ xs y l, (nd ((σ0.set 2 (.kblk 2 xs)).set 3 y) (.own bD 0 (j + 1)) ++ l)[2]? = some (Blk.kblk 2 xs) := fun xs y l => by
    refine GL.kb (gD2 _ y) ?_
    rw [bC (by decide), bt l2]
   have z3 : ∀ x ys l, (nd ((σ0.set 2 x).set 3 (.kblk 2 ys)) (.own bD 0 (j + 1)) ++ l)[3]? = some (Blk.kblk 2 ys) := fun x ys l => by
    refine GL.kb (gD2 x _) ?_
    rw [bt (by rw [ay]; exact l3)]
   have y2 : ∀ x y l w, (nd ((σ0.set 2 x).set 3 y) (.own bD 0 (j + 1)) ++ l).set 2 w = (nd ((σ0.set 2 x).set 3 y) (.own bD 0 (j + 1))).set 2 w ++ l := fun x y l w => cv (by rw [c7, ay, ay]; exact l2)
   have hl4 : ∀ x y w, ((nd ((σ0.set 2 x).set 3 y) (.own bD 0 (j + 1))).set 2 w).length = τ.length := fun x y w => by rw [ay, c7, ay, ay]; exact hl0
   have hKn : ∀ y, Kd (gr N X) b.length ((nd ((σ0.set 2 y).set 3 (.kblk 2 (cz (Dv (gr N X) (j + 1))))) (.own bD 0 (j + 1))).set 2 (.kblk 2 [.own (τ.length + 3) 0 (j + 1 + 1), .own (τ.length + 1) 0 (j + 1)]) ++ [.prow 1 [.sl (zF j (el (gr N X) j))], .prow 1 (eL (gr N X) (j + 1)), .prow 2 [zi (Dv (gr N X) (j + 1))], .prow 2 (zF (j + 1 + 1) (Dv (gr N X)))]) (.own (τ.length + 3) 0 (j + 1 + 1)) (.own (τ.length + 1) 0 (j + 1)) (j + 1) := fun y => by
    refine ⟨?_, ?_, ?_, ?_, ?_, ?_⟩
    ·rw [← y2, bC (by decide)]; exact z0 _ _ (by decide) (by decide) hK1.h0 _ _ _
    ·rw [← y2, bC (by decide)]; exact z0 _ _ (by decide) (by decide) hK1.h1 _ _ _
    ·rw [aL (by rw [hl4]; omega), bt (by rw [c7, ay, ay]; exact l2)]
    ·rw [← y2, bC (by decide)]; exact z3 _ _ _
    ·refine GL.at b7 ((get_at (hl4 _ _ _)).trans rfl)
    ·refine GL.at uB ((get_at (hl4 _ _ _)).trans rfl)
   rw [hσ0] at b2 t2 t0 t3 u3 v2 v3 hR2 hl0 z2 y2 hKn
   simp only [S1, S2, S3, S4, S5, iK, gT, S6, setCells, ak, aj, ↓reduceIte, reduceCtorEq, ai, ab, ah, ae, aa, af, hji, hK.h2, hK1.h2, hf, hkl, hnl, hz1, hR1, Ci, uB, b2, t2, t0, t3, kK, pr hi', hi', fy, cN, cz, kz2 k107, kp1 k31, u3, v2, v3, hraw, hfp, hkp, hR2, hsuc2, b7, SN, w1, z2, y2, hl0]
   refine ih (j + 1, _, τ.length + 3, .own (τ.length + 1) 0 (j + 1)) _ ⟨by simp only []; omega, hKn _⟩ (by simp only []; omega) ?_
   rfl
 ·obtain rfl : i = b.length := by omega
  have l1 := (aq.1 hK.h1).1
  have e1 : ∀ x, (τ.set 1 x)[1]? = some x := fun x => bt l1
  have gD := hK.gD.set hK.h1 (x := .kblk 2 [.own bD 0 (b.length + 1), cL])
  have gL := hK.gL.set hK.h1 (x := .kblk 2 [.own bD 0 (b.length + 1), cL])
  simp only [SB, ak, aj, ↓reduceIte, reduceCtorEq, ai, ab, ah, ae, aa, af, hK.h0, kK, hin, hK.h2, hK.h1, e1]
  have hfD := gD.dD
  have hfL := gL.dD
  rcases gL with ⟨rfl, e⟩ | ⟨k', rfl, e⟩ <;> simp [back, dL, frz, eU, hfD, hfL]
end
end Go.Proofs.YtdieenbfdeaffabGreat.VDd
namespace Go.Proofs.YtdieenbfdeaffabGreat.VDd
open Go Vpi
open VBn hiding rp tab cV cj mixed sim Big
set_option maxRecDepth 100000
open Gs (V Dv Pos dI sk cI bU bz U rg)
theorem rp29 : rp 29 = some f29 := rfl
def lC (M : Nat) (c : Nat → Rat) (s : Nat) : List PV := (ca M).map fun a => if M - s ≤ a then rq (c a) else .agg [.bool false, .sl [], .bool false, .sl []]
theorem oJ {M s : Nat} {c : Nat → Rat} : (lC M c s).length = M := by simp [lC]
theorem ur {M s a : Nat} {c : Nat → Rat} (ha : a < M) (h : M - s ≤ a) : (lC M c s)[a]? = some (rq (c a)) := by
 simp only [lC, cd, gn ha, aH, if_pos h]
theorem Ac {M : Nat} {c : Nat → Rat} : lC M c 0 = aw M (.agg [.bool false, .sl [], .bool false, .sl []]) := by
 apply dv
 intro j
 by_cases hj : j < M
 ·simp [lC, hj]; omega
 ·rw [aG (by rw [oJ]; omega), aG (by rw [eK]; omega)]
theorem B5 {M s : Nat} {c : Nat → Rat} (hs : s < M) : (lC M c s).set (M - 1 - s) (rq (c (M - 1 - s))) = lC M c (s + 1) := by
 apply dv
 intro j
 by_cases hj : j < M
 ·by_cases h : M - 1 - s = j
  ·subst h
   rw [aO (by rw [oJ]; exact hj), ur hj (by omega)]
  ·rw [aE h]
   simp only [lC, cd, gn hj, aH]
   by_cases h2 : M - s ≤ j
   ·rw [if_pos h2, if_pos (by omega)]
   ·rw [if_neg h2, if_neg (by omega)]
 ·rw [aG (by rw [ay, oJ]; omega), aG (by rw [oJ]; omega)]
theorem B7 {M : Nat} {c : Nat → Rat} : lC M c M = qF M c := by
 unfold lC qF
 refine List.map_congr_left fun a ha => ?_
 rw [if_pos (by omega)]
theorem B6 {M s a : Nat} {c : Nat → Rat} (ha : a < M) : ∃ x1 x2 x3 x4, (lC M c s)[a]? = some (.agg [x1, x2, x3, x4]) := by
 by_cases h : M - s ≤ a
 ·exact ⟨_, _, _, _, by rw [ur ha h, gH]⟩
 ·exact ⟨_, _, _, _, by simp [lC, ha]; rw [if_neg (by omega)]⟩
def dF (D : Nat → Rat) (q st : Nat → Rat) (M N : Nat) : Nat → Rat
 | 0 => bz D N
 | s + 1 => dF D q st M N s - q (M - 1 - s) * q (M - 1 - s) * st (M - 1 - s)
theorem wT {x1 x2 x3 x4 : PV} {x : Rat} : ke (.agg [x1, x2, x3, x4]) 0 4 (rq x) = some (rq x) := by
 simp [ke, rq, PV.cells, setCells]
theorem yV {mu : Nat → Nat → Rat} {q : Nat → Rat} {m i : Nat} (hmu : ∀ i j, j < i → i < m → RSn 217 (mu i j)) (hq : ∀ i, i < m → RSn 925695 (q i)) (hm : m ≤ 12) (hi : i < m) : RSn 3800000000 (co mu q m i) := by
 have := Be hmu hq hm (s := m - 1 - i) (by omega) (av _)
 rw [← nW (by omega), show m - 1 - (m - 1 - i) = i by omega] at this
 exact this
section
variable {b : List PV} {N : Nat} {X : Nat → Nat → Int} {t tt : Nat → Rat}
theorem p29 {nn : Nat → Nat} (hb : MR b nn X) (hlb : b.length ≤ 2000000) (hv : vE nn X b.length = 0) (hN : nn 0 = N)
 (ht : ∀ j, j < N → RS (t j) ∧ RS (t j * t j)) (htq : ∀ j, j ≤ N → RSn 1000 (bz (fun u => t u * t u) j)) (htt : ∀ i, i < b.length → RSn 8 (tt i))
 (h66 : ∀ i, i < b.length → ∃ r, b[i]? = some (.sl r) ∧ Pu rp 73 [.sl (qF N t), .sl r] (.p (rq (tt i)))) :
 ∃ dist : Rat, Pu rp 29 [.sl b, .sl (qF N t)] (.tup [.p (.sl (qF b.length (co (mu (gr N X)) (fun a => al (mu (gr N X)) tt a / star (gr N X) a) b.length))), .p (rq dist), .p (.int .i64 0)]) := by
 subst hN
 have hV := kd hb hv
 have hbm := hV.bs.m
 have hbn := hV.bs.n
 have k110 := (VBn.xT hb hlb hv).lift aX
 have hmu : ∀ i j, j < i → i < b.length → RSn 217 (mu (gr (nn 0) X) i j) := fun i j hj hi => pO hV.bs (hV.pos.mono (by omega)) (by omega) hi
 have hst : ∀ k, k < b.length → RSn 217 (star (gr (nn 0) X) k) ∧ star (gr (nn 0) X) k ≠ 0 := fun k hk => ⟨tO hV.bs (hV.pos.mono (by omega)) (av k) (av k) hk hk, by have := jx dY (hV.pos.mono (m := k + 1) (by omega)); grind⟩
 have hal : ∀ i, i < b.length → RSn 925478 (al (mu (gr (nn 0) X)) tt i) := fun i hi => (Bk hmu htt hi).mono (wJ (by omega))
 have hq : ∀ i, i < b.length → RSn 925695 (al (mu (gr (nn 0) X)) tt i / star (gr (nn 0) X) i) := fun i hi => ((hal i hi).div (hst i hi).1 (hst i hi).2).mono (by decide)
 have hdF : ∀ s, s ≤ b.length → RSn (1000 + s * 1852000) (dF (fun u => t u * t u) (fun a => al (mu (gr (nn 0) X)) tt a / star (gr (nn 0) X) a) (star (gr (nn 0) X)) b.length (nn 0) s) := by
  intro s
  induction s with
  | zero => exact fun _ => htq (nn 0) (av _)
  | succ s ih =>
    intro hs
    have h1 := hq (b.length - 1 - s) (by omega)
    have h2 := (hst (b.length - 1 - s) (by omega)).1
    have := (ih (by omega)).sub ((h1.mul h1).mul h2)
    rw [dF]
    exact this.mono (by omega)
 have hq' : ∀ i, i < b.length → RSn 925695 ((fun a => al (mu (gr (nn 0) X)) tt a / star (gr (nn 0) X) a) i) := hq
 have hco : ∀ i, i < b.length → RSn 3800000000 (co (mu (gr (nn 0) X)) (fun a => al (mu (gr (nn 0) X)) tt a / star (gr (nn 0) X) a) b.length i) := fun i hi => yV hmu hq' hbm hi
 refine ⟨dF (fun u => t u * t u) (fun a => al (mu (gr (nn 0) X)) tt a / star (gr (nn 0) X) a) (star (gr (nn 0) X)) b.length (nn 0) b.length, ?_⟩
 obtain ⟨r0, g1, g2, g3⟩ := hV.bs.row 0 (by have := hV.ne; omega)
 have i0 : gG 0 = 0 := rfl
 have e0 : ((0 : Int) != 0) = false := rfl
 have e1 : (((nn 0 : Nat) : Int) != (r0.length : Int)) = false := by rw [g2]; simp
 refine aY rp29 ?_
 simp only [f29, aJ, SB, ak, aj, ↓reduceIte, reduceCtorEq, ai, ab, ah, ae, aa, af, kp2 k110, e0, d7, g1, i0, dN, e1]
 have k27 := (VBn.p27 nu0).lift aX
 generalize hMU : mu (gr (nn 0) X) = MU at *
 generalize hST : star (gr (nn 0) X) = ST at *
 generalize hAL : al MU tt = AL at *
 generalize hQQ : (fun a => AL a / ST a) = QQ at *
 have hQa : ∀ a, AL a / ST a = QQ a := fun a => by rw [← hQQ]
 have hMl : ∀ i, i < b.length → (Ml (gr (nn 0) X) b.length)[i]? = some (.sl (Ul (gr (nn 0) X) i i)) := fun i hi => uJ hi
 have hSl : ∀ i, i < b.length → (Sl (gr (nn 0) X) b.length)[i]? = some (rq (ST i)) := fun i hi => by rw [pr hi, hST]
 have hUl : ∀ i j, j < i → (Ul (gr (nn 0) X) i i)[j]? = some (rq (MU i j)) := fun i j hj => by rw [po hj, hMU]
 refine aM (β := Nat) (fun j => ([(0, .p (.sl b)), (1, .p (.sl (qF (nn 0) t))), (5, .ptr 0 0 0), (7, .ptr 1 0 0), (9, i64 j)], [.kblk 4 [.p (.bool false), .nils, .p (.bool false), .nils], .kblk 2 [.p (.sl (Ml (gr (nn 0) X) b.length)), .p (.sl (Sl (gr (nn 0) X) b.length))]])) (fun j => j ≤ nn 0) (fun j => nn 0 - j) 0 rfl rfl (aD _) ?_
 intro j hj ih
 simp only [] at hj ih ⊢
 by_cases hjn : (j : Int) < (nn 0 : Nat)
 ·have hj' : j < nn 0 := by omega
  have k65 := p65 (ht j hj').1
  have w1 := wr1 (i := j) (by omega)
  simp only [SB, ak, aj, ↓reduceIte, reduceCtorEq, ai, ab, ah, ae, aa, af, d7, hjn, lI hj', fy, cN, dZ, List.length_nil, kp1 k65, Bool.not_true, SN, w1]
  refine ih (j + 1) _ (by omega) (by omega) ?_
  rfl
 clear ih
 simp only [SB, ak, aj, ↓reduceIte, reduceCtorEq, ai, ab, ah, ae, aa, af, d7, hjn]
 refine aM (β := Nat × ar × CV) (fun u => ([(0, .p (.sl b)), (1, .p (.sl (qF (nn 0) t))), (5, .ptr 0 0 0), (7, .ptr 1 0 0), (10, i64 b.length), (11, u.2.2), (12, i64 u.1)], u.2.1))
  (fun u => u.1 ≤ b.length ∧ u.2.1[0]? = some (.kblk 4 [.p (.bool false), .nils, .p (.bool false), .nils]) ∧ u.2.1[1]? = some (.kblk 2 [.p (.sl (Ml (gr (nn 0) X) b.length)), .p (.sl (Sl (gr (nn 0) X) b.length))]) ∧ GL u.2.1 4 u.2.2 (qF u.1 AL)) (fun u => b.length - u.1)
  ((0, [.kblk 4 [.p (.bool false), .nils, .p (.bool false), .nils], .kblk 2 [.p (.sl (Ml (gr (nn 0) X) b.length)), .p (.sl (Sl (gr (nn 0) X) b.length))]], .nils) : Nat × ar × CV) rfl rfl ⟨aD _, rfl, rfl, .nil⟩ ?_
 rintro ⟨i, τ, c⟩ ⟨hi, h0, h1, hg⟩ ih
 simp only [] at hi h0 h1 hg ih ⊢
 by_cases hin : (i : Int) < b.length
 ·have hi' : i < b.length := by omega
  obtain ⟨r, r1, r2⟩ := h66 i hi'
  have w1 := wr1 (i := i) (by omega)
  have l1 := (aq.1 h1).1
  have e1 : ∀ l, (τ ++ l)[1]? = some (.kblk 2 [.p (.sl (Ml (gr (nn 0) X) b.length)), .p (.sl (Sl (gr (nn 0) X) b.length))]) := fun l => by rw [aL l1]; exact h1
  have hz0 : tt i - bz (fun u => MU i u * AL u) 0 = tt i := by simp only [bz]; grind
  simp only [SB, ak, aj, ↓reduceIte, reduceCtorEq, ai, ab, ah, ae, aa, af, hin, r1, SN, kp2 r2, cN]
  refine aM (β := Nat) (fun j => ([(0, .p (.sl b)), (1, .p (.sl (qF (nn 0) t))), (5, .ptr 0 0 0), (7, .ptr 1 0 0), (10, i64 b.length), (11, c), (12, i64 i), (13, .ptr τ.length 0 0), (14, i64 j)], τ ++ [.kblk 4 (cr (tt i - bz (fun u => MU i u * AL u) j))])) (fun j => j ≤ i) (fun j => i - j) 0 rfl (by simp only []; rw [hz0]; rfl) (aD _) ?_
  intro j hj ih2
  simp only [] at hj ih2 ⊢
  have hpart := vL hmu htt hi' hj
  rw [hAL] at hpart
  have hps := (hpart.mono (wJ (by omega : j ≤ 12))).rs (by omega)
  by_cases hji : (j : Int) < i
  ·have hj' : j < i := by omega
   obtain ⟨bc, rfl, gc, lc⟩ := VBn.GL.jr hg d7 (by omega)
   have ec : ∀ l, (τ ++ l)[bc]? = some (.prow 4 (qF i AL)) := fun l => by rw [aL lc]; exact gc
   have s1 := hmu i j hj' hi'
   have s2 := hal j (by omega)
   have q1 := (VBn.p173 (s1.rs (by omega)) (s2.rs (by omega))).lift aX
   have q2 := (VBn.p172 hps ((s1.mul s2).rs (by omega))).lift aX
   rw [show tt i - bz (fun u => MU i u * AL u) j - MU i j * AL j = tt i - bz (fun u => MU i u * AL u) (j + 1) by rw [bz]; grind, gH (x := tt i - bz (fun u => MU i u * AL u) j)] at q2
   have w2 := wr1 (i := j) (by omega)
   simp only [SB, ak, aj, ↓reduceIte, reduceCtorEq, ai, ab, ah, ae, aa, af, hji, hj', e1, ec, hMl i hi', hUl i j hj', lI hj', fy, cN, cr, kp2 q1, kp2 q2, SN, w2]
   refine ih2 (j + 1) _ (by omega) (by omega) ?_
   rfl
  ·obtain rfl : j = i := by omega
   have hraw : PV.agg [.bool (decide ((AL j).num < 0) && decide ((AL j).num.natAbs ≠ 0)), .sl (lm (dgl (AL j).num.natAbs)), .bool false, .sl (lm (dgl (AL j).den))] = rq (AL j) := rfl
   have hal' : tt j - bz (fun u => MU j u * AL u) j = AL j := by rw [← hAL]; exact vM.symm
   have hc : ((qF j AL).length + [rq (AL j)].length) * 64 ≤ 140737488355328 := by rw [d7]; simp; omega
   have hsuc := ue (n := j) (f := AL)
   rw [hal']
   simp only [SB, ak, aj, ↓reduceIte, reduceCtorEq, ai, ab, ah, ae, aa, af, hji, cr, hraw, my hg hc, cN, hsuc, d7, w1]
   refine ih (j + 1, nd τ c ++ [.kblk 4 (cr (AL j)), .prow 4 [rq (AL j)], .prow 4 (qF (j + 1) AL)], .own (τ.length + 2) 0 (j + 1)) _ ⟨by simp only []; omega, GL.kb hg h0, GL.kb hg h1, GL.at d7 ((get_at c7).trans rfl)⟩ (by simp only []; omega) ?_
   rfl
 ·obtain rfl : i = b.length := by omega
  clear ih
  obtain ⟨bc, rfl, gc, lc⟩ := VBn.GL.jr hg d7 (by have := hV.ne; omega)
  have m3 : ((64 : Nat) : Int) * (b.length : Int) ≤ 281474976710656 := by omega
  have m4 : (b.length : Int) ≤ 9223372036854775807 := by omega
  simp only [SB, ak, aj, ↓reduceIte, reduceCtorEq, ai, ab, ah, ae, aa, af, hin, Int.natCast_nonneg, m3, m4, dN, Int.toNat_natCast, j1 k27 (show ig [CV.agg [CV.p (.bool false), .nils]] = some [.agg [.bool false, .sl []]] from rfl), cN]
  refine aM (β := Nat) (fun j => ([(1, .p (.sl (qF (nn 0) t))), (5, .ptr 0 0 0), (7, .ptr 1 0 0), (10, i64 b.length), (11, .own bc 0 b.length), (15, .own τ.length 0 b.length), (16, .ptr (τ.length + 1) 0 0), (17, i64 j)], τ ++ [.prow 4 (aw b.length (.agg [.bool false, .sl [], .bool false, .sl []])), .kblk 4 (cr (bz (fun u => t u * t u) j))])) (fun j => j ≤ nn 0) (fun j => nn 0 - j) 0 rfl rfl (aD _) ?_
  intro j hj ih
  simp only [] at hj ih ⊢
  by_cases hjn2 : (j : Int) < (nn 0 : Nat)
  ·have hj' : j < nn 0 := by omega
   have k175 := (VBn.p175 (ht j hj').1).lift aX
   have k198 := (VBn.p198 ((htq j hj).rs (by omega)) (ht j hj').2).lift aX
   rw [gH (x := bz (fun u => t u * t u) j)] at k198
   have w1 := wr1 (i := j) (by omega)
   simp only [SB, ak, aj, ↓reduceIte, reduceCtorEq, ai, ab, ah, ae, aa, af, d7, hjn2, lI hj', fy, cN, cr, kp1 k175, kp2 k198, SN, w1]
   refine ih (j + 1) _ (by omega) (by omega) ?_
   rfl
  obtain rfl : j = nn 0 := by omega
  clear ih
  have w0 : IntKind.i64.wrap ((b.length : Int) - 1) = (b.length : Int) - 1 := IntWalk.i64_in _ (by omega)
  simp only [SB, ak, aj, ↓reduceIte, reduceCtorEq, ai, ab, ah, ae, aa, af, d7, hjn2, w0]
  rw [← Ac (c := co MU QQ b.length)]
  refine aM (β := Nat × ar) (fun u => ([(5, .ptr 0 0 0), (7, .ptr 1 0 0), (10, i64 b.length), (11, .own bc 0 b.length), (15, .own τ.length 0 b.length), (16, .ptr (τ.length + 1) 0 0), (18, i64 ((b.length : Int) - 1 - u.1))], u.2))
   (fun u => u.1 ≤ b.length ∧ u.2[0]? = some (.kblk 4 [.p (.bool false), .nils, .p (.bool false), .nils]) ∧ u.2[1]? = some (.kblk 2 [.p (.sl (Ml (gr (nn 0) X) b.length)), .p (.sl (Sl (gr (nn 0) X) b.length))]) ∧ u.2[bc]? = some (.prow 4 (qF b.length AL)) ∧ u.2[τ.length]? = some (.prow 4 (lC b.length (co MU QQ b.length) u.1)) ∧ u.2[τ.length + 1]? = some (.kblk 4 (cr (dF (fun u => t u * t u) QQ ST b.length (nn 0) u.1)))) (fun u => b.length - u.1)
   ((0, τ ++ [.prow 4 (lC b.length (co MU QQ b.length) 0), .kblk 4 (cr (bz (fun u => t u * t u) (nn 0)))]) : Nat × ar) (by simp only [Int.natCast_zero, Int.sub_zero]; rfl) rfl ⟨aD _, by simp only []; rw [aL (aq.1 h0).1]; exact h0, by simp only []; rw [aL (aq.1 h1).1]; exact h1, by simp only []; rw [aL lc]; exact gc, by simp only []; rw [cP]; rfl, by simp only []; rw [cY]; rfl⟩ ?_
  have hbq : bc < τ.length := lc
  generalize τ.length = q at *
  clear h0 h1 hg gc lc
  rintro ⟨s, τ⟩ ⟨hs, h0, h1, hc, h15, h16⟩ ih
  simp only [] at hs h0 h1 hc h15 h16 ih ⊢
  by_cases hsn : (b.length : Int) - 1 - s ≥ 0
  ·have hs' : s < b.length := by omega
   obtain ⟨a, ha⟩ : ∃ a, a = b.length - 1 - s := ⟨_, rfl⟩
   have hab : a < b.length := by omega
   have hI : (b.length : Int) - 1 - s = (a : Int) := by omega
   rw [hI] at hsn ⊢
   have k174 := (VBn.p174 ((hal a hab).rs (by omega)) ((hst a hab).1.rs (by omega)) (hst a hab).2).lift aX
   rw [hQa a] at k174
   have k175 := (VBn.p175 ((hq a hab).rs (by omega))).lift aX
   have l0 := (aq.1 h0).1
   have l1 := (aq.1 h1).1
   have lq := (aq.1 h15).1
   have lq1 := (aq.1 h16).1
   have lc : bc < τ.length := by omega
   have e1 : ∀ l, (τ ++ l)[1]? = some (.kblk 2 [.p (.sl (Ml (gr (nn 0) X) b.length)), .p (.sl (Sl (gr (nn 0) X) b.length))]) := fun l => by rw [aL l1]; exact h1
   have ec : ∀ l, (τ ++ l)[bc]? = some (.prow 4 (qF b.length AL)) := fun l => by rw [aL lc]; exact hc
   have e16 : ∀ l, (τ ++ l)[q + 1]? = some (.kblk 4 (cr (dF (fun u => t u * t u) QQ ST b.length (nn 0) s))) := fun l => by rw [aL lq1]; exact h16
   have f16 : ∀ l x, (τ ++ l).set (q + 1) x = τ.set (q + 1) x ++ l := fun l x => cv lq1
   have hqa : RSn 925695 (QQ a) := by have := hq a hab; rwa [hQa a] at this
   have hsa := (hst a hab).1
   have hd := hdF s (by omega)
   rw [hQa a] at k175
   have q1 := (VBn.p173 ((hqa.mul hqa).rs (by omega)) (hsa.rs (by omega))).lift aX
   have q2 := (VBn.p172 (hd.rs (by omega)) (((hqa.mul hqa).mul hsa).rs (by omega))).lift aX
   have hds : dF (fun u => t u * t u) QQ ST b.length (nn 0) s - QQ a * QQ a * ST a = dF (fun u => t u * t u) QQ ST b.length (nn 0) (s + 1) := by rw [dF, ← ha]
   rw [hds, gH (x := dF (fun u => t u * t u) QQ ST b.length (nn 0) s)] at q2
   rw [gH (x := QQ a)] at k175
   have w1 := wr1 (i := a) (by omega)
   have hq0 : q ≠ 0 := by rintro rfl; rw [h0] at h15; cases h15
   have hq1 : q ≠ 1 := by rintro rfl; rw [h1] at h15; cases h15
   simp only [SB, ak, aj, ↓reduceIte, reduceCtorEq, ai, ab, ah, ae, aa, af, hsn, hab, ec, e1, e16, lI hab, hSl a hab, fy, cN, SN, kp2 k174, bV, cr, kp1 k175, kp2 q1, kp2 q2, f16, w1]
   have hz0 : QQ a - bz (fun v => MU (a + 1 + v) a * co MU QQ b.length (a + 1 + v)) 0 = QQ a := by simp only [bz]; grind
   refine aM (β := Nat) (fun u => ([(5, .ptr 0 0 0), (7, .ptr 1 0 0), (10, i64 b.length), (11, .own bc 0 b.length), (15, .own q 0 b.length), (16, .ptr (q + 1) 0 0), (18, i64 a), (19, .ptr (τ.set (q + 1) (.kblk 4 (cr (dF (fun u => t u * t u) QQ ST b.length (nn 0) (s + 1))))).length 0 0), (20, i64 ((a + 1 + u : Nat) : Int))], τ.set (q + 1) (.kblk 4 (cr (dF (fun u => t u * t u) QQ ST b.length (nn 0) (s + 1)))) ++ [.kblk 4 (cr (QQ a - bz (fun v => MU (a + 1 + v) a * co MU QQ b.length (a + 1 + v)) u))])) (fun u => u ≤ s) (fun u => s - u) 0 (by simp only [ay]; rfl) (by simp only []; rw [hz0]; rfl) (aD _) ?_
   have g0 : (τ.set (q + 1) (.kblk 4 (cr (dF (fun u => t u * t u) QQ ST b.length (nn 0) (s + 1)))))[0]? = _ := (bC (by omega)).trans h0
   have g1 : (τ.set (q + 1) (.kblk 4 (cr (dF (fun u => t u * t u) QQ ST b.length (nn 0) (s + 1)))))[1]? = _ := (bC (by omega)).trans h1
   have gc : (τ.set (q + 1) (.kblk 4 (cr (dF (fun u => t u * t u) QQ ST b.length (nn 0) (s + 1)))))[bc]? = _ := (bC (by omega)).trans hc
   have gq : (τ.set (q + 1) (.kblk 4 (cr (dF (fun u => t u * t u) QQ ST b.length (nn 0) (s + 1)))))[q]? = _ := (bC (by omega)).trans h15
   have gq1 : (τ.set (q + 1) (.kblk 4 (cr (dF (fun u => t u * t u) QQ ST b.length (nn 0) (s + 1)))))[q + 1]? = _ := bt lq1
   generalize τ.set (q + 1) (.kblk 4 (cr (dF (fun u => t u * t u) QQ ST b.length (nn 0) (s + 1)))) = σ at *
   clear h0 h1 hc h15 h16 l0 l1 lq lq1 lc e1 ec e16 f16
   have lq := (aq.1 gq).1
   have l1 := (aq.1 g1).1
   have e1 : ∀ l, (σ ++ l)[1]? = some (.kblk 2 [.p (.sl (Ml (gr (nn 0) X) b.length)), .p (.sl (Sl (gr (nn 0) X) b.length))]) := fun l => by rw [aL l1]; exact g1
   have eq : ∀ l, (σ ++ l)[q]? = some (.prow 4 (lC b.length (co MU QQ b.length) s)) := fun l => by rw [aL lq]; exact gq
   have sq : ∀ l x, (σ ++ l).set q x = σ.set q x ++ l := fun l x => cv lq
   intro u hu ih2
   simp only [] at hu ih2 ⊢
   have hps := Be hmu hq' hbm hs' hu
   rw [← ha] at hps
   by_cases hun : ((a + 1 + u : Nat) : Int) < b.length
   ·have hu' : a + 1 + u < b.length := by omega
    have s1 := hmu (a + 1 + u) a (by omega) hu'
    have s2 := hco (a + 1 + u) hu'
    have q1 := (VBn.p173 (s1.rs (by omega)) (s2.rs (by omega))).lift aX
    have q2 := (VBn.p172 (hps.rs (by omega)) ((s1.mul s2).rs (by omega))).lift aX
    rw [show QQ a - bz (fun v => MU (a + 1 + v) a * co MU QQ b.length (a + 1 + v)) u - MU (a + 1 + u) a * co MU QQ b.length (a + 1 + u) = QQ a - bz (fun v => MU (a + 1 + v) a * co MU QQ b.length (a + 1 + v)) (u + 1) by rw [bz]; grind, gH (x := QQ a - bz (fun v => MU (a + 1 + v) a * co MU QQ b.length (a + 1 + v)) u)] at q2
    have w2 : IntKind.i64.wrap (((a + 1 + u : Nat) : Int) + 1) = ((a + 1 + (u + 1) : Nat) : Int) := by rw [IntWalk.i64_in _ (by omega)]; omega
    simp only [SB, ak, aj, ↓reduceIte, reduceCtorEq, ai, ab, ah, ae, aa, af, hun, hu', e1, eq, hMl _ hu', hUl _ a (show a < a + 1 + u by omega), ur hu' (show b.length - s ≤ a + 1 + u by omega), fy, cN, cr, kp2 q1, kp2 q2, SN, w2]
    refine ih2 (u + 1) _ (by omega) (by omega) ?_
    rfl
   ·obtain rfl : u = s := by omega
    clear ih2
    have hcs : QQ a - bz (fun v => MU (a + 1 + v) a * co MU QQ b.length (a + 1 + v)) u = co MU QQ b.length a := by rw [ha]; exact (nW hs').symm
    have hraw : PV.agg [.bool (decide ((co MU QQ b.length a).num < 0) && decide ((co MU QQ b.length a).num.natAbs ≠ 0)), .sl (lm (dgl (co MU QQ b.length a).num.natAbs)), .bool false, .sl (lm (dgl (co MU QQ b.length a).den))] = rq (co MU QQ b.length a) := rfl
    obtain ⟨x1, x2, x3, x4, hx⟩ := B6 (M := b.length) (s := u) (a := a) (c := co MU QQ b.length) hab
    have hset := B5 (c := co MU QQ b.length) hs'
    rw [← ha] at hset
    have w3 : IntKind.i64.wrap ((a : Int) - 1) = (b.length : Int) - 1 - ((u + 1 : Nat) : Int) := by rw [IntWalk.i64_in _ (by omega)]; omega
    rw [hcs]
    simp only [SB, ak, aj, ↓reduceIte, reduceCtorEq, ai, ab, ah, ae, aa, af, hun, hab, eq, cr, hraw, cN, hx, wT, sq, hset, oJ, SN, w3]
    have m0 : ∀ (k : Nat) (x y : Blk) (l : ar), k ≠ q → σ[k]? = some x → (σ.set q y ++ l)[k]? = some x := fun k x y l hk h => by
     rw [aL (by rw [ay]; exact (aq.1 h).1), bC (Ne.symm hk)]
     exact h
    refine ih (u + 1, σ.set q (.prow 4 (lC b.length (co MU QQ b.length) (u + 1))) ++ [.kblk 4 (cr (co MU QQ b.length a))]) _ ⟨by simp only []; omega, m0 _ _ _ _ (by omega) g0, m0 _ _ _ _ (by omega) g1, m0 _ _ _ _ (by omega) gc, ?_, m0 _ _ _ _ (by omega) gq1⟩ (by simp only []; omega) ?_
    ·simp only []
     rw [aL (by rw [ay]; exact lq), bt lq]
    ·rfl
  ·obtain rfl : s = b.length := by omega
   have l0 := (aq.1 h0).1
   have e0' : ∀ x, (τ.set 0 x)[0]? = some x := fun x => bt l0
   have hqq0 : q ≠ 0 := by rintro rfl; rw [h0] at h15; cases h15
   have hraw : PV.agg [.bool (decide ((dF (fun u => t u * t u) QQ ST b.length (nn 0) b.length).num < 0) && decide ((dF (fun u => t u * t u) QQ ST b.length (nn 0) b.length).num.natAbs ≠ 0)), .sl (lm (dgl (dF (fun u => t u * t u) QQ ST b.length (nn 0) b.length).num.natAbs)), .bool false, .sl (lm (dgl (dF (fun u => t u * t u) QQ ST b.length (nn 0) b.length).den))] = rq (dF (fun u => t u * t u) QQ ST b.length (nn 0) b.length) := rfl
   have gq : ∀ x, GL (τ.set 0 x) 4 (.own q 0 b.length) (qF b.length (co MU QQ b.length)) := fun x => GL.at d7 (by rw [bC (Ne.symm hqq0), h15, B7])
   simp only [SB, ak, aj, ↓reduceIte, reduceCtorEq, ai, ab, ah, ae, aa, af, hsn, h16, cr, h0, e0', hraw, cN]
   have hfq := fun x => (gq x).dD
   refine dT ?_ aQ aQ
   have hf1 := hfq
   simp only [dD] at hf1
   simp only [dL, frz, eU, hfq]
   try simp [hf1]
end
theorem rp28 : rp 62 = some f62 := rfl
theorem rp11 : rp 26 = some f26 := rfl
section
variable {b : List PV} {nn : Nat → Nat} {N : Nat} {X : Nat → Nat → Int}
theorem p28 (hb : MR b nn X) (hlb : b.length ≤ 2000000) (hv : vE nn X b.length = 0) : Pu rp 62 [.sl b] (.tup [.p (.agg [.sl (zF (b.length + 1) (Dv (gr (nn 0) X))), .sl (eL (gr (nn 0) X) b.length)]), .p (.int .i64 0)]) := by
 have k110 := (VBn.xT hb hlb hv).lift aX
 have k64 := p64 (kd hb hv)
 refine aY rp28 ?_
 simp only [f62, aJ, SB, ak, aj, ↓reduceIte, reduceCtorEq, ai, ab, ah, ae, aa, af, kp2 k110, bne_self_eq_false, kp1 k64]
 exact dz aQ aQ
def un1 (k j : Nat) : Rat := if j = k then 1 else 0
theorem nL {k : Nat} {x : Nat → Int} : ∀ {j : Nat}, bz (fun u => un1 k u * (x u : Rat)) j = ((if k < j then x k else 0 : Int) : Rat)
 | 0 => rfl
 | j + 1 => by
   rw [bz, nL]
   unfold un1
   rcases Nat.lt_trichotomy j k with h | h | h
   ·rw [if_neg (by omega), if_neg (by omega), if_neg (by omega)]
    show (0 : Rat) + 0 * _ = 0
    grind
   ·subst h
    rw [if_neg (by omega), if_pos rfl, if_pos (by omega)]
    show (0 : Rat) + 1 * _ = _
    grind
   ·rw [if_pos h, if_neg (by omega), if_pos (by omega)]
    grind
theorem Bz {k : Nat} : ∀ {j : Nat}, bz (fun u => un1 k u * un1 k u) j = ((if k < j then 1 else 0 : Int) : Rat) := by
 intro j
 have h := nL (k := k) (x := fun _ => 1) (j := j)
 rw [← h]
 refine Gs.cG fun u _ => ?_
 unfold un1
 split
 ·show (1 : Rat) * 1 = 1 * 1; rfl
 ·show (0 : Rat) * 0 = 0 * _; grind
theorem ob {k j : Nat} : RSn 1 (un1 k j) := by
 unfold un1
 split
 ·exact RSn.int (x := 1) (by unfold Sk; decide) (av 1)
 ·exact RSn.int (x := 0) (by unfold Sk; decide) (av 1)
theorem p30 {n k : Nat} (hn : n ≤ 12) : Pu rp 63 [.int .i64 n, .int .i64 k] (.p (.sl (qF n (un1 k)))) := by
 have k66 := (VBn.p66 (x := 1) (by decide) (by decide)).lift aX
 have k27 := (VBn.p27 (Nu.zi (x := 1) (Sz.small (by decide)))).lift aX
 have k27z := (VBn.p27 nu0).lift aX
 rw [show ((1 : Int) : Rat) = 1 from rfl] at k27
 rw [show ((0 : Int) : Rat) = 0 from rfl] at k27z
 refine aY rp30 ?_
 simp only [f63, aJ, SB, ak, aj, ↓reduceIte, reduceCtorEq, ai, ab, ah, ae, aa, af]
 refine aM (β := Nat × ar × CV) (fun t => ([(0, i64 n), (1, i64 k), (5, t.2.2), (6, i64 t.1)], t.2.1)) (fun t => t.1 ≤ n ∧ GL t.2.1 4 t.2.2 (qF t.1 (un1 k))) (fun t => n - t.1) ((0, [], .nils) : Nat × ar × CV) rfl rfl ⟨aD _, .nil⟩ ?_
 rintro ⟨j, τ, c⟩ ⟨hj, hg⟩ ih
 simp only [] at hj hg ih ⊢
 by_cases hjn : (j : Int) < n
 ·have w1 := wr1 (i := j) (by omega)
  have hsuc := ue (n := j) (f := un1 k)
  by_cases hjk : j = k
  ·subst hjk
   have hu : un1 j j = 1 := by unfold un1; rw [if_pos rfl]
   have hc : ((qF j (un1 j)).length + [rq 1].length) * 64 ≤ 140737488355328 := by rw [d7]; simp; omega
   rw [hu] at hsuc
   simp only [SB, ak, aj, ↓reduceIte, reduceCtorEq, ai, ab, ah, ae, aa, af, hjn, beq_self_eq_true, kp1 k66, kp1 k27, ia hg hc, hsuc, d7, cN, w1]
   refine ih (j + 1, nd τ c ++ [.prow 4 [rq 1], .prow 4 (qF (j + 1) (un1 j))], .own (τ.length + 1) 0 (j + 1)) _ ⟨by simp only []; omega, GL.at d7 ((get_at c7).trans rfl)⟩ (by simp only []; omega) ?_
   rfl
  ·have hu : un1 k j = 0 := by unfold un1; rw [if_neg hjk]
   have e2 : ((j : Int) == (k : Int)) = false := by rw [beq_eq_false_iff_ne]; omega
   have hc : ((qF j (un1 k)).length + [rq 0].length) * 64 ≤ 140737488355328 := by rw [d7]; simp; omega
   rw [hu] at hsuc
   simp only [SB, ak, aj, ↓reduceIte, reduceCtorEq, ai, ab, ah, ae, aa, af, hjn, e2, j1 k27z (show ig [CV.agg [CV.p (.bool false), .nils]] = some [.agg [.bool false, .sl []]] from rfl), ia hg hc, hsuc, d7, cN, w1]
   refine ih (j + 1, nd τ c ++ [.prow 4 [rq 0], .prow 4 (qF (j + 1) (un1 k))], .own (τ.length + 1) 0 (j + 1)) _ ⟨by simp only []; omega, GL.at d7 ((get_at c7).trans rfl)⟩ (by simp only []; omega) ?_
   rfl
 ·obtain rfl : j = n := by omega
  simp only [SB, ak, aj, ↓reduceIte, reduceCtorEq, ai, ab, ah, ae, aa, af, hjn]
  exact hg.back
end
structure Fs (B : Nat) (D : Int) (τ : ar) (cs : List CV) (R : Nat → List PV) : Prop where
 h0 : τ[0]? = some (.kblk 2 [.p (.bool false), .nils])
 h2 : τ[2]? = some (.kblk 2 (cz D))
 h3 : τ[3]? = some (.kblk 1 cs)
 ro : ib τ cs B R
theorem Fs.push {B : Nat} {D : Int} {τ : ar} {cs : List CV} {R : Nat → List PV} (h : Fs B D τ cs R) {l : ar} : Fs B D (τ ++ l) cs R := by
 obtain ⟨a0, a2, a3, r⟩ := h
 exact ⟨by rw [aL (aq.1 a0).1]; exact a0, by rw [aL (aq.1 a2).1]; exact a2, by rw [aL (aq.1 a3).1]; exact a3, r.app⟩
theorem Fs.congr {B : Nat} {D : Int} {τ : ar} {cs : List CV} {R R' : Nat → List PV} (h : Fs B D τ cs R) (hr : ∀ a, a < B → R a = R' a) : Fs B D τ cs R' :=
 ⟨h.h0, h.h2, h.h3, ⟨h.ro.len, fun a ha => by obtain ⟨c, h1, h2⟩ := h.ro.row a ha; exact ⟨c, h1, hr a ha ▸ h2⟩, h.ro.ne⟩⟩
theorem Fs.grow {B i : Nat} {D : Int} {τ : ar} {cs : List CV} {R : Nat → List PV} {c : CV} {es es' : List PV} (h : Fs B D τ cs R) (hi : i < B) (hc : cs[i]? = some c) (hg : GL τ 2 c es) {l : ar} {t k : Nat} (hl : l[t]? = some (.prow 2 es')) (hk : k = es'.length) :
 Fs B D ((nd τ c).set 3 (.kblk 1 (cs.set i (.own (τ.length + t) 0 k))) ++ l) (cs.set i (.own (τ.length + t) 0 k)) (fun a => if a = i then es' else R a) := by
 obtain ⟨a0, a2, a3, r⟩ := h
 have l3 : 3 < (nd τ c).length := by rw [c7]; exact (aq.1 a3).1
 have g3 : (nd τ c ++ l)[3]? = some (.kblk 1 cs) := GL.kb hg a3
 have hr := (r.grow hi hc hg hl hk).v9 g3 (x := .kblk 1 (cs.set i (.own (τ.length + t) 0 k)))
 rw [cv l3] at hr
 have e : ∀ s j xs, j ≠ 3 → τ[j]? = some (.kblk s xs) → ((nd τ c).set 3 (.kblk 1 (cs.set i (.own (τ.length + t) 0 k))) ++ l)[j]? = some (.kblk s xs) := fun s j xs hj hx => by
  rw [← cv l3, bC (Ne.symm hj)]
  exact GL.kb hg hx
 exact ⟨e _ _ _ (by decide) a0, e _ _ _ (by decide) a2, by rw [aL (by rw [ay]; exact l3), bt l3], hr⟩
section
variable {b m : List PV} {nn : Nat → Nat} {N L : Nat} {X Y : Nat → Nat → Int}
theorem An (h : Vb b N X) {j k : Nat} (hj : j < b.length) :
 co (mu (gr N X)) (fun a => al (mu (gr N X)) (fun i => ((X i k : Int) : Rat)) a / star (gr N X) a) b.length j * ((dI b.length (gr N X) : Int) : Rat) = ((dmM b.length N X j k : Int) : Rat) := by
 obtain ⟨n, hn⟩ : ∃ n, b.length = n + 1 := ⟨b.length - 1, by have := h.ne; omega⟩
 have hp := h.pos
 rw [hn] at hp hj ⊢
 rw [yU dY hp hj]
 congr 1
 unfold dmM
 exact Gs.cT fun t _ => Int.mul_comm _ _
theorem vI (h : Vb b N X) {tt : Nat → Rat} (htt : ∀ i, i < b.length → RSn 8 (tt i)) {j : Nat} (hj : j < b.length) : RSn 3800000000 (co (mu (gr N X)) (fun a => al (mu (gr N X)) tt a / star (gr N X) a) b.length j) := by
 have hbm := h.bs.m
 have hmu : ∀ i j, j < i → i < b.length → RSn 217 (mu (gr N X) i j) := fun i j hj hi => pO h.bs (h.pos.mono (by omega)) (by omega) hi
 have hst : ∀ k, k < b.length → RSn 217 (star (gr N X) k) ∧ star (gr N X) k ≠ 0 := fun k hk => ⟨tO h.bs (h.pos.mono (by omega)) (av k) (av k) hk hk, by have := jx dY (h.pos.mono (m := k + 1) (by omega)); grind⟩
 have hal : ∀ i, i < b.length → RSn 925478 (al (mu (gr N X)) tt i) := fun i hi => (Bk hmu htt hi).mono (wJ (by omega))
 exact yV (q := fun a => al (mu (gr N X)) tt a / star (gr N X) a) hmu (fun i hi => ((hal i hi).div (hst i hi).1 (hst i hi).2).mono (by decide)) hbm hj
theorem Dz (hb : MR b nn X) (hlb : b.length ≤ 2000000) (hv : vE nn X b.length = 0) (hN : nn 0 = N) : Pu rp 26 [.sl b] (.tup [.p (.sl (zM b.length N (dmM b.length N X))), .p (zi (dI b.length (gr N X)))]) := by
 subst hN
 have hV := kd hb hv
 have k28 := p28 hb hlb hv
 have hbm := hV.bs.m
 have hbn := hV.bs.n
 have hb0 := hV.ne
 obtain ⟨n, hn⟩ : ∃ n, b.length = n + 1 := ⟨b.length - 1, by omega⟩
 have hDI : Dv (gr (nn 0) X) b.length = dI b.length (gr (nn 0) X) := (Gs.Bc dY hV.pos).symm
 have hDs := kD (by omega) (pS hV.bs hn)
 rw [← hn] at hDs
 obtain ⟨r0, g1, g2, g3⟩ := hV.bs.row 0 (by omega)
 have i0 : gG 0 = 0 := rfl
 have hzD := dV (n := b.length + 1) (f := Dv (gr (nn 0) X)) (show b.length < b.length + 1 by omega)
 rw [hDI] at hzD
 have w0 : IntKind.i64.wrap (((b.length + 1 : Nat) : Int) - 1) = (b.length : Int) := by rw [IntWalk.i64_in _ (by omega)]; omega
 have m1 : ((24 : Nat) : Int) * (b.length : Int) ≤ 281474976710656 := by omega
 have m2 : (b.length : Int) ≤ 9223372036854775807 := by omega
 have hb1 : b.length < b.length + 1 := by omega
 refine aY rp11 ?_
 simp only [f26, aJ, SB, ak, aj, ↓reduceIte, reduceCtorEq, ai, ab, ah, ae, aa, af, kp1 k28, b7, w0, hzD, hb1, cf, SN, m1, m2, dN]
 have hPs : ∀ j c, j < b.length → c < nn 0 → Sk 226 (dmM b.length (nn 0) X j c) := fun j c hj hc => by
  rw [hn] at hj ⊢
  exact vF hV.bs hn hj hc
 generalize hDD : dI b.length (gr (nn 0) X) = D at *
 generalize hP : dmM b.length (nn 0) X = P at *
 refine aM (β := Nat × ar) (fun u => ([(0, .p (.sl b)), (3, .ptr 0 0 0), (6, .ptr 2 0 0), (7, .own 3 0 b.length), (8, i64 u.1)], u.2)) (fun u => u.1 ≤ nn 0 ∧ ∃ cs, Fs b.length D u.2 cs (fun a => zF u.1 (P a))) (fun u => nn 0 - u.1)
  ((0, [.kblk 2 [.p (.bool false), .nils], .kblk 2 [.p (.sl (zF (b.length + 1) (Dv (gr (nn 0) X)))), .p (.sl (eL (gr (nn 0) X) b.length))], .kblk 2 (cz D), .kblk 1 (aw b.length .nils)]) : Nat × ar) rfl rfl ⟨aD _, aw b.length .nils, rfl, rfl, rfl, ⟨eK, fun a ha => ⟨.nils, by simp [ha], .nil⟩, fun a a' q q' o o' k k' _ h1 => ?_⟩⟩ ?_
 ·rw [List.getElem?_replicate] at h1
  split at h1 <;> cases h1
 rintro ⟨k, τ⟩ ⟨hk, cs, hF⟩ ih
 simp only [] at hk hF ih ⊢
 by_cases hkn : (k : Int) < (r0.length : Int)
 ·rw [g2] at hkn
  have hk' : k < nn 0 := by omega
  have k30 := p30 (n := nn 0) (k := k) hbn
  obtain ⟨dist, k29⟩ := p29 (tt := fun i => ((X i k : Int) : Rat)) (t := un1 k) hb hlb hv rfl
   (fun j _ => ⟨ob.rs (by omega), (ob.mul ob).rs (by omega)⟩)
   (fun j _ => by rw [Bz]; exact (RSn.int (n := 1) (by unfold Sk; split <;> decide) (by decide)).mono (by decide))
   (fun i hi => RSn.int (hV.bs.sz i k hi hk') (by decide))
   (fun i hi => by
     obtain ⟨r, h1, h2, h3⟩ := hV.bs.row i hi
     refine ⟨r, h1, ?_⟩
     have := p66 (n := nn 0) (t := un1 k) h3 h2 hbn (fun j hj => ⟨ob.rs (by omega), (RSn.int (hV.bs.sz i j hi hj) (by decide)).rs (by omega), (ob.mul (RSn.int (hV.bs.sz i j hi hj) (by decide))).rs (by omega)⟩) (fun j hj => by
      rw [nL]
      refine (RSn.int (n := 8) ?_ (by decide)).rs (by omega)
      split
      ·exact hV.bs.sz i k hi hk'
      ·unfold Sk; decide)
     rw [nL, if_pos hk'] at this
     exact this)
  have w1 := wr1 (i := k) (by omega)
  have hdco : ∀ j, j < b.length → co (mu (gr (nn 0) X)) (fun a => al (mu (gr (nn 0) X)) (fun i => ((X i k : Int) : Rat)) a / star (gr (nn 0) X) a) b.length j * ((D : Int) : Rat) = ((P j k : Int) : Rat) := fun j hj => by
   rw [← hDD, ← hP]; exact An hV hj
  have hcs : ∀ j, j < b.length → RSn 3800000000 (co (mu (gr (nn 0) X)) (fun a => al (mu (gr (nn 0) X)) (fun i => ((X i k : Int) : Rat)) a / star (gr (nn 0) X) a) b.length j) := fun j hj => vI hV (fun i hi => RSn.int (hV.bs.sz i k hi hk') (by decide)) hj
  generalize co (mu (gr (nn 0) X)) (fun a => al (mu (gr (nn 0) X)) (fun i => ((X i k : Int) : Rat)) a / star (gr (nn 0) X) a) b.length = C at *
  simp only [SB, ak, aj, ↓reduceIte, reduceCtorEq, ai, ab, ah, ae, aa, af, g1, i0, g2, hkn, kp2 k30, kp2 k29, cN, SN]
  refine aM (β := Nat × ar) (fun u => ([(0, .p (.sl b)), (3, .ptr 0 0 0), (6, .ptr 2 0 0), (7, .own 3 0 b.length), (8, i64 k), (9, .p (.sl (qF b.length C))), (12, i64 u.1)], u.2)) (fun u => u.1 ≤ b.length ∧ ∃ cs, Fs b.length D u.2 cs (fun a => if a < u.1 then zF (k + 1) (P a) else zF k (P a))) (fun u => b.length - u.1)
   ((0, τ ++ [.kblk 4 (cr dist)]) : Nat × ar) rfl rfl ⟨aD _, cs, (hF.congr fun a _ => by rw [if_neg (Nat.not_lt_zero a)]).push⟩ ?_
  clear hF
  rintro ⟨j, τ⟩ ⟨hj, cs, hF⟩ ih2
  simp only [] at hj hF ih2 ⊢
  by_cases hjn : (j : Int) < (b.length : Int)
  ·have hj' : j < b.length := by omega
   have w2 := wr1 (i := j) (by omega)
   obtain ⟨c, c1, c2⟩ := hF.ro.row j hj'
   rw [if_neg (Nat.lt_irrefl j)] at c2
   have hcl := hF.ro.len
   have k27 := (VBn.p27 (Nu.zi (hDs.sz (by omega)))).lift aX
   rw [bg (x := D)] at k27
   have k173 := (VBn.p173 ((hcs j hj').rs (by omega)) ((RSn.int hDs (by omega)).rs (by omega))).lift aX
   rw [hdco j hj'] at k173
   have k31 : Pu rp 64 [rq ((P j k : Int) : Rat)] (.p (zi (P j k))) := by
    have := p31 ((RSn.int (hPs j k hj' hk') (by decide)).rs (by omega))
    rwa [show ((P j k : Int) : Rat).num / ((((P j k : Int) : Rat).den : Nat) : Int) = P j k from yi] at this
   have hc : ((zF k (P j)).length + [zi (P j k)].length) * 32 ≤ 140737488355328 := by
    rw [show (zF k (P j)).length = k from b7, show [zi (P j k)].length = 1 from rfl]
    exact a9 (az 32 (show k + 1 ≤ 14 by omega)) (by decide)
   have hsuc := lz (n := k) (f := P j)
   have a2 : ∀ l, (τ ++ l)[2]? = some (.kblk 2 (cz D)) := fun l => hF.push.h2
   have a3 : ∀ l, (τ ++ l)[3]? = some (.kblk 1 cs) := fun l => hF.push.h3
   have b3 : ∀ l, (nd τ c ++ l)[3]? = some (.kblk 1 cs) := fun l => GL.kb c2 hF.h3
   have l3 : 3 < (nd τ c).length := by rw [c7]; exact (aq.1 hF.h3).1
   have s3 : ∀ l x, (nd τ c ++ l).set 3 x = (nd τ c).set 3 x ++ l := fun l x => cv l3
   have c1' : cs[j * 1]? = some c := by rw [dq]; exact c1
   have hs1 : setCells cs (j * 1) [.own (τ.length + 1) 0 (k + 1)] = cs.set j (.own (τ.length + 1) 0 (k + 1)) := xy (by omega)
   have l1 : j * 1 + 1 ≤ cs.length := by omega
   simp only [SA, ak, aj, ↓reduceIte, reduceCtorEq, ai, ab, ah, ae, aa, af, hjn, a2, a3, c1', hj', lI hj', fy, cN, dZ, List.length_nil, cz, kz1 k27, kz2 k173, kp1 k31, SN, bV, mw c2 hc, hsuc, b7, b3, s3, hs1, l1, w2]
   have el3 := GL.elem c2 hF.h3
   have el2 := GL.elem c2 hF.h2
   have em3 : ¬ 3 ∈ aV c := fun h => by rw [List.elem_iff.2 h] at el3; cases el3
   have em2 : ¬ 2 ∈ aV c := fun h => by rw [List.elem_iff.2 h] at el2; cases el2
   have oo : ∀ b o n, aV (.own b o n) = [b] := fun _ _ _ => rfl
   have op : ∀ v, aV (.p v) = [] := fun _ => rfl
   have ot : ∀ b i o, aV (.ptr b i o) = [] := fun _ _ _ => rfl
   rw [ez]
   refine ⟨by simp [fZ, lR, cR, fq, oo, op, ot, vl, gt, em3, em2], ?_⟩
   have hg := hF.grow hj' c1 c2 (l := [.prow 2 [zi (P j k)], .prow 2 (zF (k + 1) (P j))]) (t := 1) (k := k + 1) rfl b7.symm
   simp only [SB, ak, aj, ↓reduceIte, reduceCtorEq, ai, ab, ah, ae, aa, af, w2]
   refine ih2 (j + 1, _) _ ⟨by simp only []; omega, _, hg.congr fun a ha => ?_⟩ (by simp only []; omega) ?_
   ·by_cases h : a = j
    ·subst h
     rw [if_pos rfl, if_pos (bO a)]
    ·rw [if_neg h]
     by_cases h' : a < j
     ·rw [if_pos h', if_pos (by omega)]
     ·rw [if_neg h', if_neg (by omega)]
   ·rfl
  ·obtain rfl : j = b.length := by omega
   simp only [SB, ak, aj, ↓reduceIte, reduceCtorEq, ai, ab, ah, ae, aa, af, hjn, w1]
   refine ih (k + 1, τ) _ ⟨by simp only []; omega, cs, hF.congr fun a ha => if_pos ha⟩ (by simp only []; omega) ?_
   rfl
 ·obtain rfl : k = nn 0 := by omega
  clear ih
  rw [g2] at hkn
  have l0 := (aq.1 hF.h0).1
  have e0 : ∀ x, (τ.set 0 x)[0]? = some x := fun x => bt l0
  simp only [SB, ak, aj, ↓reduceIte, reduceCtorEq, ai, ab, ah, ae, aa, af, g1, i0, g2, hkn, hF.h2, hF.h0, cz, e0]
  have r1 := hF.ro.v9 hF.h0 (x := .kblk 2 (cz D))
  have hk3 : (τ.set 0 (.kblk 2 (cz D)))[3]? = some (.kblk 1 cs) := by rw [bC (by decide)]; exact hF.h3
  have hk0 : (τ.set 0 (.kblk 2 (cz D)))[0]? = some (.kblk 2 (cz D)) := bt l0
  generalize hτ1 : τ.set 0 (.kblk 2 (cz D)) = τ1 at *
  have hfr : eU τ1 cs = some (zM b.length (nn 0) P) := by
   rw [ib.eU r1.len r1.row]
   rfl
  simp only [cz] at hτ1
  rw [hτ1]
  rw [nU (b := 3) (o := 0) (n := b.length) rfl hk3 hfr qj (r1.xY hk3)]
  have g0' : ((eE τ1 cs).set 3 (.prow 1 (zM b.length (nn 0) P)))[0]? = some (.kblk 2 (cz D)) := by rw [bC (by decide), nh (r1.eE hk0)]; exact hk0
  have g3' : ((eE τ1 cs).set 3 (.prow 1 (zM b.length (nn 0) P)))[3]? = some (.prow 1 (zM b.length (nn 0) P)) := bt (by rw [kY]; exact (aq.1 hk3).1)
  generalize (eE τ1 cs).set 3 (.prow 1 (zM b.length (nn 0) P)) = τ2 at *
  have hraw := (bg (x := D)).symm
  simp only [SB, ak, aj, ↓reduceIte, reduceCtorEq, ai, ab, ah, ae, aa, af, g0', cz, hraw]
  exact dz (GL.own g3' d6.symm).dL aQ
end
end Go.Proofs.YtdieenbfdeaffabGreat.VDd
namespace Go.Proofs.YtdieenbfdeaffabGreat.VDd
open Go Vpi
open VBn hiding rp tab cV cj mixed sim Big
open Gs (V Dv Pos dI sk cI bU bz)
theorem zR (x : Rat) : x * ((x.den : Int) : Rat) = (x.num : Rat) := by
 have hd : ((x.den : Int) : Rat) ≠ 0 := by
  intro h
  have : (x.den : Int) = 0 := eT.1 h
  have := x.den_nz
  omega
 have h := dP x
 rw [Rat.divInt_eq_div] at h
 have h2 : (x.num : Rat) / ((x.den : Int) : Rat) * ((x.den : Int) : Rat) = x * ((x.den : Int) : Rat) := by rw [h]
 rw [Rat.div_mul_cancel hd] at h2
 exact h2.symm
theorem vG {D a g : Nat} (hD : 0 < D) (hg : g ∣ a) (ha : a ∣ D) : D / a ∣ D / g := by
 obtain ⟨a', rfl⟩ := hg
 obtain ⟨x, rfl⟩ := ha
 have h1 : 0 < g * a' := Nat.pos_of_mul_pos_right hD
 have h2 : 0 < g := Nat.pos_of_mul_pos_right h1
 rw [Nat.mul_div_cancel_left _ h1, bW, Nat.mul_div_cancel_left _ h2]
 exact ⟨a', a7 ..⟩
theorem lcm_div {D a b : Nat} (hD : 0 < D) (ha : a ∣ D) (hb : b ∣ D) : Nat.lcm (D / a) (D / b) = D / bZ a b := by
 have hg : bZ a b ∣ D := Nat.dvd_trans (Nat.gcd_dvd_left a b) ha
 have hgp : 0 < bZ a b := Nat.pos_of_dvd_of_pos hg hD
 refine Nat.dvd_antisymm (Nat.lcm_dvd ?_ ?_) ?_
 ·exact vG hD (Nat.gcd_dvd_left a b) ha
 ·exact vG hD (Nat.gcd_dvd_right a b) hb
 ·obtain ⟨u, hu⟩ := Nat.dvd_lcm_left (D / a) (D / b)
  obtain ⟨v, hv⟩ := Nat.dvd_lcm_right (D / a) (D / b)
  have h1 : D ∣ a * Nat.lcm (D / a) (D / b) := ⟨u, by rw [hu, ← bW, Nat.mul_div_cancel' ha]⟩
  have h2 : D ∣ b * Nat.lcm (D / a) (D / b) := ⟨v, by
   have : b * Nat.lcm (D / a) (D / b) = b * ((D / b) * v) := by rw [← hv]
   rw [this, ← bW, Nat.mul_div_cancel' hb]⟩
  have h3 := Nat.dvd_gcd h1 h2
  rw [Nat.gcd_mul_right] at h3
  refine Nat.dvd_of_mul_dvd_mul_left hgp ?_
  rw [Nat.mul_div_cancel' hg]
  exact h3
theorem yl {D a c : Nat} (hD : 0 < D) (ha : a ∣ D) : (D / a) * ((D / bZ D c) / bZ (D / a) (D / bZ D c)) = D / bZ a c := by
 have hb : bZ D c ∣ D := Nat.gcd_dvd_left D c
 have e : bZ a (bZ D c) = bZ a c := by rw [← Nat.gcd_assoc, Nat.gcd_eq_left ha]
 rw [← e, ← lcm_div hD ha hb]
 unfold Nat.lcm
 rw [Nat.mul_div_assoc _ (Nat.gcd_dvd_right _ _)]
theorem Ck {x : Rat} {D : Nat} {c : Int} (hD : 0 < D) (h : x * ((D : Int) : Rat) = (c : Rat)) : x.den = D / bZ D c.natAbs := by
 have hx : x.num * (D : Int) = c * (x.den : Int) := by
  have h1 := zR x
  have h2 : ((x.num * (D : Int) : Int) : Rat) = ((c * (x.den : Int) : Int) : Rat) := by
   rw [dA, dA, ← h1, ← h, Rat.mul_assoc, Rat.mul_assoc, Rat.mul_comm ((x.den : Int) : Rat)]
  exact eT.1 h2
 have hcop := x.reduced
 have hdp := x.den_pos
 have hn : x.num.natAbs * D = c.natAbs * x.den := by
  have := congrArg Int.natAbs hx
  rwa [Int.natAbs_mul, Int.natAbs_mul, d9, d9] at this
 have hd : x.den ∣ D := by
  have : x.den ∣ x.num.natAbs * D := ⟨c.natAbs, by rw [hn, a7]⟩
  exact (Nat.Coprime.symm hcop).dvd_of_dvd_mul_left this
 obtain ⟨k, hk⟩ := hd
 have hkp : 0 < k := by
  rcases eu k with h0 | h0
  ·rw [h0, fj] at hk; omega
  ·exact h0
 have hc : c.natAbs = x.num.natAbs * k := by
  rw [hk, ← bW, a7 x.num.natAbs, bW, a7 c.natAbs] at hn
  exact (Nat.eq_of_mul_eq_mul_left hdp hn).symm
 rw [hc, hk, Nat.gcd_mul_right, Nat.Coprime.gcd_eq_one (Nat.Coprime.symm hcop), Nat.one_mul, Nat.mul_div_cancel _ hkp]
def lvF (D : Nat) (f : Nat → Int) (t : Nat) : Nat := D / gF D f t
theorem ye {D : Nat} {f : Nat → Int} (hD : 0 < D) : lvF D f 0 = 1 := by
 show D / D = 1
 exact Nat.div_self hD
theorem yf {D : Nat} {f : Nat → Int} {t : Nat} (hD : 0 < D) : lvF D f t * ((D / bZ D (f t).natAbs) / bZ (lvF D f t) (D / bZ D (f t).natAbs)) = lvF D f (t + 1) :=
 yl hD (oO (n := t)).1
end Go.Proofs.YtdieenbfdeaffabGreat.VDd
namespace Go.Proofs.YtdieenbfdeaffabGreat.VDa
open Go Vpi
set_option maxRecDepth 100000
def f3 : RFun := ⟨(qS [lq 2 (.mv (.c (.p (.bool false))))]
 (qS [mq 11 0, cA 12 4 11, mq 10 12, eX 13 10 0, eX 14 10 1, zQ 3, sq 2 3 13, mq 4 14]
 (qS [mq 16 0, cA 17 5 16, mq 15 17, eX 18 15 0, eX 19 15 1, mq 5 18, mq 6 19]
 (qS [mq 21 0, cA 22 6 21, mq 20 22, eX 23 20 0, eX 24 20 1, mq 7 23, mq 8 24]
 (.seq (qS [mq 25 0, cA 26 7 25, mq 9 26]
 (qS [mq 27 9, bK 28 .neq 27 0]
 (.fg [0, 3, 4, 5, 6, 7, 8, 9, 28] (.cond (.t 28)
 (qS [mq 29 4, mq 30 9, bq 31 .eql 29 30, mq 32 31, ⟨(some 33), (some (32, true)), none, .mv (.t 6)⟩, ⟨(some 34), (some (32, true)), none, .mv (.t 9)⟩, ⟨(some 35), (some (32, true)), none, .bin .eql (.t 33) (.t 34)⟩, lq 36 (.pick (.t 32) (.t 35) (.c (.p (.bool false)))), mq 37 36, ⟨(some 38), (some (37, true)), none, .mv (.t 8)⟩, ⟨(some 39), (some (37, true)), none, .mv (.t 9)⟩, ⟨(some 40), (some (37, true)), none, .bin .eql (.t 38) (.t 39)⟩, lq 41 (.pick (.t 37) (.t 40) (.c (.p (.bool false)))), mq 42 41, ⟨(some 43), (some (42, true)), none, .load true 2 (.t 3)⟩, ⟨(some 44), (some (42, true)), none, .build [.p (.bool false), .nils] []⟩, ⟨(some 45), (some (42, true)), none, .call .pu 8 [.t 43, .t 44]⟩, lq 46 (.pick (.t 42) (.t 45) (.c (.p (.bool false)))), mq 47 46, ⟨(some 48), (some (47, true)), none, .mv (.t 5)⟩, ⟨(some 49), (some (47, true)), none, .un .not (.t 48)⟩, lq 50 (.pick (.t 47) (.t 49) (.c (.p (.bool false)))), mq 51 50, ⟨(some 52), (some (51, true)), none, .mv (.t 7)⟩, ⟨(some 53), (some (51, true)), none, .un .not (.t 52)⟩, lq 54 (.pick (.t 51) (.t 53) (.c (.p (.bool false)))), mq 55 54, ⟨(some 56), (some (55, true)), none, .call .pu 9 []⟩, lq 57 (.pick (.t 55) (.t 56) (.c (.p (.bool false)))), mq 2 57]
 .ret)
 .skip))))
 (.seq (.reg [mq 58 4, bK 59 .eql 58 0, mq 60 59, ⟨(some 61), (some (60, true)), none, .mv (.t 6)⟩, ⟨(some 62), (some (60, true)), none, .bin .eql (.t 61) (ki 0)⟩, lq 63 (.pick (.t 60) (.t 62) (.c (.p (.bool false)))), mq 64 63, ⟨(some 65), (some (64, true)), none, .mv (.t 8)⟩, ⟨(some 66), (some (64, true)), none, .bin .eql (.t 65) (ki 0)⟩, lq 67 (.pick (.t 64) (.t 66) (.c (.p (.bool false)))), mq 68 67, ⟨(some 69), (some (68, true)), none, .load true 2 (.t 3)⟩, ⟨(some 70), (some (68, true)), none, .mv (.t 0)⟩, ⟨(some 71), (some (68, true)), none, .call .pu 10 [.t 70]⟩, ⟨(some 72), (some (68, true)), none, .call .pu 8 [.t 69, .t 71]⟩, lq 73 (.pick (.t 68) (.t 72) (.c (.p (.bool false)))), mq 74 73, ⟨(some 75), (some (74, true)), none, .mv (.t 5)⟩, ⟨(some 76), (some (74, true)), none, .mv (.t 0)⟩, ⟨(some 77), (some (74, true)), none, .call .pu 11 [.t 76]⟩, ⟨(some 78), (some (74, true)), none, .beq false (.t 75) (.t 77)⟩, lq 79 (.pick (.t 74) (.t 78) (.c (.p (.bool false)))), mq 80 79, ⟨(some 81), (some (80, true)), none, .mv (.t 7)⟩, ⟨(some 82), (some (80, true)), none, .mv (.t 0)⟩, ⟨(some 83), (some (80, true)), none, .call .pu 12 [.t 82]⟩, ⟨(some 84), (some (80, true)), none, .beq false (.t 81) (.t 83)⟩, lq 85 (.pick (.t 80) (.t 84) (.c (.p (.bool false)))), mq 86 85, ⟨(some 87), (some (86, true)), none, .call .pu 9 []⟩, lq 88 (.pick (.t 86) (.t 87) (.c (.p (.bool false)))), mq 2 88] (some (0, [])))
 .ret)))))), [.t 2]⟩
def f5 : RFun := ⟨(qS [lq 2 (.mv (.c (.p (.bool false)))), iQ 3 0]
 (.seq (qS [mq 12 0, cA 13 13 12, mq 4 13]
 (qS [mq 14 4, bK 15 .neq 14 0]
 (.fg [0, 4, 15] (.cond (.t 15)
 (qS [mq 16 4, lq 2 (.mv (.c (.p (.bool false)))), mq 3 16]
 .ret)
 .skip))))
 (qS [mq 18 0, cA 19 16 18, mq 17 19, eX 20 17 0, eX 21 17 1, zQ 6, mq 5 20, sq 2 6 21]
 (qS [mq 22 0, nQ 23 22, lq 24 (.mks false 1 24 (.sl []) (.t 23) (.t 23)), lq 7 (.alloc [.nils]), sq 1 7 24]
 (.seq (qS [mq 25 0, lq 26 (.call .ct 17 [.t 25])]
 (.fg [5, 6, 7, 26] (.block 0
 (.rng false [27, 28] (.t 26)
 (qS [mq 8 27]
 (.reg [mq 9 28] none))
 (.fg [6, 7, 8, 9] (.block 1
 (.reg [lF 29 1 7, mq 30 8, lT 31 2 6, mq 32 9, lq 33 (.call .fz 18 [.t 31, .t 32]), xq 34 1 29 30, sq 1 34 33] (some (0, [(0, 4)])))))))))
 (qS [mq 36 5, lF 37 1 7, lq 38 (.call .fz 19 [.t 36, .t 37]), mq 35 38, eX 39 35 0, eX 40 35 1, mq 10 39, mq 11 40]
 (qS [mq 41 10, mq 2 41, iQ 3 0]
 .ret))))))), [.t 2, .t 3]⟩
def tab : List (Nat × RFun) := [(3, f3), (5, f5)]
def rp : cg := fun f => match VRs.rp f with | some rf => some rf | none => (tab.find? fun x => x.1 == f).map (·.2)
theorem cj : (tab.all fun x => j5 Tryz.prog x.1 x.2) = true := by kernel_rfl
theorem aX : mW VRs.rp rp := by
 intro f rf h
 simp only [rp, h]
theorem cV : ∀ f rf, rp f = some rf → j5 Tryz.prog f rf = true := by
 intro f rf h
 unfold rp at h
 split at h
 ·rename_i h1
  cases h
  exact VRs.cV _ _ h1
 ·rw [au] at h
  obtain ⟨x, hx, rfl⟩ := h
  have h1 := List.find?_some hx
  have h2 := List.mem_of_find?_eq_some hx
  have h3 := aU.1 cj x h2
  have h4 : x.1 = f := by simpa using h1
  rw [← h4]; exact h3
theorem mixed : Tryz.prog.follows .mixedOrders = true := VRs.mixed
theorem sim (m : Nat) : eF Tryz.prog (fJ rp m) := nY mixed cV m
end Go.Proofs.YtdieenbfdeaffabGreat.VDa
namespace Go.Proofs.YtdieenbfdeaffabGreat.VDd
open Go Vpi
open VBn hiding rp tab cV cj mixed sim Big
set_option maxRecDepth 100000
open Gs (V Dv Pos dI sk cI bU)
theorem rq21 : rp 21 = some f21 := rfl
theorem rq20 : rp 20 = some f20 := rfl
theorem rq6 : rp 6 = some f6 := rfl
theorem rq12 : rp 12 = some f12 := rfl
def Ev (m : Nat) (y : Nat → Int) : Prop := ∀ i, i < m → y i % 2 = 0
noncomputable def ev (m : Nat) (y : Nat → Int) : Bool := @decide (Ev m y) (Classical.propDecidable _)
theorem yC {m : Nat} {y : Nat → Int} (h : Ev m y) : ev m y = true := by unfold ev; simp [h]
theorem Bb {m i : Nat} {y : Nat → Int} (hi : i < m) (h : y i % 2 ≠ 0) : ev m y = false := by
 unfold ev; simp
 exact fun hh => h (hh i hi)
theorem p21 {m : Nat} {y : Nat → Int} (hm : m ≤ 2000000) (hs : ∀ i, i < m → Sz (y i)) : Pu rp 21 [.sl (zF m y)] (.p (.bool (VDd.ev m y))) := by
 have k58 := (VBn.p54 (x := 2) (by decide) (by decide)).lift aX
 have z2 : Sz 2 := Sz.small (by decide)
 refine aY rq21 ?_
 simp only [f21, aJ, SB, ak, aj, ↓reduceIte, reduceCtorEq, ai, ab, ah, ae, aa, af, b7]
 refine aM (β := Nat × ar) (fun t => ([(8, .p (.sl (zF m y))), (9, i64 m), (10, i64 t.1)], t.2)) (fun t => t.1 ≤ m ∧ ∀ j, j < t.1 → y j % 2 = 0) (fun t => m - t.1) ((0, []) : Nat × ar) rfl rfl ⟨aD _, fun j hj => by omega⟩ ?_
 rintro ⟨i, ρ⟩ ⟨hi, hev⟩ ih
 simp only [] at hi hev ih ⊢
 by_cases hin : (i : Int) < m
 ·have hi' : i < m := by omega
  have hg := dV (n := m) (f := y) hi'
  have ga : ∀ l : ar, (ρ ++ l)[ρ.length + 1 + 1]? = l[2]? := fun l => by rw [dh]; exact cY
  have sa : ∀ (l : ar) x, (ρ ++ l).set (ρ.length + 1 + 1) x = ρ ++ l.set 2 x := fun l x => by rw [dh]; exact iB
  have w1 := wr1 (i := i) (by omega)
  have k57 := (VBn.p134 (Nu.zi (hs i hi')) (Nu.zi z2) (by decide)).lift aX
  have zr2 : Sz (y i % 2) := Sz.small (by unfold LB; omega)
  have k44 := (VBn.p77 (Nu.zi zr2)).lift aX
  generalize hx : y i = x at *
  rw [bg (x := x), bg (x := x / 2), bg (x := x % 2)] at k57
  rw [bg (x := x % 2)] at k44
  rw [bg (x := x)] at hg
  by_cases he : x % 2 = 0
  ·have e0 : ((x % 2).sign != 0) = false := by rw [he]; rfl
   simp only [SB, ak, aj, ↓reduceIte, reduceCtorEq, ai, ab, ah, ae, aa, af, hin, hg, SN, kp1 k58, kp2 k57, kp1 k44, bV, ga, sa, e0, w1]
   refine ih (i + 1, _) _ ⟨by simp only []; omega, fun j hj => ?_⟩ (by simp only []; omega) ?_
   ·simp only [] at hj
    rcases ax j i with h | h
    ·exact hev j h
    ·obtain rfl : j = i := by omega
     rw [hx]; exact he
   ·rfl
  ·have e0 : ((x % 2).sign != 0) = true := by
    rw [bne_iff_ne]; intro h; exact he (Int.sign_eq_zero_iff_zero.1 h)
   simp only [SB, ak, aj, ↓reduceIte, reduceCtorEq, ai, ab, ah, ae, aa, af, hin, hg, SN, kp1 k58, kp2 k57, kp1 k44, bV, ga, sa, e0]
   rw [Bb hi' (by rw [hx]; exact he)]
   rfl
 ·obtain rfl : i = m := by omega
  simp only [SB, ak, aj, ↓reduceIte, reduceCtorEq, ai, ab, ah, ae, aa, af, hin]
  rw [yC (m := i) (y := y) hev]
  rfl
section
variable {b : List PV} {nn : Nat → Nat} {X : Nat → Nat → Int}
theorem kfg {rp : cg} {rs : List dH} {base : Nat} {d : Option Nat} {l : List LOp} {dr : Dr} {ks : List KI} {e : Env} {σ : ar} {Q : CV → ar → Prop} {f sz : Nat} {c : CV} {es : List PV} {r : CV} (h : Pu rp f [.sl es] r) (hg : GL σ sz c es) :
 KC rp rs base .fz f [c] d l dr ks e σ Q = ExR rp rs base l dr ks (sto d r e) (eC σ [c]) Q :=
 kx h (by simp only [eG, hg.frz, aH])
theorem p20 {r : List PV} {x : Nat → Int} (hr : NuR r x) (hn : r.length ≤ 12) (hx : ∀ i, i < r.length → Sk 8 (x i)) : Pu rp 20 [.sl r] (.p (zi (eh x x r.length))) := by
 have k41 := (VBn.p112 hr hr rfl hn fun i hi => ⟨hx i hi, hx i hi⟩).lift aX
 refine aY rq20 ?_
 rw [bg (x := eh x x r.length)] at k41 ⊢
 simp only [f20, aJ, SB, ak, aj, ↓reduceIte, reduceCtorEq, ai, ab, ah, ae, aa, af, kp2 k41]
 rfl
theorem p6 (hb : MR b nn X) (hlb : b.length ≤ 2000000) (hv : vE nn X b.length = 0) : Pu rp 6 [.sl b] (.tup [.p (.bool (VDd.ev b.length fun i => eh (X i) (X i) (nn 0))), .p (.int .i64 0)]) := by
 have h := kd hb hv
 have hbm := h.bs.m
 have hN := h.bs.n
 have k59 := (VBn.p59 hb hlb).lift aX
 rw [hv] at k59
 have hsz : ∀ i, i < b.length → Sz (eh (X i) (X i) (nn 0)) := fun i hi => (js (fun t ht => ⟨h.bs.sz i t hi ht, h.bs.sz i t hi ht⟩) hN).sz (by decide)
 have k21 := p21 (m := b.length) (y := fun i => eh (X i) (X i) (nn 0)) hlb hsz
 generalize hy : (fun i => eh (X i) (X i) (nn 0)) = y at *
 refine aY rq6 ?_
 simp only [f6, aJ, SB, ak, aj, ↓reduceIte, reduceCtorEq, ai, ab, ah, ae, aa, af, kp1 k59, bne_self_eq_false]
 refine cC (n95 ?_ (.inl ⟨_, rfl⟩))
 simp only [SB, ak, aj, ↓reduceIte, reduceCtorEq, ai, ab, ah, ae, aa, af]
 refine wO (c := .p (.sl b)) (n := b.length) (bx := 1) (gf := 50) rfl rfl rfl rfl (by omega) rfl rfl (fun i τ => ∃ c, τ[0]? = some (.kblk 1 [c]) ∧ Wf τ ∧ GL τ 2 c (zF i y) ∧ (∀ b o n, c = .own b o n → b ≠ 0)) (fun _ => False) ?_ ?_ ?_ ?_
 ·exact ⟨.nils, rfl, (Wf.nil.push (x := .kblk 1 [.nils]) rfl).push (x := .kblk 1 [.p (.sl b)]) rfl, .nil, fun _ _ _ h => by cases h⟩
 ·rintro i τ hi ⟨c, hc, hwf, hg, hne⟩
  obtain ⟨r, g1, g2, g3⟩ := h.bs.row i hi
  refine ⟨.p (.sl r), by simp [elC, g1, PV.cells, fp], ?_⟩
  have k20 := p20 g3 (by omega) (fun j hj => h.bs.sz i j hi (by omega))
  rw [g2, show eh (X i) (X i) (nn 0) = y i from by rw [← hy]] at k20
  have hlt := (aq.1 hc).1
  have e0 : ∀ l, (τ ++ l)[0]? = some (.kblk 1 [c]) := fun l => by rw [aL hlt]; exact hc
  have hcap : ((zF i y).length + [zi (y i)].length) * 32 ≤ 140737488355328 := by rw [b7]; simp; omega
  have hA := fun {rp rs d l dr ks e Q s x} => mw (rp := rp) (rs := rs) (d := d) (l := l) (dr := dr) (ks := ks) (e := e) (Q := Q) (s := s) (x := x) hg hcap
  have hnl : 0 < (nd τ c).length := by rw [c7]; exact hlt
  have eN : ∀ l, (nd τ c ++ l)[0]? = some (.kblk 1 [c]) := fun l => fO hg hc
  have sN : ∀ l x, (nd τ c ++ l).set 0 x = (nd τ c).set 0 x ++ l := fun l x => cv hnl
  simp only [stL, SB, ak, aj, ↓reduceIte, reduceCtorEq, ai, ab, ah, ae, aa, af, hc, e0, kp1 k20, bV, hA, eN, sN]
  rw [ez]
  refine ⟨?_, ?_⟩
  ·simp [fZ, lR, cR, fq, aV, eA, vl, gt, List.elem]
  ·simp only [SB, ak, aj, ↓reduceIte, reduceCtorEq, ai, ab, ah, ae, aa, af, yz, b7]
   refine .inl ⟨.own (τ.length + 1) 0 (i + 1), ?_, ?_, ?_, ?_⟩
   ·rw [aL (by rw [ay]; exact hnl), bt hnl]
   ·rw [← sN]
    exact (B1 hwf).set (by simp [dO, gK, c7])
   ·refine .own ?_ (by rw [b7])
    rw [← sN, bC (by omega), show τ.length + 1 = (nd τ c).length + 1 by rw [c7], cY, lz]; rfl
   ·intro b o n h; cases h; omega
 ·rintro τ ⟨c, hc, hwf, hg, hne⟩
  simp only [SB, ak, aj, ↓reduceIte, reduceCtorEq, ai, ab, ah, ae, aa, af, hc, kfg k21 hg]
  exact dz aQ aQ
 ·exact fun τ h => h.elim
theorem e6 (hb : MR b nn X) (hlb : b.length ≤ 2000000) (hv : vE nn X b.length ≠ 0) : Pu rp 6 [.sl b] (.tup [.p (.bool false), .p (.int .i64 (vE nn X b.length))]) := by
 have k59 := (VBn.p59 hb hlb).lift aX
 have e0 : (vE nn X b.length != 0) = true := by simp [hv]
 refine aY rq6 ?_
 simp only [f6, aJ, SB, ak, aj, ↓reduceIte, reduceCtorEq, ai, ab, ah, ae, aa, af, kp1 k59, e0]
 rfl
theorem Bq (x : Int) : ∃ s L, zi x = .agg [.bool s, .sl L] ∧ ((x % 2 = 0 ∧ L = []) ∨ ∃ (a : Nat) (L' : List PV), L = .int .u32 (a : Int) :: L' ∧ ((a : Int).tmod 2 = 1 ↔ x % 2 ≠ 0)) := by
 refine ⟨_, _, bg, ?_⟩
 rcases eu x.natAbs with h | h
 ·refine .inl ⟨?_, by rw [h, cJ]; rfl⟩
  have : x = 0 := Int.natAbs_eq_zero.1 h
  subst this; rfl
 ·refine .inr ⟨x.natAbs % LB, lm (dgl (x.natAbs / LB)), by rw [iF (by omega)]; rfl, ?_⟩
  have e : ((x.natAbs % LB : Nat) : Int).tmod 2 = ((x.natAbs % LB % 2 : Nat) : Int) := rfl
  rw [e]
  unfold LB
  omega
theorem Dw (hb : MR b nn X) (hlb : b.length ≤ 2000000) (hv : vE nn X b.length = 0) : Pu rp 12 [.sl b] (.p (.bool (VDd.ev b.length fun i => eh (X i) (X i) (nn 0)))) := by
 have h := kd hb hv
 have hbm := h.bs.m
 have hN := h.bs.n
 have brem : ∀ a : Int, fw .rem (.int .u32 a) (.int .u32 2) = some (.int .u32 (a.tmod 2)) := fun a => fB (by decide)
 refine aY rq12 ?_
 simp only [f12, aJ, SB, ak, aj, ↓reduceIte, reduceCtorEq, ai, ab, ah, ae, aa, af]
 refine aM (β := Nat × ar) (fun t => ([(0, .p (.sl b)), (3, i64 t.1)], t.2)) (fun t => t.1 ≤ b.length ∧ ∀ j, j < t.1 → eh (X j) (X j) (nn 0) % 2 = 0) (fun t => b.length - t.1) ((0, []) : Nat × ar) rfl rfl ⟨aD _, fun j hj => by omega⟩ ?_
 rintro ⟨i, ρ⟩ ⟨hi, hev⟩ ih
 simp only [] at hi hev ih ⊢
 by_cases hin : (i : Int) < b.length
 ·have hi' : i < b.length := by omega
  obtain ⟨r, g1, g2, g3⟩ := h.bs.row i hi'
  have k34 := (VBn.p171 g3 g3 rfl (by omega) fun j hj => ⟨h.bs.sz i j hi' (by omega), h.bs.sz i j hi' (by omega)⟩).lift aX
  rw [g2] at k34
  obtain ⟨s1, L, hz, hL⟩ := Bq (eh (X i) (X i) (nn 0))
  rw [hz] at k34
  have w1 := wr1 (i := i) (by omega)
  have j4 : eh (X i) (X i) (nn 0) % 2 = 0 → ∀ j, j < i + 1 → eh (X j) (X j) (nn 0) % 2 = 0 := fun h0 j hj => by
   rcases ax j i with h | h
   ·exact hev j h
   ·obtain rfl : j = i := by omega
    exact h0
  rcases hL with ⟨h0, rfl⟩ | ⟨a, L', rfl, ha⟩
  ·have t0 : ¬ ((0 : Nat) : Int) > 0 := by decide
   simp only [SB, ak, aj, ↓reduceIte, reduceCtorEq, ai, ab, ah, ae, aa, af, hin, g1, SN, kp2 k34, bV, List.length_nil, t0, w1]
   refine ih (i + 1, _) _ ⟨by simp only []; omega, j4 h0⟩ (by simp only []; omega) ?_
   rfl
  ·have t0 : ((L'.length + 1 : Nat) : Int) > 0 := by omega
   have i00 : gG 0 = 0 := rfl
   have hg0 : ∀ (x : PV) (l : List PV), (x :: l)[0]? = some x := fun _ _ => rfl
   by_cases he : eh (X i) (X i) (nn 0) % 2 = 0
   ·have e1 : ((a : Int).tmod 2 == 1) = false := by rw [beq_eq_false_iff_ne]; exact fun hh => (ha.1 hh) he
    simp only [SB, ak, aj, ↓reduceIte, reduceCtorEq, ai, ab, ah, ae, aa, af, hin, g1, SN, kp2 k34, bV, dZ, t0, i00, hg0, dN, brem, e1, w1]
    refine ih (i + 1, _) _ ⟨by simp only []; omega, j4 he⟩ (by simp only []; omega) ?_
    rfl
   ·have e1 : ((a : Int).tmod 2 == 1) = true := by rw [beq_iff_eq]; exact ha.2 he
    simp only [SB, ak, aj, ↓reduceIte, reduceCtorEq, ai, ab, ah, ae, aa, af, hin, g1, SN, kp2 k34, bV, dZ, t0, i00, hg0, dN, brem, e1]
    rw [Bb hi' he]
    rfl
 ·obtain rfl : i = b.length := by omega
  simp only [SB, ak, aj, ↓reduceIte, reduceCtorEq, ai, ab, ah, ae, aa, af, hin]
  rw [yC hev]
  rfl
end
end Go.Proofs.YtdieenbfdeaffabGreat.VDd
namespace Go.Proofs.YtdieenbfdeaffabGreat.VRs
open Go Vpi
open VBn hiding rp tab cV cj mixed sim Big
open Hn (en Wd SpE Bd Frm)
set_option maxRecDepth 100000
theorem rq122 : rp 122 = some f122 := rfl
theorem rq96 : rp 96 = some f96 := rfl
theorem rq55 : rp 55 = some f55 := rfl
theorem rq54 : rp 54 = some f54 := rfl
theorem rq19 : rp 19 = some f19 := rfl
theorem CO (x : Int) : x.sign = -1 ∨ x.sign = 0 ∨ x.sign = 1 := by
 rcases Int.lt_trichotomy x 0 with h | h | h
 ·exact .inl (bY h)
 ·exact .inr (.inl (by rw [h]; rfl))
 ·exact .inr (.inr (bo h))
theorem DA (a b : Nat) : (eV a b = -1 ∨ eV a b = 0 ∨ eV a b = 1) ∧ (eV a b = 0 ↔ a = b) := by
 unfold eV
 split
 ·exact ⟨.inl rfl, by constructor <;> intro h <;> omega⟩
 ·split
  ·exact ⟨.inr (.inl rfl), by constructor <;> intro h <;> omega⟩
  ·exact ⟨.inr (.inr rfl), by constructor <;> intro h <;> omega⟩
theorem xt {x y : Int} (hs : x.sign = y.sign) (ha : x.natAbs = y.natAbs) : x = y := by
 have h1 := Int.sign_mul_natAbs x
 have h2 := Int.sign_mul_natAbs y
 rw [hs, ha] at h1
 omega
theorem q122 {x y : Int} (hx : Sz x) (hy : Sz y) : ∃ c : Int, Pu rp 122 [zi x, zi y] (.p (.int .i64 c)) ∧ (c = 0 ↔ x = y) := by
 have km := (VBn.p77 (Nu.zi hx)).lift gz
 have kn := (VBn.p77 (Nu.zi hy)).lift gz
 rw [bg] at km kn
 have dm : (dgl x.natAbs).length ≤ 1099511627776 := by
  have := bE (k := fR) (show x.natAbs < LB ^ fR from hx)
  rw [cH] at this; omega
 have dn : (dgl y.natAbs).length ≤ 1099511627776 := by
  have := bE (k := fR) (show y.natAbs < LB ^ fR from hy)
  rw [cH] at this; omega
 have kc := (VBn.p177 (aW x.natAbs) (aW y.natAbs) dm dn).lift gz
 simp only [aZ] at kc
 obtain ⟨c3, c0⟩ := DA x.natAbs y.natAbs
 have sx := CO x
 by_cases t1 : x.sign < y.sign
 ·refine ⟨-1, ?_, by constructor <;> intro h; omega; subst h; omega⟩
  refine aY rq122 ?_
  rw [bg, bg]
  simp only [f122, aJ, SB, ak, aj, ↓reduceIte, reduceCtorEq, ai, ab, ah, ae, aa, af, kp1 km, kp1 kn, t1]
  rfl
 ·by_cases t2 : x.sign > y.sign
  ·refine ⟨1, ?_, by constructor <;> intro h; omega; subst h; omega⟩
   refine aY rq122 ?_
   rw [bg, bg]
   simp only [f122, aJ, SB, ak, aj, ↓reduceIte, reduceCtorEq, ai, ab, ah, ae, aa, af, kp1 km, kp1 kn, t1, t2]
   rfl
  ·have hs : x.sign = y.sign := by omega
   have w : IntKind.i64.wrap (x.sign * eV x.natAbs y.natAbs) = x.sign * eV x.natAbs y.natAbs := by
    rcases sx with h | h | h <;> rcases c3 with h' | h' | h' <;> rw [h, h'] <;> rfl
   refine ⟨x.sign * eV x.natAbs y.natAbs, ?_, ?_⟩
   ·refine aY rq122 ?_
    rw [bg, bg]
    simp only [f122, aJ, SB, ak, aj, ↓reduceIte, reduceCtorEq, ai, ab, ah, ae, aa, af, kp1 km, kp1 kn, t1, t2, kp2 kc, w]
    rfl
   ·constructor
    ·intro h
     rcases Int.mul_eq_zero.1 h with h | h
     ·have h1 := Int.sign_eq_zero_iff_zero.1 h
      rw [h] at hs
      have h2 := Int.sign_eq_zero_iff_zero.1 hs.symm
      omega
     ·exact xt hs (c0.1 h)
    ·rintro rfl
     rw [c0.2 rfl, Int.mul_zero]
theorem q96 {r s : List Int} (hl : r.length = s.length) (hm : r.length ≤ 2000000) (hr : SzL r) (hs : SzL s) : ∃ c : Int, Pu rp 96 [.sl (zr r), .sl (zr s)] (.p (.int .i64 c)) ∧ (c = 0 ↔ r = s) := by
 by_cases he : r = s
 ·subst he
  refine ⟨0, ?_, by simp⟩
  refine aY rq96 ?_
  simp only [f96, aJ, SB, ak, aj, ↓reduceIte, reduceCtorEq, ai, ab, ah, ae, aa, af, dB, ite_self]
  refine aM (β := Nat) (fun t => ([(0, .p (.sl (zr r))), (1, .p (.sl (zr r))), (11, i64 r.length), (12, i64 t)], [])) (fun t => t ≤ r.length) (fun t => r.length - t) 0 rfl rfl (aD _) ?_
  intro i hi ih
  simp only [] at hi ih ⊢
  by_cases hin : (i : Int) < r.length
  ·have hi' : i < r.length := by omega
   have hx : r[i]? = some r[i] := by simp
   have hz := jm hx
   obtain ⟨c, kc, hc⟩ := q122 (hr i _ hx) (hr i _ hx)
   obtain rfl : c = 0 := hc.2 rfl
   have w1 := wr1 (i := i) (by omega)
   have e0 : ((0 : Int) != 0) = false := rfl
   simp only [SB, ak, aj, ↓reduceIte, reduceCtorEq, ai, ab, ah, ae, aa, af, hin, hz, cf, kp2 kc, e0, SN, w1]
   refine ih (i + 1) _ (by omega) (by omega) ?_
   rfl
  ·have t1 : ¬ ((r.length : Int) < r.length) := by omega
   have t2 : ¬ ((r.length : Int) > r.length) := by omega
   simp only [SB, ak, aj, ↓reduceIte, reduceCtorEq, ai, ab, ah, ae, aa, af, hin, dB, t1, t2]
   rfl
 ·-- the first place where they differ
  obtain ⟨p, hp, hpre, hne⟩ : ∃ p : Nat, p < r.length ∧ (∀ j, j < p → r[j]? = s[j]?) ∧ r[p]? ≠ s[p]? := by
   have hex : ∃ p : Nat, r[p]? ≠ s[p]? := cq fun h => he (dv fun i => cq fun h' => h ⟨i, h'⟩)
   obtain ⟨p0, hp0⟩ := hex
   have : ∀ k : Nat, (∃ p : Nat, p < k ∧ r[p]? ≠ s[p]?) → ∃ p : Nat, (∀ j, j < p → r[j]? = s[j]?) ∧ r[p]? ≠ s[p]? := by
    intro k
    induction k with
    | zero => rintro ⟨p, hp, _⟩; omega
    | succ k ih =>
      rintro ⟨p, hp, hne⟩
      by_cases hk : ∃ p : Nat, p < k ∧ r[p]? ≠ s[p]?
      ·exact ih hk
      ·refine ⟨p, fun j hj => cq fun h => hk ⟨j, by omega, h⟩, hne⟩
   obtain ⟨p, h1, h2⟩ := this (p0 + 1) ⟨p0, by omega, hp0⟩
   refine ⟨p, ?_, h1, h2⟩
   rcases ax p r.length with h | h
   ·exact h
   ·exact absurd (by rw [aG h, aG (by omega)]) h2
  have hxp : r[p]? = some r[p] := by simp [hp]
  have hyp : s[p]? = some (s[p]'(by omega)) := by simp [hl ▸ hp]
  rw [hxp, hyp] at hne
  obtain ⟨c, kc, hc⟩ := q122 (hr p _ hxp) (hs p _ hyp)
  have hc0 : c ≠ 0 := fun h => hne (by rw [hc.1 h])
  refine ⟨c, ?_, ⟨fun h => absurd h hc0, fun h => absurd h he⟩⟩
  have mnl : (if ((s.length : Nat) : Int) < (r.length : Nat) then ((s.length : Nat) : Int) else (r.length : Nat)) = ((r.length : Nat) : Int) := by rw [hl]; simp
  refine aY rq96 ?_
  simp only [f96, aJ, SB, ak, aj, ↓reduceIte, reduceCtorEq, ai, ab, ah, ae, aa, af, dB, mnl]
  refine aM (β := Nat) (fun t => ([(0, .p (.sl (zr r))), (1, .p (.sl (zr s))), (11, i64 r.length), (12, i64 t)], [])) (fun t => t ≤ p) (fun t => p - t) 0 rfl rfl (aD _) ?_
  intro i hi ih
  simp only [] at hi ih ⊢
  have hin : (i : Int) < r.length := by omega
  have w1 := wr1 (i := i) (by omega)
  rcases ax i p with hip | hip
  ·have hx : r[i]? = some (r[i]'(by omega)) := by simp [show i < r.length by omega]
   have hy := (hpre i hip).symm.trans hx
   have hz := jm hx
   have hz2 := jm hy
   obtain ⟨c', kc', hc'⟩ := q122 (hr i _ hx) (hr i _ hx)
   obtain rfl : c' = 0 := hc'.2 rfl
   have e0 : ((0 : Int) != 0) = false := rfl
   simp only [SB, ak, aj, ↓reduceIte, reduceCtorEq, ai, ab, ah, ae, aa, af, hin, hz, hz2, cf, kp2 kc', e0, SN, w1]
   refine ih (i + 1) _ (by omega) (by omega) ?_
   rfl
  ·obtain rfl : i = p := by omega
   have hz := jm hxp
   have hz2 := jm hyp
   have e0 : (c != 0) = true := by rw [bne_iff_ne]; exact hc0
   simp only [SB, ak, aj, ↓reduceIte, reduceCtorEq, ai, ab, ah, ae, aa, af, hin, hz, hz2, cf, kp2 kc, e0, SN]
   rfl
theorem q55 {L M : List (List Int)} {N : Nat} (hN : N ≤ 2000000) (hL : L.length ≤ 2000000) (wL : Wd N L) (wM : Wd N M) (sL : ∀ (i : Nat) (r : List Int), L[i]? = some r → SzL r) (sM : ∀ (i : Nat) (r : List Int), M[i]? = some r → SzL r) :
 ∃ t : Bool, Pu rp 55 [.sl (zm L), .sl (zm M)] (.p (.bool t)) ∧ (t = true ↔ L = M) := by
 by_cases hl : L.length = M.length
 ·have e1 : ((L.length : Int) != (M.length : Int)) = false := by rw [hl]; simp
  by_cases he : L = M
  ·subst he
   refine ⟨true, ?_, by simp⟩
   refine aY rq55 ?_
   simp only [f55, aJ, SB, ak, aj, ↓reduceIte, reduceCtorEq, ai, ab, ah, ae, aa, af, jn, bne_self_eq_false]
   refine aM (β := Nat) (fun t => ([(0, .p (.sl (zm L))), (1, .p (.sl (zm L))), (12, i64 L.length), (13, i64 t)], [])) (fun t => t ≤ L.length) (fun t => L.length - t) 0 rfl rfl (aD _) ?_
   intro i hi ih
   simp only [] at hi ih ⊢
   by_cases hin : (i : Int) < L.length
   ·have hx : L[i]? = some (L[i]'(by omega)) := by simp [show i < L.length by omega]
    have hz := j8 hx
    obtain ⟨c, kc, hc⟩ := q96 rfl (by rw [wL i _ hx]; exact hN) (sL i _ hx) (sL i _ hx)
    obtain rfl : c = 0 := hc.2 rfl
    have w1 := wr1 (i := i) (by omega)
    have e0 : ((0 : Int) != 0) = false := rfl
    simp only [SB, ak, aj, ↓reduceIte, reduceCtorEq, ai, ab, ah, ae, aa, af, hin, hz, dB, bne_self_eq_false, kp2 kc, e0, SN, w1]
    refine ih (i + 1) _ (by omega) (by omega) ?_
    rfl
   ·simp only [SB, ak, aj, ↓reduceIte, reduceCtorEq, ai, ab, ah, ae, aa, af, hin]
    rfl
  ·obtain ⟨p, hp, hpre, hne⟩ : ∃ p : Nat, p < L.length ∧ (∀ j, j < p → L[j]? = M[j]?) ∧ L[p]? ≠ M[p]? := by
    have hex : ∃ p : Nat, L[p]? ≠ M[p]? := cq fun h => he (dv fun i => cq fun h' => h ⟨i, h'⟩)
    obtain ⟨p0, hp0⟩ := hex
    have : ∀ k : Nat, (∃ p : Nat, p < k ∧ L[p]? ≠ M[p]?) → ∃ p : Nat, (∀ j, j < p → L[j]? = M[j]?) ∧ L[p]? ≠ M[p]? := by
     intro k
     induction k with
     | zero => rintro ⟨p, hp, _⟩; omega
     | succ k ih =>
       rintro ⟨p, hp, hne⟩
       by_cases hk : ∃ p : Nat, p < k ∧ L[p]? ≠ M[p]?
       ·exact ih hk
       ·refine ⟨p, fun j hj => cq fun h => hk ⟨j, by omega, h⟩, hne⟩
    obtain ⟨p, h1, h2⟩ := this (p0 + 1) ⟨p0, by omega, hp0⟩
    refine ⟨p, ?_, h1, h2⟩
    rcases ax p L.length with h | h
    ·exact h
    ·exact absurd (by rw [aG h, aG (by omega)]) h2
   have hxp : L[p]? = some L[p] := by simp [hp]
   have hyp : M[p]? = some (M[p]'(by omega)) := by simp [hl ▸ hp]
   rw [hxp, hyp] at hne
   have lr := wL p _ hxp
   have ls := wM p _ hyp
   obtain ⟨c, kc, hc⟩ := q96 (lr.trans ls.symm) (by rw [lr]; exact hN) (sL p _ hxp) (sM p _ hyp)
   have hc0 : c ≠ 0 := fun h => hne (by rw [hc.1 h])
   refine ⟨false, ?_, by simp [he]⟩
   refine aY rq55 ?_
   simp only [f55, aJ, SB, ak, aj, ↓reduceIte, reduceCtorEq, ai, ab, ah, ae, aa, af, jn, e1]
   refine aM (β := Nat) (fun t => ([(0, .p (.sl (zm L))), (1, .p (.sl (zm M))), (12, i64 L.length), (13, i64 t)], [])) (fun t => t ≤ p) (fun t => p - t) 0 rfl rfl (aD _) ?_
   intro i hi ih
   simp only [] at hi ih ⊢
   have hin : (i : Int) < L.length := by omega
   have w1 := wr1 (i := i) (by omega)
   rcases ax i p with hip | hip
   ·have hx : L[i]? = some (L[i]'(by omega)) := by simp [show i < L.length by omega]
    have hy := (hpre i hip).symm.trans hx
    have hz := j8 hx
    have hz2 := j8 hy
    obtain ⟨c', kc', hc'⟩ := q96 rfl (by rw [wL i _ hx]; exact hN) (sL i _ hx) (sL i _ hx)
    obtain rfl : c' = 0 := hc'.2 rfl
    have e0 : ((0 : Int) != 0) = false := rfl
    simp only [SB, ak, aj, ↓reduceIte, reduceCtorEq, ai, ab, ah, ae, aa, af, hin, hz, hz2, dB, bne_self_eq_false, kp2 kc', e0, SN, w1]
    refine ih (i + 1) _ (by omega) (by omega) ?_
    rfl
   ·obtain rfl : i = p := by omega
    have hz := j8 hxp
    have hz2 := j8 hyp
    have e0 : (c != 0) = true := by rw [bne_iff_ne]; exact hc0
    have e2 : ((L[i].length : Int) != ((M[i]'(by omega)).length : Int)) = false := by rw [lr, ls]; simp
    simp only [SB, ak, aj, ↓reduceIte, reduceCtorEq, ai, ab, ah, ae, aa, af, hin, hz, hz2, dB, e2, kp2 kc, e0, SN]
    rfl
 ·have e1 : ((L.length : Int) != (M.length : Int)) = true := by rw [bne_iff_ne]; omega
  refine ⟨false, ?_, ⟨fun h => Bool.noConfusion h, fun h => absurd (congrArg List.length h) hl⟩⟩
  refine aY rq55 ?_
  simp only [f55, aJ, SB, ak, aj, ↓reduceIte, reduceCtorEq, ai, ab, ah, ae, aa, af, jn, e1]
  rfl
theorem both {a b : List PV} {n m N : Nat} (ha : Pu rp 36 [.sl a] (.tup [.p (.int .i64 n), .p (.int .i64 N), .p (.int .i64 0)])) (hb : Pu rp 36 [.sl b] (.tup [.p (.int .i64 m), .p (.int .i64 N), .p (.int .i64 0)])) (hn : n ≤ 64) (hm : m ≤ 64) (hN : N ≤ 64) (hn0 : 0 < n) (hm0 : 0 < m) :
 Pu rp 54 [.sl a, .sl b] (.tup [.p (.int .i64 N), .p (.int .i64 0)]) := by
 have e0 : ((0 : Int) != 0) = false := rfl
 have t1 : ¬ ((n : Int) > 64) := by omega
 have t2 : ¬ ((m : Int) > 64) := by omega
 have t3 : ¬ ((N : Int) > 64) := by omega
 have t4 : ((n : Int) > 0) := by omega
 have t5 : ((m : Int) > 0) := by omega
 refine aY rq54 ?_
 simp only [f54, aJ, SB, ak, aj, ↓reduceIte, reduceCtorEq, ai, ab, ah, ae, aa, af, kp1 ha, kp1 hb, e0, t1, t2, t3, t4, t5, bne_self_eq_false, ite_self]
 exact dz aQ aQ
def lbS (e : Nat) : Nat → Nat
 | 0 => e
 | k + 1 => 5 * lbS e k + 2
def ubS (e : Nat) : Nat → Nat
 | 0 => 0
 | k + 1 => ubS e k + lbS e (k + 1) + 1
theorem qQ {E e : Nat} (h : E ≤ 2 ^ e) : ∀ k, loB E k ≤ 2 ^ lbS e k
 | 0 => h
 | k + 1 => by
   have ih := qQ h k
   show 3 * loB E k ^ 5 ≤ 2 ^ (5 * lbS e k + 2)
   have h1 : loB E k ^ 5 ≤ (2 ^ lbS e k) ^ 5 := Nat.pow_le_pow_left ih 5
   rw [← Nat.pow_mul, a7] at h1
   rw [Nat.pow_add]
   have : (2 : Nat) ^ 2 = 4 := rfl
   rw [this]
   generalize (2 : Nat) ^ (5 * lbS e k) = y at *
   generalize loB E k ^ 5 = x at *
   omega
theorem uU {E e : Nat} (h : E ≤ 2 ^ e) : ∀ k, upB E k + 1 ≤ 2 ^ ubS e k
 | 0 => av _
 | k + 1 => by
   have ih := uU h k
   have h1 := qQ h (k + 1)
   have h2 : loB E (k + 1) + 1 ≤ 2 ^ (lbS e (k + 1) + 1) := by
    rw [bJ]
    have : 0 < 2 ^ lbS e (k + 1) := dg (by decide)
    omega
   have e1 : upB E (k + 1) + 1 = (upB E k + 1) * (loB E (k + 1) + 1) := by
    show upB E k + (upB E k + 1) * loB E (k + 1) + 1 = _
    rw [ck, dq]; omega
   rw [e1]
   show _ ≤ 2 ^ (ubS e k + lbS e (k + 1) + 1)
   rw [dh, Nat.pow_add]
   exact Nat.mul_le_mul ih h2
theorem yX {E e N : Nat} (h : E ≤ 2 ^ e) (hN : ∀ k, k ≤ N → lbS e k + 1 < 3200000000000 ∧ ubS e k + 1 < 3200000000000) : Bo E N := by
 intro k hk
 obtain ⟨h1, h2⟩ := hN k hk
 have c1 : 3200000000000 ≤ 32 * fR := by rw [cH]; omega
 constructor
 ·have h3 := qQ h k
  rw [n5]
  have h4 : 2 ^ (lbS e k + 1) < 2 ^ (32 * fR) := Nat.pow_lt_pow_right (by decide) (by omega)
  rw [bJ] at h4
  have : 0 < 2 ^ lbS e k := dg (by decide)
  generalize 2 ^ (32 * fR) = Z at *
  omega
 ·have h3 := uU h k
  rw [n5]
  exact bQ h3 (Nat.pow_lt_pow_right (by decide) (by omega))
theorem x6 {e : Nat} {A : List (List Int)} {N : Nat} (hw : Wd N A) (h : ∀ i j, (en A i j).natAbs ≤ 2 ^ e) : Bd (2 ^ e) (sd A (un A.length)) 0 := by
 intro i j _
 have p1 : 1 ≤ 2 ^ e := dg (by decide)
 rcases ax i A.length with hi | hi
 ·have h1 : A[i]? = some A[i] := by simp
  have h2 := tT hi
  have hl := hw i _ h1
  rw [Hn.fH (ua h1 h2)]
  unfold Hn.vec
  rw [aK]
  rcases ax j N with hj | hj
  ·rw [aB (by omega), ← aK]
   have := h i j
   rw [Hn.fH h1] at this
   exact this
  ·rw [aC (by omega)]
   rcases ax (j - A[i].length) A.length with hk | hk
   ·rw [rJ hk, Option.getD_some]
    split
    ·exact p1
    ·exact aD _
   ·rw [aG (by rw [lW]; exact hk)]; exact aD _
 ·rw [Hn.kA (by rw [om iL.symm]; exact hi)]; exact aD _
theorem Dh : ∀ k, k ≤ 12 → lbS 7232 k + 1 < 3200000000000 ∧ ubS 7232 k + 1 < 3200000000000 := by decide
theorem q19 {a b : List PV} {A B : List (List Int)} {N e : Nat} (hc : ∀ k, k ≤ 12 → lbS e k + 1 < 3200000000000 ∧ ubS e k + 1 < 3200000000000) (hA : ML a A) (hB : ML b B) (wA : Wd N A) (wB : Wd N B) (hn0 : 0 < A.length) (hm0 : 0 < B.length) (hn : A.length ≤ 12) (hm : B.length ≤ 12) (hN0 : 0 < N) (hN : N ≤ 12)
 (bA : ∀ i j, (en A i j).natAbs ≤ 2 ^ e) (bB : ∀ i j, (en B i j).natAbs ≤ 2 ^ e)
 (sA : Pu rp 36 [.sl a] (.tup [.p (.int .i64 A.length), .p (.int .i64 N), .p (.int .i64 0)])) (sB : Pu rp 36 [.sl b] (.tup [.p (.int .i64 B.length), .p (.int .i64 N), .p (.int .i64 0)])) :
 ∃ t : Bool, Pu rp 19 [.sl a, .sl b] (.tup [.p (.bool t), .p (.int .i64 0)]) ∧ (t = true ↔ SpE A B) := by
 obtain ⟨H, k1, h1, z1⟩ := p150 hA (by omega) wA hN0 (by omega) (x6 wA bA) (yX (av _) fun k hk => hc k (by omega))
 obtain ⟨H', k2, h2, z2⟩ := p150 hB (by omega) wB hN0 (by omega) (x6 wB bB) (yX (av _) fun k hk => hc k (by omega))
 have hiff : H = H' ↔ SpE A B := by
  constructor
  ·rintro rfl
   obtain ⟨L, r, rfl, w1, f1, s1⟩ := h1
   obtain ⟨L', r', e', w2, f2, s2⟩ := h2
   have q1 := s1.trans (f1.sp w1)
   have q2 := s2.trans (f2.sp w2)
   rw [← e'] at q2
   exact q1.trans q2.symm
  ·exact fun h => IsB.one h1 h2 h
 have facts : ∀ {M H : List (List Int)}, IsB N M H → SzA H → H.length ≤ 2000000 ∧ Wd N H ∧ ∀ (i : Nat) (r : List Int), H[i]? = some r → SzL r := by
  rintro M H ⟨L, r, rfl, wL, fL, _⟩ z
  refine ⟨?_, fun i r hr => ?_, fun i r hr => qv fun j => ?_⟩
  ·have := Cx fL
   rw [aS]; omega
  ·rw [aN] at hr
   split at hr
   ·exact wL i r hr
   ·cases hr
  ·have := z i j
   rw [Hn.fH hr] at this
   exact this
 obtain ⟨f1, f2, f3⟩ := facts h1 z1
 obtain ⟨_, g2, g3⟩ := facts h2 z2
 obtain ⟨t, kq, ht⟩ := q55 (by omega) f1 f2 g2 f3 g3
 have kb := both sA sB (by omega) (by omega) (by omega) hn0 hm0
 have e0 : ((0 : Int) != 0) = false := rfl
 refine ⟨t, ?_, ht.trans hiff⟩
 refine aY rq19 ?_
 simp only [f19, aJ, SB, ak, aj, ↓reduceIte, reduceCtorEq, ai, ab, ah, ae, aa, af, kp2 kb, e0, kp2 k1, kp2 k2, kp2 kq]
 exact dz aQ aQ
end Go.Proofs.YtdieenbfdeaffabGreat.VRs
namespace Go.Proofs.YtdieenbfdeaffabGreat.VDd
open Go Vpi
open VBn hiding rp tab cV cj mixed sim Big
open Gs (V Dv Pos dI sk cI bU)
open Hn (SpE)
theorem yx {n t i : Nat} {W : Nat → Nat → Int} (ht : t < n + 1) : flC n W (i * (n + 1) + t) = cI n W t i := by
 unfold flC
 rw [a7 i, Nat.mul_add_mod, a6 ht, Nat.mul_add_div (by omega), Nat.div_eq_of_lt ht, bw]
theorem yb {n N : Nat} {X : Nat → Nat → Int} (hp : 0 < dI (n + 1) (gr N X)) : lvI (n + 1) (gr N X) = 1 ↔ SpE (lst (n + 1) N (dmM (n + 1) N X)) (lst (n + 1) N fun i c => dI (n + 1) (gr N X) * X i c) := by
 obtain ⟨g1, g2⟩ := oO (g := (dI (n + 1) (gr N X)).natAbs) (f := flC n (gr N X)) (n := (n + 1) * (n + 1))
 have hGp := Nat.pos_of_dvd_of_pos g1 (by omega)
 unfold lvI
 rw [Nat.add_sub_cancel]
 constructor
 ·intro h
  refine Cj fun t i ht hi => ?_
  have hG : (gF (dI (n + 1) (gr N X)).natAbs (flC n (gr N X)) ((n + 1) * (n + 1)) : Int) ∣ dI (n + 1) (gr N X) := Int.ofNat_dvd_left.2 g1
  have e := Int.ediv_mul_cancel hG
  rw [h, Int.one_mul] at e
  have hb : (i + 1) * (n + 1) ≤ (n + 1) * (n + 1) := az _ (by omega)
  have hb2 : (i + 1) * (n + 1) = i * (n + 1) + (n + 1) := dX ..
  have := g2 (i * (n + 1) + t) (by omega)
  rw [yx ht] at this
  have h2 := Int.ofNat_dvd_left.2 this
  rwa [e] at h2
 ·intro h
  have hall : gF (dI (n + 1) (gr N X)).natAbs (flC n (gr N X)) ((n + 1) * (n + 1)) = (dI (n + 1) (gr N X)).natAbs := yw fun j hj => by
   have hjm : j % (n + 1) < n + 1 := ep _ (by omega)
   have hjd : j / (n + 1) < n + 1 := Nat.div_lt_of_lt_mul hj
   unfold flC
   exact Int.natAbs_dvd_natAbs.2 (Ao hp h hjm hjd)
  rw [hall, Int.natAbs_of_nonneg (by omega), Int.ediv_self (by omega)]
end Go.Proofs.YtdieenbfdeaffabGreat.VDd
namespace Go.Proofs.YtdieenbfdeaffabGreat.VDa
open Go Vpi
open VBn hiding rp tab cV cj mixed sim Big
open VDd (zM zF Vb kd lvI dmM lst yb jo dV d6 b7 p136)
open Gs (dI)
open Hn (en Wd SpE)
set_option maxRecDepth 100000
theorem rq5 : rp 5 = some f5 := rfl
theorem dd : mW VDd.rp rp := fun f rf h => aX f rf (VRs.aX f rf h)
theorem bn : mW VBn.rp rp := fun f rf h => dd f rf (VDd.aX f rf h)
theorem Bp {m N : Nat} {W : Nat → Nat → Int} : VRs.zm (lst m N W) = zM m N W := by
 simp [VRs.zm, VRs.zr, lst, zM, zF, List.map_map, Function.comp_def]
theorem A5 {m N : Nat} {W : Nat → Nat → Int} (hN : N ≤ 2000000) (h : ∀ i j, i < m → j < N → Sz (W i j)) : VRs.ML (zM m N W) (lst m N W) := by
 rw [← Bp]
 refine VRs.ML.zm fun i r hr => ?_
 have hi := (aq.1 hr).1
 rw [VDd.gC] at hi
 rw [VDd.jP hi] at hr
 cases hr
 refine ⟨fun j x hx => ?_, by simpa using hN⟩
 rw [cd, au] at hx
 obtain ⟨j', hj', rfl⟩ := hx
 have := (aq.1 hj').1
 rw [List.length_range] at this
 rw [gn this] at hj'
 cases hj'
 exact h i j hi this
theorem yH {m N B : Nat} {W : Nat → Nat → Int} (h : ∀ i j, i < m → j < N → (W i j).natAbs ≤ B) (i j : Nat) : (en (lst m N W) i j).natAbs ≤ B := by
 rcases ax i m with hi | hi
 ·rw [Hn.fH (VDd.jP hi), VDd.mI]
  split
  ·rename_i hj; exact h i j hi hj
  ·exact aD _
 ·rw [Hn.kA (by rw [VDd.gC]; exact hi)]; exact aD _
def wd (m N : Nat) (W : Nat → Nat → Int) (i : Nat) : List PV := (ca m).map fun a => .sl (if a < i then zF N (W a) else [])
theorem qk {m N i : Nat} {W : Nat → Nat → Int} : (wd m N W i).length = m := by simp [wd]
theorem zn {m N : Nat} {W : Nat → Nat → Int} : aw m (PV.sl []) = wd m N W 0 := by
 apply dv
 intro j
 unfold wd
 rw [cd, List.getElem?_replicate]
 split
 ·rename_i h; rw [gn h]; simp
 ·rename_i h; rw [aG (by simpa using h)]; rfl
theorem qm {m N i a : Nat} {W : Nat → Nat → Int} (ha : a < m) : (wd m N W i)[a]? = some (.sl (if a < i then zF N (W a) else [])) := by
 unfold wd
 rw [cd, gn ha]; rfl
theorem Bt {m N i : Nat} {W : Nat → Nat → Int} (hi : i < m) : (wd m N W i).set i (.sl (zF N (W i))) = wd m N W (i + 1) := by
 apply dv
 intro a
 rw [List.getElem?_set]
 split
 ·rename_i h
  subst h
  rw [if_pos (by rw [qk]; exact hi), qm hi, if_pos (by omega)]
 ·rename_i h
  rcases ax a m with ha | ha
  ·rw [qm ha, qm ha]
   by_cases h1 : a < i
   ·rw [if_pos h1, if_pos (by omega)]
   ·rw [if_neg h1, if_neg (by omega)]
  ·rw [aG (by rw [qk]; exact ha), aG (by rw [qk]; exact ha)]
theorem Bu {m N : Nat} {W : Nat → Nat → Int} : wd m N W m = zM m N W := by
 unfold wd zM
 refine List.map_congr_left fun a ha => ?_
 rw [if_pos (List.mem_range.1 ha)]
section
variable {b : List PV} {nn : Nat → Nat} {X : Nat → Nat → Int}
theorem p5 (hb : MR b nn X) (hlb : b.length ≤ 2000000) (hv : vE nn X b.length = 0) : Pu rp 5 [.sl b] (.tup [.p (.bool (decide (lvI b.length (gr (nn 0) X) = 1))), .p (.int .i64 0)]) := by
 have h := kd hb hv
 have hbm := h.bs.m
 have hN := h.bs.n
 have h0 := h.ne
 obtain ⟨n, hn⟩ : ∃ n, b.length = n + 1 := ⟨b.length - 1, by omega⟩
 have k59 := (VBn.p59 hb hlb).lift bn
 rw [hv] at k59
 have hd := h.dI
 have k16 := (p136 h.bs h0 hd).lift dd
 have hW : ∀ i j, i < n + 1 → j < n + 1 → Sk 17 (gr (nn 0) X i j) := VDd.pS h.bs hn
 have hDs : Sk 217 (dI b.length (gr (nn 0) X)) := by
  rw [hn]; exact (VDd.kD (by omega) hW).mono (by omega)
 have hdm : ∀ i c, i < b.length → c < nn 0 → Sk 226 (dmM b.length (nn 0) X i c) := fun i c hi hc => by
  rw [hn] at hi ⊢; exact VDd.vF h.bs hn hi hc
 have hDX : ∀ i c, i < b.length → c < nn 0 → Sk 226 (dI b.length (gr (nn 0) X) * X i c) := fun i c hi hc => (hDs.mul (h.bs.sz i c hi hc)).mono (by decide)
 have hlv := yb (n := n) (N := nn 0) (X := X) (by rw [← hn]; exact hd)
 rw [← hn] at hlv
 have hN0 : 0 < nn 0 := by
  rcases eu (nn 0) with hz | hz
  ·exfalso
   have e1 := Gs.kH (n := n) (i := 0) (j := 0) (g := gr (nn 0) X) (by omega) (by omega)
   rw [VDd.fD fun k _ => by rw [show gr (nn 0) X 0 k = 0 by rw [hz]; rfl, Int.zero_mul], if_pos rfl, ← hn] at e1
   omega
  ·exact hz
 generalize hDD : dI b.length (gr (nn 0) X) = D at *
 generalize hPP : dmM b.length (nn 0) X = P at *
 obtain ⟨e, he⟩ : ∃ e : Nat, e = 32 * 226 := ⟨_, rfl⟩
 have e226 : LB ^ 226 = 2 ^ e := by rw [he, n5]
 have hcap : ∀ k, k ≤ 12 → VRs.lbS e k + 1 < 3200000000000 ∧ VRs.ubS e k + 1 < 3200000000000 := by rw [he]; exact VRs.Dh
 have sz2 : ∀ i c, i < b.length → c < nn 0 → Sz (D * X i c) := fun i c hi hc => (hDX i c hi hc).sz (by decide)
 have sz1 : ∀ i c, i < b.length → c < nn 0 → Sz (P i c) := fun i c hi hc => (hdm i c hi hc).sz (by decide)
 have shA := (VDd.z93 (m := b.length) (n := nn 0) (W := P) (by omega) (by omega) (by omega) sz1).lift VRs.aX
 have shB := (VDd.z93 (m := b.length) (n := nn 0) (W := fun i c => D * X i c) (by omega) (by omega) (by omega) sz2).lift VRs.aX
 obtain ⟨t, k19, ht⟩ := VRs.q19 hcap (a := zM b.length (nn 0) P) (b := zM b.length (nn 0) fun i c => D * X i c) (A := lst b.length (nn 0) P) (B := lst b.length (nn 0) fun i c => D * X i c) (N := nn 0)
  (A5 (by omega) sz1) (A5 (by omega) sz2) VDd.yg VDd.yg (by rw [VDd.gC]; omega) (by rw [VDd.gC]; omega) (by rw [VDd.gC]; omega) (by rw [VDd.gC]; omega) hN0 hN
  (yH fun i c hi hc => by have := hdm i c hi hc; unfold Sk at this; rw [e226] at this; exact Nat.le_of_lt this) (yH fun i c hi hc => by have := hDX i c hi hc; unfold Sk at this; rw [e226] at this; exact Nat.le_of_lt this)
  (by rw [VDd.gC]; exact shA) (by rw [VDd.gC]; exact shB)
 have hts : t = decide (lvI b.length (gr (nn 0) X) = 1) := by
  rw [Bool.eq_iff_iff, ht, decide_eq_true_eq, hlv]
 have k19' := k19.lift aX
 rw [hts] at k19'
 have m1 : ((24 : Nat) : Int) * (b.length : Int) ≤ 281474976710656 := by omega
 have m2 : (b.length : Int) ≤ 9223372036854775807 := by omega
 rw [bg (x := D)] at k16
 refine aY rq5 ?_
 simp only [f5, aJ, SB, ak, aj, ↓reduceIte, reduceCtorEq, ai, ab, ah, ae, aa, af, kp1 k59, bne_self_eq_false, kp1 k16, SN, m1, m2, dN]
 refine cC ((VDd.n95 ?_ (.inl ⟨_, rfl⟩)).lift dd)
 simp only [SB, ak, aj, ↓reduceIte, reduceCtorEq, ai, ab, ah, ae, aa, af]
 refine wO (c := .p (.sl b)) (n := b.length) (bx := 3) (gf := 50) rfl rfl rfl rfl (by omega) rfl rfl (fun i τ => τ = [.kblk 2 [.p (.bool (decide (D < 0) && decide (D.natAbs ≠ 0))), .p (.sl (lm (dgl D.natAbs)))], .prow 1 (wd b.length (nn 0) (fun i c => D * X i c) i), .kblk 1 [.own 1 0 b.length], .kblk 1 [.p (.sl b)]]) (fun _ => False) ?_ ?_ ?_ ?_
 ·rw [zn (m := b.length) (N := nn 0) (W := fun i c => D * X i c)]
 ·rintro i τ hi rfl
  obtain ⟨r, g1, g2, g3⟩ := h.bs.row i hi
  refine ⟨.p (.sl r), by simp [elC, g1, PV.cells, fp], ?_⟩
  have k18 : Pu rp 18 [zi D, .sl r] (.p (.sl (zF (nn 0) fun c => D * X i c))) := by
   have hNL : VDd.NL r ((ca (nn 0)).map (X i)) := by
    refine ⟨by simp [g2], fun j p x hp hx => ?_⟩
    obtain ⟨p', g4, g5⟩ := g3 j (aq.1 hp).1
    rw [hp] at g4
    cases g4
    rw [cd, au] at hx
    obtain ⟨j', hj', rfl⟩ := hx
    have hjl := (aq.1 hj').1
    rw [List.length_range] at hjl
    rw [gn hjl] at hj'
    cases hj'
    exact g5
   have := (VDd.p78 (Nu.zi (hDs.sz (by decide))) hNL (by omega)).lift dd
   rw [List.map_map] at this
   have e : VDd.zr ((ca (nn 0)).map ((D * ·) ∘ X i)) = zF (nn 0) fun c => D * X i c := by simp [VDd.zr, zF, List.map_map, Function.comp_def]
   rw [e] at this
   exact this
  rw [bg (x := D)] at k18
  have hw := qm (m := b.length) (N := nn 0) (i := i) (W := fun i c => D * X i c) hi
  have hs := Bt (m := b.length) (N := nn 0) (W := fun i c => D * X i c) hi
  have hwl := qk (m := b.length) (N := nn 0) (i := i) (W := fun i c => D * X i c)
  simp only [stL, SB, ak, aj, ↓reduceIte, reduceCtorEq, ai, ab, ah, ae, aa, af, hi, hw, hwl, VBn.kz2 k18, SN]
  rw [ez]
  refine ⟨by rfl, ?_⟩
  simp only [SB, ak, aj, ↓reduceIte, reduceCtorEq, ai, ab, ah, ae, aa, af, hs, yz]
  exact .inl trivial
 ·rintro τ rfl
  have hkf := fun {rs base d l dr ks e Q} => jC (rp := rp) (rs := rs) (base := base) (d := d) (l := l) (dr := dr) (ks := ks) (e := e) (Q := Q) (σ := [.kblk 2 [.p (.bool (decide (D < 0) && decide (D.natAbs ≠ 0))), .p (.sl (lm (dgl D.natAbs)))], .prow 1 (zM b.length (nn 0) fun i c => D * X i c), .kblk 1 [.own 1 0 b.length], .kblk 1 [.p (.sl b)]]) (b := 1) (n := b.length) k19' rfl d6.symm
  simp only [SB, ak, aj, ↓reduceIte, reduceCtorEq, ai, ab, ah, ae, aa, af, Bu, hkf]
  exact dz aQ aQ
 ·exact fun τ h => h.elim
theorem e5 (hb : MR b nn X) (hlb : b.length ≤ 2000000) (hv : vE nn X b.length ≠ 0) : Pu rp 5 [.sl b] (.tup [.p (.bool false), .p (.int .i64 (vE nn X b.length))]) := by
 have k59 := (VBn.p59 hb hlb).lift bn
 have e0 : (vE nn X b.length != 0) = true := by simp [hv]
 refine aY rq5 ?_
 simp only [f5, aJ, SB, ak, aj, ↓reduceIte, reduceCtorEq, ai, ab, ah, ae, aa, af, kp1 k59, e0]
 rfl
end
end Go.Proofs.YtdieenbfdeaffabGreat.VDa
namespace Go.Proofs.YtdieenbfdeaffabGreat.VDd
open Go Vpi
open VBn hiding rp tab cV cj mixed sim Big
open Gs (V Dv Pos dI sk cI bU bz U rg)
def tv (D : Int) (w : Nat → Int) (u : Nat) : Rat := eZ (w u) D
theorem wU {D : Int} {w : Nat → Int} {u : Nat} : tv D w u = (w u : Rat) / (D : Rat) := Rat.divInt_eq_div ..
theorem tU {D : Int} {w y : Nat → Int} : ∀ {j : Nat}, bz (fun u => tv D w u * (y u : Rat)) j = ((bU (fun u => w u * y u) j : Int) : Rat) / (D : Rat)
 | 0 => by simp only [bz, bU]; rw [gg]; simp
 | j + 1 => by
   simp only [bz, bU]
   rw [tU, wU, Rat.intCast_add, dA, gg, gg, gg]
   grind
theorem AN {D : Int} {w : Nat → Int} (hD : D ≠ 0) : ∀ {j : Nat}, bz (fun u => tv D w u * tv D w u) j = ((bU (fun u => w u * w u) j : Int) : Rat) / ((D * D : Int) : Rat)
 | 0 => by simp only [bz, bU]; rw [gg]; simp
 | j + 1 => by
   have hD' : (D : Rat) ≠ 0 := fun h => hD (eT.1 h)
   simp only [bz, bU]
   rw [AN hD, wU, Rat.intCast_add, dA, dA, gg, gg, gg, Rat.inv_mul_rev]
   grind
theorem Di {n i k : Nat} {g : Nat → Nat → Int} (hs : ∀ p q, g p q = g q p) : cI n g i k = cI n g k i := by
 have h := Gs.yS (n := n) (i := i) (k := k) (A := rg g)
 have e : (fun p q => rg g q p) = rg g := by
  funext p q
  unfold rg
  rw [hs]
 rw [e, ← Gs.tl, ← Gs.tl] at h
 exact eT.1 h
section
variable {b : List PV} {nn : Nat → Nat} {X : Nat → Nat → Int} {n N i : Nat}
noncomputable def cor (m N : Nat) (X : Nat → Nat → Int) (i k : Nat) : Rat := co (mu (gr N X)) (fun a => al (mu (gr N X)) (fun t => (((if t = i then 1 else 0 : Int)) : Rat)) a / star (gr N X) a) m k
theorem Cp (h : Vb b N X) (hn : b.length = n + 1) {k : Nat} (hi : i < n + 1) (hk : k < n + 1) : cor b.length N X i k * ((dI b.length (gr N X) : Int) : Rat) = ((cI n (gr N X) i k : Int) : Rat) := by
 have hp := h.pos
 unfold cor
 rw [hn] at hp ⊢
 rw [yU dY hp hk (tt := fun t => if t = i then 1 else 0)]
 congr 1
 have e : bU (fun t => (if t = i then 1 else 0) * cI n (gr N X) t k) (n + 1) = bU (fun t => if t = i then cI n (gr N X) t k else 0) (n + 1) := Gs.cT fun t _ => by split <;> simp
 rw [e, kf hi]
theorem Ar (h : Vb b N X) (hn : b.length = n + 1) {k : Nat} (hi : i < n + 1) (hk : k < n + 1) :
 (cor b.length N X i k).den = (dI b.length (gr N X)).natAbs / bZ (dI b.length (gr N X)).natAbs (flC n (gr N X) (i * (n + 1) + k)).natAbs := by
 have hd := h.dI
 have e := Cp h hn hi hk
 have e2 : ((dI b.length (gr N X)).natAbs : Int) = dI b.length (gr N X) := Int.natAbs_of_nonneg (by omega)
 rw [← e2] at e
 rw [Ck (by omega) e, yx hk, Di dY]
theorem Co (h : Vb b N X) {k : Nat} (hk : k < b.length) : RSn 3800000000 (cor b.length N X i k) := vI h (fun t ht => by
 refine RSn.int ?_ (by decide)
 unfold Sk
 split <;> decide) hk
theorem Ab (hb : MR b nn X) (hlb : b.length ≤ 2000000) (hv : vE nn X b.length = 0) (hn : b.length = n + 1) (hi : i < n + 1) :
 ∃ dist : Rat, Pu rp 29 [.sl b, .sl (qF (nn 0) (tv (dI b.length (gr (nn 0) X)) (dmM b.length (nn 0) X i)))] (.tup [.p (.sl (qF b.length (cor b.length (nn 0) X i))), .p (rq dist), .p (.int .i64 0)]) := by
 have h := kd hb hv
 have hbn := h.bs.n
 have hbm := h.bs.m
 have hd := h.dI
 have hDk : Sk 217 (dI b.length (gr (nn 0) X)) := by
  rw [hn]; exact (kD (by omega) (pS h.bs hn)).mono (by omega)
 have hP : ∀ c, c < nn 0 → Sk 226 (dmM b.length (nn 0) X i c) := fun c hc => by
  rw [hn]; exact vF h.bs hn hi hc
 have hpair : ∀ a, a < b.length → eh (X a) (dmM b.length (nn 0) X i) (nn 0) = if a = i then dI b.length (gr (nn 0) X) else 0 := fun a ha => by
  rw [hn] at ha ⊢; exact xR ha hi
 generalize hDD : dI b.length (gr (nn 0) X) = D at *
 generalize hWW : dmM b.length (nn 0) X i = w at *
 have hD0 : D ≠ 0 := by omega
 have hDR : (D : Rat) ≠ 0 := fun hh => hD0 (eT.1 hh)
 have ht1 : ∀ j, j < nn 0 → RSn 443 (tv D w j) := fun j hj => by
  rw [wU]
  exact (RSn.div (RSn.int (hP j hj) (by decide)) (RSn.int hDk (by decide)) hDR).mono (by decide)
 refine p29 (t := tv D w) (tt := fun t => (((if t = i then 1 else 0 : Int)) : Rat)) hb hlb hv rfl (fun j hj => ⟨(ht1 j hj).rs (by omega), ((ht1 j hj).mul (ht1 j hj)).rs (by omega)⟩) (fun j hj => ?_) (fun t ht => ?_) (fun a ha => ?_)
 ·rw [AN hD0]
  have s1 : Sk 453 (bU (fun u => w u * w u) j) := l8 (e := 452) (by omega) fun u hu => (hP u (by omega)).mul (hP u (by omega))
  have s2 : Sk 434 (D * D) := hDk.mul hDk
  have hDD0 : ((D * D : Int) : Rat) ≠ 0 := fun hh => by
   have := eT.1 hh
   rcases Int.mul_eq_zero.1 this with h | h <;> exact hD0 h
  exact (RSn.div (RSn.int s1 (by decide)) (RSn.int s2 (by decide)) hDD0).mono (by decide)
 ·refine RSn.int ?_ (by decide)
  unfold Sk
  split <;> decide
 ·obtain ⟨r, h1, h2, h3⟩ := h.bs.row a ha
  refine ⟨r, h1, ?_⟩
  have sX : ∀ u, u < nn 0 → Sk 8 (X a u) := fun u hu => h.bs.sz a u ha hu
  have := p66 (n := nn 0) (t := tv D w) h3 h2 hbn (fun j hj => ⟨(ht1 j hj).rs (by omega), (RSn.int (sX j hj) (by decide)).rs (by omega), ((ht1 j hj).mul (RSn.int (sX j hj) (by decide))).rs (by omega)⟩) (fun j hj => by
   rw [tU]
   have s1 : Sk 235 (bU (fun u => w u * X a u) j) := l8 (e := 234) (by omega) fun u hu => (hP u (by omega)).mul (sX u (by omega))
   exact (RSn.div (RSn.int s1 (by decide)) (RSn.int hDk (by decide)) hDR).rs (by omega))
  have e : bz (fun u => tv D w u * (X a u : Rat)) (nn 0) = (((if a = i then 1 else 0 : Int)) : Rat) := by
   rw [tU]
   have e1 : bU (fun u => w u * X a u) (nn 0) = if a = i then D else 0 := by
    rw [← hpair a ha, oZ]
    exact Gs.cT fun u _ => Int.mul_comm _ _
   rw [e1]
   split
   ·rw [gg, Rat.mul_inv_cancel _ hDR]; rfl
   ·rw [gg]; simp
  rw [e] at this
  exact this
end
end Go.Proofs.YtdieenbfdeaffabGreat.VDd
namespace Go.Proofs.YtdieenbfdeaffabGreat.VDd
open Go Vpi
open VBn hiding rp tab cV cj mixed sim Big
open Gs (V Dv Pos dI sk cI bU bz U rg)
set_option maxRecDepth 100000
theorem rq10 : rp 10 = some f10 := rfl
theorem lK (v : Nat) : zi (v : Int) = .agg [.bool false, .sl (lm (dgl v))] := by
 rw [bg, d9, show decide ((v : Int) < 0) = false by simp]; rfl
theorem uE (v : Nat) : cz (v : Int) = [.p (.bool false), .p (.sl (lm (dgl v)))] := by
 unfold cz
 rw [d9, show decide ((v : Int) < 0) = false by simp]; rfl
structure Lv (D : Int) (l : Nat) (τ : ar) : Prop where
 h0 : τ[0]? = some (.kblk 2 [.p (.bool false), .nils])
 h1 : τ[1]? = some (.kblk 2 (cz D))
 h2 : τ[2]? = some (.kblk 2 (cz (l : Int)))
theorem Lv.push {D : Int} {l : Nat} {τ : ar} (h : Lv D l τ) {x : ar} : Lv D l (τ ++ x) :=
 ⟨by rw [aL (aq.1 h.h0).1]; exact h.h0, by rw [aL (aq.1 h.h1).1]; exact h.h1, by rw [aL (aq.1 h.h2).1]; exact h.h2⟩
theorem Lv.nd {D : Int} {l : Nat} {τ : ar} {c : CV} {es : List PV} {sz : Nat} (h : Lv D l τ) (hg : GL τ sz c es) {x : ar} : Lv D l (nd τ c ++ x) := ⟨fO hg h.h0, fO hg h.h1, fO hg h.h2⟩
theorem Dy {rp : cg} {rs : List dH} {base : Nat} {d : Option Nat} {l : List LOp} {dr : Dr} {ks : List KI} {e : Env} {σ : ar} {Q : CV → ar → Prop} {f sz : Nat} {c : CV} {a : PV} {es : List PV} {r : CV} (h : Pu rp f [a, .sl es] r) (hg : GL σ sz c es) :
 KC rp rs base .fz f [.p a, c] d l dr ks e σ Q = ExR rp rs base l dr ks (sto d r e) (eC σ [.p a, c]) Q :=
 kx h (by have h1 : frz σ (.p a) = some a := rfl; simp only [eG, h1, hg.frz, aH])
section
variable {b : List PV} {nn : Nat → Nat} {X : Nat → Nat → Int}
theorem Vb.wide {N : Nat} (h : Vb b N X) : 0 < N := by
 rcases eu N with hz | hz
 ·exfalso
  obtain ⟨n, hn⟩ : ∃ n, b.length = n + 1 := ⟨b.length - 1, by have := h.ne; omega⟩
  have hd := h.dI
  have e1 := Gs.kH (n := n) (i := 0) (j := 0) (g := gr N X) (by omega) (by omega)
  rw [fD fun k _ => by rw [show gr N X 0 k = 0 by rw [hz]; rfl, Int.zero_mul], if_pos rfl, ← hn] at e1
  omega
 ·exact hz
theorem p10 (hb : MR b nn X) (hlb : b.length ≤ 2000000) (hv : vE nn X b.length = 0) : Pu rp 10 [.sl b] (.p (zi (lvI b.length (gr (nn 0) X)))) := by
 have h := kd hb hv
 have hbn := h.bs.n
 have hbm := h.bs.m
 have hd := h.dI
 have hN0 := h.wide
 obtain ⟨n, hn⟩ : ∃ n, b.length = n + 1 := ⟨b.length - 1, by have := h.ne; omega⟩
 have k26 := Dz hb hlb hv rfl
 have k27 := (VBn.p66 (x := 1) (by decide) (by decide)).lift aX
 have hDk : Sk 217 (dI b.length (gr (nn 0) X)) := by
  rw [hn]; exact (kD (by omega) (pS h.bs hn)).mono (by omega)
 have hP : ∀ i c, i < b.length → c < nn 0 → Sk 226 (dmM b.length (nn 0) X i c) := fun i c hi hc => by
  rw [hn] at hi ⊢; exact vF h.bs hn hi hc
 have hrow := fun i (hi : i < n + 1) => Ab hb hlb hv hn hi
 have hden := fun i k (hi : i < n + 1) (hk : k < n + 1) => Ar (i := i) (k := k) h hn hi hk
 have hcs := fun i k (hk : k < b.length) => Co (i := i) (k := k) h hk
 have hlv : lvI b.length (gr (nn 0) X) = ((lvF (dI b.length (gr (nn 0) X)).natAbs (flC n (gr (nn 0) X)) (b.length * b.length) : Nat) : Int) := by
  unfold lvI lvF
  rw [show b.length - 1 = n by omega]
  conv => lhs; rw [show dI b.length (gr (nn 0) X) = ((dI b.length (gr (nn 0) X)).natAbs : Int) from (Int.natAbs_of_nonneg (by omega)).symm]
  rfl
 rw [hlv]
 generalize hPP : dmM b.length (nn 0) X = P at *
 generalize hFF : flC n (gr (nn 0) X) = F at *
 generalize hCC : cor b.length (nn 0) X = C at *
 generalize hDD : dI b.length (gr (nn 0) X) = D at *
 have hDn : 0 < D.natAbs := by omega
 have hlS : ∀ t, Sz ((lvF D.natAbs F t : Nat) : Int) := fun t => by
  refine (hDk.sz (by decide)).le ?_
  rw [d9]
  exact Nat.div_le_self ..
 rw [bg (x := D)] at k26
 rw [bg (x := 1)] at k27
 refine aY rq10 ?_
 simp only [f10, aJ, SB, ak, aj, ↓reduceIte, reduceCtorEq, ai, ab, ah, ae, aa, af, kp1 k26, kp1 k27]
 refine aM (β := Nat × ar) (fun t => ([(0, .p (.sl b)), (2, .ptr 0 0 0), (3, .p (.sl (zM b.length (nn 0) P))), (4, .ptr 1 0 0), (5, .ptr 2 0 0), (6, i64 t.1)], t.2)) (fun t => t.1 ≤ b.length ∧ Lv D (lvF D.natAbs F (t.1 * b.length)) t.2) (fun t => b.length - t.1)
  ((0, _) : Nat × ar) rfl rfl ⟨aD _, rfl, rfl, by simp only [Nat.zero_mul]; rw [ye hDn]; rfl⟩ ?_
 rintro ⟨i, τ⟩ ⟨hi, hL⟩ ih
 simp only [] at hi hL ih ⊢
 by_cases hin : (i : Int) < b.length
 ·have hi' : i < b.length := by omega
  have w1 := wr1 (i := i) (by omega)
  simp only [SB, ak, aj, ↓reduceIte, reduceCtorEq, ai, ab, ah, ae, aa, af, d6, hin]
  refine aM (β := Nat × ar × CV) (fun t => ([(0, .p (.sl b)), (2, .ptr 0 0 0), (3, .p (.sl (zM b.length (nn 0) P))), (4, .ptr 1 0 0), (5, .ptr 2 0 0), (6, i64 i), (7, t.2.2), (8, i64 t.1)], t.2.1)) (fun t => t.1 ≤ nn 0 ∧ Lv D (lvF D.natAbs F (i * b.length)) t.2.1 ∧ GL t.2.1 4 t.2.2 (qF t.1 (tv D (P i)))) (fun t => nn 0 - t.1)
   ((0, τ, .nils) : Nat × ar × CV) rfl rfl ⟨aD _, hL, .nil⟩ ?_
  rintro ⟨u, σ, c⟩ ⟨hu, hM, hg⟩ ih1
  simp only [] at hu hM hg ih1 ⊢
  by_cases hun : (u : Int) < (nn 0 : Nat)
  ·have hu' : u < nn 0 := by omega
   have w2 := wr1 (i := u) (by omega)
   have k28 := (VBn.p200 (Nu.zi ((hP i u hi' hu').sz (by decide))) (Nu.zi (hDk.sz (by decide))) (by omega)).lift aX
   rw [show eZ (P i u) D = tv D (P i) u from rfl, bg (x := D)] at k28
   have hcap : ((qF u (tv D (P i))).length + [rq (tv D (P i) u)].length) * 64 ≤ 140737488355328 := by rw [d7]; simp; omega
   have hA := fun {rp rs d l dr ks e Q s x} => mw (rp := rp) (rs := rs) (d := d) (l := l) (dr := dr) (ks := ks) (e := e) (Q := Q) (s := s) (x := x) hg hcap
   have e1 := hM.h1
   have e1' : ∀ l, (σ ++ l)[1]? = some (.kblk 2 (cz D)) := fun l => hM.push.h1
   unfold cz at e1 e1'
   have hrl : ((rq (tv D (P i) u)).cells.length == 4) = true := by rw [cN]; rfl
   simp only [SB, ak, aj, ↓reduceIte, reduceCtorEq, ai, ab, ah, ae, aa, af, jo hi', b7, hun, dV hu', cf, e1, e1', kp2 k28, bV, hrl, true_and, hA, ue, d7, SN, w2]
   refine ih1 (u + 1, nd σ c ++ [.prow 4 [rq (tv D (P i) u)], .prow 4 (qF (u + 1) (tv D (P i)))], .own (σ.length + 1) 0 (u + 1)) _ ⟨by simp only []; omega, hM.nd hg, GL.nb d7.symm rfl⟩ (by simp only []; omega) ?_
   rfl
  ·obtain rfl : u = nn 0 := by omega
   obtain ⟨bb, rfl, gb, lb⟩ := VBn.GL.jr hg d7 hN0
   obtain ⟨dist, k29⟩ := hrow i (by omega)
   have b0 : bb ≠ 0 := by rintro rfl; rw [hM.h0] at gb; cases gb
   have b1 : bb ≠ 1 := by rintro rfl; rw [hM.h1] at gb; cases gb
   have b2 : bb ≠ 2 := by rintro rfl; rw [hM.h2] at gb; cases gb
   have hM' : ∀ l, Lv D (lvF D.natAbs F (i * b.length)) (σ.set bb .dead ++ l) := fun l => Lv.push ⟨by rw [bC b0]; exact hM.h0, by rw [bC b1]; exact hM.h1, by rw [bC b2]; exact hM.h2⟩
   have gA : ∀ x, (σ.set bb .dead ++ [x])[σ.length]? = some x := fun x => by rw [aC (by rw [ay]; exact av _), ay, eI]; rfl
   have gS : ∀ x y, (σ.set bb .dead ++ [x]).set σ.length y = σ.set bb .dead ++ [y] := fun x y => by rw [List.set_append_right _ _ (by rw [ay]; exact av _), ay, eI]; rfl
   simp only [SB, ak, aj, ↓reduceIte, reduceCtorEq, ai, ab, ah, ae, aa, af, jo hi', b7, hun, Dy k29 hg, cN, gA, gS, SN]
   refine aM (β := Nat × ar) (fun t => ([(0, .p (.sl b)), (2, .ptr 0 0 0), (3, .p (.sl (zM b.length (nn 0) P))), (4, .ptr 1 0 0), (5, .ptr 2 0 0), (6, i64 i), (9, .p (.sl (qF b.length (C i)))), (12, i64 t.1)], t.2)) (fun t => t.1 ≤ b.length ∧ Lv D (lvF D.natAbs F (i * b.length + t.1)) t.2) (fun t => b.length - t.1)
    ((0, _) : Nat × ar) rfl rfl ⟨aD _, hM' _⟩ ?_
   clear ih1 hM hg gb lb hM' gA gS
   rintro ⟨k, ρ⟩ ⟨hk, hK⟩ ih2
   simp only [] at hk hK ih2 ⊢
   by_cases hkn : (k : Int) < b.length
   ·have hk' : k < b.length := by omega
    have w3 := wr1 (i := k) (by omega)
    have hde := hden i k (by omega) (by omega)
    rw [← hn] at hde
    have hst := yf (D := D.natAbs) (f := F) (t := i * b.length + k) hDn
    rw [← hde] at hst
    have hlS1 := hlS (i * b.length + k)
    have hcd := hcs i k hk'
    have hqg := lI (n := b.length) (f := C i) hk'
    generalize hxx : C i k = x at *
    generalize hlL : lvF D.natAbs F (i * b.length + k) = L at *
    generalize hL2 : lvF D.natAbs F (i * b.length + k + 1) = L2 at *
    have e2 := hK.h2
    have e2' : ∀ l, (ρ ++ l)[2]? = some (.kblk 2 (cz (L : Int))) := fun l => hK.push.h2
    rw [uE] at e2
    have e2c : ∀ l, (ρ ++ l)[2]? = some (.kblk 2 [.p (.bool false), .p (.sl (lm (dgl L)))]) := fun l => by rw [e2', uE]
    have hl2 := (aq.1 e2).1
    have e2s : ∀ l y, (ρ ++ l).set 2 y = ρ.set 2 y ++ l := fun l y => cv hl2
    have lenL : (dgl L).length ≤ 400000000000 := by
     have := bE (k := fR) (show L < LB ^ fR from hlS1)
     rw [cH] at this; omega
    have szd : Sz (x.den : Int) := hcd.2.sz (by decide)
    have lenD : (dgl x.den).length ≤ 400000000000 := by
     have := bE (k := fR) (show x.den < LB ^ fR from szd)
     rw [cH] at this; omega
    have k30 := (VBn.p99 (aW L) (aW x.den) lenL lenD).lift aX
    rw [aZ, aZ] at k30
    have hgp : 0 < bZ L x.den := Nat.gcd_pos_of_pos_right _ x.den_pos
    have hgd : bZ L x.den ∣ x.den := Nat.gcd_dvd_right _ _
    have szg : Sz ((bZ L x.den : Nat) : Int) := szd.le (by rw [d9, d9]; exact Nat.le_of_dvd x.den_pos hgd)
    have szq : Sz ((x.den / bZ L x.den : Nat) : Int) := szd.le (by rw [d9, d9]; exact Nat.div_le_self ..)
    obtain ⟨q, r, hF, k31⟩ := fl100 (Nu.zi szd) (Nu.zi szg) (by omega)
    have hq : q = ((x.den / bZ L x.den : Nat) : Int) := by
     have hr : 0 ≤ r ∧ r < ((bZ L x.den : Nat) : Int) := by
      rcases hF.rest with h | h <;> omega
     have := (Int.ediv_emod_unique (a := (x.den : Int)) (b := ((bZ L x.den : Nat) : Int)) (q := q) (r := r) (by omega)).2 ⟨by rw [hF.eq, Int.mul_comm]; omega, hr.1, hr.2⟩
     rw [← this.1]; rfl
    subst hq
    have k32 := (VBn.p117 (Nu.zi hlS1) (Nu.zi szq)).lift aX
    rw [← Int.natCast_mul, hst, lK, lK, lK] at k32
    rw [lK, lK, lK, bg (x := r)] at k31
    generalize bZ L x.den = g at *
    generalize x.den / g = qq at *
    have sp2 : fp true 2 (rq x) 2 = some (.agg [.bool false, .sl (lm (dgl x.den))]) := by simp [fp, rq]
    simp only [SB, ak, aj, ↓reduceIte, reduceCtorEq, ai, ab, ah, ae, aa, af, d7, hkn, hqg, cN, sp2, e2, e2c, e2s, kp2 k30, kp2 k31, kp2 k32, SN, w3]
    refine ih2 (k + 1, ρ.set 2 (.kblk 2 [.p (.bool false), .p (.sl (lm (dgl L2)))]) ++ [.kblk 2 [.p (.bool false), .p (.sl (lm (dgl qq)))], .kblk 2 [.p (.bool (decide (r < 0) && decide (r.natAbs ≠ 0))), .p (.sl (lm (dgl r.natAbs)))]]) _ ⟨by simp only []; omega, ?_⟩ (by simp only []; omega) ?_
    ·rw [show i * b.length + (k + 1) = i * b.length + k + 1 from rfl, hL2]
     exact Lv.push ⟨by rw [bC (by decide)]; exact hK.h0, by rw [bC (by decide)]; exact hK.h1, by rw [bt hl2, uE]⟩
    ·rfl
   ·obtain rfl : k = b.length := by omega
    simp only [SB, ak, aj, ↓reduceIte, reduceCtorEq, ai, ab, ah, ae, aa, af, d7, hkn, w1]
    refine ih (i + 1, ρ) _ ⟨by simp only []; omega, by simp only []; rw [dX]; exact hK⟩ (by simp only []; omega) ?_
    rfl
 ·obtain rfl : i = b.length := by omega
  have e2 := hL.h2
  have e0 := hL.h0
  unfold cz at e2
  have eS : ∀ x, (τ.set 0 x)[0]? = some x := fun x => bt (aq.1 e0).1
  simp only [SB, ak, aj, ↓reduceIte, reduceCtorEq, ai, ab, ah, ae, aa, af, d6, hin, e2, e0, eS]
  rfl
end
end Go.Proofs.YtdieenbfdeaffabGreat.VDd
namespace Go.Proofs.YtdieenbfdeaffabGreat.VDd
open Go Vpi
open VBn hiding rp tab cV cj mixed sim Big
open Gs (V Dv Pos dI sk cI bU)
set_option maxRecDepth 100000
theorem rq11 : rp 11 = some f11 := rfl
theorem rq33 : rp 33 = some f33 := rfl
theorem p33 {x y : Int} (hx : Sz x) (hy : Sz y) (hd : Sz (x - y)) : Pu rp 33 [zi x, zi y] (.p (.int .i64 (x - y).sign)) := by
 have k1 := (VBn.p60 (Nu.zi hx) (Nu.zi hy)).lift aX
 have k2 := (VBn.p79 (Nu.zi hd)).lift aX
 rw [bg (x := x), bg (x := y)] at *
 rw [bg (x := x - y)] at k1 k2
 refine aY rq33 ?_
 simp only [f33, aJ, SB, ak, aj, ↓reduceIte, reduceCtorEq, ai, ab, ah, ae, aa, af, kp2 k1, kp1 k2]
 rfl
section
variable {b : List PV} {nn : Nat → Nat} {X : Nat → Nat → Int}
theorem yc (hb : MR b nn X) (hv : vE nn X b.length = 0) : Sk 217 (lvI b.length (gr (nn 0) X)) := by
 have h := kd hb hv
 have hbm := h.bs.m
 obtain ⟨n, hn⟩ : ∃ n, b.length = n + 1 := ⟨b.length - 1, by have := h.ne; omega⟩
 have hDk : Sk 217 (dI b.length (gr (nn 0) X)) := by
  rw [hn]; exact (kD (by omega) (pS h.bs hn)).mono (by omega)
 unfold lvI
 exact bQ (Int.natAbs_ediv_le_natAbs _ _) hDk
theorem p11 (hb : MR b nn X) (hlb : b.length ≤ 2000000) (hv : vE nn X b.length = 0) : Pu rp 11 [.sl b] (.p (.bool (decide (lvI b.length (gr (nn 0) X) = 1)))) := by
 have k10 := p10 hb hlb hv
 have hs := yc hb hv
 have k27 := (VBn.p66 (x := 1) (by decide) (by decide)).lift aX
 have h1 : Sk 217 1 := by unfold Sk; exact Nat.one_lt_pow (by decide) (by decide)
 have k33 := p33 (hs.sz (by decide)) (h1.sz (by decide)) ((hs.sub h1).sz (by decide))
 generalize lvI b.length (gr (nn 0) X) = L at *
 have e : ((L - 1).sign == 0) = decide (L = 1) := by
  rw [Bool.eq_iff_iff, beq_iff_eq, decide_eq_true_eq, Int.sign_eq_zero_iff_zero]
  omega
 rw [bg (x := L)] at k10 k33
 rw [show zi 1 = .agg [.bool false, .sl (lm (dgl 1))] from lK 1] at k27 k33
 generalize lm (dgl 1) = u at *
 refine aY rq11 ?_
 simp only [f11, aJ, SB, ak, aj, ↓reduceIte, reduceCtorEq, ai, ab, ah, ae, aa, af, kp1 k10, kp1 k27, kp2 k33, e]
 rfl
end
end Go.Proofs.YtdieenbfdeaffabGreat.VDd
namespace Go.Proofs.YtdieenbfdeaffabGreat.VDd
open Go Vpi
open VBn hiding rp tab cV cj mixed sim Big
set_option maxRecDepth 100000
def DC (r : List PV) : Prop := r.length ≤ 2000000 ∧ ∀ j, j < r.length → ∃ p x, r[j]? = some p ∧ Nu p x
def Cw (b : List PV) : Prop := b.length ≤ 2000000 ∧ ∀ i, i < b.length → ∃ r, b[i]? = some (.sl r) ∧ DC r
theorem Cw.index {b : List PV} (h : Cw b) : ∃ nn X, MR b nn X := by
 have hx : ∀ i j : Nat, ∃ x : Int, ∀ r p, b[i]? = some (.sl r) → r[j]? = some p → Nu p x := by
  intro i j
  by_cases hi : i < b.length
  ·obtain ⟨r, h1, h2⟩ := h.2 i hi
   by_cases hj : j < r.length
   ·obtain ⟨p, x, h3, h4⟩ := h2.2 j hj
    refine ⟨x, fun r' p' g1 g2 => ?_⟩
    rw [h1] at g1
    cases g1
    rw [h3] at g2
    cases g2
    exact h4
   ·refine ⟨0, fun r' p' g1 g2 => ?_⟩
    rw [h1] at g1
    cases g1
    rw [aG (by omega)] at g2
    cases g2
  ·refine ⟨0, fun r' p' g1 g2 => ?_⟩
   rw [aG (by omega)] at g1
   cases g1
 have hn : ∀ i : Nat, ∃ k : Nat, ∀ r, b[i]? = some (.sl r) → r.length = k := by
  intro i
  by_cases hi : i < b.length
  ·obtain ⟨r, h1, h2⟩ := h.2 i hi
   exact ⟨r.length, fun r' g => by rw [h1] at g; cases g; rfl⟩
  ·exact ⟨0, fun r' g => by rw [aG (by omega)] at g; cases g⟩
 refine ⟨fun i => Classical.choose (hn i), fun i j => Classical.choose (hx i j), fun i hi => ?_⟩
 obtain ⟨r, h1, h2⟩ := h.2 i hi
 have hl := Classical.choose_spec (hn i) r h1
 refine ⟨r, h1, hl, ?_, fun j hj => ?_⟩
 ·simp only []
  rw [← hl]; exact h2.1
 ·obtain ⟨p, x, h3, h4⟩ := h2.2 j hj
  exact ⟨p, h3, Classical.choose_spec (hx i j) r p h1 h3⟩
theorem BZ {L n : Nat} {qs : List PV} (hL : L ≤ 1048576) (h : jy Tryz.prog L (n + 3) 25 qs) : ∃ x c, Nu (.agg qs) x ∧ c + 8 ≤ fR ∧ x.natAbs < LB ^ c := by
 obtain ⟨a, r, rfl, ha, c, r, rfl, hc, rfl⟩ := rY Tryz.underlying25 h
 obtain ⟨s, rfl⟩ := v7 Tryz.underlying4 ha
 obtain ⟨us, rfl, hl, hu⟩ := lE Tryz.underlying23 hc
 have hlm : ∃ l : List Nat, us = lm l ∧ Lim l := by
  clear hl ha hc h
  induction us with
  | nil => exact ⟨[], rfl, fun x hx => by cases hx⟩
  | cons u us ih =>
    obtain ⟨l, rfl, h2⟩ := ih fun y hy => hu y (dK _ hy)
    obtain ⟨q, rfl, hq⟩ := hu u (dj ..)
    obtain ⟨i, rfl, hw⟩ := xu Tryz.underlying56 hq
    have hw2 : (0 : Int) ≤ i ∧ i ≤ 4294967295 := by
     simp only [Lit.wf, aA, decide_eq_true_eq] at hw
     exact hw
    refine ⟨i.toNat :: l, ?_, ?_⟩
    ·have : fX (jT Tryz.prog 56) [PV.int .u32 i] = .int .u32 i := by
      have e : jT Tryz.prog 56 = false := by unfold jT; rw [Tryz.underlying56]
      rw [e]; rfl
     rw [this, qR, Int.toNat_of_nonneg hw2.1]
    ·intro x hx
     rcases List.mem_cons.1 hx with rfl | hx
     ·unfold LB; omega
     ·exact h2 x hx
 obtain ⟨l, rfl, hlim⟩ := hlm
 rw [aT] at hl
 refine ⟨iv s l, l.length, ⟨s, l, ?_, hlim, ?_, rfl⟩, ?_, ?_⟩
 ·simp
 ·rw [cH]; omega
 ·rw [cH]; omega
 ·rw [iM]
  exact bR hlim
theorem B4 {L n : Nat} {q : PV} (hL : L ≤ 1048576) (h : jy Tryz.prog L (n + 5) 22 [q]) : ∃ b, q = .sl b ∧ Cw b := by
 obtain ⟨b, hq, hl, hb⟩ := lE Tryz.underlying22 h
 cases hq
 refine ⟨b, rfl, by omega, fun i hi => ?_⟩
 obtain ⟨qs, h1, h2⟩ := hb b[i] (List.getElem_mem _)
 obtain ⟨r, rfl, hrl, hr⟩ := lE Tryz.underlying45 h2
 have e1 : fX (jT Tryz.prog 45) [PV.sl r] = .sl r := by
  have e : jT Tryz.prog 45 = false := by unfold jT; rw [Tryz.underlying45]
  rw [e]; rfl
 rw [e1] at h1
 refine ⟨r, by rw [← h1]; simp, by omega, fun j hj => ?_⟩
 obtain ⟨qs, k1, k2⟩ := hr r[j] (List.getElem_mem _)
 obtain ⟨x, _, hx, _⟩ := BZ hL k2
 have e2 : fX (jT Tryz.prog 25) qs = .agg qs := by
  have e : jT Tryz.prog 25 = true := by unfold jT; rw [Tryz.underlying25]
  rw [e]; rfl
 rw [e2] at k1
 exact ⟨.agg qs, x, by rw [← k1]; simp, hx⟩
end Go.Proofs.YtdieenbfdeaffabGreat.VDd
namespace Go.Proofs.YtdieenbfdeaffabGreat.VDa
open Go Vpi
open VBn hiding rp tab cV cj mixed sim Big
open VDd (lvI)
set_option maxRecDepth 100000
theorem rq3 : rp 3 = some f3 := rfl
section
variable {b : List PV} {nn : Nat → Nat} {X : Nat → Nat → Int}
theorem p3 (hb : MR b nn X) (hlb : b.length ≤ 2000000) : Pu rp 3 [.sl b] (.p (.bool true)) := by
 have k7 := (VBn.p61 hb hlb).lift bn
 have k9 := VDd.p48.lift dd
 refine aY rq3 ?_
 by_cases hv : vE nn X b.length = 0
 ·have k4 := (VDd.p4 hb hlb hv).lift dd
  have k5 := p5 hb hlb hv
  have k6 := (VDd.p6 hb hlb hv).lift dd
  have k10 := (VDd.p10 hb hlb hv).lift dd
  have k11 := (VDd.p11 hb hlb hv).lift dd
  have k12 := (VDd.Dw hb hlb hv).lift dd
  have k8 := (VDd.CW ((VDd.yc hb hv).sz (by decide))).lift dd
  rw [hv] at k7
  generalize lvI b.length (gr (nn 0) X) = L at *
  generalize VDd.ev b.length (fun i => eh (X i) (X i) (nn 0)) = v at *
  rw [bg (x := L)] at k4 k10 k8
  have e0 : ((0 : Int) != 0) = false := rfl
  have e1 : ((0 : Int) == 0) = true := rfl
  generalize decide (L = 1) = s at *
  have es : (s == s) = true := by simp
  have ev : (v == v) = true := by simp
  simp only [f3, aJ, SB, ak, aj, ↓reduceIte, reduceCtorEq, ai, ab, ah, ae, aa, af, kp1 k4, kp1 k5, kp1 k6, kp1 k7, kp1 k10, kp1 k11, kp1 k12, kp2 k8, kp0 k9, e0, e1, es, ev]
  rfl
 ·have k4 := (VDd.e4 hb hlb hv).lift dd
  have k5 := e5 hb hlb hv
  have k6 := (VDd.e6 hb hlb hv).lift dd
  have e0 : (vE nn X b.length != 0) = true := by simp [hv]
  have e1 : (vE nn X b.length == vE nn X b.length) = true := by simp
  have k8 : Pu rp 8 [.agg [.bool false, .sl []], .agg [.bool false, .sl []]] (.p (.bool true)) := by
   have h := (VDd.CW (Sz.small (x := 0) (by decide))).lift dd
   rw [lV] at h
   exact h
  simp only [f3, aJ, SB, ak, aj, ↓reduceIte, reduceCtorEq, ai, ab, ah, ae, aa, af, kp1 k4, kp1 k5, kp1 k6, kp1 k7, kp0 k9, e0, e1, Bool.not_false, j1 k8 (show ig [CV.p (.agg [.bool false, .sl []]), CV.agg [CV.p (.bool false), CV.nils]] = some [.agg [.bool false, .sl []], .agg [.bool false, .sl []]] from rfl)]
  rfl
end
theorem row3 (q : PV) (w : jy Tryz.prog 1048576 8 22 [q]) : Pu rp 3 [q] (.p (.bool true)) := by
 obtain ⟨b, rfl, hb⟩ := VDd.B4 (av _) w
 obtain ⟨nn, X, hX⟩ := hb.index
 exact p3 hX hb.1
end Go.Proofs.YtdieenbfdeaffabGreat.VDa
namespace Go.Proofs.YtdieenbfdeaffabGreat.Rbulk
open Go
theorem one_le {H : Type} (d : DataW H) : 1 ≤ Rows.uptoBulk d := by
 cases d with
 | lit l => cases l <;> simp [Rows.uptoBulk]
 | _ => simp [Rows.uptoBulk]
theorem qM {H : Type} {d : DataW H} {l : List (DataW H)} (h : d ∈ l) : Rows.uptoBulk d ≤ Rows.uptoBulkAll l := by
 induction l with
 | nil => cases h
 | cons x r ih =>
   simp only [Rows.uptoBulkAll]
   rcases List.mem_cons.1 h with rfl | h
   ·omega
   ·have := ih h; omega
theorem length_le {H : Type} (l : List (DataW H)) : l.length ≤ Rows.uptoBulkAll l := by
 induction l with
 | nil => simp [Rows.uptoBulkAll]
 | cons x r ih => have := one_le x; simp only [Rows.uptoBulkAll, dZ]; omega
theorem mus {H : Type} (es sp : List (DataW H)) : es.length ≤ Rows.uptoBulk (.slice es sp) ∧ ∀ d ∈ es, Rows.uptoBulk d ≤ Rows.uptoBulk (.slice es sp) := by
 have h1 := length_le es
 simp only [Rows.uptoBulk]
 refine ⟨by omega, fun d hd => ?_⟩
 have := qM hd
 omega
theorem mua {H : Type} (ps : List (DataW H)) : ∀ d ∈ ps, Rows.uptoBulk d ≤ Rows.uptoBulk (.agg ps) := by
 intro d hd
 have := qM hd
 simp only [Rows.uptoBulk]
 omega
theorem each {H : Type} {l : List (DataW H)} (hk : Rows.uptoSmall H l = true) {d : DataW H} (h : d ∈ l) : Rows.uptoBulk d ≤ 1048576 :=
 a9 (qM h) (of_decide_eq_true hk)
end Go.Proofs.YtdieenbfdeaffabGreat.Rbulk

