/- mat.each with pure rows, mat.Gram. No condition. -/
import Derived.Test.YtdieenbfdeaffaaGreatZd1

namespace Go.Proofs.YtdieenbfdeaffaaGreat.VDd
open Go Vpi
open VBn hiding rp tab rp_ok all_ok mixed sim Big
set_option maxRecDepth 100000
set_option linter.unusedSimpArgs false
set_option linter.unusedVariables false
open Gs (Pv dI swp sk cI)
theorem rp190 : rp 92 = some f92 := rfl
theorem rp191 : rp 93 = some f93 := rfl
theorem rp189 : rp 91 = some f91 := rfl
theorem rp165 : rp 54 = some f54 := rfl
theorem zM_sucP {m n : Nat} {W : Nat → Nat → Int} : (zM m n W).map CV.p ++ [.p (.sl (zF n (W m)))] = (zM (m + 1) n W).map CV.p := by rw [← zM_suc]; simp
theorem frzL_p {σ : Store} : ∀ {l : List PV}, frzL σ (l.map .p) = some l
  | [] => rfl
  | x :: l => by
    simp only [List.map_cons, frzL, frz1]
    rw [frzL_p]; rfl
theorem killL_p {σ : Store} : ∀ {l : List PV}, killL σ (l.map .p) = σ
  | [] => rfl
  | x :: l => by
    show killL (kill1 σ (.p x)) (l.map .p) = _
    rw [show kill1 σ (.p x) = σ from rfl, killL_p]
theorem own0_p : ∀ {l : List PV}, (l.map CV.p).flatMap own0 = []
  | [] => rfl
  | x :: l => by rw [List.map_cons, List.flatMap_cons, own0_p]; rfl
theorem zM_isSl {m n : Nat} {W : Nat → Nat → Int} : (zM m n W).all isSl = true := by
  rw [List.all_eq_true]
  intro x hx
  obtain ⟨i, _, rfl⟩ := List.mem_map.1 hx
  rfl
theorem below_ps {l : List PV} {m : Nat} : ((l.map CV.p).all (below1 m)) = true := by
  rw [List.all_eq_true]
  intro x hx
  obtain ⟨y, _, rfl⟩ := List.mem_map.1 hx
  rfl
theorem n114p {b : List PV} {g : Nat} {cap : List CV} {m n : Nat} {W : Nat → Nat → Int} {σ : Store} (hw : Wf σ) (hbl : b.length = m) (hm : m ≤ 2000000)
    (hg : ∀ i, i < m → ∃ q, b[i]? = some (.sl q) ∧ ∀ (ρ : Store), Pre σ ρ → Wf ρ → ∀ {K : CV → Store → Prop}, (∀ ρ', Pre ρ ρ' → Wf ρ' → K (.p (.sl (zF n (W i)))) ρ') → Rn rp g (.p (.sl q) :: cap) ρ K) {Q : CV → Store → Prop}
    (hQ : ∀ ρ k, Pre σ ρ → Wf ρ → σ.length ≤ k → ρ[k]? = some (.kblk 1 ((zM m n W).map .p)) → Q (.own k 0 m) ρ) : Rn rp 90 [.p (.sl b), .fn g cap] σ Q := by
  rw [rn_of rp114]
  have m1 : ((24 : Nat) : Int) * (b.length : Int) ≤ 281474976710656 := by omega
  have m2 : (b.length : Int) ≤ 9223372036854775807 := by omega
  have i0 : Int.toNat 0 = 0 := rfl
  simp only [f90, args0, SA, setCells, Int.reduceLE, Int.reduceLT, ↓reduceIte, reduceCtorEq, Nat.reduceLT, Nat.reduceEqDiff, Nat.reduceAdd, Nat.reduceMul, Nat.reduceLeDiff, Nat.reduceBEq, Int.natCast_nonneg, m1, m2, i0, Int.le_refl]
  refine loop_rule (β := Nat × Store × Nat) (fun t => ([(1, .fn g cap), (5, .own t.2.2 0 t.1), (11, .p (.sl b)), (12, i64 b.length), (13, i64 t.1)], t.2.1))
    (fun t => t.1 ≤ b.length ∧ Pre σ t.2.1 ∧ Wf t.2.1 ∧ σ.length ≤ t.2.2 ∧ t.2.1[t.2.2]? = some (.kblk 1 ((zM t.1 n W).map .p))) (fun t => b.length - t.1) ((0, σ ++ [.kblk 1 []], σ.length) : Nat × Store × Nat) rfl rfl
    ⟨Nat.zero_le _, Pre.refl.push, hw.push rfl, Nat.le_refl _, by rw [get_app0]; rfl⟩ ?_
  rintro ⟨i, ρ, k⟩ ⟨hi, hp, hwf, hb, hgl⟩ ih
  simp only [] at hi hp hwf hb hgl ih ⊢
  have hcl : ((zM i n W).map CV.p).length = i := by rw [List.length_map, zM_len]
  by_cases hin : (i : Int) < b.length
  · obtain ⟨q, h1, h2⟩ := hg i (by omega)
    have w1 : IntKind.i64.wrap ((i : Int) + 1) = ((i + 1 : Nat) : Int) := by rw [IntWalk.i64_in _ (by omega)]; omega
    simp only [SA, setCells, Int.reduceLE, Int.reduceLT, ↓reduceIte, reduceCtorEq, Nat.reduceLT, Nat.reduceEqDiff, Nat.reduceAdd, Nat.reduceMul, Nat.reduceLeDiff, Nat.reduceBEq, hin, h1, Int.natCast_nonneg, Int.toNat_natCast]
    refine kc_keep' (h2 ρ hp hwf fun ρ1 hp1 hw1 => ?_)
    have hk1 : ρ1[k]? = some (.kblk 1 ((zM i n W).map .p)) := by rw [hp1.get k (List.getElem?_eq_some_iff.1 hgl).1]; exact hgl
    have hc : (((zM i n W).map CV.p).length + [CV.p (.sl (zF n (W i)))].length) * 24 ≤ 140737488355328 := by rw [hcl]; simp; omega
    have hA := fun {rp rs base d l dr ks e Q s x} => r_appk_1 (rp := rp) (rs := rs) (base := base) (d := d) (l := l) (dr := dr) (ks := ks) (e := e) (Q := Q) (a := 0) (s := s) (x := x) (xs := [.p (.sl (zF n (W i)))]) hk1 hcl.symm (Nat.succ_pos 0) hc
    have hcell : cellL [CV.p (.sl (zF n (W i)))] = some [CV.p (.sl (zF n (W i)))] := rfl
    simp only [SA, setCells, Int.reduceLE, Int.reduceLT, ↓reduceIte, reduceCtorEq, Nat.reduceLT, Nat.reduceEqDiff, Nat.reduceAdd, Nat.reduceMul, Nat.reduceLeDiff, Nat.reduceBEq, hcell, hA, zM_sucP, hcl, w1]
    refine ih (i + 1, ρ1.set k .dead ++ [.kblk 1 [.p (.sl (zF n (W i)))], .kblk 1 ((zM (i + 1) n W).map .p)], ρ1.length + 1) _ ⟨by simp only []; omega, ((hp.trans hp1).set hb).push, ?_, ?_, ?_⟩ (by simp only []; omega) ?_
    · have hz := (hw1.set (b := k) (x := .dead) rfl).push (x := .kblk 1 [.p (.sl (zF n (W i)))]) rfl
      have hz2 := hz.push (x := .kblk 1 ((zM (i + 1) n W).map .p)) (by simp only [blkBelow]; exact below_ps)
      simpa [List.append_assoc] using hz2
    · simp only []; exact Nat.le_trans (Nat.le_trans hp.len hp1.len) (Nat.le_add_right _ _)
    · simp only []
      rw [show ρ1.length + 1 = (ρ1.set k Blk.dead).length + 1 by rw [List.length_set], get_app]; rfl
    · rfl
  · obtain rfl : i = b.length := by omega
    simp only [SA, setCells, Int.reduceLE, Int.reduceLT, ↓reduceIte, reduceCtorEq, Nat.reduceLT, Nat.reduceEqDiff, Nat.reduceAdd, Nat.reduceMul, Nat.reduceLeDiff, Nat.reduceBEq, hin]
    subst hbl
    exact hQ ρ k hp hwf hb hgl
theorem n190 {b : List PV} {g : Nat} {cap : List CV} {m : Nat} {y : Nat → Int} {σ : Store} (hw : Wf σ) (hbl : b.length = m) (hm : m ≤ 2000000)
    (hg : ∀ i, i < m → ∃ q, b[i]? = some (.sl q) ∧ Does σ g cap (.sl q) (y i)) {Q : CV → Store → Prop}
    (hQ : ∀ ρ c, Pre σ ρ → Wf ρ → σ.length ≤ c → ρ[c]? = some (.prow 2 (zF m y)) → Q (.own c 0 m) ρ) : Rn rp 92 [.p (.sl b), .fn g cap] σ Q := by
  rw [rn_of rp190]
  have m1 : ((32 : Nat) : Int) * (b.length : Int) ≤ 281474976710656 := by omega
  have m2 : (b.length : Int) ≤ 9223372036854775807 := by omega
  have i0 : Int.toNat 0 = 0 := rfl
  simp only [f92, args0, SA, setCells, Int.reduceLE, Int.reduceLT, ↓reduceIte, reduceCtorEq, Nat.reduceLT, Nat.reduceEqDiff, Nat.reduceAdd, Nat.reduceMul, Nat.reduceLeDiff, Nat.reduceBEq, Int.natCast_nonneg, m1, m2, i0, Int.le_refl]
  refine loop_rule (β := Nat × Store × Nat) (fun t => ([(1, .fn g cap), (5, .own t.2.2 0 t.1), (11, .p (.sl b)), (12, i64 b.length), (13, i64 t.1)], t.2.1))
    (fun t => t.1 ≤ b.length ∧ Pre σ t.2.1 ∧ Wf t.2.1 ∧ σ.length ≤ t.2.2 ∧ t.2.1[t.2.2]? = some (.prow 2 (zF t.1 y))) (fun t => b.length - t.1) ((0, σ ++ [.prow 2 []], σ.length) : Nat × Store × Nat) rfl rfl
    ⟨Nat.zero_le _, Pre.refl.push, hw.push rfl, Nat.le_refl _, by rw [get_app0]; rfl⟩ ?_
  rintro ⟨i, ρ, k⟩ ⟨hi, hp, hwf, hb, hgl⟩ ih
  simp only [] at hi hp hwf hb hgl ih ⊢
  by_cases hin : (i : Int) < b.length
  · obtain ⟨q, h1, hd⟩ := hg i (by omega)
    have w1 : IntKind.i64.wrap ((i : Int) + 1) = ((i + 1 : Nat) : Int) := by rw [IntWalk.i64_in _ (by omega)]; omega
    have hG : GL ρ 2 (.own k 0 i) (zF i y) := .own hgl zF_len.symm
    have hc : ((zF i y).length + [zi (y i)].length) * 32 ≤ 140737488355328 := by rw [zF_len]; simp; omega
    have hd' := fun {rs base d l dr ks e Q} => hd ρ hp (rs := rs) (base := base) (d := d) (l := l) (dr := dr) (ks := ks) (e := e) (Q := Q)
    simp only [SA, setCells, Int.reduceLE, Int.reduceLT, ↓reduceIte, reduceCtorEq, Nat.reduceLT, Nat.reduceEqDiff, Nat.reduceAdd, Nat.reduceMul, Nat.reduceLeDiff, Nat.reduceBEq, hin, h1, Int.natCast_nonneg, Int.toNat_natCast, hd', r_app hG hc, zF_suc, zF_len, w1, nd]
    refine ih (i + 1, ρ.set k .dead ++ [.prow 2 [zi (y i)], .prow 2 (zF (i + 1) y)], ρ.length + 1) _ ⟨by simp only []; omega, (hp.set hb).push, ?_, ?_, ?_⟩ (by simp only []; omega) ?_
    · have h1 := ((hwf.set (b := k) (x := .dead) rfl).push (x := .prow 2 [zi (y i)]) rfl).push (x := .prow 2 (zF (i + 1) y)) rfl
      simpa [List.append_assoc] using h1
    · simp only []; exact Nat.le_trans hp.len (Nat.le_add_right _ _)
    · simp only []
      rw [show ρ.length + 1 = (ρ.set k Blk.dead).length + 1 by rw [List.length_set], get_app]; rfl
    · rfl
  · obtain rfl : i = b.length := by omega
    simp only [SA, setCells, Int.reduceLE, Int.reduceLT, ↓reduceIte, reduceCtorEq, Nat.reduceLT, Nat.reduceEqDiff, Nat.reduceAdd, Nat.reduceMul, Nat.reduceLeDiff, Nat.reduceBEq, hin]
    subst hbl
    exact hQ ρ k hp hwf hb hgl
/-! ### Gram -/
theorem n191 {r s : List PV} {d : Int} (h : Pu rp 61 [.sl r, .sl s] (.p (zi d))) : Rn rp 93 [.p (.sl s), .ptr 0 0 0] [.kblk 1 [.p (.sl r)]] fun v τ => v = .p (zi d) ∧ τ[0]? = some (.kblk 1 [.p (.sl r)]) := by
  rw [rn_of rp191]
  simp only [f93, args0, SA, setCells, Int.reduceLE, Int.reduceLT, ↓reduceIte, reduceCtorEq, Nat.reduceLT, Nat.reduceEqDiff, Nat.reduceAdd, Nat.reduceMul, Nat.reduceLeDiff, Nat.reduceBEq, kp2 h]
  rfl
section
variable {b : List PV} {N : Nat} {X : Nat → Nat → Int}
theorem Bs.mr (h : Bs b N X) : MR b (fun _ => N) X := fun i hi => by
  obtain ⟨r, h1, h2, h3⟩ := h.row i hi
  have := h.n
  exact ⟨r, h1, h2, by show N ≤ 2000000; omega, h3⟩
theorem Bs.b93 (h : Bs b N X) (h0 : b.length ≠ 0) : Pu rp 89 [.sl b] (.tup [.p (.int .i64 b.length), .p (.int .i64 N), .p (.int .i64 0)]) :=
  ((VBn.p93 (Bs.mr h) h0 (by have := h.m; omega)).2 (fun ⟨i, h1, h2⟩ => h2 rfl)).lift base_le
theorem p165 (h : Bs b N X) (h0 : b.length ≠ 0) : Pu rp 54 [.sl b] (.tup [.p (.sl (zM b.length b.length (gr N X))), .p (.int .i64 0)]) := by
  have k93 := Bs.b93 h h0
  have hm := h.m
  have hN := h.n
  refine pu_of rp165 ?_
  simp only [f54, args0, SA, setCells, Int.reduceLE, Int.reduceLT, ↓reduceIte, reduceCtorEq, Nat.reduceLT, Nat.reduceEqDiff, Nat.reduceAdd, Nat.reduceMul, Nat.reduceLeDiff, Nat.reduceBEq, kp1 k93, bne_self_eq_false]
  refine kc_keep' (n114p (σ := [.kblk 1 [.p (.sl b)]]) (m := b.length) (n := b.length) (W := gr N X) (Wf.nil.push (x := .kblk 1 [.p (.sl b)]) rfl) rfl (by omega) (fun i hi => ?_) fun ρ k hp hwf hk hgk => ?_)
  · obtain ⟨r, h1, h2, h3⟩ := h.row i hi
    refine ⟨r, h1, fun ρ hpre hwf K hK => ?_⟩
    rw [rn_of rp189]
    have hb0 : ρ[0]? = some (.kblk 1 [.p (.sl b)]) := hpre.get 0 (Nat.lt_succ_self _)
    have e0 : ∀ l, (ρ ++ l)[0]? = some (.kblk 1 [.p (.sl b)]) := fun l => by rw [get_left (List.getElem?_eq_some_iff.1 hb0).1]; exact hb0
    simp only [f91, args0, SA, setCells, Int.reduceLE, Int.reduceLT, ↓reduceIte, reduceCtorEq, Nat.reduceLT, Nat.reduceEqDiff, Nat.reduceAdd, Nat.reduceMul, Nat.reduceLeDiff, Nat.reduceBEq, e0]
    refine kc_full' (n190 (σ := ρ ++ [.kblk 1 [.p (.sl r)]]) (m := b.length) (y := gr N X i) (hwf.push rfl) rfl (by omega) (fun j hj => ?_) fun ρ2 c hp2 hw2 hc hgc => ?_)
    · obtain ⟨s, g1, g2, g3⟩ := h.row j hj
      refine ⟨s, g1, fun ρ3 hp3 rs base d l dr ks e Q => ?_⟩
      have hb3 : ρ3[ρ.length]? = some (.kblk 1 [.p (.sl r)]) := by rw [hp3.get _ (by simp)]; exact get_app0
      have k112 := (VBn.p112 h3 g3 (by rw [h2, g2]) (by omega) fun t ht => ⟨h.sz i t hi (by omega), h.sz j t hj (by omega)⟩).lift base_le
      rw [h2] at k112
      rw [kc_cell (b := ρ.length) (al := [.p (.sl s), .ptr 0 0 0]) (by rfl) hb3 (by simp [cellArgs, cellArg]) rfl (n191 k112) rfl, set_same hb3]
      rfl
    · rw [hp2.take]
      refine ⟨(hwf.push rfl).all, _, back_ge hgc zF_len.symm hc, ?_⟩
      simp only [SA, setCells, Int.reduceLE, Int.reduceLT, ↓reduceIte, reduceCtorEq, Nat.reduceLT, Nat.reduceEqDiff, Nat.reduceAdd, Nat.reduceMul, Nat.reduceLeDiff, Nat.reduceBEq]
      exact hK _ Pre.refl.push (hwf.push rfl)
  · have hlk := (List.getElem?_eq_some_iff.1 hgk).1
    simp only [SA, setCells, Int.reduceLE, Int.reduceLT, ↓reduceIte, reduceCtorEq, Nat.reduceLT, Nat.reduceEqDiff, Nat.reduceAdd, Nat.reduceMul, Nat.reduceLeDiff, Nat.reduceBEq]
    rw [ex_frzk (b := k) (o := 0) (n := b.length) rfl hgk frzL_p zM_isSl (by rw [own0_p]; rfl), killL_p]
    have hg2 : (ρ.set k (.prow 1 (zM b.length b.length (gr N X))))[k]? = some (.prow 1 (zM b.length b.length (gr N X))) := get_self hlk
    simp only [SA, setCells, Int.reduceLE, Int.reduceLT, ↓reduceIte, reduceCtorEq, Nat.reduceLT, Nat.reduceEqDiff, Nat.reduceAdd, Nat.reduceMul, Nat.reduceLeDiff, Nat.reduceBEq]
    exact back_t2 (GL.own hg2 zM_len.symm).back1 back1_p
end
end Go.Proofs.YtdieenbfdeaffaaGreat.VDd
