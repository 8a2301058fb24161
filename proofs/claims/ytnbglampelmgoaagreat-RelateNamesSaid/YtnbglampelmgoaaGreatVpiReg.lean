/- The verified interpreter, part 14: one operation with its guard, and regions in the order of the text. -/
import Derived.Test.YtnbglampelmgoaaGreatVpiCall
import Derived.Tactics
namespace Go.Proofs.YtnbglampelmgoaaGreat.Vpi
open Go
set_option linter.unusedVariables false
set_option linter.unusedSimpArgs false
set_option maxRecDepth 4000

/-- what holds behind some operations -/
def After (w : World) (G : Nat → Prop) (ρ : List Loc) (a : Act) (e' : Env) (σ' : Store) (K : Act → World → Prop) : Prop :=
  ∀ a' w' G' ρ', St w' G' ρ' σ' → Ext w G ρ w' G' ρ' → RepE w' G' ρ' e' a'.tmps → a'.defers = a.defers → a'.tmps.size = a.tmps.size → K a' w'

section
variable {P : Program} {ops : Array Oper} {Q : Exit → Act → World → Prop} {w : World} {G : Nat → Prop} {ρ : List Loc} {σ : Store} {e : Env} {a : Act} {base : Nat} {run : Caller} {n : Nat}

theorem okOp_call {P : Program} {op : Op} {k : CK} {f : Nat} {args : List Opd} (h : okOp P op (.call k f args) = true) : ∃ c, op = .call c ∧ c.callee = .value (.func f) ∧ okOpds c.args.toList args = true := by
  cases op <;> simp only [okOp, Bool.false_eq_true] at h
  rename_i c
  simp only [okCall] at h
  split at h
  · rename_i g hg
    simp only [Bool.and_eq_true, beq_iff_eq] at h
    exact ⟨c, rfl, by rw [hg, h.1], h.2⟩
  · cases h

theorem okOp_callv {P : Program} {op : Op} {k : CK} {x : Opd} {args : List Opd} (h : okOp P op (.callv k x args) = true) : ∃ c y, op = .call c ∧ c.callee = .value y ∧ okOpd y x = true ∧ okOpds c.args.toList args = true := by
  cases op <;> simp only [okOp, Bool.false_eq_true] at h
  rename_i c
  simp only [okCall] at h
  split at h
  · rename_i y hy
    simp only [Bool.and_eq_true] at h
    exact ⟨c, y, rfl, hy, h.1, h.2⟩
  · cases h

theorem run_call {o : Oper} {c : Call} {f : Nat} {fi cap : List Value} {y : Operand} (ho : o.op = .call c) (hc : c.callee = .value y) (hy : a.eval y = .func (.func f) fi.toArray cap.toArray) (hok : okFn P f = true) :
    (execOp a.eval o).run P w = .ok (.enter f (fi ++ c.args.toList.map a.eval ++ cap).toArray) w := by
  unfold okFn at hok
  split at hok
  · rename_i fn hfn
    simp only [Bool.and_eq_true, bne_iff_ne, ne_eq] at hok
    have hb : fn.body.isNone = false := by
      cases hbb : fn.body with
      | none => rw [hbb] at hok; simp at hok
      | some _ => rfl
    have hb2 : ¬ fn.body = none := by intro h; rw [h] at hb; cases hb
    have hname : (fn.name == "runtime.NumGoroutine") = false := by simpa using hok.1
    have hname2 : ¬ fn.name = "runtime.NumGoroutine" := hok.1
    have hargs : (fi.toArray ++ (c.args.map a.eval ++ cap.toArray)) = (fi ++ (c.args.toList.map a.eval ++ cap)).toArray := by
      apply Array.ext'; simp
    simp [execOp, ho, resolve, hc, hy, Deferred.ofValue, invoke, callFunc, hfn, hname, hb, hb2, hname2, hargs]
  · cases hok

theorem after_value {o : Oper} {l : LOp} {v : Value} {c : CV} {σ' : Store} {w' : World} {G' : Nat → Prop} {ρ' : List Loc} {K : Act → World → Prop} (hs : St w G ρ σ) (he : RepE w G ρ e a.tmps) (hd : o.dst = l.d) (hdn : ∀ t, o.dst = some t → t < a.tmps.size)
    (s1 : St w' G' ρ' σ') (e1 : Ext w G ρ w' G' ρ') (r1 : RepC w' G' ρ' c v) (hK : After w G ρ a (sto l.d c e) σ' K) : K (a.put o.dst v) w' := by
  refine hK _ w' G' ρ' s1 e1 ?_ (put_defers _ _ _) (put_size _ _ _)
  have := (he.ext e1 hs).sto o.dst hdn r1
  rw [← hd]; exact this

/-- ONE OPERATION with its guard. -/
theorem sim_evL {o : Oper} {l : LOp} {i : Nat} {e' : Env} {σ' : Store} {K : Act → World → Prop} (hc : CallSim P run) (hs : St w G ρ σ) (he : RepE w G ρ e a.tmps) (hn : n ≤ a.tmps.size) (hi : ops[i]? = some o) (hok : okLOp P ops n o l = true)
    (h : evL run base l e σ = some (e', σ')) (hK : After w G ρ a e' σ' K) : wpOp P ops Q i K a w := by
  simp only [okLOp, Bool.and_eq_true] at hok
  obtain ⟨⟨h1, h2⟩, h3⟩ := hok
  have hd : o.dst = l.d ∧ (∀ t, o.dst = some t → t < a.tmps.size) ∧ (isStore o.op = true → o.dst = none) := by
    split at h2
    · rename_i x y; exact ⟨by rw [x, y], by simp [x], fun _ => x⟩
    · rename_i x y
      simp only [Bool.and_eq_true, beq_iff_eq, decide_eq_true_eq, Bool.not_eq_true'] at h2
      obtain ⟨⟨rfl, h4⟩, h5⟩ := h2
      exact ⟨by rw [x, y], by intro t ht; rw [x] at ht; cases ht; exact Nat.lt_of_lt_of_le h4 hn, by intro hst; rw [h5] at hst; cases hst⟩
    · cases h2
  obtain ⟨hd1, hd2, hd3⟩ := hd
  -- the operation itself
  have step : ∀ {v : CV} {σ2 : Store}, ev1 run base l.sl l.op e σ = some (v, σ2) → After w G ρ a (sto l.d v e) σ2 K → o.wp P a w K Q := by
    intro v σ2 hev hKv
    unfold Oper.wp
    have plain : ∀ {res : CV × Store}, SimOp P o a w G ρ res.1 res.2 → res = (v, σ2) → o.upon P a K Q ((execOp a.eval o).run P w) := by
      rintro res ⟨nx, u, w', G', ρ', hrun, hnx, s1, e1, r1⟩ rfl
      rw [hrun]
      rcases hnx with rfl | ⟨rfl, rfl⟩
      · exact after_value hs he hd1 hd2 s1 e1 r1 hKv
      · exact after_value hs he hd1 hd2 s1 e1 r1 hKv
    have called : ∀ {k : CK} {f : Nat} {args : List CV} {vs : List Value}, doCall run k f args σ = some (v, σ2) → args.length = vs.length → (∀ (k : Nat) c v, args[k]? = some c → vs[k]? = some v → RepC w G ρ c v) →
        (okFn P f = true → (execOp a.eval o).run P w = .ok (.enter f vs.toArray) w) → o.upon P a K Q ((execOp a.eval o).run P w) := by
      intro k f args vs hdo hl hk hrun
      obtain ⟨hf, hcalls⟩ := sim_call hc hdo hs hl hk
      rw [hrun hf, Oper.upon_enter]
      refine hcalls.mono ?_
      rintro en w' ⟨u, G', ρ', rfl, s1, e1, r1⟩
      exact after_value hs he hd1 hd2 s1 e1 r1 hKv
    cases hop : l.op with
    | call k f args =>
      rw [hop] at hev h1
      simp only [ev1] at hev
      obtain ⟨c, hoo, hcal, hargs⟩ := okOp_call h1
      obtain ⟨a1, a2⟩ := okOpds_rep hargs he
      refine called hev (vs := c.args.toList.map a.eval) (by simp [a1]) a2 fun hf => ?_
      have := run_call (P := P) (w := w) (a := a) (fi := []) (cap := []) hoo hcal rfl hf
      simpa using this
    | callv k x args =>
      rw [hop] at hev h1
      simp only [ev1] at hev
      split at hev
      · rename_i f cap hx
        obtain ⟨c, y, hoo, hcal, hy, hargs⟩ := okOp_callv h1
        have r1 := okOpd_rep hy he
        rw [hx] at r1
        obtain ⟨cs, hcs, hcl, hck⟩ := rep_fn r1
        obtain ⟨a1, a2⟩ := okOpds_rep hargs he
        refine called hev (vs := c.args.toList.map a.eval ++ cs) (by simp [a1, hcl]) ?_ fun hf => ?_
        · intro j u v hu hv
          rcases Nat.lt_or_ge j args.length with hj | hj
          · rw [List.getElem?_append_left (by simpa using hj)] at hu
            rw [List.getElem?_append_left (by simp [← a1]; simpa using hj)] at hv
            exact a2 j u v hu hv
          · rw [List.getElem?_append_right (by simpa using hj)] at hu
            rw [List.getElem?_append_right (by simp; rw [← Array.length_toList, ← a1]; exact hj)] at hv
            have : j - (c.args.toList.map a.eval).length = j - (args.map (vl e)).length := by simp; rw [← Array.length_toList, ← a1]
            rw [this] at hv
            exact hck _ u v hu hv
        · have := run_call (P := P) (w := w) (a := a) (fi := []) (cap := cs) hoo hcal (by simpa using hcs) hf
          simpa using this
      · cases hev
    | _ =>
      rw [hop] at hev h1
      simp only [ev1] at hev
      exact plain (sim_ev hs he h1 hev) rfl
  unfold wpOp
  simp only [hi]
  unfold evL at h
  split at h
  · rename_i hg
    rw [hg] at h3
    have hog : o.guard = none := by
      cases hog : o.guard with
      | none => rfl
      | some x => rw [hog] at h3; cases h3
    have hw : Region.wanted o (yielded ops a.tmps) = true := by simp [Region.wanted, hog]
    rw [if_pos hw]
    simp only [Option.map_eq_some_iff] at h
    obtain ⟨⟨v, σ2⟩, hev, heq⟩ := h
    cases heq
    exact .inl (step hev hK)
  · rename_i t want hg
    rw [hg] at h3
    cases hog : o.guard with
    | none => rw [hog] at h3; cases h3
    | some x =>
      obtain ⟨j, w0⟩ := x
      rw [hog] at h3
      simp only [Bool.and_eq_true, beq_iff_eq] at h3
      obtain ⟨rfl, h4⟩ := h3
      split at h
      · rename_i b hb
        have r1 := he t
        rw [hb] at r1
        have r2 := rep_bool r1
        have hyield : yielded ops a.tmps j = some b := by
          unfold yielded
          rw [h4]
          simp only [Option.bind_some]
          have : a.tmps[t]? = some (.bool b) := by
            rw [Array.getD_eq_getD_getElem?] at r2
            cases hq : a.tmps[t]? with
            | none => rw [hq] at r2; simp [undef] at r2
            | some q => rw [hq] at r2; simp at r2; rw [r2]
          rw [this]
        split at h
        · rename_i hbw
          have hw : Region.wanted o (yielded ops a.tmps) = true := by simp [Region.wanted, hog, hyield, hbw]
          rw [if_pos hw]
          simp only [Option.map_eq_some_iff] at h
          obtain ⟨⟨v, σ2⟩, hev, heq⟩ := h
          cases heq
          exact .inl (step hev hK)
        · rename_i hbw
          have hw : ¬ Region.wanted o (yielded ops a.tmps) = true := by simp [Region.wanted, hog, hyield, hbw]
          rw [if_neg hw]
          cases h
          exact after_value hs he hd1 hd2 hs Ext.refl (.tup [] [] rfl (by simp)) hK
      · rename_i hb
        have r1 := he t
        rw [hb] at r1
        have hyield : yielded ops a.tmps j = none := by
          unfold yielded
          rw [h4]
          simp only [Option.bind_some]
          cases hq : a.tmps[t]? with
          | none => rfl
          | some q =>
            rw [Array.getD_eq_getD_getElem?, hq] at r1
            simp only [Option.getD_some] at r1
            cases r1
            rfl
        have hw : ¬ Region.wanted o (yielded ops a.tmps) = true := by simp [Region.wanted, hog, hyield]
        rw [if_neg hw]
        cases h
        exact after_value hs he hd1 hd2 hs Ext.refl (.tup [] [] rfl (by simp)) hK
      · cases h

theorem After.trans {w1 : World} {G1 : Nat → Prop} {ρ1 : List Loc} {a1 : Act} {e' : Env} {σ' : Store} {K : Act → World → Prop} (hK : After w G ρ a e' σ' K) (e1 : Ext w G ρ w1 G1 ρ1) (hd : a1.defers = a.defers) (hz : a1.tmps.size = a.tmps.size) : After w1 G1 ρ1 a1 e' σ' K :=
  fun a' w' G' ρ' s2 e2 r2 d2 z2 => hK a' w' G' ρ' s2 (e1.trans e2) r2 (d2.trans hd) (z2.trans hz)

theorem okL_get : ∀ {os : List Oper} {ls : List LOp}, okL P ops n os ls = true → os.length = ls.length ∧ ∀ (i : Nat) o l, os[i]? = some o → ls[i]? = some l → okLOp P ops n o l = true
  | [], [], _ => ⟨rfl, by simp⟩
  | o :: os, l :: ls, h => by
    simp only [okL, Bool.and_eq_true] at h
    obtain ⟨h1, h2⟩ := okL_get h.2
    refine ⟨by simp [h1], ?_⟩
    intro i x y hx hy
    cases i with
    | zero => simp at hx hy; subst hx hy; exact h.1
    | succ i => exact h2 i x y (by simpa using hx) (by simpa using hy)
  | [], _ :: _, h => by simp [okL] at h
  | _ :: _, [], h => by simp [okL] at h

/-- A REGION IN THE ORDER OF THE TEXT. -/
theorem sim_runO {lops : List LOp} (hc : CallSim P run) (hok : okL P ops n ops.toList lops = true) {e' : Env} {σ' : Store} :
    ∀ (m k : Nat) (w : World) (G : Nat → Prop) (ρ : List Loc) (σ : Store) (e : Env) (a : Act), k + m = ops.size → St w G ρ σ → RepE w G ρ e a.tmps → n ≤ a.tmps.size → runO run base (lops.drop k) e σ = some (e', σ') → After w G ρ a e' σ' (fun a w => Q .normal a w) →
      wpOps P ops Q (List.range' k m) a w := by
  obtain ⟨hlen, hget⟩ := okL_get hok
  simp only [Array.length_toList] at hlen
  intro m
  induction m with
  | zero =>
    intro k w G ρ σ e a hk hs he hn h hK
    rw [List.drop_of_length_le (by omega)] at h
    simp only [runO] at h
    cases h
    exact hK a w G ρ hs Ext.refl he rfl rfl
  | succ m ih =>
    intro k w G ρ σ e a hk hs he hn h hK
    have hkl : k < lops.length := by omega
    have hko : k < ops.size := by omega
    rw [List.drop_eq_getElem_cons hkl] at h
    simp only [runO] at h
    split at h
    · rename_i e1 σ1 hev
      rw [List.range'_succ, wpOps_cons]
      refine sim_evL hc hs he hn (o := ops[k]) (by simp) (hget k _ _ (by simp) (by simp)) hev ?_
      intro a' w' G' ρ' s1 x1 r1 d1 z1
      exact ih (k + 1) w' G' ρ' σ1 e1 a' (by omega) s1 r1 (by omega) h (hK.trans x1 d1 z1)
    · cases h

end
end Go.Proofs.YtnbglampelmgoaaGreat.Vpi
