/- The verified interpreter, part 6: the operations that only read and reckon. -/
import Derived.Test.YtnbglampelmgoaaGreatVpiOps
namespace Go.Proofs.YtnbglampelmgoaaGreat.Vpi
open Go
set_option linter.unusedVariables false
set_option linter.unusedSimpArgs false

/-- what an operation of the model comes to -/
def SimOp (P : Program) (o : Oper) (a : Act) (w : World) (G : Nat → Prop) (ρ : List Loc) (c : CV) (σ' : Store) : Prop :=
  ∃ nx v w' G' ρ', (execOp a.eval o).run P w = .ok nx w' ∧ (nx = .value v ∨ (nx = .skip ∧ v = undef)) ∧ St w' G' ρ' σ' ∧ Ext w G ρ w' G' ρ' ∧ RepC w' G' ρ' c v

section
variable {P : Program} {o : Oper} {w : World} {G : Nat → Prop} {ρ : List Loc} {σ : Store} {e : Env} {a : Act} {base : Nat} {sl : Option Nat}

theorem SimOp.quiet {c : CV} {v : Value} (hs : St w G ρ σ) (hr : (execOp a.eval o).run P w = .ok (.value v) w) (hc : RepC w G ρ c v) : SimOp P o a w G ρ c σ :=
  ⟨.value v, v, w, G, ρ, hr, .inl rfl, hs, Ext.refl, hc⟩

theorem rep_num {c : CV} {n : Int} {v : Value} (hn : c.num = some n) (h : RepC w G ρ c v) : ∃ k, v = .int k n ∧ c = .p (.int k n) := by
  unfold CV.num at hn
  split at hn
  · cases hn; cases h with | p x v h => cases h; exact ⟨_, rfl, rfl⟩
  · cases hn

theorem rep_bool {b : Bool} {v : Value} (h : RepC w G ρ (.p (.bool b)) v) : v = .bool b := by cases h with | p x v h => cases h; rfl

theorem sliceElem_spec {t : TypeId} {q : TypeId → Bool} (h : (match sliceElem P t with | some e => q e | none => false) = true) : ∃ e, P.underlying t = some (.slice e) ∧ q e = true := by
  cases hs : sliceElem P t with
  | none => rw [hs] at h; cases h
  | some e =>
    rw [hs] at h
    unfold sliceElem at hs
    split at hs
    · rename_i hu; cases hs; exact ⟨_, hu, h⟩
    · cases hs

theorem isInt_spec {t : TypeId} (h : isIntT P t = true) : ∃ k, P.underlying t = some (.int k) := by
  unfold isIntT at h; split at h
  · exact ⟨_, by assumption⟩
  · cases h

theorem isBool_spec {t : TypeId} (h : isBoolT P t = true) : P.underlying t = some .bool := by
  unfold isBoolT at h; split at h
  · assumption
  · cases h

theorem intKind_spec {t : TypeId} {k : IntKind} (h : (intKindT P t == some k) = true) : P.underlying t = some (.int k) := by
  unfold intKindT at h; split at h
  · rename_i hu; simp at h; subst h; exact hu
  · simp at h

/-- a sum of the model is the evaluator's -/
theorem run_bin {op : BinOp} {t : TypeId} {x y : PV} {z : PV} {u v : Value} (h : binV op x y = some z) (hx : RepP w G x u) (hy : RepP w G y v) : ∃ r, (binOp op t u v).run P w = .ok r w ∧ RepP w G z r := by
  unfold binV at h
  split at h <;> first
    | (cases h; done)
    | (cases hx; cases hy
       first
         | (split at h
            · cases h
            · rename_i hn; cases h; exact ⟨_, by simp only [binOp, Op.shift, if_neg hn]; rfl, .int _ _⟩)
         | (split at h
            · rename_i hk
              subst hk
              first
                | (cases h; exact ⟨_, by simp [binOp, Op.intArith]; rfl, .int _ _⟩)
                | (cases h; exact ⟨_, by simp [binOp, Op.intBits]; rfl, .int _ _⟩)
                | (cases h; exact ⟨_, by simp only [binOp, Op.intCmp, ne_eq, not_true_eq_false, if_false]; rfl, .bool _⟩)
                | (split at h
                   · cases h
                   · rename_i hz; cases h; exact ⟨_, by simp only [binOp, Op.intDiv, ne_eq, not_true_eq_false, if_false, if_neg hz]; rfl, .int _ _⟩)
            · cases h))

theorem run_eqGuard {op : BinOp} {t : TypeId} {x y : Operand} {k k' : IntKind} {m n : Int} : (eqGuard op t x y (.int k m) (.int k' n)).run P w = .ok () w := by
  unfold eqGuard; cases op <;> rfl

theorem run_eqGuardB {op : BinOp} {t : TypeId} {x y : Operand} {m n : Bool} : (eqGuard op t x y (.bool m) (.bool n)).run P w = .ok () w := by
  unfold eqGuard; cases op <;> rfl

theorem binV_ints {op : BinOp} {x y z : PV} (h : binV op x y = some z) : (∃ k n, x = .int k n) ∧ ∃ k n, y = .int k n := by
  unfold binV at h
  split at h <;> first | cases h; done | exact ⟨⟨_, _, rfl⟩, _, _, rfl⟩

theorem sim_mv {x : Operand} {y : Opd} (hs : St w G ρ σ) (he : RepE w G ρ e a.tmps) (ho : o.op = .move x ∨ o.op = .assign x) (hx : okOpd x y = true) : SimOp P o a w G ρ (vl e y) σ := by
  refine SimOp.quiet (v := a.eval x) hs ?_ (okOpd_rep hx he)
  rcases ho with ho | ho <;> simp [execOp, ho]

theorem sim_pick {c x y : Operand} {c' x' y' : Opd} {b : Bool} (hs : St w G ρ σ) (he : RepE w G ρ e a.tmps) (ho : o.op = .pick c x y) (hc : okOpd c c' = true) (hx : okOpd x x' = true) (hy : okOpd y y' = true)
    (hb : vl e c' = .p (.bool b)) : SimOp P o a w G ρ (if b = true then vl e x' else vl e y') σ := by
  have h1 := okOpd_rep hc he
  rw [hb] at h1
  have h2 := rep_bool h1
  refine SimOp.quiet (v := if b = true then a.eval x else a.eval y) hs ?_ ?_
  · simp [execOp, ho, h2, asBool]
  · cases b
    · exact okOpd_rep hy he
    · exact okOpd_rep hx he

theorem rep_fn {f : Nat} {cap : List CV} {v : Value} (h : RepC w G ρ (.fn f cap) v) : ∃ vs : List Value, v = .func (.func f) #[] vs.toArray ∧ cap.length = vs.length ∧ ∀ (k : Nat) c v, cap[k]? = some c → vs[k]? = some v → RepC w G ρ c v := by
  cases h with | fn f cap vs hl hk => exact ⟨vs, rfl, hl, hk⟩

theorem rep_ptr {b i off : Nat} {v : Value} (h : RepC w G ρ (.ptr b i off) v) : ∃ ad, v = .pointer (some ad) ∧ PtrOk ρ b i off ad := by
  cases h with | ptr b i off ad h => exact ⟨ad, rfl, h⟩

theorem rep_rp {x : PV} {off : Nat} {v : Value} (h : RepC w G ρ (.rp x off) v) : ∃ (blk o : Nat) (arr : Array Value) (el : TypeId) (fr : Nat × Nat), v = .pointer (some ⟨blk, o + off, none⟩) ∧ G blk ∧ w.heap[blk]? = some (.cells arr el fr) ∧ o + x.cells.length ≤ arr.size ∧
    ∀ (k : Nat) c u, x.cells[k]? = some c → arr[o + k]? = some u → RepP w G c u ∧ u.oneCell' = true := by
  cases h with | rp x off blk o arr el fr hg hb hs hk => exact ⟨blk, o, arr, el, fr, rfl, hg, hb, hs, hk⟩

theorem rep_own {b off n : Nat} {v : Value} (h : RepC w G ρ (.own b off n) v) : ∃ (ad : Option Addr) (cap : Nat), v = .slice ad n cap ∧ n ≤ cap ∧ OwnOk ρ b off ad cap := by
  cases h with | own b off n ad cap hc h => exact ⟨ad, cap, rfl, hc, h⟩

theorem rep_nils {v : Value} (h : RepC w G ρ .nils v) : v = .slice none 0 0 := by cases h; rfl

theorem rep_tup {cs : List CV} {v : Value} (h : RepC w G ρ (.tup cs) v) : ∃ vs : List Value, v = .tuple vs.toArray ∧ cs.length = vs.length ∧ ∀ (k : Nat) c v, cs[k]? = some c → vs[k]? = some v → RepC w G ρ c v := by
  cases h with | tup cs vs hl hk => exact ⟨vs, rfl, hl, hk⟩

theorem rep_agg {cs : List CV} {v : Value} (h : RepC w G ρ (.agg cs) v) : ∃ vs : List Value, v = .agg vs.toArray ∧ cs.length = vs.length ∧ (∀ (k : Nat) c v, cs[k]? = some c → vs[k]? = some v → RepC w G ρ c v) ∧ ∀ v ∈ vs, v.oneCell' = true := by
  cases h with | agg cs vs hl hk h1 => exact ⟨vs, rfl, hl, hk, h1⟩

theorem rep_pagg {cs : List PV} {v : Value} (h : RepP w G (.agg cs) v) : ∃ vs : List Value, v = .agg vs.toArray ∧ cs.length = vs.length ∧ (∀ (k : Nat) c v, cs[k]? = some c → vs[k]? = some v → RepP w G c v) ∧ ∀ v ∈ vs, v.oneCell' = true := by
  cases h with | agg cs vs hl hk h1 => exact ⟨vs, rfl, hl, hk, h1⟩

/-- a pure slice: its block, if it has elements -/
theorem rep_sl {es : List PV} {v : Value} (h : RepP w G (.sl es) v) : ∃ (ad : Option Addr) (cap : Nat), v = .slice ad es.length cap ∧ es.length ≤ cap ∧
    (es = [] ∨ ∃ (blk off : Nat) (arr : Array Value) (el : TypeId) (fr : Nat × Nat) (sz : Nat), ad = some ⟨blk, off, none⟩ ∧ G blk ∧ w.heap[blk]? = some (.cells arr el fr) ∧ off + es.length * sz ≤ arr.size ∧
      (∀ (i : Nat) e, es[i]? = some e → e.cells.length = sz) ∧ (∀ (i : Nat) e (k : Nat) c u, es[i]? = some e → e.cells[k]? = some c → arr[off + i * sz + k]? = some u → RepP w G c u ∧ u.oneCell' = true)) := by
  cases h with
  | nil ad cap => exact ⟨ad, cap, rfl, Nat.zero_le _, .inl rfl⟩
  | sl es blk off arr el fr cap sz hg hb hc hs he hk h1 =>
    exact ⟨_, cap, rfl, hc, .inr ⟨blk, off, arr, el, fr, sz, rfl, hg, hb, hs, he, fun i e k c u a b d => ⟨hk i e k c u a b d, h1 i e k u a (by rw [← he i e a]; exact get_lt b) d⟩⟩⟩

theorem sim_nilc {x : Operand} {y : Opd} {r : CV × Store} (hs : St w G ρ σ) (he : RepE w G ρ e a.tmps) (ho : o.op = .nilCheck x) (hx : okOpd x y = true) (h : ev base sl (.nilc y) e σ = some r) : SimOp P o a w G ρ r.1 r.2 := by
  have h1 := okOpd_rep hx he
  generalize hu : a.eval x = u at h1
  simp only [ev] at h
  split at h
  · rename_i f cap hv
    cases h
    rw [hv] at h1
    obtain ⟨vs, rfl, _⟩ := rep_fn h1
    exact SimOp.quiet hs (by simp [execOp, ho, hu]) h1
  · rename_i hv
    cases h
    rw [hv] at h1
    obtain ⟨ad, rfl, _⟩ := rep_ptr h1
    exact SimOp.quiet hs (by simp [execOp, ho, hu]) h1
  · rename_i hv
    cases h
    rw [hv] at h1
    obtain ⟨blk, o', arr, el, fr, rfl, _⟩ := rep_rp h1
    exact SimOp.quiet hs (by simp [execOp, ho, hu]) h1
  · cases h

theorem sim_bin {op : BinOp} {t t' : TypeId} {x y : Operand} {x' y' : Opd} {r : CV × Store} (hs : St w G ρ σ) (he : RepE w G ρ e a.tmps) (ho : o.op = .binOp op t x y t') (hx : okOpd x x' = true) (hy : okOpd y y' = true)
    (h : ev base sl (.bin op x' y') e σ = some r) : SimOp P o a w G ρ r.1 r.2 := by
  have h1 := okOpd_rep hx he
  have h2 := okOpd_rep hy he
  generalize hu : a.eval x = u at h1
  generalize hv : a.eval y = v at h2
  simp only [ev] at h
  split at h
  · rename_i p q hp hq
    simp only [Option.map_eq_some_iff] at h
    obtain ⟨z, hz, rfl⟩ := h
    rw [hp] at h1
    rw [hq] at h2
    obtain ⟨⟨k, n, rfl⟩, k', m, rfl⟩ := binV_ints hz
    have r1 := rep_p h1
    have r2 := rep_p h2
    obtain ⟨r, hr, hr2⟩ := run_bin (P := P) (w := w) (t := t) hz r1 r2
    cases r1
    cases r2
    refine SimOp.quiet hs ?_ (.p _ _ hr2)
    simp only [execOp, ho, hu, hv, Sem.run_bind, run_eqGuard, Result.andThen_ok, hr, Sem.run_pure]
  · cases h

theorem run_equalB {t : TypeId} {p q : Bool} (hu : P.underlying t = some .bool) : (Op.equal t (.bool p) (.bool q)).run P w = .ok (p == q) w := by
  rw [Op.equal, show Op.maxDepth = 9999 + 1 from rfl, Op.equalIn, Sem.run_bind, run_underlying hu, Result.andThen_ok]
  rfl

theorem sim_beq {op : BinOp} {ne : Bool} {t t' : TypeId} {x y : Operand} {x' y' : Opd} {r : CV × Store} (hs : St w G ρ σ) (he : RepE w G ρ e a.tmps) (ho : o.op = .binOp op t x y t') (hx : okOpd x x' = true) (hy : okOpd y y' = true)
    (ht : isBoolT P t = true) (hop : beqOk op ne = true) (h : ev base sl (.beq ne x' y') e σ = some r) : SimOp P o a w G ρ r.1 r.2 := by
  have h1 := okOpd_rep hx he
  have h2 := okOpd_rep hy he
  generalize hu : a.eval x = u at h1
  generalize hv : a.eval y = v at h2
  simp only [ev] at h
  split at h
  · rename_i p q hp hq
    cases h
    rw [hp] at h1
    rw [hq] at h2
    have r1 := rep_bool h1
    have r2 := rep_bool h2
    subst r1 r2
    have hu' := isBool_spec ht
    refine SimOp.quiet (v := .bool (if ne = true then !(p == q) else p == q)) hs ?_ (.p _ _ (.bool _))
    simp only [execOp, ho, hu, hv, Sem.run_bind, run_eqGuardB, Result.andThen_ok, Sem.run_pure]
    cases op <;> cases ne <;> first
      | (cases hop; done)
      | (unfold binOp; simp only [Sem.run_bind, run_equalB hu', Result.andThen_ok, Sem.run_pure]; rfl)
  · cases h

theorem sim_un {op : UnOp} {t : TypeId} {x : Operand} {x' : Opd} {r : CV × Store} (hs : St w G ρ σ) (he : RepE w G ρ e a.tmps) (ho : o.op = .unOp op t x) (hx : okOpd x x' = true)
    (h : ev base sl (.un op x') e σ = some r) : SimOp P o a w G ρ r.1 r.2 := by
  have h1 := okOpd_rep hx he
  generalize hu : a.eval x = u at h1
  simp only [ev] at h
  split at h
  · rename_i p hp
    simp only [Option.map_eq_some_iff] at h
    obtain ⟨z, hz, rfl⟩ := h
    rw [hp] at h1
    have r1 := rep_p h1
    unfold unV at hz
    split at hz
    · cases hz
      cases r1
      exact SimOp.quiet hs (by simp [execOp, ho, hu, Op.unary, Op.intArith]) (.p _ _ (.int _ _))
    · cases hz
      cases r1
      exact SimOp.quiet hs (by simp [execOp, ho, hu, Op.unary]) (.p _ _ (.bool _))
    · cases hz
  · cases h

theorem sim_conv {s d : TypeId} {k : IntKind} {x : Operand} {x' : Opd} {r : CV × Store} (hs : St w G ρ σ) (he : RepE w G ρ e a.tmps) (ho : o.op = .convert s d x) (hx : okOpd x x' = true)
    (hsu : (P.underlying s).isSome = true) (hd : (intKindT P d == some k) = true) (h : ev base sl (.conv k x') e σ = some r) : SimOp P o a w G ρ r.1 r.2 := by
  have h1 := okOpd_rep hx he
  generalize hu : a.eval x = u at h1
  simp only [ev] at h
  split at h
  · rename_i n hn
    cases h
    obtain ⟨k', rfl, h2⟩ := rep_num hn h1
    obtain ⟨ds, hds⟩ := Option.isSome_iff_exists.1 hsu
    exact SimOp.quiet hs (by simp [execOp, ho, hu, convert, run_underlying hds, run_underlying (intKind_spec hd), Conv.intToInt]) (.p _ _ (.int _ _))
  · cases h

end
end Go.Proofs.YtnbglampelmgoaaGreat.Vpi
