/- The verified interpreter, part 5: each operation of the model does what the evaluator says (reads and sums). -/
import Derived.Test.YtnbglampelmgoaaGreatVpiChk
import Derived.Laws.MakeOwn
namespace Go.Proofs.YtnbglampelmgoaaGreat.Vpi
open Go
set_option linter.unusedVariables false
set_option linter.unusedSimpArgs false

section words
variable {w : World} {G : Nat → Prop} {ρ : List Loc}

theorem okC1_rep {v : Value} {c : CV} (h : okC1 v c = true) : RepC w G ρ c v := by
  unfold okC1 at h
  split at h
  · exact .any _
  · simp at h; obtain ⟨rfl, rfl⟩ := h; exact .p _ _ (.int _ _)
  · simp at h; subst h; exact .p _ _ (.bool _)
  · exact .nils
  · exact .p _ _ (.nil _ _)
  · simp at h; obtain ⟨⟨rfl, rfl⟩, rfl⟩ := h; exact .fn _ [] [] rfl (by simp)
  · cases h

theorem okC1_one {v : Value} {c : CV} (h : okC1 v c = true) (hc : c ≠ .any) : v.oneCell' = true := by
  unfold okC1 at h
  split at h <;> first | rfl | (exact absurd rfl hc) | cases h

theorem okP1_rep {v : Value} {c : PV} (h : okP1 v c = true) : RepP w G c v := by
  unfold okP1 at h
  split at h
  · simp at h; obtain ⟨rfl, rfl⟩ := h; exact .int _ _
  · simp at h; subst h; exact .bool _
  · exact .nil _ _
  · cases h

theorem okP1_one {v : Value} {c : PV} (h : okP1 v c = true) : v.oneCell' = true := by
  unfold okP1 at h
  split at h <;> first | rfl | cases h

theorem okPs_len : ∀ {vs : List Value} {cs : List PV}, okPs vs cs = true → cs.length = vs.length ∧ (∀ (k : Nat) c v, cs[k]? = some c → vs[k]? = some v → RepP w G c v) ∧ ∀ v ∈ vs, v.oneCell' = true
  | [], [], _ => ⟨rfl, by simp, by simp⟩
  | v :: vs, c :: cs, h => by
    simp only [okPs, Bool.and_eq_true] at h
    obtain ⟨h1, h2, h3⟩ := okPs_len h.2
    refine ⟨by simp [h1], ?_, ?_⟩
    · intro k c' v' hc hv
      cases k with
      | zero => simp at hc hv; subst hc hv; exact okP1_rep h.1
      | succ k => exact h2 k c' v' (by simpa using hc) (by simpa using hv)
    · intro u hu
      rcases List.mem_cons.1 hu with rfl | hu
      · exact okP1_one h.1
      · exact h3 u hu
  | [], _ :: _, h => by simp [okPs] at h
  | _ :: _, [], h => by simp [okPs] at h

theorem okCs_len : ∀ {vs : List Value} {cs : List CV}, okCs vs cs = true → cs.length = vs.length ∧ (∀ (k : Nat) c v, cs[k]? = some c → vs[k]? = some v → RepC w G ρ c v)
  | [], [], _ => ⟨rfl, by simp⟩
  | v :: vs, c :: cs, h => by
    simp only [okCs, Bool.and_eq_true] at h
    obtain ⟨h1, h2⟩ := okCs_len h.2
    refine ⟨by simp [h1], ?_⟩
    intro k c' v' hc hv
    cases k with
    | zero => simp at hc hv; subst hc hv; exact okC1_rep h.1
    | succ k => exact h2 k c' v' (by simpa using hc) (by simpa using hv)
  | [], _ :: _, h => by simp [okCs] at h
  | _ :: _, [], h => by simp [okCs] at h

theorem okC_rep {v : Value} {c : CV} (h : okC v c = true) (hv : oneAll v.cells.toList = true) : RepC w G ρ c v := by
  unfold okC at h
  split at h
  · rename_i vs cs
    obtain ⟨h1, h2⟩ := okCs_len (w := w) (G := G) (ρ := ρ) h
    exact .agg cs vs.toList h1 h2 fun v hv' => List.all_eq_true.1 hv v hv'
  · rename_i vs cs
    obtain ⟨h1, h2, h3⟩ := okPs_len (w := w) (G := G) h
    exact .p _ _ (.agg cs vs.toList h1 h2 h3)
  · exact okC1_rep h

/-- the cells of a value -/
theorem RepP.cells {x : PV} {v : Value} (h : RepP w G x v) : x.cells.length = v.cells.size ∧ (∀ (k : Nat) c u, x.cells[k]? = some c → v.cells[k]? = some u → RepP w G c u) ∧ ∀ u ∈ v.cells, u.oneCell' = true := by
  have one : ∀ {x : PV} {v : Value}, RepP w G x v → x.cells = [x] → v.cells = #[v] → v.oneCell' = true → x.cells.length = v.cells.size ∧ (∀ (k : Nat) c u, x.cells[k]? = some c → v.cells[k]? = some u → RepP w G c u) ∧ ∀ u ∈ v.cells, u.oneCell' = true := by
    intro x v h h1 h2 h3
    rw [h1, h2]
    refine ⟨rfl, ?_, ?_⟩
    · intro k c u hc hu
      cases k with
      | zero => simp at hc hu; subst hc hu; exact h
      | succ k => simp at hc
    · intro u hu; simp at hu; subst hu; exact h3
  cases h with
  | int k n => exact one (.int k n) rfl rfl rfl
  | bool b => exact one (.bool b) rfl rfl rfl
  | str s => exact one (.str s) rfl rfl rfl
  | nil a cap => exact one (.nil a cap) rfl rfl rfl
  | sl es blk off arr el fr cap sz hg hb hc hs he hk h1 => exact one (.sl es blk off arr el fr cap sz hg hb hc hs he hk h1) rfl rfl rfl
  | agg cs vs hl hk h1 => exact ⟨by simpa [PV.cells, Value.cells] using hl, by simpa [PV.cells, Value.cells] using hk, by simpa [Value.cells] using h1⟩

theorem RepC.cells {c : CV} {v : Value} {cs : List CV} (h : RepC w G ρ c v) (hc : c.cells = some cs) :
    cs.length = v.cells.size ∧ (∀ (k : Nat) x u, cs[k]? = some x → v.cells[k]? = some u → RepC w G ρ x u) ∧ ∀ u ∈ v.cells, u.oneCell' = true := by
  have one : ∀ {x : CV} {v : Value}, RepC w G ρ x v → x.cells = some [x] → v.cells = #[v] → v.oneCell' = true → x.cells = some cs → cs.length = v.cells.size ∧ (∀ (k : Nat) c u, cs[k]? = some c → v.cells[k]? = some u → RepC w G ρ c u) ∧ ∀ u ∈ v.cells, u.oneCell' = true := by
    intro x v h h1 h2 h3 h4
    rw [h1] at h4
    cases h4
    rw [h2]
    refine ⟨rfl, ?_, ?_⟩
    · intro k c u hc hu
      cases k with
      | zero => simp at hc hu; subst hc hu; exact h
      | succ k => simp at hc
    · intro u hu; simp at hu; subst hu; exact h3
  cases h with
  | any v => cases hc
  | tup => cases hc
  | rp => cases hc
  | nils => exact one .nils rfl rfl rfl hc
  | own b off n a cap h1 h2 => exact one (.own b off n a cap h1 h2) rfl rfl rfl hc
  | ptr b i off a h1 => exact one (.ptr b i off a h1) rfl rfl rfl hc
  | fn f cap vs hl hk => exact one (.fn f cap vs hl hk) rfl rfl rfl hc
  | agg cs' vs hl hk h1 =>
    cases hc
    exact ⟨by simpa [Value.cells] using hl, by simpa [Value.cells] using hk, by simpa [Value.cells] using h1⟩
  | p x v h =>
    cases hc
    obtain ⟨h1, h2, h3⟩ := h.cells
    refine ⟨by simpa using h1, ?_, h3⟩
    intro k c u hc hu
    simp only [List.getElem?_map, Option.map_eq_some_iff] at hc
    obtain ⟨y, hy, rfl⟩ := hc
    exact .p _ _ (h2 k y u hy hu)

theorem allP_spec : ∀ {cs : List CV} {ps : List PV}, allP cs = some ps → cs = ps.map .p
  | [], ps, h => by simp [allP] at h; subst h; rfl
  | .p v :: l, ps, h => by
    simp only [allP, Option.map_eq_some_iff] at h
    obtain ⟨a, ha, rfl⟩ := h
    rw [allP_spec ha]; rfl
  | .any :: _, _, h => by simp [allP] at h
  | .nils :: _, _, h => by simp [allP] at h
  | .own .. :: _, _, h => by simp [allP] at h
  | .ptr .. :: _, _, h => by simp [allP] at h
  | .rp .. :: _, _, h => by simp [allP] at h
  | .agg .. :: _, _, h => by simp [allP] at h
  | .tup .. :: _, _, h => by simp [allP] at h
  | .fn .. :: _, _, h => by simp [allP] at h

theorem rep_p {x : PV} {v : Value} (h : RepC w G ρ (.p x) v) : RepP w G x v := by cases h; assumption

theorem mkAgg_rep {cs : List CV} {vs : List Value} (hl : cs.length = vs.length) (hk : ∀ (k : Nat) c v, cs[k]? = some c → vs[k]? = some v → RepC w G ρ c v) (h1 : ∀ v ∈ vs, v.oneCell' = true) :
    RepC w G ρ (mkAgg cs) (.agg vs.toArray) := by
  unfold mkAgg
  split
  · rename_i ps hps
    have := allP_spec hps
    subst this
    refine .p _ _ (.agg ps vs (by simpa using hl) ?_ h1)
    intro k c v hc hv
    exact rep_p (hk k (.p c) v (by simp [hc]) hv)
  · exact .agg cs vs hl hk h1

end words

section ops
variable {P : Program} {w : World} {G : Nat → Prop} {ρ : List Loc} {σ : Store} {e : Env} {a : Act}

theorem okOpd_rep {x : Operand} {y : Opd} (h : okOpd x y = true) (he : RepE w G ρ e a.tmps) : RepC w G ρ (vl e y) (a.eval x) := by
  unfold okOpd at h
  split at h
  · simp at h; subst h; exact he _
  · simp only [Bool.and_eq_true] at h; exact okC_rep h.1 h.2
  · simp at h; subst h; exact .fn _ [] [] rfl (by simp)
  · cases h

theorem cell_at {blk o : Nat} {arr : Array Value} {el : TypeId} {fr : Nat × Nat} (hb : w.heap[blk]? = some (.cells arr el fr)) : w.cell? ⟨blk, o, none⟩ = arr[o]? := by
  simp [World.cell?, hb]

theorem add_at (blk o n : Nat) : (⟨blk, o, none⟩ : Addr).add n = ⟨blk, o + n, none⟩ := by
  unfold Addr.add; split <;> simp_all

theorem run_isAgg {t : TypeId} {b : Bool} (h : aggP P t = some b) : (isAgg t).run P w = .ok b w := by
  unfold aggP at h
  cases hu : P.underlying t with
  | none => rw [hu] at h; cases h
  | some d =>
    rw [hu] at h
    simp only [Option.map_some, Option.some.injEq] at h
    unfold isAgg
    simp only [Sem.run_bind, run_underlying hu, Result.andThen_ok]
    subst h
    cases d <;> rfl

theorem run_sizeOf {t : TypeId} {n : Nat} (h : szP P t = some n) : (sizeOf t).run P w = .ok n w := by
  unfold szP at h
  cases hi : P.info? t with
  | none => rw [hi] at h; cases h
  | some i =>
    rw [hi] at h
    simp only [Option.map_some, Option.some.injEq] at h
    simp [sizeOf, typeInfo, hi, h]

theorem run_loadVar_agg {t : TypeId} {sz blk o : Nat} {arr : Array Value} {el : TypeId} {fr : Nat × Nat} (ha : aggP P t = some true) (hs : szP P t = some sz) (hb : w.heap[blk]? = some (.cells arr el fr)) (hf : o + sz ≤ arr.size) :
    (loadVar t ⟨blk, o, none⟩).run P w = .ok (.agg ((arr.toList.drop o).take sz).toArray) w := by
  have hl := run_loadCells_list (P := P) w ⟨blk, o, none⟩ ((arr.toList.drop o).take sz) (by
    intro j v hj
    rw [add_at, cell_at hb]
    rw [List.getElem?_take] at hj
    split at hj
    · simpa using hj
    · cases hj)
  rw [show ((arr.toList.drop o).take sz).length = sz by simp; omega] at hl
  simp [loadVar, run_isAgg ha, run_sizeOf hs, hl]

theorem run_loadVar_one {t : TypeId} {blk o : Nat} {arr : Array Value} {el : TypeId} {fr : Nat × Nat} {v : Value} (ha : aggP P t = some false) (hb : w.heap[blk]? = some (.cells arr el fr)) (hv : arr[o]? = some v) :
    (loadVar t ⟨blk, o, none⟩).run P w = .ok v w := by
  simp [loadVar, run_isAgg ha, cell_at hb, hv]

/-- a part of an element is read -/
theorem load_sub {t : TypeId} {agg : Bool} {sz blk B off : Nat} {arr : Array Value} {el : TypeId} {fr : Nat × Nat} {x y : PV} (ha : aggP P t = some agg) (hs : szP P t = some sz) (hb : w.heap[blk]? = some (.cells arr el fr))
    (hfit : B + x.cells.length ≤ arr.size) (hk : ∀ (k : Nat) c u, x.cells[k]? = some c → arr[B + k]? = some u → RepP w G c u ∧ u.oneCell' = true) (h : subPV agg sz x off = some y) :
    ∃ v, (loadVar t ⟨blk, B + off, none⟩).run P w = .ok v w ∧ RepP w G y v := by
  unfold subPV at h
  split at h
  · split at h
    · rename_i cs
      split at h
      · rename_i hle
        cases h
        simp only [PV.cells] at hfit hk
        refine ⟨_, run_loadVar_agg ha hs hb (by omega), .agg _ _ (by simp; omega) ?_ ?_⟩
        · intro k c v hc hv
          rw [List.getElem?_take] at hc hv
          by_cases hks : k < sz
          · rw [if_pos hks, List.getElem?_drop] at hc hv
            exact (hk (off + k) c v hc (by simpa [Nat.add_assoc] using hv)).1
          · rw [if_neg hks] at hc; cases hc
        · intro v hv
          obtain ⟨k, hk1⟩ := List.getElem?_of_mem hv
          rw [List.getElem?_take] at hk1
          split at hk1
          · rename_i hlt
            rw [List.getElem?_drop] at hk1
            refine (hk (off + k) cs[off + k] v (by simp) (by simpa [Nat.add_assoc] using hk1)).2
          · cases hk1
      · cases h
    · cases h
  · rename_i b
    have hlt : off < x.cells.length := get_lt h
    refine ⟨arr[B + off]'(by omega), run_loadVar_one ha hb (by simp), ?_⟩
    exact (hk off y _ h (by simp)).1

theorem load_subC {t : TypeId} {agg : Bool} {sz blk B off : Nat} {arr : Array Value} {el : TypeId} {fr : Nat × Nat} {cs : List CV} {y : CV} (ha : aggP P t = some agg) (hs : szP P t = some sz) (hb : w.heap[blk]? = some (.cells arr el fr))
    (hfit : B + cs.length ≤ arr.size) (hk : ∀ (k : Nat) c u, cs[k]? = some c → arr[B + k]? = some u → RepC w G ρ c u ∧ u.oneCell' = true) (h : subCV agg sz cs off = some y) :
    ∃ v, (loadVar t ⟨blk, B + off, none⟩).run P w = .ok v w ∧ RepC w G ρ y v := by
  unfold subCV at h
  split at h
  · split at h
    · rename_i hle
      cases h
      refine ⟨_, run_loadVar_agg ha hs hb (by omega), mkAgg_rep (by simp; omega) ?_ ?_⟩
      · intro k c v hc hv
        rw [List.getElem?_take] at hc hv
        by_cases hks : k < sz
        · rw [if_pos hks, List.getElem?_drop] at hc hv
          exact (hk (off + k) c v hc (by simpa [Nat.add_assoc] using hv)).1
        · rw [if_neg hks] at hc; cases hc
      · intro v hv
        obtain ⟨k, hk1⟩ := List.getElem?_of_mem hv
        rw [List.getElem?_take] at hk1
        split at hk1
        · rename_i hlt
          rw [List.getElem?_drop] at hk1
          refine (hk (off + k) cs[off + k] v (by simp) (by simpa [Nat.add_assoc] using hk1)).2
        · cases hk1
    · cases h
  · have hlt : off < cs.length := get_lt h
    refine ⟨arr[B + off]'(by omega), run_loadVar_one ha hb (by simp), ?_⟩
    exact (hk off y _ h (by simp)).1

end ops
end Go.Proofs.YtnbglampelmgoaaGreat.Vpi
