/- The verified interpreter, part 7: reads, places, lengths, slices. -/
import Derived.Test.YtnbglampelmgoaaGreatVpiQuiet
import Derived.Laws.Strings
namespace Go.Proofs.YtnbglampelmgoaaGreat.Vpi
open Go
set_option linter.unusedVariables false
set_option linter.unusedSimpArgs false
set_option maxRecDepth 4000
section
variable {P : Program} {o : Oper} {w : World} {G : Nat → Prop} {ρ : List Loc} {σ : Store} {e : Env} {a : Act} {base : Nat} {sl : Option Nat}

theorem St.get {b : Nat} {x : Blk} (hs : St w G ρ σ) (h : σ[b]? = some x) : ∃ l, ρ[b]? = some l ∧ BlkOk w G ρ l x := by
  have hlt : b < ρ.length := by rw [hs.len]; exact get_lt h
  exact ⟨ρ[b], by simp, hs.ok b _ x (by simp) h⟩

theorem sim_load {agg : Bool} {sz : Nat} {t : TypeId} {x : Operand} {x' : Opd} {r : CV × Store} (hs : St w G ρ σ) (he : RepE w G ρ e a.tmps) (ho : o.op = .load t x) (hx : okOpd x x' = true)
    (ha : aggP P t = some agg) (hz : szP P t = some sz) (h : ev base sl (.load agg sz x') e σ = some r) : SimOp P o a w G ρ r.1 r.2 := by
  have h1 := okOpd_rep hx he
  generalize hu : a.eval x = u at h1
  have fin : ∀ {ad : Addr} {c : CV}, u = .pointer (some ad) → r = (c, σ) → (∃ v, (loadVar t ad).run P w = .ok v w ∧ RepC w G ρ c v) → SimOp P o a w G ρ r.1 r.2 := by
    rintro ad c rfl rfl ⟨v, hv, hc⟩
    exact SimOp.quiet hs (by simp [execOp, ho, hu, Instr.loadAt, Instr.sureAddr, hv]) hc
  simp only [ev] at h
  split at h
  · rename_i b i off hv
    rw [hv] at h1
    obtain ⟨ad, hue, hp⟩ := rep_ptr h1
    split at h
    · rename_i s es hb
      obtain ⟨l, hl, hok⟩ := hs.get hb
      split at h
      · rename_i x hxi
        simp only [Option.map_eq_some_iff] at h
        obtain ⟨y, hy, rfl⟩ := h
        cases l with
        | lv blk o' tot s' =>
          obtain ⟨rfl, _, arr, el, hh, rfl, hfit, hlen, hk⟩ := hok
          simp only [PtrOk, hl] at hp
          subst hp
          have hlt := get_lt hxi
          have hm : (i + 1) * s ≤ es.length * s := Nat.mul_le_mul_right _ hlt
          rw [Nat.succ_mul] at hm
          have := load_sub (P := P) (w := w) (G := G) ha hz hh (B := o' + i * s) (by rw [hlen i x hxi]; omega) (fun k c u hc hu => hk i x k c u hxi hc hu) hy
          obtain ⟨v, hv1, hv2⟩ := this
          exact fin hue rfl ⟨v, hv1, .p _ _ hv2⟩
        | det => simp only [BlkOk] at hok; subst hok; simp at hxi
        | dead => exact hok.elim
        | hole => exact hok.elim
      · cases h
    · rename_i s cs hb
      obtain ⟨l, hl, hok⟩ := hs.get hb
      simp only [Option.map_eq_some_iff] at h
      obtain ⟨y, hy, rfl⟩ := h
      cases l with
      | lv blk o' tot s' =>
        obtain ⟨rfl, _, arr, el, hh, rfl, hfit, hk⟩ := hok
        simp only [PtrOk, hl] at hp
        subst hp
        have := load_subC (P := P) (w := w) (G := G) (ρ := ρ) ha hz hh (B := o') hfit hk hy
        rw [← Nat.add_assoc] at this
        exact fin hue rfl this
      | det => exact hok.elim
      | dead => exact hok.elim
      | hole => exact hok.elim
    · cases h
  · rename_i x off hv
    rw [hv] at h1
    obtain ⟨blk, o', arr, el, fr, hue, hg, hh, hfit, hk⟩ := rep_rp h1
    simp only [Option.map_eq_some_iff] at h
    obtain ⟨y, hy, rfl⟩ := h
    obtain ⟨v, hv1, hv2⟩ := load_sub (P := P) (w := w) (G := G) ha hz hh hfit hk hy
    exact fin hue rfl ⟨v, hv1, .p _ _ hv2⟩
  · cases h

theorem sim_fieldA {off f : Nat} {t : TypeId} {x : Operand} {x' : Opd} {r : CV × Store} (hs : St w G ρ σ) (he : RepE w G ρ e a.tmps) (ho : o.op = .fieldAddr t x f) (hx : okOpd x x' = true)
    {fs : Array Field} {fd : Field} {n : Nat} (ht : P.underlying t = some (.struct fs)) (hf : fs[f]? = some fd) (hoff : fd.offset = off) (hn : szP P fd.type = some n) (hn0 : n ≠ 0)
    (h : ev base sl (.fieldA off x') e σ = some r) : SimOp P o a w G ρ r.1 r.2 := by
  have h1 := okOpd_rep hx he
  generalize hu : a.eval x = u at h1
  have run : ∀ ad : Addr, u = .pointer (some ad) → (execOp a.eval o).run P w = .ok (.value (.pointer (some (ad.add off)))) w := by
    rintro ad rfl
    simp [execOp, ho, hu, Instr.fieldAt, run_underlying ht, hf, Instr.sureAddr, fieldPlace, run_sizeOf hn, hn0, hoff]
  simp only [ev] at h
  split at h
  · rename_i b i o' hv
    cases h
    rw [hv] at h1
    obtain ⟨ad, rfl, hp⟩ := rep_ptr h1
    refine SimOp.quiet hs (run ad rfl) (.ptr _ _ _ _ ?_)
    unfold PtrOk at hp ⊢
    split at hp
    · subst hp; rw [add_at]; simp [Nat.add_assoc]
    · trivial
    · trivial
    · exact hp.elim
  · rename_i y o' hv
    cases h
    rw [hv] at h1
    obtain ⟨blk, o2, arr, el, fr, rfl, hg, hh, hfit, hk⟩ := rep_rp h1
    refine SimOp.quiet hs (run _ rfl) ?_
    rw [add_at, Nat.add_assoc]
    exact .rp y (o' + off) blk o2 arr el fr hg hh hfit hk
  · cases h

theorem part_run {agg : Bool} {t : TypeId} {sz off : Nat} {vs : Array Value} {v : Value} (ha : aggP P t = some agg) (hz : szP P t = some sz)
    (h : (agg = true ∧ v = .agg (vs.extract off (off + sz))) ∨ (agg = false ∧ vs[off]? = some v)) : (part t vs off).run P w = .ok v w := by
  rcases h with ⟨rfl, rfl⟩ | ⟨rfl, h⟩
  · simp [part, run_isAgg ha, run_sizeOf hz]
  · simp [part, run_isAgg ha, h]

theorem sim_field {agg : Bool} {off sz f : Nat} {t : TypeId} {x : Operand} {x' : Opd} {r : CV × Store} (hs : St w G ρ σ) (he : RepE w G ρ e a.tmps) (ho : o.op = .field t x f) (hx : okOpd x x' = true)
    {fs : Array Field} {fd : Field} (ht : P.underlying t = some (.struct fs)) (hf : fs[f]? = some fd) (hoff : fd.offset = off) (hz : szP P fd.type = some sz) (ha : aggP P fd.type = some agg)
    (h : ev base sl (.field agg off sz x') e σ = some r) : SimOp P o a w G ρ r.1 r.2 := by
  have h1 := okOpd_rep hx he
  generalize hu : a.eval x = u at h1
  have run : ∀ (vs : Array Value) (v : Value), u = .agg vs → (part fd.type vs off).run P w = .ok v w → (execOp a.eval o).run P w = .ok (.value v) w := by
    rintro vs v rfl hp
    simp [execOp, ho, hu, Instr.field, run_underlying ht, hf, asAgg, hoff, hp]
  simp only [ev] at h
  split at h
  · rename_i cs hv
    rw [hv] at h1
    obtain ⟨vs, rfl, hl, hk, h1c⟩ := rep_pagg (rep_p h1)
    simp only [Option.map_eq_some_iff] at h
    obtain ⟨y, hy, rfl⟩ := h
    cases agg with
    | true =>
      simp only [subPV] at hy
      split at hy
      · rename_i hle
        cases hy
        refine SimOp.quiet hs (run _ _ rfl (part_run ha hz (.inl ⟨rfl, rfl⟩))) ?_
        rw [show vs.toArray.extract off (off + sz) = ((vs.drop off).take sz).toArray by simp]
        refine .p _ _ (.agg _ _ (by simp; omega) ?_ fun v hv' => h1c v (List.mem_of_mem_drop (List.mem_of_mem_take hv')))
        intro k c v hc hv'
        rw [List.getElem?_take] at hc hv'
        by_cases hks : k < sz
        · rw [if_pos hks, List.getElem?_drop] at hc hv'
          exact hk (off + k) c v hc hv'
        · rw [if_neg hks] at hc; cases hc
      · cases hy
    | false =>
      simp only [subPV, PV.cells] at hy
      have hlt := get_lt hy
      refine SimOp.quiet (v := vs[off]'(by omega)) hs (run _ _ rfl (part_run ha hz (.inr ⟨rfl, by simp⟩))) ?_
      exact .p _ _ (hk off y _ hy (by simp))
  · rename_i cs hv
    rw [hv] at h1
    obtain ⟨vs, rfl, hl, hk, h1c⟩ := rep_agg h1
    simp only [Option.map_eq_some_iff] at h
    obtain ⟨y, hy, rfl⟩ := h
    unfold subCV at hy
    split at hy
    · split at hy
      · rename_i hle
        cases hy
        refine SimOp.quiet hs (run _ _ rfl (part_run ha hz (.inl ⟨rfl, rfl⟩))) ?_
        rw [show vs.toArray.extract off (off + sz) = ((vs.drop off).take sz).toArray by simp]
        refine mkAgg_rep (by simp; omega) ?_ fun v hv' => h1c v (List.mem_of_mem_drop (List.mem_of_mem_take hv'))
        intro k c v hc hv'
        rw [List.getElem?_take] at hc hv'
        by_cases hks : k < sz
        · rw [if_pos hks, List.getElem?_drop] at hc hv'
          exact hk (off + k) c v hc hv'
        · rw [if_neg hks] at hc; cases hc
      · cases hy
    · have hlt := get_lt hy
      refine SimOp.quiet (v := vs[off]'(by omega)) hs (run _ _ rfl (part_run ha hz (.inr ⟨rfl, by simp⟩))) ?_
      exact hk off y _ hy (by simp)
  · cases h

theorem bsz_spec {b s : Nat} (hs : St w G ρ σ) (h : bsz σ b = some s) : ∃ l, ρ[b]? = some l ∧ ((∃ blk o tot, l = .lv blk o tot s) ∨ l = .det) := by
  unfold bsz at h
  split at h
  · rename_i s' es hb
    cases h
    obtain ⟨l, hl, hok⟩ := hs.get hb
    cases l with
    | lv blk o' tot s' => obtain ⟨rfl, _⟩ := hok; exact ⟨_, hl, .inl ⟨blk, o', tot, rfl⟩⟩
    | det => exact ⟨_, hl, .inr rfl⟩
    | dead => exact hok.elim
    | hole => exact hok.elim
  · rename_i s' es hb
    cases h
    obtain ⟨l, hl, hok⟩ := hs.get hb
    cases l with
    | lv blk o' tot s' => obtain ⟨rfl, _⟩ := hok; exact ⟨_, hl, .inl ⟨blk, o', tot, rfl⟩⟩
    | det => exact hok.elim
    | dead => exact hok.elim
    | hole => exact hok.elim
  · cases h

theorem sim_indexA {sz : Nat} {t el : TypeId} {x i : Operand} {x' i' : Opd} {r : CV × Store} (hs : St w G ρ σ) (he : RepE w G ρ e a.tmps) (ho : o.op = .indexAddr t x i) (hx : okOpd x x' = true) (hi : okOpd i i' = true)
    (ht : P.underlying t = some (.slice el)) (hz : szP P el = some sz) (h : ev base sl (.indexA sz x' i') e σ = some r) : SimOp P o a w G ρ r.1 r.2 := by
  have h1 := okOpd_rep hx he
  have h2 := okOpd_rep hi he
  generalize hu : a.eval x = u at h1
  generalize hv : a.eval i = v at h2
  have run : ∀ (ad : Addr) (n c : Nat) (k : IntKind) (j : Int), u = .slice (some ad) n c → v = .int k j → 0 ≤ j → j.toNat < n → (execOp a.eval o).run P w = .ok (.value (.pointer (some (ad.add (j.toNat * sz))))) w := by
    rintro ad n c k j rfl rfl h0 hlt
    have hc : 0 ≤ j ∧ j < (n : Int) := ⟨h0, by omega⟩
    simp [execOp, ho, hu, hv, Instr.indexAt, run_underlying ht, asIntOf, hc, run_sizeOf hz]
  simp only [ev] at h
  split at h
  · rename_i j hj
    obtain ⟨k, rfl, _⟩ := rep_num hj h2
    split at h
    · rename_i h0
      split at h
      · rename_i es hv'
        split at h
        · rename_i y hy
          split at h
          · rename_i hcell
            cases h
            rw [hv'] at h1
            obtain ⟨ad, cap, rfl, hc, hcase⟩ := rep_sl (rep_p h1)
            have hlt := get_lt hy
            rcases hcase with rfl | ⟨blk, off, arr, el', fr, s, rfl, hg, hh, hfit, hlen, hk⟩
            · simp at hlt
            have hsz : s = sz := by rw [← hlen _ y hy, hcell]
            subst hsz
            refine SimOp.quiet hs (run _ _ _ _ _ rfl rfl h0 hlt) ?_
            rw [add_at]
            have hm : (j.toNat + 1) * s ≤ es.length * s := Nat.mul_le_mul_right _ hlt
            rw [Nat.succ_mul] at hm
            exact .rp y 0 blk (off + j.toNat * s) arr el' fr hg hh (by rw [hcell]; omega) fun k c u hc hu => hk j.toNat y k c u hy hc hu
          · cases h
        · cases h
      · rename_i b off n hv'
        split at h
        · rename_i hlt
          cases h
          rw [hv'] at h1
          obtain ⟨ad, cap, rfl, hc, hok⟩ := rep_own h1
          obtain ⟨l, hl, hcase⟩ := bsz_spec hs hlt.2
          simp only [OwnOk, hl] at hok
          rcases hcase with ⟨blk, o', tot, rfl⟩ | rfl
          · rcases hok with rfl | ⟨rfl, hfit⟩
            · omega
            · refine SimOp.quiet hs (run _ _ _ _ _ rfl rfl h0 hlt.1) (.ptr _ _ _ _ ?_)
              simp only [PtrOk, hl]
              rw [add_at]
              simp [Nat.add_mul, Nat.add_assoc]
          · simp only at hok; omega
        · cases h
      · cases h
    · cases h
  · cases h

theorem lenV_spec {c : CV} {n : Nat} {v : Value} {ad : Option Addr} {m cap : Nat} (hv : v = .slice ad m cap) (h : lenV c = some n) (hr : RepC w G ρ c v) : m = n := by
  subst hv
  unfold lenV at h
  split at h
  · cases h; obtain ⟨_, _, he, _⟩ := rep_sl (rep_p hr); cases he; rfl
  · cases h; obtain ⟨_, _, he, _⟩ := rep_own hr; cases he; rfl
  · cases h; have := rep_nils hr; cases this; rfl
  · cases h

theorem slice_spec {c : CV} {n : Nat} {v : Value} (h : lenV c = some n) (hr : RepC w G ρ c v) : ∃ ad cap, v = .slice ad n cap ∧ n ≤ cap := by
  unfold lenV at h
  split at h
  · cases h; obtain ⟨ad, cap, he, hc, _⟩ := rep_sl (rep_p hr); exact ⟨ad, cap, he, hc⟩
  · cases h; obtain ⟨ad, cap, he, hc, _⟩ := rep_own hr; exact ⟨ad, cap, he, hc⟩
  · cases h; have := rep_nils hr; exact ⟨none, 0, this, Nat.le_refl _⟩
  · cases h

theorem sim_len {t : TypeId} {x : Operand} {x' : Opd} {r : CV × Store} (hs : St w G ρ σ) (he : RepE w G ρ e a.tmps) (ho : ∃ c : Call, o.op = .call c ∧ c.callee = .builtin .len ∧ c.args = #[x] ∧ c.argTypes = #[t]) (hx : okOpd x x' = true)
    (ht : (sliceElem P t).isSome = true) (h : ev base sl (.len x') e σ = some r) : SimOp P o a w G ρ r.1 r.2 := by
  obtain ⟨el, hel⟩ := Option.isSome_iff_exists.1 ht
  have hu' : P.underlying t = some (.slice el) := by
    unfold sliceElem at hel; split at hel
    · rename_i h2; cases hel; exact h2
    · cases hel
  have h1 := okOpd_rep hx he
  generalize hu : a.eval x = u at h1
  obtain ⟨c, ho, hc1, hc2, hc3⟩ := ho
  simp only [ev, Option.map_eq_some_iff] at h
  obtain ⟨n, hn, rfl⟩ := h
  obtain ⟨ad, cap, rfl, hcap⟩ := slice_spec hn h1
  refine SimOp.quiet (v := .int .i64 n) hs ?_ (.p _ _ (.int _ _))
  simp [execOp, ho, resolve, hc1, hc2, hc3, hu, invoke, builtin, Builtin.len_, run_underlying hu', goInt]

theorem sim_mx {x y : Operand} {x' y' : Opd} {r : CV × Store} (hs : St w G ρ σ) (he : RepE w G ρ e a.tmps) (ho : ∃ c : Call, o.op = .call c ∧ c.callee = .builtin .max ∧ c.args = #[x, y]) (hx : okOpd x x' = true) (hy : okOpd y y' = true)
    (h : ev base sl (.mx x' y') e σ = some r) : SimOp P o a w G ρ r.1 r.2 := by
  have h1 := okOpd_rep hx he
  have h2 := okOpd_rep hy he
  generalize hu : a.eval x = u at h1
  generalize hv : a.eval y = v at h2
  obtain ⟨c, ho, hc1, hc2⟩ := ho
  simp only [ev] at h
  split at h
  · rename_i k p k' q hp hq
    cases h
    rw [hp] at h1
    rw [hq] at h2
    have r1 := rep_p h1
    have r2 := rep_p h2
    cases r1
    cases r2
    refine SimOp.quiet hs (by simp [execOp, ho, resolve, hc1, hc2, hu, hv, invoke, builtin, Builtin.max_, Builtin.max2]) (.p _ _ (.int _ _))
  · cases h

theorem sim_mn {x y : Operand} {x' y' : Opd} {r : CV × Store} (hs : St w G ρ σ) (he : RepE w G ρ e a.tmps) (ho : ∃ c : Call, o.op = .call c ∧ c.callee = .builtin .min ∧ c.args = #[x, y]) (hx : okOpd x x' = true) (hy : okOpd y y' = true)
    (h : ev base sl (.mn x' y') e σ = some r) : SimOp P o a w G ρ r.1 r.2 := by
  have h1 := okOpd_rep hx he
  have h2 := okOpd_rep hy he
  generalize hu : a.eval x = u at h1
  generalize hv : a.eval y = v at h2
  obtain ⟨c, ho, hc1, hc2⟩ := ho
  simp only [ev] at h
  split at h
  · rename_i k p k' q hp hq
    cases h
    rw [hp] at h1
    rw [hq] at h2
    have r1 := rep_p h1
    have r2 := rep_p h2
    cases r1
    cases r2
    refine SimOp.quiet hs (by simp [execOp, ho, resolve, hc1, hc2, hu, hv, invoke, builtin, Builtin.min_, Builtin.min2]) (.p _ _ (.int _ _))
  · cases h

theorem sim_extract {i : Nat} {x : Operand} {x' : Opd} {r : CV × Store} (hs : St w G ρ σ) (he : RepE w G ρ e a.tmps) (ho : o.op = .extract x i) (hx : okOpd x x' = true) (h : ev base sl (.extract x' i) e σ = some r) : SimOp P o a w G ρ r.1 r.2 := by
  have h1 := okOpd_rep hx he
  generalize hu : a.eval x = u at h1
  simp only [ev] at h
  split at h
  · rename_i cs hv
    rw [hv] at h1
    obtain ⟨vs, rfl, hl, hk⟩ := rep_tup h1
    simp only [Option.map_eq_some_iff] at h
    obtain ⟨y, hy, rfl⟩ := h
    have hlt := get_lt hy
    have hvi : vs[i]? = some (vs[i]'(by omega)) := by simp
    exact SimOp.quiet hs (by simp [execOp, ho, hu, Instr.extract, hvi]) (hk i y _ hy hvi)
  · cases h

theorem sim_idx {tab : List Nat} {t : TypeId} {s : ByteArray} {x : Operand} {x' : Opd} {r : CV × Store} (hs : St w G ρ σ) (he : RepE w G ρ e a.tmps) (ho : o.op = .index t (.const (.string s)) x) (hx : okOpd x x' = true) (ht : isStrT P t = true)
    (htab : s.data.toList.map (·.toNat) = tab) (h : ev base sl (.idx tab x') e σ = some r) : SimOp P o a w G ρ r.1 r.2 := by
  have h1 := okOpd_rep hx he
  have hu : P.underlying t = some .string := by
    unfold isStrT at ht; split at ht
    · assumption
    · cases ht
  simp only [ev] at h
  split at h
  · rename_i i hi
    obtain ⟨k, hk, _⟩ := rep_num hi h1
    split at h
    · rename_i h0
      split at h
      · rename_i v hv
        cases h
        have hlt : i.toNat < s.size := by
          have := get_lt hv
          rw [← htab] at this
          rw [List.length_map, Array.length_toList] at this
          exact this
        have hval : (s[i.toNat]'hlt).toNat = v := by
          rw [← htab, List.getElem?_map] at hv
          have h2 : s.data.toList[i.toNat]? = some (s[i.toNat]'hlt) := by
            rw [List.getElem?_eq_getElem (by rw [Array.length_toList]; exact hlt)]; rfl
          rw [h2] at hv
          simpa using hv
        refine SimOp.quiet (v := .int .u8 v) hs ?_ (.p _ _ (.int _ _))
        have hcond : 0 ≤ i ∧ i < s.size := ⟨h0, by omega⟩
        have := run_index_string w t s k i hu
        rw [dif_pos hcond, hval] at this
        have hc : a.eval (.const (.string s)) = .string s := rfl
        simp only [execOp, ho, hc, hk, Sem.run_bind, this, Result.andThen_ok, Sem.run_pure]
      · cases h
    · cases h
  · cases h

theorem okOpds_rep : ∀ {xs : List Operand} {ys : List Opd}, okOpds xs ys = true → RepE w G ρ e a.tmps → ys.length = xs.length ∧ ∀ (k : Nat) c v, (ys.map (vl e))[k]? = some c → (xs.map a.eval)[k]? = some v → RepC w G ρ c v
  | [], [], _, _ => ⟨rfl, by simp⟩
  | x :: xs, y :: ys, h, he => by
    simp only [okOpds, Bool.and_eq_true] at h
    obtain ⟨h1, h2⟩ := okOpds_rep h.2 he
    refine ⟨by simp [h1], ?_⟩
    intro k c v hc hv
    cases k with
    | zero => simp at hc hv; subst hc hv; exact okOpd_rep h.1 he
    | succ k => exact h2 k c v (by simpa using hc) (by simpa using hv)
  | [], _ :: _, h, _ => by simp [okOpds] at h
  | _ :: _, [], h, _ => by simp [okOpds] at h

theorem sim_mkfn {f : Nat} {fi cap : Array Operand} {cs : List Opd} {r : CV × Store} (hs : St w G ρ σ) (he : RepE w G ρ e a.tmps) (ho : o.op = .makeFunc (.func f) fi cap) (hfi : fi.size = 0) (hc : okOpds cap.toList cs = true)
    (h : ev base sl (.mkfn f cs) e σ = some r) : SimOp P o a w G ρ r.1 r.2 := by
  simp only [ev] at h
  cases h
  obtain ⟨h1, h2⟩ := okOpds_rep hc he
  have hfi' : fi = #[] := by simpa using hfi
  refine SimOp.quiet (v := .func (.func f) #[] (cap.toList.map a.eval).toArray) hs ?_ (.fn f _ _ (by simp [h1]) h2)
  have hcap : cap.map a.eval = (cap.toList.map a.eval).toArray := by cases cap; simp
  simp [execOp, ho, Instr.makeFunc, hfi', hcap]

theorem run_slice_all {t el : TypeId} {sz : Nat} (hu : P.underlying t = some (.slice el)) (hz : szP P el = some sz) (ad : Option Addr) (n cap : Nat) (lo hi mx : Option Value) (l h m : Nat)
    (hlo : lo = none ∧ l = 0 ∨ ∃ k i, lo = some (.int k i) ∧ 0 ≤ i ∧ i.toNat = l) (hhi : hi = none ∧ h = n ∧ mx = none ∨ ∃ k i, hi = some (.int k i) ∧ 0 ≤ i ∧ i.toNat = h)
    (hmx : mx = none ∧ m = cap ∨ ∃ k i, mx = some (.int k i) ∧ 0 ≤ i ∧ i.toNat = m) (h1 : l ≤ h) (h2 : h ≤ m) (h3 : m ≤ cap) :
    (Instr.sliceAt t (.slice ad n cap) lo hi mx).run P w = .ok (.slice (if m = l then ad else ad.map (·.add (l * sz))) (h - l) (m - l)) w := by
  have b : ∀ (k : IntKind) (i : Int) (y x : Nat) (code : BoundsCode), 0 ≤ i → i.toNat = x → x ≤ y → (Instr.sliceBound (.int k i) y code).run P w = .ok x w := by
    rintro k i y x code h0 rfl hle
    have hc : 0 ≤ i ∧ i ≤ (y : Int) := ⟨h0, by omega⟩
    simp [Instr.sliceBound, asIntOf, hc]
  rcases hmx with ⟨rfl, rfl⟩ | ⟨k3, i3, rfl, hi3, hm⟩
  · rcases hhi with ⟨rfl, rfl, _⟩ | ⟨k2, i2, rfl, hi2, hh⟩
    · rcases hlo with ⟨rfl, rfl⟩ | ⟨k1, i1, rfl, hi1, hl⟩
      · simp [Instr.sliceAt, Instr.slice, Instr.sliceBounds, run_underlying hu, run_sizeOf hz]
      · simp [Instr.sliceAt, Instr.slice, Instr.sliceBounds, run_underlying hu, run_sizeOf hz, b _ _ _ _ _ hi1 hl h1]
    · rcases hlo with ⟨rfl, rfl⟩ | ⟨k1, i1, rfl, hi1, hl⟩
      · simp [Instr.sliceAt, Instr.slice, Instr.sliceBounds, run_underlying hu, run_sizeOf hz, b _ _ _ _ _ hi2 hh h2]
      · simp [Instr.sliceAt, Instr.slice, Instr.sliceBounds, run_underlying hu, run_sizeOf hz, b _ _ _ _ _ hi2 hh h2, b _ _ _ _ _ hi1 hl h1]
  · rcases hhi with ⟨_, _, hx⟩ | ⟨k2, i2, rfl, hi2, hh⟩
    · cases hx
    · rcases hlo with ⟨rfl, rfl⟩ | ⟨k1, i1, rfl, hi1, hl⟩
      · simp [Instr.sliceAt, Instr.slice, Instr.sliceBounds, run_underlying hu, run_sizeOf hz, b _ _ _ _ _ hi3 hm h3, b _ _ _ _ _ hi2 hh h2]
      · simp [Instr.sliceAt, Instr.slice, Instr.sliceBounds, run_underlying hu, run_sizeOf hz, b _ _ _ _ _ hi3 hm h3, b _ _ _ _ _ hi2 hh h2, b _ _ _ _ _ hi1 hl h1]

/-- what a slice expression of the evaluator is -/
theorem sliceV_rep {c d : CV} {sz n l h m : Nat} {ad : Option Addr} {cap : Nat} (hs : St w G ρ σ) (hv : sliceV σ sz c l h = some d) (hr : RepC w G ρ c (.slice ad n cap)) (hm1 : h ≤ m) (hm2 : m ≤ cap) (_hn : n ≤ cap) :
    RepC w G ρ d (.slice (if m = l then ad else ad.map (·.add (l * sz))) (h - l) (m - l)) := by
  unfold sliceV at hv
  split at hv
  · rename_i hlh
    split at hv
    · rename_i es
      split at hv
      · rename_i hc
        cases hv
        obtain ⟨ad', cap', he, hcap, hcase⟩ := rep_sl (rep_p hr)
        cases he
        by_cases hz : h - l = 0
        · have : (es.drop l).take (h - l) = [] := by rw [hz]; rfl
          rw [this, hz]
          exact .p _ _ (.nil _ _)
        · rcases hcase with rfl | ⟨blk, off, arr, el, fr, s, rfl, hg, hh, hfit, hlen, hk⟩
          · simp at hc; omega
          · have hml : ¬ m = l := by omega
            rw [if_neg hml]
            simp only [Option.map_some]
            rw [add_at]
            have hoff : l * sz = l * s := by
              rcases hc.2 with rfl | hall
              · simp
              · have h0 : es[0]? = some (es[0]'(by omega)) := by simp
                have e1 := hlen 0 _ h0
                have e2 : (es[0]'(by omega)).cells.length = sz := by simpa using List.all_eq_true.1 hall _ (List.getElem_mem (by omega))
                rw [← e1, e2]
            rw [hoff]
            have hlen2 : ((es.drop l).take (h - l)).length = h - l := by simp; omega
            have hmul : l * s + (h - l) * s ≤ es.length * s := by rw [← Nat.add_mul]; exact Nat.mul_le_mul_right _ (by omega)
            have := RepP.sl (w := w) (G := G) ((es.drop l).take (h - l)) blk (off + l * s) arr el fr (m - l) s hg hh (by rw [hlen2]; omega) (by rw [hlen2]; omega)
              (by
                intro i e he
                rw [List.getElem?_take] at he
                split at he
                · rw [List.getElem?_drop] at he; exact hlen _ _ he
                · cases he)
              (by
                intro i e k c u he hc hu
                rw [List.getElem?_take] at he
                split at he
                · rw [List.getElem?_drop] at he
                  exact (hk (l + i) e k c u he hc (by rw [Nat.add_mul]; rw [show off + (l * s + i * s) + k = off + l * s + i * s + k by omega]; exact hu)).1
                · cases he)
              (by
                intro i e k u he hks hu
                rw [List.getElem?_take] at he
                split at he
                · rw [List.getElem?_drop] at he
                  have hcl := hlen _ _ he
                  exact (hk (l + i) e k (e.cells[k]'(by omega)) u he (by simp) (by rw [Nat.add_mul]; rw [show off + (l * s + i * s) + k = off + l * s + i * s + k by omega]; exact hu)).2
                · cases he)
            rw [hlen2] at this
            exact .p _ _ this
      · cases hv
    · rename_i b off n'
      split at hv
      · rename_i hc
        cases hv
        obtain ⟨ad', cap', he, hcap, hok⟩ := rep_own hr
        cases he
        obtain ⟨loc, hloc, hcase⟩ := bsz_spec hs hc.2
        refine .own _ _ _ _ _ (by omega) ?_
        simp only [OwnOk, hloc] at hok ⊢
        rcases hcase with ⟨blk, o', tot, rfl⟩ | rfl
        · simp only at hok ⊢
          by_cases hml : m = l
          · left; omega
          · right
            rcases hok with rfl | ⟨rfl, hfit⟩
            · omega
            · rw [if_neg hml]
              simp only [Option.map_some]
              rw [add_at]
              refine ⟨by simp [Nat.add_mul, Nat.add_assoc], ?_⟩
              have : (off + l + (m - l)) * sz ≤ (off + cap) * sz := Nat.mul_le_mul_right _ (by omega)
              omega
        · simp only at hok ⊢; omega
      · cases hv
    · split at hv
      · rename_i hc
        cases hv
        have := rep_nils hr
        cases this
        have : m = l := by omega
        subst this
        have : h = 0 := by omega
        subst this
        simp only [if_true]
        have h2 : m = 0 := by omega
        subst h2
        exact .nils
      · cases hv
    · cases hv
  · cases hv

theorem sliceV_le {c d : CV} {sz n l h : Nat} (hv : sliceV σ sz c l h = some d) (hn : lenV c = some n) : h ≤ n := by
  unfold sliceV at hv
  unfold lenV at hn
  split at hv
  · split at hv
    · simp only at hn
      cases hn
      split at hv
      · omega
      · cases hv
    · simp only at hn
      cases hn
      split at hv
      · omega
      · cases hv
    · split at hv
      · omega
      · cases hv
    · cases hv
  · cases hv

theorem bnd_spec {x : Option Operand} {x' : Option Opd} {d n : Nat} (he : RepE w G ρ e a.tmps) (hx : okOpt x x' = true) (h : bnd e x' d = some n) :
    (x.map a.eval = none ∧ x' = none ∧ n = d) ∨ ∃ k i, x.map a.eval = some (.int k i) ∧ 0 ≤ i ∧ i.toNat = n := by
  unfold okOpt at hx
  split at hx
  · simp only [bnd] at h; cases h; exact .inl ⟨rfl, rfl, rfl⟩
  · rename_i x y
    simp only [bnd] at h
    split at h
    · rename_i i hi
      split at h
      · rename_i h0
        cases h
        obtain ⟨k, hk, _⟩ := rep_num hi (okOpd_rep hx he)
        exact .inr ⟨k, i, by simp [hk], h0, rfl⟩
      · cases h
    · cases h
  · cases hx

theorem sim_slice {sz : Nat} {t el : TypeId} {x : Operand} {lo hi mx : Option Operand} {x' : Opd} {lo' hi' mx' : Option Opd} {r : CV × Store} (hs : St w G ρ σ) (he : RepE w G ρ e a.tmps) (ho : o.op = .slice t x lo hi mx)
    (hx : okOpd x x' = true) (hlo : okOpt lo lo' = true) (hhi : okOpt hi hi' = true) (hmx : okOpt mx mx' = true) (hmh : (mx.isNone || hi.isSome) = true)
    (ht : P.underlying t = some (.slice el)) (hz : szP P el = some sz) (h : ev base sl (.slice sz x' lo' hi' mx') e σ = some r) : SimOp P o a w G ρ r.1 r.2 := by
  have h1 := okOpd_rep hx he
  generalize hu : a.eval x = u at h1
  simp only [ev] at h
  split at h
  · rename_i n hn
    obtain ⟨ad, cap, rfl, hcap⟩ := slice_spec hn h1
    split at h
    · rename_i l hh hl' hh'
      have bl := bnd_spec he hlo hl'
      have bh := bnd_spec he hhi hh'
      have hlo2 : lo.map a.eval = none ∧ l = 0 ∨ ∃ k i, lo.map a.eval = some (.int k i) ∧ 0 ≤ i ∧ i.toNat = l := by
        rcases bl with ⟨x1, _, x2⟩ | x1
        · exact .inl ⟨x1, x2⟩
        · exact .inr x1
      have fin : ∀ (m : Nat) (d : CV), sliceV σ sz (vl e x') l hh = some d → r = (d, σ) → hh ≤ m → m ≤ cap → (mx.map a.eval = none ∧ m = cap ∨ ∃ k i, mx.map a.eval = some (.int k i) ∧ 0 ≤ i ∧ i.toNat = m) → SimOp P o a w G ρ r.1 r.2 := by
        rintro m d hd rfl hm1 hm2 hmm
        have hlh : l ≤ hh := by
          unfold sliceV at hd
          split at hd
          · assumption
          · cases hd
        have hhi2 : hi.map a.eval = none ∧ hh = n ∧ mx.map a.eval = none ∨ ∃ k i, hi.map a.eval = some (.int k i) ∧ 0 ≤ i ∧ i.toNat = hh := by
          rcases bh with ⟨x1, _, x2⟩ | x1
          · refine .inl ⟨x1, x2, ?_⟩
            cases mx with
            | none => rfl
            | some y => cases hi with
              | none => simp at hmh
              | some z => simp at x1
          · exact .inr x1
        have hrun := run_slice_all (P := P) (w := w) ht hz ad n cap (lo.map a.eval) (hi.map a.eval) (mx.map a.eval) l hh m hlo2 hhi2 hmm hlh hm1 hm2
        refine SimOp.quiet hs ?_ (sliceV_rep hs hd h1 hm1 hm2 hcap)
        simp only [execOp, ho, hu, Sem.run_bind, hrun, Result.andThen_ok, Sem.run_pure]
      cases hmx0 : mx' with
      | none =>
        rw [hmx0] at h
        simp only [Option.map_eq_some_iff] at h
        obtain ⟨d, hd, rfl⟩ := h
        have hle : hh ≤ cap := Nat.le_trans (sliceV_le hd hn) hcap
        refine fin cap d hd rfl hle (Nat.le_refl _) (.inl ⟨?_, rfl⟩)
        rw [hmx0] at hmx
        cases mx with
        | none => rfl
        | some y => simp [okOpt] at hmx
      | some y =>
        rw [hmx0] at h
        simp only at h
        split at h
        · rename_i m hm
          split at h
          · rename_i hc
            simp only [Option.map_eq_some_iff] at h
            obtain ⟨d, hd, rfl⟩ := h
            refine fin m.toNat d hd rfl hc.2.1 (by omega) (.inr ?_)
            rw [hmx0] at hmx
            cases mx with
            | none => simp [okOpt] at hmx
            | some z =>
              obtain ⟨k, hk, _⟩ := rep_num hm (okOpd_rep hmx he)
              exact ⟨k, m, by simp [hk], hc.1, rfl⟩
          · cases h
        · cases h
    · cases h
  · cases h

end
end Go.Proofs.YtnbglampelmgoaaGreat.Vpi
