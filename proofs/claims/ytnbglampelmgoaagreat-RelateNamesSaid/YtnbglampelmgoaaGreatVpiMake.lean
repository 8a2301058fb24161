/- The verified interpreter, part 8: literals and new memory. -/
import Derived.Test.YtnbglampelmgoaaGreatVpiRead
namespace Go.Proofs.YtnbglampelmgoaaGreat.Vpi
open Go
set_option linter.unusedVariables false
set_option linter.unusedSimpArgs false
section
variable {P : Program} {o : Oper} {w : World} {G : Nat → Prop} {ρ : List Loc} {σ : Store} {e : Env} {a : Act} {base : Nat} {sl : Option Nat}

theorem run_places : ∀ (fs : List Field), (∀ f ∈ fs, (szP P f.type).isSome = true) →
    (fs.mapM fun f => (do pure (f.offset, ← sizeOf f.type) : Sem (Nat × Nat))).run P w = .ok (fs.map fun f => (f.offset, (szP P f.type).getD 0)) w
  | [], _ => by simp
  | f :: fs, h => by
    obtain ⟨n, hn⟩ := Option.isSome_iff_exists.1 (h f (by simp))
    have ih := run_places fs fun g hg => h g (by simp [hg])
    rw [List.mapM_cons]
    simp only [Sem.run_bind, run_sizeOf hn, Result.andThen_ok, Sem.run_pure, ih, List.map_cons, hn, Option.getD_some]

theorem foldl_set : ∀ (vs : List Value) (k off : Nat) (arr : Array Value) (i : Nat),
    ((vs.zipIdx k).foldl (fun cs (x : Value × Nat) => cs.setIfInBounds (off + x.2) x.1) arr)[i]? = if off + k ≤ i ∧ i < off + k + vs.length ∧ i < arr.size then vs[i - (off + k)]? else arr[i]?
  | [], k, off, arr, i => by
    rw [if_neg (by simp; omega)]; rfl
  | v :: vs, k, off, arr, i => by
    rw [List.zipIdx_cons, List.foldl_cons, foldl_set vs (k + 1) off (arr.setIfInBounds (off + k) v) i]
    simp only [Array.size_setIfInBounds, List.length_cons]
    by_cases h1 : i = off + k
    · subst h1
      rw [if_neg (by omega)]
      by_cases h2 : off + k < arr.size
      · rw [if_pos (by omega)]; simp [h2]
      · rw [if_neg (by omega)]; simp [h2]
    · rw [Array.getElem?_setIfInBounds_ne (fun x => h1 x.symm)]
      by_cases h2 : off + k ≤ i ∧ i < off + k + (vs.length + 1) ∧ i < arr.size
      · rw [if_pos h2, if_pos (by omega)]
        rw [show i - (off + k) = (i - (off + (k + 1))) + 1 by omega, List.getElem?_cons_succ]
      · rw [if_neg h2, if_neg (by omega)]

/-- cells of the model against cells of the evaluator -/
structure CellsRep (w : World) (G : Nat → Prop) (ρ : List Loc) (cs : List CV) (vs : Array Value) : Prop where
  len : cs.length = vs.size
  rep : ∀ (k : Nat) c v, cs[k]? = some c → vs[k]? = some v → RepC w G ρ c v
  one : ∀ v ∈ vs, v.oneCell' = true

theorem setCells_get {α : Type} (cs xs : List α) (off i : Nat) (h : off + xs.length ≤ cs.length) : (setCells cs off xs)[i]? = if off ≤ i ∧ i < off + xs.length then xs[i - off]? else cs[i]? := by
  unfold setCells
  rcases Nat.lt_or_ge i off with h1 | h1
  · rw [if_neg (by omega), List.append_assoc, List.getElem?_append_left (by simp; omega), List.getElem?_take, if_pos h1]
  · rcases Nat.lt_or_ge i (off + xs.length) with h2 | h2
    · rw [if_pos ⟨h1, h2⟩, List.getElem?_append_left (by simp; omega), List.getElem?_append_right (by simp; omega)]
      congr 1; simp; omega
    · rw [if_neg (by omega), List.getElem?_append_right (by simp; omega), List.getElem?_drop]
      congr 1; simp; omega

theorem setCells_len {α : Type} (cs xs : List α) (off : Nat) (h : off + xs.length ≤ cs.length) : (setCells cs off xs).length = cs.length := by
  unfold setCells; simp; omega

theorem CellsRep.set {cs xs : List CV} {vs us : Array Value} {off : Nat} (h : CellsRep w G ρ cs vs) (hx : CellsRep w G ρ xs us) (hf : off + xs.length ≤ cs.length) :
    CellsRep w G ρ (setCells cs off xs) (us.zipIdx.foldl (fun cs (x : Value × Nat) => cs.setIfInBounds (off + x.2) x.1) vs) := by
  have hg : ∀ i : Nat, (us.zipIdx.foldl (fun cs (x : Value × Nat) => cs.setIfInBounds (off + x.2) x.1) vs)[i]? = if off ≤ i ∧ i < off + xs.length then us[i - off]? else vs[i]? := by
    intro i
    have := foldl_set us.toList 0 off vs i
    rw [← Array.foldl_toList]
    simp only [Array.toList_zipIdx]
    rw [this]
    have h1 := h.len
    have h2 := hx.len
    simp only [Nat.add_zero, Array.length_toList]
    by_cases hc : off ≤ i ∧ i < off + xs.length
    · rw [if_pos hc, if_pos (by omega)]; simp
    · rw [if_neg hc, if_neg (by omega)]
  have hsz : (us.zipIdx.foldl (fun cs (x : Value × Nat) => cs.setIfInBounds (off + x.2) x.1) vs).size = vs.size := by
    have h1 := h.len
    have h2 := hx.len
    rcases Nat.lt_trichotomy (us.zipIdx.foldl (fun cs (x : Value × Nat) => cs.setIfInBounds (off + x.2) x.1) vs).size vs.size with h3 | h3 | h3
    · have := hg (us.zipIdx.foldl (fun cs (x : Value × Nat) => cs.setIfInBounds (off + x.2) x.1) vs).size
      rw [Array.getElem?_eq_none (Nat.le_refl _)] at this
      split at this
      · rw [Array.getElem?_eq_getElem (by omega)] at this; cases this
      · rw [Array.getElem?_eq_getElem h3] at this; cases this
    · exact h3
    · have := hg vs.size
      rw [Array.getElem?_eq_getElem h3] at this
      split at this
      · omega
      · rw [Array.getElem?_eq_none (Nat.le_refl _)] at this; cases this
  constructor
  · rw [setCells_len _ _ _ hf, hsz]; exact h.len
  · intro k c v hc hv
    rw [setCells_get _ _ _ _ hf] at hc
    rw [hg] at hv
    by_cases hcase : off ≤ k ∧ k < off + xs.length
    · rw [if_pos hcase] at hc hv; exact hx.rep _ c v hc hv
    · rw [if_neg hcase] at hc hv; exact h.rep _ c v hc hv
  · intro v hv
    obtain ⟨i, hi⟩ := Array.getElem?_of_mem hv
    rw [hg] at hi
    split at hi
    · exact hx.one v (Array.mem_of_getElem? hi)
    · exact h.one v (Array.mem_of_getElem? hi)

theorem rep_cells {c : CV} {v : Value} {cs : List CV} (h : RepC w G ρ c v) (hc : c.cells = some cs) : CellsRep w G ρ cs v.cells :=
  let ⟨h1, h2, h3⟩ := h.cells hc; ⟨h1, h2, h3⟩

theorem fill_rep {fs : Array Field} (he : RepE w G ρ e a.tmps) : ∀ (ps : List (Nat × Operand)) (qs : List (Nat × Nat × Opd)) (zs cs : List CV) (vs : Array Value), okParts P fs ps qs = true → fill zs e qs = some cs → CellsRep w G ρ zs vs →
    ∃ us, Instr.fill (fun i => (fs[i]?).map fun f => (f.offset, (szP P f.type).getD 0)) vs (ps.map fun x => (x.1, a.eval x.2)) = some us ∧ CellsRep w G ρ cs us
  | [], [], zs, cs, vs, _, h, hr => by
    simp only [fill] at h; cases h; exact ⟨vs, rfl, hr⟩
  | (i, x) :: ps, (off, sz, y) :: qs, zs, cs, vs, hok, h, hr => by
    simp only [okParts, Bool.and_eq_true] at hok
    obtain ⟨⟨h1, h2⟩, h3⟩ := hok
    simp only [fill] at h
    split at h
    · rename_i xs hxs
      split at h
      · rename_i hc
        have hx := rep_cells (okOpd_rep h2 he) hxs
        cases hfi : fs[i]? with
        | none => rw [hfi] at h1; cases h1
        | some f =>
          rw [hfi] at h1
          simp only [Bool.and_eq_true, beq_iff_eq] at h1
          obtain ⟨us, hus, hrep⟩ := fill_rep he ps qs _ cs _ h3 h (hr.set hx (by rw [hc.1]; exact hc.2))
          refine ⟨us, ?_, hrep⟩
          simp only [List.map_cons, Instr.fill, hfi, Option.map_some, h1.1, h1.2, Option.getD_some]
          have e1 : (a.eval x).cells.size = sz := by rw [← hx.len, hc.1]
          rw [if_neg (by simp [e1]; have := hr.len; omega)]
          exact hus
      · cases h
    · cases h
  | [], _ :: _, _, _, _, h, _, _ => by simp [okParts] at h
  | _ :: _, [], _, _, _, h, _, _ => by simp [okParts] at h

theorem zero_rep {t : TypeId} {zs : List CV} (h : (match (P.info? t).bind (·.zero) with | some z => okCs z.cells.toList zs && oneAll z.cells.toList | none => false) = true) :
    ∃ z, (zeroValue t).run P w = .ok z w ∧ CellsRep w G ρ zs z.cells := by
  split at h
  · rename_i z hz
    simp only [Bool.and_eq_true] at h
    obtain ⟨h1, h2⟩ := okCs_len (w := w) (G := G) (ρ := ρ) h.1
    refine ⟨z, ?_, ⟨by simpa using h1, by simpa using h2, fun v hv => List.all_eq_true.1 h.2 v (by simpa using hv)⟩⟩
    cases hi : P.info? t with
    | none => rw [hi] at hz; cases hz
    | some i => rw [hi] at hz; simp only [Option.bind_some] at hz; simp [zeroValue, typeInfo, hi, hz]
  · cases h

theorem mkAgg_cells {cs : List CV} {vs : Array Value} (h : CellsRep w G ρ cs vs) : RepC w G ρ (mkAgg cs) (.agg vs) := by
  have := mkAgg_rep (vs := vs.toList) (by simpa using h.len) (by simpa using h.rep) (fun v hv => h.one v (by simpa using hv))
  simpa using this

theorem sim_build {t : TypeId} {ps : Array (Nat × Operand)} {zs : List CV} {qs : List (Nat × Nat × Opd)} {fs : Array Field} {r : CV × Store} (hs : St w G ρ σ) (he : RepE w G ρ e a.tmps) (ho : o.op = .build t ps)
    (hz : (match (P.info? t).bind (·.zero) with | some z => okCs z.cells.toList zs && oneAll z.cells.toList | none => false) = true) (ht : P.underlying t = some (.struct fs)) (hfs : fs.all (fun f => (szP P f.type).isSome) = true)
    (hp : okParts P fs ps.toList qs = true) (h : ev base sl (.build zs qs) e σ = some r) : SimOp P o a w G ρ r.1 r.2 := by
  simp only [ev, Option.map_eq_some_iff] at h
  obtain ⟨cs, hcs, rfl⟩ := h
  obtain ⟨z, hz1, hz2⟩ := zero_rep (w := w) (G := G) (ρ := ρ) hz
  obtain ⟨us, hus, hrep⟩ := fill_rep he ps.toList qs zs cs z.cells hp hcs hz2
  have hpl := run_places (P := P) (w := w) fs.toList (by
    intro f hf
    obtain ⟨i, hi, he⟩ := List.getElem_of_mem hf
    have := Array.all_eq_true.1 hfs i (by simpa using hi)
    simpa [← he] using this)
  have hpl' : (fs.mapM fun f => (do pure (f.offset, ← sizeOf f.type) : Sem (Nat × Nat))).run P w = .ok (fs.map fun f => (f.offset, (szP P f.type).getD 0)) w := by
    rw [Array.mapM_eq_mapM_toList, Sem.run_map, hpl]
    cases fs; simp
  have hps : (ps.map fun (i, x) => (i, a.eval x)).toList = ps.toList.map fun x => (x.1, a.eval x.2) := by simp
  have hpf : (fun i : Nat => (fs.map fun f => (f.offset, (szP P f.type).getD 0))[i]?) = fun i => (fs[i]?).map fun f => (f.offset, (szP P f.type).getD 0) := by funext i; simp
  refine SimOp.quiet (v := .agg us) hs ?_ (mkAgg_cells hrep)
  simp only [execOp, ho, Instr.build, Sem.run_bind, hz1, Result.andThen_ok, run_underlying ht, hpl', hps, hpf, hus, Sem.run_pure]

theorem CellsRep.mono {w' : World} {G' : Nat → Prop} {ρ' : List Loc} {cs : List CV} {vs : Array Value} (hw : ∀ k, G k → w'.heap[k]? = w.heap[k]?) (hG : ∀ k, G k → G' k) (hρ : LocExt ρ ρ') (h : CellsRep w G ρ cs vs) : CellsRep w' G' ρ' cs vs :=
  ⟨h.len, fun k c v h1 h2 => (h.rep k c v h1 h2).mono hw hG hρ, h.one⟩

theorem heap_push_same {x : Obj} {w' : World} (hs : St w G ρ σ) (hw : w'.heap = w.heap.push x) : ∀ k, G k → w'.heap[k]? = w.heap[k]? := by
  intro k hk
  have := hs.g k hk
  rw [hw, Array.getElem?_push]
  simp [Nat.ne_of_lt this]

/-- a new box -/
theorem push_box {cs : List CV} {arr : Array Value} {el : TypeId} {σ' : Store} {k : Nat} {w' : World} (hs : St w G ρ σ) (hp : push base sl σ (.kblk cs.length cs) = some (k, σ')) (hc : CellsRep w G ρ cs arr) (hw : w'.heap = w.heap.push (.cells arr el (0, 0))) (hsame : Same w w' := by first | assumption | exact ⟨rfl, rfl, rfl⟩) :
    ∃ ρ', St w' G ρ' σ' ∧ Ext w G ρ w' G ρ' ∧ RepC w' G ρ' (.ptr k 0 0) (.pointer (some ⟨w.heap.size, 0, none⟩)) := by
  obtain ⟨ρ', h1, h2, h3⟩ := hs.push hp arr el cs.length hw (by
    intro ρ' hρ
    have hc' := hc.mono (heap_push_same hs hw) (fun _ x => x) hρ
    refine ⟨rfl, fun hg => Nat.lt_irrefl _ (hs.g _ hg), arr, el, by rw [hw]; simp, rfl, by rw [hc.len]; omega, ?_⟩
    intro k c u hck hu
    simp only [Nat.zero_add] at hu
    exact ⟨hc'.rep k c u hck hu, hc'.one u (Array.mem_of_getElem? hu)⟩)
  exact ⟨ρ', h1, h2, .ptr _ _ _ _ (by simp [PtrOk, h3])⟩

/-- a new row -/
theorem push_row {es : List PV} {sz n cap : Nat} {arr : Array Value} {el : TypeId} {σ' : Store} {k : Nat} {w' : World} (hs : St w G ρ σ) (hp : push base sl σ (.prow sz es) = some (k, σ')) (hw : w'.heap = w.heap.push (.cells arr el (0, 0)))
    (hn : n ≤ cap) (hcap : cap * sz ≤ arr.size) (hfit : es.length * sz ≤ arr.size) (hlen : ∀ (i : Nat) e, es[i]? = some e → e.cells.length = sz)
    (hk : ∀ (i : Nat) e (k : Nat) c u, es[i]? = some e → e.cells[k]? = some c → arr[i * sz + k]? = some u → RepP w G c u ∧ u.oneCell' = true) (hsame : Same w w' := by first | assumption | exact ⟨rfl, rfl, rfl⟩) :
    ∃ ρ', St w' G ρ' σ' ∧ Ext w G ρ w' G ρ' ∧ RepC w' G ρ' (.own k 0 n) (.slice (some ⟨w.heap.size, 0, none⟩) n cap) := by
  obtain ⟨ρ', h1, h2, h3⟩ := hs.push hp arr el sz hw (by
    intro ρ' hρ
    refine ⟨rfl, fun hg => Nat.lt_irrefl _ (hs.g _ hg), arr, el, by rw [hw]; simp, rfl, by omega, hlen, ?_⟩
    intro i e k c u h1 h2 h3
    rw [Nat.zero_add] at h3
    obtain ⟨a1, a2⟩ := hk i e k c u h1 h2 h3
    exact ⟨a1.mono (heap_push_same hs hw) (fun _ x => x), a2⟩)
  exact ⟨ρ', h1, h2, .own _ _ _ _ _ hn (by simp only [OwnOk, h3]; right; exact ⟨by simp, by simp; exact hcap⟩)⟩

theorem sim_alloc {t : TypeId} {zs : List CV} {r : CV × Store} (hs : St w G ρ σ) (ho : o.op = .alloc t)
    (hz : (match (P.info? t).bind (·.zero) with | some z => okCs z.cells.toList zs && oneAll z.cells.toList | none => false) = true) (h : ev base sl (.alloc zs) e σ = some r) : SimOp P o a w G ρ r.1 r.2 := by
  simp only [ev, Option.map_eq_some_iff] at h
  obtain ⟨⟨k, σ'⟩, hp, rfl⟩ := h
  obtain ⟨z, hz1, hz2⟩ := zero_rep (w := w) (G := G) (ρ := ρ) hz
  obtain ⟨ρ', h1, h2, h3⟩ := push_box (w' := { w with heap := w.heap.push (.cells z.cells t (0, 0)) }) hs hp hz2 rfl
  refine ⟨.value _, _, _, G, ρ', ?_, .inl rfl, h1, h2, h3⟩
  simp only [execOp, ho, Instr.alloc, Sem.run_bind, hz1, Result.andThen_ok, newVar, newRow, run_newObj, Sem.run_pure]

theorem sim_box {t : TypeId} {x : Operand} {x' : Opd} {r : CV × Store} (hs : St w G ρ σ) (he : RepE w G ρ e a.tmps) (ho : o.op = .box t x) (hx : okOpd x x' = true) (h : ev base sl (.box x') e σ = some r) : SimOp P o a w G ρ r.1 r.2 := by
  simp only [ev] at h
  split at h
  · rename_i cs hcs
    simp only [Option.map_eq_some_iff] at h
    obtain ⟨⟨k, σ'⟩, hp, rfl⟩ := h
    have hc := rep_cells (okOpd_rep hx he) hcs
    obtain ⟨ρ', h1, h2, h3⟩ := push_box (w' := { w with heap := w.heap.push (.cells (a.eval x).cells t (0, 0)) }) hs hp hc rfl
    refine ⟨.value _, _, _, G, ρ', ?_, .inl rfl, h1, h2, h3⟩
    simp only [execOp, ho, Instr.box, Sem.run_bind, Result.andThen_ok, newVar, newRow, run_newObj, Sem.run_pure]
  · cases h

theorem madeCells_get {z : Array Value} {n i : Nat} (h : i < n) (hz : 0 < z.size) : (madeCells z n)[i]? = z[i % z.size]? := by
  have : i % z.size < z.size := Nat.mod_lt _ hz
  simp [madeCells, h, this]

theorem sim_mks {deep : Bool} {sz bytes : Nat} {z : PV} {t el : TypeId} {l c : Operand} {l' c' : Opd} {i : TypeInfo} {zv : Value} {r : CV × Store} (hs : St w G ρ σ) (he : RepE w G ρ e a.tmps) (ho : o.op = .makeSlice t l c) (hl : okOpd l l' = true) (hc : okOpd c c' = true)
    (ht : P.underlying t = some (.slice el)) (hi : P.info? el = some i) (hsz : i.size = sz) (hby : i.bytes = bytes) (hz : i.zero = some zv) (hzz : (if deep then okPs zv.cells.toList [.sl []] else okPs zv.cells.toList z.cells) = true)
    (h : ev base sl (.mks deep sz bytes z l' c') e σ = some r) : SimOp P o a w G ρ r.1 r.2 := by
  have r1 := okOpd_rep hl he
  have r2 := okOpd_rep hc he
  generalize hu : a.eval l = u at r1
  generalize hv : a.eval c = v at r2
  simp only [ev] at h
  split at h
  · rename_i ln cn hln hcn
    obtain ⟨kl, rfl, _⟩ := rep_num hln r1
    obtain ⟨kc, rfl, _⟩ := rep_num hcn r2
    split at h
    · rename_i hcond
      obtain ⟨c1, c2, c3, c4, c5⟩ := hcond
      have hrun := run_make (P := P) w t el i zv ht hi hz kl kc ln cn c1 c2 (by rw [hby]; exact c3) c4
      have exec : (execOp a.eval o).run P w = .ok (.value (.slice (some ⟨w.heap.size, 0, none⟩) ln.toNat cn.toNat)) (w.alloc (.cells (madeCells zv.cells (cn.toNat * i.size)) el)) := by
        simp only [execOp, ho, hu, hv, Sem.run_bind, hrun, Result.andThen_ok, Sem.run_pure]
      have hle : ln.toNat ≤ cn.toNat := by omega
      have hmul : ln.toNat * sz ≤ cn.toNat * sz := Nat.mul_le_mul_right _ hle
      split at h
      · simp only [if_false, Bool.false_eq_true] at hzz
        obtain ⟨z1, z2, z3⟩ := okPs_len (w := w) (G := G) hzz
        simp only [Option.map_eq_some_iff] at h
        obtain ⟨⟨k, σ'⟩, hp, rfl⟩ := h
        have hzsz : zv.cells.size = sz := by rw [← c5, z1]; simp
        obtain ⟨ρ', h1, h2, h3⟩ := push_row (w' := w.alloc (.cells (madeCells zv.cells (cn.toNat * i.size)) el)) hs hp rfl hle (by rw [size_madeCells, hsz]; exact Nat.le_refl _) (by rw [size_madeCells, hsz]; simpa using hmul)
          (by intro i e he; rw [List.getElem?_replicate] at he; split at he <;> simp_all)
          (by
            intro j e k c u he hck hu
            rw [List.getElem?_replicate] at he
            split at he
            · rename_i hj
              cases he
              have hk : k < sz := by rw [← c5]; exact get_lt hck
              have hidx : j * sz + k < cn.toNat * i.size := by
                have : (j + 1) * sz ≤ cn.toNat * sz := Nat.mul_le_mul_right _ (by omega)
                rw [Nat.succ_mul] at this
                rw [hsz]; omega
              rw [madeCells_get hidx (by omega), hzsz, Nat.add_comm (j * sz), Nat.add_mul_mod_self_right, Nat.mod_eq_of_lt hk] at hu
              exact ⟨z2 k c u hck (by simpa using hu), z3 u (by simpa using Array.mem_of_getElem? hu)⟩
            · cases he)
        exact ⟨.value _, _, _, G, ρ', exec, .inl rfl, h1, h2, h3⟩
      · simp only [if_true] at hzz
        split at h
        · rename_i hone
          obtain ⟨z1, z2, z3⟩ := okPs_len (w := w) (G := G) hzz
          simp only [Option.map_eq_some_iff] at h
          obtain ⟨⟨k, σ'⟩, hp, rfl⟩ := h
          have hz0 : zv.cells.toList = [.slice none 0 0] := by
            have hz1 : zv.cells.toList.length = 1 := by simpa using z1.symm
            obtain ⟨y, hy⟩ : ∃ y, zv.cells.toList = [y] := by
              match hm : zv.cells.toList, hz1 with
              | [y], _ => exact ⟨y, rfl⟩
            rw [hy] at hzz ⊢
            simp only [okPs, Bool.and_true] at hzz
            unfold okP1 at hzz
            split at hzz <;> first | rfl | cases hzz | simp_all
          have hzsz : zv.cells.size = 1 := by have := congrArg List.length hz0; simpa using this
          subst hone
          rw [← hsz] at hp
          obtain ⟨ρ', h1, h2, h3⟩ := hs.push (w' := w.alloc (.cells (madeCells zv.cells (cn.toNat * i.size)) el)) hp (madeCells zv.cells (cn.toNat * i.size)) el i.size rfl (by
            intro ρ' hρ
            refine ⟨rfl, fun hg => Nat.lt_irrefl _ (hs.g _ hg), _, el, by show (w.heap.push _)[w.heap.size]? = _; simp, rfl, by rw [size_madeCells, hsz]; simp; omega, ?_⟩
            intro k c u hck hu
            rw [List.getElem?_replicate] at hck
            split at hck
            · cases hck
              rw [Nat.zero_add, madeCells_get (by rw [hsz]; omega) (by omega), hzsz, Nat.mod_one] at hu
              have : u = .slice none 0 0 := by
                have h0 : zv.cells.toList[0]? = some u := by simpa using hu
                rw [hz0] at h0
                simpa using h0.symm
              subst this
              exact ⟨.nils, rfl⟩
            · cases hck)
          exact ⟨.value _, _, _, G, ρ', exec, .inl rfl, h1, h2, .own _ _ _ _ _ hle (by simp only [OwnOk, h3]; right; exact ⟨by simp, by simp [size_madeCells]⟩)⟩
        · cases h
    · cases h
  · cases h

end
end Go.Proofs.YtnbglampelmgoaaGreat.Vpi
