/- The verified interpreter, part 10: slice literals, stores, copies, appends. -/
import Derived.Test.YtnbglampelmgoaaGreatVpiMut
namespace Go.Proofs.YtnbglampelmgoaaGreat.Vpi
open Go
set_option linter.unusedVariables false
set_option linter.unusedSimpArgs false
section
variable {P : Program} {o : Oper} {w : World} {G : Nat → Prop} {ρ : List Loc} {σ : Store} {e : Env} {a : Act} {base : Nat} {sl : Option Nat}

theorem fold_get (vs us : Array Value) (off i : Nat) (h : off + us.size ≤ vs.size) :
    (us.zipIdx.foldl (fun cs (x : Value × Nat) => cs.setIfInBounds (off + x.2) x.1) vs)[i]? = if off ≤ i ∧ i < off + us.size then us[i - off]? else vs[i]? := by
  have := foldl_set us.toList 0 off vs i
  rw [← Array.foldl_toList]
  simp only [Array.toList_zipIdx]
  rw [this]
  simp only [Nat.add_zero, Array.length_toList]
  by_cases hc : off ≤ i ∧ i < off + us.size
  · rw [if_pos hc, if_pos (by omega)]; simp
  · rw [if_neg hc, if_neg (by omega)]

theorem fold_size (vs us : Array Value) (off : Nat) : (us.zipIdx.foldl (fun cs (x : Value × Nat) => cs.setIfInBounds (off + x.2) x.1) vs).size = vs.size := by
  rw [← Array.foldl_toList]
  generalize us.zipIdx.toList = l
  induction l generalizing vs with
  | nil => rfl
  | cons x l ih => rw [List.foldl_cons, ih]; simp

theorem fill_each {sz : Nat} : ∀ (l : List Value) (k : Nat) (vs : Array Value), (∀ v ∈ l, v.cells.size = sz) → (k + l.length) * sz ≤ vs.size →
    ∃ us, Instr.fill (fun i => some (i * sz, sz)) vs ((l.zipIdx k).map fun x => (x.2, x.1)) = some us ∧ us.size = vs.size ∧
      (∀ (i : Nat) v (j : Nat) u, l[i]? = some v → v.cells[j]? = some u → us[(k + i) * sz + j]? = some u) ∧ (∀ idx : Nat, idx < k * sz → us[idx]? = vs[idx]?)
  | [], k, vs, _, _ => ⟨vs, rfl, rfl, by simp, fun _ _ => rfl⟩
  | v :: l, k, vs, h, hf => by
    have hv := h v (by simp)
    have hf' : (k + 1 + l.length) * sz ≤ vs.size := by rw [show k + 1 + l.length = k + (v :: l).length by simp; omega]; exact hf
    have hk1 : (k + 1) * sz ≤ (k + 1 + l.length) * sz := Nat.mul_le_mul_right _ (by omega)
    rw [Nat.succ_mul] at hk1
    obtain ⟨us, h1, h2, h3, h4⟩ := fill_each l (k + 1) (v.cells.zipIdx.foldl (fun cs (x : Value × Nat) => cs.setIfInBounds (k * sz + x.2) x.1) vs) (fun u hu => h u (by simp [hu])) (by rw [fold_size]; exact hf')
    refine ⟨us, ?_, by rw [h2, fold_size], ?_, ?_⟩
    · simp only [List.zipIdx_cons, List.map_cons, Instr.fill]
      rw [if_neg (by simp [hv]; omega)]
      exact h1
    · intro i x j u hi hj
      cases i with
      | zero =>
        simp at hi
        subst hi
        have hj' := aget_lt hj
        rw [Nat.add_zero, h4 _ (by rw [Nat.succ_mul]; omega), fold_get _ _ _ _ (by omega), if_pos (by omega)]
        rw [show k * sz + j - k * sz = j by omega]
        exact hj
      | succ i =>
        have := h3 i x j u (by simpa using hi) hj
        rw [show k + (i + 1) = k + 1 + i by omega]
        exact this
    · intro idx hidx
      rw [h4 idx (by rw [Nat.succ_mul]; omega), fold_get _ _ _ _ (by omega), if_neg (by omega)]

theorem okEach_eval : ∀ (k : Nat) (ps : List (Nat × Operand)) (xs : List Opd), okEach k ps xs = true → RepE w G ρ e a.tmps →
    ∃ vs : List Value, (ps.map fun x => (x.1, a.eval x.2)) = (vs.zipIdx k).map (fun x => (x.2, x.1)) ∧ vs.length = xs.length ∧ ∀ (i : Nat) c v, (xs.map (vl e))[i]? = some c → vs[i]? = some v → RepC w G ρ c v
  | _, [], [], _, _ => ⟨[], rfl, rfl, by simp⟩
  | k, (i, x) :: ps, y :: xs, h, he => by
    simp only [okEach, Bool.and_eq_true, beq_iff_eq] at h
    obtain ⟨⟨rfl, h1⟩, h2⟩ := h
    obtain ⟨vs, e1, e2, e3⟩ := okEach_eval (i + 1) ps xs h2 he
    refine ⟨a.eval x :: vs, by simp [e1], by simp [e2], ?_⟩
    intro j c v hc hv
    cases j with
    | zero => simp at hc hv; subst hc hv; exact okOpd_rep h1 he
    | succ j => exact e3 j c v (by simpa using hc) (by simpa using hv)
  | _, [], _ :: _, h, _ => by simp [okEach] at h
  | _, _ :: _, [], h, _ => by simp [okEach] at h

theorem sim_bslice {t el : TypeId} {n sz : Nat} {ps : Array (Nat × Operand)} {xs : List Opd} {zv : Value} {i : TypeInfo} {r : CV × Store} (hs : St w G ρ σ) (he : RepE w G ρ e a.tmps) (ho : o.op = .buildSlice t n ps)
    (ht : P.underlying t = some (.slice el)) (hi : P.info? el = some i) (hsz : i.size = sz) (hz : i.zero = some zv) (hzs : zv.cells.size = sz) (hn : n = xs.length) (hbig : n * sz ≤ 16777216) (hp : okEach 0 ps.toList xs = true)
    (h : ev base sl (.bslice sz xs) e σ = some r) : SimOp P o a w G ρ r.1 r.2 := by
  simp only [ev] at h
  split at h
  · rename_i es hes
    split at h
    · rename_i hall
      simp only [Option.map_eq_some_iff] at h
      obtain ⟨⟨k, σ'⟩, hpush, rfl⟩ := h
      obtain ⟨vs, h1, h2, h3⟩ := okEach_eval 0 ps.toList xs hp he
      obtain ⟨G1, ρ1, s1, e1, h4, h5⟩ := give_all hs hes (by simp [h2]) h3
      have hsize : ∀ v ∈ vs, v.cells.size = sz := by
        intro v hv
        obtain ⟨j, hj⟩ := List.getElem?_of_mem hv
        have hj' := get_lt hj
        have hx : es[j]? = some (es[j]'(by omega)) := by simp
        rw [← (h5 j _ _ hx hj).cells.1]
        simpa using List.all_eq_true.1 hall _ (List.getElem_mem (by omega))
      have hsz2 : szP P el = some sz := by simp [szP, hi, hsz]
      obtain ⟨us, u1, u2, u3, _⟩ := fill_each (sz := sz) vs 0 ((Array.range (n * sz)).map ((if n * sz = 0 then #[] else zv.cells)[· % (if n * sz = 0 then #[] else zv.cells).size]!)) hsize (by simp [h2, hn])
      have hus : us.size = n * sz := by rw [u2]; simp
      obtain ⟨ρ2, s2, e2, r2⟩ := push_row (n := es.length) (cap := n) (w' := { w with heap := w.heap.push (.cells us el (0, 0)) }) s1 hpush rfl (by rw [h4, h2, hn]; exact Nat.le_refl _) (by rw [hus]; exact Nat.le_refl _) (by rw [hus, h4, h2, hn]; exact Nat.le_refl _)
        (by intro j x hx; simpa using List.all_eq_true.1 hall x (List.mem_of_getElem? hx))
        (by
          intro j x q c u hx hc hu
          have hj : j < vs.length := by rw [← h4]; exact get_lt hx
          have hvj : vs[j]? = some vs[j] := by simp
          have hrep := h5 j x _ hx hvj
          obtain ⟨c1, c2, c3⟩ := hrep.cells
          have hq : q < vs[j].cells.size := by rw [← c1]; exact get_lt hc
          have := u3 j vs[j] q vs[j].cells[q] hvj (by simp)
          rw [Nat.zero_add] at this
          rw [this] at hu
          cases hu
          exact ⟨c2 q c _ hc (by simp), c3 _ (by simp)⟩)
      have hlen : es.length = n := by rw [h4, h2, hn]
      rw [hlen] at r2
      refine ⟨.value _, _, _, G1, ρ2, ?_, .inl rfl, s2, e1.trans e2, by rw [hlen]; exact r2⟩
      have hps : (ps.map fun (i, x) => (i, a.eval x)).toList = ps.toList.map fun x => (x.1, a.eval x.2) := by simp
      rw [← h1] at u1
      simp only [execOp, ho, Instr.buildSlice, Sem.run_bind, run_underlying ht, Result.andThen_ok, run_sizeOf hsz2]
      rw [if_neg (by omega)]
      by_cases h0 : n * sz = 0
      · simp only [if_pos h0] at u1
        rw [if_pos h0]
        simp only [Sem.run_bind, Sem.run_pure, Result.andThen_ok, hps, u1, newRow, run_newObj]
      · simp only [if_neg h0] at u1
        rw [if_neg h0]
        have hzv : (zeroValue el).run P w = .ok zv w := by simp [zeroValue, typeInfo, hi, hz]
        simp only [Sem.run_bind, Sem.run_pure, Result.andThen_ok, hzv, hps, u1, newRow, run_newObj]
    · cases h
  · cases h

/-- cells written into a row of the model -/
theorem setRow_eq {g : Nat} {old new : Array Value} {t : TypeId} {fr : Nat × Nat} (h : w.heap[g]? = some (.cells old t fr)) : (w.setRow g new).heap = w.heap.setIfInBounds g (.cells new t fr) := by
  have hlt := aget_lt h
  apply Array.ext'
  simp only [World.setRow, Array.toList_modify, Array.toList_setIfInBounds]
  apply List.ext_getElem?
  intro i
  rw [List.getElem?_modify]
  by_cases hi : g = i
  · subst hi
    have h' : w.heap.toList[g]? = some (.cells old t fr) := by simpa using h
    rw [List.getElem?_set_self (by simpa using hlt), h']
    simp
  · rw [List.getElem?_set_ne hi]
    cases w.heap.toList[i]? <;> simp [hi]

def wrote (arr : Array Value) (A : Nat) (vs : List Value) : Array Value := (arr.toList.take A ++ vs ++ arr.toList.drop (A + vs.length)).toArray

theorem wrote_get {arr : Array Value} {A : Nat} {vs : List Value} (h : A + vs.length ≤ arr.size) (i : Nat) : (wrote arr A vs)[i]? = if A ≤ i ∧ i < A + vs.length then vs[i - A]? else arr[i]? := by
  have := setCells_get arr.toList vs A i (by simpa using h)
  unfold wrote
  unfold setCells at this
  simpa using this

theorem wrote_size {arr : Array Value} {A : Nat} {vs : List Value} (h : A + vs.length ≤ arr.size) : (wrote arr A vs).size = arr.size := by
  unfold wrote; simp; omega

theorem run_storeAt {t el : TypeId} {blk A sz : Nat} {arr : Array Value} {v : Value} (hz : szP P t = some sz) (hh : w.heap[blk]? = some (.cells arr el (0, 0))) (hv : v.cells.size = sz) (hf : A + sz ≤ arr.size) (h1 : ∀ u ∈ v.cells, u.oneCell' = true) :
    (Instr.storeAt t (.pointer (some ⟨blk, A, none⟩)) v).run P w = .ok () (w.setRow blk (wrote arr A v.cells.toList)) := by
  have hst := run_storeCells_at P blk A el v.cells.toList 0 arr w hh (by simp [hv]; omega) (by simpa using h1)
  simp only [Nat.add_zero] at hst
  simp only [Instr.storeAt, Instr.sureAddr, Sem.run_bind, Sem.run_pure, Result.andThen_ok, storeVar, run_sizeOf hz]
  rw [if_neg (by simp [hv])]
  exact hst

theorem scal_cells {x y u : PV} {off sz : Nat} (hx : x.cells = [x]) (h : (if off = 0 ∧ sz = 1 then (match y with | .agg _ => none | y => some y) else none) = some u) :
    u.cells = setCells x.cells off y.cells ∧ off + y.cells.length ≤ x.cells.length ∧ y.cells.length = sz := by
  split at h
  · rename_i hc
    obtain ⟨rfl, rfl⟩ := hc
    rw [hx]
    cases y <;> cases h <;> simp [PV.cells, setCells]
  · cases h

theorem updPV_cells {x y u : PV} {off sz : Nat} (h : updPV x off sz y = some u) : u.cells = setCells x.cells off y.cells ∧ off + y.cells.length ≤ x.cells.length ∧ y.cells.length = sz := by
  cases x with
  | agg cs =>
    simp only [updPV] at h
    split at h
    · rename_i hc
      cases h
      exact ⟨rfl, by simp only [PV.cells] at *; omega, hc.1⟩
    · cases h
  | sl es => exact scal_cells rfl h
  | int k n => exact scal_cells rfl h
  | bool b => exact scal_cells rfl h
  | str s => exact scal_cells rfl h

theorem setCells_len2 {α : Type} {cs xs : List α} {off : Nat} (h : off + xs.length ≤ cs.length) : (setCells cs off xs).length = cs.length := setCells_len cs xs off h

theorem sim_store {sz : Nat} {t : TypeId} {p x : Operand} {p' x' : Opd} {r : CV × Store} (hs : St w G ρ σ) (he : RepE w G ρ e a.tmps) (ho : o.op = .store t p x) (hp : okOpd p p' = true) (hx : okOpd x x' = true) (hz : szP P t = some sz)
    (h : ev base sl (.store sz p' x') e σ = some r) : SimOp P o a w G ρ r.1 r.2 := by
  have h1 := okOpd_rep hp he
  have h2 := okOpd_rep hx he
  generalize hu : a.eval p = u at h1
  generalize hv : a.eval x = v at h2
  simp only [ev] at h
  split at h
  · rename_i b i off hpv
    rw [hpv] at h1
    obtain ⟨ad, rfl, hptr⟩ := rep_ptr h1
    split at h
    · rename_i s0 es0 hb0
      split at h
      · rename_i pv hfrz
        obtain ⟨G1, ρ1, s1, e1, hrep⟩ := give_one hs hfrz h2
        split at h
        · rename_i s es hb
          split at h
          · rename_i x0 hx0
            simp only [Option.map_eq_some_iff] at h
            obtain ⟨x1, hx1, rfl⟩ := h
            obtain ⟨u1, u2, u3⟩ := updPV_cells hx1
            obtain ⟨l, hl, hblk⟩ := s1.get hb
            have hlt := get_lt hx0
            have hptr1 := hptr.mono e1.loc
            cases l with
            | lv blk o' tot s' =>
              have hblk' := hblk
              obtain ⟨rfl, hng, arr, el, hh, rfl, hfit, hcl, hk⟩ := hblk'
              simp only [PtrOk, hl] at hptr1
              subst hptr1
              have hx0c := hcl i x0 hx0
              have hm : (i + 1) * s ≤ es.length * s := Nat.mul_le_mul_right _ hlt
              rw [Nat.succ_mul] at hm
              obtain ⟨v1, v2, v3⟩ := hrep.cells
              have hvsz : v.cells.size = sz := by rw [← v1, u3]
              have hA : o' + i * s + off + sz ≤ arr.size := by omega
              have hrun := run_storeAt (P := P) hz hh hvsz hA v3
              have hlen : v.cells.toList.length = sz := by simpa using hvsz
              obtain ⟨s2, e2⟩ := s1.write (w' := w.setRow blk (wrote arr (o' + i * s + off) v.cells.toList)) hl (aget_lt hh) (setRow_eq hh) (b := .prow s (es.set i x1)) (by
                have hGsame : ∀ k, G1 k → (w.setRow blk (wrote arr (o' + i * s + off) v.cells.toList)).heap[k]? = w.heap[k]? := by
                  intro k hk'
                  rw [setRow_eq hh, Array.getElem?_setIfInBounds_ne]
                  rintro rfl; exact hng hk'
                refine ⟨rfl, hng, wrote arr (o' + i * s + off) v.cells.toList, el, ?_, wrote_size (by rw [hlen]; omega), by simpa using hfit, ?_, ?_⟩
                · rw [setRow_eq hh, Array.getElem?_setIfInBounds_self_of_lt (aget_lt hh)]
                · intro j y hy
                  by_cases hji : i = j
                  · subst hji
                    rw [List.getElem?_set_self hlt] at hy
                    cases hy
                    rw [u1, setCells_len2 u2, hx0c]
                  · rw [List.getElem?_set_ne hji] at hy; exact hcl j y hy
                · intro j y k c q hy hc hq
                  rw [wrote_get (by rw [hlen]; omega), hlen] at hq
                  by_cases hji : i = j
                  · subst hji
                    rw [List.getElem?_set_self hlt] at hy
                    cases hy
                    rw [u1, setCells_get _ _ _ _ u2, u3] at hc
                    by_cases hin : off ≤ k ∧ k < off + sz
                    · rw [if_pos hin] at hc
                      rw [if_pos (by omega), show o' + i * s + k - (o' + i * s + off) = k - off by omega] at hq
                      have hq' : v.cells[k - off]? = some q := by simpa using hq
                      exact ⟨(v2 _ c q hc hq').mono hGsame (fun _ y => y), v3 q (Array.mem_of_getElem? hq')⟩
                    · rw [if_neg hin] at hc
                      rw [if_neg (by omega)] at hq
                      obtain ⟨y1, y2⟩ := hk i x0 k c q hx0 hc hq
                      exact ⟨y1.mono hGsame (fun _ y => y), y2⟩
                  · rw [List.getElem?_set_ne hji] at hy
                    have hks : k < s := by rw [← hcl j y hy]; exact get_lt hc
                    have hout : ¬ (o' + i * s + off ≤ o' + j * s + k ∧ o' + j * s + k < o' + i * s + off + sz) := by
                      rintro ⟨x2, x3⟩
                      rcases Nat.lt_or_gt_of_ne hji with hlt2 | hlt2
                      · have := Nat.mul_le_mul_right s (show i + 1 ≤ j from hlt2)
                        rw [Nat.succ_mul] at this
                        omega
                      · have := Nat.mul_le_mul_right s (show j + 1 ≤ i from hlt2)
                        rw [Nat.succ_mul] at this
                        omega
                    rw [if_neg hout] at hq
                    obtain ⟨y1, y2⟩ := hk j y k c q hy hc hq
                    exact ⟨y1.mono hGsame (fun _ y => y), y2⟩)
              refine ⟨.skip, undef, _, G1, ρ1, ?_, .inr ⟨rfl, rfl⟩, s2, e1.trans e2, .any _⟩
              simp only [execOp, ho, hu, hv, Sem.run_bind, hrun, Result.andThen_ok, Sem.run_pure]
            | det => simp only [BlkOk] at hblk; subst hblk; simp at hlt
            | dead => exact hblk.elim
            | hole => exact hblk.elim
          · cases h
        · cases h
      · cases h
    · rename_i s cs hb
      split at h
      · rename_i xs hxs
        split at h
        · rename_i hc
          cases h
          have hcr := rep_cells h2 hxs
          obtain ⟨l, hl, hblk⟩ := hs.get hb
          cases l with
          | lv blk o' tot s' =>
            obtain ⟨rfl, hng, arr, el, hh, rfl, hfit, hk⟩ := hblk
            simp only [PtrOk, hl] at hptr
            subst hptr
            have hvsz : v.cells.size = sz := by rw [← hcr.len, hc.1]
            have hlen : v.cells.toList.length = sz := by simpa using hvsz
            have hA : o' + i * s + off + sz ≤ arr.size := by omega
            have hrun := run_storeAt (P := P) hz hh hvsz hA hcr.one
            have hsc : i * s + off + xs.length ≤ cs.length := by omega
            obtain ⟨s2, e2⟩ := hs.write (w' := w.setRow blk (wrote arr (o' + i * s + off) v.cells.toList)) hl (aget_lt hh) (setRow_eq hh) (b := .kblk s (setCells cs (i * s + off) xs)) (by
              have hGsame : ∀ k, G k → (w.setRow blk (wrote arr (o' + i * s + off) v.cells.toList)).heap[k]? = w.heap[k]? := by
                intro k hk'
                rw [setRow_eq hh, Array.getElem?_setIfInBounds_ne]
                rintro rfl; exact hng hk'
              refine ⟨rfl, hng, wrote arr (o' + i * s + off) v.cells.toList, el, ?_, wrote_size (by rw [hlen]; omega), by rw [setCells_len2 hsc]; exact hfit, ?_⟩
              · rw [setRow_eq hh, Array.getElem?_setIfInBounds_self_of_lt (aget_lt hh)]
              · intro k c q hck hq
                rw [setCells_get _ _ _ _ hsc, hc.1] at hck
                rw [wrote_get (by rw [hlen]; omega), hlen] at hq
                by_cases hin : i * s + off ≤ k ∧ k < i * s + off + sz
                · rw [if_pos hin] at hck
                  rw [if_pos (by omega), show o' + k - (o' + i * s + off) = k - (i * s + off) by omega] at hq
                  have hq' : v.cells[k - (i * s + off)]? = some q := by simpa using hq
                  exact ⟨(hcr.rep _ c q hck hq').mono hGsame (fun _ y => y) (LocExt.refl _), hcr.one q (Array.mem_of_getElem? hq')⟩
                · rw [if_neg hin] at hck
                  rw [if_neg (by omega)] at hq
                  obtain ⟨y1, y2⟩ := hk k c q hck hq
                  exact ⟨y1.mono hGsame (fun _ y => y) (LocExt.refl _), y2⟩)
            refine ⟨.skip, undef, _, G, ρ, ?_, .inr ⟨rfl, rfl⟩, s2, e2, .any _⟩
            simp only [execOp, ho, hu, hv, Sem.run_bind, hrun, Result.andThen_ok, Sem.run_pure]
          | det => exact hblk.elim
          | dead => exact hblk.elim
          | hole => exact hblk.elim
        · cases h
      · cases h
    · cases h
  · cases h

end
end Go.Proofs.YtnbglampelmgoaaGreat.Vpi
