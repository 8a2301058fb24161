/- The verified interpreter, part 22: what a row reads of an argument is a value without references. -/
import Derived.Test.YtdieenbfdeaffaaVpiRel
import Derived.Deep.Slices
import Derived.Carry
namespace Go.Proofs.Ytdieenbfdeaffaa.Vpi
open Go Go.Deep
set_option linter.unusedVariables false
set_option linter.unusedSimpArgs false

def isSt (P : Program) (t : TypeId) : Bool :=
  match P.underlying t with
  | some (.struct _) => true
  | _ => false

def ofCells (agg : Bool) (ps : List PV) : PV := if agg = true then .agg ps else ps.headD default

def laidFs (P : Program) (q : TypeId → Bool) (tot : Nat) : Nat → List Field → Bool
  | off, [] => off == tot
  | off, f :: fs => f.offset == off && q f.type && laidFs P q tot (off + P.cellsOf f.type) fs

/-- types that this text reads -/
def sup (P : Program) : Nat → TypeId → Bool
  | 0, _ => false
  | n + 1, t =>
    match P.underlying t with
    | some .bool => P.cellsOf t == 1
    | some (.int _) => P.cellsOf t == 1
    | some (.slice e) => sup P n e && decide (0 < P.cellsOf e) && (isSt P e || P.cellsOf e == 1) && P.cellsOf t == 1
    | some (.struct fs) => laidFs P (sup P n) (P.cellsOf t) 0 fs.toList
    | _ => false

def shpL (q : TypeId → List PV → Prop) : List Field → List PV → Prop
  | [], ps => ps = []
  | f :: fs, ps => ∃ a b, ps = a ++ b ∧ q f.type a ∧ shpL q fs b

/-- the cells of a value of a type -/
def shp (P : Program) : Nat → TypeId → List PV → Prop
  | 0, _, _ => False
  | n + 1, t, ps =>
    match P.underlying t with
    | some .bool => ∃ b, ps = [.bool b]
    | some (.int k) => ∃ i, ps = [.int k i] ∧ (Lit.int k i).wf = true
    | some (.slice e) => ∃ es, ps = [.sl es] ∧ es.length ≤ maxLen ∧ ∀ y ∈ es, ∃ qs, y = ofCells (isSt P e) qs ∧ shp P n e qs
    | some (.struct fs) => shpL (shp P n) fs.toList ps
    | _ => False

def RepL (w : World) (G : Nat → Prop) (ps : List PV) (cs : List Value) : Prop :=
  ps.length = cs.length ∧ ∀ (k : Nat) c u, ps[k]? = some c → cs[k]? = some u → RepP w G c u ∧ u.oneCell' = true

section
variable {H : Type} {enc : TypeId × Value → H} {P : Program} {w : World} {G : Nat → Prop} {spare : Nat → Bool}

theorem RepL.append {ps qs : List PV} {cs ds : List Value} (h : RepL w G ps cs) (k : RepL w G qs ds) : RepL w G (ps ++ qs) (cs ++ ds) := by
  refine ⟨by simp [h.1, k.1], fun i c u hc hu => ?_⟩
  rcases Nat.lt_or_ge i ps.length with h1 | h1
  · rw [List.getElem?_append_left h1] at hc
    rw [List.getElem?_append_left (by rw [← h.1]; exact h1)] at hu
    exact h.2 i c u hc hu
  · rw [List.getElem?_append_right h1] at hc
    rw [List.getElem?_append_right (by rw [← h.1]; exact h1), ← h.1] at hu
    exact k.2 _ c u hc hu

theorem RepL.one {p : PV} {v : Value} (h : RepP w G p v) (h1 : v.oneCell' = true) : RepL w G [p] [v] := by
  refine ⟨rfl, fun k c u hc hu => ?_⟩
  cases k with
  | zero => simp at hc hu; subst hc; subst hu; exact ⟨h, h1⟩
  | succ k => simp at hc

theorem open_fields {q : TypeId → List PV → Prop} {sq : TypeId → Bool} {cs : List Value} (ih : ∀ t fuel cs x, sq t = true → DataW.trod enc P w 0 spare true fuel t cs = some x → ∃ ps, q t ps ∧ RepL w G ps cs ∧ cs.length = P.cellsOf t)
    {fuel : Nat} : ∀ (fs : List Field) (off : Nat), laidFs P sq cs.length off fs = true → off ≤ cs.length →
      (∀ f ∈ fs, ∃ x, DataW.trod enc P w 0 spare true fuel f.type ((cs.drop f.offset).take (P.cellsOf f.type)) = some x) → ∃ ps, shpL q fs ps ∧ RepL w G ps (cs.drop off)
  | [], off, hl, hle, _ => by
    simp only [laidFs, beq_iff_eq] at hl
    subst hl
    exact ⟨[], rfl, by simp [RepL]⟩
  | f :: fs, off, hl, hle, hx => by
    simp only [laidFs, Bool.and_eq_true, beq_iff_eq] at hl
    obtain ⟨⟨rfl, hs⟩, hl⟩ := hl
    obtain ⟨x, hx1⟩ := hx f (List.mem_cons_self ..)
    obtain ⟨a, ha, hra, hlen⟩ := ih _ _ _ _ hs hx1
    have hle2 : f.offset + P.cellsOf f.type ≤ cs.length := by
      rw [List.length_take, List.length_drop] at hlen
      omega
    obtain ⟨b, hb, hrb⟩ := open_fields ih fs (f.offset + P.cellsOf f.type) hl hle2 fun g hg => hx g (List.mem_cons_of_mem _ hg)
    refine ⟨a ++ b, ⟨a, b, rfl, ha, hb⟩, ?_⟩
    have := hra.append hrb
    rwa [← List.drop_drop, List.take_append_drop] at this

theorem mapM_all {α β : Type} {f : α → Option β} : ∀ {l : List α} {r : List β}, l.mapM f = some r → ∀ a ∈ l, ∃ b, f a = some b
  | [], _, _, a, ha => by cases ha
  | x :: l, r, h, a, ha => by
    rw [List.mapM_cons] at h
    cases hx : f x with
    | none => rw [hx] at h; cases h
    | some y =>
      rw [hx] at h
      cases hl : l.mapM f with
      | none => rw [hl] at h; cases h
      | some ys =>
        rcases List.mem_cons.1 ha with rfl | ha
        · exact ⟨y, hx⟩
        · exact mapM_all hl a ha

theorem open_ofCells {agg : Bool} {ps : List PV} {cs : List Value} (h : RepL w G ps cs) (h0 : agg = true ∨ cs.length = 1) : (ofCells agg ps).cells = ps ∨ (agg = false ∧ ∃ c, ps = [.agg c]) := by
  unfold ofCells
  cases agg with
  | true => left; simp [PV.cells]
  | false =>
    have h2 : cs.length = 1 := by simpa using h0
    have h1 := h.1
    rw [h2] at h1
    obtain ⟨p, rfl⟩ := List.length_eq_one_iff.1 h1
    cases p with
    | agg c => right; exact ⟨rfl, c, rfl⟩
    | _ => left; simp [PV.cells]

theorem open_cells {ps : List PV} {cs : List Value} (h : RepL w G ps cs) (h1 : cs.length = 1) {c : List PV} (hc : ps = [.agg c]) : False := by
  subst hc
  obtain ⟨v, rfl⟩ := List.length_eq_one_iff.1 h1
  obtain ⟨h2, h3⟩ := h.2 0 _ _ rfl rfl
  cases h2
  simp [Value.oneCell'] at h3

theorem open_pv (hG : ∀ k arr el fr, w.heap[k]? = some (.cells arr el fr) → G k) : ∀ (n : Nat) (t : TypeId) (fuel : Nat) (cs : List Value) (x : DataW H × List MemPlace), sup P n t = true → DataW.trod enc P w 0 spare true fuel t cs = some x →
    ∃ ps, shp P n t ps ∧ RepL w G ps cs ∧ cs.length = P.cellsOf t
  | 0, t, fuel, cs, x, hs, h => by simp [sup] at hs
  | n + 1, t, 0, cs, x, hs, h => by simp [DataW.trod] at h
  | n + 1, t, fuel + 1, cs, x, hs, h => by
    simp only [sup] at hs
    simp only [shp]
    split at hs
    · rename_i ht
      obtain ⟨b, rfl, _⟩ := DataW.trod_bool ht h
      exact ⟨[.bool b], ⟨_, rfl⟩, RepL.one (.bool _) rfl, (beq_iff_eq.1 hs).symm⟩
    · rename_i k ht
      obtain ⟨i, rfl, _, hw⟩ := DataW.trod_int ht h
      exact ⟨[.int k i], ⟨_, rfl, hw⟩, RepL.one (.int _ _) rfl, (beq_iff_eq.1 hs).symm⟩
    · rename_i e ht
      simp only [Bool.and_eq_true, decide_eq_true_eq, beq_iff_eq, Bool.or_eq_true] at hs
      obtain ⟨⟨⟨hse, hpos⟩, hag⟩, ht1⟩ := hs
      rcases open_slice ht h with ⟨rfl, _⟩ | ⟨a, len, cap, m, n', D, Pl, rfl, _, hlc, hcm, hm, _, hel⟩
      · exact ⟨[.sl []], ⟨[], rfl, by simp [maxLen], by simp⟩, RepL.one (.nil _ _) rfl, ht1.symm⟩
      · have hlm : len ≤ m := by rw [hm]; split <;> omega
        have hq : ∀ i, i < len → ∃ qs : List PV, shp P n e qs ∧ ∃ cs', w.cells? 0 (a.add (i * P.cellsOf e)) (P.cellsOf e) = some cs' ∧ RepL w G qs cs' ∧ cs'.length = P.cellsOf e := by
          intro i hi
          obtain ⟨cs', h1, h2⟩ := hel i (by omega)
          obtain ⟨qs, h3, h4, h5⟩ := open_pv hG n e _ _ _ hse h2
          exact ⟨qs, h3, cs', h1, h4, h5⟩
        obtain ⟨f, hf⟩ := choose_lt hq
        rcases Nat.eq_zero_or_pos len with rfl | hlp
        · exact ⟨[.sl []], ⟨[], rfl, by simp [maxLen], by simp⟩, RepL.one (.nil _ _) rfl, ht1.symm⟩
        have hcell : ∀ i, i < len → ∀ k, k < P.cellsOf e → w.cell? ((a.add (i * P.cellsOf e)).add k) = (w.cell? ((a.add (i * P.cellsOf e)).add k)) ∧ ∃ u, w.cell? ((a.add (i * P.cellsOf e)).add k) = some u := by
          intro i hi k hk
          obtain ⟨_, cs', h1, _, h5⟩ := hf i hi
          obtain ⟨_, _, h6⟩ := World.cells?_some h1
          refine ⟨rfl, ?_⟩
          rw [h6 k hk]
          exact ⟨cs'[k], by simp [h5, hk]⟩
        have hsp : a.spot = none ∧ ∃ arr el fr, w.heap[a.block]? = some (.cells arr el fr) := by
          obtain ⟨_, u, hu⟩ := hcell 0 hlp 0 hpos
          simp only [Nat.zero_mul, Addr.add, if_true, World.cell?] at hu
          split at hu
          · rename_i arr el fr hb
            split at hu
            · cases hu
            · rename_i hsp
              exact ⟨by simpa using hsp, arr, el, fr, hb⟩
          · cases hu
        obtain ⟨hspot, arr, el, fr, hb⟩ := hsp
        have hget : ∀ i, w.cell? ((a.add i)) = arr[a.off + i]? := by
          intro i
          unfold Addr.add
          by_cases hi : i = 0
          · subst hi; simp [World.cell?, hb, hspot]
          · rw [if_neg hi]; simp [World.cell?, hb]
        have hget2 : ∀ i k, w.cell? ((a.add i).add k) = arr[a.off + i + k]? := by
          intro i k
          rw [Deep.add_add, hget, Nat.add_assoc]
        have hagc : ∀ i, i < len → (ofCells (isSt P e) (f i)).cells = f i := by
          intro i hi
          obtain ⟨_, cs', _, h4, h5⟩ := hf i hi
          rcases open_ofCells (agg := isSt P e) h4 (by rw [h5]; exact hag) with h6 | ⟨h6, c, h7⟩
          · exact h6
          · have h9 : cs'.length = 1 := by
              rw [h5]
              rcases hag with h8 | h8
              · rw [h6] at h8; cases h8
              · exact h8
            exact (open_cells h4 h9 h7).elim
        refine ⟨[.sl ((List.range len).map fun i => ofCells (isSt P e) (f i))], ⟨_, rfl, by simp; omega, ?_⟩, RepL.one ?_ rfl, ht1.symm⟩
        · intro y hy
          obtain ⟨i, hi, rfl⟩ := List.mem_map.1 hy
          exact ⟨f i, rfl, (hf i (List.mem_range.1 hi)).1⟩
        · obtain ⟨blk, off, spot⟩ := a
          simp only at hspot hb hget hget2
          subst hspot
          have hl : ((List.range len).map fun i => ofCells (isSt P e) (f i)).length = len := by simp
          have hidx : ∀ (i : Nat) y, ((List.range len).map fun i => ofCells (isSt P e) (f i))[i]? = some y → i < len ∧ y = ofCells (isSt P e) (f i) := by
            intro i y hy
            rw [List.getElem?_map, Option.map_eq_some_iff] at hy
            obtain ⟨j, hj, rfl⟩ := hy
            have hi : i < len := by
              rcases Nat.lt_or_ge i len with h1 | h1
              · exact h1
              · rw [List.getElem?_eq_none (by simpa using h1)] at hj; cases hj
            rw [List.getElem?_range hi] at hj
            cases hj
            exact ⟨hi, rfl⟩
          have hsl : ∀ i, i < len → ∀ k, k < P.cellsOf e → off + i * P.cellsOf e + k < arr.size := by
            intro i hi k hk
            obtain ⟨_, u, hu⟩ := hcell i hi k hk
            rw [hget2] at hu
            rcases Nat.lt_or_ge (off + i * P.cellsOf e + k) arr.size with h1 | h1
            · exact h1
            · rw [Array.getElem?_eq_none (by omega)] at hu; cases hu
          have hfin := RepP.sl (w := w) (G := G) ((List.range len).map fun i => ofCells (isSt P e) (f i)) blk off arr el fr cap (P.cellsOf e) (hG _ _ _ _ hb) hb (by rw [hl]; exact hlc)
          rw [hl] at hfin
          refine hfin ?_ ?_ ?_ ?_
          · have := hsl (len - 1) (by omega) (P.cellsOf e - 1) (by omega)
            have h2 : (len - 1) * P.cellsOf e + P.cellsOf e = len * P.cellsOf e := by
              rw [← Nat.succ_mul]; congr 1; omega
            omega
          · intro i y hy
            obtain ⟨hi, rfl⟩ := hidx i y hy
            rw [hagc i hi]
            obtain ⟨_, cs', _, h4, h5⟩ := hf i hi
            rw [h4.1, h5]
          · intro i y k c u hy hc hu
            obtain ⟨hi, rfl⟩ := hidx i y hy
            rw [hagc i hi] at hc
            obtain ⟨_, cs', h1, h4, h5⟩ := hf i hi
            have hk : k < P.cellsOf e := by
              rw [← h5, ← h4.1]
              rcases Nat.lt_or_ge k (f i).length with h7 | h7
              · exact h7
              · rw [List.getElem?_eq_none h7] at hc; cases hc
            obtain ⟨_, _, h6⟩ := World.cells?_some h1
            have h7 := h6 k hk
            rw [hget2] at h7
            rw [h7] at hu
            exact (h4.2 k c u hc hu).1
          · intro i y k u hy hk hu
            obtain ⟨hi, rfl⟩ := hidx i y hy
            obtain ⟨_, cs', h1, h4, h5⟩ := hf i hi
            obtain ⟨_, _, h6⟩ := World.cells?_some h1
            have h7 := h6 k hk
            rw [hget2] at h7
            rw [h7] at hu
            have hk2 : k < (f i).length := by rw [h4.1, h5]; exact hk
            exact (h4.2 k (f i)[k] u (by simp) hu).2
    · rename_i fs ht
      obtain ⟨xs, n', _, _, hlen, hxl, hf⟩ := DataW.trod_struct ht h
      obtain ⟨ps, h3, h4⟩ := open_fields (q := shp P n) (sq := sup P n) (cs := cs) (fuel := n') (open_pv hG n) fs.toList 0 (by rw [hlen]; exact hs) (Nat.zero_le _) (fun f hfm => by
        obtain ⟨i, hi, rfl⟩ := List.getElem_of_mem hfm
        have hi2 : i < xs.length := by rw [hxl]; simpa using hi
        refine ⟨xs[i], ?_⟩
        rw [hf i _ (by simp)]
        simp)
      exact ⟨ps, h3, by simpa using h4, hlen⟩
    · cases hs

/-- an argument of one cell -/
theorem open_one (hG : ∀ k arr el fr, w.heap[k]? = some (.cells arr el fr) → G k) {n : Nat} {t : TypeId} {v : Value} {d : DataW H} {p : List MemPlace} (hs : sup P n t = true) (hc : v.cells.toList = [v])
    (h : DataW.Trod enc P w 0 spare true t v d p) : ∃ x, shp P n t [x] ∧ RepP w G x v := by
  obtain ⟨fuel, hf⟩ := h
  rw [hc] at hf
  obtain ⟨ps, h1, h2, h3⟩ := open_pv hG n t fuel _ _ hs hf
  obtain ⟨x, rfl⟩ := List.length_eq_one_iff.1 h2.1
  exact ⟨x, h1, (h2.2 0 x v rfl rfl).1⟩

/-- an argument that is a struct -/
theorem open_agg (hG : ∀ k arr el fr, w.heap[k]? = some (.cells arr el fr) → G k) {n : Nat} {t : TypeId} {vs : Array Value} {d : DataW H} {p : List MemPlace} (hs : sup P n t = true)
    (h : DataW.Trod enc P w 0 spare true t (.agg vs) d p) : ∃ ps, shp P n t ps ∧ RepP w G (.agg ps) (.agg vs) := by
  obtain ⟨fuel, hf⟩ := h
  rw [show (Value.agg vs).cells.toList = vs.toList from rfl] at hf
  obtain ⟨ps, h1, h2, h3⟩ := open_pv hG n t fuel _ _ hs hf
  refine ⟨ps, h1, ?_⟩
  have := RepP.agg (w := w) (G := G) ps vs.toList h2.1 (fun k c v hc hv => (h2.2 k c v hc hv).1) (fun v hv => by
    obtain ⟨k, hk, rfl⟩ := List.getElem_of_mem hv
    have hk2 : k < ps.length := by rw [h2.1]; exact hk
    exact (h2.2 k ps[k] _ (by simp) (by simp)).2)
  simpa using this
end
end Go.Proofs.Ytdieenbfdeaffaa.Vpi
