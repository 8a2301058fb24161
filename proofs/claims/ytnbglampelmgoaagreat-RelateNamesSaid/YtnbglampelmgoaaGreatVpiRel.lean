/- The verified interpreter, part 2: how its values and its store stand for the model's values and memory. -/
import Derived.Test.YtnbglampelmgoaaGreatVpiCore
import Derived.Laws.Sem
namespace Go.Proofs.YtnbglampelmgoaaGreat.Vpi
open Go
set_option linter.unusedVariables false
set_option linter.unusedSimpArgs false

inductive Loc where
  | lv (blk off tot sz : Nat)
  | det
  | dead
  | hole

/-- a pure value in memory: its blocks are among G -/
inductive RepP (w : World) (G : Nat → Prop) : PV → Value → Prop
  | int (k : IntKind) (n : Int) : RepP w G (.int k n) (.int k n)
  | bool (b : Bool) : RepP w G (.bool b) (.bool b)
  | str (s : ByteArray) : RepP w G (.str s) (.string s)
  | agg (cs : List PV) (vs : List Value) (hl : cs.length = vs.length) (hk : ∀ (k : Nat) c v, cs[k]? = some c → vs[k]? = some v → RepP w G c v) (h1 : ∀ v ∈ vs, v.oneCell' = true) : RepP w G (.agg cs) (.agg vs.toArray)
  | nil (a : Option Addr) (cap : Nat) : RepP w G (.sl []) (.slice a 0 cap)
  | sl (es : List PV) (blk off : Nat) (arr : Array Value) (el : TypeId) (fr : Nat × Nat) (cap sz : Nat) (hg : G blk) (hb : w.heap[blk]? = some (.cells arr el fr))
      (hc : es.length ≤ cap) (hs : off + es.length * sz ≤ arr.size) (he : ∀ (i : Nat) e, es[i]? = some e → e.cells.length = sz)
      (hk : ∀ (i : Nat) e (k : Nat) c u, es[i]? = some e → e.cells[k]? = some c → arr[off + i * sz + k]? = some u → RepP w G c u)
      (h1 : ∀ (i : Nat) e (k : Nat) u, es[i]? = some e → k < sz → arr[off + i * sz + k]? = some u → u.oneCell' = true) :
      RepP w G (.sl es) (.slice (some ⟨blk, off, none⟩) es.length cap)

theorem RepP.mono {w w' : World} {G G' : Nat → Prop} (hw : ∀ k, G k → w'.heap[k]? = w.heap[k]?) (hG : ∀ k, G k → G' k) {x : PV} {v : Value} (h : RepP w G x v) : RepP w' G' x v := by
  induction h with
  | int k n => exact .int k n
  | bool b => exact .bool b
  | str s => exact .str s
  | agg cs vs hl _ h1 ih => exact .agg cs vs hl ih h1
  | nil a cap => exact .nil a cap
  | sl es blk off arr el fr cap sz hg hb hc hs he _ h1 ih => exact .sl es blk off arr el fr cap sz (hG _ hg) ((hw _ hg).trans hb) hc hs he ih h1

def OwnOk (ρ : List Loc) (b off : Nat) (a : Option Addr) (cap : Nat) : Prop :=
  match ρ[b]? with
  | some (.lv blk o tot sz) => cap = 0 ∨ (a = some ⟨blk, o + off * sz, none⟩ ∧ o + (off + cap) * sz ≤ tot)
  | some .det => cap = 0
  | some .dead => True
  | _ => False

def PtrOk (ρ : List Loc) (b i off : Nat) (a : Addr) : Prop :=
  match ρ[b]? with
  | some (.lv blk o _ sz) => a = ⟨blk, o + i * sz + off, none⟩
  | some .det => True
  | some .dead => True
  | _ => False

inductive RepC (w : World) (G : Nat → Prop) (ρ : List Loc) : CV → Value → Prop
  | any (v : Value) : RepC w G ρ .any v
  | p (x : PV) (v : Value) (h : RepP w G x v) : RepC w G ρ (.p x) v
  | nils : RepC w G ρ .nils (.slice none 0 0)
  | own (b off n : Nat) (a : Option Addr) (cap : Nat) (hc : n ≤ cap) (h : OwnOk ρ b off a cap) : RepC w G ρ (.own b off n) (.slice a n cap)
  | ptr (b i off : Nat) (a : Addr) (h : PtrOk ρ b i off a) : RepC w G ρ (.ptr b i off) (.pointer (some a))
  | rp (e : PV) (off blk o : Nat) (arr : Array Value) (el : TypeId) (fr : Nat × Nat) (hg : G blk) (hb : w.heap[blk]? = some (.cells arr el fr)) (hs : o + e.cells.length ≤ arr.size)
      (hk : ∀ (k : Nat) c u, e.cells[k]? = some c → arr[o + k]? = some u → RepP w G c u ∧ u.oneCell' = true) : RepC w G ρ (.rp e off) (.pointer (some ⟨blk, o + off, none⟩))
  | agg (cs : List CV) (vs : List Value) (hl : cs.length = vs.length) (hk : ∀ (k : Nat) c v, cs[k]? = some c → vs[k]? = some v → RepC w G ρ c v) (h1 : ∀ v ∈ vs, v.oneCell' = true) : RepC w G ρ (.agg cs) (.agg vs.toArray)
  | tup (cs : List CV) (vs : List Value) (hl : cs.length = vs.length) (hk : ∀ (k : Nat) c v, cs[k]? = some c → vs[k]? = some v → RepC w G ρ c v) : RepC w G ρ (.tup cs) (.tuple vs.toArray)
  | fn (f : Nat) (cap : List CV) (vs : List Value) (hl : cap.length = vs.length) (hk : ∀ (k : Nat) c v, cap[k]? = some c → vs[k]? = some v → RepC w G ρ c v) : RepC w G ρ (.fn f cap) (.func (.func f) #[] vs.toArray)

/-- how the places of blocks may change -/
def LocExt (ρ ρ' : List Loc) : Prop := ∀ (i : Nat) l, ρ[i]? = some l → ρ'[i]? = some l ∨ ρ'[i]? = some .dead ∨ l = .hole

theorem LocExt.refl (ρ : List Loc) : LocExt ρ ρ := fun _ _ h => .inl h

theorem LocExt.trans {ρ ρ₁ ρ₂ : List Loc} (h : LocExt ρ ρ₁) (h' : LocExt ρ₁ ρ₂) : LocExt ρ ρ₂ := by
  intro i l hl
  rcases h i l hl with h1 | h1 | h1
  · exact h' i l h1
  · rcases h' i _ h1 with h2 | h2 | h2
    · exact .inr (.inl h2)
    · exact .inr (.inl h2)
    · cases h2
  · exact .inr (.inr h1)

theorem OwnOk.mono {ρ ρ' : List Loc} (h : LocExt ρ ρ') {b off : Nat} {a : Option Addr} {cap : Nat} (ho : OwnOk ρ b off a cap) : OwnOk ρ' b off a cap := by
  unfold OwnOk at *
  cases hb : ρ[b]? with
  | none => rw [hb] at ho; exact ho.elim
  | some l =>
    rw [hb] at ho
    rcases h b l hb with h1 | h1 | h1
    · rw [h1]; exact ho
    · rw [h1]; trivial
    · subst h1; exact ho.elim

theorem PtrOk.mono {ρ ρ' : List Loc} (h : LocExt ρ ρ') {b i off : Nat} {a : Addr} (ho : PtrOk ρ b i off a) : PtrOk ρ' b i off a := by
  unfold PtrOk at *
  cases hb : ρ[b]? with
  | none => rw [hb] at ho; exact ho.elim
  | some l =>
    rw [hb] at ho
    rcases h b l hb with h1 | h1 | h1
    · rw [h1]; exact ho
    · rw [h1]; trivial
    · subst h1; exact ho.elim

theorem RepC.mono {w w' : World} {G G' : Nat → Prop} {ρ ρ' : List Loc} (hw : ∀ k, G k → w'.heap[k]? = w.heap[k]?) (hG : ∀ k, G k → G' k) (hρ : LocExt ρ ρ') {x : CV} {v : Value}
    (h : RepC w G ρ x v) : RepC w' G' ρ' x v := by
  induction h with
  | any v => exact .any v
  | p x v h => exact .p x v (h.mono hw hG)
  | nils => exact .nils
  | own b off n a cap hc h => exact .own b off n a cap hc (h.mono hρ)
  | ptr b i off a h => exact .ptr b i off a (h.mono hρ)
  | rp e off blk o arr el fr hg hb hs hk => exact .rp e off blk o arr el fr (hG _ hg) ((hw _ hg).trans hb) hs fun k c u h1 h2 => ⟨(hk k c u h1 h2).1.mono hw hG, (hk k c u h1 h2).2⟩
  | agg cs vs hl _ h1 ih => exact .agg cs vs hl ih h1
  | tup cs vs hl _ ih => exact .tup cs vs hl ih
  | fn f cap vs hl _ ih => exact .fn f cap vs hl ih

def BlkOk (w : World) (G : Nat → Prop) (ρ : List Loc) (l : Loc) (b : Blk) : Prop :=
  match b, l with
  | .dead, .dead => True
  | .hole, .hole => True
  | .prow sz es, .lv blk o tot sz' => sz = sz' ∧ ¬ G blk ∧ ∃ arr el, w.heap[blk]? = some (.cells arr el (0, 0)) ∧ arr.size = tot ∧ o + es.length * sz ≤ tot ∧
      (∀ (i : Nat) e, es[i]? = some e → e.cells.length = sz) ∧ (∀ (i : Nat) e (k : Nat) c u, es[i]? = some e → e.cells[k]? = some c → arr[o + i * sz + k]? = some u → RepP w G c u ∧ u.oneCell' = true)
  | .prow _ es, .det => es = []
  | .kblk sz cs, .lv blk o tot sz' => sz = sz' ∧ ¬ G blk ∧ ∃ arr el, w.heap[blk]? = some (.cells arr el (0, 0)) ∧ arr.size = tot ∧ o + cs.length ≤ tot ∧
      (∀ (k : Nat) c u, cs[k]? = some c → arr[o + k]? = some u → RepC w G ρ c u ∧ u.oneCell' = true)
  | _, _ => False

/-- blocks that the store holds -/
def Live (ρ : List Loc) (k : Nat) : Prop := ∃ (i o t s : Nat), ρ[i]? = some (.lv k o t s)

structure St (w : World) (G : Nat → Prop) (ρ : List Loc) (σ : Store) : Prop where
  g : ∀ k, G k → k < w.heap.size
  len : ρ.length = σ.length
  inj : ∀ (i j k o t s o' t' s' : Nat), ρ[i]? = some (.lv k o t s) → ρ[j]? = some (.lv k o' t' s') → i = j
  ok : ∀ (i : Nat) l b, ρ[i]? = some l → σ[i]? = some b → BlkOk w G ρ l b

/-- what no code here touches -/
def Same (w w' : World) : Prop := w'.os = w.os ∧ w'.tape = w.tape ∧ w'.output = w.output

theorem Same.trans {a b c : World} (h : Same a b) (k : Same b c) : Same a c := ⟨k.1.trans h.1, k.2.1.trans h.2.1, k.2.2.trans h.2.2⟩


/-- from one state to a later one -/
structure Ext (w : World) (G : Nat → Prop) (ρ : List Loc) (w' : World) (G' : Nat → Prop) (ρ' : List Loc) : Prop where
  wld : Same w w'
  loc : LocExt ρ ρ'
  heap : w.heap.size ≤ w'.heap.size
  grow : ∀ k, G k → G' k
  only : ∀ k, G' k → G k ∨ w.heap.size ≤ k ∨ Live ρ k
  below : ∀ k, k < w.heap.size → ¬ Live ρ k → w'.heap[k]? = w.heap[k]?
  lives : ∀ k, Live ρ' k → Live ρ k ∨ w.heap.size ≤ k

theorem St.notG {w : World} {G : Nat → Prop} {ρ : List Loc} {σ : Store} (h : St w G ρ σ) {k : Nat} (hk : Live ρ k) : ¬ G k := by
  obtain ⟨i, o, t, s, hi⟩ := hk
  have hlt : i < ρ.length := by
    rcases Nat.lt_or_ge i ρ.length with h1 | h1
    · exact h1
    · simp [List.getElem?_eq_none h1] at hi
  have hs : σ[i]? = some σ[i]! := by
    have : i < σ.length := h.len ▸ hlt
    simp [this]
  have := h.ok i _ _ hi hs
  unfold BlkOk at this
  split at this
  · simp_all
  · simp_all
  · rename_i heq; cases heq; exact this.2.1
  · simp_all
  · rename_i heq; cases heq; exact this.2.1
  · exact this.elim

theorem St.live_lt {w : World} {G : Nat → Prop} {ρ : List Loc} {σ : Store} (h : St w G ρ σ) {k : Nat} (hk : Live ρ k) : k < w.heap.size := by
  obtain ⟨i, o, t, s, hi⟩ := hk
  have hlt : i < ρ.length := by
    rcases Nat.lt_or_ge i ρ.length with h1 | h1
    · exact h1
    · simp [List.getElem?_eq_none h1] at hi
  have hs : σ[i]? = some σ[i]! := by
    have : i < σ.length := h.len ▸ hlt
    simp [this]
  have := h.ok i _ _ hi hs
  have key : ∀ arr el, w.heap[k]? = some (.cells arr el (0, 0)) → k < w.heap.size := by
    intro arr el he
    rcases Nat.lt_or_ge k w.heap.size with h1 | h1
    · exact h1
    · simp [Array.getElem?_eq_none h1] at he
  unfold BlkOk at this
  split at this
  · simp_all
  · simp_all
  · rename_i heq; cases heq; obtain ⟨_, _, arr, el, hh, _⟩ := this; exact key _ _ hh
  · simp_all
  · rename_i heq; cases heq; obtain ⟨_, _, arr, el, hh, _⟩ := this; exact key _ _ hh
  · exact this.elim

theorem Ext.same {w w' : World} {G G' : Nat → Prop} {ρ ρ' : List Loc} {σ : Store} (h : Ext w G ρ w' G' ρ') (hs : St w G ρ σ) : ∀ k, G k → w'.heap[k]? = w.heap[k]? :=
  fun k hk => h.below k (hs.g k hk) fun hl => hs.notG hl hk

theorem Ext.refl {w : World} {G : Nat → Prop} {ρ : List Loc} : Ext w G ρ w G ρ :=
  ⟨⟨rfl, rfl, rfl⟩, LocExt.refl _, Nat.le_refl _, fun _ h => h, fun _ h => .inl h, fun _ _ _ => rfl, fun _ h => .inl h⟩

theorem Ext.trans {w w₁ w₂ : World} {G G₁ G₂ : Nat → Prop} {ρ ρ₁ ρ₂ : List Loc} (h : Ext w G ρ w₁ G₁ ρ₁) (h' : Ext w₁ G₁ ρ₁ w₂ G₂ ρ₂) : Ext w G ρ w₂ G₂ ρ₂ where
  wld := h.wld.trans h'.wld
  loc := h.loc.trans h'.loc
  heap := Nat.le_trans h.heap h'.heap
  grow := fun k hk => h'.grow k (h.grow k hk)
  only := by
    intro k hk
    rcases h'.only k hk with h1 | h1 | h1
    · exact h.only k h1
    · exact .inr (.inl (Nat.le_trans h.heap h1))
    · rcases h.lives k h1 with h2 | h2
      · exact .inr (.inr h2)
      · exact .inr (.inl h2)
  below := by
    intro k hk hn
    rw [h'.below k (Nat.lt_of_lt_of_le hk h.heap) fun hl => ?_, h.below k hk hn]
    rcases h.lives k hl with h2 | h2
    · exact hn h2
    · omega
  lives := by
    intro k hk
    rcases h'.lives k hk with h1 | h1
    · exact h.lives k h1
    · exact .inr (Nat.le_trans h.heap h1)

theorem RepC.ext {w w' : World} {G G' : Nat → Prop} {ρ ρ' : List Loc} {σ : Store} (h : Ext w G ρ w' G' ρ') (hs : St w G ρ σ) {x : CV} {v : Value} (hr : RepC w G ρ x v) : RepC w' G' ρ' x v :=
  hr.mono (h.same hs) h.grow h.loc

theorem RepP.ext {w w' : World} {G G' : Nat → Prop} {ρ ρ' : List Loc} {σ : Store} (h : Ext w G ρ w' G' ρ') (hs : St w G ρ σ) {x : PV} {v : Value} (hr : RepP w G x v) : RepP w' G' x v :=
  hr.mono (h.same hs) h.grow

/-- the environment against the frame's temporaries -/
def RepE (w : World) (G : Nat → Prop) (ρ : List Loc) (e : Env) (ts : Array Value) : Prop := ∀ k, RepC w G ρ (gt e k) (ts.getD k undef)

theorem RepE.ext {w w' : World} {G G' : Nat → Prop} {ρ ρ' : List Loc} {σ : Store} (h : Ext w G ρ w' G' ρ') (hs : St w G ρ σ) {e : Env} {ts : Array Value} (hr : RepE w G ρ e ts) : RepE w' G' ρ' e ts :=
  fun k => (hr k).ext h hs

theorem gt_st (d k : Nat) (v : CV) : ∀ e : Env, gt (st d v e) k = if k = d then v else gt e k := by
  intro e
  induction e with
  | nil =>
    simp only [st, gt]
    by_cases h : k = d
    · rw [if_pos h, if_pos h.symm]
    · rw [if_neg h, if_neg fun x => h x.symm]
  | cons a l ih =>
    obtain ⟨j, u⟩ := a
    simp only [st]
    by_cases h1 : d < j
    · rw [if_pos h1]
      simp only [gt]
      by_cases h : k = d
      · rw [if_pos h, if_pos h.symm]
      · rw [if_neg h, if_neg fun x => h x.symm]
    · rw [if_neg h1]
      by_cases h2 : j = d
      · rw [if_pos h2]
        subst h2
        simp only [gt]
        by_cases h : k = j
        · rw [if_pos h, if_pos h.symm]
        · rw [if_neg h, if_neg fun x => h x.symm, if_neg fun x => h x.symm]
      · rw [if_neg h2]
        simp only [gt]
        by_cases h3 : j = k
        · rw [if_pos h3, if_pos h3, if_neg (by omega)]
        · rw [if_neg h3, if_neg h3, ih]

theorem gt_fgt (keep : List Nat) (k : Nat) : ∀ e : Env, gt (fgt keep e) k = gt e k ∨ gt (fgt keep e) k = .any := by
  intro e
  induction e with
  | nil => exact .inl rfl
  | cons a l ih =>
    obtain ⟨j, u⟩ := a
    simp only [fgt]
    by_cases h : keep.elem j = true
    · rw [if_pos h]
      simp only [gt]
      by_cases h2 : j = k
      · rw [if_pos h2, if_pos h2]; exact .inl rfl
      · rw [if_neg h2, if_neg h2]; exact ih
    · rw [if_neg h]
      by_cases h2 : j = k
      · subst h2
        right
        clear ih
        induction l with
        | nil => rfl
        | cons b l ih =>
          obtain ⟨i, x⟩ := b
          simp only [fgt]
          by_cases h3 : keep.elem i = true
          · rw [if_pos h3]
            simp only [gt]
            rw [if_neg (by rintro rfl; exact h h3)]
            exact ih
          · rw [if_neg h3]; exact ih
      · simp only [gt]; rw [if_neg h2]; exact ih

theorem RepE.fgt {w : World} {G : Nat → Prop} {ρ : List Loc} {e : Env} {ts : Array Value} (h : RepE w G ρ e ts) (keep : List Nat) : RepE w G ρ (fgt keep e) ts := by
  intro k
  rcases gt_fgt keep k e with h1 | h1
  · rw [h1]; exact h k
  · rw [h1]; exact .any _

theorem RepE.sto {w : World} {G : Nat → Prop} {ρ : List Loc} {e : Env} {a : Act} (h : RepE w G ρ e a.tmps) (d : Option Nat) {v : CV} {u : Value} (hd : ∀ t, d = some t → t < a.tmps.size) (hv : RepC w G ρ v u) :
    RepE w G ρ (sto d v e) (a.put d u).tmps := by
  cases d with
  | none => exact h
  | some d =>
    intro k
    have hlt := hd d rfl
    simp only [Vpi.sto, Act.put]
    rw [gt_st]
    by_cases hk : k = d
    · subst hk
      rw [if_pos rfl]
      simp [Array.getD, hlt]
      exact hv
    · rw [if_neg hk]
      have := h k
      simp only [Array.getD_eq_getD_getElem?, Array.getElem?_setIfInBounds_ne (fun x => hk x.symm)] at this ⊢
      exact this

theorem put_size (a : Act) (d : Option Nat) (u : Value) : (a.put d u).tmps.size = a.tmps.size := by
  cases d <;> simp [Act.put]

theorem put_defers (a : Act) (d : Option Nat) (u : Value) : (a.put d u).defers = a.defers := by
  cases d <;> rfl

end Go.Proofs.YtnbglampelmgoaaGreat.Vpi
