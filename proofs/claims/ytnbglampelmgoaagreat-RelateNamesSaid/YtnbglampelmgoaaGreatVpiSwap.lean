/- The verified interpreter, part 16: two operations that change places. -/
import Derived.Test.YtnbglampelmgoaaGreatVpiLocal
namespace Go.Proofs.YtnbglampelmgoaaGreat.Vpi
open Go
set_option linter.unusedVariables false
set_option linter.unusedSimpArgs false

def opdT : Opd → List Nat
  | .t n => [n]
  | .c _ => []

def optT : Option Opd → List Nat
  | some x => opdT x
  | none => []

def ropT : ROp → List Nat
  | .mv x => opdT x
  | .pick c a b => opdT c ++ opdT a ++ opdT b
  | .alloc _ => []
  | .box x => opdT x
  | .build _ parts => parts.flatMap fun p => opdT p.2.2
  | .bslice _ xs => xs.flatMap opdT
  | .load _ _ a => opdT a
  | .store _ a x => opdT a ++ opdT x
  | .nilc x => opdT x
  | .bin _ x y => opdT x ++ opdT y
  | .beq _ x y => opdT x ++ opdT y
  | .un _ x => opdT x
  | .conv _ x => opdT x
  | .mkfn _ cap => cap.flatMap opdT
  | .mks _ _ _ _ l c => opdT l ++ opdT c
  | .slice _ x lo hi mx => opdT x ++ optT lo ++ optT hi ++ optT mx
  | .fieldA _ x => opdT x
  | .field _ _ _ x => opdT x
  | .indexA _ x i => opdT x ++ opdT i
  | .extract x _ => opdT x
  | .idx _ x => opdT x
  | .len x => opdT x
  | .append _ _ s x => opdT s ++ opdT x
  | .copy _ d s => opdT d ++ opdT s
  | .mx x y => opdT x ++ opdT y
  | .mn x y => opdT x ++ opdT y
  | .call _ _ args => args.flatMap opdT
  | .callv _ x args => opdT x ++ args.flatMap opdT

def lopT (o : LOp) : List Nat := ropT o.op ++ (match o.g with | some (t, _) => [t] | none => [])

section
variable {run : Caller} {base : Nat} {sl : Option Nat} {e e' : Env} {σ : Store}

def AgreeOn (l : List Nat) (e e' : Env) : Prop := ∀ t ∈ l, gt e t = gt e' t

theorem AgreeOn.left {a b : List Nat} (h : AgreeOn (a ++ b) e e') : AgreeOn a e e' := fun t ht => h t (List.mem_append.2 (.inl ht))
theorem AgreeOn.right {a b : List Nat} (h : AgreeOn (a ++ b) e e') : AgreeOn b e e' := fun t ht => h t (List.mem_append.2 (.inr ht))

theorem vl_agree {x : Opd} (h : AgreeOn (opdT x) e e') : vl e x = vl e' x := by
  cases x with
  | t n => exact h n (by simp [opdT])
  | c v => rfl

theorem map_agree : ∀ {xs : List Opd}, AgreeOn (xs.flatMap opdT) e e' → xs.map (vl e) = xs.map (vl e')
  | [], _ => rfl
  | x :: xs, h => by
    rw [List.flatMap_cons] at h
    rw [List.map_cons, List.map_cons, vl_agree h.left, map_agree h.right]

theorem bnd_agree {x : Option Opd} (h : AgreeOn (optT x) e e') (d : Nat) : bnd e x d = bnd e' x d := by
  cases x with
  | none => rfl
  | some x => simp only [bnd]; rw [vl_agree (x := x) h]

theorem fill_agree : ∀ {ps : List (Nat × Nat × Opd)} {zs : List CV}, AgreeOn (ps.flatMap fun p => opdT p.2.2) e e' → fill zs e ps = fill zs e' ps
  | [], _, _ => rfl
  | (off, sz, x) :: ps, zs, h => by
    rw [List.flatMap_cons] at h
    simp only [fill]
    have h1 : vl e x = vl e' x := vl_agree h.left
    rw [h1]
    cases (vl e' x).cells with
    | none => rfl
    | some cs =>
      simp only []
      rw [fill_agree h.right]

theorem ev1_agree {op : ROp} (h : AgreeOn (ropT op) e e') : ev1 run base sl op e σ = ev1 run base sl op e' σ := by
  cases op with
  | mv x => simp only [ev1, ev]; rw [vl_agree (x := x) h]
  | pick c a b => simp only [ev1, ev]; rw [vl_agree (x := c) h.left.left, vl_agree (x := a) h.left.right, vl_agree (x := b) h.right]
  | alloc _ => rfl
  | box x => simp only [ev1, ev]; rw [vl_agree (x := x) h]
  | build zs parts => simp only [ev1, ev]; rw [fill_agree h]
  | bslice sz xs => simp only [ev1, ev]; rw [map_agree h]
  | load agg sz a => simp only [ev1, ev]; rw [vl_agree (x := a) h]
  | store sz a x => simp only [ev1, ev]; rw [vl_agree (x := a) h.left, vl_agree (x := x) h.right]
  | nilc x => simp only [ev1, ev]; rw [vl_agree (x := x) h]
  | bin op x y => simp only [ev1, ev]; rw [vl_agree (x := x) h.left, vl_agree (x := y) h.right]
  | beq op x y => simp only [ev1, ev]; rw [vl_agree (x := x) h.left, vl_agree (x := y) h.right]
  | un op x => simp only [ev1, ev]; rw [vl_agree (x := x) h]
  | conv k x => simp only [ev1, ev]; rw [vl_agree (x := x) h]
  | mkfn f cap => simp only [ev1, ev]; rw [map_agree h]
  | mks deep sz bytes z l c => simp only [ev1, ev]; rw [vl_agree (x := l) h.left, vl_agree (x := c) h.right]
  | slice sz x lo hi mx =>
    simp only [ev1, ev]
    rw [vl_agree (x := x) h.left.left.left, bnd_agree (x := lo) h.left.left.right]
    have h1 := fun d => bnd_agree (x := hi) h.left.right d
    simp only [h1]
    cases mx with
    | none => rfl
    | some m => simp only [vl_agree (x := m) h.right]
  | fieldA off x => simp only [ev1, ev]; rw [vl_agree (x := x) h]
  | field agg off sz x => simp only [ev1, ev]; rw [vl_agree (x := x) h]
  | indexA sz x i => simp only [ev1, ev]; rw [vl_agree (x := x) h.left, vl_agree (x := i) h.right]
  | extract x i => simp only [ev1, ev]; rw [vl_agree (x := x) h]
  | idx tab x => simp only [ev1, ev]; rw [vl_agree (x := x) h]
  | len x => simp only [ev1, ev]; rw [vl_agree (x := x) h]
  | append sz bytes s x => simp only [ev1, ev]; rw [vl_agree (x := s) h.left, vl_agree (x := x) h.right]
  | copy sz d s => simp only [ev1, ev]; rw [vl_agree (x := d) h.left, vl_agree (x := s) h.right]
  | mx x y => simp only [ev1, ev]; rw [vl_agree (x := x) h.left, vl_agree (x := y) h.right]
  | mn x y => simp only [ev1, ev]; rw [vl_agree (x := x) h.left, vl_agree (x := y) h.right]
  | call k f args => simp only [ev1]; rw [map_agree h]
  | callv k x args => simp only [ev1]; rw [vl_agree (x := x) h.left, map_agree h.right]

theorem foot_agree {op : ROp} (h : AgreeOn (ropT op) e e') : foot e op = foot e' op := by
  cases op with
  | load agg sz a => simp only [foot]; rw [vl_agree (x := a) h]
  | store sz a x => simp only [foot]; rw [vl_agree (x := a) h.left, vl_agree (x := x) h.right]
  | bslice sz xs => simp only [foot]; rw [map_agree h]
  | append sz bytes s x => simp only [foot]; rw [vl_agree (x := s) h.left, vl_agree (x := x) h.right]
  | copy sz d s => simp only [foot]; rw [vl_agree (x := d) h.left, vl_agree (x := s) h.right]
  | slice sz x lo hi mx => simp only [foot]; rw [vl_agree (x := x) h.left.left.left]
  | indexA sz x i => simp only [foot]; rw [vl_agree (x := x) h.left]
  | call k f args => cases k <;> first | rfl | (simp only [foot]; rw [map_agree h])
  | callv k x args => cases k <;> first | rfl | (simp only [foot]; rw [vl_agree (x := x) h.left, map_agree h.right])
  | _ => rfl

/-- an operation with its guard: its value -/
def evV (run : Caller) (base : Nat) (o : LOp) (e : Env) (σ : Store) : Option (CV × Store) :=
  match o.g with
  | none => ev1 run base o.sl o.op e σ
  | some (t, want) =>
    match gt e t with
    | .p (.bool b) => if b = want then ev1 run base o.sl o.op e σ else some (.tup [], σ)
    | .tup [] => some (.tup [], σ)
    | _ => none

theorem evL_eq (o : LOp) : evL run base o e σ = (evV run base o e σ).map fun (v, σ) => (sto o.d v e, σ) := by
  unfold evL evV
  cases o.g with
  | none => rfl
  | some x =>
    obtain ⟨t, want⟩ := x
    simp only []
    cases gt e t with
    | p v =>
      cases v with
      | bool b =>
        simp only []
        by_cases hb : b = want
        · rw [if_pos hb, if_pos hb]
        · rw [if_neg hb, if_neg hb]; rfl
      | _ => rfl
    | tup cs => cases cs <;> rfl
    | _ => rfl

theorem evV_agree {o : LOp} (h : AgreeOn (lopT o) e e') : evV run base o e σ = evV run base o e' σ := by
  unfold evV
  unfold lopT at h
  split
  · exact ev1_agree h.left
  · rename_i t want hg
    rw [hg] at h
    rw [ev1_agree h.left, h.right t (by simp)]

/-- nothing of the store -/
def Quiet (f : Store → Option (CV × Store)) : Prop := ∀ (σ : Store) (v : CV) (σ1 : Store), f σ = some (v, σ1) → σ1 = σ ∧ ∀ σ', f σ' = some (v, σ')

theorem Quiet.of {f : Store → Option (CV × Store)} {c : Option CV} (h : ∀ σ, f σ = c.map fun v => (v, σ)) : Quiet f := by
  intro σ v σ1 hf
  rw [h, Option.map_eq_some_iff] at hf
  obtain ⟨u, hu, he⟩ := hf
  cases he
  exact ⟨rfl, fun σ' => by rw [h, hu]; rfl⟩

theorem quiet_pu {f : Nat} {args : List CV} : Quiet (fun σ => doCall run .pu f args σ) := by
  intro σ v σ1 h
  simp only [doCall] at h ⊢
  split at h
  · split at h
    · rw [Option.map_eq_some_iff] at h
      obtain ⟨u, hu, he⟩ := h
      cases he
      exact ⟨rfl, fun σ' => by rw [hu]; rfl⟩
    · cases h
  · cases h

theorem quiet_ev1 {op : ROp} (hc : cls op = 0) : Quiet (fun σ => ev1 run base sl op e σ) := by
  cases op with
  | alloc _ => simp [cls] at hc
  | box _ => simp [cls] at hc
  | mks _ _ _ _ _ _ => simp [cls] at hc
  | load _ _ _ => simp [cls] at hc
  | slice _ _ _ _ _ => simp [cls] at hc
  | indexA _ _ _ => simp [cls] at hc
  | store _ _ _ => simp [cls] at hc
  | bslice _ _ => simp [cls] at hc
  | append _ _ _ _ => simp [cls] at hc
  | copy _ _ _ => simp [cls] at hc
  | mv x => exact Quiet.of (c := some (vl e x)) fun σ => rfl
  | mkfn f cap => exact Quiet.of (c := some (.fn f (cap.map (vl e)))) fun σ => rfl
  | build zs parts =>
    refine Quiet.of (c := (fill zs e parts).map mkAgg) fun σ => ?_
    simp only [ev1, ev]
    cases fill zs e parts <;> rfl
  | len x =>
    refine Quiet.of (c := (lenV (vl e x)).map fun (n : Nat) => i64 (n : Int)) fun σ => ?_
    simp only [ev1, ev]
    cases lenV (vl e x) <;> rfl
  | call k f args =>
    cases k with
    | pu => exact quiet_pu
    | fz => simp [cls] at hc
    | full => simp [cls] at hc
    | keep => simp [cls] at hc
    | cell => simp [cls] at hc
    | peek => simp [cls] at hc
  | callv k x args =>
    cases k with
    | pu =>
      simp only [ev1]
      cases hx : vl e x with
      | fn f cap => exact quiet_pu
      | _ => exact Quiet.of (c := none) fun σ => rfl
    | fz => simp [cls] at hc
    | full => simp [cls] at hc
    | keep => simp [cls] at hc
    | cell => simp [cls] at hc
    | peek => simp [cls] at hc
  | _ =>
    intro σ v σ1 h
    simp only [ev1, ev] at h ⊢
    repeat' split at h
    all_goals first
      | (cases h; done)
      | (cases h; exact ⟨rfl, fun _ => rfl⟩)
      | (rw [Option.map_eq_some_iff] at h
         obtain ⟨u, hu, he⟩ := h
         cases he
         refine ⟨rfl, fun _ => ?_⟩; simp only [*]; rfl)
      | (cases h; refine ⟨rfl, fun _ => ?_⟩; simp [*]; done)
      | (simp_all; done)

theorem quiet_evV {o : LOp} (hc : cls o.op = 0) : Quiet (fun σ => evV run base o e σ) := by
  unfold evV
  cases hg : o.g with
  | none => exact quiet_ev1 hc
  | some x =>
    obtain ⟨t, want⟩ := x
    simp only []
    split
    · split
      · exact quiet_ev1 hc
      · exact Quiet.of (c := some (.tup [])) fun σ => rfl
    · exact Quiet.of (c := some (.tup [])) fun σ => rfl
    · exact Quiet.of (c := none) fun σ => rfl

theorem local_evV {o : LOp} (hc : cls o.op ≠ 4) (hp : pushes o.op = true → o.sl.isSome = true) : ∃ s, Local (fun σ => evV run base o e σ) (foot e o.op) s := by
  unfold evV
  cases hg : o.g with
  | none => exact ⟨_, local_ev1 hc hp⟩
  | some x =>
    obtain ⟨t, want⟩ := x
    simp only []
    split
    · split
      · exact ⟨_, local_ev1 hc hp⟩
      · exact ⟨none, Local.pure (c := some (.tup [])) fun σ => rfl⟩
    · exact ⟨none, Local.pure (c := some (.tup [])) fun σ => rfl⟩
    · exact ⟨none, Local.pure (c := none) fun σ => rfl⟩

/-! ### two stores' worth of steps change places -/

def Apart (F H : Foot) : Prop :=
  (∀ b ∈ F.rd, b ∉ H.wr) ∧ (∀ b ∈ F.sz, b ∉ H.kl) ∧ (∀ b ∈ H.rd, b ∉ F.wr) ∧ (∀ b ∈ H.sz, b ∉ F.kl) ∧ (∀ b ∈ F.wr, b ∉ H.wr)

/-- f first, g behind it -/
theorem swapS {f g : Store → Option (CV × Store)} {F H : Foot} {s t : Option Nat} (hf : Local f F s) (hg : Local g H t) (hap : Apart F H) {σ σ1 σ2 : Store} {v u : CV} (h1 : f σ = some (v, σ1)) (h2 : g σ1 = some (u, σ2))
    (hn : ∀ b, b ∈ H.rd ∨ b ∈ H.sz ∨ b ∈ H.wr → σ[b]? ≠ some Blk.hole) : ∃ σ1', g σ = some (u, σ1') ∧ f σ1' = some (v, σ2) := by
  obtain ⟨a1, a2, a3, a4, a5⟩ := hap
  obtain ⟨f1, f2, f3, f4, f5, f6⟩ := hf σ v σ1 h1
  obtain ⟨g1, g2, g3, g4, g5, g6⟩ := hg σ1 u σ2 h2
  have hsn : ∀ b, b ∈ H.rd ∨ b ∈ H.sz ∨ b ∈ H.wr → s ≠ some b := fun b hb hs => hn b hb (f5 b hs).1
  obtain ⟨τ, t1, t2, t3⟩ := g6 σ (by rw [f1]) (fun b hb => f3 b (g5 b hb).1)
    (fun b hb => .inr (f2 b (fun x => a3 b hb x) (hsn b (.inl hb))).symm)
    (fun b hb => .inr (f4 b (fun x => a4 b hb x) (hsn b (.inr (.inl hb)))).symm)
  obtain ⟨y1, y2, y3, y4, y5, y6⟩ := hg σ u τ t1
  obtain ⟨q, q1, q2, q3⟩ := f6 τ t2 (fun b hb => by
      rw [y2 b (fun hw => hsn b (.inr (.inr hw)) hb) (fun ht => (f5 b hb).2 (g5 b ht).1)]
      exact (f5 b hb).1)
    (fun b hb => by
      by_cases ht : t = some b
      · exact .inl (f3 b (g5 b ht).1)
      · exact .inr (y2 b (a1 b hb) ht))
    (fun b hb => by
      by_cases ht : t = some b
      · exact .inl (f3 b (g5 b ht).1)
      · exact .inr (y4 b (a2 b hb) ht))
  refine ⟨τ, t1, ?_⟩
  suffices q = σ2 by rw [q1, this]
  apply List.ext_getElem?
  intro b
  rcases t3 b with k1 | ⟨k1, k2⟩ <;> rcases q3 b with m1 | ⟨m1, m2⟩
  · by_cases hw : b ∈ H.wr
    · have e1 : σ1[b]? = σ[b]? := f2 b (fun x => a5 b x hw) (hsn b (.inr (.inr hw)))
      obtain ⟨z1, z2, _⟩ := hf τ v q q1
      rw [z2 b (fun x => a5 b x hw) (hsn b (.inr (.inr hw))), k1]
    · by_cases ht : t = some b
      · have h0 := (g5 b ht).1
        rw [h0] at m1
        obtain ⟨_, _, z3, _⟩ := hf τ v q q1
        exact absurd (z3 b m1) (y5 b ht).2
      · rw [m1, g2 b hw ht]
  · rw [m2, k1]
  · rw [m1, k1]
  · rw [m2, k2, k1, m1]

end
end Go.Proofs.YtnbglampelmgoaaGreat.Vpi
