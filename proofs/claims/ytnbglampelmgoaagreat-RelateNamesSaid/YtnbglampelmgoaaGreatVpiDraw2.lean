/- The verified interpreter, part 18: regions whose order is drawn, run in any order. -/
import Derived.Test.YtnbglampelmgoaaGreatVpiDraw
namespace Go.Proofs.YtnbglampelmgoaaGreat.Vpi
open Go
set_option linter.unusedVariables false
set_option linter.unusedSimpArgs false

/-- neither writes what the other reads or writes, among the temporaries -/
def indep (x y : LOp) : Bool :=
  (match x.d with | some d => !(lopT y).elem d && (match y.d with | some d' => d != d' | none => true) | none => true) &&
  (match y.d with | some d => !(lopT x).elem d | none => true)

/-- what can be said without values -/
def pairS (x y : ROp) : Bool :=
  cls x == 0 || cls y == 0 || (decide (cls x ≤ 2) && decide (cls y ≤ 2)) || (cls x == 1 && cls y != 4) || (cls y == 1 && cls x != 4)

instance : Inhabited LOp := ⟨⟨none, none, none, .alloc []⟩⟩

def at' (L : List LOp) (i : Nat) : LOp := L.getD i default

def EnvEq (e e' : Env) : Prop := ∀ n, gt e n = gt e' n

theorem EnvEq.agree {e e' : Env} (h : EnvEq e e') (l : List Nat) : AgreeOn l e e' := fun t _ => h t

theorem gt_sto (d : Option Nat) (v : CV) (e : Env) (n : Nat) : gt (sto d v e) n = if d = some n then v else gt e n := by
  cases d with
  | none => simp [sto]
  | some d =>
    simp only [sto]
    rw [gt_st]
    by_cases h : n = d
    · subst h; simp
    · rw [if_neg h, if_neg (by rintro ⟨⟩; exact h rfl)]

theorem EnvEq.sto {e e' : Env} (h : EnvEq e e') (d : Option Nat) (v : CV) : EnvEq (sto d v e) (sto d v e') := by
  intro n; rw [gt_sto, gt_sto, h n]

section
variable {run : Caller} {base : Nat} {e e' : Env} {σ : Store}

theorem evL_env {o : LOp} (h : EnvEq e e') {e1 : Env} {σ1 : Store} (hr : evL run base o e σ = some (e1, σ1)) : ∃ e1', evL run base o e' σ = some (e1', σ1) ∧ EnvEq e1 e1' := by
  rw [evL_eq, Option.map_eq_some_iff] at hr
  obtain ⟨⟨v, τ⟩, hv, he⟩ := hr
  cases he
  rw [evV_agree (h.agree _)] at hv
  exact ⟨sto o.d v e', by rw [evL_eq, hv]; rfl, h.sto _ _⟩

theorem runO_env : ∀ {l : List LOp} {e e' : Env} {σ : Store} {e1 : Env} {σ1 : Store}, EnvEq e e' → runO run base l e σ = some (e1, σ1) → ∃ e1', runO run base l e' σ = some (e1', σ1) ∧ EnvEq e1 e1'
  | [], e, e', σ, e1, σ1, h, hr => by
    simp only [runO] at hr
    cases hr
    exact ⟨e', rfl, h⟩
  | o :: l, e, e', σ, e1, σ1, h, hr => by
    simp only [runO] at hr
    split at hr
    · rename_i e2 σ2 hev
      obtain ⟨e2', h1, h2⟩ := evL_env h hev
      obtain ⟨e1', h3, h4⟩ := runO_env h2 hr
      exact ⟨e1', by simp only [runO, h1]; exact h3, h4⟩
    · cases hr

theorem evL_sto {o : LOp} {e1 : Env} {σ1 : Store} (hr : evL run base o e σ = some (e1, σ1)) : ∃ v, evV run base o e σ = some (v, σ1) ∧ e1 = sto o.d v e := by
  rw [evL_eq, Option.map_eq_some_iff] at hr
  obtain ⟨⟨v, τ⟩, hv, he⟩ := hr
  cases he
  exact ⟨v, hv, rfl⟩

/-- what is not written stays -/
theorem runO_gt : ∀ {l : List LOp} {e : Env} {σ : Store} {e1 : Env} {σ1 : Store} {n : Nat}, runO run base l e σ = some (e1, σ1) → (∀ o ∈ l, o.d ≠ some n) → gt e1 n = gt e n
  | [], e, σ, e1, σ1, n, hr, _ => by simp only [runO] at hr; cases hr; rfl
  | o :: l, e, σ, e1, σ1, n, hr, h => by
    simp only [runO] at hr
    split at hr
    · rename_i e2 σ2 hev
      obtain ⟨v, _, rfl⟩ := evL_sto hev
      rw [runO_gt hr (fun o ho => h o (by simp [ho])), gt_sto, if_neg (h o (by simp))]
    · cases hr

def Compat (x y : LOp) (e : Env) : Prop :=
  cls x.op = 0 ∨ cls y.op = 0 ∨ (cls x.op ≠ 4 ∧ cls y.op ≠ 4 ∧ Apart (foot e x.op) (foot e y.op))

theorem foot_cls {op : ROp} (h : cls op ≤ 2) : (foot e op).wr = [] ∧ (foot e op).kl = [] := by
  cases op with
  | call k f args => cases k <;> first | exact ⟨rfl, rfl⟩ | (simp [cls] at h)
  | callv k x args => cases k <;> first | exact ⟨rfl, rfl⟩ | (simp [cls] at h)
  | store _ _ _ => simp [cls] at h
  | bslice _ _ => simp [cls] at h
  | append _ _ _ _ => simp [cls] at h
  | copy _ _ _ => simp [cls] at h
  | _ => exact ⟨rfl, rfl⟩

theorem foot_cls1 {op : ROp} (h : cls op ≤ 1) : foot e op = ⟨[], [], [], []⟩ := by
  cases op with
  | call k f args => cases k <;> first | rfl | (simp [cls] at h)
  | callv k x args => cases k <;> first | rfl | (simp [cls] at h)
  | store _ _ _ => simp [cls] at h
  | bslice _ _ => simp [cls] at h
  | append _ _ _ _ => simp [cls] at h
  | copy _ _ _ => simp [cls] at h
  | load _ _ _ => simp [cls] at h
  | slice _ _ _ _ _ => simp [cls] at h
  | indexA _ _ _ => simp [cls] at h
  | _ => rfl

theorem Compat.ofS {x y : LOp} (h : pairS x.op y.op = true) : Compat x y e := by
  simp only [pairS, Bool.or_eq_true, Bool.and_eq_true, beq_iff_eq, decide_eq_true_eq, bne_iff_ne, ne_eq] at h
  rcases h with (((h | h) | ⟨h1, h2⟩) | ⟨h1, h2⟩) | ⟨h1, h2⟩
  · exact .inl h
  · exact .inr (.inl h)
  · obtain ⟨x1, x2⟩ := foot_cls (e := e) h1
    obtain ⟨y1, y2⟩ := foot_cls (e := e) h2
    exact .inr (.inr ⟨by omega, by omega, by simp [y1], by simp [y2], by simp [x1], by simp [x2], by simp [x1]⟩)
  · have := foot_cls1 (e := e) (op := x.op) (by omega)
    exact .inr (.inr ⟨by omega, h2, by simp [Apart, this]⟩)
  · have := foot_cls1 (e := e) (op := y.op) (by omega)
    exact .inr (.inr ⟨h2, by omega, by simp [Apart, this]⟩)

theorem apartB_spec {F H : Foot} (h : apartB F H = true) : Apart F H := by
  simp only [apartB, Bool.and_eq_true, List.all_eq_true, Bool.not_eq_true'] at h
  obtain ⟨⟨⟨⟨h1, h2⟩, h3⟩, h4⟩, h5⟩ := h
  have k : ∀ {l : List Nat} {b : Nat}, l.elem b = false → b ∉ l := by intro l b h hm; rw [List.elem_eq_contains, ← Bool.not_eq_true, List.contains_iff_mem] at h; exact h hm
  exact ⟨fun b hb => k (h1 b hb), fun b hb => k (h2 b hb), fun b hb => k (h3 b hb), fun b hb => k (h4 b hb), fun b hb => k (h5 b hb)⟩

theorem indep_spec {x y : LOp} (h : indep x y = true) : (∀ d, x.d = some d → d ∉ lopT y) ∧ (∀ d, y.d = some d → d ∉ lopT x) ∧ (∀ d, x.d = some d → y.d ≠ some d) := by
  simp only [indep, Bool.and_eq_true] at h
  have k : ∀ {l : List Nat} {b : Nat}, l.elem b = false → b ∉ l := by intro l b h hm; rw [List.elem_eq_contains, ← Bool.not_eq_true, List.contains_iff_mem] at h; exact h hm
  obtain ⟨h1, h2⟩ := h
  refine ⟨?_, ?_, ?_⟩
  · intro d hd
    rw [hd] at h1
    simp only [Bool.and_eq_true, Bool.not_eq_true'] at h1
    exact k h1.1
  · intro d hd
    rw [hd] at h2
    simp only [Bool.not_eq_true'] at h2
    exact k h2
  · intro d hd hy
    rw [hd, hy] at h1
    simp at h1

/-- TWO NEIGHBOURS CHANGE PLACES -/
theorem swapL {x y : LOp} {e1 e2 : Env} {σ1 σ2 : Store} (hx : evL run base x e σ = some (e1, σ1)) (hy : evL run base y e1 σ1 = some (e2, σ2)) (hi : indep x y = true) (hc : Compat x y e)
    (px : pushes x.op = true → x.sl.isSome = true) (py : pushes y.op = true → y.sl.isSome = true)
    (hn : ∀ b, b ∈ (foot e y.op).rd ∨ b ∈ (foot e y.op).sz ∨ b ∈ (foot e y.op).wr → σ[b]? ≠ some Blk.hole) :
    ∃ e1' σ1' e2', evL run base y e σ = some (e1', σ1') ∧ evL run base x e1' σ1' = some (e2', σ2) ∧ EnvEq e2' e2 := by
  obtain ⟨i1, i2, i3⟩ := indep_spec hi
  obtain ⟨v, hv, rfl⟩ := evL_sto hx
  obtain ⟨u, hu, rfl⟩ := evL_sto hy
  have ey : AgreeOn (lopT y) (sto x.d v e) e := by
    intro t ht
    rw [gt_sto, if_neg]
    intro h; exact i1 t h ht
  have ex : AgreeOn (lopT x) (sto y.d u e) e := by
    intro t ht
    rw [gt_sto, if_neg]
    intro h; exact i2 t h ht
  rw [evV_agree ey] at hu
  have key : ∃ τ, evV run base y e σ = some (u, τ) ∧ evV run base x e τ = some (v, σ2) := by
    rcases hc with h | h | ⟨h1, h2, h3⟩
    · obtain ⟨rfl, q⟩ := quiet_evV (run := run) (base := base) (e := e) h σ v σ1 hv
      exact ⟨σ2, hu, q σ2⟩
    · obtain ⟨rfl, q⟩ := quiet_evV (run := run) (base := base) (e := e) h σ1 u σ2 hu
      exact ⟨σ, q σ, hv⟩
    · obtain ⟨s, hs⟩ := local_evV (run := run) (base := base) (e := e) h1 px
      obtain ⟨t, ht⟩ := local_evV (run := run) (base := base) (e := e) h2 py
      exact swapS hs ht h3 hv hu hn
  obtain ⟨τ, k1, k2⟩ := key
  refine ⟨sto y.d u e, τ, sto x.d v (sto y.d u e), by rw [evL_eq, k1]; rfl, by rw [evL_eq, evV_agree ex, k2]; rfl, ?_⟩
  intro n
  simp only [gt_sto]
  by_cases hd : x.d = some n
  · rw [if_pos hd, if_neg (i3 n hd), if_pos hd]
  · rw [if_neg hd, if_neg hd]

/-- ONE IS TAKEN TO THE FRONT -/
theorem takeFront {L : List LOp} {i : Nat} {post : List Nat} {ef : Env} {σf : Store} (pi : pushes (at' L i).op = true → (at' L i).sl.isSome = true) :
    ∀ (pre : List Nat) (e : Env) (σ : Store) (eg : Env), runO run base ((pre ++ i :: post).map (at' L)) e σ = some (eg, σf) → EnvEq eg ef →
      (∀ j ∈ pre, indep (at' L j) (at' L i) = true ∧ (pushes (at' L j).op = true → (at' L j).sl.isSome = true)) →
      (∀ pre1 j pre2, pre = pre1 ++ j :: pre2 → pairS (at' L j).op (at' L i).op = true ∨
        (cls (at' L j).op ≠ 4 ∧ cls (at' L i).op ≠ 4 ∧ Apart (foot ef (at' L j).op) (foot ef (at' L i).op) ∧ ∀ k ∈ j :: pre2 ++ i :: post, ∀ d, (at' L k).d = some d → d ∉ ropT (at' L j).op ∧ d ∉ ropT (at' L i).op)) →
      (∀ b, b ∈ (foot e (at' L i).op).rd ∨ b ∈ (foot e (at' L i).op).sz ∨ b ∈ (foot e (at' L i).op).wr → σ[b]? ≠ some Blk.hole) →
      ∃ eg', runO run base ((i :: pre ++ post).map (at' L)) e σ = some (eg', σf) ∧ EnvEq eg' ef
  | [], e, σ, eg, hr, he, _, _, _ => ⟨eg, hr, he⟩
  | j :: pre, e, σ, eg, hr, he, hind, hcomp, hn => by
    have hr0 := hr
    rw [List.cons_append, List.map_cons] at hr
    simp only [runO] at hr
    split at hr
    · rename_i e1 σ1 hev
      obtain ⟨hij, hpj⟩ := hind j (by simp)
      obtain ⟨v, hv, he1⟩ := evL_sto hev
      have hcj : Compat (at' L j) (at' L i) e := by
        rcases hcomp [] j pre rfl with h | ⟨h1, h2, h3, h4⟩
        · exact Compat.ofS h
        · have ag : ∀ (o : ROp), (∀ k ∈ j :: pre ++ i :: post, ∀ d, (at' L k).d = some d → d ∉ ropT o) → AgreeOn (ropT o) e ef := by
            intro o ho t ht
            rw [← he t]
            symm
            refine runO_gt hr0 ?_
            intro x hx hd
            obtain ⟨k, hk, rfl⟩ := List.mem_map.1 hx
            exact ho k hk t hd ht
          rw [← foot_agree (ag _ fun k hk d hd => (h4 k hk d hd).1), ← foot_agree (ag _ fun k hk d hd => (h4 k hk d hd).2)] at h3
          exact .inr (.inr ⟨h1, h2, h3⟩)
      have hfe : foot e1 (at' L i).op = foot e (at' L i).op := by
        refine foot_agree fun t ht => ?_
        rw [he1, gt_sto, if_neg]
        intro hd
        exact (indep_spec hij).1 t hd (List.mem_append.2 (.inl ht))
      have hn1 : ∀ b, b ∈ (foot e1 (at' L i).op).rd ∨ b ∈ (foot e1 (at' L i).op).sz ∨ b ∈ (foot e1 (at' L i).op).wr → σ1[b]? ≠ some Blk.hole := by
        rw [hfe]
        intro b hb
        rcases hcj with h | h | ⟨h, _, _⟩
        · obtain ⟨rfl, _⟩ := quiet_evV (run := run) (base := base) (e := e) h σ v σ1 hv
          exact hn b hb
        · rw [foot_cls1 (by omega)] at hb
          simp at hb
        · obtain ⟨s, hs⟩ := local_evV (run := run) (base := base) (e := e) h hpj
          intro hh
          exact hn b hb ((hs σ v σ1 hv).2.2.1 b hh)
      obtain ⟨eg1, hr1, he2⟩ := takeFront pi pre e1 σ1 eg hr he (fun k hk => hind k (by simp [hk])) (fun p1 k p2 hp => hcomp (j :: p1) k p2 (by rw [hp]; rfl)) hn1
      rw [List.cons_append, List.map_cons] at hr1
      simp only [runO] at hr1
      split at hr1
      · rename_i e2 σ2 hev2
        obtain ⟨e1', σ1', e2', k1, k2, k3⟩ := swapL hev hev2 hij hcj hpj pi hn
        obtain ⟨eg2, k4, k5⟩ := runO_env (fun n => (k3 n).symm) hr1
        refine ⟨eg2, ?_, fun n => (k5 n).symm.trans (he2 n)⟩
        rw [List.cons_append, List.map_cons, List.cons_append, List.map_cons]
        simp only [runO, k1, k2]
        exact k4
      · cases hr1
    · cases hr

end
end Go.Proofs.YtnbglampelmgoaaGreat.Vpi
