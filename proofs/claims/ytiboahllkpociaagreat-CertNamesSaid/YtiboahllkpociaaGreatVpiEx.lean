/- The verified interpreter, part 21: runs with some fuel, and rules to go through them with open values. -/
import Derived.Test.YtiboahllkpociaaGreatVpiSim
namespace Go.Proofs.YtiboahllkpociaaGreat.Vpi
open Go
set_option linter.unusedVariables false
set_option linter.unusedSimpArgs false

/-! ### more fuel answers the same -/

def CallerLe (r r' : Caller) : Prop := ∀ f args σ x, r f args σ = some x → r' f args σ = some x

theorem doCall_mono {r r' : Caller} (h : CallerLe r r') {k : CK} {f : Nat} {args : List CV} {σ : Store} {x : CV × Store} (hx : doCall r k f args σ = some x) : doCall r' k f args σ = some x := by
  cases k with
  | pu =>
    simp only [doCall] at hx ⊢
    split at hx
    · split at hx
      · rename_i hr
        simp only [h _ _ _ _ hr]
        exact hx
      · cases hx
    · cases hx
  | fz =>
    simp only [doCall] at hx ⊢
    split at hx
    · split at hx
      · rename_i hr
        simp only [h _ _ _ _ hr]
        exact hx
      · cases hx
    · cases hx
  | full =>
    simp only [doCall] at hx ⊢
    split at hx
    · rename_i hr
      simp only [h _ _ _ _ hr]
      exact hx
    · cases hx
  | keep => exact h _ _ _ _ hx

theorem ev1_mono {r r' : Caller} (h : CallerLe r r') {base : Nat} {sl : Option Nat} {op : ROp} {e : Env} {σ : Store} {x : CV × Store} (hx : ev1 r base sl op e σ = some x) : ev1 r' base sl op e σ = some x := by
  cases op <;> try exact hx
  · exact doCall_mono h hx
  · simp only [ev1] at hx ⊢
    split at hx
    · exact doCall_mono h hx
    · cases hx

theorem evL_mono {r r' : Caller} (h : CallerLe r r') {base : Nat} {o : LOp} {e : Env} {σ : Store} {x : Env × Store} (hx : evL r base o e σ = some x) : evL r' base o e σ = some x := by
  unfold evL at hx ⊢
  split at hx
  · simp only [Option.map_eq_some_iff] at hx ⊢
    obtain ⟨a, ha, rfl⟩ := hx
    exact ⟨a, ev1_mono h ha, rfl⟩
  · split at hx
    · split at hx
      · rename_i hb
        simp only [Option.map_eq_some_iff] at hx
        obtain ⟨a, ha, rfl⟩ := hx
        simp only [hb, if_true, ev1_mono h ha]
        rfl
      · rename_i hb
        simp only [hb, if_false]
        exact hx
    · cases hx

theorem runO_mono {r r' : Caller} (h : CallerLe r r') {base : Nat} : ∀ {l : List LOp} {e : Env} {σ : Store} {x : Env × Store}, runO r base l e σ = some x → runO r' base l e σ = some x
  | [], _, _, _, hx => hx
  | o :: l, e, σ, x, hx => by
    simp only [runO] at hx ⊢
    split at hx
    · rename_i ho
      simp only [evL_mono h ho]
      exact runO_mono h hx
    · cases hx

theorem runK_reg {rp : RProg} {n : Nat} {rs : List RRes} {ops : List LOp} {ks : List KI} {e : Env} {σ : Store} : runK rp (n + 1) rs (.reg ops none) ks e σ = (runO (runF rp n) σ.length ops e σ).bind fun p => runK rp n rs .skip ks p.1 p.2 := by
  rw [runK]
  show (match runO (runF rp n) σ.length ops e σ with | some (e, σ) => runK rp n rs .skip ks e σ | none => none) = _
  cases runO (runF rp n) σ.length ops e σ <;> rfl

theorem runK_draw {rp : RProg} {n : Nat} {rs : List RRes} {ops : List LOp} {h : Nat} {xp : List (Nat × Nat)} {ks : List KI} {e : Env} {σ : Store} : runK rp (n + 1) rs (.reg ops (some (h, xp))) ks e σ =
    (runO (runF rp n) σ.length ops e (σ ++ List.replicate h .hole)).bind fun p => if xp.all (apartAt p.1 ops) then runK rp n rs .skip ks p.1 p.2 else none := by
  rw [runK]
  show (match runO (runF rp n) σ.length ops e (σ ++ List.replicate h .hole) with | some (e, σ) => if xp.all (apartAt e ops) then runK rp n rs .skip ks e σ else none | none => none) = _
  cases runO (runF rp n) σ.length ops e (σ ++ List.replicate h .hole) <;> rfl

theorem runF_mono {rp : RProg} {n : Nat} (ih : ∀ (rs : List RRes) (c : RCode) (ks : List KI) (e : Env) (σ : Store) (x : CV × Store), runK rp n rs c ks e σ = some x → runK rp (n + 1) rs c ks e σ = some x) : CallerLe (runF rp n) (runF rp (n + 1)) := by
  intro f args σ x hx
  unfold runF at hx ⊢
  split at hx
  · exact ih _ _ _ _ _ _ hx
  · cases hx

theorem runK_succ {rp : RProg} : ∀ (n : Nat) (rs : List RRes) (c : RCode) (ks : List KI) (e : Env) (σ : Store) (x : CV × Store), runK rp n rs c ks e σ = some x → runK rp (n + 1) rs c ks e σ = some x := by
  intro n
  induction n with
  | zero => intro rs c ks e σ x h; simp [runK] at h
  | succ n ih =>
    intro rs c ks e σ x h
    have hle := runF_mono (rp := rp) ih
    cases c with
    | skip =>
      cases ks with
      | nil => simpa only [runK] using h
      | cons k ks => cases k <;> (simp only [runK] at h ⊢; exact ih _ _ _ _ _ _ h)
    | reg ops dr =>
      cases dr with
      | none =>
        rw [runK_reg, Option.bind_eq_some_iff] at h
        obtain ⟨p, ho, h⟩ := h
        rw [runK_reg, runO_mono hle ho]
        exact ih _ _ _ _ _ _ h
      | some hx =>
        obtain ⟨hh, xp⟩ := hx
        rw [runK_draw, Option.bind_eq_some_iff] at h
        obtain ⟨p, ho, h⟩ := h
        rw [runK_draw, runO_mono hle ho]
        simp only [Option.bind_some]
        split at h
        · rename_i hp
          rw [if_pos hp]
          exact ih _ _ _ _ _ _ h
        · cases h
    | seq a b => simp only [runK] at h ⊢; exact ih _ _ _ _ _ _ h
    | cond c a b =>
      simp only [runK] at h ⊢
      split at h
      · split at h
        · rename_i hb; rw [if_pos hb]; exact ih _ _ _ _ _ _ h
        · rename_i hb; rw [if_neg hb]; exact ih _ _ _ _ _ _ h
      · cases h
    | block id c => simp only [runK] at h ⊢; exact ih _ _ _ _ _ _ h
    | loop c => simp only [runK] at h ⊢; exact ih _ _ _ _ _ _ h
    | exit id =>
      simp only [runK] at h ⊢
      split at h
      · exact ih _ _ _ _ _ _ h
      · cases h
    | ret => simpa only [runK] using h
    | fg keep c => simp only [runK] at h ⊢; exact ih _ _ _ _ _ _ h

theorem runK_le {rp : RProg} {n m : Nat} (h : n ≤ m) {rs : List RRes} {c : RCode} {ks : List KI} {e : Env} {σ : Store} {x : CV × Store} (hx : runK rp n rs c ks e σ = some x) : runK rp m rs c ks e σ = some x := by
  induction h with
  | refl => exact hx
  | step _ ih => exact runK_succ _ _ _ _ _ _ _ ih

theorem runF_le {rp : RProg} {n m : Nat} (h : n ≤ m) : CallerLe (runF rp n) (runF rp m) := by
  intro f args σ x hx
  unfold runF at hx ⊢
  split at hx
  · exact runK_le h hx
  · cases hx

/-! ### some fuel -/

def Ex (rp : RProg) (rs : List RRes) (c : RCode) (ks : List KI) (e : Env) (σ : Store) (Q : CV → Store → Prop) : Prop :=
  ∃ n v, runK rp n rs c ks e σ = some v ∧ Q v.1 v.2

def ExO (rp : RProg) (base : Nat) (ops : List LOp) (e : Env) (σ : Store) (K : Env → Store → Prop) : Prop :=
  ∃ n e' σ', runO (runF rp n) base ops e σ = some (e', σ') ∧ K e' σ'

/-- one operation's value -/
def Ev (rp : RProg) (base : Nat) (sl : Option Nat) (op : ROp) (e : Env) (σ : Store) (K : CV → Store → Prop) : Prop :=
  ∃ n v σ', ev1 (runF rp n) base sl op e σ = some (v, σ') ∧ K v σ'

/-- one call -/
def Cl (rp : RProg) (k : CK) (f : Nat) (args : List CV) (σ : Store) (K : CV → Store → Prop) : Prop :=
  ∃ n v σ', doCall (runF rp n) k f args σ = some (v, σ') ∧ K v σ'

/-- a function's answer -/
def Rn (rp : RProg) (f : Nat) (args : List CV) (σ : Store) (Q : CV → Store → Prop) : Prop :=
  ∃ n v, runF rp n f args σ = some v ∧ Q v.1 v.2

/-- a function on values without references: its answer -/
def Pu (rp : RProg) (f : Nat) (ps : List PV) (r : CV) : Prop := Rn rp f (ps.map .p) [] fun v τ => back 0 τ v = some r

section
variable {rp : RProg} {rs : List RRes} {ks : List KI} {e : Env} {σ : Store} {Q : CV → Store → Prop}

theorem Ex.mono {c : RCode} {Q' : CV → Store → Prop} (h : Ex rp rs c ks e σ Q) (hq : ∀ v τ, Q v τ → Q' v τ) : Ex rp rs c ks e σ Q' := by
  obtain ⟨n, v, h1, h2⟩ := h
  exact ⟨n, v, h1, hq _ _ h2⟩

theorem Rn.mono {f : Nat} {args : List CV} {Q' : CV → Store → Prop} (h : Rn rp f args σ Q) (hq : ∀ v τ, Q v τ → Q' v τ) : Rn rp f args σ Q' := by
  obtain ⟨n, v, h1, h2⟩ := h
  exact ⟨n, v, h1, hq _ _ h2⟩

theorem ex_step {c c' : RCode} {ks' : List KI} {e' : Env} {σ' : Store} (h : ∀ n, runK rp (n + 1) rs c ks e σ = runK rp n rs c' ks' e' σ') : Ex rp rs c ks e σ Q = Ex rp rs c' ks' e' σ' Q := by
  refine propext ⟨?_, ?_⟩
  · rintro ⟨n, v, h1, h2⟩
    cases n with
    | zero => simp [runK] at h1
    | succ n => exact ⟨n, v, by rw [← h]; exact h1, h2⟩
  · rintro ⟨n, v, h1, h2⟩
    exact ⟨n + 1, v, by rw [h]; exact h1, h2⟩

theorem ex_done {c : RCode} {o : Option (CV × Store)} (h : ∀ n, runK rp (n + 1) rs c ks e σ = o) : Ex rp rs c ks e σ Q = (∃ v, o = some v ∧ Q v.1 v.2) := by
  refine propext ⟨?_, ?_⟩
  · rintro ⟨n, v, h1, h2⟩
    cases n with
    | zero => simp [runK] at h1
    | succ n => exact ⟨v, by rw [← h n]; exact h1, h2⟩
  · rintro ⟨v, h1, h2⟩
    exact ⟨1, v, by rw [h 0]; exact h1, h2⟩

theorem ex_seq {a b : RCode} : Ex rp rs (.seq a b) ks e σ Q = Ex rp rs a (.code b :: ks) e σ Q := ex_step fun n => by simp only [runK]
theorem ex_code {c : RCode} : Ex rp rs .skip (.code c :: ks) e σ Q = Ex rp rs c ks e σ Q := ex_step fun n => by simp only [runK]
theorem ex_blk {i : Nat} : Ex rp rs .skip (.blk i :: ks) e σ Q = Ex rp rs .skip ks e σ Q := ex_step fun n => by simp only [runK]
theorem ex_lp {c : RCode} : Ex rp rs .skip (.lp c :: ks) e σ Q = Ex rp rs c (.lp c :: ks) e σ Q := ex_step fun n => by simp only [runK]
theorem ex_block {i : Nat} {c : RCode} : Ex rp rs (.block i c) ks e σ Q = Ex rp rs c (.blk i :: ks) e σ Q := ex_step fun n => by simp only [runK]
theorem ex_loop {c : RCode} : Ex rp rs (.loop c) ks e σ Q = Ex rp rs c (.lp c :: ks) e σ Q := ex_step fun n => by simp only [runK]
theorem ex_fg {keep : List Nat} {c : RCode} : Ex rp rs (.fg keep c) ks e σ Q = Ex rp rs c ks (fgt keep e) σ Q := ex_step fun n => by simp only [runK]
theorem ex_cond {c : Opd} {a b : RCode} {t : Bool} (h : vl e c = .p (.bool t)) : Ex rp rs (.cond c a b) ks e σ Q = if t = true then Ex rp rs a ks e σ Q else Ex rp rs b ks e σ Q := by
  cases t
  · simp only [Bool.false_eq_true, if_false]; exact ex_step fun n => by simp [runK, h]
  · simp only [if_true]; exact ex_step fun n => by simp [runK, h]
theorem ex_exit {i : Nat} {ks' : List KI} (h : exitK i ks = some ks') : Ex rp rs (.exit i) ks e σ Q = Ex rp rs .skip ks' e σ Q := ex_step fun n => by simp only [runK, h]
theorem exitK_blk {i j : Nat} : exitK i (.blk j :: ks) = if j = i then some ks else exitK i ks := rfl
theorem exitK_code {i : Nat} {c : RCode} : exitK i (.code c :: ks) = exitK i ks := rfl
theorem exitK_lp {i : Nat} {c : RCode} : exitK i (.lp c :: ks) = exitK i ks := rfl
theorem ex_exit_blk {i j : Nat} : Ex rp rs (.exit i) (.blk j :: ks) e σ Q = if j = i then Ex rp rs .skip ks e σ Q else Ex rp rs (.exit i) ks e σ Q := by
  by_cases h : j = i
  · rw [if_pos h]; exact ex_exit (by simp [exitK, h])
  · rw [if_neg h]
    refine propext ⟨?_, ?_⟩
    all_goals
      rintro ⟨n, v, h1, h2⟩
      cases n with
      | zero => simp [runK] at h1
      | succ n => exact ⟨n + 1, v, by simpa [runK, exitK, h] using h1, h2⟩
theorem ex_exit_code {i : Nat} {c : RCode} : Ex rp rs (.exit i) (.code c :: ks) e σ Q = Ex rp rs (.exit i) ks e σ Q := by
  refine propext ⟨?_, ?_⟩
  all_goals
    rintro ⟨n, v, h1, h2⟩
    cases n with
    | zero => simp [runK] at h1
    | succ n => exact ⟨n + 1, v, by simpa [runK, exitK] using h1, h2⟩
theorem ex_exit_lp {i : Nat} {c : RCode} : Ex rp rs (.exit i) (.lp c :: ks) e σ Q = Ex rp rs (.exit i) ks e σ Q := by
  refine propext ⟨?_, ?_⟩
  all_goals
    rintro ⟨n, v, h1, h2⟩
    cases n with
    | zero => simp [runK] at h1
    | succ n => exact ⟨n + 1, v, by simpa [runK, exitK] using h1, h2⟩
theorem ex_ret : Ex rp rs .ret ks e σ Q = ∃ v, resultsV rs e σ = some v ∧ Q v σ := by
  rw [ex_done (o := (resultsV rs e σ).map fun v => (v, σ)) fun n => by simp only [runK]]
  refine propext ⟨?_, ?_⟩
  · rintro ⟨v, h1, h2⟩
    obtain ⟨u, hu, rfl⟩ := Option.map_eq_some_iff.1 h1
    exact ⟨u, hu, h2⟩
  · rintro ⟨v, h1, h2⟩
    exact ⟨(v, σ), by rw [h1]; rfl, h2⟩
theorem ex_end : Ex rp rs .skip [] e σ Q = ∃ v, resultsV rs e σ = some v ∧ Q v σ := by
  rw [ex_done (o := (resultsV rs e σ).map fun v => (v, σ)) fun n => by simp only [runK]]
  refine propext ⟨?_, ?_⟩
  · rintro ⟨v, h1, h2⟩
    obtain ⟨u, hu, rfl⟩ := Option.map_eq_some_iff.1 h1
    exact ⟨u, hu, h2⟩
  · rintro ⟨v, h1, h2⟩
    exact ⟨(v, σ), by rw [h1]; rfl, h2⟩

theorem ex_reg {ops : List LOp} : Ex rp rs (.reg ops none) ks e σ Q = ExO rp σ.length ops e σ (fun e σ => Ex rp rs .skip ks e σ Q) := by
  refine propext ⟨?_, ?_⟩
  · rintro ⟨n, v, h1, h2⟩
    cases n with
    | zero => simp [runK] at h1
    | succ n =>
      rw [runK_reg, Option.bind_eq_some_iff] at h1
      obtain ⟨p, ho, h1⟩ := h1
      exact ⟨n, p.1, p.2, ho, n, v, h1, h2⟩
  · rintro ⟨n, e', σ', ho, m, v, h1, h2⟩
    refine ⟨max n m + 1, v, ?_, h2⟩
    rw [runK_reg, runO_mono (runF_le (rp := rp) (Nat.le_max_left n m)) ho]
    exact runK_le (Nat.le_max_right _ _) h1

theorem ex_draw {ops : List LOp} {h : Nat} {xp : List (Nat × Nat)} : Ex rp rs (.reg ops (some (h, xp))) ks e σ Q = ExO rp σ.length ops e (σ ++ List.replicate h .hole) (fun e σ => (xp.all (apartAt e ops)) = true ∧ Ex rp rs .skip ks e σ Q) := by
  refine propext ⟨?_, ?_⟩
  · rintro ⟨n, v, h1, h2⟩
    cases n with
    | zero => simp [runK] at h1
    | succ n =>
      rw [runK_draw, Option.bind_eq_some_iff] at h1
      obtain ⟨p, ho, h1⟩ := h1
      split at h1
      · rename_i hx
        exact ⟨n, p.1, p.2, ho, hx, n, v, h1, h2⟩
      · cases h1
  · rintro ⟨n, e', σ', ho, hx, m, v, h1, h2⟩
    refine ⟨max n m + 1, v, ?_, h2⟩
    rw [runK_draw, runO_mono (runF_le (rp := rp) (Nat.le_max_left n m)) ho]
    simp only [Option.bind_some, hx, if_true]
    exact runK_le (Nat.le_max_right _ _) h1

theorem exO_nil {base : Nat} {K : Env → Store → Prop} : ExO rp base [] e σ K = K e σ := by
  refine propext ⟨?_, fun h => ⟨0, e, σ, rfl, h⟩⟩
  rintro ⟨n, e', σ', h, hk⟩
  simp only [runO, Option.some.injEq, Prod.mk.injEq] at h
  obtain ⟨rfl, rfl⟩ := h
  exact hk

theorem exO_cons {base : Nat} {K : Env → Store → Prop} {d : Option Nat} {sl : Option Nat} {op : ROp} {l : List LOp} :
    ExO rp base (⟨d, none, sl, op⟩ :: l) e σ K = Ev rp base sl op e σ (fun v σ => ExO rp base l (sto d v e) σ K) := by
  refine propext ⟨?_, ?_⟩
  · rintro ⟨n, e', σ', h, hk⟩
    simp only [runO] at h
    split at h
    · rename_i e1 σ1 h1
      simp only [evL, Option.map_eq_some_iff, Prod.mk.injEq] at h1
      obtain ⟨⟨v, σ2⟩, h1, rfl, rfl⟩ := h1
      exact ⟨n, v, σ2, h1, n, e', σ', h, hk⟩
    · cases h
  · rintro ⟨n, v, σ1, h1, m, e', σ', h, hk⟩
    refine ⟨max n m, e', σ', ?_, hk⟩
    simp only [runO, evL, ev1_mono (runF_le (rp := rp) (Nat.le_max_left n m)) h1, Option.map_some]
    exact runO_mono (runF_le (rp := rp) (Nat.le_max_right n m)) h

theorem exO_guard {base : Nat} {K : Env → Store → Prop} {d : Option Nat} {t : Nat} {w b : Bool} {sl : Option Nat} {op : ROp} {l : List LOp} (hg : gt e t = .p (.bool b)) :
    ExO rp base (⟨d, some (t, w), sl, op⟩ :: l) e σ K = if b = w then Ev rp base sl op e σ (fun v σ => ExO rp base l (sto d v e) σ K) else ExO rp base l (sto d .any e) σ K := by
  by_cases hb : b = w
  · rw [if_pos hb, ← exO_cons]
    unfold ExO
    simp only [runO, evL, hg, hb, if_true]
  · rw [if_neg hb]
    unfold ExO
    simp only [runO, evL, hg, hb, if_false]

theorem ev_other {base : Nat} {sl : Option Nat} {op : ROp} {K : CV → Store → Prop} (h : ∀ r : Caller, ev1 r base sl op e σ = ev base sl op e σ) : Ev rp base sl op e σ K = ∃ v σ', ev base sl op e σ = some (v, σ') ∧ K v σ' := by
  unfold Ev
  simp only [h]
  refine propext ⟨?_, ?_⟩
  · rintro ⟨n, v, σ', h1, h2⟩; exact ⟨v, σ', h1, h2⟩
  · rintro ⟨v, σ', h1, h2⟩; exact ⟨0, v, σ', h1, h2⟩

theorem ev_call {base : Nat} {sl : Option Nat} {k : CK} {f : Nat} {args : List Opd} {K : CV → Store → Prop} : Ev rp base sl (.call k f args) e σ K = Cl rp k f (args.map (vl e)) σ K := rfl
theorem ev_callv {base : Nat} {sl : Option Nat} {k : CK} {x : Opd} {f : Nat} {cap : List CV} {args : List Opd} {K : CV → Store → Prop} (h : vl e x = .fn f cap) : Ev rp base sl (.callv k x args) e σ K = Cl rp k f (args.map (vl e) ++ cap) σ K := by
  unfold Ev Cl
  simp only [ev1, h]

theorem cl_pu {f : Nat} {args : List CV} {ps : List PV} {r : CV} {K : CV → Store → Prop} (ha : toPs args = some ps) (h : Pu rp f ps r) (hk : K r σ) : Cl rp .pu f args σ K := by
  obtain ⟨n, v, h1, h2⟩ := h
  refine ⟨n, r, σ, ?_, hk⟩
  simp only [doCall, ha, h1, h2, Option.map_some]

theorem cl_fz {f : Nat} {args : List CV} {ps : List PV} {r : CV} {K : CV → Store → Prop} (ha : frzs σ args = some ps) (h : Pu rp f ps r) (hk : K r (kills σ args)) : Cl rp .fz f args σ K := by
  obtain ⟨n, v, h1, h2⟩ := h
  refine ⟨n, r, kills σ args, ?_, hk⟩
  simp only [doCall, ha, h1, h2, Option.map_some]

theorem cl_keep {f : Nat} {args : List CV} {K : CV → Store → Prop} (h : Rn rp f args σ K) : Cl rp .keep f args σ K := by
  obtain ⟨n, v, h1, h2⟩ := h
  exact ⟨n, v.1, v.2, h1, h2⟩

theorem cl_full {f : Nat} {args : List CV} {K : CV → Store → Prop} (h : Rn rp f args σ fun v τ => ((τ.take σ.length).all (blkBelow σ.length)) = true ∧ ∃ r, back σ.length τ v = some r ∧ K r (τ.take σ.length)) : Cl rp .full f args σ K := by
  obtain ⟨n, v, h1, h2, r, h3, h4⟩ := h
  refine ⟨n, r, v.2.take σ.length, ?_, h4⟩
  simp only [doCall, h1, h2, h3, if_true, Option.map_some]

theorem rn_of {f : Nat} {rf : RFun} {args : List CV} (hf : rp f = some rf) : Rn rp f args σ Q = Ex rp rf.res rf.code [] (args0 0 args) σ Q := by
  unfold Rn Ex runF
  simp only [hf]

theorem pu_of {f : Nat} {rf : RFun} {ps : List PV} {r : CV} (hf : rp f = some rf) (h : Ex rp rf.res rf.code [] (args0 0 (ps.map .p)) [] fun v τ => back 0 τ v = some r) : Pu rp f ps r := by
  unfold Pu
  rw [rn_of hf]
  exact h

/-- a loop: where it stands is told by a value b -/
theorem ex_loop_rule {β : Type} (S : β → Env × Store) (I : β → Prop) (μ : β → Nat) {c : RCode} (b0 : β) (h0 : (S b0).1 = e) (h1 : (S b0).2 = σ) (hi : I b0)
    (hstep : ∀ b, I b → (∀ b', I b' → μ b' < μ b → Ex rp rs c (.lp c :: ks) (S b').1 (S b').2 Q) → Ex rp rs c (.lp c :: ks) (S b).1 (S b).2 Q) : Ex rp rs (.loop c) ks e σ Q := by
  rw [ex_loop, ← h0, ← h1]
  have key : ∀ n b, I b → μ b < n → Ex rp rs c (.lp c :: ks) (S b).1 (S b).2 Q := by
    intro n
    induction n with
    | zero => intro b _ h; omega
    | succ n ih => intro b hb hn; exact hstep b hb fun b' hb' hlt => ih b' hb' (by omega)
  exact key _ b0 hi (Nat.lt_succ_self _)
end

/-! ### words for the rewriting -/

theorem ev_alloc' {zs : List CV} {base : Nat} {e : Env} {σ : Store} : ev base none (.alloc zs) e σ = some (.ptr σ.length 0 0, σ ++ [.kblk zs.length zs]) := rfl

theorem binV_add {k : IntKind} {a b : Int} : binV .add (.int k a) (.int k b) = some (.int k (k.wrap (a + b))) := by simp [binV]
theorem binV_sub {k : IntKind} {a b : Int} : binV .sub (.int k a) (.int k b) = some (.int k (k.wrap (a - b))) := by simp [binV]
theorem binV_mul {k : IntKind} {a b : Int} : binV .mul (.int k a) (.int k b) = some (.int k (k.wrap (a * b))) := by simp [binV]
theorem binV_quo {k : IntKind} {a b : Int} (h : b ≠ 0) : binV .quo (.int k a) (.int k b) = some (.int k (k.wrap (a.tdiv b))) := by simp [binV, h]
theorem binV_rem {k : IntKind} {a b : Int} (h : b ≠ 0) : binV .rem (.int k a) (.int k b) = some (.int k (a.tmod b)) := by simp [binV, h]
theorem binV_and {k : IntKind} {a b : Int} : binV .and (.int k a) (.int k b) = some (.int k (k.wrap (BitVec.ofInt k.bits a &&& BitVec.ofInt k.bits b).toNat)) := by simp [binV]
theorem binV_or {k : IntKind} {a b : Int} : binV .or (.int k a) (.int k b) = some (.int k (k.wrap (BitVec.ofInt k.bits a ||| BitVec.ofInt k.bits b).toNat)) := by simp [binV]
theorem binV_xor {k : IntKind} {a b : Int} : binV .xor (.int k a) (.int k b) = some (.int k (k.wrap (BitVec.ofInt k.bits a ^^^ BitVec.ofInt k.bits b).toNat)) := by simp [binV]
theorem binV_eql {k : IntKind} {a b : Int} : binV .eql (.int k a) (.int k b) = some (.bool (a == b)) := by simp [binV]
theorem binV_neq {k : IntKind} {a b : Int} : binV .neq (.int k a) (.int k b) = some (.bool (a != b)) := by simp [binV]
theorem binV_lss {k : IntKind} {a b : Int} : binV .lss (.int k a) (.int k b) = some (.bool (decide (a < b))) := by simp [binV]
theorem binV_leq {k : IntKind} {a b : Int} : binV .leq (.int k a) (.int k b) = some (.bool (decide (a ≤ b))) := by simp [binV]
theorem binV_gtr {k : IntKind} {a b : Int} : binV .gtr (.int k a) (.int k b) = some (.bool (decide (a > b))) := by simp [binV]
theorem binV_geq {k : IntKind} {a b : Int} : binV .geq (.int k a) (.int k b) = some (.bool (decide (a ≥ b))) := by simp [binV]
theorem binV_shl {k k' : IntKind} {a b : Int} (h : 0 ≤ b) : binV .shl (.int k a) (.int k' b) = some (.int k (k.wrap (a * 2 ^ min b.toNat k.bits))) := by
  simp only [binV]; rw [if_neg (by omega)]
theorem binV_shr {k k' : IntKind} {a b : Int} (h : 0 ≤ b) : binV .shr (.int k a) (.int k' b) = some (.int k (a.fdiv (2 ^ min b.toNat k.bits))) := by
  simp only [binV]; rw [if_neg (by omega)]

theorem pv_if {c : Prop} [Decidable c] {K : CV → Store → Prop} {a b : CV} {σ : Store} : (K (if c then a else b) σ) = if c then K a σ else K b σ := by split <;> rfl

theorem and_true_prop {p : Prop} : (True ∧ p) = p := by simp
theorem ex_some {α β : Type} {a : α} {b : β} {K : α → β → Prop} : (∃ v s, some (a, b) = some (v, s) ∧ K v s) = K a b := by
  refine propext ⟨?_, fun h => ⟨a, b, rfl, h⟩⟩
  rintro ⟨v, s, h, hk⟩
  cases h
  exact hk
theorem ex_some1 {α : Type} {a : α} {K : α → Prop} : (∃ v, some a = some v ∧ K v) = K a := by
  refine propext ⟨?_, fun h => ⟨a, rfl, h⟩⟩
  rintro ⟨v, h, hk⟩
  cases h
  exact hk

end Go.Proofs.YtiboahllkpociaaGreat.Vpi
