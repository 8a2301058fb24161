/- The verified interpreter, part 22: each operation's rule as an equation, for rewriting; what comes behind is kept as data. -/
import Derived.Test.YtdieenbfdeaffaaVpiEx
import Derived.IntWalk
namespace Go.Proofs.Ytdieenbfdeaffaa.Vpi
open Go
set_option linter.unusedVariables false
set_option linter.unusedSimpArgs false

abbrev Dr := Option (List (Nat × Nat) × List LOp)

/-- a region on its way -/
def ExR (rp : RProg) (rs : List RRes) (base : Nat) (l : List LOp) (dr : Dr) (ks : List KI) (e : Env) (σ : Store) (Q : CV → Store → Prop) : Prop :=
  ExO rp base l e σ fun e σ => (match dr with | none => True | some (xp, ops) => xp.all (apartAt e ops) = true) ∧ Ex rp rs .skip ks e σ Q

/-- behind an operation -/
def KE (rp : RProg) (rs : List RRes) (base : Nat) (d : Option Nat) (l : List LOp) (dr : Dr) (ks : List KI) (Q : CV → Store → Prop) (o : Option (CV × Store)) (e : Env) : Prop :=
  match o with
  | some (v, σ) => ExR rp rs base l dr ks (sto d v e) σ Q
  | none => False

/-- at a call -/
def KC (rp : RProg) (rs : List RRes) (base : Nat) (k : CK) (f : Nat) (args : List CV) (d : Option Nat) (l : List LOp) (dr : Dr) (ks : List KI) (e : Env) (σ : Store) (Q : CV → Store → Prop) : Prop :=
  Cl rp k f args σ fun v σ => ExR rp rs base l dr ks (sto d v e) σ Q

def KV (rp : RProg) (rs : List RRes) (base : Nat) (k : CK) (x : CV) (args : List CV) (d : Option Nat) (l : List LOp) (dr : Dr) (ks : List KI) (e : Env) (σ : Store) (Q : CV → Store → Prop) : Prop :=
  match x with
  | .fn f cap => KC rp rs base k f (args ++ cap) d l dr ks e σ Q
  | _ => False

/-- at a guard -/
def KG (rp : RProg) (rs : List RRes) (base : Nat) (c : CV) (w : Bool) (o : LOp) (l : List LOp) (dr : Dr) (ks : List KI) (e : Env) (σ : Store) (Q : CV → Store → Prop) : Prop :=
  match c with
  | .p (.bool b) => if b = w then ExR rp rs base (⟨o.d, none, o.sl, o.op⟩ :: l) dr ks e σ Q else ExR rp rs base l dr ks (sto o.d .any e) σ Q
  | _ => False

/-- at a condition -/
def KI' (rp : RProg) (rs : List RRes) (c : CV) (a b : RCode) (ks : List KI) (e : Env) (σ : Store) (Q : CV → Store → Prop) : Prop :=
  match c with
  | .p (.bool t) => if t = true then Ex rp rs a ks e σ Q else Ex rp rs b ks e σ Q
  | _ => False

/-- at the end -/
def KR (o : Option CV) (σ : Store) (Q : CV → Store → Prop) : Prop :=
  match o with
  | some v => Q v σ
  | none => False

section
variable {rp : RProg} {rs : List RRes} {ks : List KI} {base : Nat} {sl : Option Nat} {e : Env} {σ : Store} {Q : CV → Store → Prop} {d : Option Nat} {l : List LOp} {dr : Dr}

theorem x_if {c : Opd} {a b : RCode} : Ex rp rs (.cond c a b) ks e σ Q = KI' rp rs (vl e c) a b ks e σ Q := by
  unfold KI'
  split
  · rename_i t h; exact ex_cond h
  · rename_i h
    refine propext ⟨?_, fun h => h.elim⟩
    rintro ⟨n, v, h1, _⟩
    cases n with
    | zero => simp [runK] at h1
    | succ n =>
      rw [runK] at h1
      split at h1
      · rename_i t ht; exact (h t ht).elim
      · cases h1
theorem x_if_b {t : Bool} {a b : RCode} : KI' rp rs (.p (.bool t)) a b ks e σ Q = if t = true then Ex rp rs a ks e σ Q else Ex rp rs b ks e σ Q := rfl
theorem x_reg {ops : List LOp} : Ex rp rs (.reg ops none) ks e σ Q = ExR rp rs σ.length ops none ks e σ Q := by
  rw [ex_reg]; unfold ExR; simp only [true_and]
theorem x_draw {ops : List LOp} {h : Nat} {xp : List (Nat × Nat)} : Ex rp rs (.reg ops (some (h, xp))) ks e σ Q = ExR rp rs σ.length ops (some (xp, ops)) ks e (σ ++ List.replicate h .hole) Q := by
  rw [ex_draw]; rfl
theorem r_nil : ExR rp rs base [] none ks e σ Q = Ex rp rs .skip ks e σ Q := by
  unfold ExR; rw [exO_nil]; simp only [true_and]
theorem r_nild {ops : List LOp} : ExR rp rs base [] (some ([], ops)) ks e σ Q = Ex rp rs .skip ks e σ Q := by
  unfold ExR; rw [exO_nil]; simp only [List.all_nil, true_and]
theorem r_nilx {ops : List LOp} {x : Nat × Nat} {xp : List (Nat × Nat)} : ExR rp rs base [] (some (x :: xp, ops)) ks e σ Q = ((x :: xp).all (apartAt e ops) = true ∧ Ex rp rs .skip ks e σ Q) := by
  unfold ExR; rw [exO_nil]

theorem r_of {op : ROp} (h : ∀ r : Caller, ev1 r base sl op e σ = ev base sl op e σ) : ExR rp rs base (⟨d, none, sl, op⟩ :: l) dr ks e σ Q = KE rp rs base d l dr ks Q (ev base sl op e σ) e := by
  unfold ExR KE
  rw [exO_cons, ev_other h]
  generalize ev base sl op e σ = o
  cases o with
  | some vs => exact ex_some
  | none =>
    refine propext ⟨?_, fun h => h.elim⟩
    rintro ⟨_, _, h, _⟩
    cases h

theorem ke_some {v : CV} {σ : Store} : KE rp rs base d l dr ks Q (some (v, σ)) e = ExR rp rs base l dr ks (sto d v e) σ Q := rfl
theorem ke_if {c : Prop} [Decidable c] {o : Option (CV × Store)} : KE rp rs base d l dr ks Q (if c then o else none) e = (c ∧ KE rp rs base d l dr ks Q o e) := by
  by_cases h : c
  · rw [if_pos h]; simp only [h, true_and]
  · rw [if_neg h]; exact propext ⟨fun h => h.elim, fun h' => (h h'.1).elim⟩

theorem r_mv {x : Opd} : ExR rp rs base (⟨d, none, sl, .mv x⟩ :: l) dr ks e σ Q = ExR rp rs base l dr ks (sto d (vl e x) e) σ Q := by rw [r_of fun _ => rfl]; rfl
theorem r_mkfn {f : Nat} {cap : List Opd} : ExR rp rs base (⟨d, none, sl, .mkfn f cap⟩ :: l) dr ks e σ Q = ExR rp rs base l dr ks (sto d (.fn f (cap.map (vl e))) e) σ Q := by rw [r_of fun _ => rfl]; rfl
theorem r_pick {a b c : Opd} : ExR rp rs base (⟨d, none, sl, .pick a b c⟩ :: l) dr ks e σ Q = KE rp rs base d l dr ks Q (ev base sl (.pick a b c) e σ) e := r_of fun _ => rfl
theorem r_alloc {a : List CV} : ExR rp rs base (⟨d, none, sl, .alloc a⟩ :: l) dr ks e σ Q = KE rp rs base d l dr ks Q (ev base sl (.alloc a) e σ) e := r_of fun _ => rfl
theorem r_box {a : Opd} : ExR rp rs base (⟨d, none, sl, .box a⟩ :: l) dr ks e σ Q = KE rp rs base d l dr ks Q (ev base sl (.box a) e σ) e := r_of fun _ => rfl
theorem r_build {a : List CV} {b : List (Nat × Nat × Opd)} : ExR rp rs base (⟨d, none, sl, .build a b⟩ :: l) dr ks e σ Q = KE rp rs base d l dr ks Q (ev base sl (.build a b) e σ) e := r_of fun _ => rfl
theorem r_bslice {a : Nat} {b : List Opd} : ExR rp rs base (⟨d, none, sl, .bslice a b⟩ :: l) dr ks e σ Q = KE rp rs base d l dr ks Q (ev base sl (.bslice a b) e σ) e := r_of fun _ => rfl
theorem r_load {a : Bool} {b : Nat} {c : Opd} : ExR rp rs base (⟨d, none, sl, .load a b c⟩ :: l) dr ks e σ Q = KE rp rs base d l dr ks Q (ev base sl (.load a b c) e σ) e := r_of fun _ => rfl
theorem r_store {a : Nat} {b c : Opd} : ExR rp rs base (⟨d, none, sl, .store a b c⟩ :: l) dr ks e σ Q = KE rp rs base d l dr ks Q (ev base sl (.store a b c) e σ) e := r_of fun _ => rfl
theorem r_nilc {a : Opd} : ExR rp rs base (⟨d, none, sl, .nilc a⟩ :: l) dr ks e σ Q = KE rp rs base d l dr ks Q (ev base sl (.nilc a) e σ) e := r_of fun _ => rfl
theorem r_bin {a : BinOp} {b c : Opd} : ExR rp rs base (⟨d, none, sl, .bin a b c⟩ :: l) dr ks e σ Q = KE rp rs base d l dr ks Q (ev base sl (.bin a b c) e σ) e := r_of fun _ => rfl
theorem r_beq {a : Bool} {b c : Opd} : ExR rp rs base (⟨d, none, sl, .beq a b c⟩ :: l) dr ks e σ Q = KE rp rs base d l dr ks Q (ev base sl (.beq a b c) e σ) e := r_of fun _ => rfl
theorem r_un {a : UnOp} {b : Opd} : ExR rp rs base (⟨d, none, sl, .un a b⟩ :: l) dr ks e σ Q = KE rp rs base d l dr ks Q (ev base sl (.un a b) e σ) e := r_of fun _ => rfl
theorem r_conv {a : IntKind} {b : Opd} : ExR rp rs base (⟨d, none, sl, .conv a b⟩ :: l) dr ks e σ Q = KE rp rs base d l dr ks Q (ev base sl (.conv a b) e σ) e := r_of fun _ => rfl
theorem r_mks {a : Bool} {b c : Nat} {z : PV} {x y : Opd} : ExR rp rs base (⟨d, none, sl, .mks a b c z x y⟩ :: l) dr ks e σ Q = KE rp rs base d l dr ks Q (ev base sl (.mks a b c z x y) e σ) e := r_of fun _ => rfl
theorem r_slice {a : Nat} {b : Opd} {x y z : Option Opd} : ExR rp rs base (⟨d, none, sl, .slice a b x y z⟩ :: l) dr ks e σ Q = KE rp rs base d l dr ks Q (ev base sl (.slice a b x y z) e σ) e := r_of fun _ => rfl
theorem r_fieldA {a : Nat} {b : Opd} : ExR rp rs base (⟨d, none, sl, .fieldA a b⟩ :: l) dr ks e σ Q = KE rp rs base d l dr ks Q (ev base sl (.fieldA a b) e σ) e := r_of fun _ => rfl
theorem r_field {x : Bool} {a b : Nat} {c : Opd} : ExR rp rs base (⟨d, none, sl, .field x a b c⟩ :: l) dr ks e σ Q = KE rp rs base d l dr ks Q (ev base sl (.field x a b c) e σ) e := r_of fun _ => rfl
theorem r_indexA {a : Nat} {b c : Opd} : ExR rp rs base (⟨d, none, sl, .indexA a b c⟩ :: l) dr ks e σ Q = KE rp rs base d l dr ks Q (ev base sl (.indexA a b c) e σ) e := r_of fun _ => rfl
theorem r_extract {a : Opd} {b : Nat} : ExR rp rs base (⟨d, none, sl, .extract a b⟩ :: l) dr ks e σ Q = KE rp rs base d l dr ks Q (ev base sl (.extract a b) e σ) e := r_of fun _ => rfl
theorem r_idx {a : List Nat} {b : Opd} : ExR rp rs base (⟨d, none, sl, .idx a b⟩ :: l) dr ks e σ Q = KE rp rs base d l dr ks Q (ev base sl (.idx a b) e σ) e := r_of fun _ => rfl
theorem r_len {a : Opd} : ExR rp rs base (⟨d, none, sl, .len a⟩ :: l) dr ks e σ Q = KE rp rs base d l dr ks Q (ev base sl (.len a) e σ) e := r_of fun _ => rfl
theorem r_append {a b : Nat} {x y : Opd} : ExR rp rs base (⟨d, none, sl, .append a b x y⟩ :: l) dr ks e σ Q = KE rp rs base d l dr ks Q (ev base sl (.append a b x y) e σ) e := r_of fun _ => rfl
theorem r_copy {a : Nat} {x y : Opd} : ExR rp rs base (⟨d, none, sl, .copy a x y⟩ :: l) dr ks e σ Q = KE rp rs base d l dr ks Q (ev base sl (.copy a x y) e σ) e := r_of fun _ => rfl
theorem r_mx {x y : Opd} : ExR rp rs base (⟨d, none, sl, .mx x y⟩ :: l) dr ks e σ Q = KE rp rs base d l dr ks Q (ev base sl (.mx x y) e σ) e := r_of fun _ => rfl
theorem r_mn {x y : Opd} : ExR rp rs base (⟨d, none, sl, .mn x y⟩ :: l) dr ks e σ Q = KE rp rs base d l dr ks Q (ev base sl (.mn x y) e σ) e := r_of fun _ => rfl
theorem r_call {k : CK} {f : Nat} {args : List Opd} : ExR rp rs base (⟨d, none, sl, .call k f args⟩ :: l) dr ks e σ Q = KC rp rs base k f (args.map (vl e)) d l dr ks e σ Q := by
  unfold ExR KC; rw [exO_cons, ev_call]; rfl
theorem r_callv {k : CK} {x : Opd} {args : List Opd} : ExR rp rs base (⟨d, none, sl, .callv k x args⟩ :: l) dr ks e σ Q = KV rp rs base k (vl e x) (args.map (vl e)) d l dr ks e σ Q := by
  unfold ExR KV
  rw [exO_cons]
  generalize hx : vl e x = y
  cases y with
  | fn f cap => rw [ev_callv hx]; rfl
  | _ =>
    refine propext ⟨?_, fun h => h.elim⟩
    rintro ⟨n, v, σ', h1, _⟩
    rw [ev1, hx] at h1
    cases h1
theorem kv_fn {k : CK} {f : Nat} {cap args : List CV} : KV rp rs base k (.fn f cap) args d l dr ks e σ Q = KC rp rs base k f (args ++ cap) d l dr ks e σ Q := rfl
theorem r_g {t : Nat} {w : Bool} {op : ROp} : ExR rp rs base (⟨d, some (t, w), sl, op⟩ :: l) dr ks e σ Q = KG rp rs base (gt e t) w ⟨d, none, sl, op⟩ l dr ks e σ Q := by
  unfold KG
  generalize hx : gt e t = x
  have no : (∀ b, x ≠ .p (.bool b)) → ExR rp rs base (⟨d, some (t, w), sl, op⟩ :: l) dr ks e σ Q = False := by
    intro h
    refine propext ⟨?_, fun h => h.elim⟩
    rintro ⟨n, e', σ', h1, _⟩
    rw [runO] at h1
    split at h1
    · rename_i h2
      rw [evL] at h2
      simp only [hx] at h2
      cases x with
      | p v =>
        cases v with
        | bool b => exact h b rfl
        | _ => cases h2
      | _ => cases h2
    · cases h1
  cases x with
  | p v =>
    cases v with
    | bool b => unfold ExR; rw [exO_guard hx, exO_cons]
    | _ => exact no (by simp)
  | _ => exact no (by simp)
theorem kg_b {b w : Bool} {op : ROp} {g : Option (Nat × Bool)} : KG rp rs base (.p (.bool b)) w ⟨d, g, sl, op⟩ l dr ks e σ Q = if b = w then ExR rp rs base (⟨d, none, sl, op⟩ :: l) dr ks e σ Q else ExR rp rs base l dr ks (sto d .any e) σ Q := rfl

theorem push_none {b : Blk} : push base none σ b = some (σ.length, σ ++ [b]) := rfl

theorem kr_of {o : Option CV} : (∃ v, o = some v ∧ Q v σ) = KR o σ Q := by
  cases o with
  | none =>
    refine propext ⟨?_, fun h => h.elim⟩
    rintro ⟨_, h, _⟩
    cases h
  | some v => exact propext ⟨fun ⟨_, h, hk⟩ => by cases h; exact hk, fun h => ⟨v, rfl, h⟩⟩
theorem x_ret : Ex rp rs .ret ks e σ Q = KR (resultsV rs e σ) σ Q := by rw [ex_ret, kr_of]
theorem x_end : Ex rp rs .skip [] e σ Q = KR (resultsV rs e σ) σ Q := by rw [ex_end, kr_of]
theorem kr_some {v : CV} : KR (some v) σ Q = Q v σ := rfl

theorem runF_det {n m f : Nat} {args : List CV} {x y : CV × Store} (hx : runF rp n f args σ = some x) (hy : runF rp m f args σ = some y) : x = y := by
  have h1 := runF_le (rp := rp) (Nat.le_max_left n m) _ _ _ _ hx
  have h2 := runF_le (rp := rp) (Nat.le_max_right n m) _ _ _ _ hy
  rw [h1] at h2
  cases h2
  rfl

theorem kc_pu {f : Nat} {args : List CV} {ps : List PV} {r : CV} (h : Pu rp f ps r) (ha : toPs args = some ps) : KC rp rs base .pu f args d l dr ks e σ Q = ExR rp rs base l dr ks (sto d r e) σ Q := by
  unfold KC
  refine propext ⟨?_, fun hk => cl_pu ha h hk⟩
  rintro ⟨n, v, σ', h1, hk⟩
  obtain ⟨m, u, h2, h3⟩ := h
  simp only [doCall, ha] at h1
  split at h1
  · rename_i r' τ hr
    have := runF_det hr h2
    subst this
    simp only [h3, Option.map_some, Option.some.injEq, Prod.mk.injEq] at h1
    obtain ⟨rfl, rfl⟩ := h1
    exact hk
  · cases h1

theorem kp0 {f : Nat} {r : CV} (h : Pu rp f [] r) : KC rp rs base .pu f [] d l dr ks e σ Q = ExR rp rs base l dr ks (sto d r e) σ Q := kc_pu h rfl
theorem kp1 {f : Nat} {a0 : PV} {r : CV} (h : Pu rp f [a0] r) : KC rp rs base .pu f [.p a0] d l dr ks e σ Q = ExR rp rs base l dr ks (sto d r e) σ Q := kc_pu h rfl
theorem kp2 {f : Nat} {a0 a1 : PV} {r : CV} (h : Pu rp f [a0, a1] r) : KC rp rs base .pu f [.p a0, .p a1] d l dr ks e σ Q = ExR rp rs base l dr ks (sto d r e) σ Q := kc_pu h rfl
theorem kp3 {f : Nat} {a0 a1 a2 : PV} {r : CV} (h : Pu rp f [a0, a1, a2] r) : KC rp rs base .pu f [.p a0, .p a1, .p a2] d l dr ks e σ Q = ExR rp rs base l dr ks (sto d r e) σ Q := kc_pu h rfl
theorem kp4 {f : Nat} {a0 a1 a2 a3 : PV} {r : CV} (h : Pu rp f [a0, a1, a2, a3] r) : KC rp rs base .pu f [.p a0, .p a1, .p a2, .p a3] d l dr ks e σ Q = ExR rp rs base l dr ks (sto d r e) σ Q := kc_pu h rfl
theorem kp5 {f : Nat} {a0 a1 a2 a3 a4 : PV} {r : CV} (h : Pu rp f [a0, a1, a2, a3, a4] r) : KC rp rs base .pu f [.p a0, .p a1, .p a2, .p a3, .p a4] d l dr ks e σ Q = ExR rp rs base l dr ks (sto d r e) σ Q := kc_pu h rfl

theorem kc_fz {f : Nat} {args : List CV} {ps : List PV} {r : CV} (h : Pu rp f ps r) (ha : frzs σ args = some ps) : KC rp rs base .fz f args d l dr ks e σ Q = ExR rp rs base l dr ks (sto d r e) (kills σ args) Q := by
  unfold KC
  refine propext ⟨?_, fun hk => cl_fz ha h hk⟩
  rintro ⟨n, v, σ', h1, hk⟩
  obtain ⟨m, u, h2, h3⟩ := h
  simp only [doCall, ha] at h1
  split at h1
  · rename_i r' τ hr
    have := runF_det hr h2
    subst this
    simp only [h3, Option.map_some, Option.some.injEq, Prod.mk.injEq] at h1
    obtain ⟨rfl, rfl⟩ := h1
    exact hk
  · cases h1

theorem kc_keep {f : Nat} {args : List CV} {r : CV} {τ : Store} (h : Rn rp f args σ fun v σ' => v = r ∧ σ' = τ) : KC rp rs base .keep f args d l dr ks e σ Q = ExR rp rs base l dr ks (sto d r e) τ Q := by
  unfold KC
  obtain ⟨m, u, h2, rfl, rfl⟩ := h
  refine propext ⟨?_, fun hk => ⟨m, u.1, u.2, h2, hk⟩⟩
  rintro ⟨n, v, σ', h1, hk⟩
  have := runF_det h1 h2
  subst this
  exact hk

theorem kc_full {f : Nat} {args : List CV} {r : CV} {τ : Store} (h : Rn rp f args σ fun v σ' => σ'.take σ.length = τ ∧ τ.all (blkBelow σ.length) = true ∧ back σ.length σ' v = some r) :
    KC rp rs base .full f args d l dr ks e σ Q = ExR rp rs base l dr ks (sto d r e) τ Q := by
  unfold KC
  obtain ⟨m, u, h2, rfl, h4, h5⟩ := h
  refine propext ⟨?_, fun hk => ⟨m, r, u.2.take σ.length, by simp only [doCall, h2, h4, h5, if_true, Option.map_some], hk⟩⟩
  rintro ⟨n, v, σ', h1, hk⟩
  simp only [doCall] at h1
  split at h1
  · rename_i r' τ' hr
    have := runF_det hr h2
    subst this
    simp only [h4, h5, if_true, Option.map_some, Option.some.injEq, Prod.mk.injEq] at h1
    obtain ⟨rfl, rfl⟩ := h1
    exact hk
  · cases h1
end

section
variable {e : Env} {σ : Store}
theorem res_t {n : Nat} : resultsV [.t n] e σ = some (gt e n) := rfl
theorem res_tt {n m : Nat} : resultsV [.t n, .t m] e σ = some (.tup [gt e n, gt e m]) := rfl
theorem res_ttt {n m k : Nat} : resultsV [.t n, .t m, .t k] e σ = some (.tup [gt e n, gt e m, gt e k]) := rfl
theorem res_n : resultsV [] e σ = some (.tup []) := rfl
theorem cells_int {k : IntKind} {n : Int} : PV.cells (.int k n) = [.int k n] := rfl
theorem cells_bool {b : Bool} : PV.cells (.bool b) = [.bool b] := rfl
theorem cells_sl {es : List PV} : PV.cells (.sl es) = [.sl es] := rfl
theorem cells_agg {cs : List PV} : PV.cells (.agg cs) = cs := rfl
theorem ccells_p {v : PV} : CV.cells (.p v) = some (v.cells.map .p) := rfl
theorem ccells_agg {cs : List CV} : CV.cells (.agg cs) = some cs := rfl
theorem ccells_nils : CV.cells .nils = some [.nils] := rfl
theorem ccells_own {b o n : Nat} : CV.cells (.own b o n) = some [.own b o n] := rfl
theorem ccells_ptr {b o n : Nat} : CV.cells (.ptr b o n) = some [.ptr b o n] := rfl
theorem ccells_fn {f : Nat} {c : List CV} : CV.cells (.fn f c) = some [.fn f c] := rfl
theorem subPV_f {sz off : Nat} {x : PV} : subPV false sz x off = x.cells[off]? := rfl
theorem subPV_agg {sz off : Nat} {cs : List PV} : subPV true sz (.agg cs) off = if off + sz ≤ cs.length then some (.agg ((cs.drop off).take sz)) else none := rfl
theorem frz1_p {v : PV} : frz1 σ (.p v) = some v := rfl
theorem allSz_nil {n : Nat} : allSz n [] = true := rfl
theorem allSz_cons {n : Nat} {x : PV} {l : List PV} : allSz n (x :: l) = (x.cells.length == n && allSz n l) := rfl
theorem num_int {k : IntKind} {n : Int} : CV.num (.p (.int k n)) = some n := rfl
theorem len_p {es : List PV} : lenV (.p (.sl es)) = some es.length := rfl
theorem len_own {b o n : Nat} : lenV (.own b o n) = some n := rfl
theorem len_nils : lenV .nils = some 0 := rfl
theorem cont_p {es : List PV} : content σ (.p (.sl es)) = some es := rfl
theorem cont_nils : content σ .nils = some [] := rfl
theorem cont_own {b n s : Nat} {es : List PV} (h : σ[b]? = some (.prow s es)) (hn : n = es.length) : content σ (.own b 0 n) = some es := by
  subst hn
  simp [content, h]
theorem get_app0 {l : Store} : (σ ++ l)[σ.length]? = l[0]? := by rw [List.getElem?_append_right (Nat.le_refl _), Nat.sub_self]
theorem get_app {l : Store} {k : Nat} : (σ ++ l)[σ.length + k]? = l[k]? := by rw [List.getElem?_append_right (Nat.le_add_right _ _), Nat.add_sub_cancel_left]
theorem get_left {l : Store} {b : Nat} (h : b < σ.length) : (σ ++ l)[b]? = σ[b]? := List.getElem?_append_left h
theorem set_app0 {l : Store} {x : Blk} : (σ ++ l).set σ.length x = σ ++ l.set 0 x := by rw [List.set_append_right _ _ (Nat.le_refl _), Nat.sub_self]
theorem set_app {l : Store} {k : Nat} {x : Blk} : (σ ++ l).set (σ.length + k) x = σ ++ l.set k x := by rw [List.set_append_right _ _ (Nat.le_add_right _ _), Nat.add_sub_cancel_left]
theorem set_left {l : Store} {b : Nat} {x : Blk} (h : b < σ.length) : (σ ++ l).set b x = σ.set b x ++ l := List.set_append_left _ _ h
theorem get_self {b : Nat} {x : Blk} (h : b < σ.length) : (σ.set b x)[b]? = some x := by rw [List.getElem?_set_self h]
theorem get_ne {b c : Nat} {x : Blk} (h : b ≠ c) : (σ.set b x)[c]? = σ[c]? := List.getElem?_set_ne h

/-- no block of a store refers beyond the store -/
def Wf (σ : Store) : Prop := ∀ x ∈ σ, blkBelow σ.length x = true

theorem below1_le {n m : Nat} (h : n ≤ m) {c : CV} (hc : below1 n c = true) : below1 m c = true := by
  cases c <;> simp only [below1, decide_eq_true_eq, Bool.false_eq_true] at hc ⊢ <;> try omega
  rename_i f cap
  rw [List.all_eq_true] at hc ⊢
  intro x hx
  have := hc x hx
  cases x <;> simp_all <;> omega

theorem blkBelow_le {n m : Nat} (h : n ≤ m) {b : Blk} (hb : blkBelow n b = true) : blkBelow m b = true := by
  cases b <;> simp only [blkBelow] at hb ⊢
  rw [List.all_eq_true] at hb ⊢
  exact fun x hx => below1_le h (hb x hx)

theorem Wf.nil : Wf [] := by intro x hx; cases hx
theorem Wf.push (h : Wf σ) {x : Blk} (hx : blkBelow (σ.length + 1) x = true) : Wf (σ ++ [x]) := by
  intro y hy
  rw [List.length_append]
  rcases List.mem_append.1 hy with hy | hy
  · exact blkBelow_le (Nat.le_add_right _ _) (h y hy)
  · simp at hy; subst hy; exact hx
theorem Wf.set (h : Wf σ) {b : Nat} {x : Blk} (hx : blkBelow σ.length x = true) : Wf (σ.set b x) := by
  intro y hy
  rw [List.length_set]
  rcases List.mem_or_eq_of_mem_set hy with hy | rfl
  · exact h y hy
  · exact hx
theorem Wf.all (h : Wf σ) : σ.all (blkBelow σ.length) = true := List.all_eq_true.2 h

theorem frz1_own {b n s : Nat} {es : List PV} (h : σ[b]? = some (.prow s es)) (hn : n = es.length) : frz1 σ (.own b 0 n) = some (.sl es) := by
  subst hn
  simp [frz1, h]
end
end Go.Proofs.Ytdieenbfdeaffaa.Vpi
