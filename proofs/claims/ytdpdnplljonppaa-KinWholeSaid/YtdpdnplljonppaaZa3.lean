/- The verified interpreter, part 20: whole functions; The verified interpreter, part 21: runs with some fuel, and rules to go through them with open values; The verified interpreter, part 22: each operation's rule as an equation, for rewriting; what comes behind is kept as data; The verified interpreter, part 23: lists that grow by append; Whole numbers as lists of limbs: plain facts, no program in sight; The verified interpreter, part 25: rows of numbers in a block of their own; The verified interpreter, part 27: all rewriting rules of a run in one word; The verified interpreter, part 22: what a row reads of an argument is a value without references; The verified interpreter, part 24: from a run of the interpreter to what a row asks; The verified interpreter, part 26: a larger table of functions answers what a smaller one does; The verified interpreter, part 29: ranges over the rows of a list, rules; The verified interpreter, part 22b: a function on values without references, as a contract in the model; The verified interpreter, part 31: ranges over the rows of a list with what a function says of each; The verified interpreter, part 30: a function whose first steps call a function that is known by a contract alone. No condition. -/
import Derived.Test.YtdpdnplljonppaaZa2
import Derived.Scope
import Derived.IntWalk
import Derived.Test.YtdpdnplljonppaaZa1
import Derived.Deep.Slices
import Derived.Carry
import Derived.Below

namespace Go.Proofs.Ytdpdnplljonppaa.Vpi
open Go
set_option linter.unusedVariables false
set_option linter.unusedSimpArgs false
def chkA (P : Program) (n : Nat) : RCode → Code → Bool
  | .skip, .skip => true
  | .reg L none, .region _ ops false => okL P ops n ops.toList L
  | .seq x y, .seq a b => chkA P n x a && chkA P n y b
  | _, _ => false
def no0 (L : List LOp) : Bool := L.all fun l => l.d != some 0
def okY (P : Program) (ops : Array Oper) (n y : Nat) (pre : List LOp) (d : Nat) (args : List Opd) (post : List LOp) : Bool :=
  ops.size == pre.length + (1 + post.length) + 1 && decide (y < n) && decide (d < n) && y != 0 && d != 0 &&
  (match ops[0]? with | some o => (match o.op with | .move (.tmp 0) => true | _ => false) && o.dst == some y && o.guard.isNone | none => false) &&
  (match ops[1 + pre.length]? with | some o => (match o.op with | .call c => (match c.callee with | .value (.tmp t) => t == y | _ => false) && okOpds c.args.toList args | _ => false) && o.dst == some d && o.guard.isNone | none => false) &&
  okL P ops n ((ops.toList.drop 1).take pre.length) pre && okL P ops n (ops.toList.drop (1 + pre.length + 1)) post && pre.all (fun l => l.d != some 0 && l.d != some y) && no0 post
def chkI (P : Program) (n : Nat) : RCode → Code → Bool
  | .fg _ c, code => chkI P n c code
  | .skip, .skip => true
  | .skip, .label _ => true
  | .reg L none, .region _ ops false => okL P ops n ops.toList L && no0 L
  | .yld y pre d args post, .region _ ops false => okY P ops n y pre d args post
  | .seq x y, .seq a b => chkI P n x a && chkI P n y b
  | .cond c x y, .cond d a b => okOpd d c && chkI P n x a && chkI P n y b
  | .block i x, .block j a => i == j && chkI P n x a
  | .scope x, .scope a => chkI P n x a
  | .loop x, .loop a => chkI P n x a
  | .exit i, .exit j => i == j
  | .ret, .ret => true
  | _, _ => false
def chkC (P : Program) (n : Nat) (b : Bool) : RCode → Code → Bool
  | .fg _ c, code => chkC P n b c code
  | .skip, .skip => true
  | .skip, .label _ => true
  | .reg L none, .region _ ops false => okL P ops n ops.toList L
  | .reg L (some (_, xp)), .region _ ops true => okL P ops n ops.toList L && drawOk ops L xp
  | .seq x y, .seq u v => chkC P n b x u && chkC P n b y v
  | .cond c x y, .cond d u v => okOpd d c && chkC P n b x u && chkC P n b y v
  | .block i x, .block j u => i == j && chkC P n b x u
  | .scope x, .scope u => chkC P n b x u
  | .loop x, .loop u => chkC P n b x u
  | .exit i, .exit j => i == j
  | .ret, .ret => !b
  | .bret, .ret => b
  | .bexit i, .exit j => b && i == j
  | .rng b' ps x asg body, .rangeFunc g params assign code => b' == b && params.toList == ps && ps.all (fun p => decide (p < n)) && okOpd g x && chkA P n asg assign && chkC P n true body code
  | .iter c, code => !b && chkI P n c code
  | .frzk _ c, code => chkC P n b c code
  | _, _ => false
def chkR (P : Program) : List RRes → List ResultVar → Bool
  | [], [] => true
  | .t n :: rs, .tmp m :: vs => n == m && chkR P rs vs
  | .cell n agg sz :: rs, .cell m t :: vs => n == m && aggP P t == some agg && szP P t == some sz && chkR P rs vs
  | _, _ => false
def chkF (P : Program) (f : Nat) (rf : RFun) : Bool :=
  okFn P f && (match P.funcs[f]? with
    | some fn => chkR P rf.res fn.results.toList && (match fn.body with | some c => chkC P fn.ntmps false rf.code c | none => false)
    | none => false)
section
variable {P : Program} {n : Nat}
inductive KRel (P : Program) (n : Nat) (k0 : Option (List Item)) : List KI → List Item → Prop
  | nil (h : k0 = none) : KRel P n k0 [] []
  | fin (k : List Item) (h : k0 = some k) : KRel P n k0 [.fin] k
  | code {c : RCode} {d : Code} {ks : List KI} {k : List Item} (h : chkC P n k0.isSome c d = true) (hk : KRel P n k0 ks k) : KRel P n k0 (.code c :: ks) (.code d :: k)
  | blk {id : Nat} {ks : List KI} {k : List Item} (hk : KRel P n k0 ks k) : KRel P n k0 (.blk id :: ks) (.inBlock id :: k)
  | sc {c : Code} {ks : List KI} {k : List Item} (hk : KRel P n k0 ks k) : KRel P n k0 (.sc :: ks) (.inScope c :: k)
  | lp {c : RCode} {d : Code} {ks : List KI} {k : List Item} (h : chkC P n k0.isSome c d = true) (hk : KRel P n k0 ks k) : KRel P n k0 (.lp c :: ks) (.inLoop d :: k)
theorem KRel.exit {k0 : Option (List Item)} {ks : List KI} {k : List Item} (h : KRel P n k0 ks k) {id : Nat} {ks' : List KI} (he : exitK id ks = some ks') : ∃ k', exitTo id k = some k' ∧ KRel P n k0 ks' k' := by
  induction h with
  | nil => cases he
  | fin => cases he
  | code _ _ ih => exact ih he
  | lp _ _ ih => exact ih he
  | sc _ ih => exact ih he
  | @blk id' ks k hk ih =>
    simp only [exitK] at he
    simp only [exitTo]
    by_cases hid : id' = id
    · subst hid
      rw [if_pos rfl] at he
      cases he
      exact ⟨k, by simp, hk⟩
    · rw [if_neg hid] at he
      obtain ⟨k', h1, h2⟩ := ih he
      exact ⟨k', by simp [hid, h1], h2⟩
theorem KRel.noexit {kb : List Item} {ks : List KI} {k : List Item} {k0 : Option (List Item)} (h : KRel P n k0 ks k) (h0 : k0 = some kb) {id : Nat} (he : exitK id ks = none) : exitTo id k = exitTo id kb := by
  induction h with
  | nil h => rw [h] at h0; cases h0
  | fin k h => rw [h] at h0; cases h0; rfl
  | code _ _ ih => exact ih he
  | lp _ _ ih => exact ih he
  | sc _ ih => exact ih he
  | @blk id' ks k hk ih =>
    simp only [exitK] at he
    simp only [exitTo]
    by_cases hid : id' = id
    · subst hid
      rw [if_pos rfl] at he
      cases he
    · rw [if_neg hid] at he
      simpa [hid] using ih he
inductive KRelI (P : Program) (n : Nat) : List KI → List Item → Prop
  | nil : KRelI P n [] []
  | code {c : RCode} {d : Code} {ks : List KI} {k : List Item} (h : chkI P n c d = true) (hk : KRelI P n ks k) : KRelI P n (.code c :: ks) (.code d :: k)
  | blk {id : Nat} {ks : List KI} {k : List Item} (hk : KRelI P n ks k) : KRelI P n (.blk id :: ks) (.inBlock id :: k)
  | sc {c : Code} {ks : List KI} {k : List Item} (hk : KRelI P n ks k) : KRelI P n (.sc :: ks) (.inScope c :: k)
  | lp {c : RCode} {d : Code} {ks : List KI} {k : List Item} (h : chkI P n c d = true) (hk : KRelI P n ks k) : KRelI P n (.lp c :: ks) (.inLoop d :: k)
theorem KRelI.exit {ks : List KI} {k : List Item} (h : KRelI P n ks k) {id : Nat} {ks' : List KI} (he : exitK id ks = some ks') : ∃ k', exitTo id k = some k' ∧ KRelI P n ks' k' := by
  induction h with
  | nil => cases he
  | code _ _ ih => exact ih he
  | lp _ _ ih => exact ih he
  | sc _ ih => exact ih he
  | @blk id' ks k hk ih =>
    simp only [exitK] at he
    simp only [exitTo]
    by_cases hid : id' = id
    · subst hid
      rw [if_pos rfl] at he
      cases he
      exact ⟨k, by simp, hk⟩
    · rw [if_neg hid] at he
      obtain ⟨k', h1, h2⟩ := ih he
      exact ⟨k', by simp [hid, h1], h2⟩
def Todo (P : Program) (n : Nat) (k0 : Option (List Item)) (c : RCode) (ks : List KI) (todo : List Item) : Prop :=
  (∃ d k, todo = .code d :: k ∧ chkC P n k0.isSome c d = true ∧ KRel P n k0 ks k) ∨ (c = .skip ∧ KRel P n k0 ks todo)
def TodoI (P : Program) (n : Nat) (c : RCode) (ks : List KI) (todo : List Item) : Prop :=
  (∃ d k, todo = .code d :: k ∧ chkI P n c d = true ∧ KRelI P n ks k) ∨ (c = .skip ∧ KRelI P n ks todo)
variable {w : World} {G : Nat → Prop} {ρ : List Loc} {σ : Store} {e : Env} {a : Act}
theorem res_run {agg : Bool} {sz m : Nat} {t : TypeId} {c : CV} (hs : St w G ρ σ) (he : RepE w G ρ e a.tmps) (ha : aggP P t = some agg) (hz : szP P t = some sz) (h : resV e σ (.cell m agg sz) = some c) :
    ∃ v, (do loadVar t (← asAddr (a.tmps.getD m undef))).run P w = .ok v w ∧ RepC w G ρ c v := by
  simp only [resV] at h
  split at h
  · rename_i b i off hv
    have h1 := he m
    rw [hv] at h1
    obtain ⟨ad, hue, hp⟩ := rep_ptr h1
    split at h
    · rename_i s cs hb
      obtain ⟨l, hl, hok⟩ := hs.get hb
      cases l with
      | lv blk o' tot s' =>
        obtain ⟨rfl, _, arr, el, hh, rfl, hfit, hk⟩ := hok
        simp only [PtrOk, hl] at hp
        subst hp
        have := load_subC (P := P) (w := w) (G := G) (ρ := ρ) ha hz hh (B := o') hfit hk h
        rw [← Nat.add_assoc] at this
        obtain ⟨v, h2, h3⟩ := this
        refine ⟨v, ?_, h3⟩
        rw [hue]
        simpa [asAddr] using h2
      | det => exact hok.elim
      | dead => exact hok.elim
      | hole => exact hok.elim
    · cases h
  · cases h
theorem resL_run (hs : St w G ρ σ) (he : RepE w G ρ e a.tmps) :
    ∀ {rs : List RRes} {vs : List ResultVar} {cs : List CV}, chkR P rs vs = true → resL e σ rs = some cs →
      ∃ us : List Value, (∀ f : ResultVar → Sem Value, (∀ u, f (.tmp u) = pure (a.tmps.getD u undef)) → (∀ x t, f (.cell x t) = (do loadVar t (← asAddr (a.tmps.getD x undef)))) → (vs.mapM f).run P w = .ok us w) ∧
        cs.length = us.length ∧ ∀ (k : Nat) c v, cs[k]? = some c → us[k]? = some v → RepC w G ρ c v
  | [], [], cs, _, h => by
    simp only [resL] at h
    cases h
    exact ⟨[], by simp, rfl, by simp⟩
  | .t m :: rs, .tmp m' :: vs, cs, hc, h => by
    simp only [chkR, Bool.and_eq_true, beq_iff_eq] at hc
    obtain ⟨rfl, hc⟩ := hc
    simp only [resL, resV, Option.map_eq_some_iff] at h
    obtain ⟨ds, hds, rfl⟩ := h
    obtain ⟨us, h1, h2, h3⟩ := resL_run hs he hc hds
    refine ⟨a.tmps.getD m undef :: us, fun f hft hfc => by simp [List.mapM_cons, hft, h1 f hft hfc], by simp [h2], ?_⟩
    intro k c v hk hv
    cases k with
    | zero => simp at hk hv; subst hk; subst hv; have := he m; rwa [Array.getD_eq_getD_getElem?] at this
    | succ k => exact h3 k c v (by simpa using hk) (by simpa using hv)
  | .cell m agg sz :: rs, .cell m' t :: vs, cs, hc, h => by
    simp only [chkR, Bool.and_eq_true, beq_iff_eq] at hc
    obtain ⟨⟨⟨rfl, ha⟩, hz⟩, hc⟩ := hc
    simp only [resL] at h
    split at h
    · rename_i c0 hc0
      simp only [Option.map_eq_some_iff] at h
      obtain ⟨ds, hds, rfl⟩ := h
      obtain ⟨us, h1, h2, h3⟩ := resL_run hs he hc hds
      obtain ⟨v0, q1, q2⟩ := res_run hs he ha hz hc0
      refine ⟨v0 :: us, fun f hft hfc => ?_, by simp [h2], ?_⟩
      · rw [List.mapM_cons, hfc, Sem.run_bind, q1]
        simp [h1 f hft hfc]
      · intro k c v hk hv
        cases k with
        | zero => simp at hk hv; subst hk; subst hv; exact q2
        | succ k => exact h3 k c v (by simpa using hk) (by simpa using hv)
    · cases h
theorem results_run {fn : Func} {rs : List RRes} {c : CV} (hs : St w G ρ σ) (he : RepE w G ρ e a.tmps) (hc : chkR P rs fn.results.toList = true) (h : resultsV rs e σ = some c) :
    ∃ v, (results fn a.tmps).run P w = .ok v w ∧ RepC w G ρ c v := by
  have hr : fn.results = fn.results.toList.toArray := by simp
  unfold results
  rw [hr, List.mapM_toArray]
  simp only [Sem.run_bind, Sem.run_map]
  unfold resultsV at h
  split at h
  · rename_i c' hcs
    cases h
    obtain ⟨us, h1, h2, h3⟩ := resL_run hs he hc hcs
    rw [h1 _ (fun _ => rfl) (fun _ _ => rfl)]
    match us, h2 with
    | [u], _ => exact ⟨u, by simp, h3 0 _ u rfl rfl⟩
  · rename_i cs hne hcs
    cases h
    obtain ⟨us, h1, h2, h3⟩ := resL_run hs he hc hcs
    rw [h1 _ (fun _ => rfl) (fun _ _ => rfl)]
    have hl : us.length ≠ 1 := by
      intro hl
      rw [← h2] at hl
      obtain ⟨x, hx⟩ := List.length_eq_one_iff.1 hl
      exact hne x hx
    exact ⟨.tuple us.toArray, by simp [hl], .tup cs us h2 h3⟩
  · cases h
theorem args0_gt : ∀ (l : List CV) (k n : Nat), gt (args0 k l) n = if k ≤ n then l.getD (n - k) .any else .any
  | [], k, n => by simp [args0, gt]
  | v :: l, k, n => by
    simp only [args0, gt]
    by_cases h : k = n
    · subst h; simp
    · rw [if_neg h, args0_gt l (k + 1) n]
      by_cases h1 : k ≤ n
      · rw [if_pos (by omega), if_pos h1, show n - k = (n - (k + 1)) + 1 by omega]; simp
      · rw [if_neg (by omega), if_neg h1]
theorem stepR_scope {b : Frame} {a : Act} {k : List Item} {cs : List Frame} {w : World} {c : Code} : step P (lone (b.atR a (.code (.scope c) :: k)) cs w) = .next (lone (b.atR a (.code c :: .inScope c :: k)) cs w) :=
  step_lone_go (by simp [stepG, stepG.exec, Frame.atR])
theorem stepR_inScope {b : Frame} {a : Act} {k : List Item} {cs : List Frame} {w : World} {c : Code} : step P (lone (b.atR a (.inScope c :: k)) cs w) = .next (lone (b.atR a k) cs w) :=
  step_lone_go (by simp [stepG, stepG.exec, Frame.atR])
theorem fr_room {rd : Option Nat} {k : Nat} : (Fr rd).room k := fun _ h => by cases h
theorem callFunc_run {f : FuncId} {args : Array Value} (hok : okFn P f = true) : (callFunc f args).run P w = .ok (.enter f args) w := by
  unfold okFn at hok
  split at hok
  · rename_i fn hfn
    simp only [Bool.and_eq_true, bne_iff_ne, ne_eq] at hok
    have hb : fn.body.isNone = false := by
      cases hbb : fn.body with
      | none => rw [hbb] at hok; simp at hok
      | some _ => rfl
    have hb2 : ¬ fn.body = none := by intro h; rw [h] at hb; cases hb
    have hname : (fn.name == "runtime.NumGoroutine") = false := by simpa using hok.1
    have hname2 : ¬ fn.name = "runtime.NumGoroutine" := hok.1
    simp [callFunc, hfn, hname, hb, hb2, hname2]
  · cases hok
/-! ### the beginning of a round -/
theorem sim_A {call : Caller} (hc : CallSim P call) {rd : Option Nat} {mm : Nat} : ∀ {x : RCode} {d : Code} {e e' : Env} {σ σ' : Store} {w : World} {G : Nat → Prop} {ρ : List Loc} {a : Act} {K : Act → World → Prop}, chkA P n x d = true → runA call x e σ = some (e', σ') →
    St w G ρ σ → RepE w G ρ e a.tmps → n ≤ a.tmps.size → After (fun _ => False) w G ρ a e' σ' K → d.wpIn (Fr rd) mm P (Exit.then K fun _ _ _ => False) a w
  | .skip, d, e, e', σ, σ', w, G, ρ, a, K, hch, h, hs, he, hn, hK => by
    cases d <;> simp only [chkA, Bool.false_eq_true] at hch
    simp only [runA] at h
    cases h
    exact wpIn_skip (hK a w G ρ hs Ext.refl he rfl rfl fun _ _ => rfl)
  | .reg L none, d, e, e', σ, σ', w, G, ρ, a, K, hch, h, hs, he, hn, hK => by
    cases d <;> try (simp only [chkA, Bool.false_eq_true] at hch; done)
    rename_i id ops draw
    cases draw <;> simp only [chkA, Bool.false_eq_true] at hch
    simp only [runA] at h
    exact wpIn_region (sim_runO hc hch (fun _ _ _ h => h.elim) hs he hn h hK)
  | .seq x y, d, e, e', σ, σ', w, G, ρ, a, K, hch, h, hs, he, hn, hK => by
    cases d <;> simp only [chkA, Bool.false_eq_true, Bool.and_eq_true] at hch
    rename_i u v
    simp only [runA] at h
    split at h
    · rename_i e1 σ1 h1
      refine wpIn_seq ?_
      refine wpIn_mono (sim_A (K := fun a w => v.wpIn (Fr rd) mm P (Exit.then K fun _ _ _ => False) a w) hc hch.1 h1 hs he hn ?_) ?_
      · intro a1 w1 G1 ρ1 s1 x1 r1 d1 z1 t1
        exact sim_A hc hch.2 h s1 r1 (by omega) (hK.trans x1 d1 z1 fun _ h => h.elim)
      · intro ex a w h
        cases ex <;> first | exact h | exact h.elim
    · cases h
  | .reg L (some _), d, _, _, _, _, _, _, _, _, _, hch, _, _, _, _, _ => by cases d <;> simp [chkA] at hch
  | .cond _ _ _, d, _, _, _, _, _, _, _, _, _, hch, _, _, _, _, _ => by cases d <;> simp [chkA] at hch
  | .block _ _, d, _, _, _, _, _, _, _, _, _, hch, _, _, _, _, _ => by cases d <;> simp [chkA] at hch
  | .scope _, d, _, _, _, _, _, _, _, _, _, hch, _, _, _, _, _ => by cases d <;> simp [chkA] at hch
  | .loop _, d, _, _, _, _, _, _, _, _, _, hch, _, _, _, _, _ => by cases d <;> simp [chkA] at hch
  | .exit _, d, _, _, _, _, _, _, _, _, _, hch, _, _, _, _, _ => by cases d <;> simp [chkA] at hch
  | .ret, d, _, _, _, _, _, _, _, _, _, hch, _, _, _, _, _ => by cases d <;> simp [chkA] at hch
  | .fg _ _, d, _, _, _, _, _, _, _, _, _, hch, _, _, _, _, _ => by cases d <;> simp [chkA] at hch
  | .rng _ _ _ _ _, d, _, _, _, _, _, _, _, _, _, hch, _, _, _, _, _ => by cases d <;> simp [chkA] at hch
  | .iter _, d, _, _, _, _, _, _, _, _, _, hch, _, _, _, _, _ => by cases d <;> simp [chkA] at hch
  | .yld _ _ _ _ _, d, _, _, _, _, _, _, _, _, _, hch, _, _, _, _, _ => by cases d <;> simp [chkA] at hch
  | .bret, d, _, _, _, _, _, _, _, _, _, hch, _, _, _, _, _ => by cases d <;> simp [chkA] at hch
  | .bexit _, d, _, _, _, _, _, _, _, _, _, hch, _, _, _, _, _ => by cases d <;> simp [chkA] at hch
  | .frzk _ _, d, _, _, _, _, _, _, _, _, _, hch, _, _, _, _, _ => by cases d <;> simp [chkA] at hch
/-! ### iterators -/
def YOk (P : Program) (Y : List CV → Store → Option (CV × Store)) (l : Nat) (R : Option CV → Loop) (W1 : World) (G1 : Nat → Prop) (ρ1 : List Loc) : Prop :=
  ∀ args σ out σ', Y args σ = some (out, σ') → ∀ (w : World) (G : Nat → Prop) (ρ : List Loc) (vs : List Value), St w G ρ σ → ExtL l W1 G1 ρ1 w G ρ → ¬ G l → w.heap[l]? = some (.loop (R none)) → args.length = vs.length → (∀ (k : Nat) c v, args[k]? = some c → vs[k]? = some v → RepC w G ρ c v) →
    ∃ fn tmps assign body, (Instr.yield l vs.toArray).run P w = .ok (.round l fn tmps assign body) w ∧
      ∀ mm, RoundIn (Fr none) mm P l fn tmps assign body w fun en w' => ∃ G' ρ', en = .returned (.bool (isT out)) ∧ St w' G' ρ' σ' ∧ ExtL l w G ρ w' G' ρ' ∧ ¬ G' l ∧ w'.heap[l]? = some (.loop (R (if isT out = true then none else some out)))
theorem loop_notLive {l : Nat} {lp : Loop} (hs : St w G ρ σ) (hl : w.heap[l]? = some (.loop lp)) : ¬ Live ρ l := hs.notLive hl (by intro _ _ _ h; cases h)
theorem getD_of {ts : Array Value} {t : Nat} {v : Value} (h : ts[t]? = some v) : ts.getD t undef = v := by
  rw [Array.getD_eq_getD_getElem?, h]; rfl
theorem sim_Y {call : Caller} {Y : List CV → Store → Option (CV × Store)} {l : Nat} {R : Option CV → Loop} {W1 : World} {G1 : Nat → Prop} {ρ1 : List Loc} {ops : Array Oper} {y d : Nat} {pre post : List LOp} {args : List Opd} {e1 e3 : Env} {σ1 σ2 σ3 : Store} {out : CV} {base1 base2 mm : Nat} {Q : Exit → Act → World → Prop}
    (hc : CallSim P call) (hY : YOk P Y l R W1 G1 ρ1) (hok : okY P ops n y pre d args post = true) (hs : St w G ρ σ) (he : RepE w G ρ e a.tmps) (hn : n ≤ a.tmps.size) (h0 : a.tmps[0]? = some (.func (.yield l) #[] #[])) (hx : ExtL l W1 G1 ρ1 w G ρ) (hg : ¬ G l) (hl : w.heap[l]? = some (.loop (R none)))
    (r1 : runO call base1 pre (st y .any e) σ = some (e1, σ1)) (r2 : Y (args.map (vl e1)) σ1 = some (out, σ2)) (r3 : runO call base2 post (st d (.p (.bool (isT out))) e1) σ2 = some (e3, σ3))
    (hK : ∀ a' w' G' ρ', St w' G' ρ' σ3 → ExtL l w G ρ w' G' ρ' → RepE w' G' ρ' e3 a'.tmps → a'.defers = a.defers → a'.tmps.size = a.tmps.size → a'.tmps[0]? = a.tmps[0]? → ¬ G' l → w'.heap[l]? = some (.loop (R (if isT out = true then none else some out))) → Q .normal a' w') :
    wpOpsIn (Fr none) mm P ops Q (List.range ops.size) a w := by
  simp only [okY, Bool.and_eq_true, beq_iff_eq, decide_eq_true_eq, bne_iff_ne, ne_eq] at hok
  obtain ⟨⟨⟨⟨⟨⟨⟨⟨⟨⟨hsz, hy⟩, hd⟩, hy0⟩, hd0⟩, hop0⟩, hop1⟩, hpre⟩, hpost⟩, hpd⟩, hpo⟩ := hok
  split at hop0
  · rename_i o ho
    simp only [Bool.and_eq_true, beq_iff_eq] at hop0
    obtain ⟨⟨hm0, hdst⟩, hgn⟩ := hop0
    have hmv : o.op = .move (.tmp 0) := by
      split at hm0
      · rename_i h; exact h
      · cases hm0
    have hgd : o.guard = none := by simpa using hgn
    split at hop1
    · rename_i o1 ho1
      simp only [Bool.and_eq_true, beq_iff_eq] at hop1
      obtain ⟨⟨hm1, hdst1⟩, hgn1⟩ := hop1
      have hgd1 : o1.guard = none := by simpa using hgn1
      obtain ⟨c, hcop, hcal, hcargs⟩ : ∃ c, o1.op = .call c ∧ c.callee = .value (.tmp y) ∧ okOpds c.args.toList args = true := by
        split at hm1
        · rename_i c hc1
          simp only [Bool.and_eq_true] at hm1
          refine ⟨c, hc1, ?_, hm1.2⟩
          have := hm1.1
          split at this
          · rename_i t ht
            rw [ht]
            rw [beq_iff_eq] at this
            rw [this]
          · cases this
        · cases hm1
      have hge : a.eval (.tmp 0) = .func (.yield l) #[] #[] := getD_of h0
      have hrun0 : (execOp a.eval o).run P w = .ok (.value (.func (.yield l) #[] #[])) w := by
        simp [execOp, hmv, hge]
      rw [List.range_eq_range', hsz, List.range'_succ, wpOpsIn_cons]
      unfold wpOpIn
      simp only [ho]
      rw [if_pos (by simp [Region.wanted, hgd])]
      unfold Oper.wpIn
      refine ⟨fun _ _ => trivial, ?_⟩
      rw [show (Fr none).round = none from rfl, Oper.semAt_none, hrun0, Oper.uponIn_value, hdst]
      have hysz : y < a.tmps.size := by omega
      have hys : (a.put (some y) (.func (.yield l) #[] #[])).tmps[y]? = some (.func (.yield l) #[] #[]) := by simp [Act.put, hysz]
      have hyz : (a.put (some y) (.func (.yield l) #[] #[])).tmps[0]? = a.tmps[0]? := put_get (by simp; omega)
      refine sim_runP (rd := none) (D := fun t => t = 0 ∨ t = y) hc pre 1 w G ρ σ (st y .any e) _ (by omega) (fun i o' l' ho' hl' => ?_) (fun l' hl' t ht => ?_) hs (he.sto (some y) (fun t ht => by cases ht; exact hysz) (.any _)) (by rw [put_size]; exact hn) r1 ?_
      · have hi := get_lt hl'
        refine (okL_get hpre).2 i o' l' ?_ hl'
        rw [List.getElem?_take, if_pos hi, List.getElem?_drop]
        simpa using ho'
      · have := List.all_eq_true.1 hpd l' hl'
        simp only [Bool.and_eq_true, bne_iff_ne, ne_eq] at this
        rcases ht with rfl | rfl
        · exact this.1
        · exact this.2
      · intro a2 w2 G2 ρ2 s2 x2 e2 d2 z2 t2
        have hnl := loop_notLive hs hl
        have hlt := aget_lt hl
        have hl2 : w2.heap[l]? = some (.loop (R none)) := (x2.below l hlt hnl).trans hl
        have hg2 : ¬ G2 l := (x2.toL (l := 0)).noG hlt hnl hg
        have hy2 : a2.tmps[y]? = some (.func (.yield l) #[] #[]) := (t2 y (.inr rfl)).trans hys
        have he2 : a2.eval (.tmp y) = .func (.yield l) #[] #[] := getD_of hy2
        obtain ⟨b1, b2⟩ := okOpds_rep hcargs e2
        obtain ⟨fn, tmps, assign, body, hrun, hround⟩ := hY _ _ _ _ r2 w2 G2 ρ2 (c.args.toList.map a2.eval) s2 (hx.trans x2.toL) hg2 hl2 (by simpa using b1) b2
        have hrun1 : (execOp a2.eval o1).run P w2 = .ok (.round l fn tmps assign body) w2 := by
          rw [← hrun]
          have hargs : c.args.map a2.eval = (c.args.toList.map a2.eval).toArray := by apply Array.ext'; simp
          simp [execOp, hcop, resolve, hcal, he2, Deferred.ofValue, invoke, hargs]
        rw [show 1 + post.length = post.length + 1 by omega, List.range'_succ, wpOpsIn_cons]
        unfold wpOpIn
        simp only [ho1]
        rw [if_pos (by simp [Region.wanted, hgd1])]
        unfold Oper.wpIn
        refine ⟨fun _ _ => trivial, ?_⟩
        rw [show (Fr none).round = none from rfl, Oper.semAt_none, hrun1, Oper.uponIn_round]
        refine ⟨(fun h => by cases h), (hround _).mono ?_⟩
        rintro en w3 ⟨G3, ρ3, rfl, s3, x3, g3, l3⟩
        simp only [hdst1]
        have hdsz : d < a2.tmps.size := by rw [z2, put_size]; omega
        have e3' := (e2.extL x3 s2 hg2).sto (a := a2) (some d) (fun t ht => by cases ht; exact hdsz) (RepC.p (.bool (isT out)) _ (.bool _))
        have q := sim_runP (rd := none) (mm := mm) (Q := Q) (m := 0) (D := fun t => t = 0) hc post (1 + pre.length + 1) w3 G3 ρ3 σ2 _ _ (by omega) (fun i o' l' ho' hl' => (okL_get hpost).2 i o' l' (by rw [List.getElem?_drop]; simpa using ho') hl') (fun l' hl' t ht => by
          have := List.all_eq_true.1 hpo l' hl'
          subst ht
          simpa using this) s3 e3' (by rw [put_size, z2, put_size]; exact hn) r3 (by
          intro a4 w4 G4 ρ4 s4 x4 e4 d4 z4 t4
          have hnl3 := loop_notLive s3 l3
          have hlt3 := aget_lt l3
          refine hK a4 w4 G4 ρ4 s4 ((x2.toL.trans x3).trans x4.toL) e4 ?_ ?_ ?_ ((x4.toL (l := 0)).noG hlt3 hnl3 g3) ((x4.below l hlt3 hnl3).trans l3)
          · rw [d4, put_defers, d2, put_defers]
          · rw [z4, put_size, z2, put_size]
          · rw [t4 0 rfl, put_get (by simp; omega), t2 0 (.inl rfl), hyz])
        exact q
    · cases hop1
  · cases hop0
theorem sim_I {call : Caller} {Y : List CV → Store → Option (CV × Store)} {l : Nat} {R : Option CV → Loop} {W1 : World} {G1 : Nat → Prop} {ρ1 : List Loc} (hc : CallSim P call) (hY : YOk P Y l R W1 G1 ρ1) :
    ∀ (m : Nat) (pd : Option CV) (c : RCode) (ks : List KI) (e : Env) (σ : Store) (r : Option CV × Store), runI call Y m pd c ks e σ = some r →
    ∀ (todo : List Item) (w : World) (G : Nat → Prop) (ρ : List Loc) (a : Act) (b : Frame) (cs : List Frame), b.roundOf = none → TodoI P n c ks todo → St w G ρ σ → RepE w G ρ e a.tmps → n ≤ a.tmps.size → a.tmps[0]? = some (.func (.yield l) #[] #[]) →
      ExtL l W1 G1 ρ1 w G ρ → ¬ G l → w.heap[l]? = some (.loop (R pd)) →
      ∃ a' k' w' G' ρ', Steps P (lone (b.atR a todo) cs w) (lone { b.atR a' k' with mode := .returning } cs w') ∧ a'.defers = a.defers ∧ St w' G' ρ' r.2 ∧ ExtL l W1 G1 ρ1 w' G' ρ' ∧ ¬ G' l ∧ w'.heap[l]? = some (.loop (R r.1)) := by
  intro m
  induction m with
  | zero => intro pd c ks e σ r h; simp [runI] at h
  | succ m ih =>
    intro pd c ks e σ r h todo w G ρ a b cs hro htodo hs he hn h0 hx hg hl
    have one : ∀ {c' : RCode} {ks' : List KI} {e' : Env} {todo' : List Item}, runI call Y m pd c' ks' e' σ = some r → TodoI P n c' ks' todo' → RepE w G ρ e' a.tmps → Steps P (lone (b.atR a todo) cs w) (lone (b.atR a todo') cs w) →
        ∃ a' k' w' G' ρ', Steps P (lone (b.atR a todo) cs w) (lone { b.atR a' k' with mode := .returning } cs w') ∧ a'.defers = a.defers ∧ St w' G' ρ' r.2 ∧ ExtL l W1 G1 ρ1 w' G' ρ' ∧ ¬ G' l ∧ w'.heap[l]? = some (.loop (R r.1)) := by
      intro c' ks' e' todo' h1 h2 h3 h4
      obtain ⟨a', k', w', G', ρ', q1, q2⟩ := ih pd c' ks' e' σ r h1 todo' w G ρ a b cs hro h2 hs h3 hn h0 hx hg hl
      exact ⟨a', k', w', G', ρ', h4.trans q1, q2⟩
    have leave : ∀ {k : List Item}, r = (pd, σ) → Steps P (lone (b.atR a todo) cs w) (lone { b.atR a k with mode := .returning } cs w) →
        ∃ a' k' w' G' ρ', Steps P (lone (b.atR a todo) cs w) (lone { b.atR a' k' with mode := .returning } cs w') ∧ a'.defers = a.defers ∧ St w' G' ρ' r.2 ∧ ExtL l W1 G1 ρ1 w' G' ρ' ∧ ¬ G' l ∧ w'.heap[l]? = some (.loop (R r.1)) := by
      rintro k rfl hst
      exact ⟨a, k, w, G, ρ, hst, rfl, hs, hx, hg, hl⟩
    have region : ∀ {pd' : Option CV} {e1 : Env} {σ1 : Store} {code : Code} {k : List Item}, todo = .code code :: k → KRelI P n ks k → runI call Y m pd' .skip ks e1 σ1 = some r →
        (∀ K : Exit → Act → World → Prop, (∀ a' w' G' ρ', St w' G' ρ' σ1 → ExtL l w G ρ w' G' ρ' → RepE w' G' ρ' e1 a'.tmps → a'.defers = a.defers → a'.tmps.size = a.tmps.size → a'.tmps[0]? = a.tmps[0]? → ¬ G' l → w'.heap[l]? = some (.loop (R pd')) → K .normal a' w') → code.wpIn (Fr none) 0 P K a w) →
        ∃ a' k' w' G' ρ', Steps P (lone (b.atR a todo) cs w) (lone { b.atR a' k' with mode := .returning } cs w') ∧ a'.defers = a.defers ∧ St w' G' ρ' r.2 ∧ ExtL l W1 G1 ρ1 w' G' ρ' ∧ ¬ G' l ∧ w'.heap[l]? = some (.loop (R r.1)) := by
      rintro pd' e1 σ1 code k rfl hk h1 hwp
      have := hwp (fun ex a' w' => ex = .normal ∧ ∃ G' ρ', St w' G' ρ' σ1 ∧ ExtL l w G ρ w' G' ρ' ∧ RepE w' G' ρ' e1 a'.tmps ∧ a'.defers = a.defers ∧ a'.tmps.size = a.tmps.size ∧ a'.tmps[0]? = a.tmps[0]? ∧ ¬ G' l ∧ w'.heap[l]? = some (.loop (R pd'))) (by
        intro a' w' G' ρ' s1 x1 r1 d1 z1 t1 g1 l1
        exact ⟨rfl, G', ρ', s1, x1, r1, d1, z1, t1, g1, l1⟩) b k cs hro trivial fr_room
      obtain ⟨ex, a', w', ⟨rfl, G', ρ', s1, x1, r1, d1, z1, t1, g1, l1⟩, harr⟩ := this
      obtain ⟨a2, k2, w2, G2, ρ2, q1, q2, q3⟩ := ih pd' .skip ks e1 σ1 r h1 k w' G' ρ' a' b cs hro (.inr ⟨rfl, hk⟩) s1 r1 (by omega) (t1.trans h0) (hx.trans x1) g1 l1
      exact ⟨a2, k2, w2, G2, ρ2, Steps.trans (fr_steps.1 harr) q1, q2.trans d1, q3⟩
    rcases htodo with ⟨d, k, rfl, hch, hk⟩ | ⟨rfl, hk⟩
    · cases c with
      | fg keep c =>
        simp only [runI] at h
        simp only [chkI] at hch
        exact one h (.inl ⟨d, k, rfl, hch, hk⟩) (he.fgt keep) (.refl _ _)
      | skip =>
        have hs1 : ∀ k, step P (lone (b.atR a (.code d :: k)) cs w) = .next (lone (b.atR a k) cs w) := by
          cases d <;> simp only [chkI, Bool.false_eq_true] at hch
          · exact fun k => stepR_skip
          · exact fun k => stepR_label
        simp only [runI] at h
        cases hk with
        | nil =>
          simp only [Option.some.injEq] at h
          exact leave h.symm (.head (hs1 _) (.one (stepR_end hro)))
        | code h1 hk => exact one h (.inl ⟨_, _, rfl, h1, hk⟩) he (.one (hs1 _))
        | blk hk => exact one h (.inr ⟨rfl, hk⟩) he (.head (hs1 _) (.one stepR_inBlock))
        | sc hk => exact one h (.inr ⟨rfl, hk⟩) he (.head (hs1 _) (.one stepR_inScope))
        | lp h1 hk => exact one h (.inl ⟨_, _, rfl, h1, .lp h1 hk⟩) he (.head (hs1 _) (.one stepR_inLoop))
      | reg L dr =>
        cases dr with
        | none =>
          cases d <;> try (simp only [chkI, Bool.false_eq_true] at hch; done)
          rename_i id ops draw
          cases draw <;> simp only [chkI, Bool.false_eq_true, Bool.and_eq_true] at hch
          simp only [runI] at h
          split at h
          · rename_i e1 σ1 hro1
            refine region rfl hk h fun K hK => ?_
            refine wpIn_region (sim_runO (D := fun t => t = 0) hc hch.1 (fun l' hl' t ht => ?_) hs he hn hro1 ?_)
            · have := List.all_eq_true.1 hch.2 l' hl'
              subst ht
              simpa using this
            · intro a' w' G' ρ' s1 x1 r1 d1 z1 t1
              have hnl := loop_notLive hs hl
              have hlt := aget_lt hl
              exact hK a' w' G' ρ' s1 x1.toL r1 d1 z1 (t1 0 rfl) ((x1.toL (l := 0)).noG hlt hnl hg) ((x1.below l hlt hnl).trans hl)
          · cases h
        | some hxp => cases d <;> simp [chkI] at hch
      | yld y pre d' args post =>
        cases d <;> try (simp only [chkI, Bool.false_eq_true] at hch; done)
        rename_i id ops draw
        cases draw <;> simp only [chkI, Bool.false_eq_true] at hch
        simp only [runI] at h
        split at h
        · cases h
        · split at h
          · cases h
          · rename_i e1 σ1 hr1
            split at h
            · cases h
            · rename_i out σ2 hr2
              split at h
              · cases h
              · rename_i e3 σ3 hr3
                refine region rfl hk h fun K hK => ?_
                exact wpIn_region (sim_Y hc hY hch hs he hn h0 hx hg hl hr1 hr2 hr3 hK)
      | seq x y =>
        cases d <;> simp only [chkI, Bool.false_eq_true, Bool.and_eq_true] at hch
        simp only [runI] at h
        exact one h (.inl ⟨_, _, rfl, hch.1, .code hch.2 hk⟩) he (.one stepR_seq)
      | cond q x y =>
        cases d <;> simp only [chkI, Bool.false_eq_true, Bool.and_eq_true] at hch
        obtain ⟨⟨h1, h2⟩, h3⟩ := hch
        simp only [runI] at h
        split at h
        · rename_i t ht
          have hq := okOpd_rep h1 he
          rw [ht] at hq
          have hb := rep_bool hq
          cases t with
          | true => exact one h (.inl ⟨_, _, rfl, h2, hk⟩) he (.one (stepR_cond hb))
          | false => exact one (by simpa using h) (.inl ⟨_, _, rfl, h3, hk⟩) he (.one (stepR_cond hb))
        · cases h
      | block id x =>
        cases d <;> simp only [chkI, Bool.false_eq_true, Bool.and_eq_true, beq_iff_eq] at hch
        obtain ⟨rfl, h1⟩ := hch
        simp only [runI] at h
        exact one h (.inl ⟨_, _, rfl, h1, .blk hk⟩) he (.one stepR_block)
      | scope x =>
        cases d <;> simp only [chkI, Bool.false_eq_true] at hch
        simp only [runI] at h
        exact one h (.inl ⟨_, _, rfl, hch, .sc hk⟩) he (.one stepR_scope)
      | loop x =>
        cases d <;> simp only [chkI, Bool.false_eq_true] at hch
        simp only [runI] at h
        exact one h (.inl ⟨_, _, rfl, hch, .lp hch hk⟩) he (.one stepR_loop)
      | exit id =>
        cases d <;> simp only [chkI, Bool.false_eq_true, beq_iff_eq] at hch
        subst hch
        simp only [runI] at h
        split at h
        · rename_i ks' hks
          obtain ⟨k', h1, h2⟩ := hk.exit hks
          exact one h (.inr ⟨rfl, h2⟩) he (.one (stepR_exit h1))
        · cases h
      | ret =>
        cases d <;> simp only [chkI, Bool.false_eq_true] at hch
        simp only [runI, Option.some.injEq] at h
        exact leave h.symm (.one (stepR_ret hro))
      | rng _ _ _ _ _ => cases d <;> simp [chkI] at hch
      | iter _ => cases d <;> simp [chkI] at hch
      | bret => cases d <;> simp [chkI] at hch
      | bexit _ => cases d <;> simp [chkI] at hch
      | frzk _ _ => cases d <;> simp [chkI] at hch
    · simp only [runI] at h
      cases hk with
      | nil =>
        simp only [Option.some.injEq] at h
        exact leave h.symm (.one (stepR_end hro))
      | code h1 hk => exact one h (.inl ⟨_, _, rfl, h1, hk⟩) he (.refl _ _)
      | blk hk => exact one h (.inr ⟨rfl, hk⟩) he (.one stepR_inBlock)
      | sc hk => exact one h (.inr ⟨rfl, hk⟩) he (.one stepR_inScope)
      | lp h1 hk => exact one h (.inl ⟨_, _, rfl, h1, .lp h1 hk⟩) he (.one stepR_inLoop)
/-! ### functions and rounds -/
def OutP (P : Program) (rs : List RRes) (b : Frame) (cs : List Frame) (M : Machine) : Option (List Item) → CV × Store → Act → World → (Nat → Prop) → List Loc → Prop
  | none, r, a', w', G', ρ' => ∃ k' e', Steps P M (lone { b.atR a' k' with mode := .returning } cs w') ∧ resultsV rs e' r.2 = some r.1 ∧ RepE w' G' ρ' e' a'.tmps
  | some k, r, a', w', _, _ => (r.1 = .p (.bool true) ∧ Steps P M (lone (b.atR a' k) cs w')) ∨ (r.1 = .p (.bool false) ∧ ∃ k₁, Steps P M (lone (b.atR a' (.code .ret :: k₁)) cs w')) ∨
      (∃ id : Nat, r.1 = .p (.int .i64 id) ∧ ∃ k₁, exitTo id k₁ = exitTo id k ∧ Steps P M (lone (b.atR a' (.code (.exit id) :: k₁)) cs w'))
theorem OutP.pre {rs : List RRes} {b : Frame} {cs : List Frame} {M M' : Machine} {k0 : Option (List Item)} {r : CV × Store} {a' : Act} {w' : World} {G' : Nat → Prop} {ρ' : List Loc} (h : OutP P rs b cs M' k0 r a' w' G' ρ') (hs : Steps P M M') : OutP P rs b cs M k0 r a' w' G' ρ' := by
  cases k0 with
  | none => obtain ⟨k', e', h1, h2⟩ := h; exact ⟨k', e', hs.trans h1, h2⟩
  | some k =>
    rcases h with ⟨h1, h2⟩ | ⟨h1, k₁, h2⟩ | ⟨id, h1, k₁, h2, h3⟩
    · exact .inl ⟨h1, hs.trans h2⟩
    · exact .inr (.inl ⟨h1, k₁, hs.trans h2⟩)
    · exact .inr (.inr ⟨id, h1, k₁, h2, hs.trans h3⟩)
def SimU (P : Program) (rp : RProg) (m : Nat) : Prop :=
  ∀ (rs : List RRes) (c : RCode) (ks : List KI) (e : Env) (σ : Store) (r : CV × Store), runK rp m rs c ks e σ = some r →
    ∀ (n : Nat) (rd : Option Nat) (k0 : Option (List Item)) (todo : List Item) (w : World) (G : Nat → Prop) (ρ : List Loc) (a : Act) (b : Frame) (cs : List Frame) (lo : Nat), b.roundOf = rd → rd.isSome = k0.isSome → Todo P n k0 c ks todo →
      St w G ρ σ → RepE w G ρ e a.tmps → n ≤ a.tmps.size → (∀ l0, rd = some l0 → ∃ lp, w.heap[l0]? = some (.loop lp)) → lo ≤ w.heap.size → Marks lo w G w.heap.size a.defers → (rd.isSome = true → a.defers = []) →
      ∃ a' w' G' ρ', St w' G' ρ' r.2 ∧ Ext w G ρ w' G' ρ' ∧ Marks lo w' G' w'.heap.size a'.defers ∧ OutP P rs b cs (lone (b.atR a todo) cs w) k0 r a' w' G' ρ'
theorem rep_enter {args : List CV} {vs : List Value} {q : Nat} (hl : args.length = vs.length) (hk : ∀ (k : Nat) c v, args[k]? = some c → vs[k]? = some v → RepC w G ρ c v) : RepE w G ρ (args0 0 args) (vs.toArray ++ Array.replicate q undef) := by
  intro k
  rw [args0_gt]
  simp only [Nat.zero_le, if_true, Nat.sub_zero]
  rcases Nat.lt_or_ge k args.length with h1 | h1
  · have h2 : k < vs.length := by omega
    have h3 : k < (vs.toArray ++ Array.replicate q undef).size := by simp; omega
    have := hk k args[k] vs[k] (by simp) (by simp)
    rw [show args.getD k .any = args[k] by simp [h1]]
    rw [show (vs.toArray ++ Array.replicate q undef).getD k undef = vs[k] by
      simp only [Array.getD_eq_getD_getElem?]
      rw [Array.getElem?_append_left (by simpa using h2)]
      simp [h2]]
    exact this
  · rw [show args.getD k .any = .any by simp [h1]]
    exact .any _
theorem chkF_spec {f : Nat} {rf : RFun} (h : chkF P f rf = true) : okFn P f = true ∧ ∃ fn code, P.funcs[f]? = some fn ∧ fn.body = some code ∧ chkR P rf.res fn.results.toList = true ∧ chkC P fn.ntmps false rf.code code = true := by
  simp only [chkF, Bool.and_eq_true] at h
  obtain ⟨hok, hck⟩ := h
  refine ⟨hok, ?_⟩
  split at hck
  · rename_i fn hfn
    simp only [Bool.and_eq_true] at hck
    obtain ⟨hr, hcc⟩ := hck
    split at hcc
    · rename_i code hbody
      exact ⟨fn, code, hfn, hbody, hr, hcc⟩
    · cases hcc
  · cases hck
theorem call_sim {rp : RProg} {m : Nat} (hrp : ∀ f rf, rp f = some rf → chkF P f rf = true) (hU : SimU P rp m) : CallSim P (fun f args σ => match rp f with | some rf => runK rp m rf.res rf.code [] (args0 0 args) σ | none => none) := by
  intro f args σ r h w G ρ hs vs hl hk
  simp only [] at h
  split at h
  · rename_i rf hrf
    obtain ⟨hok, fn, code, hfn, hbody, hr, hcc⟩ := chkF_spec (hrp f rf hrf)
    refine ⟨hok, fun cs => ?_⟩
    let b : Frame := { (default : Frame) with fn := f, kind := .normal, roundOf := none }
    have henter : Frame.enter P f vs.toArray .normal = b.atR { tmps := vs.toArray ++ Array.replicate (fn.ntmps - vs.toArray.size) undef, defers := [] } [.code code] := by
      simp [Frame.enter, Frame.atR, hfn, hbody, b]
    obtain ⟨a', w', G', ρ', s1, x1, m1, k', e', st1, res1, rep1⟩ := hU rf.res rf.code [] (args0 0 args) σ r h fn.ntmps none none [.code code] w G ρ { tmps := vs.toArray ++ Array.replicate (fn.ntmps - vs.toArray.size) undef, defers := [] } b cs w.heap.size rfl rfl
      (.inl ⟨code, [], rfl, hcc, .nil rfl⟩) hs (rep_enter hl hk) (by simp; omega) (fun _ h => by cases h) (Nat.le_refl _) trivial (fun _ => rfl)
    obtain ⟨w2, q1, q2, q3, q4⟩ := unwind (P := P) (b := b) (a := a') (k := k') (cs := cs) m1
    have s2 : St w2 G' ρ' r.2 := s1.frame (fun k hk => q4 k (.inr (.inl hk))) (fun k hk => q4 k (.inr (.inr (by obtain ⟨arr, el, h⟩ := s1.live_cells hk; exact ⟨arr, el, _, h⟩)))) (by omega)
    have x2 : Ext w G ρ w2 G' ρ' := ⟨x1.wld.trans q2, x1.loc, by have := x1.heap; omega, x1.grow, x1.only, fun k hk hn => (q4 k (.inl hk)).trans (x1.below k hk hn), x1.lives⟩
    have rep2 : RepE w2 G' ρ' e' a'.tmps := fun k => (rep1 k).mono (fun k hk => q4 k (.inr (.inl hk))) (fun _ h => h) (LocExt.refl _)
    obtain ⟨v, hv, rv⟩ := results_run (a := a') s2 rep2 hr res1
    rw [← henter] at st1
    exact ⟨.returned v, w2, { b.atR { a' with defers := [] } k' with mode := .returning }, ⟨v, G', ρ', rfl, s2, x2, rv⟩, Steps.trans st1 q1, rfl, rfl, rfl, rfl, fn, hfn, hv⟩
  · cases h
/-! ### one round -/
def jumpOf : CV → Option Code
  | .p (.bool _) => some .ret
  | .p (.int _ z) => some (.exit z.toNat)
  | _ => none
def recOf (lp : Loop) : Option CV → Loop
  | none => lp
  | some out => { lp with state := .done, pending := jumpOf out }
theorem repE_stL : ∀ {ps : List Nat} {args : List CV} {vs : List Value} {e : Env} {ts : Array Value}, args.length = ps.length → args.length = vs.length → (∀ p ∈ ps, p < ts.size) → RepE w G ρ e ts → (∀ (k : Nat) c v, args[k]? = some c → vs[k]? = some v → RepC w G ρ c v) →
    RepE w G ρ (stL ps args e) ((ps.zip vs).foldl (fun t (p : Nat × Value) => t.setIfInBounds p.1 p.2) ts) ∧ ((ps.zip vs).foldl (fun t (p : Nat × Value) => t.setIfInBounds p.1 p.2) ts).size = ts.size
  | [], _, _, e, ts, _, _, _, he, _ => by simp only [stL, List.zip_nil_left, List.foldl_nil]; exact ⟨he, trivial⟩
  | p :: ps, [], _, _, _, h, _, _, _, _ => by simp at h
  | p :: ps, c :: args, [], _, _, _, h, _, _, _ => by simp at h
  | p :: ps, c :: args, v :: vs, e, ts, h1, h2, hp, he, hk => by
    simp only [stL, List.zip_cons_cons, List.foldl_cons]
    have e1 : RepE w G ρ (st p c e) (ts.setIfInBounds p v) := by
      have := RepE.sto (a := { tmps := ts, defers := [] }) he (some p) (fun t ht => by cases ht; exact hp p (List.mem_cons_self ..)) (hk 0 c v rfl rfl)
      exact this
    obtain ⟨q1, q2⟩ := repE_stL (ps := ps) (args := args) (vs := vs) (by simpa using h1) (by simpa using h2) (fun q hq => by rw [Array.size_setIfInBounds]; exact hp q (List.mem_cons_of_mem _ hq)) e1 (fun k c v a b => hk (k + 1) c v (by simpa using a) (by simpa using b))
    exact ⟨q1, by rw [q2, Array.size_setIfInBounds]⟩
theorem round_ok {rp : RProg} {m : Nat} (hcall : CallSim P (fun f args σ => match rp f with | some rf => runK rp m rf.res rf.code [] (args0 0 args) σ | none => none)) (hU : SimU P rp m) {params : Array Tmp} {ps : List Nat} {asg body : RCode} {assign code : Code} {l fn dd : Nat} {W1 : World} {G : Nat → Prop} {ρ : List Loc} {σ0 : Store} {e : Env} {a : Act}
    (hps : params.toList = ps) (hpn : ∀ p ∈ ps, p < n) (hasg : chkA P n asg assign = true) (hbody : chkC P n true body code = true) (hs1 : St W1 G ρ σ0) (he1 : RepE W1 G ρ e a.tmps) (hn : n ≤ a.tmps.size) (hg1 : ¬ G l) :
    YOk P (fun args σ => if args.length = ps.length then (match runA (fun f args σ => match rp f with | some rf => runK rp m rf.res rf.code [] (args0 0 args) σ | none => none) asg (stL ps args e) σ with | some (e, σ) => runK rp m [] body [.fin] e σ | none => none) else none)
      l (recOf { state := .ready, pending := none, fn, tmps := a.tmps, params, assign, body := code, defers := dd }) W1 G ρ := by
  intro args σ out σ' hy w2 G2 ρ2 vs s2 x2 g2 l2 hlen hreps
  simp only [] at hy
  split at hy
  · rename_i hlp
    split at hy
    · rename_i e1 σ1 hA
      have hsize : vs.toArray.size = params.size := by
        rw [List.size_toArray, ← hlen, hlp, ← hps]; simp
      have rE2 : RepE w2 G2 ρ2 e a.tmps := he1.extL x2 hs1 hg1
      obtain ⟨rE3, rZ3⟩ := repE_stL (ps := ps) hlp hlen (fun p hp => Nat.lt_of_lt_of_le (hpn p hp) hn) rE2 hreps
      have hfold : (params.zip vs.toArray).foldl (fun tmps (x : Tmp × Value) => tmps.setIfInBounds x.1 x.2) a.tmps = (ps.zip vs).foldl (fun t (p : Nat × Value) => t.setIfInBounds p.1 p.2) a.tmps := by
        rw [← Array.foldl_toList, Array.toList_zip, hps]
      refine ⟨_, _, _, _, run_yield (P := P) (args := vs.toArray) l2 hsize, fun mm => roundIn_of_wpIn trivial ?_⟩
      show assign.wpIn (Fr (some l)) mm P _ { tmps := (params.zip vs.toArray).foldl (fun tmps (x : Tmp × Value) => tmps.setIfInBounds x.1 x.2) a.tmps, defers := [] } w2
      rw [hfold]
      refine sim_A hcall (rd := some l) (mm := mm) (a := { tmps := (ps.zip vs).foldl (fun t (p : Nat × Value) => t.setIfInBounds p.1 p.2) a.tmps, defers := [] }) hasg hA s2 rE3 (by simp only []; omega) ?_
      intro a3 w3 G3 ρ3 s3 x3 r3 d3 z3 t3
      simp only [] at z3
      have hnl2 := loop_notLive s2 l2
      have hlt2 := aget_lt l2
      have l3 := (x3.below l hlt2 hnl2).trans l2
      have g3 : ¬ G3 l := (x3.toL (l := 0)).noG hlt2 hnl2 g2
      have hnl3 := loop_notLive s3 l3
      have hlt3 := aget_lt l3
      refine ⟨_, run_beginRound l3 rfl, ?_⟩
      show code.wpIn (Fr (some l)) mm P _ a3 _
      intro b k cs hro _ _
      have l4 := World.putObj_heap_same (w := w3) (o := .loop { recOf { state := .ready, pending := none, fn, tmps := a.tmps, params, assign, body := code, defers := dd } none with state := .busy }) hlt3
      generalize hw4 : w3.putObj l (.loop { recOf { state := .ready, pending := none, fn, tmps := a.tmps, params, assign, body := code, defers := dd } none with state := .busy }) = w4 at l4
      have s4 : St w4 G3 ρ3 σ1 := by rw [← hw4]; exact s3.put g3 hnl3
      have x4 : ExtL l w3 G3 ρ3 w4 G3 ρ3 := by rw [← hw4]; exact ExtL.put
      have r4 := r3.extL x4 s3 g3
      obtain ⟨a5, w5, G5, ρ5, s5, x5, _, hout⟩ := hU [] body [.fin] e1 σ1 (out, σ') hy n (some l) (some k) (.code code :: k) w4 G3 ρ3 a3 b cs w4.heap.size hro rfl (.inl ⟨code, k, rfl, hbody, .fin k rfl⟩) s4 r4 (by rw [z3, rZ3]; exact hn)
        (fun l0 h0 => by injection h0 with h0; subst h0; exact ⟨_, l4⟩) (Nat.le_refl _) (by rw [d3]; trivial) (fun _ => d3)
      have hnl4 := loop_notLive s4 l4
      have hlt4 := aget_lt l4
      have l5 := (x5.below l hlt4 hnl4).trans l4
      have g5 : ¬ G5 l := (x5.toL (l := 0)).noG hlt4 hnl4 g3
      have hnl5 := loop_notLive s5 l5
      have hlt5 := aget_lt l5
      have hx6 : ∀ o, ExtL l w2 G2 ρ2 (w5.putObj l o) G5 ρ5 := fun o => ((x3.toL.trans x4).trans x5.toL).trans ExtL.put
      rcases hout with ⟨ho, hst⟩ | ⟨ho, k₁, hst⟩ | ⟨id, ho, k₁, hex, hst⟩
      · simp only [] at ho
        refine ⟨.normal, a5, w5, ⟨_, _, run_endRound none l5, G5, ρ5, by rw [ho]; rfl, s5.put g5 hnl5, hx6 _, g5, ?_⟩, fr_steps.2 hst⟩
        rw [World.putObj_heap_same hlt5, ho]
        rfl
      · simp only [] at ho
        refine ⟨.ret, a5, w5, ⟨_, _, run_endRound (some .ret) l5, G5, ρ5, by rw [ho]; rfl, s5.put g5 hnl5, hx6 _, g5, ?_⟩, ⟨(fun hn => by rw [hro] at hn; cases hn), fun _ => ⟨k₁, fr_steps.2 hst⟩⟩⟩
        rw [World.putObj_heap_same hlt5, ho]
        rfl
      · simp only [] at ho
        refine ⟨.exit id, a5, w5, ⟨_, _, run_endRound (some (.exit id)) l5, G5, ρ5, by rw [ho]; rfl, s5.put g5 hnl5, hx6 _, g5, ?_⟩, ⟨fun k' hk => ?_, fun _ hk => ⟨k₁, hex.trans hk, fr_steps.2 hst⟩⟩⟩
        · rw [World.putObj_heap_same hlt5, ho]
          rfl
        · exact fr_steps.2 (hst.trans (.one (stepR_exit (hex.trans hk))))
    · cases hy
  · cases hy
theorem run_range {g : Operand} {gf l : Nat} {vs : List Value} {w : World} (hg : a.eval g = .func (.func gf) #[] vs.toArray) (hok : okFn P gf = true) :
    (resolve a.eval (rangeCall g l) 0).run P w = .ok { target := .fn (.func gf) vs.toArray, args := #[.func (.yield l) #[] #[]] } w ∧
    (invoke (.fn (.func gf) vs.toArray) #[.func (.yield l) #[] #[]]).run P w = .ok (.enter gf ((.func (.yield l) #[] #[]) :: vs).toArray) w := by
  constructor
  · have hc : a.eval (.const (.func (.yield l) #[] #[])) = .func (.yield l) #[] #[] := rfl
    simp [resolve, rangeCall, hg, Deferred.ofValue, hc]
  · have := callFunc_run (P := P) (w := w) (args := ((.func (.yield l) #[] #[]) :: vs).toArray) hok
    simpa [invoke] using this
theorem sim_rng {rp : RProg} {m : Nat} (hrp : ∀ f rf, rp f = some rf → chkF P f rf = true) (hU : SimU P rp m) {rd : Option Nat} {lo : Nat} {k : List Item} {cs : List Frame} {b : Frame} {g : Operand} {params : Array Tmp} {assign code : Code} {ps : List Nat} {xo : Opd} {asg body ic : RCode} {gf : Nat} {cap : List CV} {pd : Option CV} {σ' : Store}
    (hro : b.roundOf = rd) (hs : St w G ρ σ) (he : RepE w G ρ e a.tmps) (hn : n ≤ a.tmps.size) (hlp : ∀ l0, rd = some l0 → ∃ lp, w.heap[l0]? = some (.loop lp)) (hlo : lo ≤ w.heap.size) (hmk : Marks lo w G w.heap.size a.defers) (hdf : rd.isSome = true → a.defers = [])
    (hps : params.toList = ps) (hpn : ∀ p ∈ ps, p < n) (hox : okOpd g xo = true) (hasg : chkA P n asg assign = true) (hbody : chkC P n true body code = true) (hx : vl e xo = .fn gf cap) (hrf : rp gf = some ⟨.iter ic, []⟩)
    (hI : runI (fun f args σ => match rp f with | some rf => runK rp m rf.res rf.code [] (args0 0 args) σ | none => none) (fun args σ => if args.length = ps.length then (match runA (fun f args σ => match rp f with | some rf => runK rp m rf.res rf.code [] (args0 0 args) σ | none => none) asg (stL ps args e) σ with | some (e, σ) => runK rp m [] body [.fin] e σ | none => none) else none) m none ic [] (args0 0 (.any :: cap)) σ = some (pd, σ')) :
    ∃ a1 w1 G1 ρ1, Steps P (lone (b.atR a (.code (.rangeFunc g params assign code) :: k)) cs w) (lone (b.atR a1 (((pd.bind jumpOf).map Item.code).toList ++ k)) cs w1) ∧ a1.tmps = a.tmps ∧ St w1 G1 ρ1 σ' ∧ Ext w G ρ w1 G1 ρ1 ∧ Marks lo w1 G1 w1.heap.size a1.defers ∧ (rd.isSome = true → a1.defers = []) := by
  have hcall := call_sim hrp hU
  have hrep := okOpd_rep hox he
  rw [hx] at hrep
  obtain ⟨vs, hgv, hvl, hvk⟩ := rep_fn hrep
  obtain ⟨hok, fn', icode, hfn', hbod', hr', hcc'⟩ := chkF_spec (hrp gf _ hrf)
  simp only [chkC, Bool.not_false, Bool.true_and] at hcc'
  obtain ⟨l, mark, W1, dd, hent, hwl, hl1, hkeep, hsz, hsame, hmk0, hmarks⟩ := enter_loop (P := P) hlp b.fn a.tmps params assign code
  have hGl : ¬ G l := fun h => by have := hs.g l h; omega
  have hs1 : St W1 G ρ σ := hs.frame (fun k hk => hkeep k (hs.g k hk)) (fun k hk => hkeep k (hs.live_lt hk)) hsz
  have hx1 : Ext w G ρ W1 G ρ := ⟨hsame, LocExt.refl _, hsz, fun _ h => h, fun _ h => .inl h, fun k hk _ => hkeep k hk, fun _ h => .inl h⟩
  have he1 := he.ext hx1 hs
  have hY := round_ok (l := l) (fn := b.fn) (dd := dd) hcall hU hps hpn hasg hbody hs1 he1 hn hGl
  let bI : Frame := { (default : Frame) with fn := gf, kind := .normal, roundOf := none }
  have henter : Frame.enter P gf ((.func (.yield l) #[] #[]) :: vs).toArray .normal = bI.atR { tmps := ((.func (.yield l) #[] #[]) :: vs).toArray ++ Array.replicate (fn'.ntmps - ((.func (.yield l) #[] #[]) :: vs).toArray.size) undef, defers := [] } [.code icode] := by
    simp [Frame.enter, Frame.atR, hfn', hbod', bI]
  have hrepI : RepE W1 G ρ (args0 0 (.any :: cap)) (((.func (.yield l) #[] #[]) :: vs).toArray ++ Array.replicate (fn'.ntmps - ((.func (.yield l) #[] #[]) :: vs).toArray.size) undef) := by
    refine rep_enter (by simp [hvl]) fun j c v h1 h2 => ?_
    cases j with
    | zero => simp at h1; subst h1; exact .any _
    | succ j => exact (hvk j c v (by simpa using h1) (by simpa using h2)).ext hx1 hs
  obtain ⟨aI, kI, w2, G2, ρ2, st2, d2, s2, x2, g2, l2⟩ := sim_I hcall hY m none ic [] _ σ (pd, σ') hI [.code icode] W1 G ρ { tmps := ((.func (.yield l) #[] #[]) :: vs).toArray ++ Array.replicate (fn'.ntmps - ((.func (.yield l) #[] #[]) :: vs).toArray.size) undef, defers := [] } bI (b.atR { a with defers := mark ++ a.defers } (.inRangeFunc l :: k) :: cs) rfl (.inl ⟨icode, [], rfl, hcc', .nil⟩) hs1 hrepI
    (by simp; omega) (by rw [Array.getElem?_append_left (by simp)]; simp) (Ext.refl.toL) hGl hl1
  rw [← henter] at st2
  obtain ⟨v, hv, _⟩ := results_run (fn := fn') (rs := []) (e := []) (a := aI) (c := .tup []) s2 (fun _ => .any _) hr' rfl
  have hleave : ({ bI.atR aI kI with mode := .returning } : Frame).leaving P w2 (.returned v) := ⟨rfl, d2, rfl, fn', hfn', hv⟩
  have hnl2 := loop_notLive s2 l2
  have hlt2 := aget_lt l2
  have hpend : (recOf { state := .ready, pending := none, fn := b.fn, tmps := a.tmps, params, assign, body := code, defers := dd } pd).pending = pd.bind jumpOf := by cases pd <;> rfl
  obtain ⟨o3, hend⟩ : ∃ o, (Instr.endLoop l).run P w2 = .ok (pd.bind jumpOf) (w2.putObj l o) := ⟨_, by rw [← hpend]; exact run_endLoop (P := P) l2 (by cases pd <;> simp [recOf])⟩
  obtain ⟨hres, hinv⟩ := run_range (P := P) (l := l) (w := W1) hgv hok
  rw [← hro] at hent
  have hst := stepR_rangeFunc (P := P) (b := b) (a := a) (k := k) (cs := cs) (w := w) hent hres hinv
  have x3 : ∀ o, ExtL l W1 G ρ (w2.putObj l o) G2 ρ2 := fun o => ExtL.trans x2 ExtL.put
  refine ⟨{ a with defers := mark ++ a.defers }, w2.putObj l o3, G2, ρ2, ?_, rfl, s2.put g2 hnl2, (x3 _).ext hx1 hwl, ?_, fun h => by rw [hmk0 h, hdf h]; rfl⟩
  · refine .head hst (Steps.trans st2 (.head (step_leave_returned hleave) ?_))
    rw [finish_atR_inRangeFunc]
    exact .one (stepR_endRangeFunc hend)
  · exact ((hmarks G lo a.defers hs.g hlo hmk).extL (x3 _) hs1 (by rw [hl1]; intro h; cases h)).mono (by rw [World.putObj_size]; omega)
theorem sim_U {rp : RProg} (hm : P.follows .mixedOrders = true) (hrp : ∀ f rf, rp f = some rf → chkF P f rf = true) : ∀ m, SimU P rp m := by
  intro m
  induction m with
  | zero => intro rs c ks e σ r h; simp [runK] at h
  | succ m ih =>
    have hcall := call_sim hrp ih
    intro rs c ks e σ r h n rd k0 todo w G ρ a b cs lo hro hrk htodo hs he hn hlp hlo hmk hdf
    -- one step, then the rest
    have one : ∀ {c' : RCode} {ks' : List KI} {e' : Env} {todo' : List Item}, runK rp m rs c' ks' e' σ = some r → Todo P n k0 c' ks' todo' → RepE w G ρ e' a.tmps → Steps P (lone (b.atR a todo) cs w) (lone (b.atR a todo') cs w) →
        ∃ a' w' G' ρ', St w' G' ρ' r.2 ∧ Ext w G ρ w' G' ρ' ∧ Marks lo w' G' w'.heap.size a'.defers ∧ OutP P rs b cs (lone (b.atR a todo) cs w) k0 r a' w' G' ρ' := by
      intro c' ks' e' todo' h1 h2 h3 h4
      obtain ⟨a', w', G', ρ', q1, q2, q3, q4⟩ := ih rs c' ks' e' σ r h1 n rd k0 todo' w G ρ a b cs lo hro hrk h2 hs h3 hn hlp hlo hmk hdf
      exact ⟨a', w', G', ρ', q1, q2, q3, q4.pre h4⟩
    have leave : ∀ {k : List Item} {u : CV}, k0 = none → resultsV rs e σ = some u → r = (u, σ) → Steps P (lone (b.atR a todo) cs w) (lone { b.atR a k with mode := .returning } cs w) →
        ∃ a' w' G' ρ', St w' G' ρ' r.2 ∧ Ext w G ρ w' G' ρ' ∧ Marks lo w' G' w'.heap.size a'.defers ∧ OutP P rs b cs (lone (b.atR a todo) cs w) k0 r a' w' G' ρ' := by
      rintro k u rfl hu rfl hst
      exact ⟨a, w, G, ρ, hs, Ext.refl, hmk, k, e, hst, hu, he⟩
    have ends : ∀ {k : List Item}, k0 = some k → r = (.p (.bool true), σ) → Steps P (lone (b.atR a todo) cs w) (lone (b.atR a k) cs w) →
        ∃ a' w' G' ρ', St w' G' ρ' r.2 ∧ Ext w G ρ w' G' ρ' ∧ Marks lo w' G' w'.heap.size a'.defers ∧ OutP P rs b cs (lone (b.atR a todo) cs w) k0 r a' w' G' ρ' := by
      rintro k rfl rfl hst
      exact ⟨a, w, G, ρ, hs, Ext.refl, hmk, .inl ⟨rfl, hst⟩⟩
    have region : ∀ {L : List LOp} {e1 : Env} {σ1 : Store} {ρ0 : List Loc} {code : Code} {k : List Item}, todo = .code code :: k → KRel P n k0 ks k → runK rp m rs .skip ks e1 σ1 = some r → Ext w G ρ w G ρ0 →
        (∀ K : Exit → Act → World → Prop, (After (fun _ => False) w G ρ0 a e1 σ1 fun a w => K .normal a w) → code.wpIn (Fr rd) 0 P K a w) →
        ∃ a' w' G' ρ', St w' G' ρ' r.2 ∧ Ext w G ρ w' G' ρ' ∧ Marks lo w' G' w'.heap.size a'.defers ∧ OutP P rs b cs (lone (b.atR a todo) cs w) k0 r a' w' G' ρ' := by
      rintro L e1 σ1 ρ0 code k rfl hk h1 hx hwp
      have := hwp (fun ex a' w' => ex = .normal ∧ ∃ G' ρ', St w' G' ρ' σ1 ∧ Ext w G ρ0 w' G' ρ' ∧ RepE w' G' ρ' e1 a'.tmps ∧ a'.defers = a.defers ∧ a'.tmps.size = a.tmps.size) (by
        intro a' w' G' ρ' s1 x1 r1 d1 z1 _
        exact ⟨rfl, G', ρ', s1, x1, r1, d1, z1⟩) b k cs hro trivial fr_room
      obtain ⟨ex, a', w', ⟨rfl, G', ρ', s1, x1, r1, d1, z1⟩, harr⟩ := this
      have x2 := hx.trans x1
      obtain ⟨a2, w2, G2, ρ2, q1, q2, q3, q4⟩ := ih rs .skip ks e1 σ1 r h1 n rd k0 k w' G' ρ' a' b cs lo hro hrk (.inr ⟨rfl, hk⟩) s1 r1 (by omega)
        (fun l0 h0 => by
          obtain ⟨lp, hl⟩ := hlp l0 h0
          exact ⟨lp, (x2.below l0 (aget_lt hl) (loop_notLive hs hl)).trans hl⟩) (Nat.le_trans hlo x2.heap) (by rw [d1]; exact (hmk.ext x2 hs).mono x2.heap) (fun hh => by rw [d1]; exact hdf hh)
      exact ⟨a2, w2, G2, ρ2, q1, x2.trans q2, q3, q4.pre (fr_steps.1 harr)⟩
    rcases htodo with ⟨d, k, rfl, hch, hk⟩ | ⟨rfl, hk⟩
    · cases c with
      | fg keep c =>
        simp only [runK] at h
        simp only [chkC] at hch
        exact one h (.inl ⟨d, k, rfl, hch, hk⟩) (he.fgt keep) (.refl _ _)
      | skip =>
        have hs1 : ∀ k, step P (lone (b.atR a (.code d :: k)) cs w) = .next (lone (b.atR a k) cs w) := by
          cases d <;> simp only [chkC, Bool.false_eq_true] at hch
          · exact fun k => stepR_skip
          · exact fun k => stepR_label
        simp only [runK] at h
        cases hk with
        | nil h0 =>
          have hr0 : b.roundOf = none := by rw [h0] at hrk; rw [hro]; simpa using hrk
          simp only [Option.map_eq_some_iff] at h
          obtain ⟨u, hu, rfl⟩ := h
          exact leave h0 hu rfl (.head (hs1 _) (.one (stepR_end hr0)))
        | fin k h0 =>
          simp only [Option.some.injEq] at h
          exact ends h0 h.symm (.one (hs1 _))
        | code h1 hk => exact one h (.inl ⟨_, _, rfl, h1, hk⟩) he (.one (hs1 _))
        | blk hk => exact one h (.inr ⟨rfl, hk⟩) he (.head (hs1 _) (.one stepR_inBlock))
        | sc hk => exact one h (.inr ⟨rfl, hk⟩) he (.head (hs1 _) (.one stepR_inScope))
        | lp h1 hk => exact one h (.inl ⟨_, _, rfl, h1, .lp h1 hk⟩) he (.head (hs1 _) (.one stepR_inLoop))
      | reg L dr =>
        cases dr with
        | none =>
          cases d <;> try (simp only [chkC, Bool.false_eq_true] at hch; done)
          rename_i id ops draw
          cases draw <;> simp only [chkC, Bool.false_eq_true] at hch
          simp only [runK] at h
          split at h
          · rename_i e1 σ1 hro1
            refine region (L := L) rfl hk h Ext.refl fun K hK => ?_
            exact wpIn_region (sim_runO hcall hch (fun _ _ _ (h : False) => h.elim) hs he hn hro1 hK)
          · cases h
        | some hxp =>
          obtain ⟨hh, xp⟩ := hxp
          cases d <;> try (simp only [chkC, Bool.false_eq_true] at hch; done)
          rename_i id ops draw
          cases draw <;> simp only [chkC, Bool.false_eq_true, Bool.and_eq_true] at hch
          simp only [runK] at h
          split at h
          · rename_i e1 σ1 hro1
            split at h
            · rename_i hx
              have hloc : LocExt ρ (ρ ++ List.replicate hh .hole) := fun i l hl => .inl (by rw [List.getElem?_append_left (get_lt hl)]; exact hl)
              have hlive : ∀ k, Live (ρ ++ List.replicate hh .hole) k → Live ρ k := by
                rintro k ⟨i, o, t, s, hi⟩
                rcases Nat.lt_or_ge i ρ.length with h1 | h1
                · rw [List.getElem?_append_left h1] at hi; exact ⟨i, o, t, s, hi⟩
                · rw [List.getElem?_append_right h1, List.getElem?_replicate] at hi
                  split at hi <;> cases hi
              have hx0 : Ext w G ρ w G (ρ ++ List.replicate hh .hole) := ⟨⟨rfl, rfl, rfl⟩, hloc, Nat.le_refl _, fun _ x => x, fun _ x => .inl x, fun _ _ _ => rfl, fun k hk => .inl (hlive k hk)⟩
              refine region (L := L) rfl hk h hx0 fun K hK => ?_
              refine wpIn_region_any hm ?_
              have hwe : Ext w G (ρ ++ List.replicate hh .hole) { w with drawn := w.drawn + 1 } G (ρ ++ List.replicate hh .hole) := Ext.sameHeap rfl
              have hsh := hs.holes hh
              refine sim_draw (base := σ.length) hcall hch.1 hch.2 hx (hsh.sameHeap rfl) ((he.ext hx0 hs).ext hwe hsh) hn hro1 ?_
              intro a' w' G' ρ' s1 x1 r1 d1 z1 t1
              exact hK a' w' G' ρ' s1 (hwe.trans x1) r1 d1 z1 t1
            · cases h
          · cases h
      | seq x y =>
        cases d <;> simp only [chkC, Bool.false_eq_true, Bool.and_eq_true] at hch
        simp only [runK] at h
        exact one h (.inl ⟨_, _, rfl, hch.1, .code hch.2 hk⟩) he (.one stepR_seq)
      | cond q x y =>
        cases d <;> simp only [chkC, Bool.false_eq_true, Bool.and_eq_true] at hch
        obtain ⟨⟨h1, h2⟩, h3⟩ := hch
        simp only [runK] at h
        split at h
        · rename_i t ht
          have hq := okOpd_rep h1 he
          rw [ht] at hq
          have hb := rep_bool hq
          cases t with
          | true => exact one h (.inl ⟨_, _, rfl, h2, hk⟩) he (.one (stepR_cond hb))
          | false => exact one (by simpa using h) (.inl ⟨_, _, rfl, h3, hk⟩) he (.one (stepR_cond hb))
        · cases h
      | block id x =>
        cases d <;> simp only [chkC, Bool.false_eq_true, Bool.and_eq_true, beq_iff_eq] at hch
        obtain ⟨rfl, h1⟩ := hch
        simp only [runK] at h
        exact one h (.inl ⟨_, _, rfl, h1, .blk hk⟩) he (.one stepR_block)
      | scope x =>
        cases d <;> simp only [chkC, Bool.false_eq_true] at hch
        simp only [runK] at h
        exact one h (.inl ⟨_, _, rfl, hch, .sc hk⟩) he (.one stepR_scope)
      | loop x =>
        cases d <;> simp only [chkC, Bool.false_eq_true] at hch
        simp only [runK] at h
        exact one h (.inl ⟨_, _, rfl, hch, .lp hch hk⟩) he (.one stepR_loop)
      | exit id =>
        cases d <;> simp only [chkC, Bool.false_eq_true, beq_iff_eq] at hch
        subst hch
        simp only [runK] at h
        split at h
        · rename_i ks' hks
          obtain ⟨k', h1, h2⟩ := hk.exit hks
          exact one h (.inr ⟨rfl, h2⟩) he (.one (stepR_exit h1))
        · cases h
      | ret =>
        cases d <;> simp only [chkC, Bool.false_eq_true] at hch
        simp only [runK, Option.map_eq_some_iff] at h
        obtain ⟨u, hu, rfl⟩ := h
        have h0 : k0 = none := by cases k0 <;> simp at hch; rfl
        have hr0 : b.roundOf = none := by rw [h0] at hrk; rw [hro]; simpa using hrk
        exact leave h0 hu rfl (.one (stepR_ret hr0))
      | bret =>
        cases d <;> simp only [chkC, Bool.false_eq_true] at hch
        simp only [runK, Option.some.injEq] at h
        obtain ⟨kb, rfl⟩ := Option.isSome_iff_exists.1 hch
        subst h
        exact ⟨a, w, G, ρ, hs, Ext.refl, hmk, .inr (.inl ⟨rfl, k, .refl _ _⟩)⟩
      | bexit id =>
        cases d <;> simp only [chkC, Bool.false_eq_true, Bool.and_eq_true, beq_iff_eq] at hch
        obtain ⟨hb, rfl⟩ := hch
        obtain ⟨kb, rfl⟩ := Option.isSome_iff_exists.1 hb
        simp only [runK] at h
        split at h
        · cases h
        · rename_i hks
          simp only [Option.some.injEq] at h
          subst h
          exact ⟨a, w, G, ρ, hs, Ext.refl, hmk, .inr (.inr ⟨id, rfl, k, hk.noexit rfl hks, .refl _ _⟩)⟩
      | iter _ => simp [runK] at h
      | yld _ _ _ _ _ => simp [runK] at h
      | frzk t c =>
        simp only [chkC] at hch
        simp only [runK] at h
        have plain : runK rp m rs c ks e σ = some r → ∃ a' w' G' ρ', St w' G' ρ' r.2 ∧ Ext w G ρ w' G' ρ' ∧ Marks lo w' G' w'.heap.size a'.defers ∧ OutP P rs b cs (lone (b.atR a (.code d :: k)) cs w) k0 r a' w' G' ρ' :=
          fun h => one h (.inl ⟨d, k, rfl, hch, hk⟩) he (.refl _ _)
        split at h
        · rename_i bb _ _ _
          split at h
          · rename_i s2 cs2 hb2
            split at h
            · rename_i ps2 hf2
              split at h
              · rename_i hcond
                obtain ⟨rfl, hq, hself⟩ := hcond
                obtain ⟨G1, ρ1, s1, x1⟩ := hs.frzk hb2 hf2 hq (fun hm => by
                  have : (cs2.flatMap own0).elem bb = true := elem_mem.2 hm
                  rw [hself] at this; cases this)
                obtain ⟨a2, w2, G2, ρ2, q1, q2, q3, q4⟩ := ih rs c ks e _ r h n rd k0 (.code d :: k) w G1 ρ1 a b cs lo hro hrk (.inl ⟨d, k, rfl, hch, hk⟩) s1 (he.ext x1 hs) hn hlp hlo (hmk.ext x1 hs) hdf
                exact ⟨a2, w2, G2, ρ2, q1, x1.trans q2, q3, q4⟩
              · cases h
            · cases h
          · exact plain h
        · exact plain h
      | rng b' ps x asg body =>
        cases d <;> simp only [chkC, Bool.false_eq_true, Bool.and_eq_true, beq_iff_eq, List.all_eq_true, decide_eq_true_eq] at hch
        rename_i g params assign code
        obtain ⟨⟨⟨⟨⟨hb', hps⟩, hpn⟩, hox⟩, hasg⟩, hbody⟩ := hch
        -- what comes behind the range
        have go : ∀ {pd : Option CV} {σ' : Store} {c' : RCode} {d' : Option Code} {gf : Nat} {cap : List CV} {ic : RCode}, vl e x = .fn gf cap → rp gf = some ⟨.iter ic, []⟩ →
            runI (fun f args σ => match rp f with | some rf => runK rp m rf.res rf.code [] (args0 0 args) σ | none => none) (fun args σ => if args.length = ps.length then (match runA (fun f args σ => match rp f with | some rf => runK rp m rf.res rf.code [] (args0 0 args) σ | none => none) asg (stL ps args e) σ with | some (e, σ) => runK rp m [] body [.fin] e σ | none => none) else none) m none ic [] (args0 0 (.any :: cap)) σ = some (pd, σ') →
            runK rp m rs c' ks e σ' = some r → pd.bind jumpOf = d' → (∀ c1, d' = some c1 → chkC P n k0.isSome c' c1 = true) → (d' = none → c' = .skip) →
            ∃ a' w' G' ρ', St w' G' ρ' r.2 ∧ Ext w G ρ w' G' ρ' ∧ Marks lo w' G' w'.heap.size a'.defers ∧ OutP P rs b cs (lone (b.atR a (.code (.rangeFunc g params assign code) :: k)) cs w) k0 r a' w' G' ρ' := by
          intro pd σ' c' d' gf cap ic h1 h2 h3 h4 h5 h6 h7
          obtain ⟨a1, w1, G1, ρ1, st1, t1, s1, x1, m1, df1⟩ := sim_rng hrp ih (k := k) (cs := cs) hro hs he hn hlp hlo hmk hdf hps hpn hox hasg hbody h1 h2 h3
          rw [h5] at st1
          have htd : Todo P n k0 c' ks ((d'.map Item.code).toList ++ k) := by
            cases d' with
            | none => exact .inr ⟨h7 rfl, hk⟩
            | some c1 => exact .inl ⟨c1, k, rfl, h6 c1 rfl, hk⟩
          obtain ⟨a2, w2, G2, ρ2, q1, q2, q3, q4⟩ := ih rs c' ks e σ' r h4 n rd k0 _ w1 G1 ρ1 a1 b cs lo hro hrk htd s1 (by rw [t1]; exact he.ext x1 hs) (by rw [t1]; exact hn)
            (fun l0 h0 => by
              obtain ⟨lp, hl⟩ := hlp l0 h0
              exact ⟨lp, (x1.below l0 (aget_lt hl) (loop_notLive hs hl)).trans hl⟩) (Nat.le_trans hlo x1.heap) m1 df1
          exact ⟨a2, w2, G2, ρ2, q1, x1.trans q2, q3, q4.pre st1⟩
        simp only [runK] at h
        split at h
        · rename_i gf cap hx
          split at h
          · rename_i ic hrf
            split at h
            · rename_i σ' hI
              exact go hx hrf hI h rfl (fun c1 h => by cases h) fun _ => rfl
            · rename_i bb σ' hI
              refine go hx hrf hI h rfl (fun c1 h => ?_) fun h => by cases h
              cases h
              subst hb'
              cases k0 <;> rfl
            · rename_i kk z σ' hI
              split at h
              · exact go hx hrf hI h rfl (fun c1 h => by cases h; simp [chkC]) fun h => by cases h
              · split at h
                · rename_i hbt
                  refine go hx hrf hI h rfl (fun c1 h => ?_) fun h => by cases h
                  cases h
                  subst hb'
                  simp [chkC, hbt]
                · cases h
            · cases h
          · cases h
        · cases h
    · simp only [runK] at h
      cases hk with
      | nil h0 =>
        have hr0 : b.roundOf = none := by rw [h0] at hrk; rw [hro]; simpa using hrk
        simp only [Option.map_eq_some_iff] at h
        obtain ⟨u, hu, rfl⟩ := h
        exact leave h0 hu rfl (.one (stepR_end hr0))
      | fin k h0 =>
        simp only [Option.some.injEq] at h
        exact ends h0 h.symm (.refl _ _)
      | code h1 hk => exact one h (.inl ⟨_, _, rfl, h1, hk⟩) he (.refl _ _)
      | blk hk => exact one h (.inr ⟨rfl, hk⟩) he (.one stepR_inBlock)
      | sc hk => exact one h (.inr ⟨rfl, hk⟩) he (.one stepR_inScope)
      | lp h1 hk => exact one h (.inl ⟨_, _, rfl, h1, .lp h1 hk⟩) he (.one stepR_inLoop)
theorem callSim {rp : RProg} (hm : P.follows .mixedOrders = true) (hrp : ∀ f rf, rp f = some rf → chkF P f rf = true) (m : Nat) : CallSim P (runF rp m) :=
  call_sim hrp (sim_U hm hrp m)
end
end Go.Proofs.Ytdpdnplljonppaa.Vpi

namespace Go.Proofs.Ytdpdnplljonppaa.Vpi
open Go
set_option linter.unusedVariables false
set_option linter.unusedSimpArgs false
/-! ### more fuel answers the same -/
def CallerLe (r r' : Caller) : Prop := ∀ f args σ x, r f args σ = some x → r' f args σ = some x
theorem doCall_mono {r r' : Caller} (h : CallerLe r r') {k : CK} {f : Nat} {args : List CV} {σ : Store} {x : CV × Store} (hx : doCall r k f args σ = some x) : doCall r' k f args σ = some x := by
  cases k with
  | pu =>
    simp only [doCall] at hx ⊢
    split at hx
    · split at hx
      · rename_i hr
        simp only [h _ _ _ _ hr]
        exact hx
      · cases hx
    · cases hx
  | fz =>
    simp only [doCall] at hx ⊢
    split at hx
    · split at hx
      · rename_i hr
        simp only [h _ _ _ _ hr]
        exact hx
      · cases hx
    · cases hx
  | full =>
    simp only [doCall] at hx ⊢
    split at hx
    · rename_i hr
      simp only [h _ _ _ _ hr]
      exact hx
    · cases hx
  | keep => exact h _ _ _ _ hx
  | peek =>
    simp only [doCall] at hx ⊢
    split at hx
    · split at hx
      · rename_i hr
        simp only [h _ _ _ _ hr]
        exact hx
      · cases hx
    · cases hx
  | cell =>
    simp only [doCall] at hx ⊢
    split at hx
    · split at hx
      · split at hx
        · rename_i hr
          simp only [h _ _ _ _ hr]
          exact hx
        · cases hx
      · cases hx
    · split at hx
      · split at hx
        · split at hx
          · rename_i hr
            simp only [h _ _ _ _ hr]
            exact hx
          · cases hx
        · cases hx
      · cases hx
    · cases hx
theorem madeV_mono {r r' : Caller} (h : CallerLe r r') {f : Nat} {args : List CV} {x : Nat × List PV} (hx : madeV r f args = some x) : madeV r' f args = some x := by
  unfold madeV at hx ⊢
  split at hx
  · split at hx
    · rename_i hr
      simp only [h _ _ _ _ hr]
      exact hx
    · cases hx
  · cases hx
theorem ev1_mono {r r' : Caller} (h : CallerLe r r') {base : Nat} {sl : Option Nat} {op : ROp} {e : Env} {σ : Store} {x : CV × Store} (hx : ev1 r base sl op e σ = some x) : ev1 r' base sl op e σ = some x := by
  cases op <;> try exact hx
  · exact doCall_mono h hx
  · simp only [ev1] at hx ⊢
    split at hx
    · exact doCall_mono h hx
    · cases hx
  · simp only [ev1] at hx ⊢
    split at hx
    · rename_i hm
      rw [madeV_mono h hm]
      exact hx
    · cases hx
theorem evL_mono {r r' : Caller} (h : CallerLe r r') {base : Nat} {o : LOp} {e : Env} {σ : Store} {x : Env × Store} (hx : evL r base o e σ = some x) : evL r' base o e σ = some x := by
  unfold evL at hx ⊢
  split at hx
  · simp only [Option.map_eq_some_iff] at hx ⊢
    obtain ⟨a, ha, rfl⟩ := hx
    exact ⟨a, ev1_mono h ha, rfl⟩
  · split at hx
    · split at hx
      · rename_i hb
        simp only [Option.map_eq_some_iff] at hx
        obtain ⟨a, ha, rfl⟩ := hx
        simp only [hb, if_true, ev1_mono h ha]
        rfl
      · rename_i hb
        simp only [hb, if_false]
        exact hx
    · exact hx
    · cases hx
theorem runO_mono {r r' : Caller} (h : CallerLe r r') {base : Nat} : ∀ {l : List LOp} {e : Env} {σ : Store} {x : Env × Store}, runO r base l e σ = some x → runO r' base l e σ = some x
  | [], _, _, _, hx => hx
  | o :: l, e, σ, x, hx => by
    simp only [runO] at hx ⊢
    split at hx
    · rename_i ho
      simp only [evL_mono h ho]
      exact runO_mono h hx
    · cases hx
theorem runK_reg {rp : RProg} {n : Nat} {rs : List RRes} {ops : List LOp} {ks : List KI} {e : Env} {σ : Store} : runK rp (n + 1) rs (.reg ops none) ks e σ = (runO (runF rp n) σ.length ops e σ).bind fun p => runK rp n rs .skip ks p.1 p.2 := by
  rw [runK]
  show (match runO (runF rp n) σ.length ops e σ with | some (e, σ) => runK rp n rs .skip ks e σ | none => none) = _
  cases runO (runF rp n) σ.length ops e σ <;> rfl
theorem runK_draw {rp : RProg} {n : Nat} {rs : List RRes} {ops : List LOp} {h : Nat} {xp : List (Nat × Nat)} {ks : List KI} {e : Env} {σ : Store} : runK rp (n + 1) rs (.reg ops (some (h, xp))) ks e σ =
    (runO (runF rp n) σ.length ops e (σ ++ List.replicate h .hole)).bind fun p => if xp.all (apartAt p.1 ops) then runK rp n rs .skip ks p.1 p.2 else none := by
  rw [runK]
  show (match runO (runF rp n) σ.length ops e (σ ++ List.replicate h .hole) with | some (e, σ) => if xp.all (apartAt e ops) then runK rp n rs .skip ks e σ else none | none => none) = _
  cases runO (runF rp n) σ.length ops e (σ ++ List.replicate h .hole) <;> rfl
theorem runA_mono {r r' : Caller} (h : CallerLe r r') : ∀ {c : RCode} {e : Env} {σ : Store} {x : Env × Store}, runA r c e σ = some x → runA r' c e σ = some x
  | .skip, _, _, _, hx => hx
  | .reg _ none, _, _, _, hx => by simp only [runA] at hx ⊢; exact runO_mono h hx
  | .seq a b, _, _, _, hx => by
    simp only [runA] at hx ⊢
    split at hx
    · rename_i h1
      simp only [runA_mono h h1]
      exact runA_mono h hx
    · cases hx
  | .reg _ (some _), _, _, _, hx => by simp [runA] at hx
  | .cond _ _ _, _, _, _, hx => by simp [runA] at hx
  | .block _ _, _, _, _, hx => by simp [runA] at hx
  | .scope _, _, _, _, hx => by simp [runA] at hx
  | .loop _, _, _, _, hx => by simp [runA] at hx
  | .exit _, _, _, _, hx => by simp [runA] at hx
  | .ret, _, _, _, hx => by simp [runA] at hx
  | .fg _ _, _, _, _, hx => by simp [runA] at hx
  | .rng _ _ _ _ _, _, _, _, hx => by simp [runA] at hx
  | .iter _, _, _, _, hx => by simp [runA] at hx
  | .yld _ _ _ _ _, _, _, _, hx => by simp [runA] at hx
  | .bret, _, _, _, hx => by simp [runA] at hx
  | .bexit _, _, _, _, hx => by simp [runA] at hx
  | .frzk _ _, _, _, _, hx => by simp [runA] at hx
def YLe (Y Y' : List CV → Store → Option (CV × Store)) : Prop := ∀ args σ x, Y args σ = some x → Y' args σ = some x
theorem runI_mono {r r' : Caller} (h : CallerLe r r') {Y Y' : List CV → Store → Option (CV × Store)} (hY : YLe Y Y') : ∀ {n m : Nat} {pd : Option CV} {c : RCode} {ks : List KI} {e : Env} {σ : Store} {x : Option CV × Store}, n ≤ m → runI r Y n pd c ks e σ = some x → runI r' Y' m pd c ks e σ = some x
  | 0, _, _, _, _, _, _, _, _, hx => by simp [runI] at hx
  | n + 1, 0, _, _, _, _, _, _, hm, _ => by omega
  | n + 1, m + 1, pd, c, ks, e, σ, x, hm, hx => by
    have hm' : n ≤ m := by omega
    cases c with
    | skip =>
      cases ks with
      | nil => simpa only [runI] using hx
      | cons k ks =>
        cases k with
        | fin => simp [runI] at hx
        | code c => simp only [runI] at hx ⊢; exact runI_mono h hY hm' hx
        | blk i => simp only [runI] at hx ⊢; exact runI_mono h hY hm' hx
        | sc => simp only [runI] at hx ⊢; exact runI_mono h hY hm' hx
        | lp c => simp only [runI] at hx ⊢; exact runI_mono h hY hm' hx
    | reg ops dr =>
      cases dr with
      | none =>
        simp only [runI] at hx ⊢
        split at hx
        · rename_i h1
          simp only [runO_mono h h1]
          exact runI_mono h hY hm' hx
        · cases hx
      | some d => simp [runI] at hx
    | yld y pre d args post =>
      simp only [runI] at hx ⊢
      split at hx
      · cases hx
      · split at hx
        · cases hx
        · rename_i h1
          simp only [runO_mono h h1]
          split at hx
          · cases hx
          · rename_i h2
            simp only [hY _ _ _ h2]
            split at hx
            · cases hx
            · rename_i h3
              simp only [runO_mono h h3]
              exact runI_mono h hY hm' hx
    | seq a b => simp only [runI] at hx ⊢; exact runI_mono h hY hm' hx
    | cond q a b =>
      simp only [runI] at hx ⊢
      split at hx
      · split at hx
        · rename_i hb; rw [if_pos hb]; exact runI_mono h hY hm' hx
        · rename_i hb; rw [if_neg hb]; exact runI_mono h hY hm' hx
      · cases hx
    | block id c => simp only [runI] at hx ⊢; exact runI_mono h hY hm' hx
    | scope c => simp only [runI] at hx ⊢; exact runI_mono h hY hm' hx
    | loop c => simp only [runI] at hx ⊢; exact runI_mono h hY hm' hx
    | exit id =>
      simp only [runI] at hx ⊢
      split at hx
      · exact runI_mono h hY hm' hx
      · cases hx
    | ret => simpa only [runI] using hx
    | fg keep c => simp only [runI] at hx ⊢; exact runI_mono h hY hm' hx
    | rng _ _ _ _ _ => simp [runI] at hx
    | iter _ => simp [runI] at hx
    | bret => simp [runI] at hx
    | bexit _ => simp [runI] at hx
    | frzk _ _ => simp [runI] at hx
def runY (rp : RProg) (n : Nat) (ps : List Nat) (asg body : RCode) (e : Env) : List CV → Store → Option (CV × Store) := fun args σ =>
  if args.length = ps.length then (match runA (runF rp n) asg (stL ps args e) σ with | some (e, σ) => runK rp n [] body [.fin] e σ | none => none) else none
theorem runK_rng {rp : RProg} {n : Nat} {rs : List RRes} {b : Bool} {ps : List Nat} {x : Opd} {asg body : RCode} {ks : List KI} {e : Env} {σ : Store} : runK rp (n + 1) rs (.rng b ps x asg body) ks e σ =
    match vl e x with
    | .fn f cap =>
      match rp f with
      | some ⟨.iter c, []⟩ =>
        match runI (runF rp n) (runY rp n ps asg body e) n none c [] (args0 0 (.any :: cap)) σ with
        | some (none, σ) => runK rp n rs .skip ks e σ
        | some (some (.p (.bool _)), σ) => runK rp n rs (if b = true then .bret else .ret) ks e σ
        | some (some (.p (.int _ z)), σ) =>
          match exitK z.toNat ks with
          | some _ => runK rp n rs (.exit z.toNat) ks e σ
          | none => if b = true then runK rp n rs (.bexit z.toNat) ks e σ else none
        | _ => none
      | _ => none
    | _ => none := by
  rw [runK]
  rfl
theorem runF_mono {rp : RProg} {n : Nat} (ih : ∀ (rs : List RRes) (c : RCode) (ks : List KI) (e : Env) (σ : Store) (x : CV × Store), runK rp n rs c ks e σ = some x → runK rp (n + 1) rs c ks e σ = some x) : CallerLe (runF rp n) (runF rp (n + 1)) := by
  intro f args σ x hx
  unfold runF at hx ⊢
  split at hx
  · exact ih _ _ _ _ _ _ hx
  · cases hx
theorem runK_succ {rp : RProg} : ∀ (n : Nat) (rs : List RRes) (c : RCode) (ks : List KI) (e : Env) (σ : Store) (x : CV × Store), runK rp n rs c ks e σ = some x → runK rp (n + 1) rs c ks e σ = some x := by
  intro n
  induction n with
  | zero => intro rs c ks e σ x h; simp [runK] at h
  | succ n ih =>
    intro rs c ks e σ x h
    have hle := runF_mono (rp := rp) ih
    cases c with
    | skip =>
      cases ks with
      | nil => simpa only [runK] using h
      | cons k ks =>
        cases k with
        | fin => simpa only [runK] using h
        | code c => simp only [runK] at h ⊢; exact ih _ _ _ _ _ _ h
        | blk i => simp only [runK] at h ⊢; exact ih _ _ _ _ _ _ h
        | sc => simp only [runK] at h ⊢; exact ih _ _ _ _ _ _ h
        | lp c => simp only [runK] at h ⊢; exact ih _ _ _ _ _ _ h
    | reg ops dr =>
      cases dr with
      | none =>
        rw [runK_reg, Option.bind_eq_some_iff] at h
        obtain ⟨p, ho, h⟩ := h
        rw [runK_reg, runO_mono hle ho]
        exact ih _ _ _ _ _ _ h
      | some hx =>
        obtain ⟨hh, xp⟩ := hx
        rw [runK_draw, Option.bind_eq_some_iff] at h
        obtain ⟨p, ho, h⟩ := h
        rw [runK_draw, runO_mono hle ho]
        simp only [Option.bind_some]
        split at h
        · rename_i hp
          rw [if_pos hp]
          exact ih _ _ _ _ _ _ h
        · cases h
    | seq a b => simp only [runK] at h ⊢; exact ih _ _ _ _ _ _ h
    | cond c a b =>
      simp only [runK] at h ⊢
      split at h
      · split at h
        · rename_i hb; rw [if_pos hb]; exact ih _ _ _ _ _ _ h
        · rename_i hb; rw [if_neg hb]; exact ih _ _ _ _ _ _ h
      · cases h
    | block id c => simp only [runK] at h ⊢; exact ih _ _ _ _ _ _ h
    | scope c => simp only [runK] at h ⊢; exact ih _ _ _ _ _ _ h
    | loop c => simp only [runK] at h ⊢; exact ih _ _ _ _ _ _ h
    | exit id =>
      simp only [runK] at h ⊢
      split at h
      · exact ih _ _ _ _ _ _ h
      · cases h
    | ret => simpa only [runK] using h
    | fg keep c => simp only [runK] at h ⊢; exact ih _ _ _ _ _ _ h
    | bret => simpa only [runK] using h
    | bexit id => simpa only [runK] using h
    | iter c => simp [runK] at h
    | yld _ _ _ _ _ => simp [runK] at h
    | frzk t c =>
      simp only [runK] at h ⊢
      split at h
      · split at h
        · split at h
          · split at h
            · rename_i hcond
              try rw [if_pos hcond]
              exact ih _ _ _ _ _ _ h
            · cases h
          · cases h
        · exact ih _ _ _ _ _ _ h
      · exact ih _ _ _ _ _ _ h
    | rng b ps x asg body =>
      have hYle : YLe (runY rp n ps asg body e) (runY rp (n + 1) ps asg body e) := by
        intro args τ y hy
        unfold runY at hy ⊢
        split at hy
        · rename_i hl
          rw [if_pos hl]
          split at hy
          · rename_i h1
            simp only [runA_mono hle h1]
            exact ih _ _ _ _ _ _ hy
          · cases hy
        · cases hy
      rw [runK_rng] at h ⊢
      split at h
      · rename_i f cap hx
        try simp only [hx]
        split at h
        · rename_i c hrf
          try simp only [hrf]
          split at h
          · rename_i hI
            simp only [runI_mono hle hYle (Nat.le_succ n) hI]
            exact ih _ _ _ _ _ _ h
          · rename_i hI
            simp only [runI_mono hle hYle (Nat.le_succ n) hI]
            exact ih _ _ _ _ _ _ h
          · rename_i hI
            simp only [runI_mono hle hYle (Nat.le_succ n) hI]
            split at h
            · rename_i he
              try simp only [he]
              exact ih _ _ _ _ _ _ h
            · rename_i he
              try simp only [he]
              split at h
              · rename_i hb
                try rw [if_pos hb]
                exact ih _ _ _ _ _ _ h
              · cases h
          · cases h
        · cases h
      · cases h
theorem runK_le {rp : RProg} {n m : Nat} (h : n ≤ m) {rs : List RRes} {c : RCode} {ks : List KI} {e : Env} {σ : Store} {x : CV × Store} (hx : runK rp n rs c ks e σ = some x) : runK rp m rs c ks e σ = some x := by
  induction h with
  | refl => exact hx
  | step _ ih => exact runK_succ _ _ _ _ _ _ _ ih
theorem runF_le {rp : RProg} {n m : Nat} (h : n ≤ m) : CallerLe (runF rp n) (runF rp m) := by
  intro f args σ x hx
  unfold runF at hx ⊢
  split at hx
  · exact runK_le h hx
  · cases hx
/-! ### some fuel -/
def Ex (rp : RProg) (rs : List RRes) (c : RCode) (ks : List KI) (e : Env) (σ : Store) (Q : CV → Store → Prop) : Prop :=
  ∃ n v, runK rp n rs c ks e σ = some v ∧ Q v.1 v.2
def ExO (rp : RProg) (base : Nat) (ops : List LOp) (e : Env) (σ : Store) (K : Env → Store → Prop) : Prop :=
  ∃ n e' σ', runO (runF rp n) base ops e σ = some (e', σ') ∧ K e' σ'
def Ev (rp : RProg) (base : Nat) (sl : Option Nat) (op : ROp) (e : Env) (σ : Store) (K : CV → Store → Prop) : Prop :=
  ∃ n v σ', ev1 (runF rp n) base sl op e σ = some (v, σ') ∧ K v σ'
def Cl (rp : RProg) (k : CK) (f : Nat) (args : List CV) (σ : Store) (K : CV → Store → Prop) : Prop :=
  ∃ n v σ', doCall (runF rp n) k f args σ = some (v, σ') ∧ K v σ'
def Rn (rp : RProg) (f : Nat) (args : List CV) (σ : Store) (Q : CV → Store → Prop) : Prop :=
  ∃ n v, runF rp n f args σ = some v ∧ Q v.1 v.2
def Pu (rp : RProg) (f : Nat) (ps : List PV) (r : CV) : Prop := Rn rp f (ps.map .p) [] fun v τ => back 0 τ v = some r
section
variable {rp : RProg} {rs : List RRes} {ks : List KI} {e : Env} {σ : Store} {Q : CV → Store → Prop}
theorem ex_step {c c' : RCode} {ks' : List KI} {e' : Env} {σ' : Store} (h : ∀ n, runK rp (n + 1) rs c ks e σ = runK rp n rs c' ks' e' σ') : Ex rp rs c ks e σ Q = Ex rp rs c' ks' e' σ' Q := by
  refine propext ⟨?_, ?_⟩
  · rintro ⟨n, v, h1, h2⟩
    cases n with
    | zero => simp [runK] at h1
    | succ n => exact ⟨n, v, by rw [← h]; exact h1, h2⟩
  · rintro ⟨n, v, h1, h2⟩
    exact ⟨n + 1, v, by rw [h]; exact h1, h2⟩
theorem ex_done {c : RCode} {o : Option (CV × Store)} (h : ∀ n, runK rp (n + 1) rs c ks e σ = o) : Ex rp rs c ks e σ Q = (∃ v, o = some v ∧ Q v.1 v.2) := by
  refine propext ⟨?_, ?_⟩
  · rintro ⟨n, v, h1, h2⟩
    cases n with
    | zero => simp [runK] at h1
    | succ n => exact ⟨v, by rw [← h n]; exact h1, h2⟩
  · rintro ⟨v, h1, h2⟩
    exact ⟨1, v, by rw [h 0]; exact h1, h2⟩
theorem ex_seq {a b : RCode} : Ex rp rs (.seq a b) ks e σ Q = Ex rp rs a (.code b :: ks) e σ Q := ex_step fun n => by simp only [runK]
theorem ex_code {c : RCode} : Ex rp rs .skip (.code c :: ks) e σ Q = Ex rp rs c ks e σ Q := ex_step fun n => by simp only [runK]
theorem ex_blk {i : Nat} : Ex rp rs .skip (.blk i :: ks) e σ Q = Ex rp rs .skip ks e σ Q := ex_step fun n => by simp only [runK]
theorem ex_sc : Ex rp rs .skip (.sc :: ks) e σ Q = Ex rp rs .skip ks e σ Q := ex_step fun n => by simp only [runK]
theorem ex_scope {c : RCode} : Ex rp rs (.scope c) ks e σ Q = Ex rp rs c (.sc :: ks) e σ Q := ex_step fun n => by simp only [runK]
theorem ex_lp {c : RCode} : Ex rp rs .skip (.lp c :: ks) e σ Q = Ex rp rs c (.lp c :: ks) e σ Q := ex_step fun n => by simp only [runK]
theorem ex_block {i : Nat} {c : RCode} : Ex rp rs (.block i c) ks e σ Q = Ex rp rs c (.blk i :: ks) e σ Q := ex_step fun n => by simp only [runK]
theorem ex_loop {c : RCode} : Ex rp rs (.loop c) ks e σ Q = Ex rp rs c (.lp c :: ks) e σ Q := ex_step fun n => by simp only [runK]
theorem ex_fg {keep : List Nat} {c : RCode} : Ex rp rs (.fg keep c) ks e σ Q = Ex rp rs c ks (fgt keep e) σ Q := ex_step fun n => by simp only [runK]
theorem ex_cond {c : Opd} {a b : RCode} {t : Bool} (h : vl e c = .p (.bool t)) : Ex rp rs (.cond c a b) ks e σ Q = if t = true then Ex rp rs a ks e σ Q else Ex rp rs b ks e σ Q := by
  cases t
  · simp only [Bool.false_eq_true, if_false]; exact ex_step fun n => by simp [runK, h]
  · simp only [if_true]; exact ex_step fun n => by simp [runK, h]
theorem ex_exit {i : Nat} {ks' : List KI} (h : exitK i ks = some ks') : Ex rp rs (.exit i) ks e σ Q = Ex rp rs .skip ks' e σ Q := ex_step fun n => by simp only [runK, h]
theorem ex_exit_blk {i j : Nat} : Ex rp rs (.exit i) (.blk j :: ks) e σ Q = if j = i then Ex rp rs .skip ks e σ Q else Ex rp rs (.exit i) ks e σ Q := by
  by_cases h : j = i
  · rw [if_pos h]; exact ex_exit (by simp [exitK, h])
  · rw [if_neg h]
    refine propext ⟨?_, ?_⟩
    all_goals
      rintro ⟨n, v, h1, h2⟩
      cases n with
      | zero => simp [runK] at h1
      | succ n => exact ⟨n + 1, v, by simpa [runK, exitK, h] using h1, h2⟩
theorem ex_exit_code {i : Nat} {c : RCode} : Ex rp rs (.exit i) (.code c :: ks) e σ Q = Ex rp rs (.exit i) ks e σ Q := by
  refine propext ⟨?_, ?_⟩
  all_goals
    rintro ⟨n, v, h1, h2⟩
    cases n with
    | zero => simp [runK] at h1
    | succ n => exact ⟨n + 1, v, by simpa [runK, exitK] using h1, h2⟩
theorem ex_exit_sc {i : Nat} : Ex rp rs (.exit i) (.sc :: ks) e σ Q = Ex rp rs (.exit i) ks e σ Q := by
  refine propext ⟨?_, ?_⟩
  all_goals
    rintro ⟨n, v, h1, h2⟩
    cases n with
    | zero => simp [runK] at h1
    | succ n => exact ⟨n + 1, v, by simpa [runK, exitK] using h1, h2⟩
theorem ex_exit_lp {i : Nat} {c : RCode} : Ex rp rs (.exit i) (.lp c :: ks) e σ Q = Ex rp rs (.exit i) ks e σ Q := by
  refine propext ⟨?_, ?_⟩
  all_goals
    rintro ⟨n, v, h1, h2⟩
    cases n with
    | zero => simp [runK] at h1
    | succ n => exact ⟨n + 1, v, by simpa [runK, exitK] using h1, h2⟩
theorem ex_ret : Ex rp rs .ret ks e σ Q = ∃ v, resultsV rs e σ = some v ∧ Q v σ := by
  rw [ex_done (o := (resultsV rs e σ).map fun v => (v, σ)) fun n => by simp only [runK]]
  refine propext ⟨?_, ?_⟩
  · rintro ⟨v, h1, h2⟩
    obtain ⟨u, hu, rfl⟩ := Option.map_eq_some_iff.1 h1
    exact ⟨u, hu, h2⟩
  · rintro ⟨v, h1, h2⟩
    exact ⟨(v, σ), by rw [h1]; rfl, h2⟩
theorem ex_end : Ex rp rs .skip [] e σ Q = ∃ v, resultsV rs e σ = some v ∧ Q v σ := by
  rw [ex_done (o := (resultsV rs e σ).map fun v => (v, σ)) fun n => by simp only [runK]]
  refine propext ⟨?_, ?_⟩
  · rintro ⟨v, h1, h2⟩
    obtain ⟨u, hu, rfl⟩ := Option.map_eq_some_iff.1 h1
    exact ⟨u, hu, h2⟩
  · rintro ⟨v, h1, h2⟩
    exact ⟨(v, σ), by rw [h1]; rfl, h2⟩
theorem ex_reg {ops : List LOp} : Ex rp rs (.reg ops none) ks e σ Q = ExO rp σ.length ops e σ (fun e σ => Ex rp rs .skip ks e σ Q) := by
  refine propext ⟨?_, ?_⟩
  · rintro ⟨n, v, h1, h2⟩
    cases n with
    | zero => simp [runK] at h1
    | succ n =>
      rw [runK_reg, Option.bind_eq_some_iff] at h1
      obtain ⟨p, ho, h1⟩ := h1
      exact ⟨n, p.1, p.2, ho, n, v, h1, h2⟩
  · rintro ⟨n, e', σ', ho, m, v, h1, h2⟩
    refine ⟨max n m + 1, v, ?_, h2⟩
    rw [runK_reg, runO_mono (runF_le (rp := rp) (Nat.le_max_left n m)) ho]
    exact runK_le (Nat.le_max_right _ _) h1
theorem ex_draw {ops : List LOp} {h : Nat} {xp : List (Nat × Nat)} : Ex rp rs (.reg ops (some (h, xp))) ks e σ Q = ExO rp σ.length ops e (σ ++ List.replicate h .hole) (fun e σ => (xp.all (apartAt e ops)) = true ∧ Ex rp rs .skip ks e σ Q) := by
  refine propext ⟨?_, ?_⟩
  · rintro ⟨n, v, h1, h2⟩
    cases n with
    | zero => simp [runK] at h1
    | succ n =>
      rw [runK_draw, Option.bind_eq_some_iff] at h1
      obtain ⟨p, ho, h1⟩ := h1
      split at h1
      · rename_i hx
        exact ⟨n, p.1, p.2, ho, hx, n, v, h1, h2⟩
      · cases h1
  · rintro ⟨n, e', σ', ho, hx, m, v, h1, h2⟩
    refine ⟨max n m + 1, v, ?_, h2⟩
    rw [runK_draw, runO_mono (runF_le (rp := rp) (Nat.le_max_left n m)) ho]
    simp only [Option.bind_some, hx, if_true]
    exact runK_le (Nat.le_max_right _ _) h1
theorem exO_nil {base : Nat} {K : Env → Store → Prop} : ExO rp base [] e σ K = K e σ := by
  refine propext ⟨?_, fun h => ⟨0, e, σ, rfl, h⟩⟩
  rintro ⟨n, e', σ', h, hk⟩
  simp only [runO, Option.some.injEq, Prod.mk.injEq] at h
  obtain ⟨rfl, rfl⟩ := h
  exact hk
theorem exO_cons {base : Nat} {K : Env → Store → Prop} {d : Option Nat} {sl : Option Nat} {op : ROp} {l : List LOp} :
    ExO rp base (⟨d, none, sl, op⟩ :: l) e σ K = Ev rp base sl op e σ (fun v σ => ExO rp base l (sto d v e) σ K) := by
  refine propext ⟨?_, ?_⟩
  · rintro ⟨n, e', σ', h, hk⟩
    simp only [runO] at h
    split at h
    · rename_i e1 σ1 h1
      simp only [evL, Option.map_eq_some_iff, Prod.mk.injEq] at h1
      obtain ⟨⟨v, σ2⟩, h1, rfl, rfl⟩ := h1
      exact ⟨n, v, σ2, h1, n, e', σ', h, hk⟩
    · cases h
  · rintro ⟨n, v, σ1, h1, m, e', σ', h, hk⟩
    refine ⟨max n m, e', σ', ?_, hk⟩
    simp only [runO, evL, ev1_mono (runF_le (rp := rp) (Nat.le_max_left n m)) h1, Option.map_some]
    exact runO_mono (runF_le (rp := rp) (Nat.le_max_right n m)) h
theorem exO_guard {base : Nat} {K : Env → Store → Prop} {d : Option Nat} {t : Nat} {w b : Bool} {sl : Option Nat} {op : ROp} {l : List LOp} (hg : gt e t = .p (.bool b)) :
    ExO rp base (⟨d, some (t, w), sl, op⟩ :: l) e σ K = if b = w then Ev rp base sl op e σ (fun v σ => ExO rp base l (sto d v e) σ K) else ExO rp base l (sto d (.tup []) e) σ K := by
  by_cases hb : b = w
  · rw [if_pos hb, ← exO_cons]
    unfold ExO
    simp only [runO, evL, hg, hb, if_true]
  · rw [if_neg hb]
    unfold ExO
    simp only [runO, evL, hg, hb, if_false]
theorem exO_skip {base : Nat} {K : Env → Store → Prop} {d : Option Nat} {t : Nat} {w : Bool} {sl : Option Nat} {op : ROp} {l : List LOp} (hg : gt e t = .tup []) :
    ExO rp base (⟨d, some (t, w), sl, op⟩ :: l) e σ K = ExO rp base l (sto d (.tup []) e) σ K := by
  unfold ExO
  simp only [runO, evL, hg]
theorem ev_other {base : Nat} {sl : Option Nat} {op : ROp} {K : CV → Store → Prop} (h : ∀ r : Caller, ev1 r base sl op e σ = ev base sl op e σ) : Ev rp base sl op e σ K = ∃ v σ', ev base sl op e σ = some (v, σ') ∧ K v σ' := by
  unfold Ev
  simp only [h]
  refine propext ⟨?_, ?_⟩
  · rintro ⟨n, v, σ', h1, h2⟩; exact ⟨v, σ', h1, h2⟩
  · rintro ⟨v, σ', h1, h2⟩; exact ⟨0, v, σ', h1, h2⟩
theorem ev_call {base : Nat} {sl : Option Nat} {k : CK} {f : Nat} {args : List Opd} {K : CV → Store → Prop} : Ev rp base sl (.call k f args) e σ K = Cl rp k f (args.map (vl e)) σ K := rfl
theorem ev_callv {base : Nat} {sl : Option Nat} {k : CK} {x : Opd} {f : Nat} {cap : List CV} {args : List Opd} {K : CV → Store → Prop} (h : vl e x = .fn f cap) : Ev rp base sl (.callv k x args) e σ K = Cl rp k f (args.map (vl e) ++ cap) σ K := by
  unfold Ev Cl
  simp only [ev1, h]
theorem cl_pu {f : Nat} {args : List CV} {ps : List PV} {r : CV} {K : CV → Store → Prop} (ha : toPs args = some ps) (h : Pu rp f ps r) (hk : K r σ) : Cl rp .pu f args σ K := by
  obtain ⟨n, v, h1, h2⟩ := h
  refine ⟨n, r, σ, ?_, hk⟩
  simp only [doCall, ha, h1, h2, Option.map_some]
theorem cl_fz {f : Nat} {args : List CV} {ps : List PV} {r : CV} {K : CV → Store → Prop} (ha : frzs σ args = some ps) (h : Pu rp f ps r) (hk : K r (kills σ args)) : Cl rp .fz f args σ K := by
  obtain ⟨n, v, h1, h2⟩ := h
  refine ⟨n, r, kills σ args, ?_, hk⟩
  simp only [doCall, ha, h1, h2, Option.map_some]
theorem cl_keep {f : Nat} {args : List CV} {K : CV → Store → Prop} (h : Rn rp f args σ K) : Cl rp .keep f args σ K := by
  obtain ⟨n, v, h1, h2⟩ := h
  exact ⟨n, v.1, v.2, h1, h2⟩
theorem cl_full {f : Nat} {args : List CV} {K : CV → Store → Prop} (h : Rn rp f args σ fun v τ => ((τ.take σ.length).all (blkBelow σ.length)) = true ∧ ∃ r, back σ.length τ v = some r ∧ K r (τ.take σ.length)) : Cl rp .full f args σ K := by
  obtain ⟨n, v, h1, h2, r, h3, h4⟩ := h
  refine ⟨n, r, v.2.take σ.length, ?_, h4⟩
  simp only [doCall, h1, h2, h3, if_true, Option.map_some]
theorem rn_of {f : Nat} {rf : RFun} {args : List CV} (hf : rp f = some rf) : Rn rp f args σ Q = Ex rp rf.res rf.code [] (args0 0 args) σ Q := by
  unfold Rn Ex runF
  simp only [hf]
theorem pu_of {f : Nat} {rf : RFun} {ps : List PV} {r : CV} (hf : rp f = some rf) (h : Ex rp rf.res rf.code [] (args0 0 (ps.map .p)) [] fun v τ => back 0 τ v = some r) : Pu rp f ps r := by
  unfold Pu
  rw [rn_of hf]
  exact h
end
/-! ### words for the rewriting -/
theorem binV_add {k : IntKind} {a b : Int} : binV .add (.int k a) (.int k b) = some (.int k (k.wrap (a + b))) := by simp [binV]
theorem binV_sub {k : IntKind} {a b : Int} : binV .sub (.int k a) (.int k b) = some (.int k (k.wrap (a - b))) := by simp [binV]
theorem binV_mul {k : IntKind} {a b : Int} : binV .mul (.int k a) (.int k b) = some (.int k (k.wrap (a * b))) := by simp [binV]
theorem binV_quo {k : IntKind} {a b : Int} (h : b ≠ 0) : binV .quo (.int k a) (.int k b) = some (.int k (k.wrap (a.tdiv b))) := by simp [binV, h]
theorem binV_rem {k : IntKind} {a b : Int} (h : b ≠ 0) : binV .rem (.int k a) (.int k b) = some (.int k (a.tmod b)) := by simp [binV, h]
theorem binV_and {k : IntKind} {a b : Int} : binV .and (.int k a) (.int k b) = some (.int k (k.wrap (BitVec.ofInt k.bits a &&& BitVec.ofInt k.bits b).toNat)) := by simp [binV]
theorem binV_or {k : IntKind} {a b : Int} : binV .or (.int k a) (.int k b) = some (.int k (k.wrap (BitVec.ofInt k.bits a ||| BitVec.ofInt k.bits b).toNat)) := by simp [binV]
theorem binV_xor {k : IntKind} {a b : Int} : binV .xor (.int k a) (.int k b) = some (.int k (k.wrap (BitVec.ofInt k.bits a ^^^ BitVec.ofInt k.bits b).toNat)) := by simp [binV]
theorem binV_eql {k : IntKind} {a b : Int} : binV .eql (.int k a) (.int k b) = some (.bool (a == b)) := by simp [binV]
theorem binV_neq {k : IntKind} {a b : Int} : binV .neq (.int k a) (.int k b) = some (.bool (a != b)) := by simp [binV]
theorem binV_lss {k : IntKind} {a b : Int} : binV .lss (.int k a) (.int k b) = some (.bool (decide (a < b))) := by simp [binV]
theorem binV_leq {k : IntKind} {a b : Int} : binV .leq (.int k a) (.int k b) = some (.bool (decide (a ≤ b))) := by simp [binV]
theorem binV_gtr {k : IntKind} {a b : Int} : binV .gtr (.int k a) (.int k b) = some (.bool (decide (a > b))) := by simp [binV]
theorem binV_geq {k : IntKind} {a b : Int} : binV .geq (.int k a) (.int k b) = some (.bool (decide (a ≥ b))) := by simp [binV]
theorem binV_shl {k k' : IntKind} {a b : Int} (h : 0 ≤ b) : binV .shl (.int k a) (.int k' b) = some (.int k (k.wrap (a * 2 ^ min b.toNat k.bits))) := by
  simp only [binV]; rw [if_neg (by omega)]
theorem binV_shr {k k' : IntKind} {a b : Int} (h : 0 ≤ b) : binV .shr (.int k a) (.int k' b) = some (.int k (a.fdiv (2 ^ min b.toNat k.bits))) := by
  simp only [binV]; rw [if_neg (by omega)]
theorem ex_some {α β : Type} {a : α} {b : β} {K : α → β → Prop} : (∃ v s, some (a, b) = some (v, s) ∧ K v s) = K a b := by
  refine propext ⟨?_, fun h => ⟨a, b, rfl, h⟩⟩
  rintro ⟨v, s, h, hk⟩
  cases h
  exact hk
end Go.Proofs.Ytdpdnplljonppaa.Vpi

namespace Go.Proofs.Ytdpdnplljonppaa.Vpi
open Go
set_option linter.unusedVariables false
set_option linter.unusedSimpArgs false
abbrev Dr := Option (List (Nat × Nat) × List LOp)
def ExR (rp : RProg) (rs : List RRes) (base : Nat) (l : List LOp) (dr : Dr) (ks : List KI) (e : Env) (σ : Store) (Q : CV → Store → Prop) : Prop :=
  ExO rp base l e σ fun e σ => (match dr with | none => True | some (xp, ops) => xp.all (apartAt e ops) = true) ∧ Ex rp rs .skip ks e σ Q
def KE (rp : RProg) (rs : List RRes) (base : Nat) (d : Option Nat) (l : List LOp) (dr : Dr) (ks : List KI) (Q : CV → Store → Prop) (o : Option (CV × Store)) (e : Env) : Prop :=
  match o with
  | some (v, σ) => ExR rp rs base l dr ks (sto d v e) σ Q
  | none => False
def KC (rp : RProg) (rs : List RRes) (base : Nat) (k : CK) (f : Nat) (args : List CV) (d : Option Nat) (l : List LOp) (dr : Dr) (ks : List KI) (e : Env) (σ : Store) (Q : CV → Store → Prop) : Prop :=
  Cl rp k f args σ fun v σ => ExR rp rs base l dr ks (sto d v e) σ Q
def KV (rp : RProg) (rs : List RRes) (base : Nat) (k : CK) (x : CV) (args : List CV) (d : Option Nat) (l : List LOp) (dr : Dr) (ks : List KI) (e : Env) (σ : Store) (Q : CV → Store → Prop) : Prop :=
  match x with
  | .fn f cap => KC rp rs base k f (args ++ cap) d l dr ks e σ Q
  | _ => False
def KG (rp : RProg) (rs : List RRes) (base : Nat) (c : CV) (w : Bool) (o : LOp) (l : List LOp) (dr : Dr) (ks : List KI) (e : Env) (σ : Store) (Q : CV → Store → Prop) : Prop :=
  match c with
  | .p (.bool b) => if b = w then ExR rp rs base (⟨o.d, none, o.sl, o.op⟩ :: l) dr ks e σ Q else ExR rp rs base l dr ks (sto o.d (.tup []) e) σ Q
  | .tup [] => ExR rp rs base l dr ks (sto o.d (.tup []) e) σ Q
  | _ => False
def KI' (rp : RProg) (rs : List RRes) (c : CV) (a b : RCode) (ks : List KI) (e : Env) (σ : Store) (Q : CV → Store → Prop) : Prop :=
  match c with
  | .p (.bool t) => if t = true then Ex rp rs a ks e σ Q else Ex rp rs b ks e σ Q
  | _ => False
def KR (o : Option CV) (σ : Store) (Q : CV → Store → Prop) : Prop :=
  match o with
  | some v => Q v σ
  | none => False
section
variable {rp : RProg} {rs : List RRes} {ks : List KI} {base : Nat} {sl : Option Nat} {e : Env} {σ : Store} {Q : CV → Store → Prop} {d : Option Nat} {l : List LOp} {dr : Dr}
theorem x_if {c : Opd} {a b : RCode} : Ex rp rs (.cond c a b) ks e σ Q = KI' rp rs (vl e c) a b ks e σ Q := by
  unfold KI'
  split
  · rename_i t h; exact ex_cond h
  · rename_i h
    refine propext ⟨?_, fun h => h.elim⟩
    rintro ⟨n, v, h1, _⟩
    cases n with
    | zero => simp [runK] at h1
    | succ n =>
      rw [runK] at h1
      split at h1
      · rename_i t ht; exact (h t ht).elim
      · cases h1
theorem x_if_b {t : Bool} {a b : RCode} : KI' rp rs (.p (.bool t)) a b ks e σ Q = if t = true then Ex rp rs a ks e σ Q else Ex rp rs b ks e σ Q := rfl
theorem x_reg {ops : List LOp} : Ex rp rs (.reg ops none) ks e σ Q = ExR rp rs σ.length ops none ks e σ Q := by
  rw [ex_reg]; unfold ExR; simp only [true_and]
theorem x_draw {ops : List LOp} {h : Nat} {xp : List (Nat × Nat)} : Ex rp rs (.reg ops (some (h, xp))) ks e σ Q = ExR rp rs σ.length ops (some (xp, ops)) ks e (σ ++ List.replicate h .hole) Q := by
  rw [ex_draw]; rfl
theorem r_nil : ExR rp rs base [] none ks e σ Q = Ex rp rs .skip ks e σ Q := by
  unfold ExR; rw [exO_nil]; simp only [true_and]
theorem r_nild {ops : List LOp} : ExR rp rs base [] (some ([], ops)) ks e σ Q = Ex rp rs .skip ks e σ Q := by
  unfold ExR; rw [exO_nil]; simp only [List.all_nil, true_and]
theorem r_nilx {ops : List LOp} {x : Nat × Nat} {xp : List (Nat × Nat)} : ExR rp rs base [] (some (x :: xp, ops)) ks e σ Q = ((x :: xp).all (apartAt e ops) = true ∧ Ex rp rs .skip ks e σ Q) := by
  unfold ExR; rw [exO_nil]
theorem r_of {op : ROp} (h : ∀ r : Caller, ev1 r base sl op e σ = ev base sl op e σ) : ExR rp rs base (⟨d, none, sl, op⟩ :: l) dr ks e σ Q = KE rp rs base d l dr ks Q (ev base sl op e σ) e := by
  unfold ExR KE
  rw [exO_cons, ev_other h]
  generalize ev base sl op e σ = o
  cases o with
  | some vs => exact ex_some
  | none =>
    refine propext ⟨?_, fun h => h.elim⟩
    rintro ⟨_, _, h, _⟩
    cases h
theorem ke_some {v : CV} {σ : Store} : KE rp rs base d l dr ks Q (some (v, σ)) e = ExR rp rs base l dr ks (sto d v e) σ Q := rfl
theorem ke_if {c : Prop} [Decidable c] {o : Option (CV × Store)} : KE rp rs base d l dr ks Q (if c then o else none) e = (c ∧ KE rp rs base d l dr ks Q o e) := by
  by_cases h : c
  · rw [if_pos h]; simp only [h, true_and]
  · rw [if_neg h]; exact propext ⟨fun h => h.elim, fun h' => (h h'.1).elim⟩
theorem r_mv {x : Opd} : ExR rp rs base (⟨d, none, sl, .mv x⟩ :: l) dr ks e σ Q = ExR rp rs base l dr ks (sto d (vl e x) e) σ Q := by rw [r_of fun _ => rfl]; rfl
theorem r_mkfn {f : Nat} {cap : List Opd} : ExR rp rs base (⟨d, none, sl, .mkfn f cap⟩ :: l) dr ks e σ Q = ExR rp rs base l dr ks (sto d (.fn f (cap.map (vl e))) e) σ Q := by rw [r_of fun _ => rfl]; rfl
theorem r_pick {a b c : Opd} : ExR rp rs base (⟨d, none, sl, .pick a b c⟩ :: l) dr ks e σ Q = KE rp rs base d l dr ks Q (ev base sl (.pick a b c) e σ) e := r_of fun _ => rfl
theorem r_alloc {a : List CV} : ExR rp rs base (⟨d, none, sl, .alloc a⟩ :: l) dr ks e σ Q = KE rp rs base d l dr ks Q (ev base sl (.alloc a) e σ) e := r_of fun _ => rfl
theorem r_box {a : Opd} : ExR rp rs base (⟨d, none, sl, .box a⟩ :: l) dr ks e σ Q = KE rp rs base d l dr ks Q (ev base sl (.box a) e σ) e := r_of fun _ => rfl
theorem r_build {a : List CV} {b : List (Nat × Nat × Opd)} : ExR rp rs base (⟨d, none, sl, .build a b⟩ :: l) dr ks e σ Q = KE rp rs base d l dr ks Q (ev base sl (.build a b) e σ) e := r_of fun _ => rfl
theorem r_bslice {a : Nat} {b : List Opd} : ExR rp rs base (⟨d, none, sl, .bslice a b⟩ :: l) dr ks e σ Q = KE rp rs base d l dr ks Q (ev base sl (.bslice a b) e σ) e := r_of fun _ => rfl
theorem cellL_own1 {b o n : Nat} : cellL [.own b o n] = some [.own b o n] := rfl
theorem r_bslk {b : List Opd} : ExR rp rs base (⟨d, none, sl, .bslk b⟩ :: l) dr ks e σ Q = KE rp rs base d l dr ks Q (ev base sl (.bslk b) e σ) e := r_of fun _ => rfl
theorem r_appk {a : Nat} {x y : Opd} : ExR rp rs base (⟨d, none, sl, .appk a x y⟩ :: l) dr ks e σ Q = KE rp rs base d l dr ks Q (ev base sl (.appk a x y) e σ) e := r_of fun _ => rfl
theorem r_appz {a b : Nat} {z : PV} {x y : Opd} : ExR rp rs base (⟨d, none, sl, .appz a b z x y⟩ :: l) dr ks e σ Q = KE rp rs base d l dr ks Q (ev base sl (.appz a b z x y) e σ) e := r_of fun _ => rfl
theorem r_load {a : Bool} {b : Nat} {c : Opd} : ExR rp rs base (⟨d, none, sl, .load a b c⟩ :: l) dr ks e σ Q = KE rp rs base d l dr ks Q (ev base sl (.load a b c) e σ) e := r_of fun _ => rfl
theorem r_store {a : Nat} {b c : Opd} : ExR rp rs base (⟨d, none, sl, .store a b c⟩ :: l) dr ks e σ Q = KE rp rs base d l dr ks Q (ev base sl (.store a b c) e σ) e := r_of fun _ => rfl
theorem r_nilc {a : Opd} : ExR rp rs base (⟨d, none, sl, .nilc a⟩ :: l) dr ks e σ Q = KE rp rs base d l dr ks Q (ev base sl (.nilc a) e σ) e := r_of fun _ => rfl
theorem r_bin {a : BinOp} {b c : Opd} : ExR rp rs base (⟨d, none, sl, .bin a b c⟩ :: l) dr ks e σ Q = KE rp rs base d l dr ks Q (ev base sl (.bin a b c) e σ) e := r_of fun _ => rfl
theorem r_beq {a : Bool} {b c : Opd} : ExR rp rs base (⟨d, none, sl, .beq a b c⟩ :: l) dr ks e σ Q = KE rp rs base d l dr ks Q (ev base sl (.beq a b c) e σ) e := r_of fun _ => rfl
theorem r_un {a : UnOp} {b : Opd} : ExR rp rs base (⟨d, none, sl, .un a b⟩ :: l) dr ks e σ Q = KE rp rs base d l dr ks Q (ev base sl (.un a b) e σ) e := r_of fun _ => rfl
theorem r_conv {a : IntKind} {b : Opd} : ExR rp rs base (⟨d, none, sl, .conv a b⟩ :: l) dr ks e σ Q = KE rp rs base d l dr ks Q (ev base sl (.conv a b) e σ) e := r_of fun _ => rfl
theorem r_mks {a : Bool} {b c : Nat} {z : PV} {x y : Opd} : ExR rp rs base (⟨d, none, sl, .mks a b c z x y⟩ :: l) dr ks e σ Q = KE rp rs base d l dr ks Q (ev base sl (.mks a b c z x y) e σ) e := r_of fun _ => rfl
theorem r_slice {a : Nat} {b : Opd} {x y z : Option Opd} : ExR rp rs base (⟨d, none, sl, .slice a b x y z⟩ :: l) dr ks e σ Q = KE rp rs base d l dr ks Q (ev base sl (.slice a b x y z) e σ) e := r_of fun _ => rfl
theorem r_fieldA {a : Nat} {b : Opd} : ExR rp rs base (⟨d, none, sl, .fieldA a b⟩ :: l) dr ks e σ Q = KE rp rs base d l dr ks Q (ev base sl (.fieldA a b) e σ) e := r_of fun _ => rfl
theorem r_field {x : Bool} {a b : Nat} {c : Opd} : ExR rp rs base (⟨d, none, sl, .field x a b c⟩ :: l) dr ks e σ Q = KE rp rs base d l dr ks Q (ev base sl (.field x a b c) e σ) e := r_of fun _ => rfl
theorem r_indexA {a : Nat} {b c : Opd} : ExR rp rs base (⟨d, none, sl, .indexA a b c⟩ :: l) dr ks e σ Q = KE rp rs base d l dr ks Q (ev base sl (.indexA a b c) e σ) e := r_of fun _ => rfl
theorem r_extract {a : Opd} {b : Nat} : ExR rp rs base (⟨d, none, sl, .extract a b⟩ :: l) dr ks e σ Q = KE rp rs base d l dr ks Q (ev base sl (.extract a b) e σ) e := r_of fun _ => rfl
theorem r_idx {a : List Nat} {b : Opd} : ExR rp rs base (⟨d, none, sl, .idx a b⟩ :: l) dr ks e σ Q = KE rp rs base d l dr ks Q (ev base sl (.idx a b) e σ) e := r_of fun _ => rfl
theorem r_len {a : Opd} : ExR rp rs base (⟨d, none, sl, .len a⟩ :: l) dr ks e σ Q = KE rp rs base d l dr ks Q (ev base sl (.len a) e σ) e := r_of fun _ => rfl
theorem r_append {a b : Nat} {x y : Opd} : ExR rp rs base (⟨d, none, sl, .append a b x y⟩ :: l) dr ks e σ Q = KE rp rs base d l dr ks Q (ev base sl (.append a b x y) e σ) e := r_of fun _ => rfl
theorem r_copy {a : Nat} {x y : Opd} : ExR rp rs base (⟨d, none, sl, .copy a x y⟩ :: l) dr ks e σ Q = KE rp rs base d l dr ks Q (ev base sl (.copy a x y) e σ) e := r_of fun _ => rfl
theorem r_mx {x y : Opd} : ExR rp rs base (⟨d, none, sl, .mx x y⟩ :: l) dr ks e σ Q = KE rp rs base d l dr ks Q (ev base sl (.mx x y) e σ) e := r_of fun _ => rfl
theorem r_mn {x y : Opd} : ExR rp rs base (⟨d, none, sl, .mn x y⟩ :: l) dr ks e σ Q = KE rp rs base d l dr ks Q (ev base sl (.mn x y) e σ) e := r_of fun _ => rfl
theorem r_call {k : CK} {f : Nat} {args : List Opd} : ExR rp rs base (⟨d, none, sl, .call k f args⟩ :: l) dr ks e σ Q = KC rp rs base k f (args.map (vl e)) d l dr ks e σ Q := by
  unfold ExR KC; rw [exO_cons, ev_call]; rfl
theorem r_callv {k : CK} {x : Opd} {args : List Opd} : ExR rp rs base (⟨d, none, sl, .callv k x args⟩ :: l) dr ks e σ Q = KV rp rs base k (vl e x) (args.map (vl e)) d l dr ks e σ Q := by
  unfold ExR KV
  rw [exO_cons]
  generalize hx : vl e x = y
  cases y with
  | fn f cap => rw [ev_callv hx]; rfl
  | _ =>
    refine propext ⟨?_, fun h => h.elim⟩
    rintro ⟨n, v, σ', h1, _⟩
    rw [ev1, hx] at h1
    cases h1
theorem kv_fn {k : CK} {f : Nat} {cap args : List CV} : KV rp rs base k (.fn f cap) args d l dr ks e σ Q = KC rp rs base k f (args ++ cap) d l dr ks e σ Q := rfl
theorem r_g {t : Nat} {w : Bool} {op : ROp} : ExR rp rs base (⟨d, some (t, w), sl, op⟩ :: l) dr ks e σ Q = KG rp rs base (gt e t) w ⟨d, none, sl, op⟩ l dr ks e σ Q := by
  unfold KG
  generalize hx : gt e t = x
  have no : (∀ b, x ≠ .p (.bool b)) → x ≠ .tup [] → ExR rp rs base (⟨d, some (t, w), sl, op⟩ :: l) dr ks e σ Q = False := by
    intro h h'
    refine propext ⟨?_, fun h => h.elim⟩
    rintro ⟨n, e', σ', h1, _⟩
    rw [runO] at h1
    split at h1
    · rename_i h2
      rw [evL] at h2
      simp only [hx] at h2
      cases x with
      | p v =>
        cases v with
        | bool b => exact h b rfl
        | _ => cases h2
      | tup cs =>
        cases cs with
        | nil => exact h' rfl
        | cons => cases h2
      | _ => cases h2
    · cases h1
  cases x with
  | p v =>
    cases v with
    | bool b => unfold ExR; rw [exO_guard hx, exO_cons]
    | _ => exact no (by simp) (by simp)
  | tup cs =>
    cases cs with
    | nil => unfold ExR; rw [exO_skip hx]
    | cons => exact no (by simp) (by simp)
  | _ => exact no (by simp) (by simp)
theorem kg_b {b w : Bool} {op : ROp} {g : Option (Nat × Bool)} : KG rp rs base (.p (.bool b)) w ⟨d, g, sl, op⟩ l dr ks e σ Q = if b = w then ExR rp rs base (⟨d, none, sl, op⟩ :: l) dr ks e σ Q else ExR rp rs base l dr ks (sto d (.tup []) e) σ Q := rfl
theorem kg_t {w : Bool} {op : ROp} {g : Option (Nat × Bool)} : KG rp rs base (.tup []) w ⟨d, g, sl, op⟩ l dr ks e σ Q = ExR rp rs base l dr ks (sto d (.tup []) e) σ Q := rfl
theorem push_none {b : Blk} : push base none σ b = some (σ.length, σ ++ [b]) := rfl
theorem kr_of {o : Option CV} : (∃ v, o = some v ∧ Q v σ) = KR o σ Q := by
  cases o with
  | none =>
    refine propext ⟨?_, fun h => h.elim⟩
    rintro ⟨_, h, _⟩
    cases h
  | some v => exact propext ⟨fun ⟨_, h, hk⟩ => by cases h; exact hk, fun h => ⟨v, rfl, h⟩⟩
theorem x_ret : Ex rp rs .ret ks e σ Q = KR (resultsV rs e σ) σ Q := by rw [ex_ret, kr_of]
theorem x_end : Ex rp rs .skip [] e σ Q = KR (resultsV rs e σ) σ Q := by rw [ex_end, kr_of]
theorem kr_some {v : CV} : KR (some v) σ Q = Q v σ := rfl
theorem runF_det {n m f : Nat} {args : List CV} {x y : CV × Store} (hx : runF rp n f args σ = some x) (hy : runF rp m f args σ = some y) : x = y := by
  have h1 := runF_le (rp := rp) (Nat.le_max_left n m) _ _ _ _ hx
  have h2 := runF_le (rp := rp) (Nat.le_max_right n m) _ _ _ _ hy
  rw [h1] at h2
  cases h2
  rfl
theorem kc_pu {f : Nat} {args : List CV} {ps : List PV} {r : CV} (h : Pu rp f ps r) (ha : toPs args = some ps) : KC rp rs base .pu f args d l dr ks e σ Q = ExR rp rs base l dr ks (sto d r e) σ Q := by
  unfold KC
  refine propext ⟨?_, fun hk => cl_pu ha h hk⟩
  rintro ⟨n, v, σ', h1, hk⟩
  obtain ⟨m, u, h2, h3⟩ := h
  simp only [doCall, ha] at h1
  split at h1
  · rename_i r' τ hr
    have := runF_det hr h2
    subst this
    simp only [h3, Option.map_some, Option.some.injEq, Prod.mk.injEq] at h1
    obtain ⟨rfl, rfl⟩ := h1
    exact hk
  · cases h1
theorem kp1 {f : Nat} {a0 : PV} {r : CV} (h : Pu rp f [a0] r) : KC rp rs base .pu f [.p a0] d l dr ks e σ Q = ExR rp rs base l dr ks (sto d r e) σ Q := kc_pu h rfl
theorem kp2 {f : Nat} {a0 a1 : PV} {r : CV} (h : Pu rp f [a0, a1] r) : KC rp rs base .pu f [.p a0, .p a1] d l dr ks e σ Q = ExR rp rs base l dr ks (sto d r e) σ Q := kc_pu h rfl
theorem kp3 {f : Nat} {a0 a1 a2 : PV} {r : CV} (h : Pu rp f [a0, a1, a2] r) : KC rp rs base .pu f [.p a0, .p a1, .p a2] d l dr ks e σ Q = ExR rp rs base l dr ks (sto d r e) σ Q := kc_pu h rfl
theorem kp4 {f : Nat} {a0 a1 a2 a3 : PV} {r : CV} (h : Pu rp f [a0, a1, a2, a3] r) : KC rp rs base .pu f [.p a0, .p a1, .p a2, .p a3] d l dr ks e σ Q = ExR rp rs base l dr ks (sto d r e) σ Q := kc_pu h rfl
theorem kc_fz {f : Nat} {args : List CV} {ps : List PV} {r : CV} (h : Pu rp f ps r) (ha : frzs σ args = some ps) : KC rp rs base .fz f args d l dr ks e σ Q = ExR rp rs base l dr ks (sto d r e) (kills σ args) Q := by
  unfold KC
  refine propext ⟨?_, fun hk => cl_fz ha h hk⟩
  rintro ⟨n, v, σ', h1, hk⟩
  obtain ⟨m, u, h2, h3⟩ := h
  simp only [doCall, ha] at h1
  split at h1
  · rename_i r' τ hr
    have := runF_det hr h2
    subst this
    simp only [h3, Option.map_some, Option.some.injEq, Prod.mk.injEq] at h1
    obtain ⟨rfl, rfl⟩ := h1
    exact hk
  · cases h1
theorem kc_keep {f : Nat} {args : List CV} {r : CV} {τ : Store} (h : Rn rp f args σ fun v σ' => v = r ∧ σ' = τ) : KC rp rs base .keep f args d l dr ks e σ Q = ExR rp rs base l dr ks (sto d r e) τ Q := by
  unfold KC
  obtain ⟨m, u, h2, rfl, rfl⟩ := h
  refine propext ⟨?_, fun hk => ⟨m, u.1, u.2, h2, hk⟩⟩
  rintro ⟨n, v, σ', h1, hk⟩
  have := runF_det h1 h2
  subst this
  exact hk
theorem kc_full {f : Nat} {args : List CV} {r : CV} {τ : Store} (h : Rn rp f args σ fun v σ' => σ'.take σ.length = τ ∧ τ.all (blkBelow σ.length) = true ∧ back σ.length σ' v = some r) :
    KC rp rs base .full f args d l dr ks e σ Q = ExR rp rs base l dr ks (sto d r e) τ Q := by
  unfold KC
  obtain ⟨m, u, h2, rfl, h4, h5⟩ := h
  refine propext ⟨?_, fun hk => ⟨m, r, u.2.take σ.length, by simp only [doCall, h2, h4, h5, if_true, Option.map_some], hk⟩⟩
  rintro ⟨n, v, σ', h1, hk⟩
  simp only [doCall] at h1
  split at h1
  · rename_i r' τ' hr
    have := runF_det hr h2
    subst this
    simp only [h4, h5, if_true, Option.map_some, Option.some.injEq, Prod.mk.injEq] at h1
    obtain ⟨rfl, rfl⟩ := h1
    exact hk
  · cases h1
end
section
variable {e : Env} {σ : Store}
theorem res_t {n : Nat} : resultsV [.t n] e σ = some (gt e n) := rfl
theorem res_tt {n m : Nat} : resultsV [.t n, .t m] e σ = some (.tup [gt e n, gt e m]) := rfl
theorem res_ttt {n m k : Nat} : resultsV [.t n, .t m, .t k] e σ = some (.tup [gt e n, gt e m, gt e k]) := rfl
theorem res_n : resultsV [] e σ = some (.tup []) := rfl
theorem cells_int {k : IntKind} {n : Int} : PV.cells (.int k n) = [.int k n] := rfl
theorem cells_bool {b : Bool} : PV.cells (.bool b) = [.bool b] := rfl
theorem cells_sl {es : List PV} : PV.cells (.sl es) = [.sl es] := rfl
theorem cells_agg {cs : List PV} : PV.cells (.agg cs) = cs := rfl
theorem ccells_p {v : PV} : CV.cells (.p v) = some (v.cells.map .p) := rfl
theorem ccells_agg {cs : List CV} : CV.cells (.agg cs) = some cs := rfl
theorem ccells_nils : CV.cells .nils = some [.nils] := rfl
theorem ccells_own {b o n : Nat} : CV.cells (.own b o n) = some [.own b o n] := rfl
theorem ccells_ptr {b o n : Nat} : CV.cells (.ptr b o n) = some [.ptr b o n] := rfl
theorem ccells_fn {f : Nat} {c : List CV} : CV.cells (.fn f c) = some [.fn f c] := rfl
theorem subPV_f {sz off : Nat} {x : PV} : subPV false sz x off = x.cells[off]? := rfl
theorem subPV_agg {sz off : Nat} {cs : List PV} : subPV true sz (.agg cs) off = if off + sz ≤ cs.length then some (.agg ((cs.drop off).take sz)) else none := rfl
theorem frz1_p {v : PV} : frz1 σ (.p v) = some v := rfl
theorem allSz_nil {n : Nat} : allSz n [] = true := rfl
theorem allSz_cons {n : Nat} {x : PV} {l : List PV} : allSz n (x :: l) = (x.cells.length == n && allSz n l) := rfl
theorem num_int {k : IntKind} {n : Int} : CV.num (.p (.int k n)) = some n := rfl
theorem len_p {es : List PV} : lenV (.p (.sl es)) = some es.length := rfl
theorem len_own {b o n : Nat} : lenV (.own b o n) = some n := rfl
theorem len_nils : lenV .nils = some 0 := rfl
theorem cont_p {es : List PV} : content σ (.p (.sl es)) = some es := rfl
theorem cont_nils : content σ .nils = some [] := rfl
theorem cont_own {b n s : Nat} {es : List PV} (h : σ[b]? = some (.prow s es)) (hn : n = es.length) : content σ (.own b 0 n) = some es := by
  subst hn
  simp [content, h]
theorem get_app0 {l : Store} : (σ ++ l)[σ.length]? = l[0]? := by rw [List.getElem?_append_right (Nat.le_refl _), Nat.sub_self]
theorem get_app {l : Store} {k : Nat} : (σ ++ l)[σ.length + k]? = l[k]? := by rw [List.getElem?_append_right (Nat.le_add_right _ _), Nat.add_sub_cancel_left]
theorem get_left {l : Store} {b : Nat} (h : b < σ.length) : (σ ++ l)[b]? = σ[b]? := List.getElem?_append_left h
theorem set_app0 {l : Store} {x : Blk} : (σ ++ l).set σ.length x = σ ++ l.set 0 x := by rw [List.set_append_right _ _ (Nat.le_refl _), Nat.sub_self]
theorem set_app {l : Store} {k : Nat} {x : Blk} : (σ ++ l).set (σ.length + k) x = σ ++ l.set k x := by rw [List.set_append_right _ _ (Nat.le_add_right _ _), Nat.add_sub_cancel_left]
theorem set_left {l : Store} {b : Nat} {x : Blk} (h : b < σ.length) : (σ ++ l).set b x = σ.set b x ++ l := List.set_append_left _ _ h
theorem get_self {b : Nat} {x : Blk} (h : b < σ.length) : (σ.set b x)[b]? = some x := by rw [List.getElem?_set_self h]
theorem get_ne {b c : Nat} {x : Blk} (h : b ≠ c) : (σ.set b x)[c]? = σ[c]? := List.getElem?_set_ne h
def Wf (σ : Store) : Prop := ∀ x ∈ σ, blkBelow σ.length x = true
theorem below1_le {n m : Nat} (h : n ≤ m) {c : CV} (hc : below1 n c = true) : below1 m c = true := by
  cases c <;> simp only [below1, decide_eq_true_eq, Bool.false_eq_true] at hc ⊢ <;> try omega
  rename_i f cap
  rw [List.all_eq_true] at hc ⊢
  intro x hx
  have := hc x hx
  cases x <;> simp_all <;> omega
theorem blkBelow_le {n m : Nat} (h : n ≤ m) {b : Blk} (hb : blkBelow n b = true) : blkBelow m b = true := by
  cases b <;> simp only [blkBelow] at hb ⊢
  rw [List.all_eq_true] at hb ⊢
  exact fun x hx => below1_le h (hb x hx)
theorem Wf.nil : Wf [] := by intro x hx; cases hx
theorem Wf.push (h : Wf σ) {x : Blk} (hx : blkBelow (σ.length + 1) x = true) : Wf (σ ++ [x]) := by
  intro y hy
  rw [List.length_append]
  rcases List.mem_append.1 hy with hy | hy
  · exact blkBelow_le (Nat.le_add_right _ _) (h y hy)
  · simp at hy; subst hy; exact hx
theorem Wf.set (h : Wf σ) {b : Nat} {x : Blk} (hx : blkBelow σ.length x = true) : Wf (σ.set b x) := by
  intro y hy
  rw [List.length_set]
  rcases List.mem_or_eq_of_mem_set hy with hy | rfl
  · exact h y hy
  · exact hx
theorem Wf.all (h : Wf σ) : σ.all (blkBelow σ.length) = true := List.all_eq_true.2 h
theorem frz1_own {b n s : Nat} {es : List PV} (h : σ[b]? = some (.prow s es)) (hn : n = es.length) : frz1 σ (.own b 0 n) = some (.sl es) := by
  subst hn
  simp [frz1, h]
end
end Go.Proofs.Ytdpdnplljonppaa.Vpi

namespace Go.Proofs.Ytdpdnplljonppaa.Vpi
open Go
set_option linter.unusedVariables false
set_option linter.unusedSimpArgs false
def GL (σ : Store) (sz : Nat) (c : CV) (es : List PV) : Prop := (c = .nils ∧ es = []) ∨ ∃ b, c = .own b 0 es.length ∧ σ[b]? = some (.prow sz es)
def nd (σ : Store) : CV → Store
  | .own b _ _ => σ.set b .dead
  | _ => σ
theorem back1_p {b : Nat} {σ : Store} {v : PV} : back1 b σ (.p v) = some (.p v) := by cases v <;> rfl
theorem back_p {b : Nat} {σ : Store} {v : PV} : back b σ (.p v) = some (.p v) := by cases v <;> rfl
theorem back1_nils {b : Nat} {σ : Store} : back1 b σ .nils = some (.p (.sl [])) := rfl
theorem back_t2 {b : Nat} {σ : Store} {x y : CV} {p q : PV} (hx : back1 b σ x = some (.p p)) (hy : back1 b σ y = some (.p q)) : back b σ (.tup [x, y]) = some (.tup [.p p, .p q]) := by
  simp only [back, backL, hx, hy, Option.map_some]
theorem back_t3 {b : Nat} {σ : Store} {x y z : CV} {p q r : PV} (hx : back1 b σ x = some (.p p)) (hy : back1 b σ y = some (.p q)) (hz : back1 b σ z = some (.p r)) : back b σ (.tup [x, y, z]) = some (.tup [.p p, .p q, .p r]) := by
  simp only [back, backL, hx, hy, hz, Option.map_some]
theorem nd_len {σ : Store} {c : CV} : (nd σ c).length = σ.length := by cases c <;> simp [nd]
section
variable {rp : RProg} {rs : List RRes} {ks : List KI} {base : Nat} {e : Env} {σ : Store} {Q : CV → Store → Prop} {d : Option Nat} {l : List LOp} {dr : Dr} {sz : Nat} {c : CV} {es xs : List PV}
theorem loop_rule {β : Type} (S : β → Env × Store) (I : β → Prop) (μ : β → Nat) {keep : List Nat} {c : RCode} (b0 : β) (h0 : fgt keep e = (S b0).1) (h1 : σ = (S b0).2) (hi : I b0)
    (hstep : ∀ b, I b → (∀ b' e', I b' → μ b' < μ b → fgt keep e' = (S b').1 → Ex rp rs .skip (.lp (.fg keep c) :: ks) e' (S b').2 Q) → Ex rp rs c (.lp (.fg keep c) :: ks) (S b).1 (S b).2 Q) : Ex rp rs (.loop (.fg keep c)) ks e σ Q := by
  rw [ex_loop, ex_fg, h0, h1]
  have key : ∀ n b, I b → μ b < n → Ex rp rs c (.lp (.fg keep c) :: ks) (S b).1 (S b).2 Q := by
    intro n
    induction n with
    | zero => intro b _ h; omega
    | succ n ih =>
      intro b hb hn
      refine hstep b hb fun b' e' hb' hlt he => ?_
      rw [ex_lp, ex_fg, he]
      exact ih b' hb' (by omega)
  exact key _ b0 hi (Nat.lt_succ_self _)
theorem bloop {β γ : Type} (S : β → Env × Store) (I : β → Prop) (μ : β → Nat) (T : γ → Env × Store) (J : γ → Prop) {keep keepx : List Nat} {c c2 : RCode} {id : Nat} {ks2 : List KI} (b0 : β) (h0 : fgt keep e = (S b0).1) (h1 : σ = (S b0).2) (hi : I b0)
    (hstep : ∀ (ks' : List KI) b, I b → (∀ b' e', I b' → μ b' < μ b → fgt keep e' = (S b').1 → Ex rp rs .skip (.lp (.fg keep c) :: .blk id :: ks') e' (S b').2 Q) →
      (∀ g e', J g → fgt keepx e' = (T g).1 → Ex rp rs .skip ks' e' (T g).2 Q) → Ex rp rs c (.lp (.fg keep c) :: .blk id :: ks') (S b).1 (S b).2 Q)
    (hend : ∀ g, J g → Ex rp rs c2 ks2 (T g).1 (T g).2 Q) : Ex rp rs (.loop (.fg keep c)) (.blk id :: .code (.fg keepx c2) :: ks2) e σ Q :=
  loop_rule S I μ b0 h0 h1 hi fun b hb ih => hstep _ b hb ih fun g e' hg he => by rw [ex_code, ex_fg, he]; exact hend g hg
theorem kf_own {f b n : Nat} {es : List PV} {r : CV} (h : Pu rp f [.sl es] r) (hσ : σ[b]? = some (.prow 1 es)) (hn : n = es.length) :
    KC rp rs base .fz f [.own b 0 n] d l dr ks e σ Q = ExR rp rs base l dr ks (sto d r e) (σ.set b .dead) Q := by
  have hf := frz1_own hσ hn
  exact kc_fz h (by simp only [frzs, frz, hf, Option.map_some])
theorem kf_p_own {f b n : Nat} {a : PV} {es : List PV} {r : CV} (h : Pu rp f [a, .sl es] r) (hσ : σ[b]? = some (.prow 1 es)) (hn : n = es.length) :
    KC rp rs base .fz f [.p a, .own b 0 n] d l dr ks e σ Q = ExR rp rs base l dr ks (sto d r e) (σ.set b .dead) Q := by
  have hf := frz1_own hσ hn
  exact kc_fz h (by simp only [frzs, frz, frz1_p, hf, Option.map_some])
theorem GL.nil : GL σ sz .nils [] := .inl ⟨rfl, rfl⟩
theorem GL.own {b : Nat} (h : σ[b]? = some (.prow sz es)) {n : Nat} (hn : n = es.length) : GL σ sz (.own b 0 n) es := .inr ⟨b, by rw [hn], h⟩
theorem GL.content (h : GL σ sz c es) : content σ c = some es := by
  rcases h with ⟨rfl, rfl⟩ | ⟨b, rfl, hb⟩
  · rfl
  · exact cont_own hb rfl
theorem GL.back1 (h : GL σ sz c es) : back1 0 σ c = some (.p (.sl es)) := by
  rcases h with ⟨rfl, rfl⟩ | ⟨b, rfl, hb⟩
  · rfl
  · simp only [Vpi.back1, frz1_own hb rfl]; rfl
theorem GL.len (h : GL σ sz c es) : lenV c = some es.length := by
  rcases h with ⟨rfl, rfl⟩ | ⟨b, rfl, hb⟩ <;> rfl
theorem GL.lt (h : GL σ sz c es) : GL σ sz c es ∧ ∀ b o n, c = .own b o n → b < σ.length := by
  refine ⟨h, ?_⟩
  rintro b o n rfl
  rcases h with ⟨h, _⟩ | ⟨b', h, hb⟩
  · cases h
  · cases h; exact (List.getElem?_eq_some_iff.1 hb).1
theorem GL.left (h : GL σ sz c es) {τ : Store} : GL (σ ++ τ) sz c es := by
  rcases h with ⟨rfl, rfl⟩ | ⟨b, rfl, hb⟩
  · exact .nil
  · exact .own (by rw [List.getElem?_append_left (List.getElem?_eq_some_iff.1 hb).1]; exact hb) rfl
theorem GL.set (h : GL σ sz c es) {k s : Nat} {cs : List CV} (hk : σ[k]? = some (.kblk s cs)) {x : Blk} : GL (σ.set k x) sz c es := by
  rcases h with ⟨rfl, rfl⟩ | ⟨b, rfl, hb⟩
  · exact .nil
  · refine .own ?_ rfl
    rw [List.getElem?_set_ne]
    · exact hb
    · rintro rfl; rw [hk] at hb; cases hb
theorem nd_get (h : GL σ sz c es) {k s : Nat} {cs : List CV} (hk : σ[k]? = some (.kblk s cs)) {τ : Store} : (nd σ c ++ τ)[k]? = some (.kblk s cs) := by
  have hlt := (List.getElem?_eq_some_iff.1 hk).1
  rw [List.getElem?_append_left (by rw [nd_len]; exact hlt)]
  rcases h with ⟨rfl, rfl⟩ | ⟨b, rfl, hb⟩
  · exact hk
  · simp only [nd]
    rw [List.getElem?_set_ne]
    · exact hk
    · rintro rfl; rw [hk] at hb; cases hb
theorem nd_wf (h : Wf σ) : Wf (nd σ c) := by
  cases c <;> try exact h
  exact h.set rfl
theorem nd_wf2 (h : Wf σ) {a b : Nat} {xs ys : List PV} : Wf (nd σ c ++ [.prow a xs, .prow b ys]) := by
  have := ((nd_wf (c := c) h).push (x := .prow a xs) rfl).push (x := .prow b ys) rfl
  rwa [List.append_assoc] at this
theorem GL.new2 {x : Blk} {n m : Nat} (hn : n = es.length) (hm : m = σ.length) : GL (nd σ c ++ [x, .prow sz es]) sz (.own (m + 1) 0 n) es :=
  .own (by rw [hm, ← nd_len (c := c), get_app]; rfl) hn
theorem r_app {s x : Opd} {bytes : Nat} (h : GL σ sz c es) (hc : (es.length + xs.length) * bytes ≤ 140737488355328) (hs : vl e s = c) (hx : vl e x = .own σ.length 0 xs.length) (hz : allSz sz xs = true) :
    ExR rp rs base (⟨d, none, none, .append sz bytes s x⟩ :: l) dr ks e (σ ++ [.prow sz xs]) Q = ExR rp rs base l dr ks (sto d (.own (σ.length + 1) 0 (es.length + xs.length)) e) (nd σ c ++ [.prow sz xs, .prow sz (es ++ xs)]) Q := by
  rw [r_append]
  have h1 : content (σ ++ [.prow sz xs]) (vl e s) = some es := by rw [hs]; exact h.left.content
  have h2 : content (σ ++ [.prow sz xs]) (vl e x) = some xs := by rw [hx]; exact cont_own (s := sz) (by simp) rfl
  have hlt := h.lt.2
  simp only [ev, h1, h2, hc, hz, and_self, if_true]
  rcases h with ⟨rfl, rfl⟩ | ⟨b, rfl, hb⟩
  · rw [hs]
    simp only [push_none, Option.map_some, ke_some, nd, List.length_append, List.length_cons, List.length_nil, List.append_assoc, List.cons_append, List.nil_append, Nat.zero_add]
  · rw [hs]
    have hb' : (σ ++ [.prow sz xs])[b]? = some (.prow sz es) := by rw [List.getElem?_append_left (hlt _ _ _ rfl)]; exact hb
    simp only [hb', if_true, push_none, Option.map_some, ke_some, nd, List.length_append, List.length_set, List.length_cons, List.length_nil, Nat.zero_add]
    rw [List.set_append_left _ _ (hlt _ _ _ rfl), List.append_assoc]
    rfl
end
end Go.Proofs.Ytdpdnplljonppaa.Vpi

namespace Go.Proofs.Ytdpdnplljonppaa.Vpi
open Go
set_option linter.unusedVariables false
def LB : Nat := 4294967296
theorem LB_pos : 0 < LB := by decide
def val : List Nat → Nat
  | [] => 0
  | x :: l => x + LB * val l
def lm (l : List Nat) : List PV := l.map fun (x : Nat) => .int .u32 (x : Int)
def dgl (n : Nat) : List Nat := if h : n = 0 then [] else n % LB :: dgl (n / LB)
termination_by n
decreasing_by exact Nat.div_lt_self (Nat.pos_of_ne_zero h) (by decide)
def trimL : List Nat → List Nat
  | [] => []
  | x :: l => if x = 0 ∧ trimL l = [] then [] else x :: trimL l
def Lim (l : List Nat) : Prop := ∀ x ∈ l, x < LB
def mk (neg : Bool) (v : Nat) : PV := .agg [.bool (neg && decide (v ≠ 0)), .sl (lm (dgl v))]
def zi (x : Int) : PV := mk (decide (x < 0)) x.natAbs
theorem mk_cells {neg : Bool} {v : Nat} : (mk neg v).cells = [.bool (neg && decide (v ≠ 0)), .sl (lm (dgl v))] := rfl
theorem zi_cells {x : Int} : (zi x).cells = [.bool (decide (x < 0) && decide (x.natAbs ≠ 0)), .sl (lm (dgl x.natAbs))] := rfl
theorem dgl_zero : dgl 0 = [] := by rw [dgl]; simp
theorem dgl_pos {n : Nat} (h : n ≠ 0) : dgl n = n % LB :: dgl (n / LB) := by rw [dgl]; simp [h]
theorem lm_len {l : List Nat} : (lm l).length = l.length := by simp [lm]
theorem lm_get {l : List Nat} {i : Nat} (h : i < l.length) : (lm l)[i]? = some (.int .u32 (l[i] : Nat)) := by simp [lm, h]
theorem lm_get? {l : List Nat} {i x : Nat} (h : l[i]? = some x) : (lm l)[i]? = some (.int .u32 (x : Nat)) := by simp [lm, h]
theorem lm_take {l : List Nat} {n : Nat} : (lm l).take n = lm (l.take n) := by simp [lm, List.map_take]
theorem lm_append {l m : List Nat} : lm l ++ lm m = lm (l ++ m) := by simp [lm]
theorem lm_set {l : List Nat} {i x : Nat} : (lm l).set i (.int .u32 (x : Nat)) = lm (l.set i x) := by simp [lm, List.map_set]
theorem lm_rep {n : Nat} : List.replicate n (PV.int .u32 0) = lm (List.replicate n 0) := by simp [lm]
theorem lm_nil : lm [] = [] := rfl
theorem lm_cons {x : Nat} {l : List Nat} : lm (x :: l) = .int .u32 (x : Nat) :: lm l := rfl
theorem lm_sz {l : List Nat} : allSz 1 (lm l) = true := by simp [allSz, lm, PV.cells]
theorem val_append {l m : List Nat} : val (l ++ m) = val l + LB ^ l.length * val m := by
  induction l with
  | nil => simp [val]
  | cons x l ih => simp only [List.cons_append, val, ih, List.length_cons, Nat.pow_succ]; rw [Nat.mul_add, ← Nat.add_assoc, ← Nat.mul_assoc, Nat.mul_comm LB (LB ^ l.length)]
theorem val_lt {l : List Nat} (h : Lim l) : val l < LB ^ l.length := by
  induction l with
  | nil => simp [val]
  | cons x l ih =>
    have h1 := h x (List.mem_cons_self ..)
    have h2 := ih fun y hy => h y (List.mem_cons_of_mem _ hy)
    simp only [val, List.length_cons, Nat.pow_succ]
    have h3 : LB * (val l + 1) ≤ LB * LB ^ l.length := Nat.mul_le_mul_left _ h2
    rw [Nat.mul_add] at h3
    rw [Nat.mul_comm (LB ^ l.length)]
    omega
theorem trimL_dgl : ∀ {l : List Nat}, Lim l → trimL l = dgl (val l)
  | [], _ => by simp [trimL, val, dgl_zero]
  | x :: l, h => by
    have h1 := h x (List.mem_cons_self ..)
    have h2 := trimL_dgl (l := l) fun y hy => h y (List.mem_cons_of_mem _ hy)
    simp only [trimL, h2, val]
    by_cases hv : val l = 0
    · rw [hv, dgl_zero]
      by_cases hx : x = 0
      · simp [hx, dgl_zero]
      · rw [dgl_pos (by omega)]
        simp only [hx, false_and, if_false, Nat.mul_zero, Nat.add_zero]
        rw [Nat.mod_eq_of_lt h1, Nat.div_eq_of_lt h1, dgl_zero]
    · rw [dgl_pos (n := x + LB * val l) (by have := Nat.mul_pos LB_pos (Nat.pos_of_ne_zero hv); omega)]
      rw [Nat.add_mul_mod_self_left, Nat.mod_eq_of_lt h1, Nat.add_mul_div_left _ _ LB_pos, Nat.div_eq_of_lt h1, Nat.zero_add]
      rw [dgl_pos hv]
      simp
theorem trimL_nil : ∀ {l : List Nat}, (∀ x ∈ l, x = 0) → trimL l = []
  | [], _ => rfl
  | x :: l, h => by
    simp only [trimL, trimL_nil (l := l) fun y hy => h y (List.mem_cons_of_mem _ hy), h x (List.mem_cons_self ..)]
    simp
theorem trimL_take : ∀ {l : List Nat} {n : Nat}, (∀ i, n ≤ i → ∀ x, l[i]? = some x → x = 0) → (n = 0 ∨ ∃ x, l[n - 1]? = some x ∧ x ≠ 0) → trimL l = l.take n
  | [], n, _, _ => by simp [trimL]
  | x :: l, 0, h, _ => by
    rw [List.take_zero]
    refine trimL_nil fun y hy => ?_
    obtain ⟨i, hi, rfl⟩ := List.getElem_of_mem hy
    exact h i (Nat.zero_le _) _ (by simp)
  | x :: l, 1, h, hn => by
    have h2 : trimL l = [] := trimL_nil fun y hy => by
      obtain ⟨i, hi, rfl⟩ := List.getElem_of_mem hy
      exact h (i + 1) (by omega) _ (by simp)
    obtain hn | ⟨y, hy, h0⟩ := hn
    · omega
    · simp at hy
      subst hy
      simp [trimL, h2, h0]
  | x :: l, n + 2, h, hn => by
    obtain hn | ⟨y, hy, h0⟩ := hn
    · omega
    have h2 := trimL_take (l := l) (n := n + 1) (fun i hi z hz => h (i + 1) (by omega) z (by simpa using hz)) (.inr ⟨y, by simpa using hy, h0⟩)
    have hne : l.take (n + 1) ≠ [] := by
      intro h3
      cases l with
      | nil => simp at hy
      | cons a b => simp at h3
    simp only [trimL, h2, List.take_succ_cons]
    rw [if_neg (by simp [hne])]
theorem dgl_lim (n : Nat) : Lim (dgl n) := by
  induction n using Nat.strongRecOn with
  | ind n ih =>
    intro x hx
    by_cases h : n = 0
    · subst h; rw [dgl_zero] at hx; cases hx
    · rw [dgl_pos h] at hx
      rcases List.mem_cons.1 hx with rfl | hx
      · exact Nat.mod_lt _ LB_pos
      · exact ih _ (Nat.div_lt_self (Nat.pos_of_ne_zero h) (by decide)) x hx
theorem val_dgl (n : Nat) : val (dgl n) = n := by
  induction n using Nat.strongRecOn with
  | ind n ih =>
    by_cases h : n = 0
    · subst h; rw [dgl_zero]; rfl
    · rw [dgl_pos h, val, ih _ (Nat.div_lt_self (Nat.pos_of_ne_zero h) (by decide))]
      exact Nat.mod_add_div n LB
theorem dgl_len {n k : Nat} (h : n < LB ^ k) : (dgl n).length ≤ k := by
  induction k generalizing n with
  | zero => simp at h; subst h; rw [dgl_zero]; simp
  | succ k ih =>
    by_cases h0 : n = 0
    · subst h0; rw [dgl_zero]; simp
    · rw [dgl_pos h0, List.length_cons]
      have : n / LB < LB ^ k := by
        rw [Nat.div_lt_iff_lt_mul LB_pos, ← Nat.pow_succ]
        exact h
      have := ih this
      omega
theorem dgl_ne {n : Nat} (h : n ≠ 0) : dgl n ≠ [] := by rw [dgl_pos h]; simp
theorem val_two {v : Nat} (h : v < LB * LB) : val [v % LB, v / LB] = v := by
  simp only [val, Nat.mul_zero, Nat.add_zero]
  exact Nat.mod_add_div v LB
theorem lim_two {v : Nat} (h : v < LB * LB) : Lim [v % LB, v / LB] := by
  intro x hx
  simp only [List.mem_cons, List.not_mem_nil, or_false] at hx
  rcases hx with rfl | rfl
  · exact Nat.mod_lt _ LB_pos
  · exact Nat.div_lt_of_lt_mul h
theorem Lim.take {l : List Nat} (h : Lim l) {n : Nat} : Lim (l.take n) := fun x hx => h x (List.mem_of_mem_take hx)
theorem Lim.drop {l : List Nat} (h : Lim l) {n : Nat} : Lim (l.drop n) := fun x hx => h x (List.mem_of_mem_drop hx)
theorem Lim.append {l m : List Nat} (h : Lim l) (k : Lim m) : Lim (l ++ m) := fun x hx => (List.mem_append.1 hx).elim (h x) (k x)
theorem Lim.one {x : Nat} (h : x < LB) : Lim [x] := fun y hy => by simp at hy; subst hy; exact h
theorem Lim.rep {n : Nat} : Lim (List.replicate n 0) := fun x hx => by rw [List.eq_of_mem_replicate hx]; exact LB_pos
theorem Lim.get {l : List Nat} (h : Lim l) {i : Nat} (hi : i < l.length) : l[i] < LB := h _ (List.getElem_mem hi)
theorem val_rep {n : Nat} : val (List.replicate n 0) = 0 := by
  induction n with
  | zero => rfl
  | succ n ih => simp [List.replicate_succ, val, ih]
theorem val_one {x : Nat} : val [x] = x := by simp [val]
theorem val_take_succ {l : List Nat} {i : Nat} (h : i < l.length) : val (l.take (i + 1)) = val (l.take i) + LB ^ i * l[i] := by
  rw [List.take_add_one, List.getElem?_eq_getElem h, val_append, List.length_take, Nat.min_eq_left (Nat.le_of_lt h)]
  simp [val]
theorem val_split {l : List Nat} {i : Nat} (h : i ≤ l.length) : val l = val (l.take i) + LB ^ i * val (l.drop i) := by
  have := val_append (l := l.take i) (m := l.drop i)
  rw [List.take_append_drop, List.length_take, Nat.min_eq_left h] at this
  exact this
theorem set_next {o : List Nat} {m x : Nat} : (o ++ List.replicate (m + 1) 0).set o.length x = o ++ [x] ++ List.replicate m 0 := by
  rw [List.set_append_right _ _ (Nat.le_refl _), Nat.sub_self, List.replicate_succ, List.set_cons_zero, List.append_assoc]
  rfl
theorem val_lt_top {a b : List Nat} (ha : Lim a) {i : Nat} (hi : i < a.length) (hj : i < b.length) (hd : val (a.drop (i + 1)) = val (b.drop (i + 1))) (hlt : a[i] < b[i]) : val a < val b := by
  rw [val_split (i := i + 1) hi, val_split (l := b) (i := i + 1) hj, val_take_succ hi, val_take_succ hj, hd]
  have h1 := val_lt (ha.take (n := i))
  rw [List.length_take, Nat.min_eq_left (Nat.le_of_lt hi)] at h1
  have h2 : LB ^ i * (a[i] + 1) ≤ LB ^ i * b[i] := Nat.mul_le_mul_left _ hlt
  rw [Nat.mul_add] at h2
  omega
theorem dgl_lt_len {x y : Nat} (h : (dgl x).length < (dgl y).length) : x < y := by
  rcases Nat.lt_or_ge x y with h1 | h1
  · exact h1
  · have h2 : y < LB ^ (dgl x).length := Nat.lt_of_le_of_lt h1 (by have := val_lt (dgl_lim x); rwa [val_dgl] at this)
    have := dgl_len h2
    omega
theorem w64 {x : Nat} (h : x < 18446744073709551616) : IntKind.u64.wrap (x : Int) = (x : Int) := by
  simp only [IntKind.wrap, IntKind.bits, IntKind.signed]
  simp
  omega
theorem w32 {x : Nat} : IntKind.u32.wrap (x : Int) = ((x % LB : Nat) : Int) := by
  simp only [IntKind.wrap, IntKind.bits, IntKind.signed, LB]
  simp
theorem w64s {x y : Nat} (h : x + y < 18446744073709551616) : IntKind.u64.wrap ((x : Int) + (y : Int)) = ((x + y : Nat) : Int) := by
  rw [← Int.natCast_add]; exact w64 h
theorem w64m {x y : Nat} (h : x * y < 18446744073709551616) : IntKind.u64.wrap ((x : Int) * (y : Int)) = ((x * y : Nat) : Int) := by
  rw [← Int.natCast_mul]; exact w64 h
theorem w64l {x : Nat} (h : x < LB) : IntKind.u64.wrap (x : Int) = (x : Int) := w64 (by unfold LB at h; omega)
theorem sh32 {x : Nat} : ((x : Int).fdiv (2 ^ min (Int.toNat 32) IntKind.u64.bits)) = ((x / LB : Nat) : Int) := by
  have h1 : ((2 : Int) ^ min (Int.toNat 32) IntKind.u64.bits) = 4294967296 := by decide
  rw [h1, Int.fdiv_eq_ediv_of_nonneg _ (by decide)]
  rfl
end Go.Proofs.Ytdpdnplljonppaa.Vpi

namespace Go.Proofs.Ytdpdnplljonppaa.Vpi
open Go
set_option linter.unusedVariables false
set_option linter.unusedSimpArgs false
theorem mk_zero {s : Bool} : mk s 0 = .agg [.bool false, .sl []] := by simp [mk, dgl_zero, lm]
theorem updPV_mk {s s' : Bool} {v v' : Nat} : updPV (mk s v) 0 2 (mk s' v') = some (mk s' v') := by simp [updPV, mk, PV.cells, setCells]
theorem subPV_mk {s : Bool} {v : Nat} : subPV true 2 (mk s v) 0 = some (mk s v) := by simp [subPV, mk]
theorem updPV_int {k k' : IntKind} {a b : Int} : updPV (.int k a) 0 1 (.int k' b) = some (.int k' b) := rfl
theorem updPV_sl {a b : List PV} : updPV (.sl a) 0 1 (.sl b) = some (.sl b) := rfl
def Nums (r : List PV) : Prop := ∀ (i : Nat), i < r.length → ∃ s v, r[i]? = some (mk s v)
theorem Nums.rep {n : Nat} : Nums (List.replicate n (mk false 0)) := by
  intro i hi
  exact ⟨false, 0, by rw [List.length_replicate] at hi; simp [hi]⟩
theorem Nums.set {r : List PV} (h : Nums r) {j : Nat} {s : Bool} {v : Nat} : Nums (r.set j (mk s v)) := by
  intro i hi
  rw [List.length_set] at hi
  by_cases hj : j = i
  · subst hj; exact ⟨s, v, by simp [hi]⟩
  · obtain ⟨s', v', h'⟩ := h i hi
    exact ⟨s', v', by rw [List.getElem?_set_ne hj]; exact h'⟩
section
variable {rp : RProg} {rs : List RRes} {ks : List KI} {base : Nat} {e : Env} {σ : Store} {Q : CV → Store → Prop} {d : Option Nat} {l : List LOp} {dr : Dr} {sz : Nat} {c : CV} {es xs : List PV}
theorem kc_keep' {f : Nat} {args : List CV} (h : Rn rp f args σ fun v τ => ExR rp rs base l dr ks (sto d v e) τ Q) : KC rp rs base .keep f args d l dr ks e σ Q := cl_keep h
theorem GL.set_ne (h : GL σ sz c es) {k : Nat} (hk : ∀ b o n, c = .own b o n → b ≠ k) {x : Blk} : GL (σ.set k x) sz c es := by
  rcases h with ⟨rfl, rfl⟩ | ⟨b, rfl, hb⟩
  · exact .nil
  · exact .own (by rw [List.getElem?_set_ne (fun h => hk _ _ _ rfl h.symm)]; exact hb) rfl
structure Inv (σ : Store) (z : Int) (c : CV) (rows : List PV) (b : Nat) (row : List PV) : Prop where
  wf : Wf σ
  z : σ[0]? = some (.kblk 1 [.p (.int .u64 z)])
  gl : GL σ 1 c rows
  row : σ[b]? = some (.prow 2 row)
  ne : ∀ b' o n, c = .own b' o n → b' ≠ b
variable {z : Int} {rows row : List PV} {b : Nat}
theorem Inv.b0 (h : Inv σ z c rows b row) : b ≠ 0 := by
  rintro rfl
  have h1 := h.row
  rw [h.z] at h1
  cases h1
theorem Inv.put (h : Inv σ z c rows b row) {row' : List PV} : Inv (σ.set b (.prow 2 row')) z c rows b row' where
  wf := h.wf.set rfl
  z := by rw [List.getElem?_set_ne h.b0]; exact h.z
  gl := h.gl.set_ne h.ne
  row := get_self (List.getElem?_eq_some_iff.1 h.row).1
  ne := h.ne
theorem Inv.seed (h : Inv σ z c rows b row) {z' : Int} : Inv (σ.set 0 (.kblk 1 [.p (.int .u64 z')])) z' c rows b row where
  wf := h.wf.set rfl
  z := get_self (List.getElem?_eq_some_iff.1 h.z).1
  gl := h.gl.set h.z
  row := by rw [List.getElem?_set_ne h.b0.symm]; exact h.row
  ne := h.ne
theorem Inv.done_gl (h : Inv σ z c rows b row) : GL (σ.set b .dead) 1 c rows := h.gl.set_ne h.ne
theorem Inv.done_z (h : Inv σ z c rows b row) {τ : Store} : (nd (σ.set b .dead) c ++ τ)[0]? = some (.kblk 1 [.p (.int .u64 z)]) :=
  nd_get h.done_gl (by rw [List.getElem?_set_ne h.b0]; exact h.z)
theorem Inv.done_wf (h : Inv σ z c rows b row) {a b' : Nat} {xs ys : List PV} : Wf (nd (σ.set b .dead) c ++ [.prow a xs, .prow b' ys]) := nd_wf2 (h.wf.set rfl)
theorem Inv.new (hw : Wf σ) (hz : σ[0]? = some (.kblk 1 [.p (.int .u64 z)])) (hg : GL σ 1 c rows) {τ : Store} (hwτ : Wf (σ ++ τ)) (hb : (σ ++ τ)[b]? = some (.prow 2 row)) (hle : σ.length ≤ b) : Inv (σ ++ τ) z c rows b row where
  wf := hwτ
  z := by rw [List.getElem?_append_left (List.getElem?_eq_some_iff.1 hz).1]; exact hz
  gl := hg.left
  row := hb
  ne := fun b' o n hc => by have := hg.lt.2 b' o n hc; omega
structure Jnv (σ : Store) (c : CV) (rows : List PV) (b : Nat) (row : List PV) : Prop where
  wf : Wf σ
  gl : GL σ 1 c rows
  row : σ[b]? = some (.prow 2 row)
  ne : ∀ b' o n, c = .own b' o n → b' ≠ b
theorem Jnv.lt (h : Jnv σ c rows b row) : b < σ.length := (List.getElem?_eq_some_iff.1 h.row).1
theorem Jnv.put (h : Jnv σ c rows b row) {row' : List PV} : Jnv (σ.set b (.prow 2 row')) c rows b row' where
  wf := h.wf.set rfl
  gl := h.gl.set_ne h.ne
  row := get_self h.lt
  ne := h.ne
theorem Jnv.done_gl (h : Jnv σ c rows b row) : GL (σ.set b .dead) 1 c rows := h.gl.set_ne h.ne
theorem Jnv.done_wf (h : Jnv σ c rows b row) {a b' : Nat} {xs ys : List PV} : Wf (nd (σ.set b .dead) c ++ [.prow a xs, .prow b' ys]) := nd_wf2 (h.wf.set rfl)
theorem Jnv.new (hw : Wf σ) (hg : GL σ 1 c rows) {τ : Store} (hwτ : Wf (σ ++ τ)) (hb : (σ ++ τ)[b]? = some (.prow 2 row)) (hle : σ.length ≤ b) : Jnv (σ ++ τ) c rows b row where
  wf := hwτ
  gl := hg.left
  row := hb
  ne := fun b' o n hc => by have := hg.lt.2 b' o n hc; omega
theorem r_row' {n : Nat} {x y : Opd} (hn : n ≤ 4096) (hw : Wf σ) (hg : GL σ 1 c rows) (hx : vl e x = .p (.int .i64 n)) (hy : vl e y = .p (.int .i64 n))
    (h : ∀ ρ b, Jnv ρ c rows b (List.replicate n (mk false 0)) → ExR rp rs base l dr ks (sto d (.own b 0 n) e) ρ Q) :
    ExR rp rs base (⟨d, none, none, .mks false 2 32 (.agg [.bool false, .sl []]) x y⟩ :: l) dr ks e σ Q := by
  rw [r_mks]
  have h1 : 0 ≤ (n : Int) ∧ (n : Int) ≤ n ∧ ((32 : Nat) : Int) * n ≤ 281474976710656 ∧ (n : Int) ≤ 9223372036854775807 ∧ (PV.agg [.bool false, .sl []]).cells.length = 2 := ⟨by omega, by omega, by omega, by omega, rfl⟩
  simp only [ev, hx, hy, num_int, h1, and_self, if_true, push_none, Option.map_some, ke_some, Int.toNat_natCast]
  refine h _ _ (Jnv.new hw hg (hw.push rfl) ?_ (Nat.le_refl _))
  rw [get_app0, mk_zero]
  rfl
theorem r_row {n : Nat} {x y : Opd} (hn : n ≤ 4096) (hw : Wf σ) (hz : σ[0]? = some (.kblk 1 [.p (.int .u64 z)])) (hg : GL σ 1 c rows) (hx : vl e x = .p (.int .i64 n)) (hy : vl e y = .p (.int .i64 n))
    (h : ∀ ρ b, Inv ρ z c rows b (List.replicate n (mk false 0)) → ExR rp rs base l dr ks (sto d (.own b 0 n) e) ρ Q) :
    ExR rp rs base (⟨d, none, none, .mks false 2 32 (.agg [.bool false, .sl []]) x y⟩ :: l) dr ks e σ Q := by
  rw [r_mks]
  have h1 : 0 ≤ (n : Int) ∧ (n : Int) ≤ n ∧ ((32 : Nat) : Int) * n ≤ 281474976710656 ∧ (n : Int) ≤ 9223372036854775807 ∧ (PV.agg [.bool false, .sl []]).cells.length = 2 := ⟨by omega, by omega, by omega, by omega, rfl⟩
  simp only [ev, hx, hy, num_int, h1, and_self, if_true, push_none, Option.map_some, ke_some, Int.toNat_natCast]
  refine h _ _ (Inv.new hw hz hg (hw.push rfl) ?_ (Nat.le_refl _))
  rw [get_app0, mk_zero]
  rfl
end
end Go.Proofs.Ytdpdnplljonppaa.Vpi

namespace Go.Proofs.Ytdpdnplljonppaa.Vpi
open Go
set_option linter.unusedVariables false
set_option maxRecDepth 10000
theorem S1 : type_of% (And.intro (@ex_seq) <| And.intro (@ex_code) <| And.intro (@ex_blk) <| And.intro (@ex_block) <| And.intro (@ex_fg) <| And.intro (@x_reg) <| And.intro (@x_draw) <| And.intro (@x_if) <| And.intro (@x_if_b) <| And.intro (@ex_exit_blk) <| And.intro (@ex_exit_code) <| And.intro (@ex_exit_lp) <| And.intro (@ex_sc) <| And.intro (@ex_scope) <| And.intro (@ex_exit_sc) <| And.intro (@x_ret) <| And.intro (@x_end) <| And.intro (@kr_some) <| And.intro (@r_nil) <| And.intro (@r_nild) <| And.intro (@ke_some) <| And.intro (@ke_if) <| And.intro (@r_mv) <| And.intro (@r_mkfn) <| And.intro (@r_pick) <| And.intro (@r_alloc) <| And.intro (@r_box) <| And.intro (@r_build) <| And.intro (@r_bslice) <| And.intro (@r_load) <| And.intro (@r_store) <| And.intro (@r_nilc) <| And.intro (@r_bin) <| And.intro (@r_bslk) <| And.intro (@r_appk) <| And.intro (@cellL_own1) <| (@r_appz)) := And.intro (@ex_seq) <| And.intro (@ex_code) <| And.intro (@ex_blk) <| And.intro (@ex_block) <| And.intro (@ex_fg) <| And.intro (@x_reg) <| And.intro (@x_draw) <| And.intro (@x_if) <| And.intro (@x_if_b) <| And.intro (@ex_exit_blk) <| And.intro (@ex_exit_code) <| And.intro (@ex_exit_lp) <| And.intro (@ex_sc) <| And.intro (@ex_scope) <| And.intro (@ex_exit_sc) <| And.intro (@x_ret) <| And.intro (@x_end) <| And.intro (@kr_some) <| And.intro (@r_nil) <| And.intro (@r_nild) <| And.intro (@ke_some) <| And.intro (@ke_if) <| And.intro (@r_mv) <| And.intro (@r_mkfn) <| And.intro (@r_pick) <| And.intro (@r_alloc) <| And.intro (@r_box) <| And.intro (@r_build) <| And.intro (@r_bslice) <| And.intro (@r_load) <| And.intro (@r_store) <| And.intro (@r_nilc) <| And.intro (@r_bin) <| And.intro (@r_bslk) <| And.intro (@r_appk) <| And.intro (@cellL_own1) <| (@r_appz)
theorem S2 : type_of% (And.intro (@r_beq) <| And.intro (@r_un) <| And.intro (@r_conv) <| And.intro (@r_slice) <| And.intro (@r_fieldA) <| And.intro (@r_field) <| And.intro (@r_indexA) <| And.intro (@r_extract) <| And.intro (@r_len) <| And.intro (@r_copy) <| And.intro (@r_mx) <| And.intro (@r_mn) <| And.intro (@r_call) <| And.intro (@r_callv) <| And.intro (@kv_fn) <| And.intro (@r_g) <| And.intro (@kg_b) <| And.intro (@kg_t) <| And.intro (@List.all_nil.{0}) <| And.intro (@push_none) <| And.intro (@res_t) <| And.intro (@res_tt) <| And.intro (@res_ttt) <| And.intro (@res_n) <| And.intro (@cells_int) <| And.intro (@cells_bool) <| And.intro (@cells_sl) <| And.intro (@cells_agg) <| And.intro (@mk_cells) <| (@zi_cells)) := And.intro (@r_beq) <| And.intro (@r_un) <| And.intro (@r_conv) <| And.intro (@r_slice) <| And.intro (@r_fieldA) <| And.intro (@r_field) <| And.intro (@r_indexA) <| And.intro (@r_extract) <| And.intro (@r_len) <| And.intro (@r_copy) <| And.intro (@r_mx) <| And.intro (@r_mn) <| And.intro (@r_call) <| And.intro (@r_callv) <| And.intro (@kv_fn) <| And.intro (@r_g) <| And.intro (@kg_b) <| And.intro (@kg_t) <| And.intro (@List.all_nil.{0}) <| And.intro (@push_none) <| And.intro (@res_t) <| And.intro (@res_tt) <| And.intro (@res_ttt) <| And.intro (@res_n) <| And.intro (@cells_int) <| And.intro (@cells_bool) <| And.intro (@cells_sl) <| And.intro (@cells_agg) <| And.intro (@mk_cells) <| (@zi_cells)
theorem S3 : type_of% (And.intro (@ccells_p) <| And.intro (@ccells_agg) <| And.intro (@ccells_nils) <| And.intro (@ccells_own) <| And.intro (@ccells_ptr) <| And.intro (@ccells_fn) <| And.intro (@num_int) <| And.intro (@len_p) <| And.intro (@len_own) <| And.intro (@len_nils) <| And.intro (@cont_p) <| And.intro (@cont_nils) <| And.intro (@binV_add) <| And.intro (@binV_sub) <| And.intro (@binV_mul) <| And.intro (@binV_and) <| And.intro (@binV_or) <| And.intro (@binV_xor) <| And.intro (@binV_eql) <| And.intro (@binV_neq) <| And.intro (@binV_lss) <| And.intro (@binV_leq) <| And.intro (@binV_shl) <| And.intro (@binV_shr) <| And.intro (@binV_gtr) <| And.intro (@binV_geq) <| And.intro (@subPV_f) <| And.intro (@subPV_agg) <| And.intro (@subPV_mk) <| (@updPV_mk)) := And.intro (@ccells_p) <| And.intro (@ccells_agg) <| And.intro (@ccells_nils) <| And.intro (@ccells_own) <| And.intro (@ccells_ptr) <| And.intro (@ccells_fn) <| And.intro (@num_int) <| And.intro (@len_p) <| And.intro (@len_own) <| And.intro (@len_nils) <| And.intro (@cont_p) <| And.intro (@cont_nils) <| And.intro (@binV_add) <| And.intro (@binV_sub) <| And.intro (@binV_mul) <| And.intro (@binV_and) <| And.intro (@binV_or) <| And.intro (@binV_xor) <| And.intro (@binV_eql) <| And.intro (@binV_neq) <| And.intro (@binV_lss) <| And.intro (@binV_leq) <| And.intro (@binV_shl) <| And.intro (@binV_shr) <| And.intro (@binV_gtr) <| And.intro (@binV_geq) <| And.intro (@subPV_f) <| And.intro (@subPV_agg) <| And.intro (@subPV_mk) <| (@updPV_mk)
theorem S4 : type_of% (And.intro (@updPV_int) <| And.intro (@updPV_sl) <| And.intro (@allSz_nil) <| And.intro (@allSz_cons) <| And.intro (@List.map_cons.{0,0}) <| And.intro (@List.map_nil.{0,0}) <| And.intro (@List.foldl_cons.{0,0}) <| And.intro (@List.foldl_nil.{0,0}) <| And.intro (@List.length_cons.{0}) <| And.intro (@List.length_nil.{0}) <| And.intro (@List.all_cons.{0}) <| And.intro (@List.append_nil.{0}) <| And.intro (@List.nil_append.{0}) <| And.intro (@List.cons_append.{0}) <| And.intro (@List.set_cons_zero.{0}) <| And.intro (@List.set_cons_succ.{0}) <| And.intro (@List.getElem?_cons_zero.{0}) <| And.intro (@List.getElem?_cons_succ.{0}) <| And.intro (@List.take_succ_cons.{0}) <| And.intro (@List.take_zero.{0}) <| And.intro (@List.drop_succ_cons.{0}) <| And.intro (@List.drop_zero.{0}) <| And.intro (@List.take_nil.{0}) <| And.intro (@List.drop_nil.{0}) <| And.intro (@List.append_assoc.{0}) <| And.intro (@List.length_append.{0}) <| And.intro (@List.length_set.{0}) <| And.intro (@get_app0) <| And.intro (@get_app) <| (@set_app0)) := And.intro (@updPV_int) <| And.intro (@updPV_sl) <| And.intro (@allSz_nil) <| And.intro (@allSz_cons) <| And.intro (@List.map_cons.{0,0}) <| And.intro (@List.map_nil.{0,0}) <| And.intro (@List.foldl_cons.{0,0}) <| And.intro (@List.foldl_nil.{0,0}) <| And.intro (@List.length_cons.{0}) <| And.intro (@List.length_nil.{0}) <| And.intro (@List.all_cons.{0}) <| And.intro (@List.append_nil.{0}) <| And.intro (@List.nil_append.{0}) <| And.intro (@List.cons_append.{0}) <| And.intro (@List.set_cons_zero.{0}) <| And.intro (@List.set_cons_succ.{0}) <| And.intro (@List.getElem?_cons_zero.{0}) <| And.intro (@List.getElem?_cons_succ.{0}) <| And.intro (@List.take_succ_cons.{0}) <| And.intro (@List.take_zero.{0}) <| And.intro (@List.drop_succ_cons.{0}) <| And.intro (@List.drop_zero.{0}) <| And.intro (@List.take_nil.{0}) <| And.intro (@List.drop_nil.{0}) <| And.intro (@List.append_assoc.{0}) <| And.intro (@List.length_append.{0}) <| And.intro (@List.length_set.{0}) <| And.intro (@get_app0) <| And.intro (@get_app) <| (@set_app0)
theorem S5 : type_of% (And.intro (@set_app) <| And.intro (@Option.map_some.{0,0}) <| And.intro (@Option.map_none.{0,0}) <| And.intro (@and_self) <| And.intro (@true_and) <| And.intro (@and_true) <| And.intro (@if_true.{1}) <| And.intro (@if_false.{1}) <| And.intro (@ite_true.{1}) <| And.intro (@ite_false.{1}) <| And.intro (@Nat.zero_add) <| And.intro (@Nat.add_zero) <| And.intro (@Nat.zero_mul) <| And.intro (@beq_self_eq_true.{0}) <| And.intro (@Bool.false_eq_true) <| And.intro (@Bool.and_self) <| And.intro (@Bool.and_true) <| And.intro (@Bool.true_and) <| And.intro (@decide_eq_true_eq) <| And.intro (@decide_true) <| And.intro (@decide_false) <| (@Nat.le_refl)) := And.intro (@set_app) <| And.intro (@Option.map_some.{0,0}) <| And.intro (@Option.map_none.{0,0}) <| And.intro (@and_self) <| And.intro (@true_and) <| And.intro (@and_true) <| And.intro (@if_true.{1}) <| And.intro (@if_false.{1}) <| And.intro (@ite_true.{1}) <| And.intro (@ite_false.{1}) <| And.intro (@Nat.zero_add) <| And.intro (@Nat.add_zero) <| And.intro (@Nat.zero_mul) <| And.intro (@beq_self_eq_true.{0}) <| And.intro (@Bool.false_eq_true) <| And.intro (@Bool.and_self) <| And.intro (@Bool.and_true) <| And.intro (@Bool.true_and) <| And.intro (@decide_eq_true_eq) <| And.intro (@decide_true) <| And.intro (@decide_false) <| (@Nat.le_refl)
theorem S6 : type_of% (And.intro (@ev.eq_1) <| And.intro (@ev.eq_2) <| And.intro (@ev.eq_3) <| And.intro (@ev.eq_4) <| And.intro (@ev.eq_5) <| And.intro (@ev.eq_6) <| And.intro (@ev.eq_7) <| And.intro (@ev.eq_8) <| And.intro (@ev.eq_9) <| And.intro (@ev.eq_10) <| And.intro (@ev.eq_11) <| And.intro (@ev.eq_12) <| And.intro (@ev.eq_13) <| And.intro (@ev.eq_14) <| And.intro (@ev.eq_15) <| And.intro (@ev.eq_16) <| And.intro (@ev.eq_17) <| And.intro (@ev.eq_18) <| And.intro (@ev.eq_19) <| And.intro (@ev.eq_20) <| And.intro (@ev.eq_21) <| And.intro (@ev.eq_22) <| And.intro (@ev.eq_23) <| And.intro (@ev.eq_24) <| And.intro (@ev.eq_25) <| And.intro (@ev.eq_26) <| And.intro (@ev.eq_27) <| And.intro (@ev.eq_28) <| And.intro (@ev.eq_29) <| And.intro (@ev.eq_30) <| And.intro (@ev.eq_31) <| And.intro (@ev.eq_32) <| And.intro (@resultsV.eq_1) <| And.intro (@resL.eq_1) <| And.intro (@resL.eq_2) <| And.intro (@resV.eq_1) <| And.intro (@resV.eq_2) <| And.intro (@vl.eq_1) <| And.intro (@vl.eq_2) <| And.intro (@gt.eq_1) <| And.intro (@gt.eq_2) <| And.intro (@st.eq_1) <| And.intro (@st.eq_2) <| And.intro (@sto.eq_1) <| And.intro (@sto.eq_2) <| And.intro (@fgt.eq_1) <| And.intro (@fgt.eq_2) <| And.intro (@i64.eq_1) <| And.intro (@subCV.eq_1) <| And.intro (@subCV.eq_2) <| And.intro (@mkAgg.eq_1) <| And.intro (@allP.eq_1) <| And.intro (@allP.eq_2) <| And.intro (@allP.eq_3) <| And.intro (@bnd.eq_1) <| And.intro (@bnd.eq_2) <| And.intro (@unV.eq_1) <| And.intro (@unV.eq_2) <| And.intro (@unV.eq_3) <| And.intro (@bsz.eq_1) <| And.intro (@toPs.eq_1) <| And.intro (@toPs.eq_2) <| And.intro (@toP.eq_1) <| And.intro (@toP.eq_2) <| And.intro (@isPure1.eq_1) <| And.intro (@isPure1.eq_2) <| And.intro (@isPure1.eq_3) <| And.intro (@pureL.eq_1) <| And.intro (@pureL.eq_2) <| And.intro (@fill.eq_1) <| And.intro (@fill.eq_2) <| And.intro (@List.elem.eq_1.{0}) <| And.intro (@List.elem.eq_2.{0}) <| And.intro (@List.replicate.eq_1.{0}) <| (@List.replicate.eq_2.{0})) := And.intro (@ev.eq_1) <| And.intro (@ev.eq_2) <| And.intro (@ev.eq_3) <| And.intro (@ev.eq_4) <| And.intro (@ev.eq_5) <| And.intro (@ev.eq_6) <| And.intro (@ev.eq_7) <| And.intro (@ev.eq_8) <| And.intro (@ev.eq_9) <| And.intro (@ev.eq_10) <| And.intro (@ev.eq_11) <| And.intro (@ev.eq_12) <| And.intro (@ev.eq_13) <| And.intro (@ev.eq_14) <| And.intro (@ev.eq_15) <| And.intro (@ev.eq_16) <| And.intro (@ev.eq_17) <| And.intro (@ev.eq_18) <| And.intro (@ev.eq_19) <| And.intro (@ev.eq_20) <| And.intro (@ev.eq_21) <| And.intro (@ev.eq_22) <| And.intro (@ev.eq_23) <| And.intro (@ev.eq_24) <| And.intro (@ev.eq_25) <| And.intro (@ev.eq_26) <| And.intro (@ev.eq_27) <| And.intro (@ev.eq_28) <| And.intro (@ev.eq_29) <| And.intro (@ev.eq_30) <| And.intro (@ev.eq_31) <| And.intro (@ev.eq_32) <| And.intro (@resultsV.eq_1) <| And.intro (@resL.eq_1) <| And.intro (@resL.eq_2) <| And.intro (@resV.eq_1) <| And.intro (@resV.eq_2) <| And.intro (@vl.eq_1) <| And.intro (@vl.eq_2) <| And.intro (@gt.eq_1) <| And.intro (@gt.eq_2) <| And.intro (@st.eq_1) <| And.intro (@st.eq_2) <| And.intro (@sto.eq_1) <| And.intro (@sto.eq_2) <| And.intro (@fgt.eq_1) <| And.intro (@fgt.eq_2) <| And.intro (@i64.eq_1) <| And.intro (@subCV.eq_1) <| And.intro (@subCV.eq_2) <| And.intro (@mkAgg.eq_1) <| And.intro (@allP.eq_1) <| And.intro (@allP.eq_2) <| And.intro (@allP.eq_3) <| And.intro (@bnd.eq_1) <| And.intro (@bnd.eq_2) <| And.intro (@unV.eq_1) <| And.intro (@unV.eq_2) <| And.intro (@unV.eq_3) <| And.intro (@bsz.eq_1) <| And.intro (@toPs.eq_1) <| And.intro (@toPs.eq_2) <| And.intro (@toP.eq_1) <| And.intro (@toP.eq_2) <| And.intro (@isPure1.eq_1) <| And.intro (@isPure1.eq_2) <| And.intro (@isPure1.eq_3) <| And.intro (@pureL.eq_1) <| And.intro (@pureL.eq_2) <| And.intro (@fill.eq_1) <| And.intro (@fill.eq_2) <| And.intro (@List.elem.eq_1.{0}) <| And.intro (@List.elem.eq_2.{0}) <| And.intro (@List.replicate.eq_1.{0}) <| (@List.replicate.eq_2.{0})
theorem S7 : type_of% (And.intro (@frz.eq_1) <| And.intro (@frz.eq_2) <| And.intro (@frz1.eq_1) <| And.intro (@frz1.eq_2) <| And.intro (@frz1.eq_3) <| And.intro (@frz1.eq_4) <| And.intro (@frzL.eq_1) <| And.intro (@frzL.eq_2) <| And.intro (@frzs.eq_1) <| (@frzs.eq_2)) := And.intro (@frz.eq_1) <| And.intro (@frz.eq_2) <| And.intro (@frz1.eq_1) <| And.intro (@frz1.eq_2) <| And.intro (@frz1.eq_3) <| And.intro (@frz1.eq_4) <| And.intro (@frzL.eq_1) <| And.intro (@frzL.eq_2) <| And.intro (@frzs.eq_1) <| (@frzs.eq_2)
theorem S8 : type_of% (And.intro (@kill.eq_1) <| And.intro (@kill.eq_2) <| And.intro (@kill1.eq_1) <| And.intro (@kill1.eq_2) <| And.intro (@killL.eq_1) <| (@kills.eq_1)) := And.intro (@kill.eq_1) <| And.intro (@kill.eq_2) <| And.intro (@kill1.eq_1) <| And.intro (@kill1.eq_2) <| And.intro (@killL.eq_1) <| (@kills.eq_1)
theorem SA : type_of% (And.intro S1 <| And.intro S2 <| And.intro S3 <| And.intro S4 <| And.intro S5 <| And.intro (@r_idx) <| And.intro (@r_mks) <| And.intro S6 <| And.intro S7 S8) := And.intro S1 <| And.intro S2 <| And.intro S3 <| And.intro S4 <| And.intro S5 <| And.intro (@r_idx) <| And.intro (@r_mks) <| And.intro S6 <| And.intro S7 S8
end Go.Proofs.Ytdpdnplljonppaa.Vpi

namespace Go.Proofs.Ytdpdnplljonppaa.Vpi
open Go Go.Deep
set_option linter.unusedVariables false
set_option linter.unusedSimpArgs false
def isSt (P : Program) (t : TypeId) : Bool :=
  match P.underlying t with
  | some (.struct _) => true
  | _ => false
def ofCells (agg : Bool) (ps : List PV) : PV := if agg = true then .agg ps else ps.headD default
def laidFs (P : Program) (q : TypeId → Bool) (tot : Nat) : Nat → List Field → Bool
  | off, [] => off == tot
  | off, f :: fs => f.offset == off && q f.type && laidFs P q tot (off + P.cellsOf f.type) fs
def sup (P : Program) : Nat → TypeId → Bool
  | 0, _ => false
  | n + 1, t =>
    match P.underlying t with
    | some .bool => P.cellsOf t == 1
    | some (.int _) => P.cellsOf t == 1
    | some (.slice e) => sup P n e && decide (0 < P.cellsOf e) && (isSt P e || P.cellsOf e == 1) && P.cellsOf t == 1
    | some (.struct fs) => laidFs P (sup P n) (P.cellsOf t) 0 fs.toList
    | _ => false
def shpL (q : TypeId → List PV → Prop) : List Field → List PV → Prop
  | [], ps => ps = []
  | f :: fs, ps => ∃ a b, ps = a ++ b ∧ q f.type a ∧ shpL q fs b
def shp (P : Program) : Nat → TypeId → List PV → Prop
  | 0, _, _ => False
  | n + 1, t, ps =>
    match P.underlying t with
    | some .bool => ∃ b, ps = [.bool b]
    | some (.int k) => ∃ i, ps = [.int k i] ∧ (Lit.int k i).wf = true
    | some (.slice e) => ∃ es, ps = [.sl es] ∧ es.length ≤ maxLen ∧ ∀ y ∈ es, ∃ qs, y = ofCells (isSt P e) qs ∧ shp P n e qs
    | some (.struct fs) => shpL (shp P n) fs.toList ps
    | _ => False
def RepL (w : World) (G : Nat → Prop) (ps : List PV) (cs : List Value) : Prop :=
  ps.length = cs.length ∧ ∀ (k : Nat) c u, ps[k]? = some c → cs[k]? = some u → RepP w G c u ∧ u.oneCell' = true
section
variable {H : Type} {enc : TypeId × Value → H} {P : Program} {w : World} {G : Nat → Prop} {spare : Nat → Bool}
theorem RepL.append {ps qs : List PV} {cs ds : List Value} (h : RepL w G ps cs) (k : RepL w G qs ds) : RepL w G (ps ++ qs) (cs ++ ds) := by
  refine ⟨by simp [h.1, k.1], fun i c u hc hu => ?_⟩
  rcases Nat.lt_or_ge i ps.length with h1 | h1
  · rw [List.getElem?_append_left h1] at hc
    rw [List.getElem?_append_left (by rw [← h.1]; exact h1)] at hu
    exact h.2 i c u hc hu
  · rw [List.getElem?_append_right h1] at hc
    rw [List.getElem?_append_right (by rw [← h.1]; exact h1), ← h.1] at hu
    exact k.2 _ c u hc hu
theorem RepL.one {p : PV} {v : Value} (h : RepP w G p v) (h1 : v.oneCell' = true) : RepL w G [p] [v] := by
  refine ⟨rfl, fun k c u hc hu => ?_⟩
  cases k with
  | zero => simp at hc hu; subst hc; subst hu; exact ⟨h, h1⟩
  | succ k => simp at hc
theorem open_fields {q : TypeId → List PV → Prop} {sq : TypeId → Bool} {cs : List Value} (ih : ∀ t fuel cs x, sq t = true → DataW.trod enc P w 0 spare true fuel t cs = some x → ∃ ps, q t ps ∧ RepL w G ps cs ∧ cs.length = P.cellsOf t)
    {fuel : Nat} : ∀ (fs : List Field) (off : Nat), laidFs P sq cs.length off fs = true → off ≤ cs.length →
      (∀ f ∈ fs, ∃ x, DataW.trod enc P w 0 spare true fuel f.type ((cs.drop f.offset).take (P.cellsOf f.type)) = some x) → ∃ ps, shpL q fs ps ∧ RepL w G ps (cs.drop off)
  | [], off, hl, hle, _ => by
    simp only [laidFs, beq_iff_eq] at hl
    subst hl
    exact ⟨[], rfl, by simp [RepL]⟩
  | f :: fs, off, hl, hle, hx => by
    simp only [laidFs, Bool.and_eq_true, beq_iff_eq] at hl
    obtain ⟨⟨rfl, hs⟩, hl⟩ := hl
    obtain ⟨x, hx1⟩ := hx f (List.mem_cons_self ..)
    obtain ⟨a, ha, hra, hlen⟩ := ih _ _ _ _ hs hx1
    have hle2 : f.offset + P.cellsOf f.type ≤ cs.length := by
      rw [List.length_take, List.length_drop] at hlen
      omega
    obtain ⟨b, hb, hrb⟩ := open_fields ih fs (f.offset + P.cellsOf f.type) hl hle2 fun g hg => hx g (List.mem_cons_of_mem _ hg)
    refine ⟨a ++ b, ⟨a, b, rfl, ha, hb⟩, ?_⟩
    have := hra.append hrb
    rwa [← List.drop_drop, List.take_append_drop] at this
theorem open_ofCells {agg : Bool} {ps : List PV} {cs : List Value} (h : RepL w G ps cs) (h0 : agg = true ∨ cs.length = 1) : (ofCells agg ps).cells = ps ∨ (agg = false ∧ ∃ c, ps = [.agg c]) := by
  unfold ofCells
  cases agg with
  | true => left; simp [PV.cells]
  | false =>
    have h2 : cs.length = 1 := by simpa using h0
    have h1 := h.1
    rw [h2] at h1
    obtain ⟨p, rfl⟩ := List.length_eq_one_iff.1 h1
    cases p with
    | agg c => right; exact ⟨rfl, c, rfl⟩
    | _ => left; simp [PV.cells]
theorem open_cells {ps : List PV} {cs : List Value} (h : RepL w G ps cs) (h1 : cs.length = 1) {c : List PV} (hc : ps = [.agg c]) : False := by
  subst hc
  obtain ⟨v, rfl⟩ := List.length_eq_one_iff.1 h1
  obtain ⟨h2, h3⟩ := h.2 0 _ _ rfl rfl
  cases h2
  simp [Value.oneCell'] at h3
theorem open_pv (hG : ∀ k arr el fr, w.heap[k]? = some (.cells arr el fr) → G k) : ∀ (n : Nat) (t : TypeId) (fuel : Nat) (cs : List Value) (x : DataW H × List MemPlace), sup P n t = true → DataW.trod enc P w 0 spare true fuel t cs = some x →
    ∃ ps, shp P n t ps ∧ RepL w G ps cs ∧ cs.length = P.cellsOf t
  | 0, t, fuel, cs, x, hs, h => by simp [sup] at hs
  | n + 1, t, 0, cs, x, hs, h => by simp [DataW.trod] at h
  | n + 1, t, fuel + 1, cs, x, hs, h => by
    simp only [sup] at hs
    simp only [shp]
    split at hs
    · rename_i ht
      obtain ⟨b, rfl, _⟩ := DataW.trod_bool ht h
      exact ⟨[.bool b], ⟨_, rfl⟩, RepL.one (.bool _) rfl, (beq_iff_eq.1 hs).symm⟩
    · rename_i k ht
      obtain ⟨i, rfl, _, hw⟩ := DataW.trod_int ht h
      exact ⟨[.int k i], ⟨_, rfl, hw⟩, RepL.one (.int _ _) rfl, (beq_iff_eq.1 hs).symm⟩
    · rename_i e ht
      simp only [Bool.and_eq_true, decide_eq_true_eq, beq_iff_eq, Bool.or_eq_true] at hs
      obtain ⟨⟨⟨hse, hpos⟩, hag⟩, ht1⟩ := hs
      rcases open_slice ht h with ⟨rfl, _⟩ | ⟨a, len, cap, m, n', D, Pl, rfl, _, hlc, hcm, hm, _, hel⟩
      · exact ⟨[.sl []], ⟨[], rfl, by simp [maxLen], by simp⟩, RepL.one (.nil _ _) rfl, ht1.symm⟩
      · have hlm : len ≤ m := by rw [hm]; split <;> omega
        have hq : ∀ i, i < len → ∃ qs : List PV, shp P n e qs ∧ ∃ cs', w.cells? 0 (a.add (i * P.cellsOf e)) (P.cellsOf e) = some cs' ∧ RepL w G qs cs' ∧ cs'.length = P.cellsOf e := by
          intro i hi
          obtain ⟨cs', h1, h2⟩ := hel i (by omega)
          obtain ⟨qs, h3, h4, h5⟩ := open_pv hG n e _ _ _ hse h2
          exact ⟨qs, h3, cs', h1, h4, h5⟩
        obtain ⟨f, hf⟩ := choose_lt hq
        rcases Nat.eq_zero_or_pos len with rfl | hlp
        · exact ⟨[.sl []], ⟨[], rfl, by simp [maxLen], by simp⟩, RepL.one (.nil _ _) rfl, ht1.symm⟩
        have hcell : ∀ i, i < len → ∀ k, k < P.cellsOf e → w.cell? ((a.add (i * P.cellsOf e)).add k) = (w.cell? ((a.add (i * P.cellsOf e)).add k)) ∧ ∃ u, w.cell? ((a.add (i * P.cellsOf e)).add k) = some u := by
          intro i hi k hk
          obtain ⟨_, cs', h1, _, h5⟩ := hf i hi
          obtain ⟨_, _, h6⟩ := World.cells?_some h1
          refine ⟨rfl, ?_⟩
          rw [h6 k hk]
          exact ⟨cs'[k], by simp [h5, hk]⟩
        have hsp : a.spot = none ∧ ∃ arr el fr, w.heap[a.block]? = some (.cells arr el fr) := by
          obtain ⟨_, u, hu⟩ := hcell 0 hlp 0 hpos
          simp only [Nat.zero_mul, Addr.add, if_true, World.cell?] at hu
          split at hu
          · rename_i arr el fr hb
            split at hu
            · cases hu
            · rename_i hsp
              exact ⟨by simpa using hsp, arr, el, fr, hb⟩
          · cases hu
        obtain ⟨hspot, arr, el, fr, hb⟩ := hsp
        have hget : ∀ i, w.cell? ((a.add i)) = arr[a.off + i]? := by
          intro i
          unfold Addr.add
          by_cases hi : i = 0
          · subst hi; simp [World.cell?, hb, hspot]
          · rw [if_neg hi]; simp [World.cell?, hb]
        have hget2 : ∀ i k, w.cell? ((a.add i).add k) = arr[a.off + i + k]? := by
          intro i k
          rw [Deep.add_add, hget, Nat.add_assoc]
        have hagc : ∀ i, i < len → (ofCells (isSt P e) (f i)).cells = f i := by
          intro i hi
          obtain ⟨_, cs', _, h4, h5⟩ := hf i hi
          rcases open_ofCells (agg := isSt P e) h4 (by rw [h5]; exact hag) with h6 | ⟨h6, c, h7⟩
          · exact h6
          · have h9 : cs'.length = 1 := by
              rw [h5]
              rcases hag with h8 | h8
              · rw [h6] at h8; cases h8
              · exact h8
            exact (open_cells h4 h9 h7).elim
        refine ⟨[.sl ((List.range len).map fun i => ofCells (isSt P e) (f i))], ⟨_, rfl, by simp; omega, ?_⟩, RepL.one ?_ rfl, ht1.symm⟩
        · intro y hy
          obtain ⟨i, hi, rfl⟩ := List.mem_map.1 hy
          exact ⟨f i, rfl, (hf i (List.mem_range.1 hi)).1⟩
        · obtain ⟨blk, off, spot⟩ := a
          simp only at hspot hb hget hget2
          subst hspot
          have hl : ((List.range len).map fun i => ofCells (isSt P e) (f i)).length = len := by simp
          have hidx : ∀ (i : Nat) y, ((List.range len).map fun i => ofCells (isSt P e) (f i))[i]? = some y → i < len ∧ y = ofCells (isSt P e) (f i) := by
            intro i y hy
            rw [List.getElem?_map, Option.map_eq_some_iff] at hy
            obtain ⟨j, hj, rfl⟩ := hy
            have hi : i < len := by
              rcases Nat.lt_or_ge i len with h1 | h1
              · exact h1
              · rw [List.getElem?_eq_none (by simpa using h1)] at hj; cases hj
            rw [List.getElem?_range hi] at hj
            cases hj
            exact ⟨hi, rfl⟩
          have hsl : ∀ i, i < len → ∀ k, k < P.cellsOf e → off + i * P.cellsOf e + k < arr.size := by
            intro i hi k hk
            obtain ⟨_, u, hu⟩ := hcell i hi k hk
            rw [hget2] at hu
            rcases Nat.lt_or_ge (off + i * P.cellsOf e + k) arr.size with h1 | h1
            · exact h1
            · rw [Array.getElem?_eq_none (by omega)] at hu; cases hu
          have hfin := RepP.sl (w := w) (G := G) ((List.range len).map fun i => ofCells (isSt P e) (f i)) blk off arr el fr cap (P.cellsOf e) (hG _ _ _ _ hb) hb (by rw [hl]; exact hlc)
          rw [hl] at hfin
          refine hfin ?_ ?_ ?_ ?_
          · have := hsl (len - 1) (by omega) (P.cellsOf e - 1) (by omega)
            have h2 : (len - 1) * P.cellsOf e + P.cellsOf e = len * P.cellsOf e := by
              rw [← Nat.succ_mul]; congr 1; omega
            omega
          · intro i y hy
            obtain ⟨hi, rfl⟩ := hidx i y hy
            rw [hagc i hi]
            obtain ⟨_, cs', _, h4, h5⟩ := hf i hi
            rw [h4.1, h5]
          · intro i y k c u hy hc hu
            obtain ⟨hi, rfl⟩ := hidx i y hy
            rw [hagc i hi] at hc
            obtain ⟨_, cs', h1, h4, h5⟩ := hf i hi
            have hk : k < P.cellsOf e := by
              rw [← h5, ← h4.1]
              rcases Nat.lt_or_ge k (f i).length with h7 | h7
              · exact h7
              · rw [List.getElem?_eq_none h7] at hc; cases hc
            obtain ⟨_, _, h6⟩ := World.cells?_some h1
            have h7 := h6 k hk
            rw [hget2] at h7
            rw [h7] at hu
            exact (h4.2 k c u hc hu).1
          · intro i y k u hy hk hu
            obtain ⟨hi, rfl⟩ := hidx i y hy
            obtain ⟨_, cs', h1, h4, h5⟩ := hf i hi
            obtain ⟨_, _, h6⟩ := World.cells?_some h1
            have h7 := h6 k hk
            rw [hget2] at h7
            rw [h7] at hu
            have hk2 : k < (f i).length := by rw [h4.1, h5]; exact hk
            exact (h4.2 k (f i)[k] u (by simp) hu).2
    · rename_i fs ht
      obtain ⟨xs, n', _, _, hlen, hxl, hf⟩ := DataW.trod_struct ht h
      obtain ⟨ps, h3, h4⟩ := open_fields (q := shp P n) (sq := sup P n) (cs := cs) (fuel := n') (open_pv hG n) fs.toList 0 (by rw [hlen]; exact hs) (Nat.zero_le _) (fun f hfm => by
        obtain ⟨i, hi, rfl⟩ := List.getElem_of_mem hfm
        have hi2 : i < xs.length := by rw [hxl]; simpa using hi
        refine ⟨xs[i], ?_⟩
        rw [hf i _ (by simp)]
        simp)
      exact ⟨ps, h3, by simpa using h4, hlen⟩
    · cases hs
theorem open_agg (hG : ∀ k arr el fr, w.heap[k]? = some (.cells arr el fr) → G k) {n : Nat} {t : TypeId} {vs : Array Value} {d : DataW H} {p : List MemPlace} (hs : sup P n t = true)
    (h : DataW.Trod enc P w 0 spare true t (.agg vs) d p) : ∃ ps, shp P n t ps ∧ RepP w G (.agg ps) (.agg vs) := by
  obtain ⟨fuel, hf⟩ := h
  rw [show (Value.agg vs).cells.toList = vs.toList from rfl] at hf
  obtain ⟨ps, h1, h2, h3⟩ := open_pv hG n t fuel _ _ hs hf
  refine ⟨ps, h1, ?_⟩
  have := RepP.agg (w := w) (G := G) ps vs.toList h2.1 (fun k c v hc hv => (h2.2 k c v hc hv).1) (fun v hv => by
    obtain ⟨k, hk, rfl⟩ := List.getElem_of_mem hv
    have hk2 : k < ps.length := by rw [h2.1]; exact hk
    exact (h2.2 k ps[k] _ (by simp) (by simp)).2)
  simpa using this
end
end Go.Proofs.Ytdpdnplljonppaa.Vpi

namespace Go.Proofs.Ytdpdnplljonppaa.Vpi
open Go Go.RowKit
set_option linter.unusedVariables false
set_option linter.unusedSimpArgs false
theorem back_bool {τ : Store} {v : CV} {b : Bool} (h : back 0 τ v = some (.p (.bool b))) : v = .p (.bool b) := by
  cases v with
  | p x => rw [back_p] at h; cases h; rfl
  | tup vs => simp only [back, Option.map_eq_some_iff] at h; obtain ⟨_, _, h⟩ := h; cases h
  | own b' o n =>
    simp only [back, back1, frz1] at h
    split at h
    · cases h
    · simp only [Option.map_eq_some_iff] at h
      obtain ⟨x, hx, h⟩ := h
      cases h
      split at hx
      · split at hx <;> cases hx
      · cases hx
  | agg cs =>
    simp only [back, back1] at h
    split at h
    · simp only [frz, Option.map_eq_some_iff] at h
      obtain ⟨x, ⟨y, _, rfl⟩, h⟩ := h
      cases h
    · cases h
  | ptr b' i o => simp [back, back1] at h
  | _ => simp [back, back1, frz, frz1] at h
theorem heap_lt {W : World} : ∀ k arr el fr, W.heap[k]? = some (.cells arr el fr) → k < W.heap.size := by
  intro k arr el fr h
  rcases Nat.lt_or_ge k W.heap.size with h1 | h1
  · exact h1
  · rw [Array.getElem?_eq_none h1] at h; cases h
end Go.Proofs.Ytdpdnplljonppaa.Vpi

namespace Go.Proofs.Ytdpdnplljonppaa.Vpi
open Go
set_option linter.unusedVariables false
set_option linter.unusedSimpArgs false
def TabLe (rp rp' : RProg) : Prop := ∀ f rf, rp f = some rf → rp' f = some rf
theorem runK_lift {rp rp' : RProg} (ht : TabLe rp rp') : ∀ (n : Nat) (rs : List RRes) (c : RCode) (ks : List KI) (e : Env) (σ : Store) (x : CV × Store), runK rp n rs c ks e σ = some x → runK rp' n rs c ks e σ = some x := by
  intro n
  induction n with
  | zero => intro rs c ks e σ x h; simp [runK] at h
  | succ n ih =>
    intro rs c ks e σ x h
    have hle : CallerLe (runF rp n) (runF rp' n) := by
      intro f args σ x hx
      unfold runF at hx ⊢
      split at hx
      · rename_i rf hf
        rw [ht _ _ hf]
        exact ih _ _ _ _ _ _ hx
      · cases hx
    cases c with
    | skip =>
      cases ks with
      | nil => simpa only [runK] using h
      | cons k ks =>
        cases k with
        | fin => simpa only [runK] using h
        | code c => simp only [runK] at h ⊢; exact ih _ _ _ _ _ _ h
        | blk i => simp only [runK] at h ⊢; exact ih _ _ _ _ _ _ h
        | sc => simp only [runK] at h ⊢; exact ih _ _ _ _ _ _ h
        | lp c => simp only [runK] at h ⊢; exact ih _ _ _ _ _ _ h
    | reg ops dr =>
      cases dr with
      | none =>
        rw [runK_reg, Option.bind_eq_some_iff] at h
        obtain ⟨p, ho, h⟩ := h
        rw [runK_reg, runO_mono hle ho]
        exact ih _ _ _ _ _ _ h
      | some hx =>
        obtain ⟨hh, xp⟩ := hx
        rw [runK_draw, Option.bind_eq_some_iff] at h
        obtain ⟨p, ho, h⟩ := h
        rw [runK_draw, runO_mono hle ho]
        simp only [Option.bind_some]
        split at h
        · rename_i hp
          rw [if_pos hp]
          exact ih _ _ _ _ _ _ h
        · cases h
    | seq a b => simp only [runK] at h ⊢; exact ih _ _ _ _ _ _ h
    | cond c a b =>
      simp only [runK] at h ⊢
      split at h
      · split at h
        · rename_i hb; rw [if_pos hb]; exact ih _ _ _ _ _ _ h
        · rename_i hb; rw [if_neg hb]; exact ih _ _ _ _ _ _ h
      · cases h
    | block id c => simp only [runK] at h ⊢; exact ih _ _ _ _ _ _ h
    | scope c => simp only [runK] at h ⊢; exact ih _ _ _ _ _ _ h
    | loop c => simp only [runK] at h ⊢; exact ih _ _ _ _ _ _ h
    | exit id =>
      simp only [runK] at h ⊢
      split at h
      · exact ih _ _ _ _ _ _ h
      · cases h
    | ret => simpa only [runK] using h
    | fg keep c => simp only [runK] at h ⊢; exact ih _ _ _ _ _ _ h
    | bret => simpa only [runK] using h
    | bexit id => simpa only [runK] using h
    | iter c => simp [runK] at h
    | yld _ _ _ _ _ => simp [runK] at h
    | frzk t c =>
      simp only [runK] at h ⊢
      split at h
      · split at h
        · split at h
          · split at h
            · rename_i hcond
              try rw [if_pos hcond]
              exact ih _ _ _ _ _ _ h
            · cases h
          · cases h
        · exact ih _ _ _ _ _ _ h
      · exact ih _ _ _ _ _ _ h
    | rng b ps x asg body =>
      have hYle : YLe (runY rp n ps asg body e) (runY rp' n ps asg body e) := by
        intro args τ y hy
        unfold runY at hy ⊢
        split at hy
        · rename_i hl
          rw [if_pos hl]
          split at hy
          · rename_i h1
            simp only [runA_mono hle h1]
            exact ih _ _ _ _ _ _ hy
          · cases hy
        · cases hy
      rw [runK_rng] at h ⊢
      split at h
      · rename_i f cap hx
        try simp only [hx]
        split at h
        · rename_i c hrf
          simp only [ht _ _ hrf]
          split at h
          · rename_i hI
            simp only [runI_mono hle hYle (Nat.le_refl n) hI]
            exact ih _ _ _ _ _ _ h
          · rename_i hI
            simp only [runI_mono hle hYle (Nat.le_refl n) hI]
            exact ih _ _ _ _ _ _ h
          · rename_i hI
            simp only [runI_mono hle hYle (Nat.le_refl n) hI]
            split at h
            · rename_i he
              try simp only [he]
              exact ih _ _ _ _ _ _ h
            · rename_i he
              try simp only [he]
              split at h
              · rename_i hb
                try rw [if_pos hb]
                exact ih _ _ _ _ _ _ h
              · cases h
          · cases h
        · cases h
      · cases h
theorem Rn.lift {rp rp' : RProg} (ht : TabLe rp rp') {f : Nat} {args : List CV} {σ : Store} {Q : CV → Store → Prop} (h : Rn rp f args σ Q) : Rn rp' f args σ Q := by
  obtain ⟨n, v, h1, h2⟩ := h
  refine ⟨n, v, ?_, h2⟩
  unfold runF at h1 ⊢
  split at h1
  · rename_i rf hf
    rw [ht _ _ hf]
    exact runK_lift ht _ _ _ _ _ _ _ h1
  · cases h1
theorem Pu.lift {rp rp' : RProg} (ht : TabLe rp rp') {f : Nat} {ps : List PV} {r : CV} (h : Pu rp f ps r) : Pu rp' f ps r := Rn.lift ht h
section
variable {rp : RProg} {rs : List RRes} {base : Nat} {d : Option Nat} {l : List LOp} {dr : Dr} {ks : List KI} {e : Env} {σ : Store} {Q : CV → Store → Prop}
theorem kc_cell0 {f : Nat} {args : List CV} {ps : List PV} {r : CV} (h : Pu rp f ps r) (ha : toPs args = some ps) (hn : args.flatMap addrs = []) : KC rp rs base .cell f args d l dr ks e σ Q = ExR rp rs base l dr ks (sto d r e) σ Q := by
  rw [← kc_pu (rs := rs) (base := base) (d := d) (l := l) (dr := dr) (ks := ks) (e := e) (σ := σ) (Q := Q) h ha]
  unfold KC Cl
  simp only [doCall, hn]
theorem kc_cell {f : Nat} {args al : List CV} {b s : Nat} {cs cs' : List CV} {v : PV} (hb : args.flatMap addrs = [b]) (hσ : σ[b]? = some (.kblk s cs)) (ha : cellArgs b args = some al) (hp : (allP cs).isSome = true)
    (h : Rn rp f al [.kblk s cs] fun v' τ => v' = .p v ∧ τ[0]? = some (.kblk s cs')) (hp' : (allP cs').isSome = true) :
    KC rp rs base .cell f args d l dr ks e σ Q = ExR rp rs base l dr ks (sto d (.p v) e) (σ.set b (.kblk s cs')) Q := by
  unfold KC
  obtain ⟨m, u, h2, h3, h4⟩ := h
  obtain ⟨q, hq⟩ := Option.isSome_iff_exists.1 hp
  obtain ⟨u1, u2⟩ := u
  simp only [] at h3 h4
  subst h3
  refine propext ⟨?_, fun hk => ⟨m, .p v, σ.set b (.kblk s cs'), ?_, hk⟩⟩
  · rintro ⟨n, v', σ', h1, hk⟩
    simp only [doCall, hb, hσ, ha, hq] at h1
    split at h1
    · rename_i v0 τ hr
      have := runF_det hr h2
      cases this
      simp only [h4, hp', and_self, if_true, Option.some.injEq, Prod.mk.injEq] at h1
      obtain ⟨rfl, rfl⟩ := h1
      exact hk
    · cases h1
  · simp only [doCall, hb, hσ, ha, hq, h2, h4, hp', and_self, if_true]
end
end Go.Proofs.Ytdpdnplljonppaa.Vpi

namespace Go.Proofs.Ytdpdnplljonppaa.Vpi
open Go
set_option linter.unusedVariables false
set_option linter.unusedSimpArgs false
theorem runY_le {rp : RProg} {n m : Nat} (h : n ≤ m) {ps : List Nat} {asg body : RCode} {e : Env} : YLe (runY rp n ps asg body e) (runY rp m ps asg body e) := by
  intro args τ y hy
  unfold runY at hy ⊢
  split at hy
  · rename_i hl
    rw [if_pos hl]
    split at hy
    · rename_i h1
      simp only [runA_mono (runF_le h) h1]
      exact runK_le h hy
    · cases hy
  · cases hy
/-! ### what a round begins with, and its body -/
def asgOk : RCode → Bool
  | .skip => true
  | .reg _ none => true
  | .seq a b => asgOk a && asgOk b
  | _ => false
theorem runA_of {rp : RProg} : ∀ {asg : RCode} {c : RCode} {ks : List KI} {e : Env} {σ : Store} {n : Nat} {rs : List RRes} {r : CV × Store}, asgOk asg = true → runK rp n rs asg (.code c :: ks) e σ = some r → ∃ e1 σ1, runA (runF rp n) asg e σ = some (e1, σ1) ∧ runK rp n rs c ks e1 σ1 = some r
  | .skip, c, ks, e, σ, 0, rs, r, _, h => by simp [runK] at h
  | .skip, c, ks, e, σ, n + 1, rs, r, _, h => by
    simp only [runK] at h
    exact ⟨e, σ, rfl, runK_le (Nat.le_succ n) h⟩
  | .reg L none, c, ks, e, σ, 0, rs, r, _, h => by simp [runK] at h
  | .reg L none, c, ks, e, σ, n + 1, rs, r, _, h => by
    rw [runK_reg, Option.bind_eq_some_iff] at h
    obtain ⟨p, ho, h⟩ := h
    cases n with
    | zero => simp [runK] at h
    | succ n =>
      simp only [runK] at h
      refine ⟨p.1, p.2, ?_, runK_le (by omega) h⟩
      simp only [runA]
      exact runO_mono (runF_le (Nat.le_succ _)) ho
  | .seq a b, c, ks, e, σ, 0, rs, r, _, h => by simp [runK] at h
  | .seq a b, c, ks, e, σ, n + 1, rs, r, hk, h => by
    simp only [asgOk, Bool.and_eq_true] at hk
    simp only [runK] at h
    obtain ⟨e1, σ1, h1, h2⟩ := runA_of (asg := a) hk.1 h
    obtain ⟨e2, σ2, h3, h4⟩ := runA_of (asg := b) hk.2 h2
    refine ⟨e2, σ2, ?_, runK_le (Nat.le_succ n) h4⟩
    simp only [runA, runA_mono (runF_le (Nat.le_succ n)) h1, runA_mono (runF_le (Nat.le_succ n)) h3]
  | .reg _ (some _), _, _, _, _, _, _, _, hk, _ => by simp [asgOk] at hk
  | .cond _ _ _, _, _, _, _, _, _, _, hk, _ => by simp [asgOk] at hk
  | .block _ _, _, _, _, _, _, _, _, hk, _ => by simp [asgOk] at hk
  | .scope _, _, _, _, _, _, _, _, hk, _ => by simp [asgOk] at hk
  | .loop _, _, _, _, _, _, _, _, hk, _ => by simp [asgOk] at hk
  | .exit _, _, _, _, _, _, _, _, hk, _ => by simp [asgOk] at hk
  | .ret, _, _, _, _, _, _, _, hk, _ => by simp [asgOk] at hk
  | .fg _ _, _, _, _, _, _, _, _, hk, _ => by simp [asgOk] at hk
  | .rng _ _ _ _ _, _, _, _, _, _, _, _, hk, _ => by simp [asgOk] at hk
  | .iter _, _, _, _, _, _, _, _, hk, _ => by simp [asgOk] at hk
  | .yld _ _ _ _ _, _, _, _, _, _, _, _, hk, _ => by simp [asgOk] at hk
  | .bret, _, _, _, _, _, _, _, hk, _ => by simp [asgOk] at hk
  | .bexit _, _, _, _, _, _, _, _, hk, _ => by simp [asgOk] at hk
  | .frzk _ _, _, _, _, _, _, _, _, hk, _ => by simp [asgOk] at hk
theorem runY_of {rp : RProg} {ps : List Nat} {asg body : RCode} {e : Env} {args : List CV} {σ : Store} {K : CV → Store → Prop} (hl : args.length = ps.length) (ha : asgOk asg = true) (h : Ex rp [] (.seq asg body) [.fin] (stL ps args e) σ K) :
    ∃ n r, runY rp n ps asg body e args σ = some r ∧ K r.1 r.2 := by
  obtain ⟨n, r, h1, h2⟩ := h
  cases n with
  | zero => simp [runK] at h1
  | succ n =>
    simp only [runK] at h1
    obtain ⟨e1, σ1, h3, h4⟩ := runA_of ha h1
    refine ⟨n, r, ?_, h2⟩
    unfold runY
    rw [if_pos hl]
    simp only [h3]
    exact h4
theorem ex_fin {rp : RProg} {rs : List RRes} {e : Env} {σ : Store} {Q : CV → Store → Prop} : Ex rp rs .skip [.fin] e σ Q = Q (.p (.bool true)) σ := by
  rw [ex_done (o := some (.p (.bool true), σ)) fun n => by simp only [runK]]
  exact propext ⟨fun ⟨v, h1, h2⟩ => by cases h1; exact h2, fun h => ⟨_, rfl, h⟩⟩
/-! ### own rows become values -/
/-! ### the iterator over a list -/
def elC (σ : Store) : CV → Nat → Option CV
  | .p (.sl es), i =>
    match es[i]? with
    | some v => if v.cells.length = 1 then (subPV false 1 v 0).map .p else none
    | none => none
  | .own b off n, i =>
    if i < n ∧ bsz σ b = some 1 then
      match σ[b]? with
      | some (.prow _ es) =>
        match es[off + i]? with
        | some x => (subPV false 1 x 0).map .p
        | none => none
      | some (.kblk s cs) => subCV false 1 cs ((off + i) * s + 0)
      | _ => none
    else none
  | _, _ => none
section
variable {call : Caller} {e : Env} {σ : Store} {base : Nat} {c : CV} {n i : Nat}
def EnvI (e : Env) (c : CV) (n i : Nat) : Prop := gt e 5 = c ∧ gt e 6 = i64 (n : Int) ∧ gt e 7 = i64 (i : Int)
theorem EnvI.forget {keep : List Nat} (h : EnvI e c n i) (h5 : keep.elem 5 = true) (h6 : keep.elem 6 = true) (h7 : keep.elem 7 = true) : EnvI (fgt keep e) c n i := by
  have key : ∀ k, keep.elem k = true → gt (fgt keep e) k = gt e k := by
    intro k hk
    clear h
    induction e with
    | nil => rfl
    | cons a l ih =>
      obtain ⟨j, u⟩ := a
      simp only [fgt]
      by_cases hj : j = k
      · subst hj
        rw [if_pos hk]
        simp only [gt, if_true]
      · by_cases hkj : keep.elem j = true
        · rw [if_pos hkj]
          simp only [gt, if_neg hj]
          exact ih
        · rw [if_neg hkj]
          simp only [gt, if_neg hj]
          exact ih
  exact ⟨(key 5 h5).trans h.1, (key 6 h6).trans h.2.1, (key 7 h7).trans h.2.2⟩
theorem EnvI.put {d : Nat} {v : CV} (h : EnvI e c n i) (h5 : d ≠ 5) (h6 : d ≠ 6) (h7 : d ≠ 7) : EnvI (st d v e) c n i := by
  refine ⟨?_, ?_, ?_⟩ <;> rw [gt_st, if_neg (by omega)]
  · exact h.1
  · exact h.2.1
  · exact h.2.2
theorem each_r1 (h : EnvI e c n i) : runO call base [⟨some 8, none, none, .bin .lss (.t 7) (.t 6)⟩] e σ = some (st 8 (.p (.bool (decide ((i : Int) < (n : Int))))) e, σ) := by
  simp only [runO, evL, ev1, ev, vl, h.2.1, h.2.2, i64, Option.map_some, sto]
  rfl
theorem each_post {b : Bool} (h : gt e 15 = .p (.bool b)) : runO call base [⟨some 16, none, none, .un .not (.t 15)⟩] e σ = some (st 16 (.p (.bool (!b))) e, σ) := by
  simp only [runO, evL, ev1, ev, vl, h, Option.map_some, sto]
  rfl
theorem each_r4 (h : EnvI e c n i) (hi : i < 9223372036854775807) : ∃ e', runO call base [⟨some 17, none, none, .bin .add (.t 7) (.c (.p (.int .i64 1)))⟩, ⟨some 7, none, none, .mv (.t 17)⟩] e σ = some (e', σ) ∧ EnvI e' c n (i + 1) := by
  have w : IntKind.i64.wrap ((i : Int) + 1) = ((i + 1 : Nat) : Int) := by rw [IntWalk.i64_in _ (by omega)]; omega
  have hb : ev base none (.bin .add (.t 7) (.c (.p (.int .i64 1)))) e σ = some (i64 ((i + 1 : Nat) : Int), σ) := by
    simp only [ev, vl, h.2.2, i64]
    show Option.map _ (some (PV.int IntKind.i64 (IntKind.i64.wrap ((i : Int) + 1)))) = _
    rw [w]; rfl
  have mv : ∀ (t : Nat) (e : Env), ev base none (.mv (.t t)) e σ = some (gt e t, σ) := fun _ _ => rfl
  refine ⟨st 7 (i64 ((i + 1 : Nat) : Int)) (st 17 (i64 ((i + 1 : Nat) : Int)) e), ?_, ?_⟩
  · simp only [runO, evL, ev1, hb, mv, Option.map_some, sto, gt_st]
    simp
  · refine ⟨?_, ?_, ?_⟩
    · rw [gt_st, if_neg (by decide), gt_st, if_neg (by decide)]; exact h.1
    · rw [gt_st, if_neg (by decide), gt_st, if_neg (by decide)]; exact h.2.1
    · rw [gt_st, if_pos rfl]
theorem callerLe_refl {r : Caller} : CallerLe r r := fun _ _ _ _ h => h
theorem yLe_refl {Y : List CV → Store → Option (CV × Store)} : YLe Y Y := fun _ _ _ h => h
variable {Y : List CV → Store → Option (CV × Store)} {L : RCode} {m : Nat} {τ : Store}
variable {pd : Option CV} {ks : List KI}
theorem ri_fg {k : List Nat} {q : RCode} : runI call Y (m + 1) pd (.fg k q) ks e σ = runI call Y m pd q ks (fgt k e) σ := by simp only [runI]
theorem ri_seq {a b : RCode} : runI call Y (m + 1) pd (.seq a b) ks e σ = runI call Y m pd a (.code b :: ks) e σ := by simp only [runI]
theorem ri_code {a : RCode} : runI call Y (m + 1) pd .skip (.code a :: ks) e σ = runI call Y m pd a ks e σ := by simp only [runI]
theorem ri_blk {a : Nat} : runI call Y (m + 1) pd .skip (.blk a :: ks) e σ = runI call Y m pd .skip ks e σ := by simp only [runI]
theorem ri_lp {a : RCode} : runI call Y (m + 1) pd .skip (.lp a :: ks) e σ = runI call Y m pd a (.lp a :: ks) e σ := by simp only [runI]
theorem ri_loop {a : RCode} : runI call Y (m + 1) pd (.loop a) ks e σ = runI call Y m pd a (.lp a :: ks) e σ := by simp only [runI]
theorem ri_nil : runI call Y (m + 1) pd .skip [] e σ = some (pd, σ) := by simp only [runI]
theorem ri_ret : runI call Y (m + 1) pd .ret ks e σ = some (pd, σ) := by simp only [runI]
theorem ri_block {k : Nat} {a : RCode} : runI call Y (m + 1) pd (.block k a) ks e σ = runI call Y m pd a (.blk k :: ks) e σ := by simp only [runI]
theorem ri_exit {k : Nat} {ks' : List KI} (h : exitK k ks = some ks') : runI call Y (m + 1) pd (.exit k) ks e σ = runI call Y m pd .skip ks' e σ := by simp only [runI, h]
theorem ri_cond {x : Opd} {a b : RCode} {t : Bool} (h : vl e x = .p (.bool t)) : runI call Y (m + 1) pd (.cond x a b) ks e σ = if t = true then runI call Y m pd a ks e σ else runI call Y m pd b ks e σ := by simp only [runI, h]
theorem ri_reg {l : List LOp} {e' : Env} {σ' : Store} (h : runO call σ.length l e σ = some (e', σ')) : runI call Y (m + 1) pd (.reg l none) ks e σ = runI call Y m pd .skip ks e' σ' := by simp only [runI, h]
theorem ri_yld {y d : Nat} {pre post : List LOp} {args : List Opd} {e1 e3 : Env} {σ1 σ2 σ3 : Store} {out : CV} (h1 : runO call σ.length pre (st y .any e) σ = some (e1, σ1)) (h2 : Y (args.map (vl e1)) σ1 = some (out, σ2)) (h3 : runO call σ2.length post (st d (.p (.bool (isT out))) e1) σ2 = some (e3, σ3)) :
    runI call Y (m + 1) none (.yld y pre d args post) ks e σ = runI call Y m (if isT out = true then none else some out) .skip ks e3 σ3 := by simp only [runI, h1, h2, h3]
end
section
variable {rp : RProg} {ps : List Nat} {asg body : RCode} {e0 : Env} {c : CV} {n : Nat} {I : Nat → Store → Prop} {J : Store → Prop}
end
end Go.Proofs.Ytdpdnplljonppaa.Vpi

namespace Go.Proofs.Ytdpdnplljonppaa.Vpi
open Go Go.RowKit
set_option linter.unusedVariables false
set_option linter.unusedSimpArgs false
theorem pu_closed {rp : RProg} {n f : Nat} {ps : List PV} {r : CV} (h : (runF rp n f (ps.map .p) []).bind (fun x => back 0 x.2 x.1) = some r) : Pu rp f ps r := by
  obtain ⟨x, h1, h2⟩ := Option.bind_eq_some_iff.1 h
  exact ⟨n, x, h1, h2⟩
theorem call_pu {P : Program} {rp : RProg} (sim : ∀ m, CallSim P (runF rp m)) {w : World} {G : Nat → Prop} (hg : ∀ k, G k → k < w.heap.size) {f : Nat} {ps : List PV} {vs : List Value} {r : CV} (h : Pu rp f ps r) (hl : ps.length = vs.length)
    (hr : ∀ (k : Nat) p v, ps[k]? = some p → vs[k]? = some v → RepP w G p v) :
    Calls P f vs.toArray w fun e w' => ∃ v G', e = .returned v ∧ (∀ k, G' k → k < w'.heap.size) ∧ (∀ k, G k → G' k) ∧ RepC w' G' [] r v ∧ Below w.heap.size w w' := by
  obtain ⟨m, x, hrun, hb⟩ := h
  have hst : St w G [] [] := ⟨hg, rfl, by simp, by simp⟩
  have hd : doCall (runF rp m) .pu f (ps.map .p) [] = some (r, []) := by
    have ht : ∀ l : List PV, toPs (l.map .p) = some l := by
      intro l
      induction l with
      | nil => rfl
      | cons a l ih => simp only [List.map_cons, toPs, toP, isPure1, ih, Option.map_some]
    simp only [doCall, ht, hrun, hb, Option.map_some]
  have hc := sim_call (sim m) hd hst (vs := vs) (by simpa using hl) (by
    intro k c v hk hv
    rw [List.getElem?_map, Option.map_eq_some_iff] at hk
    obtain ⟨p, hp, rfl⟩ := hk
    exact .p _ _ (hr k p v hp hv))
  refine hc.2.mono ?_
  rintro e w' ⟨v, G', ρ', rfl, s1, x1, r1⟩
  have hρ : ρ' = [] := List.eq_nil_of_length_eq_zero s1.len
  subst hρ
  refine ⟨v, G', rfl, s1.g, x1.grow, r1, x1.wld.1, x1.wld.2.1, x1.wld.2.2, x1.heap, fun k hk => x1.below k hk ?_⟩
  rintro ⟨i, o, t, s, h⟩
  simp at h
theorem repC_p {w : World} {G : Nat → Prop} {ρ : List Loc} {x : PV} {v : Value} (h : RepC w G ρ (.p x) v) : RepP w G x v := by cases h; assumption
theorem repP_sl {w : World} {G : Nat → Prop} {es : List PV} {v : Value} (h : RepP w G (.sl es) v) : ∃ a cap, v = .slice a es.length cap := by
  cases h with
  | nil a cap => exact ⟨a, cap, rfl⟩
  | sl => exact ⟨_, _, rfl⟩
theorem repP_int {w : World} {G : Nat → Prop} {k : IntKind} {n : Int} {v : Value} (h : RepP w G (.int k n) v) : v = .int k n := by cases h; rfl
end Go.Proofs.Ytdpdnplljonppaa.Vpi

namespace Go.Proofs.Ytdpdnplljonppaa.Vpi
open Go
set_option linter.unusedVariables false
set_option linter.unusedSimpArgs false
abbrev opsR : List LOp := [⟨some 9, none, none, .indexA 1 (.t 5) (.t 7)⟩, ⟨some 10, none, none, .load false 1 (.t 9)⟩, ⟨some 4, none, none, .mv (.t 10)⟩]
abbrev opsY (g : Nat) : List LOp := [⟨some 12, none, none, .mv (.t 4)⟩, ⟨some 13, none, none, .call .pu g [.t 12]⟩, ⟨some 14, none, none, .mv (.t 4)⟩]
def headL (g : Nat) : RCode := .fg [0, 5, 6, 7] (.seq (.reg [⟨some 8, none, none, .bin .lss (.t 7) (.t 6)⟩] none)
  (.seq (.cond (.t 8) .skip (.exit 0))
  (.fg [0, 5, 6, 7] (.seq (.block 1
    (.seq (.reg opsR none)
    (.seq (.yld 11 (opsY g) 15 [.t 13, .t 14] [⟨some 16, none, none, .un .not (.t 15)⟩])
    (.fg [0, 5, 6, 7, 16] (.cond (.t 16) .ret .skip)))))
  (.fg [0, 5, 6, 7] (.reg [⟨some 17, none, none, .bin .add (.t 7) (.c (.p (.int .i64 1)))⟩, ⟨some 7, none, none, .mv (.t 17)⟩] none))))))
def headC (g : Nat) : RCode := .seq (.reg [⟨some 5, none, none, .load false 1 (.t 1)⟩, ⟨some 6, none, none, .len (.t 5)⟩, ⟨some 7, none, none, .mv (.c (.p (.int .i64 0)))⟩] none)
  (.fg [0, 5, 6, 7] (.block 0 (.loop (headL g))))
section
variable {call : Caller} {e : Env} {σ : Store} {base : Nat} {c : CV} {n i g : Nat}
theorem head_r2 {v : CV} (h : EnvI e c n i) (hv : elC σ c i = some v) : ∃ e', runO call base opsR e σ = some (e', σ) ∧ EnvI e' c n i ∧ gt e' 4 = v := by
  have key : ∃ q, ev base none (.indexA 1 (.t 5) (.t 7)) e σ = some (q, σ) ∧ ev base none (.load false 1 (.t 9)) (st 9 q e) σ = some (v, σ) := by
    have h7 : (gt e 7).num = some (i : Int) := by rw [h.2.2]; rfl
    have h5 : gt e 5 = c := h.1
    have h10 : ∀ q, gt (st 9 q e) 9 = q := fun q => by rw [gt_st, if_pos rfl]
    simp only [ev, vl, h5, h7, h10, Int.natCast_nonneg, if_true, Int.toNat_natCast]
    unfold elC at hv
    split at hv
    · split at hv
      · rename_i x hx
        split at hv
        · rename_i hl
          rw [Option.map_eq_some_iff] at hv
          obtain ⟨w, hw, rfl⟩ := hv
          refine ⟨.rp x 0, by simp only [hx, hl, if_true], by simp only [hw, Option.map_some]⟩
        · cases hv
      · cases hv
    · split at hv
      · rename_i hc
        refine ⟨_, by simp only [hc, if_true, and_self]; rfl, ?_⟩
        simp only []
        split at hv
        · rename_i s es hb
          simp only [hb]
          split at hv
          · rename_i x hx
            simp only [hx]
            rw [Option.map_eq_some_iff] at hv
            obtain ⟨w, hw, rfl⟩ := hv
            simp only [hw, Option.map_some]
          · cases hv
        · rename_i s cs hb
          simp only [hb, hv, Option.map_some]
        · cases hv
      · cases hv
    · cases hv
  obtain ⟨q, k1, k2⟩ := key
  refine ⟨st 4 v (st 10 v (st 9 q e)), ?_, ?_, ?_⟩
  · have mv : ∀ (t : Nat) (e : Env), ev base none (.mv (.t t)) e σ = some (gt e t, σ) := fun _ _ => rfl
    simp only [runO, evL, ev1, mv, k1, k2, Option.map_some, sto, gt_st]
    simp
  · exact ((h.put (by decide) (by decide) (by decide)).put (by decide) (by decide) (by decide)).put (by decide) (by decide) (by decide)
  · rw [gt_st, if_pos rfl]
theorem head_pre {u v : CV} (h4 : gt e 4 = v) (hc : doCall call .pu g [v] σ = some (u, σ)) : runO call base (opsY g) (st 11 .any e) σ = some (st 14 v (st 13 u (st 12 v (st 11 .any e))), σ) := by
  have mv : ∀ (t : Nat) (e : Env), ev base none (.mv (.t t)) e σ = some (gt e t, σ) := fun _ _ => rfl
  have hc' : doCall call .pu g [vl (st 12 v (st 11 .any e)) (.t 12)] σ = some (u, σ) := by
    rw [show vl (st 12 v (st 11 .any e)) (.t 12) = v by simp only [vl, gt_st, if_true]]
    exact hc
  have g4 : ∀ q, gt (st 13 u (st 12 q (st 11 .any e))) 4 = v := fun q => by rw [gt_st, if_neg (by decide), gt_st, if_neg (by decide), gt_st, if_neg (by decide), h4]
  have g4' : gt (st 11 .any e) 4 = v := by rw [gt_st, if_neg (by decide), h4]
  simp only [runO, evL, ev1, mv, Option.map_some, sto, g4', List.map_cons, List.map_nil, hc', g4]
variable {Y : List CV → Store → Option (CV × Store)} {L : RCode} {m : Nat} {τ : Store}
theorem head_exit (h : EnvI e c n n) : runI call Y (m + 12) none (headL g) [.lp L, .blk 0] e τ = some (none, τ) := by
  have h1 := each_r1 (call := call) (base := τ.length) (σ := τ) (h.forget (keep := [0, 5, 6, 7]) rfl rfl rfl)
  have hf : decide ((n : Int) < (n : Int)) = false := by simp
  rw [hf] at h1
  have hc8 : ∀ e : Env, vl (st 8 (.p (.bool false)) e) (.t 8) = .p (.bool false) := fun e => by simp only [vl, gt_st, if_true]
  unfold headL
  rw [ri_fg, ri_seq, ri_reg h1, ri_code, ri_seq, ri_cond (hc8 _), if_neg (by decide), ri_exit (ks' := []) (by simp [exitK]), ri_nil]
theorem head_step {u v : CV} {out : CV} {τ1 : Store} {r : Option CV × Store} (h : EnvI e c n i) (hi : i < n) (hn : n < 9223372036854775807) (hv : elC τ c i = some v) (hu : doCall call .pu g [v] τ = some (u, τ)) (hY : Y [u, v] τ = some (out, τ1))
    (hr : (isT out = true ∧ ∀ e', EnvI e' c n (i + 1) → runI call Y m none L [.lp L, .blk 0] e' τ1 = some r) ∨ (isT out = false ∧ r = (some out, τ1))) : runI call Y (m + 40) none (headL g) [.lp L, .blk 0] e τ = some r := by
  have h0 := h.forget (keep := [0, 5, 6, 7]) rfl rfl rfl
  have h1 := fun base => each_r1 (call := call) (base := base) (σ := τ) h0
  have ht : decide ((i : Int) < (n : Int)) = true := by simp [hi]
  have hE2 := (h0.put (d := 8) (v := .p (.bool true)) (by decide) (by decide) (by decide)).forget (keep := [0, 5, 6, 7]) rfl rfl rfl
  have h2 : ∃ e2, (∀ base, runO call base opsR (fgt [0, 5, 6, 7] (st 8 (.p (.bool true)) (fgt [0, 5, 6, 7] e))) τ = some (e2, τ)) ∧ EnvI e2 c n i ∧ gt e2 4 = v := by
    obtain ⟨e2, q1, q2, q4⟩ := head_r2 (call := call) (base := 0) (σ := τ) hE2 hv
    refine ⟨e2, fun base => ?_, q2, q4⟩
    rw [← q1]
    rfl
  obtain ⟨e2, h2, hE3, g4⟩ := h2
  have h3 := fun base => head_pre (call := call) (base := base) (σ := τ) g4 hu
  have hargs : List.map (vl (st 14 v (st 13 u (st 12 v (st 11 .any e2))))) [.t 13, .t 14] = [u, v] := by
    simp only [List.map_cons, List.map_nil, vl, gt_st]
    simp
  have g15 : ∀ b, gt (st 15 (.p (.bool b)) (st 14 v (st 13 u (st 12 v (st 11 .any e2))))) 15 = .p (.bool b) := fun b => by rw [gt_st, if_pos rfl]
  have h4 := fun base b => each_post (call := call) (base := base) (σ := τ1) (g15 b)
  have hE5 : ∀ b, EnvI (st 16 (.p (.bool (!b))) (st 15 (.p (.bool b)) (st 14 v (st 13 u (st 12 v (st 11 .any e2)))))) c n i := fun b => (((((hE3.put (by decide) (by decide) (by decide)).put (by decide) (by decide) (by decide)).put (by decide) (by decide) (by decide)).put (by decide) (by decide) (by decide)).put (by decide) (by decide) (by decide)).put (by decide) (by decide) (by decide)
  have g16 : ∀ b, gt (fgt [0, 5, 6, 7, 16] (st 16 (.p (.bool (!b))) (st 15 (.p (.bool b)) (st 14 v (st 13 u (st 12 v (st 11 .any e2))))))) 16 = .p (.bool (!b)) := fun b => by
    have key : ∀ (e : Env) (k : Nat), ([0, 5, 6, 7, 16] : List Nat).elem k = true → gt (fgt [0, 5, 6, 7, 16] e) k = gt e k := by
      intro e k hk
      induction e with
      | nil => rfl
      | cons a l ih =>
        obtain ⟨j, u⟩ := a
        simp only [fgt]
        by_cases hj : j = k
        · subst hj
          rw [if_pos hk]
          simp only [gt, if_true]
        · by_cases hkj : ([0, 5, 6, 7, 16] : List Nat).elem j = true
          · rw [if_pos hkj]
            simp only [gt, if_neg hj]
            exact ih
          · rw [if_neg hkj]
            simp only [gt, if_neg hj]
            exact ih
    rw [key _ 16 rfl, gt_st, if_pos rfl]
  rw [ht] at h1
  have hy := ri_yld (call := call) (Y := Y) (m := m + 25) (ks := [.code (.fg [0, 5, 6, 7, 16] (.cond (.t 16) .ret .skip)), .blk 1, .code (.fg [0, 5, 6, 7] (.reg [⟨some 17, none, none, .bin .add (.t 7) (.c (.p (.int .i64 1)))⟩, ⟨some 7, none, none, .mv (.t 17)⟩] none)), .lp L, .blk 0]) (y := 11) (d := 15) (pre := opsY g) (post := [⟨some 16, none, none, .un .not (.t 15)⟩]) (args := [.t 13, .t 14]) (h3 τ.length) (by rw [hargs]; exact hY) (h4 τ1.length (isT out))
  have hc8 : ∀ e : Env, vl (st 8 (.p (.bool true)) e) (.t 8) = .p (.bool true) := fun e => by simp only [vl, gt_st, if_true]
  have st0 : runI call Y (m + 40) none (headL g) [.lp L, .blk 0] e τ = runI call Y (m + 25) (if isT out = true then none else some out) .skip [.code (.fg [0, 5, 6, 7, 16] (.cond (.t 16) .ret .skip)), .blk 1, .code (.fg [0, 5, 6, 7] (.reg [⟨some 17, none, none, .bin .add (.t 7) (.c (.p (.int .i64 1)))⟩, ⟨some 7, none, none, .mv (.t 17)⟩] none)), .lp L, .blk 0] (st 16 (.p (.bool (!isT out))) (st 15 (.p (.bool (isT out))) (st 14 v (st 13 u (st 12 v (st 11 .any e2)))))) τ1 := by
    rw [← hy]
    unfold headL
    rw [ri_fg, ri_seq, ri_reg (h1 _), ri_code, ri_seq, ri_cond (hc8 _), if_pos rfl, ri_code, ri_fg, ri_seq, ri_block, ri_seq, ri_reg (h2 _), ri_code, ri_seq]
  rw [st0, ri_code, ri_fg, ri_cond (show vl _ (.t 16) = _ from g16 (isT out))]
  rcases hr with ⟨ho, hr⟩ | ⟨ho, rfl⟩
  · have hE6 := ((hE5 true).forget (keep := [0, 5, 6, 7, 16]) rfl rfl rfl).forget (keep := [0, 5, 6, 7]) rfl rfl rfl
    obtain ⟨e7, h7, hE7⟩ := each_r4 (call := call) (base := τ1.length) (σ := τ1) hE6 (by omega)
    rw [ho] at *
    simp only [Bool.not_true, Bool.false_eq_true, if_false, if_true] at h7 ⊢
    rw [ri_blk, ri_code, ri_fg, ri_reg h7, ri_lp]
    exact runI_mono callerLe_refl yLe_refl (by omega) (hr e7 hE7)
  · rw [ho]
    simp only [Bool.not_false, if_true, Bool.false_eq_true, if_false]
    rw [ri_ret]
end
section
variable {rp : RProg} {ps : List Nat} {asg body : RCode} {e0 : Env} {c : CV} {n g : Nat} {I : Nat → Store → Prop} {J : Store → Prop}
theorem docall_pu {f : Nat} {p r : PV} {σ : Store} (h : Pu rp f [p] (.p r)) : ∃ m, doCall (runF rp m) .pu f [.p p] σ = some (.p r, σ) := by
  obtain ⟨m, x, hrun, hb⟩ := h
  refine ⟨m, ?_⟩
  have hrun' : runF rp m f (List.map .p [p]) [] = some x := hrun
  simp only [doCall, toPs, toP, isPure1, Option.map_some, hrun', hb]
theorem head_loop (hn : n < 9223372036854775807)
    (hb : ∀ i τ, i < n → I i τ → ∃ u v, elC τ c i = some v ∧ ∃ m r, doCall (runF rp m) .pu g [v] τ = some (u, τ) ∧ runY rp m ps asg body e0 [u, v] τ = some r ∧ ((r.1 = .p (.bool true) ∧ I (i + 1) r.2) ∨ (r.1 = .p (.bool false) ∧ J r.2))) :
    ∀ (k i : Nat) (τ : Store), i + k = n → I i τ → ∃ m pd τ', (∀ e, EnvI e c n i → runI (runF rp m) (runY rp m ps asg body e0) m none (headL g) [.lp (headL g), .blk 0] e τ = some (pd, τ')) ∧ ((pd = none ∧ I n τ') ∨ (pd = some (.p (.bool false)) ∧ J τ'))
  | 0, i, τ, hk, hI => by
    obtain rfl : i = n := by omega
    exact ⟨12, none, τ, fun e hE => head_exit (m := 0) hE, .inl ⟨rfl, hI⟩⟩
  | k + 1, i, τ, hk, hI => by
    obtain ⟨u, v, hv, m1, ⟨out, τ1⟩, hu, hY, hr⟩ := hb i τ (by omega) hI
    simp only [] at hr
    rcases hr with ⟨rfl, hI1⟩ | ⟨rfl, hJ⟩
    · obtain ⟨m2, pd, τ', h2, hR⟩ := head_loop hn hb k (i + 1) τ1 (by omega) hI1
      refine ⟨max m1 m2 + 40, pd, τ', fun e hE => ?_, hR⟩
      refine head_step (m := max m1 m2) hE (by omega) hn hv (doCall_mono (runF_le (by omega)) hu) (runY_le (by omega) _ _ _ hY) (.inl ⟨rfl, fun e' he' => ?_⟩)
      exact runI_mono (runF_le (by omega)) (runY_le (by omega)) (by omega) (h2 e' he')
    · exact ⟨m1 + 40, some (.p (.bool false)), τ1, fun e hE => head_step (m := m1) hE (by omega) hn hv (doCall_mono (runF_le (by omega)) hu) (runY_le (by omega) _ _ _ hY) (.inr ⟨rfl, rfl⟩), .inr ⟨rfl, hJ⟩⟩
theorem x_head {rs : List RRes} {b : Bool} {x : Opd} {ks : List KI} {e : Env} {σ : Store} {Q : CV → Store → Prop} {gf bx : Nat} (hgf : rp gf = some ⟨.iter (headC g), []⟩) (hx : vl e x = .fn gf [.ptr bx 0 0]) (hbx : σ[bx]? = some (.kblk 1 [c])) (hlen : lenV c = some n) (hn : n < 9223372036854775807) (hps : ps.length = 2) (ha : asgOk asg = true) (I : Nat → Store → Prop) (J : Store → Prop) (h0 : I 0 σ)
    (hbody : ∀ i τ, i < n → I i τ → ∃ p r, elC τ c i = some (.p p) ∧ Pu rp g [p] (.p r) ∧ Ex rp [] (.seq asg body) [.fin] (stL ps [.p r, .p p] e) τ (fun out τ' => (out = .p (.bool true) ∧ I (i + 1) τ') ∨ (out = .p (.bool false) ∧ J τ')))
    (hend : ∀ τ, I n τ → Ex rp rs .skip ks e τ Q) (hret : ∀ τ, J τ → Ex rp rs (if b = true then .bret else .ret) ks e τ Q) : Ex rp rs (.rng b ps x asg body) ks e σ Q := by
  obtain ⟨m, pd, τ, h1, h2⟩ := head_loop (g := g) (rp := rp) (ps := ps) (asg := asg) (body := body) (e0 := e) (c := c) (I := I) (J := J) hn (fun i τ hi hI => by
    obtain ⟨p, u, hv, hu, hex⟩ := hbody i τ hi hI
    obtain ⟨m, r, q1, q2⟩ := runY_of (by simp [hps]) ha hex
    obtain ⟨m', q3⟩ := docall_pu (σ := τ) hu
    exact ⟨_, _, hv, m + m', r, doCall_mono (runF_le (by omega)) q3, runY_le (by omega) _ _ _ q1, q2⟩) n 0 σ (by omega) h0
  have hstart : ∀ M, m ≤ M → runI (runF rp (M + 10)) (runY rp (M + 10) ps asg body e) (M + 10) none (headC g) [] (args0 0 [.any, .ptr bx 0 0]) σ = some (pd, τ) := by
    intro M hM
    have hr : runO (runF rp (M + 10)) σ.length [⟨some 5, none, none, .load false 1 (.t 1)⟩, ⟨some 6, none, none, .len (.t 5)⟩, ⟨some 7, none, none, .mv (.c (.p (.int .i64 0)))⟩] [(0, .any), (1, .ptr bx 0 0)] σ = some ([(0, .any), (1, .ptr bx 0 0), (5, c), (6, i64 (n : Int)), (7, i64 ((0 : Nat) : Int))], σ) := by
      have e1 : ev σ.length none (.load false 1 (.t 1)) [(0, .any), (1, .ptr bx 0 0)] σ = some (c, σ) := by
        have : gt [(0, CV.any), (1, CV.ptr bx 0 0)] 1 = .ptr bx 0 0 := rfl
        simp only [ev, vl, this, hbx]
        rfl
      have e2 : ev σ.length none (.len (.t 5)) [(0, .any), (1, .ptr bx 0 0), (5, c)] σ = some (i64 (n : Int), σ) := by
        have : gt [(0, CV.any), (1, CV.ptr bx 0 0), (5, c)] 5 = c := rfl
        simp only [ev, vl, this, hlen, Option.map_some]
      simp only [runO, evL, ev1, e1, Option.map_some, sto]
      show (match (Option.map (fun x => (st 6 x.1 [(0, CV.any), (1, CV.ptr bx 0 0), (5, c)], x.2)) (ev σ.length none (.len (.t 5)) [(0, .any), (1, .ptr bx 0 0), (5, c)] σ)) with | some (e, σ) => _ | none => none) = _
      rw [e2]
      rfl
    unfold headC
    rw [ri_seq, ri_reg (by exact hr), ri_code, ri_fg, ri_block, ri_loop]
    exact runI_mono (runF_le (by omega)) (runY_le (by omega)) (by omega) (h1 _ ⟨rfl, rfl, rfl⟩)
  have go : ∀ {c' : RCode}, (∀ M, runK rp (M + 10 + 1) rs (.rng b ps x asg body) ks e σ = runK rp (M + 10) rs c' ks e τ ∨ M < m) → Ex rp rs c' ks e τ Q → Ex rp rs (.rng b ps x asg body) ks e σ Q := by
    rintro c' hM ⟨n', v, q1, q2⟩
    refine ⟨max m n' + 10 + 1, v, ?_, q2⟩
    rcases hM (max m n') with h | h
    · rw [h]; exact runK_le (by omega) q1
    · omega
  rcases h2 with ⟨rfl, hI⟩ | ⟨rfl, hJ⟩
  · refine go (c' := .skip) (fun M => ?_) (hend τ hI)
    rcases Nat.lt_or_ge M m with h | h
    · exact .inr h
    · left
      rw [runK_rng]
      simp only [hx, hgf, hstart M h]
  · refine go (c' := if b = true then .bret else .ret) (fun M => ?_) (hret τ hJ)
    rcases Nat.lt_or_ge M m with h | h
    · exact .inr h
    · left
      rw [runK_rng]
      simp only [hx, hgf, hstart M h]
end
end Go.Proofs.Ytdpdnplljonppaa.Vpi

namespace Go.Proofs.Ytdpdnplljonppaa.Vpi
open Go Go.RowKit
set_option linter.unusedVariables false
set_option linter.unusedSimpArgs false
def callK (g : Nat) (x : PV) : Caller := fun f args σ => if f = g ∧ args = [] then some (.p x, σ) else none
theorem callK_sim {P : Program} {g : Nat} (hok : okFn P g = true) (h : ∀ w, Calls P g #[] w fun e w' => e = .returned (.bool true) ∧ Below w.heap.size w w') : CallSim P (callK g (.bool true)) := by
  intro f args σ r hr w G ρ hs vs hl hk
  unfold callK at hr
  split at hr
  · rename_i hh
    obtain ⟨rfl, rfl⟩ := hh
    cases hr
    obtain rfl : vs = [] := List.length_eq_zero_iff.1 hl.symm
    refine ⟨hok, (h w).mono ?_⟩
    rintro e w' ⟨rfl, hb⟩
    have nolive : ∀ k, ¬ Live [] k := by rintro k ⟨i, o, t, s, h⟩; simp at h
    have hx : Ext w G [] w' G [] := ⟨⟨hb.os, hb.tape, hb.output⟩, LocExt.refl _, hb.size, fun _ h => h, fun _ h => .inl h, fun k hk _ => hb.block k hk, fun k h => (nolive k h).elim⟩
    obtain ⟨s', x'⟩ := outer_keep hs hx (fun k hk => Nat.lt_of_lt_of_le (hs.g k hk) hb.size)
    exact ⟨_, G, ρ, rfl, s', x', .p _ _ (.bool _)⟩
  · cases hr
section
variable {P : Program} {run : Caller} {rs : List RRes} {r : CV × Store}
def SimAt (P : Program) (rs : List RRes) (c : RCode) (ks : List KI) (e : Env) (σ : Store) (r : CV × Store) : Prop :=
  ∀ (n : Nat) (todo : List Item) (w : World) (G : Nat → Prop) (ρ : List Loc) (a : Act) (b : Frame) (cs : List Frame) (lo : Nat), b.roundOf = none → Todo P n none c ks todo → St w G ρ σ → RepE w G ρ e a.tmps → n ≤ a.tmps.size → lo ≤ w.heap.size → Marks lo w G w.heap.size a.defers →
    ∃ a' w' G' ρ', St w' G' ρ' r.2 ∧ Ext w G ρ w' G' ρ' ∧ Marks lo w' G' w'.heap.size a'.defers ∧ OutP P rs b cs (lone (b.atR a todo) cs w) none r a' w' G' ρ'
theorem SimU.at {rp : RProg} {m : Nat} (hU : SimU P rp m) {c : RCode} {ks : List KI} {e : Env} {σ : Store} (h : runK rp m rs c ks e σ = some r) : SimAt P rs c ks e σ r :=
  fun n todo w G ρ a b cs lo hro ht hs he hn hlo hmk => hU rs c ks e σ r h n none none todo w G ρ a b cs lo hro rfl ht hs he hn (fun _ h => by cases h) hlo hmk (fun h => by cases h)
inductive PRun (run : Caller) : RCode → List KI → Env → Store → RCode → List KI → Env → Store → Prop
  | nil {c ks e σ} : PRun run c ks e σ c ks e σ
  | seq {x y ks e σ c' ks' e' σ'} (h : PRun run x (.code y :: ks) e σ c' ks' e' σ') : PRun run (.seq x y) ks e σ c' ks' e' σ'
  | fg {keep c ks e σ c' ks' e' σ'} (h : PRun run c ks (fgt keep e) σ c' ks' e' σ') : PRun run (.fg keep c) ks e σ c' ks' e' σ'
  | no {q x y ks e σ c' ks' e' σ'} (hq : vl e q = .p (.bool false)) (h : PRun run y ks e σ c' ks' e' σ') : PRun run (.cond q x y) ks e σ c' ks' e' σ'
  | skip {c ks e σ c' ks' e' σ'} (h : PRun run c ks e σ c' ks' e' σ') : PRun run .skip (.code c :: ks) e σ c' ks' e' σ'
  | reg {L ks e σ e1 σ1 c' ks' e' σ'} (hr : runO run σ.length L e σ = some (e1, σ1)) (h : PRun run .skip ks e1 σ1 c' ks' e' σ') : PRun run (.reg L none) ks e σ c' ks' e' σ'
theorem PRun.sim (hcall : CallSim P run) {c : RCode} {ks : List KI} {e : Env} {σ : Store} {c' : RCode} {ks' : List KI} {e' : Env} {σ' : Store} (h : PRun run c ks e σ c' ks' e' σ') (k : SimAt P rs c' ks' e' σ' r) : SimAt P rs c ks e σ r := by
  induction h with
  | nil => exact k
  | seq _ ih =>
    intro n todo w G ρ a b cs lo hro ht hs he hn hlo hmk
    rcases ht with ⟨d, k0, rfl, hch, hk⟩ | ⟨h, _⟩
    · cases d <;> simp only [chkC, Bool.false_eq_true, Bool.and_eq_true] at hch
      obtain ⟨a', w', G', ρ', q1, q2, q3, q4⟩ := ih k n _ w G ρ a b cs lo hro (.inl ⟨_, _, rfl, hch.1, .code hch.2 hk⟩) hs he hn hlo hmk
      exact ⟨a', w', G', ρ', q1, q2, q3, q4.pre (.one stepR_seq)⟩
    · cases h
  | fg _ ih =>
    intro n todo w G ρ a b cs lo hro ht hs he hn hlo hmk
    rcases ht with ⟨d, k0, rfl, hch, hk⟩ | ⟨h, _⟩
    · simp only [chkC] at hch
      exact ih k n _ w G ρ a b cs lo hro (.inl ⟨d, k0, rfl, hch, hk⟩) hs (he.fgt _) hn hlo hmk
    · cases h
  | no hq _ ih =>
    intro n todo w G ρ a b cs lo hro ht hs he hn hlo hmk
    rcases ht with ⟨d, k0, rfl, hch, hk⟩ | ⟨h, _⟩
    · cases d <;> simp only [chkC, Bool.false_eq_true, Bool.and_eq_true] at hch
      obtain ⟨⟨h1, h2⟩, h3⟩ := hch
      have hq' := okOpd_rep h1 he
      rw [hq] at hq'
      have hb := rep_bool hq'
      obtain ⟨a', w', G', ρ', q1, q2, q3, q4⟩ := ih k n _ w G ρ a b cs lo hro (.inl ⟨_, _, rfl, h3, hk⟩) hs he hn hlo hmk
      exact ⟨a', w', G', ρ', q1, q2, q3, q4.pre (.one (stepR_cond hb))⟩
    · cases h
  | skip _ ih =>
    intro n todo w G ρ a b cs lo hro ht hs he hn hlo hmk
    rcases ht with ⟨d, k0, rfl, hch, hk⟩ | ⟨_, hk⟩
    · have hs1 : ∀ k, step P (lone (b.atR a (.code d :: k)) cs w) = .next (lone (b.atR a k) cs w) := by
        cases d <;> simp only [chkC, Bool.false_eq_true] at hch
        · exact fun k => stepR_skip
        · exact fun k => stepR_label
      cases hk with
      | code h1 hk =>
        obtain ⟨a', w', G', ρ', q1, q2, q3, q4⟩ := ih k n _ w G ρ a b cs lo hro (.inl ⟨_, _, rfl, h1, hk⟩) hs he hn hlo hmk
        exact ⟨a', w', G', ρ', q1, q2, q3, q4.pre (.one (hs1 _))⟩
    · cases hk with
      | code h1 hk => exact ih k n _ w G ρ a b cs lo hro (.inl ⟨_, _, rfl, h1, hk⟩) hs he hn hlo hmk
  | @reg L ks e σ e1 σ1 _ _ _ _ hr _ ih =>
    intro n todo w G ρ a b cs lo hro ht hs he hn hlo hmk
    rcases ht with ⟨d, k0, rfl, hch, hk⟩ | ⟨h, _⟩
    · cases d <;> try (simp only [chkC, Bool.false_eq_true] at hch; done)
      rename_i id ops draw
      cases draw <;> simp only [chkC, Bool.false_eq_true] at hch
      have hwp : ∀ K : Exit → Act → World → Prop, (After (fun _ => False) w G ρ a e1 σ1 fun a w => K .normal a w) → (Code.region id ops false).wpIn (Fr none) 0 P K a w :=
        fun K hK => wpIn_region (sim_runO hcall hch (fun _ _ _ (h : False) => h.elim) hs he hn hr hK)
      have := hwp (fun ex a' w' => ex = .normal ∧ ∃ G' ρ', St w' G' ρ' σ1 ∧ Ext w G ρ w' G' ρ' ∧ RepE w' G' ρ' e1 a'.tmps ∧ a'.defers = a.defers ∧ a'.tmps.size = a.tmps.size) (by
        intro a' w' G' ρ' s1 x1 r1 d1 z1 _
        exact ⟨rfl, G', ρ', s1, x1, r1, d1, z1⟩) b k0 cs hro trivial fr_room
      obtain ⟨ex, a', w', ⟨rfl, G', ρ', s1, x1, r1, d1, z1⟩, harr⟩ := this
      obtain ⟨a2, w2, G2, ρ2, q1, q2, q3, q4⟩ := ih k n k0 w' G' ρ' a' b cs lo hro (.inr ⟨rfl, hk⟩) s1 r1 (by omega) (Nat.le_trans hlo x1.heap) (by rw [d1]; exact (hmk.ext x1 hs).mono x1.heap)
      exact ⟨a2, w2, G2, ρ2, q1, x1.trans q2, q3, q4.pre (fr_steps.1 harr)⟩
    · cases h
theorem top_call {f : Nat} {rf : RFun} {args : List CV} {σ : Store} (hck : chkF P f rf = true) (hS : SimAt P rf.res rf.code [] (args0 0 args) σ r) {w : World} {G : Nat → Prop} {ρ : List Loc} (hs : St w G ρ σ) {vs : List Value} (hl : args.length = vs.length)
    (hk : ∀ (k : Nat) c v, args[k]? = some c → vs[k]? = some v → RepC w G ρ c v) : Calls P f vs.toArray w fun en w' => ∃ v G' ρ', en = .returned v ∧ St w' G' ρ' r.2 ∧ Ext w G ρ w' G' ρ' ∧ RepC w' G' ρ' r.1 v := by
  obtain ⟨hok, fn, code, hfn, hbody, hr, hcc⟩ := chkF_spec hck
  refine fun cs => ?_
  let b : Frame := { (default : Frame) with fn := f, kind := .normal, roundOf := none }
  have henter : Frame.enter P f vs.toArray .normal = b.atR { tmps := vs.toArray ++ Array.replicate (fn.ntmps - vs.toArray.size) undef, defers := [] } [.code code] := by
    simp [Frame.enter, Frame.atR, hfn, hbody, b]
  obtain ⟨a', w', G', ρ', s1, x1, m1, k', e', st1, res1, rep1⟩ := hS fn.ntmps [.code code] w G ρ { tmps := vs.toArray ++ Array.replicate (fn.ntmps - vs.toArray.size) undef, defers := [] } b cs w.heap.size rfl
    (.inl ⟨code, [], rfl, hcc, .nil rfl⟩) hs (rep_enter hl hk) (by simp; omega) (Nat.le_refl _) trivial
  obtain ⟨w2, q1, q2, q3, q4⟩ := unwind (P := P) (b := b) (a := a') (k := k') (cs := cs) m1
  have s2 : St w2 G' ρ' r.2 := s1.frame (fun k hk => q4 k (.inr (.inl hk))) (fun k hk => q4 k (.inr (.inr (by obtain ⟨arr, el, h⟩ := s1.live_cells hk; exact ⟨arr, el, _, h⟩)))) (by omega)
  have x2 : Ext w G ρ w2 G' ρ' := ⟨x1.wld.trans q2, x1.loc, by have := x1.heap; omega, x1.grow, x1.only, fun k hk hn => (q4 k (.inl hk)).trans (x1.below k hk hn), x1.lives⟩
  have rep2 : RepE w2 G' ρ' e' a'.tmps := fun k => (rep1 k).mono (fun k hk => q4 k (.inr (.inl hk))) (fun _ h => h) (LocExt.refl _)
  obtain ⟨v, hv, rv⟩ := results_run (a := a') s2 rep2 hr res1
  rw [← henter] at st1
  exact ⟨.returned v, w2, { b.atR { a' with defers := [] } k' with mode := .returning }, ⟨v, G', ρ', rfl, s2, x2, rv⟩, Steps.trans st1 q1, rfl, rfl, rfl, rfl, fn, hfn, hv⟩
theorem top_pu {rp : RProg} (hm : P.follows .mixedOrders = true) (hrp : ∀ f rf, rp f = some rf → chkF P f rf = true) (hcall : CallSim P run) {f : Nat} {rf : RFun} (hck : chkF P f rf = true) {ps : List PV} {c : RCode} {ks : List KI} {e : Env} {σ : Store}
    (hp : PRun run rf.code [] (args0 0 (ps.map .p)) [] c ks e σ) (hx : Ex rp rf.res c ks e σ fun v τ => back 0 τ v = some (.p (.bool true))) {W : World} {vs : List Value} (hl : ps.length = vs.length)
    (hr : ∀ (k : Nat) p v, ps[k]? = some p → vs[k]? = some v → RepP W (· < W.heap.size) p v) : Calls P f vs.toArray W fun e w' => e = .returned (.bool true) ∧ Below W.heap.size W w' := by
  obtain ⟨m, r, hrun, hb⟩ := hx
  have hv := back_bool hb
  have hst : St W (· < W.heap.size) [] [] := ⟨fun k h => h, rfl, by simp, by simp⟩
  have hc := top_call hck (hp.sim hcall ((sim_U hm hrp m).at hrun)) hst (vs := vs) (by simpa using hl) (by
    intro k c v hk hv
    rw [List.getElem?_map, Option.map_eq_some_iff] at hk
    obtain ⟨p, hp, rfl⟩ := hk
    exact .p _ _ (hr k p v hp hv))
  refine hc.mono ?_
  rintro e w' ⟨v, G', ρ', rfl, s1, x1, r1⟩
  rw [hv] at r1
  have hv := rep_bool r1
  refine ⟨by rw [hv], x1.wld.1, x1.wld.2.1, x1.wld.2.2, x1.heap, fun k hk => x1.below k hk ?_⟩
  rintro ⟨i, o, t, s, h⟩
  simp at h
end
end Go.Proofs.Ytdpdnplljonppaa.Vpi
