/- The verified interpreter, part 20: whole functions. -/
import Derived.Test.YtnbglampelmgoaaGreatVpiDraw3
import Derived.Scope
namespace Go.Proofs.YtnbglampelmgoaaGreat.Vpi
open Go
set_option linter.unusedVariables false
set_option linter.unusedSimpArgs false

def chkC (P : Program) (n : Nat) : RCode → Code → Bool
  | .fg _ c, code => chkC P n c code
  | .skip, .skip => true
  | .skip, .label _ => true
  | .reg L none, .region _ ops false => okL P ops n ops.toList L
  | .reg L (some (_, xp)), .region _ ops true => okL P ops n ops.toList L && drawOk ops L xp
  | .seq x y, .seq a b => chkC P n x a && chkC P n y b
  | .cond c x y, .cond d a b => okOpd d c && chkC P n x a && chkC P n y b
  | .block i x, .block j a => i == j && chkC P n x a
  | .scope x, .scope a => chkC P n x a
  | .loop x, .loop a => chkC P n x a
  | .exit i, .exit j => i == j
  | .ret, .ret => true
  | _, _ => false

def chkR (P : Program) : List RRes → List ResultVar → Bool
  | [], [] => true
  | .t n :: rs, .tmp m :: vs => n == m && chkR P rs vs
  | .cell n agg sz :: rs, .cell m t :: vs => n == m && aggP P t == some agg && szP P t == some sz && chkR P rs vs
  | _, _ => false

def chkF (P : Program) (f : Nat) (rf : RFun) : Bool :=
  okFn P f && (match P.funcs[f]? with
    | some fn => chkR P rf.res fn.results.toList && (match fn.body with | some c => chkC P fn.ntmps rf.code c | none => false)
    | none => false)

section
variable {P : Program} {n : Nat}

inductive KRel (P : Program) (n : Nat) : List KI → List Item → Prop
  | nil : KRel P n [] []
  | code {c : RCode} {d : Code} {ks : List KI} {k : List Item} (h : chkC P n c d = true) (hk : KRel P n ks k) : KRel P n (.code c :: ks) (.code d :: k)
  | blk {id : Nat} {ks : List KI} {k : List Item} (hk : KRel P n ks k) : KRel P n (.blk id :: ks) (.inBlock id :: k)
  | sc {c : Code} {ks : List KI} {k : List Item} (hk : KRel P n ks k) : KRel P n (.sc :: ks) (.inScope c :: k)
  | lp {c : RCode} {d : Code} {ks : List KI} {k : List Item} (h : chkC P n c d = true) (hk : KRel P n ks k) : KRel P n (.lp c :: ks) (.inLoop d :: k)

theorem KRel.exit {ks : List KI} {k : List Item} (h : KRel P n ks k) {id : Nat} {ks' : List KI} (he : exitK id ks = some ks') : ∃ k', exitTo id k = some k' ∧ KRel P n ks' k' := by
  induction h with
  | nil => cases he
  | code _ _ ih => exact ih he
  | lp _ _ ih => exact ih he
  | sc _ ih => exact ih he
  | @blk id' ks k hk ih =>
    simp only [exitK] at he
    simp only [exitTo]
    by_cases hid : id' = id
    · subst hid
      rw [if_pos rfl] at he
      cases he
      exact ⟨k, by simp, hk⟩
    · rw [if_neg hid] at he
      obtain ⟨k', h1, h2⟩ := ih he
      exact ⟨k', by simp [hid, h1], h2⟩

/-- what is still to do -/
def Todo (P : Program) (n : Nat) (c : RCode) (ks : List KI) (todo : List Item) : Prop :=
  (∃ d k, todo = .code d :: k ∧ chkC P n c d = true ∧ KRel P n ks k) ∨ (c = .skip ∧ KRel P n ks todo)

variable {w : World} {G : Nat → Prop} {ρ : List Loc} {σ : Store} {e : Env} {a : Act}

theorem res_run {agg : Bool} {sz m : Nat} {t : TypeId} {c : CV} (hs : St w G ρ σ) (he : RepE w G ρ e a.tmps) (ha : aggP P t = some agg) (hz : szP P t = some sz) (h : resV e σ (.cell m agg sz) = some c) :
    ∃ v, (do loadVar t (← asAddr (a.tmps.getD m undef))).run P w = .ok v w ∧ RepC w G ρ c v := by
  simp only [resV] at h
  split at h
  · rename_i b i off hv
    have h1 := he m
    rw [hv] at h1
    obtain ⟨ad, hue, hp⟩ := rep_ptr h1
    split at h
    · rename_i s cs hb
      obtain ⟨l, hl, hok⟩ := hs.get hb
      cases l with
      | lv blk o' tot s' =>
        obtain ⟨rfl, _, arr, el, hh, rfl, hfit, hk⟩ := hok
        simp only [PtrOk, hl] at hp
        subst hp
        have := load_subC (P := P) (w := w) (G := G) (ρ := ρ) ha hz hh (B := o') hfit hk h
        rw [← Nat.add_assoc] at this
        obtain ⟨v, h2, h3⟩ := this
        refine ⟨v, ?_, h3⟩
        rw [hue]
        simpa [asAddr] using h2
      | det => exact hok.elim
      | dead => exact hok.elim
      | hole => exact hok.elim
    · cases h
  · cases h

theorem resL_run (hs : St w G ρ σ) (he : RepE w G ρ e a.tmps) :
    ∀ {rs : List RRes} {vs : List ResultVar} {cs : List CV}, chkR P rs vs = true → resL e σ rs = some cs →
      ∃ us : List Value, (∀ f : ResultVar → Sem Value, (∀ u, f (.tmp u) = pure (a.tmps.getD u undef)) → (∀ x t, f (.cell x t) = (do loadVar t (← asAddr (a.tmps.getD x undef)))) → (vs.mapM f).run P w = .ok us w) ∧
        cs.length = us.length ∧ ∀ (k : Nat) c v, cs[k]? = some c → us[k]? = some v → RepC w G ρ c v
  | [], [], cs, _, h => by
    simp only [resL] at h
    cases h
    exact ⟨[], by simp, rfl, by simp⟩
  | .t m :: rs, .tmp m' :: vs, cs, hc, h => by
    simp only [chkR, Bool.and_eq_true, beq_iff_eq] at hc
    obtain ⟨rfl, hc⟩ := hc
    simp only [resL, resV, Option.map_eq_some_iff] at h
    obtain ⟨ds, hds, rfl⟩ := h
    obtain ⟨us, h1, h2, h3⟩ := resL_run hs he hc hds
    refine ⟨a.tmps.getD m undef :: us, fun f hft hfc => by simp [List.mapM_cons, hft, h1 f hft hfc], by simp [h2], ?_⟩
    intro k c v hk hv
    cases k with
    | zero => simp at hk hv; subst hk; subst hv; have := he m; rwa [Array.getD_eq_getD_getElem?] at this
    | succ k => exact h3 k c v (by simpa using hk) (by simpa using hv)
  | .cell m agg sz :: rs, .cell m' t :: vs, cs, hc, h => by
    simp only [chkR, Bool.and_eq_true, beq_iff_eq] at hc
    obtain ⟨⟨⟨rfl, ha⟩, hz⟩, hc⟩ := hc
    simp only [resL] at h
    split at h
    · rename_i c0 hc0
      simp only [Option.map_eq_some_iff] at h
      obtain ⟨ds, hds, rfl⟩ := h
      obtain ⟨us, h1, h2, h3⟩ := resL_run hs he hc hds
      obtain ⟨v0, q1, q2⟩ := res_run hs he ha hz hc0
      refine ⟨v0 :: us, fun f hft hfc => ?_, by simp [h2], ?_⟩
      · rw [List.mapM_cons, hfc, Sem.run_bind, q1]
        simp [h1 f hft hfc]
      · intro k c v hk hv
        cases k with
        | zero => simp at hk hv; subst hk; subst hv; exact q2
        | succ k => exact h3 k c v (by simpa using hk) (by simpa using hv)
    · cases h

theorem results_run {fn : Func} {rs : List RRes} {c : CV} (hs : St w G ρ σ) (he : RepE w G ρ e a.tmps) (hc : chkR P rs fn.results.toList = true) (h : resultsV rs e σ = some c) :
    ∃ v, (results fn a.tmps).run P w = .ok v w ∧ RepC w G ρ c v := by
  have hr : fn.results = fn.results.toList.toArray := by simp
  unfold results
  rw [hr, List.mapM_toArray]
  simp only [Sem.run_bind, Sem.run_map]
  unfold resultsV at h
  split at h
  · rename_i c' hcs
    cases h
    obtain ⟨us, h1, h2, h3⟩ := resL_run hs he hc hcs
    rw [h1 _ (fun _ => rfl) (fun _ _ => rfl)]
    match us, h2 with
    | [u], _ => exact ⟨u, by simp, h3 0 _ u rfl rfl⟩
  · rename_i cs hne hcs
    cases h
    obtain ⟨us, h1, h2, h3⟩ := resL_run hs he hc hcs
    rw [h1 _ (fun _ => rfl) (fun _ _ => rfl)]
    have hl : us.length ≠ 1 := by
      intro hl
      rw [← h2] at hl
      obtain ⟨x, hx⟩ := List.length_eq_one_iff.1 hl
      exact hne x hx
    exact ⟨.tuple us.toArray, by simp [hl], .tup cs us h2 h3⟩
  · cases h

theorem args0_gt : ∀ (l : List CV) (k n : Nat), gt (args0 k l) n = if k ≤ n then l.getD (n - k) .any else .any
  | [], k, n => by simp [args0, gt]
  | v :: l, k, n => by
    simp only [args0, gt]
    by_cases h : k = n
    · subst h; simp
    · rw [if_neg h, args0_gt l (k + 1) n]
      by_cases h1 : k ≤ n
      · rw [if_pos (by omega), if_pos h1, show n - k = (n - (k + 1)) + 1 by omega]; simp
      · rw [if_neg (by omega), if_neg h1]

/-- WHOLE RUNS. -/
theorem sim_K {rp : RProg} (hm : P.follows .mixedOrders = true) (hrp : ∀ f rf, rp f = some rf → chkF P f rf = true) : ∀ (m : Nat) (rs : List RRes) (c : RCode) (ks : List KI) (e : Env) (σ : Store) (r : CV × Store), runK rp m rs c ks e σ = some r →
    ∀ (f : Nat) (fn : Func) (todo : List Item) (w : World) (G : Nat → Prop) (ρ : List Loc) (a : Act) (b : Frame) (cs : List Frame), P.funcs[f]? = some fn → b.fn = f → b.kind = .normal → chkR P rs fn.results.toList = true → Todo P fn.ntmps c ks todo →
      St w G ρ σ → RepE w G ρ e a.tmps → fn.ntmps ≤ a.tmps.size → a.defers = [] →
      ∃ v w' fr G' ρ', Steps P (lone (b.at a todo) cs w) (lone fr cs w') ∧ fr.fn = f ∧ fr.leaving P w' (.returned v) ∧ St w' G' ρ' r.2 ∧ Ext w G ρ w' G' ρ' ∧ RepC w' G' ρ' r.1 v := by
  intro m
  induction m with
  | zero => intro rs c ks e σ r h; simp [runK] at h
  | succ m ih =>
    have hcall : CallSim P (fun f args σ => match rp f with | some rf => runK rp m rf.res rf.code [] (args0 0 args) σ | none => none) := by
      intro f args σ r h w G ρ hs vs hl hk
      simp only [] at h
      split at h
      · rename_i rf hrf
        have hck := hrp f rf hrf
        simp only [chkF, Bool.and_eq_true] at hck
        obtain ⟨hok, hck⟩ := hck
        refine ⟨hok, ?_⟩
        split at hck
        · rename_i fn hfn
          simp only [Bool.and_eq_true] at hck
          obtain ⟨hr, hcc⟩ := hck
          split at hcc
          · rename_i code hbody
            intro cs
            let b : Frame := { (default : Frame) with fn := f, kind := .normal }
            have henter : Frame.enter P f vs.toArray .normal = b.at { tmps := vs.toArray ++ Array.replicate (fn.ntmps - vs.toArray.size) undef, defers := [] } [.code code] := by
              simp [Frame.enter, Frame.at, hfn, hbody, b]
            have hrep : RepE w G ρ (args0 0 args) (vs.toArray ++ Array.replicate (fn.ntmps - vs.toArray.size) undef) := by
              intro k
              rw [args0_gt]
              simp only [Nat.zero_le, if_true, Nat.sub_zero]
              rcases Nat.lt_or_ge k args.length with h1 | h1
              · have h2 : k < vs.length := by omega
                have h3 : k < (vs.toArray ++ Array.replicate (fn.ntmps - vs.toArray.size) undef).size := by simp; omega
                have := hk k args[k] vs[k] (by simp) (by simp)
                rw [show args.getD k .any = args[k] by simp [h1]]
                rw [show (vs.toArray ++ Array.replicate (fn.ntmps - vs.toArray.size) undef).getD k undef = vs[k] by
                  simp only [Array.getD_eq_getD_getElem?]
                  rw [Array.getElem?_append_left (by simpa using h2)]
                  simp [h2]]
                exact this
              · rw [show args.getD k .any = .any by simp [h1]]
                exact .any _
            obtain ⟨v, w', fr, G', ρ', q1, q2, q3, q4, q5, q6⟩ := ih rf.res rf.code [] (args0 0 args) σ r h f fn [.code code] w G ρ { tmps := vs.toArray ++ Array.replicate (fn.ntmps - vs.toArray.size) undef, defers := [] } b cs hfn rfl rfl hr
              (.inl ⟨code, [], rfl, hcc, .nil⟩) hs hrep (by simp; omega) rfl
            rw [← henter] at q1
            exact ⟨.returned v, w', fr, ⟨v, G', ρ', rfl, q4, q5, q6⟩, q1, q2, q3⟩
          · cases hcc
        · cases hck
      · cases h
    intro rs c ks e σ r h f fn todo w G ρ a b cs hfn hbf hbk hr htodo hs he hn hd
    -- one step, then the rest
    have one : ∀ {c' : RCode} {ks' : List KI} {e' : Env} {todo' : List Item}, runK rp m rs c' ks' e' σ = some r → Todo P fn.ntmps c' ks' todo' → RepE w G ρ e' a.tmps → Steps P (lone (b.at a todo) cs w) (lone (b.at a todo') cs w) →
        ∃ v w' fr G' ρ', Steps P (lone (b.at a todo) cs w) (lone fr cs w') ∧ fr.fn = f ∧ fr.leaving P w' (.returned v) ∧ St w' G' ρ' r.2 ∧ Ext w G ρ w' G' ρ' ∧ RepC w' G' ρ' r.1 v := by
      intro c' ks' e' todo' h1 h2 h3 h4
      obtain ⟨v, w', fr, G', ρ', q1, q2⟩ := ih rs c' ks' e' σ r h1 f fn todo' w G ρ a b cs hfn hbf hbk hr h2 hs h3 hn hd
      exact ⟨v, w', fr, G', ρ', h4.trans q1, q2⟩
    have leave : ∀ {k : List Item} {u : CV}, resultsV rs e σ = some u → r = (u, σ) → Steps P (lone (b.at a todo) cs w) (lone { b.at a k with mode := .returning } cs w) →
        ∃ v w' fr G' ρ', Steps P (lone (b.at a todo) cs w) (lone fr cs w') ∧ fr.fn = f ∧ fr.leaving P w' (.returned v) ∧ St w' G' ρ' r.2 ∧ Ext w G ρ w' G' ρ' ∧ RepC w' G' ρ' r.1 v := by
      rintro k u hu rfl hst
      obtain ⟨v, h1, h2⟩ := results_run (a := a) hs he hr hu
      exact ⟨v, w, _, G, ρ, hst, hbf, ⟨rfl, hd, hbk, fn, by rw [← hfn]; exact congrArg (fun i => P.funcs[i]?) hbf, h1⟩, hs, Ext.refl, h2⟩
    have region : ∀ {L : List LOp} {e1 : Env} {σ1 : Store} {ρ0 : List Loc} {code : Code} {k : List Item} (Q : Exit → Act → World → Prop), todo = .code code :: k → KRel P fn.ntmps ks k → runK rp m rs .skip ks e1 σ1 = some r → Ext w G ρ w G ρ0 →
        (∀ K : Exit → Act → World → Prop, (After w G ρ0 a e1 σ1 fun a w => K .normal a w) → code.wp P K a w) →
        ∃ v w' fr G' ρ', Steps P (lone (b.at a todo) cs w) (lone fr cs w') ∧ fr.fn = f ∧ fr.leaving P w' (.returned v) ∧ St w' G' ρ' r.2 ∧ Ext w G ρ w' G' ρ' ∧ RepC w' G' ρ' r.1 v := by
      rintro L e1 σ1 ρ0 code k Q rfl hk h1 hx hwp
      have := hwp (fun ex a' w' => ex = .normal ∧ ∃ G' ρ', St w' G' ρ' σ1 ∧ Ext w G ρ0 w' G' ρ' ∧ RepE w' G' ρ' e1 a'.tmps ∧ a'.defers = a.defers ∧ a'.tmps.size = a.tmps.size) (by
        intro a' w' G' ρ' s1 x1 r1 d1 z1
        exact ⟨rfl, G', ρ', s1, x1, r1, d1, z1⟩) b k cs
      obtain ⟨ex, a', w', ⟨rfl, G', ρ', s1, x1, r1, d1, z1⟩, harr⟩ := this
      obtain ⟨v, w2, fr, G2, ρ2, q1, q2, q3, q4, q5, q6⟩ := ih rs .skip ks e1 σ1 r h1 f fn k w' G' ρ' a' b cs hfn hbf hbk hr (.inr ⟨rfl, hk⟩) s1 r1 (by omega) (by rw [d1]; exact hd)
      exact ⟨v, w2, fr, G2, ρ2, Steps.trans harr q1, q2, q3, q4, (hx.trans x1).trans q5, q6⟩
    rcases htodo with ⟨d, k, rfl, hch, hk⟩ | ⟨rfl, hk⟩
    · cases c with
      | fg keep c =>
        simp only [runK] at h
        simp only [chkC] at hch
        exact one h (.inl ⟨d, k, rfl, hch, hk⟩) (he.fgt keep) (.refl _ _)
      | skip =>
        have hs1 : ∀ k, step P (lone (b.at a (.code d :: k)) cs w) = .next (lone (b.at a k) cs w) := by
          cases d <;> simp only [chkC, Bool.false_eq_true] at hch
          · exact fun k => step_skip
          · exact fun k => step_label
        simp only [runK] at h
        cases hk with
        | nil =>
          simp only [Option.map_eq_some_iff] at h
          obtain ⟨u, hu, rfl⟩ := h
          exact leave hu rfl (.head (hs1 _) (.one step_end))
        | code h1 hk => exact one h (.inl ⟨_, _, rfl, h1, hk⟩) he (.one (hs1 _))
        | blk hk => exact one h (.inr ⟨rfl, hk⟩) he (.head (hs1 _) (.one step_inBlock))
        | sc hk => exact one h (.inr ⟨rfl, hk⟩) he (.head (hs1 _) (.one step_inScope))
        | lp h1 hk => exact one h (.inl ⟨_, _, rfl, h1, .lp h1 hk⟩) he (.head (hs1 _) (.one step_inLoop))
      | reg L dr =>
        cases dr with
        | none =>
          cases d <;> try (simp only [chkC, Bool.false_eq_true] at hch; done)
          rename_i id ops draw
          cases draw <;> simp only [chkC, Bool.false_eq_true] at hch
          simp only [runK] at h
          split at h
          · rename_i e1 σ1 hro
            have hlen := (okL_get hch).1
            simp only [Array.length_toList] at hlen
            refine region (L := L) (fun _ _ _ => True) rfl hk h Ext.refl fun K hK => ?_
            refine wp_region ?_
            rw [List.range_eq_range']
            exact sim_runO (lops := L) hcall hch ops.size 0 w G ρ σ e a (by omega) hs he hn (by rw [List.drop_zero]; exact hro) hK
          · cases h
        | some hxp =>
          obtain ⟨hh, xp⟩ := hxp
          cases d <;> try (simp only [chkC, Bool.false_eq_true] at hch; done)
          rename_i id ops draw
          cases draw <;> simp only [chkC, Bool.false_eq_true, Bool.and_eq_true] at hch
          simp only [runK] at h
          split at h
          · rename_i e1 σ1 hro
            split at h
            · rename_i hx
              have hloc : LocExt ρ (ρ ++ List.replicate hh .hole) := fun i l hl => .inl (by rw [List.getElem?_append_left (get_lt hl)]; exact hl)
              have hlive : ∀ k, Live (ρ ++ List.replicate hh .hole) k → Live ρ k := by
                rintro k ⟨i, o, t, s, hi⟩
                rcases Nat.lt_or_ge i ρ.length with h1 | h1
                · rw [List.getElem?_append_left h1] at hi; exact ⟨i, o, t, s, hi⟩
                · rw [List.getElem?_append_right h1, List.getElem?_replicate] at hi
                  split at hi <;> cases hi
              have hx0 : Ext w G ρ w G (ρ ++ List.replicate hh .hole) := ⟨⟨rfl, rfl, rfl⟩, hloc, Nat.le_refl _, fun _ x => x, fun _ x => .inl x, fun _ _ _ => rfl, fun k hk => .inl (hlive k hk)⟩
              refine region (L := L) (fun _ _ _ => True) rfl hk h hx0 fun K hK => ?_
              refine wp_region_any hm ?_
              have hwe : Ext w G (ρ ++ List.replicate hh .hole) { w with drawn := w.drawn + 1 } G (ρ ++ List.replicate hh .hole) := Ext.sameHeap rfl
              have hsh := hs.holes hh
              refine sim_draw (base := σ.length) hcall hch.1 hch.2 hx (hsh.sameHeap rfl) ((he.ext hx0 hs).ext hwe hsh) hn hro ?_
              intro a' w' G' ρ' s1 x1 r1 d1 z1
              exact hK a' w' G' ρ' s1 (hwe.trans x1) r1 d1 z1
            · cases h
          · cases h
      | seq x y =>
        cases d <;> simp only [chkC, Bool.false_eq_true, Bool.and_eq_true] at hch
        simp only [runK] at h
        exact one h (.inl ⟨_, _, rfl, hch.1, .code hch.2 hk⟩) he (.one step_seq)
      | cond q x y =>
        cases d <;> simp only [chkC, Bool.false_eq_true, Bool.and_eq_true] at hch
        obtain ⟨⟨h1, h2⟩, h3⟩ := hch
        simp only [runK] at h
        split at h
        · rename_i t ht
          have hq := okOpd_rep h1 he
          rw [ht] at hq
          have hb := rep_bool hq
          cases t with
          | true => exact one h (.inl ⟨_, _, rfl, h2, hk⟩) he (.one (step_cond hb))
          | false => exact one (by simpa using h) (.inl ⟨_, _, rfl, h3, hk⟩) he (.one (step_cond hb))
        · cases h
      | block id x =>
        cases d <;> simp only [chkC, Bool.false_eq_true, Bool.and_eq_true, beq_iff_eq] at hch
        obtain ⟨rfl, h1⟩ := hch
        simp only [runK] at h
        exact one h (.inl ⟨_, _, rfl, h1, .blk hk⟩) he (.one step_block)
      | scope x =>
        cases d <;> simp only [chkC, Bool.false_eq_true] at hch
        simp only [runK] at h
        exact one h (.inl ⟨_, _, rfl, hch, .sc hk⟩) he (.one step_scope)
      | loop x =>
        cases d <;> simp only [chkC, Bool.false_eq_true] at hch
        simp only [runK] at h
        exact one h (.inl ⟨_, _, rfl, hch, .lp hch hk⟩) he (.one step_loop)
      | exit id =>
        cases d <;> simp only [chkC, Bool.false_eq_true, beq_iff_eq] at hch
        subst hch
        simp only [runK] at h
        split at h
        · rename_i ks' hks
          obtain ⟨k', h1, h2⟩ := hk.exit hks
          exact one h (.inr ⟨rfl, h2⟩) he (.one (step_exit h1))
        · cases h
      | ret =>
        cases d <;> simp only [chkC, Bool.false_eq_true] at hch
        simp only [runK, Option.map_eq_some_iff] at h
        obtain ⟨u, hu, rfl⟩ := h
        exact leave hu rfl (.one step_ret)
    · simp only [runK] at h
      cases hk with
      | nil =>
        simp only [Option.map_eq_some_iff] at h
        obtain ⟨u, hu, rfl⟩ := h
        exact leave hu rfl (.one step_end)
      | code h1 hk => exact one h (.inl ⟨_, _, rfl, h1, hk⟩) he (.refl _ _)
      | blk hk => exact one h (.inr ⟨rfl, hk⟩) he (.one step_inBlock)
      | sc hk => exact one h (.inr ⟨rfl, hk⟩) he (.one step_inScope)
      | lp h1 hk => exact one h (.inl ⟨_, _, rfl, h1, .lp h1 hk⟩) he (.one step_inLoop)

/-- EVERY CHECKED FUNCTION does what the interpreter says. -/
theorem callSim {rp : RProg} (hm : P.follows .mixedOrders = true) (hrp : ∀ f rf, rp f = some rf → chkF P f rf = true) (m : Nat) : CallSim P (runF rp m) := by
  intro f args σ r h w G ρ hs vs hl hk
  unfold runF at h
  split at h
  · rename_i rf hrf
    have hck := hrp f rf hrf
    simp only [chkF, Bool.and_eq_true] at hck
    obtain ⟨hok, hck⟩ := hck
    refine ⟨hok, ?_⟩
    split at hck
    · rename_i fn hfn
      simp only [Bool.and_eq_true] at hck
      obtain ⟨hr, hcc⟩ := hck
      split at hcc
      · rename_i code hbody
        intro cs
        let b : Frame := { (default : Frame) with fn := f, kind := .normal }
        have henter : Frame.enter P f vs.toArray .normal = b.at { tmps := vs.toArray ++ Array.replicate (fn.ntmps - vs.toArray.size) undef, defers := [] } [.code code] := by
          simp [Frame.enter, Frame.at, hfn, hbody, b]
        have hrep : RepE w G ρ (args0 0 args) (vs.toArray ++ Array.replicate (fn.ntmps - vs.toArray.size) undef) := by
          intro k
          rw [args0_gt]
          simp only [Nat.zero_le, if_true, Nat.sub_zero]
          rcases Nat.lt_or_ge k args.length with h1 | h1
          · have h2 : k < vs.length := by omega
            have h3 : k < (vs.toArray ++ Array.replicate (fn.ntmps - vs.toArray.size) undef).size := by simp; omega
            have := hk k args[k] vs[k] (by simp) (by simp)
            rw [show args.getD k .any = args[k] by simp [h1]]
            rw [show (vs.toArray ++ Array.replicate (fn.ntmps - vs.toArray.size) undef).getD k undef = vs[k] by
              simp only [Array.getD_eq_getD_getElem?]
              rw [Array.getElem?_append_left (by simpa using h2)]
              simp [h2]]
            exact this
          · rw [show args.getD k .any = .any by simp [h1]]
            exact .any _
        obtain ⟨v, w', fr, G', ρ', q1, q2, q3, q4, q5, q6⟩ := sim_K hm hrp m rf.res rf.code [] (args0 0 args) σ r h f fn [.code code] w G ρ { tmps := vs.toArray ++ Array.replicate (fn.ntmps - vs.toArray.size) undef, defers := [] } b cs hfn rfl rfl hr
          (.inl ⟨code, [], rfl, hcc, .nil⟩) hs hrep (by simp; omega) rfl
        rw [← henter] at q1
        exact ⟨.returned v, w', fr, ⟨v, G', ρ', rfl, q4, q5, q6⟩, q1, q2, q3⟩
      · cases hcc
    · cases hck
  · cases h

end
end Go.Proofs.YtnbglampelmgoaaGreat.Vpi
