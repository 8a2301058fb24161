/- The verified interpreter, part 19: a drawn region answers as the order of the text does. -/
import Derived.Test.YtnbglampelmgoaaGreatVpiDraw2
namespace Go.Proofs.YtnbglampelmgoaaGreat.Vpi
open Go
set_option linter.unusedVariables false
set_option linter.unusedSimpArgs false

def depsOf (o : Oper) : List Nat := (o.after.toList.filter fun e => Region.binds .any e).map (·.on)

def addAll : List Nat → List Nat → List Nat
  | [], acc => acc
  | x :: l, acc => if acc.elem x then addAll l acc else addAll l (x :: acc)

def cloGo : List (List Nat) → List (List Nat) → List (List Nat)
  | acc, [] => acc
  | acc, ds :: rest => cloGo (acc ++ [ds.foldl (fun a k => addAll (acc.getD k []) (addAll [k] a)) []]) rest

def cloOk (deps tab : List (List Nat)) : Bool :=
  (List.range deps.length).all fun i => (deps.getD i []).all (fun j => decide (j < i)) &&
    (tab.getD i []).all fun j => (deps.getD i []).elem j || (deps.getD i []).any fun k => (tab.getD k []).elem j

/-- nothing that is run from j on writes the operands of j and i -/
def stable (L : List LOp) (ci : List Nat) (j i : Nat) : Bool :=
  (List.range L.length).all fun k => decide (k < j) || (match (at' L k).d with | some d => !(ropT (at' L j).op).elem d && (ci.elem k || !(ropT (at' L i).op).elem d) | none => true)

def pairOk (L : List LOp) (xp : List (Nat × Nat)) (ci : List Nat) (j i : Nat) : Bool :=
  ci.elem j || (indep (at' L j) (at' L i) && (pairS (at' L j).op (at' L i).op || (cls (at' L j).op != 4 && cls (at' L i).op != 4 && xp.any (fun p => p.1 == j && p.2 == i) && stable L ci j i)))

def drawL (L : List LOp) (xp : List (Nat × Nat)) (deps tab : List (List Nat)) : Bool :=
  deps.length == L.length && cloOk deps tab && L.all (fun o => (!pushes o.op || o.sl.isSome) && foot0 o.op) &&
  (List.range L.length).all fun i => (List.range i).all fun j => pairOk L xp (tab.getD i []) j i

def drawOk (ops : Array Oper) (L : List LOp) (xp : List (Nat × Nat)) : Bool := drawL L xp (ops.toList.map depsOf) (cloGo [] (ops.toList.map depsOf))

section
variable {P : Program} {ops : Array Oper} {Q : Exit → Act → World → Prop} {run : Caller} {base n : Nat} {L : List LOp} {xp : List (Nat × Nat)} {tab : List (List Nat)}

theorem elem_mem {l : List Nat} {b : Nat} : l.elem b = true ↔ b ∈ l := by rw [List.elem_eq_contains, List.contains_iff_mem]
theorem elem_not {l : List Nat} {b : Nat} : (!l.elem b) = true ↔ b ∉ l := by rw [Bool.not_eq_true', ← Bool.not_eq_true, elem_mem]

theorem wpAny_sim {ef : Env} {σf : Store} (hc : CallSim P run) (hok : okL P ops n ops.toList L = true) (hd : drawL L xp (ops.toList.map depsOf) tab = true) (hxp : xp.all (apartAt ef L) = true) :
    ∀ (fuel : Nat) (listed : Array Bool) (rest : List Nat) (e : Env) (σ : Store) (w : World) (G : Nat → Prop) (ρ : List Loc) (a : Act) (eg : Env),
      listed.size = ops.size → rest = (List.range ops.size).filter (fun i => !listed.getD i true) → rest.length ≤ fuel →
      (∀ k, k < ops.size → listed.getD k false = true → ∀ j ∈ tab.getD k [], listed.getD j false = true) →
      St w G ρ σ → RepE w G ρ e a.tmps → n ≤ a.tmps.size → runO run base (rest.map (at' L)) e σ = some (eg, σf) → EnvEq eg ef → After w G ρ a ef σf (fun a w => Q .normal a w) →
      wpAny P .any ops Q fuel listed a w := by
  obtain ⟨hlen, hget⟩ := okL_get hok
  simp only [Array.length_toList] at hlen
  simp only [drawL, Bool.and_eq_true, List.all_eq_true, List.mem_range, cloOk, Bool.or_eq_true, Bool.not_eq_true', beq_iff_eq, decide_eq_true_eq, List.any_eq_true, elem_mem] at hd
  obtain ⟨⟨⟨_, hclo⟩, hslot⟩, hpair⟩ := hd
  have hatL : ∀ i, i < ops.size → L[i]? = some (at' L i) := by
    intro i hi
    rw [hlen] at hi
    simp [at', List.getD_eq_getElem?_getD, hi]
  have hdeps : ∀ i o, ops[i]? = some o → (ops.toList.map depsOf).getD i [] = depsOf o := by
    intro i o ho
    simp [List.getD_eq_getElem?_getD, ho]
  intro fuel
  induction fuel with
  | zero =>
    intro listed rest e σ w G ρ a eg hsz hrest hfuel hdown hs he hn hr hee hK
    have hnil : rest = [] := List.length_eq_zero_iff.1 (by omega)
    rw [hnil] at hr
    simp only [List.map_nil, runO] at hr
    cases hr
    refine ⟨?_, hK a w G ρ hs Ext.refl (fun k => by rw [← hee k]; exact he k) rfl rfl⟩
    rw [List.eq_nil_iff_forall_not_mem]
    intro i hi
    obtain ⟨h0, o, ho, _⟩ := mem_ready.1 hi
    have : i ∈ rest := by rw [hrest, List.mem_filter, List.mem_range]; exact ⟨aget_lt ho, by rw [h0]; rfl⟩
    rw [hnil] at this
    cases this
  | succ fuel ih =>
    intro listed rest e σ w G ρ a eg hsz hrest hfuel hdown hs he hn hr hee hK
    have gd : ∀ k, k < ops.size → listed.getD k true = listed.getD k false := by
      intro k hk
      have : k < listed.size := by omega
      simp [this]
    have hmem : ∀ k, k ∈ rest ↔ k < ops.size ∧ listed.getD k false = false := by
      intro k
      rw [hrest, List.mem_filter, List.mem_range]
      constructor
      · rintro ⟨h1, h2⟩; rw [gd k h1] at h2; exact ⟨h1, by simpa using h2⟩
      · rintro ⟨h1, h2⟩; rw [gd k h1, h2]; exact ⟨h1, rfl⟩
    refine ⟨?_, ?_⟩
    · intro hready
      have hnil : rest = [] := by
        rw [List.eq_nil_iff_forall_not_mem]
        intro i
        induction i using Nat.strongRecOn with
        | ind i ihi =>
          intro hi
          obtain ⟨h1, h2⟩ := (hmem i).1 hi
          have : i ∈ Region.ready .any ops listed := by
            refine mem_ready.2 ⟨by rw [gd i h1]; exact h2, ops[i], by simp, ?_⟩
            intro ed hed hb
            have hin : ed.on ∈ depsOf ops[i] := List.mem_map.2 ⟨ed, List.mem_filter.2 ⟨by simpa using hed, hb⟩, rfl⟩
            have hlt := (hclo i (by simpa using h1)).1 ed.on (by rw [hdeps i ops[i] (by simp)]; exact hin)
            have hno := ihi ed.on hlt
            cases hv : listed.getD ed.on false with
            | true => rfl
            | false => exact absurd ((hmem ed.on).2 ⟨by omega, hv⟩) hno
          rw [hready] at this
          cases this
      rw [hnil] at hr
      simp only [List.map_nil, runO] at hr
      cases hr
      exact hK a w G ρ hs Ext.refl (fun k => by rw [← hee k]; exact he k) rfl rfl
    · intro i hi
      obtain ⟨h0, o, ho, hafter⟩ := mem_ready.1 hi
      have hilt := aget_lt ho
      have himem : i ∈ rest := (hmem i).2 ⟨hilt, by rw [← gd i hilt]; exact h0⟩
      have hclosed : ∀ j ∈ tab.getD i [], listed.getD j false = true := by
        intro j hj
        have hdep : ∀ k ∈ depsOf o, listed.getD k false = true := by
          intro k hk
          obtain ⟨ed, hed, rfl⟩ := List.mem_map.1 hk
          obtain ⟨q1, q2⟩ := List.mem_filter.1 hed
          exact hafter ed (by simpa using q1) q2
        rcases (hclo i (by simpa using hilt)).2 j hj with h | ⟨k, h1, h2⟩
        · rw [hdeps i o ho] at h; exact hdep j h
        · have hk2 := (hclo i (by simpa using hilt)).1 k h1
          rw [hdeps i o ho] at h1
          exact hdown k (by omega) (hdep k h1) j h2
      obtain ⟨pre, post, hsplit⟩ := List.append_of_mem himem
      have hsorted : rest.Pairwise (· < ·) := by rw [hrest]; exact List.Pairwise.filter _ List.pairwise_lt_range
      rw [hsplit] at hsorted
      have hpre : ∀ j ∈ pre, j < i := fun j hj => (List.pairwise_append.1 hsorted).2.2 j hj i (by simp)
      have hpost : ∀ j ∈ post, i < j := fun j hj => (List.pairwise_cons.1 (List.pairwise_append.1 hsorted).2.1).1 j hj
      have hunl : ∀ j ∈ rest, j ∉ tab.getD i [] := by
        intro j hj hm
        have := ((hmem j).1 hj).2
        rw [hclosed j hm] at this
        cases this
      have hpk : ∀ j ∈ pre, indep (at' L j) (at' L i) = true ∧ (pairS (at' L j).op (at' L i).op = true ∨ (cls (at' L j).op ≠ 4 ∧ cls (at' L i).op ≠ 4 ∧ (∃ p ∈ xp, p.1 = j ∧ p.2 = i) ∧ stable L (tab.getD i []) j i = true)) := by
        intro j hj
        have h1 := hpair i (by omega) j (hpre j hj)
        simp only [pairOk, Bool.or_eq_true, Bool.and_eq_true, elem_mem, bne_iff_ne, ne_eq, List.any_eq_true, beq_iff_eq] at h1
        rcases h1 with h1 | ⟨h1, h2⟩
        · exact absurd h1 (hunl j (by rw [hsplit]; simp [hj]))
        · refine ⟨h1, h2.imp id ?_⟩
          rintro ⟨⟨⟨a1, a2⟩, a3⟩, a4⟩
          exact ⟨a1, a2, a3, a4⟩
      have hslots : ∀ j, j < ops.size → (pushes (at' L j).op = true → (at' L j).sl.isSome = true) ∧ foot0 (at' L j).op = true := by
        intro j hj
        have := hslot (at' L j) (List.mem_of_getElem? (hatL j hj))
        refine ⟨fun hp => ?_, this.2⟩
        rcases this.1 with h | h
        · rw [hp] at h; cases h
        · exact h
      have hjlt : ∀ j ∈ rest, j < ops.size := fun j hj => ((hmem j).1 hj).1
      rw [hsplit] at hr
      obtain ⟨eg', hr', hee'⟩ := takeFront (hslots i hilt).1 pre e σ eg hr hee
        (fun j hj => ⟨(hpk j hj).1, (hslots j (hjlt j (by rw [hsplit]; simp [hj]))).1⟩)
        (by
          intro pre1 j pre2 hp
          have hjp : j ∈ pre := by rw [hp]; simp
          rcases (hpk j hjp).2 with h | ⟨a1, a2, ⟨p, hpm, hp1, hp2⟩, a4⟩
          · exact .inl h
          · refine .inr ⟨a1, a2, ?_, ?_⟩
            · have := List.all_eq_true.1 hxp p hpm
              unfold apartAt at this
              rw [hp1, hp2, hatL j (hjlt j (by rw [hsplit]; simp [hjp])), hatL i hilt] at this
              exact apartB_spec this
            · intro k hk d hdk
              have hkr : k ∈ rest := by
                rw [hsplit, hp]
                rcases List.mem_append.1 hk with h | h
                · exact List.mem_append.2 (.inl (List.mem_append.2 (.inr h)))
                · exact List.mem_append.2 (.inr h)
              have hjk : j ≤ k := by
                have hs2 : (j :: pre2 ++ i :: post).Pairwise (· < ·) := by
                  rw [hp, List.append_assoc] at hsorted
                  exact (List.pairwise_append.1 hsorted).2.1
                rw [List.cons_append] at hs2 hk
                rcases List.mem_cons.1 hk with rfl | hk
                · exact Nat.le_refl _
                · exact Nat.le_of_lt ((List.pairwise_cons.1 hs2).1 k hk)
              simp only [stable, List.all_eq_true, List.mem_range, Bool.or_eq_true, decide_eq_true_eq] at a4
              have hk4 := a4 k (by rw [← hlen]; exact hjlt k hkr)
              rcases hk4 with h | h
              · omega
              · rw [hdk] at h
                simp only [Bool.and_eq_true, Bool.or_eq_true, elem_not, elem_mem] at h
                exact ⟨h.1, h.2.resolve_left (hunl k hkr)⟩)
        (by
          intro b hb
          obtain ⟨t, _, ht⟩ := foot_refs (hslots i hilt).2 hb
          exact refs_noHole hs (he t) ht)
      rw [List.cons_append, List.map_cons] at hr'
      simp only [runO] at hr'
      split at hr'
      · rename_i e1 σ1 hev
        refine sim_evL hc hs he hn ho (hget i o _ (by simpa using ho) (hatL i hilt)) hev ?_
        intro a' w' G' ρ' s1 x1 r1 d1 z1
        have gset : ∀ k, k < ops.size → (listed.setIfInBounds i true).getD k false = if k = i then true else listed.getD k false := by
          intro k hk
          by_cases hki : k = i
          · subst hki; rw [if_pos rfl]; simp [hsz, hk]
          · rw [if_neg hki, getD_set_ne false (fun x => hki x.symm)]
        refine ih (listed.setIfInBounds i true) (pre ++ post) e1 σ1 w' G' ρ' a' eg' (by simp [hsz]) ?_ ?_ ?_ s1 r1 (by omega) hr' hee' (hK.trans x1 d1 z1)
        · have h1 : (List.range ops.size).filter (fun k => !(listed.setIfInBounds i true).getD k true) = rest.filter (fun k => decide (k ≠ i)) := by
            rw [hrest, List.filter_filter]
            apply List.filter_congr
            intro k hk
            rw [List.mem_range] at hk
            by_cases hki : k = i
            · subst hki; simp [hsz, hk]
            · rw [getD_set_ne true (fun x => hki x.symm)]; simp [hki]
          rw [h1, hsplit, List.filter_append, List.filter_cons]
          have e1 : pre.filter (fun k => decide (k ≠ i)) = pre := List.filter_eq_self.2 fun k hk => by have := hpre k hk; simp; omega
          have e2 : post.filter (fun k => decide (k ≠ i)) = post := List.filter_eq_self.2 fun k hk => by have := hpost k hk; simp; omega
          rw [e1, e2]; simp
        · have := congrArg List.length hsplit
          simp at this ⊢
          omega
        · intro k hk hkl j hj
          have hset : ∀ j, listed.getD j false = true → (listed.setIfInBounds i true).getD j false = true := fun j h => getD_set_true h
          rw [gset k hk] at hkl
          by_cases hki : k = i
          · subst hki; exact hset j (hclosed j hj)
          · rw [if_neg hki] at hkl; exact hset j (hdown k hk hkl j hj)
      · cases hr'

/-- A DRAWN REGION. -/
theorem sim_draw {w : World} {G : Nat → Prop} {ρ : List Loc} {σ : Store} {e e' : Env} {σ' : Store} {a : Act} (hc : CallSim P run) (hok : okL P ops n ops.toList L = true) (hd : drawOk ops L xp = true) (hxp : xp.all (apartAt e' L) = true)
    (hs : St w G ρ σ) (he : RepE w G ρ e a.tmps) (hn : n ≤ a.tmps.size) (hr : runO run base L e σ = some (e', σ')) (hK : After w G ρ a e' σ' (fun a w => Q .normal a w)) :
    wpAny P .any ops Q ops.size (Array.replicate ops.size false) a w := by
  have hlen := (okL_get hok).1
  simp only [Array.length_toList] at hlen
  refine wpAny_sim (base := base) hc hok hd hxp ops.size (Array.replicate ops.size false) (List.range ops.size) e σ w G ρ a e' (by simp) ?_ (by simp) ?_ hs he hn ?_ (fun _ => rfl) hK
  · symm
    rw [List.filter_eq_self]
    intro k hk
    simp at hk
    simp [hk]
  · intro k hk h
    simp [hk] at h
  · have : (List.range ops.size).map (at' L) = L := by
      apply List.ext_getElem?
      intro i
      rw [List.getElem?_map]
      rcases Nat.lt_or_ge i ops.size with h | h
      · rw [List.getElem?_range h]
        have h' : i < L.length := by omega
        simp [at', List.getD_eq_getElem?_getD, h']
      · rw [List.getElem?_eq_none (by simpa using h), List.getElem?_eq_none (by omega)]; rfl
    rw [this]; exact hr

end
end Go.Proofs.YtnbglampelmgoaaGreat.Vpi
