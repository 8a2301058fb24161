/- The verified interpreter, part 23: lists that grow by append. -/
import Derived.Test.YtdieenbfdeaffaaVpiRul
namespace Go.Proofs.Ytdieenbfdeaffaa.Vpi
open Go
set_option linter.unusedVariables false
set_option linter.unusedSimpArgs false

/-- a list on its way: nil, or a block of its own -/
def GL (σ : Store) (sz : Nat) (c : CV) (es : List PV) : Prop := (c = .nils ∧ es = []) ∨ ∃ b, c = .own b 0 es.length ∧ σ[b]? = some (.prow sz es)

/-- the store without a list's block -/
def nd (σ : Store) : CV → Store
  | .own b _ _ => σ.set b .dead
  | _ => σ

theorem back1_p {b : Nat} {σ : Store} {v : PV} : back1 b σ (.p v) = some (.p v) := by cases v <;> rfl
theorem back_p {b : Nat} {σ : Store} {v : PV} : back b σ (.p v) = some (.p v) := by cases v <;> rfl
theorem back1_nils {b : Nat} {σ : Store} : back1 b σ .nils = some (.p (.sl [])) := rfl
theorem back_t2 {b : Nat} {σ : Store} {x y : CV} {p q : PV} (hx : back1 b σ x = some (.p p)) (hy : back1 b σ y = some (.p q)) : back b σ (.tup [x, y]) = some (.tup [.p p, .p q]) := by
  simp only [back, backL, hx, hy, Option.map_some]
theorem back_t3 {b : Nat} {σ : Store} {x y z : CV} {p q r : PV} (hx : back1 b σ x = some (.p p)) (hy : back1 b σ y = some (.p q)) (hz : back1 b σ z = some (.p r)) : back b σ (.tup [x, y, z]) = some (.tup [.p p, .p q, .p r]) := by
  simp only [back, backL, hx, hy, hz, Option.map_some]

theorem nd_len {σ : Store} {c : CV} : (nd σ c).length = σ.length := by cases c <;> simp [nd]

section
variable {rp : RProg} {rs : List RRes} {ks : List KI} {base : Nat} {e : Env} {σ : Store} {Q : CV → Store → Prop} {d : Option Nat} {l : List LOp} {dr : Dr} {sz : Nat} {c : CV} {es xs : List PV}

/-- a loop: where it stands is told by a value b -/
theorem loop_rule {β : Type} (S : β → Env × Store) (I : β → Prop) (μ : β → Nat) {keep : List Nat} {c : RCode} (b0 : β) (h0 : fgt keep e = (S b0).1) (h1 : σ = (S b0).2) (hi : I b0)
    (hstep : ∀ b, I b → (∀ b' e', I b' → μ b' < μ b → fgt keep e' = (S b').1 → Ex rp rs .skip (.lp (.fg keep c) :: ks) e' (S b').2 Q) → Ex rp rs c (.lp (.fg keep c) :: ks) (S b).1 (S b).2 Q) : Ex rp rs (.loop (.fg keep c)) ks e σ Q := by
  rw [ex_loop, ex_fg, h0, h1]
  have key : ∀ n b, I b → μ b < n → Ex rp rs c (.lp (.fg keep c) :: ks) (S b).1 (S b).2 Q := by
    intro n
    induction n with
    | zero => intro b _ h; omega
    | succ n ih =>
      intro b hb hn
      refine hstep b hb fun b' e' hb' hlt he => ?_
      rw [ex_lp, ex_fg, he]
      exact ih b' hb' (by omega)
  exact key _ b0 hi (Nat.lt_succ_self _)

/-- a loop in its block, and what comes behind -/
theorem bloop {β γ : Type} (S : β → Env × Store) (I : β → Prop) (μ : β → Nat) (T : γ → Env × Store) (J : γ → Prop) {keep keepx : List Nat} {c c2 : RCode} {id : Nat} {ks2 : List KI} (b0 : β) (h0 : fgt keep e = (S b0).1) (h1 : σ = (S b0).2) (hi : I b0)
    (hstep : ∀ (ks' : List KI) b, I b → (∀ b' e', I b' → μ b' < μ b → fgt keep e' = (S b').1 → Ex rp rs .skip (.lp (.fg keep c) :: .blk id :: ks') e' (S b').2 Q) →
      (∀ g e', J g → fgt keepx e' = (T g).1 → Ex rp rs .skip ks' e' (T g).2 Q) → Ex rp rs c (.lp (.fg keep c) :: .blk id :: ks') (S b).1 (S b).2 Q)
    (hend : ∀ g, J g → Ex rp rs c2 ks2 (T g).1 (T g).2 Q) : Ex rp rs (.loop (.fg keep c)) (.blk id :: .code (.fg keepx c2) :: ks2) e σ Q :=
  loop_rule S I μ b0 h0 h1 hi fun b hb ih => hstep _ b hb ih fun g e' hg he => by rw [ex_code, ex_fg, he]; exact hend g hg

/-- calls that take a block of their caller -/
theorem kf_own {f b n : Nat} {es : List PV} {r : CV} (h : Pu rp f [.sl es] r) (hσ : σ[b]? = some (.prow 1 es)) (hn : n = es.length) :
    KC rp rs base .fz f [.own b 0 n] d l dr ks e σ Q = ExR rp rs base l dr ks (sto d r e) (σ.set b .dead) Q := by
  have hf := frz1_own hσ hn
  exact kc_fz h (by simp only [frzs, frz, hf, Option.map_some])
theorem kf_p_own {f b n : Nat} {a : PV} {es : List PV} {r : CV} (h : Pu rp f [a, .sl es] r) (hσ : σ[b]? = some (.prow 1 es)) (hn : n = es.length) :
    KC rp rs base .fz f [.p a, .own b 0 n] d l dr ks e σ Q = ExR rp rs base l dr ks (sto d r e) (σ.set b .dead) Q := by
  have hf := frz1_own hσ hn
  exact kc_fz h (by simp only [frzs, frz, frz1_p, hf, Option.map_some])
theorem kf_agg {f b n : Nat} {a : PV} {es : List PV} {r : CV} (h : Pu rp f [.agg [a, .sl es]] r) (hσ : σ[b]? = some (.prow 1 es)) (hn : n = es.length) :
    KC rp rs base .fz f [.agg [.p a, .own b 0 n]] d l dr ks e σ Q = ExR rp rs base l dr ks (sto d r e) (σ.set b .dead) Q := by
  have hf := frz1_own hσ hn
  exact kc_fz h (by simp only [frzs, frz, frzL, frz1_p, hf, Option.map_some])

theorem GL.nil : GL σ sz .nils [] := .inl ⟨rfl, rfl⟩
theorem GL.own {b : Nat} (h : σ[b]? = some (.prow sz es)) {n : Nat} (hn : n = es.length) : GL σ sz (.own b 0 n) es := .inr ⟨b, by rw [hn], h⟩

theorem GL.content (h : GL σ sz c es) : content σ c = some es := by
  rcases h with ⟨rfl, rfl⟩ | ⟨b, rfl, hb⟩
  · rfl
  · exact cont_own hb rfl

theorem GL.frz1 (h : GL σ sz c es) : frz1 σ c = some (.sl es) := by
  rcases h with ⟨rfl, rfl⟩ | ⟨b, rfl, hb⟩
  · rfl
  · exact frz1_own hb rfl

theorem GL.frz (h : GL σ sz c es) : frz σ c = some (.sl es) := by
  have h2 := h.frz1
  rcases h with ⟨rfl, rfl⟩ | ⟨b, rfl, hb⟩
  · rfl
  · exact h2

theorem GL.kill (h : GL σ sz c es) : kill σ c = nd σ c := by
  rcases h with ⟨rfl, rfl⟩ | ⟨b, rfl, hb⟩ <;> rfl

theorem GL.back1 (h : GL σ sz c es) : back1 0 σ c = some (.p (.sl es)) := by
  rcases h with ⟨rfl, rfl⟩ | ⟨b, rfl, hb⟩
  · rfl
  · simp only [Vpi.back1, frz1_own hb rfl]; rfl

theorem GL.back (h : GL σ sz c es) : back 0 σ c = some (.p (.sl es)) := by
  rcases h with ⟨rfl, rfl⟩ | ⟨b, rfl, hb⟩
  · rfl
  · simp only [Vpi.back, Vpi.back1, frz1_own hb rfl]; rfl

theorem GL.len (h : GL σ sz c es) : lenV c = some es.length := by
  rcases h with ⟨rfl, rfl⟩ | ⟨b, rfl, hb⟩ <;> rfl

theorem GL.lt (h : GL σ sz c es) : GL σ sz c es ∧ ∀ b o n, c = .own b o n → b < σ.length := by
  refine ⟨h, ?_⟩
  rintro b o n rfl
  rcases h with ⟨h, _⟩ | ⟨b', h, hb⟩
  · cases h
  · cases h; exact (List.getElem?_eq_some_iff.1 hb).1

theorem GL.left (h : GL σ sz c es) {τ : Store} : GL (σ ++ τ) sz c es := by
  rcases h with ⟨rfl, rfl⟩ | ⟨b, rfl, hb⟩
  · exact .nil
  · exact .own (by rw [List.getElem?_append_left (List.getElem?_eq_some_iff.1 hb).1]; exact hb) rfl

theorem GL.set (h : GL σ sz c es) {k s : Nat} {cs : List CV} (hk : σ[k]? = some (.kblk s cs)) {x : Blk} : GL (σ.set k x) sz c es := by
  rcases h with ⟨rfl, rfl⟩ | ⟨b, rfl, hb⟩
  · exact .nil
  · refine .own ?_ rfl
    rw [List.getElem?_set_ne]
    · exact hb
    · rintro rfl; rw [hk] at hb; cases hb

theorem nd_get (h : GL σ sz c es) {k s : Nat} {cs : List CV} (hk : σ[k]? = some (.kblk s cs)) {τ : Store} : (nd σ c ++ τ)[k]? = some (.kblk s cs) := by
  have hlt := (List.getElem?_eq_some_iff.1 hk).1
  rw [List.getElem?_append_left (by rw [nd_len]; exact hlt)]
  rcases h with ⟨rfl, rfl⟩ | ⟨b, rfl, hb⟩
  · exact hk
  · simp only [nd]
    rw [List.getElem?_set_ne]
    · exact hk
    · rintro rfl; rw [hk] at hb; cases hb

theorem nd_wf (h : Wf σ) : Wf (nd σ c) := by
  cases c <;> try exact h
  exact h.set rfl
theorem nd_wf2 (h : Wf σ) {a b : Nat} {xs ys : List PV} : Wf (nd σ c ++ [.prow a xs, .prow b ys]) := by
  have := ((nd_wf (c := c) h).push (x := .prow a xs) rfl).push (x := .prow b ys) rfl
  rwa [List.append_assoc] at this
theorem nd_wf1 (h : Wf σ) {a : Nat} {xs : List PV} : Wf (nd σ c ++ [.prow a xs]) := (nd_wf (c := c) h).push (x := .prow a xs) rfl
theorem GL.new2 {x : Blk} {n m : Nat} (hn : n = es.length) (hm : m = σ.length) : GL (nd σ c ++ [x, .prow sz es]) sz (.own (m + 1) 0 n) es :=
  .own (by rw [hm, ← nd_len (c := c), get_app]; rfl) hn

/-- append of what bslice just laid -/
theorem r_app {s x : Opd} {bytes : Nat} (h : GL σ sz c es) (hc : (es.length + xs.length) * bytes ≤ 140737488355328) (hs : vl e s = c) (hx : vl e x = .own σ.length 0 xs.length) (hz : allSz sz xs = true) :
    ExR rp rs base (⟨d, none, none, .append sz bytes s x⟩ :: l) dr ks e (σ ++ [.prow sz xs]) Q = ExR rp rs base l dr ks (sto d (.own (σ.length + 1) 0 (es.length + xs.length)) e) (nd σ c ++ [.prow sz xs, .prow sz (es ++ xs)]) Q := by
  rw [r_append]
  have h1 : content (σ ++ [.prow sz xs]) (vl e s) = some es := by rw [hs]; exact h.left.content
  have h2 : content (σ ++ [.prow sz xs]) (vl e x) = some xs := by rw [hx]; exact cont_own (s := sz) (by simp) rfl
  have hlt := h.lt.2
  simp only [ev, h1, h2, hc, hz, and_self, if_true]
  rcases h with ⟨rfl, rfl⟩ | ⟨b, rfl, hb⟩
  · rw [hs]
    simp only [push_none, Option.map_some, ke_some, nd, List.length_append, List.length_cons, List.length_nil, List.append_assoc, List.cons_append, List.nil_append, Nat.zero_add]
  · rw [hs]
    have hb' : (σ ++ [.prow sz xs])[b]? = some (.prow sz es) := by rw [List.getElem?_append_left (hlt _ _ _ rfl)]; exact hb
    simp only [hb', if_true, push_none, Option.map_some, ke_some, nd, List.length_append, List.length_set, List.length_cons, List.length_nil, Nat.zero_add]
    rw [List.set_append_left _ _ (hlt _ _ _ rfl), List.append_assoc]
    rfl
end
end Go.Proofs.Ytdieenbfdeaffaa.Vpi
