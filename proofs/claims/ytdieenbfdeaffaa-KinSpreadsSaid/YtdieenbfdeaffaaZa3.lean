/- The verified interpreter, part 26: a larger table of functions answers what a smaller one does. No condition. -/
import Derived.Test.YtdieenbfdeaffaaZa2

namespace Go.Proofs.Ytdieenbfdeaffaa.Vpi
open Go
set_option linter.unusedVariables false
set_option linter.unusedSimpArgs false

def TabLe (rp rp' : RProg) : Prop := ∀ f rf, rp f = some rf → rp' f = some rf

theorem runK_lift {rp rp' : RProg} (ht : TabLe rp rp') : ∀ (n : Nat) (rs : List RRes) (c : RCode) (ks : List KI) (e : Env) (σ : Store) (x : CV × Store), runK rp n rs c ks e σ = some x → runK rp' n rs c ks e σ = some x := by
  intro n
  induction n with
  | zero => intro rs c ks e σ x h; simp [runK] at h
  | succ n ih =>
    intro rs c ks e σ x h
    have hle : CallerLe (runF rp n) (runF rp' n) := by
      intro f args σ x hx
      unfold runF at hx ⊢
      split at hx
      · rename_i rf hf
        rw [ht _ _ hf]
        exact ih _ _ _ _ _ _ hx
      · cases hx
    cases c with
    | skip =>
      cases ks with
      | nil => simpa only [runK] using h
      | cons k ks => cases k <;> (simp only [runK] at h ⊢; exact ih _ _ _ _ _ _ h)
    | reg ops dr =>
      cases dr with
      | none =>
        rw [runK_reg, Option.bind_eq_some_iff] at h
        obtain ⟨p, ho, h⟩ := h
        rw [runK_reg, runO_mono hle ho]
        exact ih _ _ _ _ _ _ h
      | some hx =>
        obtain ⟨hh, xp⟩ := hx
        rw [runK_draw, Option.bind_eq_some_iff] at h
        obtain ⟨p, ho, h⟩ := h
        rw [runK_draw, runO_mono hle ho]
        simp only [Option.bind_some]
        split at h
        · rename_i hp
          rw [if_pos hp]
          exact ih _ _ _ _ _ _ h
        · cases h
    | seq a b => simp only [runK] at h ⊢; exact ih _ _ _ _ _ _ h
    | cond c a b =>
      simp only [runK] at h ⊢
      split at h
      · split at h
        · rename_i hb; rw [if_pos hb]; exact ih _ _ _ _ _ _ h
        · rename_i hb; rw [if_neg hb]; exact ih _ _ _ _ _ _ h
      · cases h
    | block id c => simp only [runK] at h ⊢; exact ih _ _ _ _ _ _ h
    | scope c => simp only [runK] at h ⊢; exact ih _ _ _ _ _ _ h
    | loop c => simp only [runK] at h ⊢; exact ih _ _ _ _ _ _ h
    | exit id =>
      simp only [runK] at h ⊢
      split at h
      · exact ih _ _ _ _ _ _ h
      · cases h
    | ret => simpa only [runK] using h
    | fg keep c => simp only [runK] at h ⊢; exact ih _ _ _ _ _ _ h

theorem Rn.lift {rp rp' : RProg} (ht : TabLe rp rp') {f : Nat} {args : List CV} {σ : Store} {Q : CV → Store → Prop} (h : Rn rp f args σ Q) : Rn rp' f args σ Q := by
  obtain ⟨n, v, h1, h2⟩ := h
  refine ⟨n, v, ?_, h2⟩
  unfold runF at h1 ⊢
  split at h1
  · rename_i rf hf
    rw [ht _ _ hf]
    exact runK_lift ht _ _ _ _ _ _ _ h1
  · cases h1

theorem Pu.lift {rp rp' : RProg} (ht : TabLe rp rp') {f : Nat} {ps : List PV} {r : CV} (h : Pu rp f ps r) : Pu rp' f ps r := Rn.lift ht h

section
variable {rp : RProg} {rs : List RRes} {base : Nat} {d : Option Nat} {l : List LOp} {dr : Dr} {ks : List KI} {e : Env} {σ : Store} {Q : CV → Store → Prop}

theorem kc_peek {f : Nat} {args : List CV} {ps : List PV} {r u : CV} (h : Pu rp f ps r) (ha : frzs σ args = some ps) (hu : scal (some r) = some u) : KC rp rs base .peek f args d l dr ks e σ Q = ExR rp rs base l dr ks (sto d u e) σ Q := by
  unfold KC
  obtain ⟨m, v, h2, h3⟩ := h
  refine propext ⟨?_, fun hk => ⟨m, u, σ, by simp only [doCall, ha, h2, h3, hu, Option.map_some], hk⟩⟩
  rintro ⟨n, v', σ', h1, hk⟩
  simp only [doCall, ha] at h1
  split at h1
  · rename_i r' τ hr
    have := runF_det hr h2
    subst this
    simp only [h3, hu, Option.map_some, Option.some.injEq, Prod.mk.injEq] at h1
    obtain ⟨rfl, rfl⟩ := h1
    exact hk
  · cases h1

theorem kc_cell {f : Nat} {args as : List CV} {b s : Nat} {cs cs' : List CV} {v : PV} (hb : args.flatMap addrs = [b]) (hσ : σ[b]? = some (.kblk s cs)) (ha : cellArgs b args = some as) (hp : (allP cs).isSome = true)
    (h : Rn rp f as [.kblk s cs] fun v' τ => v' = .p v ∧ τ[0]? = some (.kblk s cs')) (hp' : (allP cs').isSome = true) :
    KC rp rs base .cell f args d l dr ks e σ Q = ExR rp rs base l dr ks (sto d (.p v) e) (σ.set b (.kblk s cs')) Q := by
  unfold KC
  obtain ⟨m, u, h2, h3, h4⟩ := h
  obtain ⟨q, hq⟩ := Option.isSome_iff_exists.1 hp
  obtain ⟨u1, u2⟩ := u
  simp only [] at h3 h4
  subst h3
  refine propext ⟨?_, fun hk => ⟨m, .p v, σ.set b (.kblk s cs'), ?_, hk⟩⟩
  · rintro ⟨n, v', σ', h1, hk⟩
    simp only [doCall, hb, hσ, ha, hq] at h1
    split at h1
    · rename_i v0 τ hr
      have := runF_det hr h2
      cases this
      simp only [h4, hp', and_self, if_true, Option.some.injEq, Prod.mk.injEq] at h1
      obtain ⟨rfl, rfl⟩ := h1
      exact hk
    · cases h1
  · simp only [doCall, hb, hσ, ha, hq, h2, h4, hp', and_self, if_true]
end
end Go.Proofs.Ytdieenbfdeaffaa.Vpi
