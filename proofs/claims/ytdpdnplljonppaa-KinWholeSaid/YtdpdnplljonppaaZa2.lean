/- The verified interpreter, part 11c: append, for any list of new elements; The verified interpreter, part 12: every operation that is no call; The verified interpreter, part 13: calls; The verified interpreter, part 14: one operation with its guard, and regions in the order of the text; The verified interpreter, part 15: what an operation reads and writes, and that it depends on nothing else; The verified interpreter, part 16: two operations that change places; The verified interpreter, part 17: regions whose order is drawn; The verified interpreter, part 18: regions whose order is drawn, run in any order; The verified interpreter, part 19: a drawn region answers as the order of the text does; The verified interpreter, part 19b: records of ranges over functions, beside the state. No condition. -/
import Derived.Test.YtdpdnplljonppaaZa1
import Derived.IntWalk
import Derived.Tactics
import Derived.OrdersIn
import Derived.RangeFuncNested
import Derived.Scope

namespace Go.Proofs.Ytdpdnplljonppaa.Vpi
open Go
set_option linter.unusedVariables false
set_option linter.unusedSimpArgs false
section
variable {P : Program} {w : World} {G : Nat → Prop} {ρ : List Loc} {σ : Store} {e : Env} {a : Act} {base : Nat} {sl : Option Nat} {o : Oper}
theorem sim_app_core {el : TypeId} {x' : Opd} {i : TypeInfo} {z : Value} {r : CV × Store} {u : Value} {A B : List PV} {us : List Value} (hs : St w G ρ σ) (r1 : RepC w G ρ (vl e x') u) (hzs : z.cells.size = i.size)
    (hA : content σ (vl e x') = some A) (hul : us.length = B.length * i.size) (hurep : ∀ (j : Nat) x (k : Nat) c q, B[j]? = some x → x.cells[k]? = some c → us[j * i.size + k]? = some q → RepP w G c q) (hu1 : ∀ q ∈ us, q.oneCell' = true) (hallB : allSz i.size B = true)
    (hbytes : (A.length + B.length) * i.bytes ≤ 140737488355328) (h63 : ((A.length + B.length : Nat) : Int) ≤ 9223372036854775807)
    (hfits : ∀ {n cap : Nat} {ad : Option Addr} {w' : World}, u = .slice ad n cap → n + B.length ≤ cap → (match ad with | some A => (storeCells (A.add (n * i.size)) us).run P w = .ok () w' | none => w' = w) → (execOp a.eval o).run P w = .ok (.value (.slice ad (n + B.length) cap)) w')
    (hgrows : ∀ {n cap : Nat} {ad : Option Addr} {os : List Value}, u = .slice ad n cap → os.length = n * i.size → (∀ A', ad = some A' → ∀ (j : Nat) u, os[j]? = some u → w.cell? (A'.add j) = some u) → (ad = none → n = 0 ∧ cap = 0) → cap < n + B.length → n ≤ cap → (n + B.length) * i.bytes ≤ 140737488355328 → ((n + B.length : Nat) : Int) ≤ 9223372036854775807 →
      (execOp a.eval o).run P w = .ok (.value (.slice (some ⟨w.heap.size, 0, none⟩) (n + B.length) (grownCap w (n + B.length) cap el))) (w.drew.alloc (.cells (os.toArray ++ us.toArray ++ Builtin.zeroCells z.cells (grownCap w (n + B.length) cap el - (n + B.length))) el)))
    (h : (match vl e x' with
      | .nils => (push base sl σ (.prow i.size (A ++ B))).map fun (k, σ) => (CV.own k 0 (A.length + B.length), σ)
      | .own b _ _ =>
        match σ[b]? with
        | some (.prow s _) => if s = i.size then (push base sl (σ.set b .dead) (.prow i.size (A ++ B))).map fun (k, σ) => (CV.own k 0 (A.length + B.length), σ) else none
        | _ => none
      | _ => none) = some r) : SimOp P o a w G ρ r.1 r.2 := by
  -- a new block
  have fresh : ∀ {G1 : Nat → Prop} {ρ1 : List Loc} {σ1 σ' : Store} {k : Nat} {ad : Option Addr} {cap : Nat} {os : List Value}, St w G1 ρ1 σ1 → Ext w G ρ w G1 ρ1 → Vpi.push base sl σ1 (.prow i.size (A ++ B)) = some (k, σ') → r = (.own k 0 (A.length + B.length), σ') → u = .slice ad A.length cap → os.length = A.length * i.size →
      (∀ A', ad = some A' → ∀ (j : Nat) u, os[j]? = some u → w.cell? (A'.add j) = some u) → (ad = none → A.length = 0 ∧ cap = 0) → cap < A.length + B.length → A.length ≤ cap → allSz i.size A = true → ((A.length + B.length : Nat) : Int) ≤ 9223372036854775807 →
      (∀ (j : Nat) x (k : Nat) c q, A[j]? = some x → x.cells[k]? = some c → os[j * i.size + k]? = some q → RepP w G1 c q) → (∀ q ∈ os, q.oneCell' = true) → SimOp P o a w G ρ r.1 r.2 := by
    intro G1 ρ1 σ1 σ' k ad cap os s1 e1 hp hr hua hol hoc hon hg hnc hallA h63 horep ho1
    subst hr hua
    have hrun := hgrows rfl hol hoc hon hg hnc hbytes h63
    have hge := grownCap_ge w (A.length + B.length) cap el
    have hAc : ∀ (j : Nat) x, A[j]? = some x → x.cells.length = i.size := fun j x hx => by simpa using List.all_eq_true.1 hallA x (List.mem_of_getElem? hx)
    have hBc : ∀ (j : Nat) x, B[j]? = some x → x.cells.length = i.size := fun j x hx => by simpa using List.all_eq_true.1 hallB x (List.mem_of_getElem? hx)
    have hABc : ∀ (j : Nat) x, (A ++ B)[j]? = some x → x.cells.length = i.size := by
      intro j x hx
      rcases Nat.lt_or_ge j A.length with h1 | h1
      · rw [List.getElem?_append_left h1] at hx; exact hAc j x hx
      · rw [List.getElem?_append_right h1] at hx; exact hBc _ x hx
    have harr : (os.toArray ++ us.toArray ++ Builtin.zeroCells z.cells (grownCap w (A.length + B.length) cap el - (A.length + B.length))).size = grownCap w (A.length + B.length) cap el * i.size := by
      simp only [Array.size_append, List.size_toArray, hol, hul, size_zeroCells, hzs]
      rw [← Nat.add_mul, ← Nat.add_mul]
      congr 1; omega
    obtain ⟨ρ2, s2, e2, rep2⟩ := push_row (n := A.length + B.length) (w' := w.drew.alloc (.cells (os.toArray ++ us.toArray ++ Builtin.zeroCells z.cells (grownCap w (A.length + B.length) cap el - (A.length + B.length))) el)) s1 hp rfl hge (by rw [harr]; exact Nat.le_refl _)
      (by rw [harr, List.length_append]; exact Nat.mul_le_mul_right _ hge) hABc
      (by
        intro j x q c p hx hc hp'
        have hq : q < i.size := by rw [← hABc j x hx]; exact get_lt hc
        have hget : (os ++ us ++ (Builtin.zeroCells z.cells (grownCap w (A.length + B.length) cap el - (A.length + B.length))).toList)[j * i.size + q]? = some p := by
          have : (os.toArray ++ us.toArray ++ Builtin.zeroCells z.cells (grownCap w (A.length + B.length) cap el - (A.length + B.length))).toList = os ++ us ++ (Builtin.zeroCells z.cells (grownCap w (A.length + B.length) cap el - (A.length + B.length))).toList := by simp
          rw [← this, Array.getElem?_toList]
          exact hp'
        rcases seg_get (zs := (Builtin.zeroCells z.cells (grownCap w (A.length + B.length) cap el - (A.length + B.length))).toList) hol hul hx hq with ⟨h1, h2, h3⟩ | ⟨h1, h2, h3⟩
        · rw [h3] at hget
          exact ⟨horep j x q c p h2 hc hget, ho1 p (List.mem_of_getElem? hget)⟩
        · rw [h3] at hget
          exact ⟨(hurep _ x q c p h2 hc hget).mono (fun _ _ => rfl) e1.grow, hu1 p (List.mem_of_getElem? hget)⟩)
    refine ⟨.value _, _, _, G1, ρ2, ?_, .inl rfl, s2, e1.trans e2, rep2⟩
    exact hrun
  split at h
  · -- nil
    rename_i hnil
    rw [hnil] at r1 hA
    have hu0 := rep_nils r1
    subst hu0
    simp only [content, Option.some.injEq] at hA
    subst hA
    simp only [Option.map_eq_some_iff] at h
    obtain ⟨⟨k, σ'⟩, hp, hr⟩ := h
    by_cases hm : B.length = 0
    · have hB0 : B = [] := by simpa using hm
      subst hB0
      obtain ⟨ρ', s1, e1, hk⟩ := hs.pushDet hp
      subst hr
      have hrun := hfits (n := 0) (cap := 0) (ad := none) (w' := w) rfl (by simp) rfl
      refine ⟨.value _, _, w, G, ρ', by exact hrun, .inl rfl, s1, e1, ?_⟩
      exact .own _ _ _ _ _ (by simp) (by simp [OwnOk, hk])
    · exact fresh (os := []) hs Ext.refl hp hr.symm rfl (by simp) (by simp) (fun _ => ⟨rfl, rfl⟩) (by simp; omega) (by simp) (by simp [allSz]) h63 (by simp) (by simp)
  · -- a block of our own
    rename_i b off n hown
    split at h
    · rename_i s es hb
      split at h
      · rename_i hss
        subst hss
        simp only [Option.map_eq_some_iff] at h
        obtain ⟨⟨k, σ'⟩, hp, hr⟩ := h
        rw [hown] at r1 hA
        have r1' := r1
        obtain ⟨ad, cap, rfl, hcap, hok⟩ := rep_own r1
        obtain ⟨l, hl, hblk⟩ := hs.get hb
        have hA' := hA
        simp only [content, hb] at hA'
        split at hA'
        · rename_i hle
          cases hA'
          have hlen : ((es.drop off).take n).length = n := by simp; omega
          have hcl : ∀ (j : Nat) x, es[j]? = some x → x.cells.length = i.size := by
            cases l with
            | lv blk o' t s' => obtain ⟨rfl, _, _, _, _, _, _, hcl, _⟩ := hblk; exact hcl
            | det => simp only [BlkOk] at hblk; subst hblk; simp
            | dead => exact hblk.elim
            | hole => exact hblk.elim
          have hallA : allSz i.size ((es.drop off).take n) = true := by
            rw [allSz, List.all_eq_true]
            intro x hx
            have := List.mem_of_mem_drop (List.mem_of_mem_take hx)
            obtain ⟨j, hj⟩ := List.getElem?_of_mem this
            simpa using hcl j x hj
          obtain ⟨ad2, cap2, os, he2, _, hol, hocell, honone, horep, ho1⟩ := content_rep hs hA r1' hallA
          simp only [Value.slice.injEq] at he2
          obtain ⟨rfl, _, rfl⟩ := he2
          rw [hlen] at hol h63 hbytes
          -- the old block is given up
          have hdie : ∃ G1 ρ1, St w G1 ρ1 (σ.set b .dead) ∧ Ext w G ρ w G1 ρ1 := by
            cases l with
            | lv blk o' t s' => obtain ⟨x1, x2⟩ := hs.give hl; exact ⟨_, _, x1, x2⟩
            | det => obtain ⟨x1, x2⟩ := hs.giveDet hl (by rintro ⟨_, _, _, _, x⟩; cases x); exact ⟨_, _, x1, x2⟩
            | dead => exact hblk.elim
            | hole => exact hblk.elim
          rcases Nat.lt_or_ge cap (n + B.length) with hroom | hroom
          · obtain ⟨G1, ρ1, s1, e1⟩ := hdie
            refine fresh (os := os) (cap := cap) (ad := ad) s1 e1 hp hr.symm (by rw [hlen]) (by rw [hlen]; exact hol) hocell ?_ (by rw [hlen]; exact hroom) (by rw [hlen]; exact hcap) hallA (by rw [hlen]; exact h63) ?_ ho1
            · intro hnone
              have := honone hnone
              refine ⟨by rw [this]; rfl, ?_⟩
              simp only [OwnOk, hl] at hok
              cases l with
              | lv blk o' t s' =>
                simp only at hok
                rcases hok with h | ⟨h, _⟩
                · exact h
                · rw [hnone] at h; cases h
              | det => exact hok
              | dead => exact hblk.elim
              | hole => exact hblk.elim
            · intro j x k c q h1 h2 h3
              exact (horep j x k c q h1 h2 h3).mono (fun _ _ => rfl) e1.grow
          · -- there is room
            by_cases hm : B.length = 0
            · have hB0 : B = [] := by simpa using hm
              subst hB0
              have hus : us = [] := by simpa using hul
              subst hus
              have hrun := hfits (n := n) (cap := cap) (ad := ad) (w' := w) rfl (by simpa using hcap) (by cases ad <;> rfl)
              have hnewloc : ∃ l', (∀ (blk o t s : Nat), l' = .lv blk o t s → ∃ o' t' s', l = .lv blk o' t' s') ∧ (∀ ρ', LocExt ρ ρ' → BlkOk w G ρ' l' (.prow i.size ((es.drop off).take n))) ∧
                  (match l' with | .lv blk o tot sz => cap = 0 ∨ (ad = some ⟨blk, o + 0 * sz, none⟩ ∧ o + (0 + cap) * sz ≤ tot) | .det => cap = 0 | _ => False) := by
                cases l with
                | lv blk o' t s' =>
                  obtain ⟨rfl, hng, arr, el', hh, rfl, hfit, hcl2, hk2⟩ := hblk
                  simp only [OwnOk, hl] at hok
                  rcases hok with hc0 | ⟨hada, hf2⟩
                  · refine ⟨.det, by simp, ?_, hc0⟩
                    intro ρ' _
                    have : n = 0 := by omega
                    subst this
                    simp [BlkOk]
                  · have hmul : (off + n) * i.size ≤ es.length * i.size := Nat.mul_le_mul_right _ hle
                    rw [Nat.add_mul] at hmul
                    refine ⟨.lv blk (o' + off * i.size) arr.size i.size, ?_, ?_, .inr ⟨by simpa using hada, by rw [Nat.add_mul] at hf2; simpa [Nat.add_assoc] using hf2⟩⟩
                    · rintro blk' o2 t2 s2 h2; cases h2; exact ⟨_, _, _, rfl⟩
                    · intro ρ' _
                      refine ⟨rfl, hng, arr, el', hh, rfl, by rw [hlen]; omega, ?_, ?_⟩
                      · intro j x hx
                        rw [List.getElem?_take] at hx
                        split at hx
                        · rw [List.getElem?_drop] at hx; exact hcl2 _ _ hx
                        · cases hx
                      · intro j x k c u hx hc hu
                        rw [List.getElem?_take] at hx
                        split at hx
                        · rw [List.getElem?_drop] at hx
                          exact hk2 (off + j) x k c u hx hc (by rw [Nat.add_mul, show o' + (off * i.size + j * i.size) + k = o' + off * i.size + j * i.size + k by omega]; exact hu)
                        · cases hx
                | det =>
                  refine ⟨.det, by simp, ?_, by simpa [OwnOk, hl] using hok⟩
                  intro ρ' _
                  simp only [BlkOk] at hblk ⊢
                  subst hblk
                  simp
                | dead => exact hblk.elim
                | hole => exact hblk.elim
              obtain ⟨l', hl'1, hl'2, hl'3⟩ := hnewloc
              simp only [List.append_nil] at hp
              obtain ⟨ρ', s1, e1, hk⟩ := hs.repl hl hp hl'1 hl'2
              subst hr
              refine ⟨.value _, _, w, G, ρ', by exact hrun, .inl rfl, s1, e1, ?_⟩
              have hrep : RepC w G ρ' (.own k 0 n) (.slice ad n cap) := by
                refine .own _ _ _ _ _ (by simpa using hcap) ?_
                simp only [OwnOk, hk]
                cases l' <;> first | exact hl'3 | exact hl'3.elim
              simpa [hlen] using hrep
            · cases l with
              | lv blk o' t s' =>
                obtain ⟨rfl, hng, arr, el', hh, rfl, hfit, hcl2, hk2⟩ := hblk
                simp only [OwnOk, hl] at hok
                rcases hok with hc0 | ⟨rfl, hf2⟩
                · omega
                · have hmul : (off + n) * i.size ≤ es.length * i.size := Nat.mul_le_mul_right _ hle
                  have hmul2 : (off + (n + B.length)) * i.size ≤ (off + cap) * i.size := Nat.mul_le_mul_right _ (by omega)
                  have hx1 : (off + n) * i.size = off * i.size + n * i.size := Nat.add_mul _ _ _
                  have hx2 : (off + (n + B.length)) * i.size = off * i.size + n * i.size + B.length * i.size := by rw [Nat.add_mul, Nat.add_mul]; omega
                  have hW : o' + off * i.size + n * i.size + us.length ≤ arr.size := by rw [hul]; omega
                  have hst := run_storeCells_at P blk (o' + off * i.size + n * i.size) el' us 0 arr w hh (by omega) hu1
                  simp only [Nat.add_zero] at hst
                  have hrun := hfits (n := n) (cap := cap) (ad := some ⟨blk, o' + off * i.size, none⟩) (w' := w.setRow blk (wrote arr (o' + off * i.size + n * i.size) us)) rfl hroom
                    (by simp only [add_at]; exact hst)
                  have hGsame : ∀ k, G k → (w.setRow blk (wrote arr (o' + off * i.size + n * i.size) us)).heap[k]? = w.heap[k]? := by
                    intro q hq
                    rw [setRow_eq hh, Array.getElem?_setIfInBounds_ne]
                    rintro rfl; exact hng hq
                  have hnew : (w.setRow blk (wrote arr (o' + off * i.size + n * i.size) us)).heap[blk]? = some (.cells (wrote arr (o' + off * i.size + n * i.size) us) el' (0, 0)) := by
                    rw [setRow_eq hh, Array.getElem?_setIfInBounds_self_of_lt (aget_lt hh)]
                  obtain ⟨s1, e1⟩ := hs.write (w' := w.setRow blk (wrote arr (o' + off * i.size + n * i.size) us)) hl (aget_lt hh) (setRow_eq hh) (b := .prow i.size [])
                    ⟨rfl, hng, _, el', hnew, wrote_size hW, by simp; omega, by simp, by simp⟩
                  have hp' : Vpi.push base sl ((σ.set b (.prow i.size [])).set b .dead) (.prow i.size (List.take n (List.drop off es) ++ B)) = some (k, σ') := by rw [List.set_set]; exact hp
                  obtain ⟨ρ', s2, e2, hk⟩ := s1.repl hl hp' (l := .lv blk (o' + off * i.size) arr.size i.size) (by rintro blk' o2 t2 s2 h2; cases h2; exact ⟨_, _, _, rfl⟩) (by
                    intro ρ' _
                    refine ⟨rfl, hng, _, el', hnew, wrote_size hW, ?_, ?_, ?_⟩
                    · rw [List.length_append, hlen, Nat.add_mul]; omega
                    · intro j x hx
                      rcases Nat.lt_or_ge j n with h1 | h1
                      · rw [List.getElem?_append_left (by rw [hlen]; exact h1), List.getElem?_take, if_pos h1, List.getElem?_drop] at hx; exact hcl2 _ _ hx
                      · rw [List.getElem?_append_right (by rw [hlen]; exact h1)] at hx
                        simpa using List.all_eq_true.1 hallB x (List.mem_of_getElem? hx)
                    · intro j x q c p hx hc hpq
                      rw [wrote_get hW] at hpq
                      rcases Nat.lt_or_ge j n with h1 | h1
                      · rw [List.getElem?_append_left (by rw [hlen]; exact h1), List.getElem?_take, if_pos h1, List.getElem?_drop] at hx
                        have hq : q < i.size := by rw [← hcl2 _ _ hx]; exact get_lt hc
                        have h2 : (j + 1) * i.size ≤ n * i.size := Nat.mul_le_mul_right _ h1
                        rw [Nat.succ_mul] at h2
                        rw [if_neg (by omega)] at hpq
                        obtain ⟨y1, y2⟩ := hk2 (off + j) x q c p hx hc (by rw [Nat.add_mul, show o' + (off * i.size + j * i.size) + q = o' + off * i.size + j * i.size + q by omega]; exact hpq)
                        exact ⟨y1.mono hGsame (fun _ y => y), y2⟩
                      · rw [List.getElem?_append_right (by rw [hlen]; exact h1), hlen] at hx
                        have hq : q < i.size := by rw [← (by simpa using List.all_eq_true.1 hallB x (List.mem_of_getElem? hx) : x.cells.length = i.size)]; exact get_lt hc
                        have hjB := get_lt hx
                        have h2 : (j - n + 1) * i.size ≤ B.length * i.size := Nat.mul_le_mul_right _ hjB
                        rw [Nat.succ_mul] at h2
                        have h3 : j * i.size = n * i.size + (j - n) * i.size := by rw [← Nat.add_mul]; congr 1; omega
                        rw [if_pos (by omega), show o' + off * i.size + j * i.size + q - (o' + off * i.size + n * i.size) = (j - n) * i.size + q by omega] at hpq
                        exact ⟨(hurep _ x q c p hx hc hpq).mono hGsame (fun _ y => y), hu1 p (List.mem_of_getElem? hpq)⟩)
                  subst hr
                  have hrep : RepC (w.setRow blk (wrote arr (o' + off * i.size + n * i.size) us)) G ρ' (.own k 0 (n + B.length)) (.slice (some ⟨blk, o' + off * i.size, none⟩) (n + B.length) cap) := by
                    refine .own _ _ _ _ _ hroom ?_
                    simp only [OwnOk, hk]
                    right
                    rw [Nat.add_mul] at hf2
                    exact ⟨by simp, by simp; omega⟩
                  exact ⟨.value _, _, _, G, ρ', by exact hrun, .inl rfl, s2, e1.trans e2, by simpa [hlen] using hrep⟩
              | det => simp only [OwnOk, hl] at hok; omega
              | dead => exact hblk.elim
              | hole => exact hblk.elim
        · cases hA'
      · cases h
    · cases h
  · cases h
theorem zeroCells_made (z : Array Value) (n : Nat) : Builtin.zeroCells z n = madeCells z (n * z.size) := rfl
theorem run_appz_fits {t t2 el ty : TypeId} {ik k : IntKind} {i : TypeInfo} {z : Value} {n cap : Nat} {m : Int} {ad : Option Addr} {w' : World} (ht : P.underlying t = some (.slice el)) (ht2 : P.underlying t2 = some (.int ik)) (hi : P.info? el = some i) (hz : i.zero = some z) (hzs : z.cells.size = i.size)
    (h0 : 0 ≤ m) (h63 : m ≤ 9223372036854775807) (hb : m.toNat * i.bytes ≤ 281474976710656) (hroom : n + m.toNat ≤ cap)
    (hst : match ad with | some A => (storeCells (A.add (n * i.size)) (Builtin.zeroCells z.cells m.toNat).toList).run P w = .ok () w' | none => w' = w) :
    (Builtin.append_ #[t, t2] ty #[.slice ad n cap, .int k m]).run P w = .ok (.slice ad (n + m.toNat) cap) w' := by
  have hw : IntKind.i64.wrap m = m := by rw [IntWalk.i64_in _ (by omega)]
  have hneg : ¬ m < 0 := by omega
  have hbig : ¬ (281474976710656 < m * (i.bytes : Int)) := by
    have : m * (i.bytes : Int) = ((m.toNat * i.bytes : Nat) : Int) := by rw [Int.natCast_mul, Int.toNat_of_nonneg h0]
    rw [this]; omega
  have he : m.toNat * i.size = 0 → Builtin.zeroCells z.cells m.toNat = #[] := by
    intro h; apply Array.eq_empty_of_size_eq_zero; rw [size_zeroCells, hzs, h]
  by_cases hz0 : m.toNat * i.size = 0
  · have hemp := he hz0
    rw [hemp] at hst
    cases ad with
    | none => subst hst; simp [Builtin.append_, run_underlying ht, run_underlying ht2, sizeOf, typeInfo, zeroValue, hi, hz, hw, hneg, hbig, hroom, hz0, asInt, asIntOf]
    | some A =>
      have hst2 : (storeCells (A.add (n * i.size)) []).run P w = .ok () w' := hst
      simp [Builtin.append_, run_underlying ht, run_underlying ht2, sizeOf, typeInfo, zeroValue, hi, hz, hw, hneg, hbig, hroom, hz0, asInt, asIntOf, hst2]
  · cases ad with
    | none => subst hst; simp [Builtin.append_, run_underlying ht, run_underlying ht2, sizeOf, typeInfo, zeroValue, hi, hz, hw, hneg, hbig, hroom, hz0, asInt, asIntOf]
    | some A => simp [Builtin.append_, run_underlying ht, run_underlying ht2, sizeOf, typeInfo, zeroValue, hi, hz, hw, hneg, hbig, hroom, hz0, asInt, asIntOf, hst]
theorem run_appz_grows {t t2 el ty : TypeId} {ik k : IntKind} {i : TypeInfo} {z : Value} {n cap : Nat} {m : Int} {ad : Option Addr} {os : List Value} (ht : P.underlying t = some (.slice el)) (ht2 : P.underlying t2 = some (.int ik)) (hi : P.info? el = some i) (hz : i.zero = some z) (hzs : z.cells.size = i.size)
    (h0 : 0 ≤ m) (h63 : m ≤ 9223372036854775807) (hlo : os.length = n * i.size)
    (ho : ∀ A, ad = some A → ∀ (j : Nat) u, os[j]? = some u → w.cell? (A.add j) = some u) (hno : ad = none → n = 0 ∧ cap = 0)
    (hg : cap < n + m.toNat) (hbytes : (n + m.toNat) * i.bytes ≤ 140737488355328) (h63' : ((n + m.toNat : Nat) : Int) ≤ 9223372036854775807) :
    (Builtin.append_ #[t, t2] ty #[.slice ad n cap, .int k m]).run P w =
      .ok (.slice (some ⟨w.heap.size, 0, none⟩) (n + m.toNat) (grownCap w (n + m.toNat) cap el)) (w.drew.alloc (.cells (os.toArray ++ (Builtin.zeroCells z.cells m.toNat).toList.toArray ++ Builtin.zeroCells z.cells (grownCap w (n + m.toNat) cap el - (n + m.toNat))) el)) := by
  have hw : IntKind.i64.wrap m = m := by rw [IntWalk.i64_in _ (by omega)]
  have hneg : ¬ m < 0 := by omega
  have hmb : m.toNat * i.bytes ≤ (n + m.toNat) * i.bytes := Nat.mul_le_mul_right _ (by omega)
  have hbig : ¬ (281474976710656 < m * (i.bytes : Int)) := by
    have : m * (i.bytes : Int) = ((m.toNat * i.bytes : Nat) : Int) := by rw [Int.natCast_mul, Int.toNat_of_nonneg h0]
    rw [this]; omega
  have hroom : ¬ (n + m.toNat ≤ cap) := by omega
  have h63n : ¬ (9223372036854775807 < (n : Int) + max m 0) := by omega
  have h48 : ¬ (281474976710656 < Builtin.nextslicecap (n + m.toNat) cap * i.bytes) := by
    have := growslice_fits hg hbytes
    omega
  have hfo : (Builtin.firstCells i.size n (.slice ad n cap)).run P w.drew = .ok os.toArray w.drew := by
    refine run_first hlo (fun A hA j u hu => by have := ho A hA j u hu; simpa using this) (fun x => (hno x).1)
  by_cases hz0 : m.toNat * i.size = 0
  · have hemp : Builtin.zeroCells z.cells m.toNat = #[] := by apply Array.eq_empty_of_size_eq_zero; rw [size_zeroCells, hzs, hz0]
    simp [Builtin.append_, run_underlying ht, run_underlying ht2, sizeOf, typeInfo, zeroValue, hi, hz, hw, hneg, hbig, hroom, hz0, asInt, asIntOf, h63n, h48, hfo, Question.forced, newRow, grownCap, hemp]
  · simp [Builtin.append_, run_underlying ht, run_underlying ht2, sizeOf, typeInfo, zeroValue, hi, hz, hw, hneg, hbig, hroom, hz0, asInt, asIntOf, h63n, h48, hfo, Question.forced, newRow, grownCap]
theorem exec_append2 {c : Call} {x y : Operand} {t t2 : TypeId} (ho : o.op = .call c) (hc1 : c.callee = .builtin .append) (hc2 : c.args = #[x, y]) (hc3 : c.argTypes = #[t, t2]) :
    (execOp a.eval o).run P w = ((Builtin.append_ #[t, t2] o.type #[a.eval x, a.eval y]).run P w).andThen fun v w => .ok (.value v) w := by
  simp [execOp, ho, resolve, hc1, hc2, hc3, invoke, builtin]
theorem sim_appz {sz bytes : Nat} {zp : PV} {t t2 el : TypeId} {ik : IntKind} {x y : Operand} {x' y' : Opd} {i : TypeInfo} {z : Value} {r : CV × Store} (hs : St w G ρ σ) (he : RepE w G ρ e a.tmps) (ho : ∃ c : Call, o.op = .call c ∧ c.callee = .builtin .append ∧ c.args = #[x, y] ∧ c.argTypes = #[t, t2])
    (hx : okOpd x x' = true) (hy : okOpd y y' = true) (ht : P.underlying t = some (.slice el)) (ht2 : P.underlying t2 = some (.int ik)) (hi : P.info? el = some i) (hsz : i.size = sz) (hby : i.bytes = bytes) (hz : i.zero = some z) (hzs : z.cells.size = sz) (hzz : okPs z.cells.toList zp.cells = true) (h0 : sz ≠ 0) (hb0 : bytes ≠ 0)
    (h : ev base sl (.appz sz bytes zp x' y') e σ = some r) : SimOp P o a w G ρ r.1 r.2 := by
  have r1 := okOpd_rep hx he
  have r2 := okOpd_rep hy he
  obtain ⟨c, ho, hc1, hc2, hc3⟩ := ho
  have exec := exec_append2 (P := P) (w := w) (a := a) ho hc1 hc2 hc3
  generalize hu : a.eval x = u at r1
  generalize hv : a.eval y = v at r2
  rw [hu, hv] at exec
  simp only [ev] at h
  split at h
  · rename_i A m hA hm
    obtain ⟨kk, rfl, _⟩ := rep_num hm r2
    split at h
    · rename_i hcond
      obtain ⟨m0, m63, hbytes, hzl⟩ := hcond
      subst hsz hby
      obtain ⟨z1, z2, z3⟩ := okPs_len (w := w) (G := G) hzz
      have hBl : (List.replicate m.toNat zp).length = m.toNat := List.length_replicate
      have h63 : ((A.length + m.toNat : Nat) : Int) ≤ 9223372036854775807 := by
        have : (A.length + m.toNat) * 1 ≤ (A.length + m.toNat) * i.bytes := Nat.mul_le_mul_left _ (by omega)
        omega
      refine sim_app_core (el := el) (z := z) (A := A) (B := List.replicate m.toNat zp) (us := (Builtin.zeroCells z.cells m.toNat).toList) hs r1 hzs hA (by rw [Array.length_toList, size_zeroCells, hBl, hzs]) ?_ ?_ ?_ (by rw [hBl]; exact hbytes) (by rw [hBl]; exact h63) ?_ ?_ (by rw [hBl]; exact h)
      · intro j e k c q he hck hq
        rw [List.getElem?_replicate] at he
        split at he
        · rename_i hj
          cases he
          have hk : k < i.size := by rw [← hzl]; exact get_lt hck
          have hidx : j * i.size + k < m.toNat * z.cells.size := by
            have : (j + 1) * i.size ≤ m.toNat * i.size := Nat.mul_le_mul_right _ (by omega)
            rw [Nat.succ_mul] at this
            rw [hzs]; omega
          rw [Array.getElem?_toList, zeroCells_made, madeCells_get hidx (by omega), hzs, Nat.add_comm (j * i.size), Nat.add_mul_mod_self_right, Nat.mod_eq_of_lt hk] at hq
          exact z2 k c q hck (by simpa using hq)
        · cases he
      · intro q hq
        obtain ⟨j, hj⟩ := List.getElem?_of_mem hq
        have hjl := get_lt hj
        rw [Array.length_toList, size_zeroCells] at hjl
        rw [Array.getElem?_toList, zeroCells_made, madeCells_get hjl (by omega)] at hj
        exact z3 q (by simpa using Array.mem_of_getElem? hj)
      · rw [allSz, List.all_eq_true]
        intro e he
        obtain ⟨_, rfl⟩ := List.mem_replicate.1 he
        simpa using hzl
      · intro n cap ad w' hua hroom hst
        subst hua
        rw [hBl] at hroom ⊢
        have hb2 : m.toNat * i.bytes ≤ 281474976710656 := by
          have : m.toNat * i.bytes ≤ (A.length + m.toNat) * i.bytes := Nat.mul_le_mul_right _ (by omega)
          omega
        rw [exec, run_appz_fits ht ht2 hi hz hzs m0 m63 hb2 hroom hst]; rfl
      · intro n cap ad os hua hol hoc hon hg hnc hb3 h633
        subst hua
        rw [hBl] at hg hb3 h633 ⊢
        rw [exec, run_appz_grows ht ht2 hi hz hzs m0 m63 hol hoc hon hg hb3 h633]; rfl
    · cases h
  · cases h
end
end Go.Proofs.Ytdpdnplljonppaa.Vpi

namespace Go.Proofs.Ytdpdnplljonppaa.Vpi
open Go
set_option linter.unusedVariables false
set_option linter.unusedSimpArgs false
set_option maxRecDepth 4000
section
variable {P : Program} {o : Oper} {w : World} {G : Nat → Prop} {ρ : List Loc} {σ : Store} {e : Env} {a : Act} {base : Nat} {sl : Option Nat}
theorem toList1 {α : Type} {x : Array α} {a : α} (h : x.toList = [a]) : x = #[a] := by
  apply Array.ext'; simpa using h
theorem toList2 {α : Type} {x : Array α} {a b : α} (h : x.toList = [a, b]) : x = #[a, b] := by
  apply Array.ext'; simpa using h
set_option maxHeartbeats 1000000 in
theorem sim_ev {r : ROp} {res : CV × Store} (hs : St w G ρ σ) (he : RepE w G ρ e a.tmps) (hok : okOp P o.op r = true) (h : ev base sl r e σ = some res) : SimOp P o a w G ρ res.1 res.2 := by
  generalize ho : o.op = op at hok
  unfold okOp at hok
  split at hok
  · simp only [ev] at h; cases h; exact sim_mv hs he (.inl ho) hok
  · simp only [ev] at h; cases h; exact sim_mv hs he (.inr ho) hok
  · simp only [Bool.and_eq_true] at hok
    simp only [ev] at h
    split at h
    · rename_i hb; cases h; exact sim_pick hs he ho hok.1.1 hok.1.2 hok.2 hb
    · cases h
  · exact sim_alloc hs ho hok h
  · exact sim_box hs he ho hok h
  · simp only [Bool.and_eq_true] at hok
    obtain ⟨h1, h2⟩ := hok
    split at h2
    · rename_i fs hfs
      simp only [Bool.and_eq_true] at h2
      exact sim_build hs he ho h1 hfs h2.1 h2.2 h
    · cases h2
  · obtain ⟨el, hel, hq⟩ := sliceElem_spec (P := P) hok
    simp only [Bool.and_eq_true, beq_iff_eq, decide_eq_true_eq] at hq
    obtain ⟨⟨⟨⟨h1, h2⟩, h3⟩, h4⟩, h5⟩ := hq
    cases hi : P.info? el with
    | none => rw [hi] at h5; cases h5
    | some i =>
      rw [hi] at h5
      simp only [Option.bind_some] at h5
      cases hz : i.zero with
      | none => rw [hz] at h5; cases h5
      | some zv =>
        rw [hz] at h5
        simp only [szP, hi, Option.map_some, Option.some.injEq] at h1
        exact sim_bslice hs he ho hel hi h1 hz (by simpa using h5) h2 h3 h4 h
  · obtain ⟨el, hel, hq⟩ := sliceElem_spec (P := P) hok
    cases hi : P.info? el with
    | none => rw [hi] at hq; cases hq
    | some i =>
      rw [hi] at hq
      simp only [Bool.and_eq_true, beq_iff_eq, decide_eq_true_eq] at hq
      obtain ⟨⟨⟨⟨h1, h2⟩, h3⟩, h4⟩, h5⟩ := hq
      cases hz : i.zero with
      | none => rw [hz] at h5; cases h5
      | some zv =>
        rw [hz] at h5
        exact sim_bslk hs he ho hel hi h1 hz (by simpa using h5) h2 h3 h4 h
  · simp only [Bool.and_eq_true, beq_iff_eq] at hok
    exact sim_load hs he ho hok.2 hok.1.1 hok.1.2 h
  · simp only [Bool.and_eq_true, beq_iff_eq] at hok
    exact sim_store hs he ho hok.1.2 hok.2 hok.1.1 h
  · exact sim_nilc hs he ho hok h
  · simp only [Bool.and_eq_true, beq_iff_eq] at hok
    obtain ⟨⟨⟨rfl, h1⟩, h2⟩, h3⟩ := hok
    exact sim_bin hs he ho h1 h2 h
  · simp only [Bool.and_eq_true] at hok
    exact sim_beq hs he ho hok.1.1.1 hok.1.1.2 hok.1.2 hok.2 h
  · simp only [Bool.and_eq_true, beq_iff_eq] at hok
    obtain ⟨rfl, h1⟩ := hok
    exact sim_un hs he ho h1 h
  · simp only [Bool.and_eq_true] at hok
    exact sim_conv hs he ho hok.2 hok.1.1 hok.1.2 h
  · simp only [Bool.and_eq_true, beq_iff_eq] at hok
    obtain ⟨⟨rfl, h1⟩, h2⟩ := hok
    exact sim_mkfn hs he ho h1 h2 h
  · simp only [Bool.and_eq_true] at hok
    obtain ⟨⟨h1, h2⟩, h3⟩ := hok
    obtain ⟨el, hel, hq⟩ := sliceElem_spec (P := P) h3
    cases hi : P.info? el with
    | none => rw [hi] at hq; cases hq
    | some i =>
      rw [hi] at hq
      simp only [Bool.and_eq_true, beq_iff_eq] at hq
      obtain ⟨⟨h4, h5⟩, h6⟩ := hq
      cases hz : i.zero with
      | none => rw [hz] at h6; cases h6
      | some zv =>
        rw [hz] at h6
        exact sim_mks hs he ho h1 h2 hel hi h4 h5 hz h6 h
  · simp only [Bool.and_eq_true] at hok
    obtain ⟨⟨⟨⟨⟨h1, h2⟩, h3⟩, h4⟩, h5⟩, h6⟩ := hok
    obtain ⟨el, hel, hq⟩ := sliceElem_spec (P := P) h1
    exact sim_slice hs he ho h2 h3 h4 h5 h6 hel (by simpa using hq) h
  · simp only [Bool.and_eq_true] at hok
    obtain ⟨h1, h2⟩ := hok
    split at h1
    · rename_i fs hfs
      split at h1
      · rename_i fd hfd
        simp only [Bool.and_eq_true, beq_iff_eq] at h1
        obtain ⟨h3, h4⟩ := h1
        split at h4
        · rename_i n hn
          exact sim_fieldA hs he ho h2 hfs hfd h3 hn (by simpa using h4) h
        · cases h4
      · cases h1
    · cases h1
  · simp only [Bool.and_eq_true] at hok
    obtain ⟨h1, h2⟩ := hok
    split at h1
    · rename_i fs hfs
      split at h1
      · rename_i fd hfd
        simp only [Bool.and_eq_true, beq_iff_eq] at h1
        exact sim_field hs he ho h2 hfs hfd h1.1.1 h1.1.2 h1.2 h
      · cases h1
    · cases h1
  · simp only [Bool.and_eq_true] at hok
    obtain ⟨⟨h1, h2⟩, h3⟩ := hok
    obtain ⟨el, hel, hq⟩ := sliceElem_spec (P := P) h1
    exact sim_indexA hs he ho h2 h3 hel (by simpa using hq) h
  · simp only [Bool.and_eq_true, beq_iff_eq] at hok
    obtain ⟨rfl, h1⟩ := hok
    exact sim_extract hs he ho h1 h
  · simp only [Bool.and_eq_true, beq_iff_eq] at hok
    obtain ⟨⟨h1, h2⟩, h3⟩ := hok
    unfold strTab at h3
    split at h3
    · exact sim_idx hs he ho h1 h2 (by simpa using h3) h
    · cases h3
  · unfold okCall at hok
    split at hok
    · split at hok
      · rename_i h1 h2 h3
        simp only [Bool.and_eq_true] at hok
        exact sim_len hs he ⟨_, ho, h1, toList1 h2, toList1 h3⟩ hok.2 hok.1 h
      · cases hok
    · split at hok
      · rename_i h1 h2 h3
        simp only [Bool.and_eq_true, beq_iff_eq] at hok
        obtain ⟨⟨⟨rfl, h4⟩, h5⟩, h6⟩ := hok
        obtain ⟨el, hel, hq⟩ := sliceElem_spec (P := P) h6
        cases hi : P.info? el with
        | none => rw [hi] at hq; cases hq
        | some i =>
          rw [hi] at hq
          simp only [Bool.and_eq_true, beq_iff_eq, bne_iff_ne] at hq
          obtain ⟨⟨⟨⟨h7, h8⟩, h9⟩, h10⟩, h11⟩ := hq
          cases hz : i.zero with
          | none => rw [hz] at h11; cases h11
          | some zv =>
            rw [hz] at h11
            exact sim_append hs he ⟨_, ho, h1, toList2 h2, toList2 h3⟩ h4 h5 hel hi h7 h8 hz (by simpa using h11) h9 h10 h
      · cases hok
    · split at hok
      · rename_i h1 h2 h3
        simp only [Bool.and_eq_true, beq_iff_eq] at hok
        obtain ⟨⟨⟨rfl, h4⟩, h5⟩, h6⟩ := hok
        obtain ⟨el, hel, hq⟩ := sliceElem_spec (P := P) h6
        cases hi : P.info? el with
        | none => rw [hi] at hq; cases hq
        | some i =>
          rw [hi] at hq
          simp only [Bool.and_eq_true, beq_iff_eq, bne_iff_ne] at hq
          obtain ⟨⟨⟨h7, h8⟩, h10⟩, h11⟩ := hq
          cases hz : i.zero with
          | none => rw [hz] at h11; cases h11
          | some zv =>
            rw [hz] at h11
            exact sim_appk hs he ⟨_, ho, h1, toList2 h2, toList2 h3⟩ h4 h5 hel hi h7 h8 hz (by simpa using h11) h10 h
      · cases hok
    · split at hok
      · rename_i h1 h2 h3
        simp only [Bool.and_eq_true] at hok
        obtain ⟨⟨⟨h4, h5⟩, hu⟩, h6⟩ := hok
        split at hu
        · rename_i ik hik
          obtain ⟨el, hel, hq⟩ := sliceElem_spec (P := P) h6
          cases hi : P.info? el with
          | none => rw [hi] at hq; cases hq
          | some i =>
            rw [hi] at hq
            simp only [Bool.and_eq_true, beq_iff_eq, bne_iff_ne] at hq
            obtain ⟨⟨⟨⟨h7, h8⟩, h9⟩, h10⟩, h11⟩ := hq
            cases hz : i.zero with
            | none => rw [hz] at h11; cases h11
            | some zv =>
              rw [hz] at h11
              simp only [Bool.and_eq_true, beq_iff_eq] at h11
              exact sim_appz hs he ⟨_, ho, h1, toList2 h2, toList2 h3⟩ h4 h5 hel hik hi h7 h8 hz h11.1 h11.2 h9 h10 h
        · cases hu
      · cases hok
    · split at hok
      · rename_i h1 h2 h3
        simp only [Bool.and_eq_true] at hok
        obtain ⟨⟨h4, h5⟩, h6⟩ := hok
        obtain ⟨el, hel, hq⟩ := sliceElem_spec (P := P) h6
        exact sim_copy hs he ⟨_, ho, h1, toList2 h2, toList2 h3⟩ h4 h5 hel (by simpa using hq) h
      · cases hok
    · split at hok
      · rename_i h1 h2
        simp only [Bool.and_eq_true] at hok
        exact sim_mx hs he ⟨_, ho, h1, toList2 h2⟩ hok.1 hok.2 h
      · cases hok
    · split at hok
      · rename_i h1 h2
        simp only [Bool.and_eq_true] at hok
        exact sim_mn hs he ⟨_, ho, h1, toList2 h2⟩ hok.1 hok.2 h
      · cases hok
    · simp [ev] at h
    · simp [ev] at h
    · simp [ev] at h
    · cases hok
  · cases hok
end
end Go.Proofs.Ytdpdnplljonppaa.Vpi

namespace Go.Proofs.Ytdpdnplljonppaa.Vpi
open Go
set_option linter.unusedVariables false
set_option linter.unusedSimpArgs false
def CallSim (P : Program) (run : Caller) : Prop :=
  ∀ (f : Nat) (args : List CV) (σ : Store) (r : CV × Store), run f args σ = some r → ∀ (w : World) (G : Nat → Prop) (ρ : List Loc), St w G ρ σ → ∀ vs : List Value, args.length = vs.length →
    (∀ (k : Nat) c v, args[k]? = some c → vs[k]? = some v → RepC w G ρ c v) →
    okFn P f = true ∧ Calls P f vs.toArray w fun en w' => ∃ v G' ρ', en = .returned v ∧ St w' G' ρ' r.2 ∧ Ext w G ρ w' G' ρ' ∧ RepC w' G' ρ' r.1 v
section
variable {P : Program} {w : World} {G : Nat → Prop} {ρ : List Loc} {σ : Store} {run : Caller}
theorem outer_keep {w' : World} {G' : Nat → Prop} {ρc : List Loc} (hs : St w G ρ σ) (he : Ext w G [] w' G' ρc) (hg : ∀ k, G' k → k < w'.heap.size) : St w' G' ρ σ ∧ Ext w G ρ w' G' ρ := by
  have nolive : ∀ k, ¬ Live [] k := by rintro k ⟨i, o, t, s, h⟩; simp at h
  have hold : ∀ k, k < w.heap.size → w'.heap[k]? = w.heap[k]? := fun k hk => he.below k hk (nolive k)
  have hGsame : ∀ k, G k → w'.heap[k]? = w.heap[k]? := fun k hk => hold k (hs.g k hk)
  constructor
  · refine ⟨hg, hs.len, hs.inj, ?_⟩
    intro i l b hi hb
    refine (hs.ok i l b hi hb).mono hGsame he.grow (LocExt.refl _) ?_
    rintro k o t s rfl
    have hlt := hs.live_lt ⟨i, o, t, s, hi⟩
    refine ⟨hold k hlt, ?_⟩
    intro hn hg'
    rcases he.only k hg' with h | h | h
    · exact hn h
    · omega
    · exact nolive k h
  · refine ⟨he.wld, LocExt.refl _, he.heap, he.grow, ?_, ?_, fun _ h => .inl h⟩
    · intro k hk
      rcases he.only k hk with h | h | h
      · exact .inl h
      · exact .inr (.inl h)
      · exact (nolive k h).elim
    · exact fun k hk _ => hold k hk
theorem St.empty (hs : St w G ρ σ) : St w G [] [] := ⟨hs.g, rfl, by simp, by simp⟩
theorem isPure1_rep {c : CV} {x : PV} {v : Value} (h : isPure1 c = some x) (hr : RepC w G ρ c v) : RepP w G x v := by
  unfold isPure1 at h
  split at h
  · cases h; exact rep_p hr
  · cases h; rw [rep_nils hr]; exact .nil _ _
  · cases h
theorem pureL_rep : ∀ {cs : List CV} {xs : List PV} {vs : List Value}, pureL cs = some xs → cs.length = vs.length → (∀ (k : Nat) c v, cs[k]? = some c → vs[k]? = some v → RepC w G ρ c v) →
    xs.length = vs.length ∧ ∀ (k : Nat) x v, xs[k]? = some x → vs[k]? = some v → RepP w G x v
  | [], xs, vs, h, hl, _ => by simp [pureL] at h; subst h; exact ⟨hl, by simp⟩
  | c :: cs, xs, [], _, hl, _ => by simp at hl
  | c :: cs, xs, v :: vs, h, hl, hk => by
    simp only [pureL] at h
    split at h
    · rename_i x hx
      simp only [Option.map_eq_some_iff] at h
      obtain ⟨ys, hys, rfl⟩ := h
      obtain ⟨h1, h2⟩ := pureL_rep hys (by simpa using hl) (fun k c v hc hv => hk (k + 1) c v (by simpa using hc) (by simpa using hv))
      refine ⟨by simp [h1], ?_⟩
      intro k y u hy hu
      cases k with
      | zero => simp at hy hu; subst hy hu; exact isPure1_rep hx (hk 0 c _ rfl rfl)
      | succ k => exact h2 k y u (by simpa using hy) (by simpa using hu)
    · cases h
theorem toP_rep {c : CV} {x : PV} {v : Value} (h : toP c = some x) (hr : RepC w G ρ c v) : RepP w G x v := by
  cases c with
  | agg cs =>
    simp only [toP, Option.map_eq_some_iff] at h
    obtain ⟨xs, hxs, rfl⟩ := h
    obtain ⟨vs, rfl, hl, hk, h1⟩ := rep_agg hr
    obtain ⟨h2, h3⟩ := pureL_rep hxs hl hk
    exact .agg xs vs h2 h3 h1
  | _ => simp only [toP] at h; exact isPure1_rep h hr
theorem toPs_rep : ∀ {cs : List CV} {xs : List PV} {vs : List Value}, toPs cs = some xs → cs.length = vs.length → (∀ (k : Nat) c v, cs[k]? = some c → vs[k]? = some v → RepC w G ρ c v) →
    xs.length = vs.length ∧ ∀ (k : Nat) x v, xs[k]? = some x → vs[k]? = some v → RepP w G x v
  | [], xs, vs, h, hl, _ => by simp [toPs] at h; subst h; exact ⟨hl, by simp⟩
  | c :: cs, xs, [], _, hl, _ => by simp at hl
  | c :: cs, xs, v :: vs, h, hl, hk => by
    simp only [toPs] at h
    split at h
    · rename_i x hx
      simp only [Option.map_eq_some_iff] at h
      obtain ⟨ys, hys, rfl⟩ := h
      obtain ⟨h1, h2⟩ := toPs_rep hys (by simpa using hl) (fun k c v hc hv => hk (k + 1) c v (by simpa using hc) (by simpa using hv))
      refine ⟨by simp [h1], ?_⟩
      intro k y u hy hu
      cases k with
      | zero => simp at hy hu; subst hy hu; exact toP_rep hx (hk 0 c _ rfl rfl)
      | succ k => exact h2 k y u (by simpa using hy) (by simpa using hu)
    · cases h
theorem getTake {α : Type} {l : List α} {n i : Nat} : (l.take n)[i]? = if i < n then l[i]? else none := List.getElem?_take
theorem below_rep {c : CV} {v : Value} {n : Nat} (h : below1 n c = true) (hr : RepC w G ρ c v) : RepC w G (ρ.take n) c v := by
  cases hr with
  | any v => exact .any v
  | p x v h => exact .p x v h
  | nils => exact .nils
  | own b off m a cap hc ho =>
    simp only [below1, decide_eq_true_eq] at h
    refine .own b off m a cap hc ?_
    simp only [OwnOk, getTake, if_pos h] at ho ⊢
    exact ho
  | ptr b i off a ho =>
    simp only [below1, decide_eq_true_eq] at h
    refine .ptr b i off a ?_
    simp only [PtrOk, getTake, if_pos h] at ho ⊢
    exact ho
  | rp => cases h
  | agg => cases h
  | tup => cases h
  | fn f cap vs hl hk =>
    refine .fn f cap vs hl ?_
    intro k c v hc hv
    have h1 := hk k c v hc hv
    simp only [below1, List.all_eq_true] at h
    have h2 := h c (List.mem_of_getElem? hc)
    cases h1 with
    | any v => exact .any v
    | p x v h => exact .p x v h
    | nils => exact .nils
    | own b off m a cap hcap ho =>
      simp only [decide_eq_true_eq] at h2
      refine .own b off m a cap hcap ?_
      simp only [OwnOk, getTake, if_pos h2] at ho ⊢
      exact ho
    | ptr b i off a ho =>
      simp only [decide_eq_true_eq] at h2
      refine .ptr b i off a ?_
      simp only [PtrOk, getTake, if_pos h2] at ho ⊢
      exact ho
    | rp => cases h2
    | agg => cases h2
    | tup => cases h2
    | fn => cases h2
theorem St.trunc {n : Nat} (hs : St w G ρ σ) (h : (σ.take n).all (blkBelow n) = true) : St w G (ρ.take n) (σ.take n) := by
  refine ⟨hs.g, by simp [hs.len], ?_, ?_⟩
  · intro i j k o t s o' t' s' hi hj
    rw [getTake] at hi hj
    split at hi
    · split at hj
      · exact hs.inj i j k o t s o' t' s' hi hj
      · cases hj
    · cases hi
  · intro i l b hi hb
    have hb0 := hb
    rw [getTake] at hi hb
    by_cases hin : i < n
    · rw [if_pos hin] at hi hb
      have hok := hs.ok i l b hi hb
      unfold BlkOk at hok ⊢
      split at hok
      · trivial
      · trivial
      · exact hok
      · exact hok
      · obtain ⟨h1, h2, arr, el, h3, h4, h5, h6⟩ := hok
        refine ⟨h1, h2, arr, el, h3, h4, h5, ?_⟩
        intro k c u hc hu
        have hbb := List.all_eq_true.1 h _ (List.mem_of_getElem? hb0)
        simp only [blkBelow, List.all_eq_true] at hbb
        exact ⟨below_rep (hbb c (List.mem_of_getElem? hc)) (h6 k c u hc hu).1, (h6 k c u hc hu).2⟩
      · exact hok.elim
    · rw [if_neg hin] at hi; cases hi
theorem back1_rep {c d : CV} {v : Value} {n : Nat} {G' : Nat → Prop} (hs : St w G ρ σ) (h : back1 n σ c = some d) (hr : RepC w G ρ c v) (hG : ∀ k, G k → G' k) (hO : ∀ b ∈ ownsOf c, n ≤ b → ∀ (blk o t s : Nat), ρ[b]? = some (.lv blk o t s) → G' blk) : RepC w G' (ρ.take n) d v := by
  have pure : ∀ {x : PV}, RepP w G' x v → RepC w G' (ρ.take n) (.p x) v := fun h => .p _ _ h
  unfold back1 at h
  split at h
  · cases h; exact .any _
  · rename_i b off m
    split at h
    · rename_i hlt
      cases h
      exact (below_rep (n := n) (by simpa [below1] using hlt) hr).mono (fun _ _ => rfl) hG (LocExt.refl _)
    · rename_i hge
      simp only [Option.map_eq_some_iff] at h
      obtain ⟨x, hx, rfl⟩ := h
      refine pure (frz1_rep hs hx hr hG ?_)
      intro b' hb' blk o t s hl
      simp only [own0, List.mem_singleton] at hb'
      subst hb'
      exact hO b' (by simp [ownsOf, own0]) (by omega) blk o t s hl
  · rename_i b i off
    split at h
    · rename_i hlt
      cases h
      exact (below_rep (n := n) (by simpa [below1] using hlt) hr).mono (fun _ _ => rfl) hG (LocExt.refl _)
    · cases h
  · rename_i cs
    split at h
    · rename_i hall
      simp only [Option.map_eq_some_iff] at h
      obtain ⟨x, hx, rfl⟩ := h
      refine pure (frz_rep hs hx hr hG ?_)
      intro b hb blk o t s hl
      refine hO b hb ?_ blk o t s hl
      simp only [ownsOf, List.mem_flatMap] at hb
      obtain ⟨c, hc, hbc⟩ := hb
      have := List.all_eq_true.1 hall c hc
      cases c with
      | own b' off m =>
        simp only [own0, List.mem_singleton] at hbc
        subst hbc
        simpa using this
      | _ => simp [own0] at hbc
    · cases h
  · rename_i h1 h2 h3 h4
    simp only [Option.map_eq_some_iff] at h
    obtain ⟨x, hx, rfl⟩ := h
    refine pure (frz_rep hs hx hr hG ?_)
    intro b hb blk o t s hl
    cases c with
    | agg cs => exact (h4 cs rfl).elim
    | own b' off m => exact (h2 b' off m rfl).elim
    | _ => simp [ownsOf, own0] at hb
def ownsAll : CV → List Nat
  | .tup vs => vs.flatMap ownsOf
  | c => ownsOf c
theorem back1_lt {c d : CV} {n : Nat} (hs : St w G ρ σ) {v : Value} (hr : RepC w G ρ c v) (h : back1 n σ c = some d) : ∀ b ∈ ownsOf c, b < σ.length := by
  cases c with
  | own b off m =>
    intro b' hb'
    simp only [ownsOf, own0, List.mem_singleton] at hb'
    subst hb'
    obtain ⟨ad, cap, _, _, hok⟩ := rep_own hr
    rw [← hs.len]
    unfold OwnOk at hok
    split at hok
    · rename_i hl; exact get_lt hl
    · rename_i hl; exact get_lt hl
    · rename_i hl; exact get_lt hl
    · exact hok.elim
  | agg cs =>
    simp only [back1] at h
    split at h
    · simp only [Option.map_eq_some_iff] at h
      obtain ⟨x, hx, rfl⟩ := h
      exact frz_lt hx
    · cases h
  | _ => intro b hb; simp [ownsOf, own0] at hb
theorem backL_spec {n : Nat} {G' : Nat → Prop} (hs : St w G ρ σ) (hG : ∀ k, G k → G' k) : ∀ {cs ds : List CV} {vs : List Value}, backL n σ cs = some ds → cs.length = vs.length → (∀ (k : Nat) c v, cs[k]? = some c → vs[k]? = some v → RepC w G ρ c v) →
    (∀ b ∈ cs.flatMap ownsOf, n ≤ b → ∀ (blk o t s : Nat), ρ[b]? = some (.lv blk o t s) → G' blk) →
    ds.length = vs.length ∧ ∀ (k : Nat) d v, ds[k]? = some d → vs[k]? = some v → RepC w G' (ρ.take n) d v
  | [], ds, vs, h, hl, _, _ => by simp [backL] at h; subst h; exact ⟨hl, by simp⟩
  | c :: cs, ds, [], _, hl, _, _ => by simp at hl
  | c :: cs, ds, v :: vs, h, hl, hk, hO => by
    simp only [backL] at h
    split at h
    · rename_i x hx
      simp only [Option.map_eq_some_iff] at h
      obtain ⟨ys, hys, rfl⟩ := h
      obtain ⟨h1, h2⟩ := backL_spec hs hG hys (by simpa using hl) (fun k c v hc hv => hk (k + 1) c v (by simpa using hc) (by simpa using hv)) (fun b hb => hO b (by simp only [List.flatMap_cons, List.mem_append]; exact .inr hb))
      refine ⟨by simp [h1], ?_⟩
      intro k y u hy hu
      cases k with
      | zero =>
        simp at hy hu; subst hy hu
        exact back1_rep hs hx (hk 0 c _ rfl rfl) hG (fun b hb => hO b (by simp only [List.flatMap_cons, List.mem_append]; exact .inl hb))
      | succ k => exact h2 k y u (by simpa using hy) (by simpa using hu)
    · cases h
theorem backL_lt {n : Nat} (hs : St w G ρ σ) : ∀ {cs ds : List CV} {vs : List Value}, backL n σ cs = some ds → cs.length = vs.length → (∀ (k : Nat) c v, cs[k]? = some c → vs[k]? = some v → RepC w G ρ c v) → ∀ b ∈ cs.flatMap ownsOf, b < σ.length
  | [], _, _, _, _, _ => by simp
  | c :: cs, ds, [], _, hl, _ => by simp at hl
  | c :: cs, ds, v :: vs, h, hl, hk => by
    simp only [backL] at h
    split at h
    · rename_i x hx
      simp only [Option.map_eq_some_iff] at h
      obtain ⟨ys, hys, rfl⟩ := h
      intro b hb
      simp only [List.flatMap_cons, List.mem_append] at hb
      rcases hb with hb | hb
      · exact back1_lt hs (hk 0 c _ rfl rfl) hx b hb
      · exact backL_lt hs hys (by simpa using hl) (fun k c v hc hv => hk (k + 1) c v (by simpa using hc) (by simpa using hv)) b hb
    · cases h
theorem dieAll_get : ∀ (bs : List Nat) (σ : Store) (i : Nat), i ∉ bs → (dieAll σ bs)[i]? = σ[i]?
  | [], σ, i, _ => rfl
  | b :: bs, σ, i, h => by
    show (dieAll (σ.set b .dead) bs)[i]? = _
    rw [dieAll_get bs _ i (fun x => h (by simp [x])), List.getElem?_set_ne (fun x => h (by simp [x]))]
theorem dieAll_take (bs : List Nat) (σ : Store) (n : Nat) (h : ∀ b ∈ bs, n ≤ b) : (dieAll σ bs).take n = σ.take n := by
  apply List.ext_getElem?
  intro i
  rw [getTake, getTake]
  split
  · rename_i hi
    exact dieAll_get bs σ i fun hm => by have := h i hm; omega
  · rfl
theorem back_sim {c d : CV} {v : Value} {n : Nat} (hs : St w G ρ σ) (h : back n σ c = some d) (hr : RepC w G ρ c v) (hb : (σ.take n).all (blkBelow n) = true) :
    ∃ G' ρ', St w G' ρ' (σ.take n) ∧ RepC w G' ρ' d v ∧ (∀ k, G k → G' k) ∧ (∀ k, G' k → G k ∨ Live ρ k) ∧ (∀ (i : Nat) l, i < n → ρ[i]? = some l → ρ'[i]? = some l ∨ ρ'[i]? = some .dead ∨ l = .hole) ∧ (∀ k, Live ρ' k → Live ρ k) := by
  have hlt : ∀ b ∈ ownsAll c, b < σ.length := by
    cases c with
    | tup cs =>
      simp only [back, Option.map_eq_some_iff] at h
      obtain ⟨ds, hds, rfl⟩ := h
      obtain ⟨vs, rfl, hl, hk⟩ := rep_tup hr
      exact backL_lt hs hds hl hk
    | _ => simp only [back] at h; simp only [ownsAll]; exact back1_lt hs hr h
  obtain ⟨G', ρ1, s1, e1, t1, d1⟩ := dieAll_st ((ownsAll c).filter (n ≤ ·)) G ρ σ hs (fun b hb => hlt b (List.mem_filter.1 hb).1)
  have htake : (dieAll σ ((ownsAll c).filter (n ≤ ·))).take n = σ.take n := dieAll_take _ _ _ fun b hb => by simpa using (List.mem_filter.1 hb).2
  have s2 := s1.trunc (n := n) (by rw [htake]; exact hb)
  rw [htake] at s2
  have hO : ∀ b ∈ ownsAll c, n ≤ b → ∀ (blk o t s : Nat), ρ[b]? = some (.lv blk o t s) → G' blk := by
    intro b hb hnb blk o t s hl
    rcases t1 b blk o t s hl with h1 | h1
    · rw [d1 b (List.mem_filter.2 ⟨hb, by simpa using hnb⟩)] at h1; cases h1
    · exact h1
  have hrep : RepC w G' (ρ.take n) d v := by
    cases c with
    | tup cs =>
      simp only [back, Option.map_eq_some_iff] at h
      obtain ⟨ds, hds, rfl⟩ := h
      obtain ⟨vs, rfl, hl, hk⟩ := rep_tup hr
      obtain ⟨h1, h2⟩ := backL_spec hs e1.grow hds hl hk hO
      exact .tup ds vs h1 h2
    | _ => simp only [back] at h; simp only [ownsAll] at hO; exact back1_rep hs h hr e1.grow hO
  have hloc : ∀ (i : Nat) l, i < n → ρ[i]? = some l → (ρ1.take n)[i]? = some l ∨ (ρ1.take n)[i]? = some .dead ∨ l = .hole := by
    intro i l hi hl
    rw [getTake, if_pos hi]
    exact e1.loc i l hl
  refine ⟨G', ρ1.take n, s2, ?_, e1.grow, ?_, hloc, ?_⟩
  · refine hrep.mono (fun _ _ => rfl) (fun _ x => x) ?_
    intro i l hl
    rw [getTake] at hl
    split at hl
    · rename_i hi; exact hloc i l hi hl
    · cases hl
  · intro k hk
    rcases e1.only k hk with h1 | h1 | h1
    · exact .inl h1
    · exact absurd (s1.g k hk) (by omega)
    · exact .inr h1
  · rintro k ⟨i, o, t, s, hi⟩
    rw [getTake] at hi
    split at hi
    · rcases e1.lives k ⟨i, o, t, s, hi⟩ with h1 | h1
      · exact h1
      · have := s1.live_lt ⟨i, o, t, s, hi⟩; omega
    · cases hi
theorem allP_rep : ∀ {cs : List CV} {ps : List PV}, allP cs = some ps → ∀ (k : Nat) c, cs[k]? = some c → ∃ p, c = .p p
  | [], ps, h, k, c, hc => by simp at hc
  | .p x :: cs, ps, h, k, c, hc => by
    simp only [allP, Option.map_eq_some_iff] at h
    obtain ⟨qs, hq, rfl⟩ := h
    cases k with
    | zero => simp at hc; exact ⟨x, hc.symm⟩
    | succ k => exact allP_rep hq k c (by simpa using hc)
  | .any :: cs, ps, h, k, c, hc => by simp [allP] at h
  | .nils :: cs, ps, h, k, c, hc => by simp [allP] at h
  | .own .. :: cs, ps, h, k, c, hc => by simp [allP] at h
  | .ptr .. :: cs, ps, h, k, c, hc => by simp [allP] at h
  | .rp .. :: cs, ps, h, k, c, hc => by simp [allP] at h
  | .agg .. :: cs, ps, h, k, c, hc => by simp [allP] at h
  | .tup .. :: cs, ps, h, k, c, hc => by simp [allP] at h
  | .fn .. :: cs, ps, h, k, c, hc => by simp [allP] at h
theorem cellArgs_rep {b : Nat} {l : Loc} (hl : ρ[b]? = some l) : ∀ {args as : List CV} {vs : List Value}, cellArgs b args = some as → args.length = vs.length →
    (∀ (k : Nat) c v, args[k]? = some c → vs[k]? = some v → RepC w G ρ c v) → as.length = vs.length ∧ ∀ (k : Nat) c v, as[k]? = some c → vs[k]? = some v → RepC w G [l] c v
  | [], as, vs, h, hlen, _ => by simp [cellArgs] at h; subst h; exact ⟨hlen, by simp⟩
  | c :: cs, as, [], _, hlen, _ => by simp at hlen
  | c :: cs, as, v :: vs, h, hlen, hk => by
    simp only [cellArgs] at h
    split at h
    · rename_i x hx
      simp only [Option.map_eq_some_iff] at h
      obtain ⟨ys, hys, rfl⟩ := h
      obtain ⟨h1, h2⟩ := cellArgs_rep hl hys (by simpa using hlen) (fun k c v a b => hk (k + 1) c v (by simpa using a) (by simpa using b))
      refine ⟨by simp [h1], fun k d u hd hu => ?_⟩
      cases k with
      | succ k => exact h2 k d u (by simpa using hd) (by simpa using hu)
      | zero =>
        simp at hd hu
        subst hd hu
        have hr := hk 0 c _ rfl rfl
        unfold cellArg at hx
        split at hx
        · cases hx
          exact .p _ _ (rep_p hr)
        · rename_i b' i o
          split at hx
          · rename_i hb
            cases hx
            subst hb
            cases hr with
            | ptr _ _ _ a ha =>
              refine .ptr _ _ _ _ ?_
              unfold PtrOk at ha ⊢
              rw [hl] at ha
              exact ha
          · cases hx
        · cases hx
    · cases h
theorem outer_cell {w' : World} {G' : Nat → Prop} {ρc : List Loc} {τ : Store} {b s : Nat} {l : Loc} {cs' : List CV} {ps : List PV} (hs : St w G ρ σ) (hl : ρ[b]? = some l) (hlv : ∃ k o t s, l = .lv k o t s) (he : Ext w G [l] w' G' ρc) (hc : St w' G' ρc τ)
    (hτ : τ[0]? = some (.kblk s cs')) (hp : allP cs' = some ps) : St w' G' ρ (σ.set b (.kblk s cs')) ∧ Ext w G ρ w' G' ρ := by
  obtain ⟨k0, o0, t0, s0, rfl⟩ := hlv
  have live : ∀ k, Live [Loc.lv k0 o0 t0 s0] k → k = k0 := by
    rintro k ⟨i, o, t, s, h⟩
    cases i with
    | zero => simp at h; exact h.1.symm
    | succ i => simp at h
  have hb0 : Live ρ k0 := ⟨b, o0, t0, s0, hl⟩
  have hbl : b < σ.length := by rw [← hs.len]; exact get_lt hl
  have hρ0 : ρc[0]? = some (.lv k0 o0 t0 s0) := by
    have hlen : 0 < ρc.length := by rw [hc.len]; exact get_lt hτ
    rcases he.loc 0 _ rfl with h | h | h
    · exact h
    · have := hc.ok 0 _ _ h hτ
      exact this.elim
    · cases h
  have hok := hc.ok 0 _ _ hρ0 hτ
  have hold : ∀ k, k < w.heap.size → k ≠ k0 → w'.heap[k]? = w.heap[k]? := fun k hk hne => he.below k hk fun h => hne (live k h)
  have hGsame : ∀ k, G k → w'.heap[k]? = w.heap[k]? := fun k hk => hold k (hs.g k hk) fun h => hs.notG hb0 (h ▸ hk)
  constructor
  · refine ⟨hc.g, by simp [hs.len], hs.inj, ?_⟩
    intro i l x hi hx
    by_cases hib : b = i
    · subst hib
      rw [hl] at hi
      cases hi
      rw [List.getElem?_set_self hbl] at hx
      cases hx
      obtain ⟨h1, h2, arr, el, h3, h4, h5, h6⟩ := hok
      refine ⟨h1, h2, arr, el, h3, h4, h5, fun k c u hk hu => ?_⟩
      obtain ⟨p, rfl⟩ := allP_rep hp k c hk
      obtain ⟨h7, h8⟩ := h6 k _ u hk hu
      exact ⟨.p _ _ (rep_p h7), h8⟩
    · rw [List.getElem?_set_ne hib] at hx
      refine (hs.ok i l x hi hx).mono hGsame he.grow (LocExt.refl _) ?_
      rintro k o t s rfl
      have hlt := hs.live_lt ⟨i, o, t, s, hi⟩
      have hne : k ≠ k0 := fun h => hib (hs.inj b i k0 o0 t0 s0 o t s hl (h ▸ hi))
      refine ⟨hold k hlt hne, ?_⟩
      intro hn hg'
      rcases he.only k hg' with h | h | h
      · exact hn h
      · omega
      · exact hne (live k h)
  · refine ⟨he.wld, LocExt.refl _, he.heap, he.grow, ?_, ?_, fun _ h => .inl h⟩
    · intro k hk
      rcases he.only k hk with h | h | h
      · exact .inl h
      · exact .inr (.inl h)
      · exact .inr (.inr (live k h ▸ hb0))
    · intro k hk hn
      exact hold k hk fun h => hn (h ▸ hb0)
theorem scal_rep {w2 : World} {G2 : Nat → Prop} {ρ2 : List Loc} {o : Option CV} {u : CV} {d : CV} {v : Value} (h : scal o = some u) (ho : o = some d) (hr : RepC w G ρ d v) : RepC w2 G2 ρ2 u v := by
  subst ho
  unfold scal at h
  split at h
  · rename_i k n hd
    cases h
    cases hd
    have hv : v = .int k n := by cases hr with | p x v h => cases h; rfl
    subst hv
    exact .p _ _ (.int _ _)
  · rename_i b hd
    cases h
    cases hd
    have := rep_bool hr
    subst this
    exact .p _ _ (.bool _)
  · cases h
theorem sim_call {k : CK} {f : Nat} {args : List CV} {r : CV × Store} (hc : CallSim P run) (h : doCall run k f args σ = some r) (hs : St w G ρ σ) {vs : List Value} (hl : args.length = vs.length)
    (hk : ∀ (k : Nat) c v, args[k]? = some c → vs[k]? = some v → RepC w G ρ c v) :
    okFn P f = true ∧ Calls P f vs.toArray w fun en w' => ∃ v G' ρ', en = .returned v ∧ St w' G' ρ' r.2 ∧ Ext w G ρ w' G' ρ' ∧ RepC w' G' ρ' r.1 v := by
  -- a callee with pure arguments
  have pureCall : ∀ {ps : List PV} {G1 : Nat → Prop} {ρ1 : List Loc} {σ1 τ : Store} {c d : CV}, St w G1 ρ1 σ1 → Ext w G ρ w G1 ρ1 → (ps.length = vs.length) → (∀ (k : Nat) x v, ps[k]? = some x → vs[k]? = some v → RepP w G1 x v) → run f (ps.map .p) [] = some (c, τ) → back 0 τ c = some d → r = (d, σ1) →
      okFn P f = true ∧ Calls P f vs.toArray w fun en w' => ∃ v G' ρ', en = .returned v ∧ St w' G' ρ' r.2 ∧ Ext w G ρ w' G' ρ' ∧ RepC w' G' ρ' r.1 v := by
    intro ps G1 ρ1 σ1 τ c d s1 e1 hpl hpr hrun hback hr
    subst hr
    obtain ⟨h1, h2⟩ := hc f (ps.map .p) [] _ hrun w G1 [] s1.empty vs (by simp [hpl]) (by
      intro k c v hc hv
      simp only [List.getElem?_map, Option.map_eq_some_iff] at hc
      obtain ⟨x, hx, rfl⟩ := hc
      exact .p _ _ (hpr k x v hx hv))
    refine ⟨h1, h2.mono ?_⟩
    rintro en w' ⟨v, G', ρ', rfl, s2, e2, rep⟩
    obtain ⟨G2, ρ2, s3, rep3, g1, g2, g3, g4⟩ := back_sim (n := 0) s2 hback rep (by simp)
    have nolive : ∀ k, ¬ Live [] k := by rintro k ⟨i, o, t, s, h⟩; simp at h
    have e3 : Ext w G1 [] w' G2 [] := by
      refine ⟨e2.wld, LocExt.refl _, e2.heap, fun k hk => g1 k (e2.grow k hk), ?_, fun k hk _ => e2.below k hk (nolive k), fun k hk => .inl hk⟩
      intro k hk
      rcases g2 k hk with h | h
      · rcases e2.only k h with h | h | h
        · exact .inl h
        · exact .inr (.inl h)
        · exact (nolive k h).elim
      · rcases e2.lives k h with h | h
        · exact (nolive k h).elim
        · exact .inr (.inl h)
    obtain ⟨s4, e4⟩ := outer_keep s1 e3 s3.g
    refine ⟨v, G2, ρ1, rfl, s4, e1.trans e4, ?_⟩
    have hρ2 : ρ2 = [] := by have := s3.len; simpa using this
    subst hρ2
    exact rep3.mono (fun _ _ => rfl) (fun _ x => x) (fun i l h => by simp at h)
  unfold doCall at h
  split at h
  · split at h
    · rename_i ps hps
      split at h
      · rename_i c τ hrun
        simp only [Option.map_eq_some_iff] at h
        obtain ⟨d, hd, rfl⟩ := h
        obtain ⟨h1, h2⟩ := toPs_rep hps hl hk
        exact pureCall hs Ext.refl h1 h2 hrun hd rfl
      · cases h
    · cases h
  · split at h
    · rename_i ps hps
      split at h
      · rename_i c τ hrun
        simp only [Option.map_eq_some_iff] at h
        obtain ⟨d, hd, rfl⟩ := h
        obtain ⟨G1, ρ1, s1, e1, h1, h2⟩ := give_all hs hps hl hk
        exact pureCall s1 e1 h1 h2 hrun hd rfl
      · cases h
    · cases h
  · split at h
    · rename_i c τ hrun
      split at h
      · rename_i hbelow
        simp only [Option.map_eq_some_iff] at h
        obtain ⟨d, hd, rfl⟩ := h
        obtain ⟨h1, h2⟩ := hc f args σ _ hrun w G ρ hs vs hl hk
        refine ⟨h1, h2.mono ?_⟩
        rintro en w' ⟨v, G', ρ', rfl, s2, e2, rep⟩
        obtain ⟨G2, ρ2, s3, rep3, g1, g2, g3, g4⟩ := back_sim (n := σ.length) s2 hd rep hbelow
        refine ⟨v, G2, ρ2, rfl, s3, ?_, rep3⟩
        refine ⟨e2.wld, ?_, e2.heap, fun k hk => g1 k (e2.grow k hk), ?_, e2.below, fun k hk => e2.lives k (g4 k hk)⟩
        · intro i l hi
          have hin : i < σ.length := by rw [← hs.len]; exact get_lt hi
          rcases e2.loc i l hi with h | h | h
          · exact g3 i l hin h
          · rcases g3 i _ hin h with h | h | h
            · exact .inr (.inl h)
            · exact .inr (.inl h)
            · cases h
          · exact .inr (.inr h)
        · intro k hk
          rcases g2 k hk with h | h
          · exact e2.only k h
          · rcases e2.lives k h with h | h
            · exact .inr (.inr h)
            · exact .inr (.inl h)
      · cases h
    · cases h
  · exact hc f args σ r h w G ρ hs vs hl hk
  · split at h
    · rename_i ps hps
      split at h
      · rename_i c τ hrun
        simp only [Option.map_eq_some_iff] at h
        obtain ⟨u, hu, rfl⟩ := h
        obtain ⟨G1, ρ1, s1, e1, a1, a2⟩ := give_all hs hps hl hk
        obtain ⟨h1, h2⟩ := hc f (ps.map .p) [] _ hrun w G1 [] s1.empty vs (by simp [a1]) (by
          intro k c v hc hv
          simp only [List.getElem?_map, Option.map_eq_some_iff] at hc
          obtain ⟨x, hx, rfl⟩ := hc
          exact .p _ _ (a2 k x v hx hv))
        refine ⟨h1, h2.mono ?_⟩
        rintro en w' ⟨v, G', ρ', rfl, s2, e2, rep⟩
        obtain ⟨d, hd⟩ : ∃ d, back 0 τ c = some d := by
          cases hb : back 0 τ c with
          | none => rw [hb] at hu; cases hu
          | some d => exact ⟨d, rfl⟩
        obtain ⟨G2, ρ2, s3, rep3, g1, g2, g3, g4⟩ := back_sim (n := 0) s2 hd rep (by simp)
        have nolive : ∀ k, ¬ Live [] k := by rintro k ⟨i, o, t, s, h⟩; simp at h
        have hold : ∀ k, k < w.heap.size → w'.heap[k]? = w.heap[k]? := fun k hk => e2.below k hk (nolive k)
        refine ⟨v, G, ρ, rfl, ⟨fun k hk => Nat.lt_of_lt_of_le (hs.g k hk) e2.heap, hs.len, hs.inj, ?_⟩, ⟨e2.wld, LocExt.refl _, e2.heap, fun _ x => x, fun _ x => .inl x, fun k hk _ => hold k hk, fun _ x => .inl x⟩, scal_rep hu hd rep3⟩
        intro i l b hi hb
        refine (hs.ok i l b hi hb).mono (fun k hk => hold k (hs.g k hk)) (fun _ x => x) (LocExt.refl _) ?_
        rintro k o t s rfl
        exact ⟨hold k (hs.live_lt ⟨i, o, t, s, hi⟩), id⟩
      · cases h
    · cases h
  · split at h
    · split at h
      · rename_i ps hps
        split at h
        · rename_i c τ hrun
          simp only [Option.map_eq_some_iff] at h
          obtain ⟨d, hd, rfl⟩ := h
          obtain ⟨h1, h2⟩ := toPs_rep hps hl hk
          exact pureCall hs Ext.refl h1 h2 hrun hd rfl
        · cases h
      · cases h
    · rename_i b hb
      split at h
      · rename_i s cs hσ
        split at h
        · rename_i as q has hcs
          split at h
          · rename_i v' τ hrun
            split at h
            · rename_i s' cs' hτ
              split at h
              · rename_i hcond
                cases h
                have hbl : b < ρ.length := by rw [hs.len]; exact get_lt hσ
                have hl0 : ρ[b]? = some ρ[b] := List.getElem?_eq_getElem hbl
                have hok := hs.ok b _ _ hl0 hσ
                have hlv : ∃ k o t s, ρ[b] = .lv k o t s := by
                  generalize ρ[b] = l at hok
                  cases l with
                  | lv k o t s => exact ⟨k, o, t, s, rfl⟩
                  | _ => exact hok.elim
                obtain ⟨a1, a2⟩ := cellArgs_rep hl0 has hl hk
                have hsub : St w G [ρ[b]] [.kblk s cs] := by
                  refine ⟨hs.g, rfl, ?_, ?_⟩
                  · intro i j k o t s o' t' s' h1 h2
                    have e1 := get_lt h1
                    have e2 := get_lt h2
                    simp at e1 e2
                    omega
                  · intro i l x h1 h2
                    have e1 := get_lt h1
                    simp at e1
                    subst e1
                    simp at h1 h2
                    subst h1 h2
                    generalize ρ[b] = l at hok
                    cases l with
                    | lv k o t s =>
                      obtain ⟨h1, h2, arr, el, h3, h4, h5, h6⟩ := hok
                      refine ⟨h1, h2, arr, el, h3, h4, h5, fun k c u hk hu => ?_⟩
                      obtain ⟨p, rfl⟩ := allP_rep hcs k c hk
                      obtain ⟨h7, h8⟩ := h6 k _ u hk hu
                      exact ⟨.p _ _ (rep_p h7), h8⟩
                    | _ => exact hok.elim
                obtain ⟨h1, h2⟩ := hc f as _ _ hrun w G _ hsub vs a1 a2
                refine ⟨h1, h2.mono ?_⟩
                rintro en w' ⟨v, G', ρ', rfl, s2, e2, rep⟩
                obtain ⟨ps, hps⟩ := Option.isSome_iff_exists.1 hcond.2
                obtain ⟨s3, e3⟩ := outer_cell hs hl0 hlv e2 s2 hτ hps
                exact ⟨v, G', ρ, rfl, s3, e3, .p _ _ (rep_p rep)⟩
              · cases h
            · cases h
          · cases h
        · cases h
      · cases h
    · cases h
theorem St.adopt {w' : World} {G' : Nat → Prop} {σ' : Store} {base : Nat} {sl : Option Nat} {b : Blk} {k : Nat} {l : Loc} (h : St w' G' ρ σ) (he : Ext w G ρ w' G' ρ) (hp : Vpi.push base sl σ b = some (k, σ'))
    (hb : ∀ ρ' : List Loc, BlkOk w' G' ρ' l b) (hnew : ∀ (blk o t s : Nat), l = .lv blk o t s → w.heap.size ≤ blk ∧ ¬ Live ρ blk) : ∃ ρ', St w' G' ρ' σ' ∧ Ext w G ρ w' G' ρ' ∧ ρ'[k]? = some l := by
  have fin : ∀ ρ2 : List Loc, LocExt ρ ρ2 → ρ2.length = σ'.length → (∀ (i : Nat) l', ρ2[i]? = some l' → (i ≠ k ∧ ρ[i]? = some l' ∧ σ'[i]? = σ[i]?) ∨ (i = k ∧ l' = l)) → σ'[k]? = some b → ρ2[k]? = some l → ∃ ρ', St w' G' ρ' σ' ∧ Ext w G ρ w' G' ρ' ∧ ρ'[k]? = some l := by
    intro ρ2 hloc hlen hcase hk hl
    refine ⟨ρ2, ⟨h.g, hlen, ?_, ?_⟩, ⟨he.wld, hloc, he.heap, he.grow, he.only, he.below, ?_⟩, hl⟩
    · intro i j kk o t s o' t' s' hi hj
      rcases hcase i _ hi with ⟨_, h1, _⟩ | ⟨h1, h2⟩ <;> rcases hcase j _ hj with ⟨_, h3, _⟩ | ⟨h3, h4⟩
      · exact h.inj i j kk o t s o' t' s' h1 h3
      · exact ((hnew _ _ _ _ h4.symm).2 ⟨i, o, t, s, h1⟩).elim
      · exact ((hnew _ _ _ _ h2.symm).2 ⟨j, o', t', s', h3⟩).elim
      · omega
    · intro i l' x hi hx
      rcases hcase i _ hi with ⟨_, h1, h5⟩ | ⟨h1, h2⟩
      · rw [h5] at hx
        exact (h.ok i l' x h1 hx).mono (fun _ _ => rfl) (fun _ y => y) hloc (fun _ _ _ _ _ => ⟨rfl, id⟩)
      · subst h1 h2
        rw [hk] at hx
        cases hx
        exact hb _
    · rintro kk ⟨i, o, t, s, hi⟩
      rcases hcase i _ hi with ⟨_, h1, _⟩ | ⟨_, h2⟩
      · exact .inl ⟨i, o, t, s, h1⟩
      · exact .inr (hnew _ _ _ _ h2.symm).1
  rcases push_spec hp with ⟨rfl, rfl⟩ | ⟨hk, rfl⟩
  · refine fin (ρ ++ [l]) ?_ (by simp [h.len]) ?_ (by simp) (by rw [← h.len]; simp)
    · intro i l' hi
      exact .inl (by rw [List.getElem?_append_left (get_lt hi)]; exact hi)
    · intro i l' hi
      rcases Nat.lt_or_ge i ρ.length with h1 | h1
      · rw [List.getElem?_append_left h1] at hi
        exact .inl ⟨by rw [← h.len]; omega, hi, by rw [List.getElem?_append_left (by rw [← h.len]; exact h1)]⟩
      · rw [List.getElem?_append_right h1] at hi
        have h2 := get_lt hi
        simp at h2
        have h3 : i - ρ.length = 0 := by omega
        rw [h3] at hi
        cases hi
        exact .inr ⟨by rw [← h.len]; omega, rfl⟩
  · have hklt : k < ρ.length := by rw [h.len]; exact get_lt hk
    have hρk : ρ[k]? = some .hole := by
      have := h.ok k ρ[k] .hole (by simp [hklt]) hk
      unfold BlkOk at this
      split at this <;> simp_all
    refine fin (ρ.set k l) ?_ (by simp [h.len]) ?_ (by rw [List.getElem?_set_self (get_lt hk)]) (by rw [List.getElem?_set_self hklt])
    · intro i l' hi
      by_cases hik : k = i
      · subst hik; rw [hρk] at hi; cases hi; exact .inr (.inr rfl)
      · exact .inl (by rw [List.getElem?_set_ne hik]; exact hi)
    · intro i l' hi
      by_cases hik : k = i
      · subst hik; rw [List.getElem?_set_self hklt] at hi; exact .inr ⟨rfl, by cases hi; rfl⟩
      · rw [List.getElem?_set_ne hik] at hi; exact .inl ⟨fun x => hik x.symm, hi, by rw [List.getElem?_set_ne hik]⟩
theorem sim_made {f : Nat} {args : List CV} {x : Nat × List PV} {base : Nat} {sl : Option Nat} {k : Nat} {σ' : Store} (hc : CallSim P run) (h : madeV run f args = some x) (hp : push base sl σ (.prow x.1 x.2) = some (k, σ')) (hs : St w G ρ σ) {vs : List Value} (hl : args.length = vs.length)
    (hk : ∀ (k : Nat) c v, args[k]? = some c → vs[k]? = some v → RepC w G ρ c v) :
    okFn P f = true ∧ Calls P f vs.toArray w fun en w' => ∃ v G' ρ', en = .returned v ∧ St w' G' ρ' σ' ∧ Ext w G ρ w' G' ρ' ∧ RepC w' G' ρ' (.own k 0 x.2.length) v := by
  unfold madeV at h
  split at h
  · rename_i ps hps
    obtain ⟨a1, a2⟩ := toPs_rep hps hl hk
    split at h
    · rename_i b n τ hrun
      obtain ⟨h1, h2⟩ := hc f (ps.map .p) [] _ hrun w G [] hs.empty vs (by simp [a1]) (by
        intro k c v hc hv
        simp only [List.getElem?_map, Option.map_eq_some_iff] at hc
        obtain ⟨x, hx, rfl⟩ := hc
        exact .p _ _ (a2 k x v hx hv))
      split at h
      · rename_i s es hτ
        split at h
        · rename_i hn
          cases h
          refine ⟨h1, h2.mono ?_⟩
          rintro en w' ⟨v, G', ρ', rfl, s2, e2, rep⟩
          obtain ⟨ad, cap, hv, hcap, hok⟩ := rep_own rep
          obtain ⟨s3, e3⟩ := outer_keep hs e2 s2.g
          have hbl : b < ρ'.length := by rw [s2.len]; exact get_lt hτ
          have hl0 : ρ'[b]? = some ρ'[b] := List.getElem?_eq_getElem hbl
          have hblk := s2.ok b _ _ hl0 hτ
          have stay : ∀ (ρ3 : List Loc) (l : Loc), BlkOk w' G' ρ' l (.prow s es) → BlkOk w' G' ρ3 l (.prow s es) := by intro ρ3 l h; cases l <;> exact h
          have nolive : ∀ k, ¬ Live [] k := by rintro k ⟨i, o, t, s, h⟩; simp at h
          obtain ⟨ρ2, s4, e4, hk2⟩ := s3.adopt (l := ρ'[b]) e3 hp (fun ρ3 => stay ρ3 _ hblk) (fun blk o t s hlv => by
            rw [hlv] at hl0
            rcases e2.lives blk ⟨b, o, t, s, hl0⟩ with hh | hh
            · exact (nolive _ hh).elim
            · exact ⟨hh, fun hh2 => by have := hs.live_lt hh2; omega⟩)
          refine ⟨v, G', ρ2, rfl, s4, e4, ?_⟩
          rw [hv]
          subst hn
          refine .own k 0 _ ad cap hcap ?_
          unfold OwnOk at hok ⊢
          rw [hl0] at hok
          rw [hk2]
          exact hok
        · cases h
      · cases h
    · cases h
  · cases h
end
end Go.Proofs.Ytdpdnplljonppaa.Vpi

namespace Go.Proofs.Ytdpdnplljonppaa.Vpi
open Go
set_option linter.unusedVariables false
set_option linter.unusedSimpArgs false
set_option maxRecDepth 4000
def Fr (rd : Option Nat) : Fence := { Fence.wide with round := rd }
theorem fr_steps {rd : Option Nat} {P : Program} {m m' : Machine} : StepsIn (Machine.fenced P (Fr rd)) P m m' ↔ Steps P m m' := by
  show StepsIn (Machine.fenced P Fence.wide) P m m' ↔ _
  exact stepsIn_wide
theorem fr_calls {rd : Option Nat} {n : Nat} {P : Program} {f : FuncId} {args : Array Value} {w : World} {R : Ending → World → Prop} : CallsIn (Fr rd) n P f args w R ↔ Calls P f args w R := by
  show CallsIn Fence.wide n P f args w R ↔ _
  exact callsIn_wide
def After (D : Nat → Prop) (w : World) (G : Nat → Prop) (ρ : List Loc) (a : Act) (e' : Env) (σ' : Store) (K : Act → World → Prop) : Prop :=
  ∀ a' w' G' ρ', St w' G' ρ' σ' → Ext w G ρ w' G' ρ' → RepE w' G' ρ' e' a'.tmps → a'.defers = a.defers → a'.tmps.size = a.tmps.size → (∀ t, D t → a'.tmps[t]? = a.tmps[t]?) → K a' w'
theorem put_get {a : Act} {d : Option Nat} {u : Value} {t : Nat} (h : d ≠ some t) : (a.put d u).tmps[t]? = a.tmps[t]? := by
  cases d with
  | none => rfl
  | some d =>
    simp only [Act.put]
    exact Array.getElem?_setIfInBounds_ne fun x => h (by rw [x])
theorem okOp_nd {P : Program} {op : Op} {l : ROp} (h : okOp P op l = true) : ∀ c, op ≠ .defer c := by
  rintro c rfl
  cases l <;> simp [okOp] at h
section
variable {P : Program} {ops : Array Oper} {Q : Exit → Act → World → Prop} {w : World} {G : Nat → Prop} {ρ : List Loc} {σ : Store} {e : Env} {a : Act} {base : Nat} {run : Caller} {n : Nat} {D : Nat → Prop} {rd : Option Nat} {mm : Nat}
theorem okOp_call {P : Program} {op : Op} {k : CK} {f : Nat} {args : List Opd} (h : okOp P op (.call k f args) = true) : ∃ c, op = .call c ∧ c.callee = .value (.func f) ∧ okOpds c.args.toList args = true := by
  cases op <;> simp only [okOp, Bool.false_eq_true] at h
  rename_i c
  simp only [okCall] at h
  split at h
  · rename_i g hg
    simp only [Bool.and_eq_true, beq_iff_eq] at h
    exact ⟨c, rfl, by rw [hg, h.1], h.2⟩
  · cases h
theorem okOp_madec {P : Program} {op : Op} {f : Nat} {args : List Opd} (h : okOp P op (.madec f args) = true) : ∃ c, op = .call c ∧ c.callee = .value (.func f) ∧ okOpds c.args.toList args = true := by
  cases op <;> simp only [okOp, Bool.false_eq_true] at h
  rename_i c
  simp only [okCall] at h
  split at h
  · rename_i g hg
    simp only [Bool.and_eq_true, beq_iff_eq] at h
    exact ⟨c, rfl, by rw [hg, h.1], h.2⟩
  · cases h
theorem okOp_callv {P : Program} {op : Op} {k : CK} {x : Opd} {args : List Opd} (h : okOp P op (.callv k x args) = true) : ∃ c y, op = .call c ∧ c.callee = .value y ∧ okOpd y x = true ∧ okOpds c.args.toList args = true := by
  cases op <;> simp only [okOp, Bool.false_eq_true] at h
  rename_i c
  simp only [okCall] at h
  split at h
  · rename_i y hy
    simp only [Bool.and_eq_true] at h
    exact ⟨c, y, rfl, hy, h.1, h.2⟩
  · cases h
theorem run_call {o : Oper} {c : Call} {f : Nat} {fi cap : List Value} {y : Operand} (ho : o.op = .call c) (hc : c.callee = .value y) (hy : a.eval y = .func (.func f) fi.toArray cap.toArray) (hok : okFn P f = true) :
    (execOp a.eval o).run P w = .ok (.enter f (fi ++ c.args.toList.map a.eval ++ cap).toArray) w := by
  unfold okFn at hok
  split at hok
  · rename_i fn hfn
    simp only [Bool.and_eq_true, bne_iff_ne, ne_eq] at hok
    have hb : fn.body.isNone = false := by
      cases hbb : fn.body with
      | none => rw [hbb] at hok; simp at hok
      | some _ => rfl
    have hb2 : ¬ fn.body = none := by intro h; rw [h] at hb; cases hb
    have hname : (fn.name == "runtime.NumGoroutine") = false := by simpa using hok.1
    have hname2 : ¬ fn.name = "runtime.NumGoroutine" := hok.1
    have hargs : (fi.toArray ++ (c.args.map a.eval ++ cap.toArray)) = (fi ++ (c.args.toList.map a.eval ++ cap)).toArray := by
      apply Array.ext'; simp
    simp [execOp, ho, resolve, hc, hy, Deferred.ofValue, invoke, callFunc, hfn, hname, hb, hb2, hname2, hargs]
  · cases hok
theorem after_value {o : Oper} {l : LOp} {v : Value} {c : CV} {σ' : Store} {w' : World} {G' : Nat → Prop} {ρ' : List Loc} {K : Act → World → Prop} (hs : St w G ρ σ) (he : RepE w G ρ e a.tmps) (hd : o.dst = l.d) (hdn : ∀ t, o.dst = some t → t < a.tmps.size)
    (hD : ∀ t, D t → l.d ≠ some t) (s1 : St w' G' ρ' σ') (e1 : Ext w G ρ w' G' ρ') (r1 : RepC w' G' ρ' c v) (hK : After D w G ρ a (sto l.d c e) σ' K) : K (a.put o.dst v) w' := by
  refine hK _ w' G' ρ' s1 e1 ?_ (put_defers _ _ _) (put_size _ _ _) fun t ht => put_get (by rw [hd]; exact hD t ht)
  have := (he.ext e1 hs).sto o.dst hdn r1
  rw [← hd]; exact this
theorem sim_evL {o : Oper} {l : LOp} {i : Nat} {e' : Env} {σ' : Store} {K : Act → World → Prop} (hc : CallSim P run) (hs : St w G ρ σ) (he : RepE w G ρ e a.tmps) (hn : n ≤ a.tmps.size) (hi : ops[i]? = some o) (hok : okLOp P ops n o l = true)
    (hD : ∀ t, D t → l.d ≠ some t) (h : evL run base l e σ = some (e', σ')) (hK : After D w G ρ a e' σ' K) : wpOpIn (Fr rd) mm P ops Q i K a w := by
  simp only [okLOp, Bool.and_eq_true] at hok
  obtain ⟨⟨h1, h2⟩, h3⟩ := hok
  have hd : o.dst = l.d ∧ (∀ t, o.dst = some t → t < a.tmps.size) ∧ (isStore o.op = true → o.dst = none) := by
    split at h2
    · rename_i x y; exact ⟨by rw [x, y], by simp [x], fun _ => x⟩
    · rename_i x y
      simp only [Bool.and_eq_true, beq_iff_eq, decide_eq_true_eq, Bool.not_eq_true'] at h2
      obtain ⟨⟨rfl, h4⟩, h5⟩ := h2
      exact ⟨by rw [x, y], by intro t ht; rw [x] at ht; cases ht; exact Nat.lt_of_lt_of_le h4 hn, by intro hst; rw [h5] at hst; cases hst⟩
    · cases h2
  obtain ⟨hd1, hd2, hd3⟩ := hd
  -- the operation itself
  have step : ∀ {v : CV} {σ2 : Store}, ev1 run base l.sl l.op e σ = some (v, σ2) → After D w G ρ a (sto l.d v e) σ2 K → o.wpIn (Fr rd) mm P a w K Q := by
    intro v σ2 hev hKv
    unfold Oper.wpIn
    refine ⟨fun _ _ => trivial, ?_⟩
    rw [Oper.semAt_eq _ _ _ (okOp_nd h1)]
    have plain : ∀ {res : CV × Store}, SimOp P o a w G ρ res.1 res.2 → res = (v, σ2) → o.uponIn (Fr rd) mm P a K Q ((execOp a.eval o).run P w) := by
      rintro res ⟨nx, u, w', G', ρ', hrun, hnx, s1, e1, r1⟩ rfl
      rw [hrun]
      rcases hnx with rfl | ⟨rfl, rfl⟩
      · exact after_value hs he hd1 hd2 hD s1 e1 r1 hKv
      · exact after_value hs he hd1 hd2 hD s1 e1 r1 hKv
    have called : ∀ {k : CK} {f : Nat} {args : List CV} {vs : List Value}, doCall run k f args σ = some (v, σ2) → args.length = vs.length → (∀ (k : Nat) c v, args[k]? = some c → vs[k]? = some v → RepC w G ρ c v) →
        (okFn P f = true → (execOp a.eval o).run P w = .ok (.enter f vs.toArray) w) → o.uponIn (Fr rd) mm P a K Q ((execOp a.eval o).run P w) := by
      intro k f args vs hdo hl hk hrun
      obtain ⟨hf, hcalls⟩ := sim_call hc hdo hs hl hk
      rw [hrun hf, Oper.uponIn_enter]
      refine ⟨(fun h => by cases h), fr_calls.2 (hcalls.mono ?_)⟩
      rintro en w' ⟨u, G', ρ', rfl, s1, e1, r1⟩
      exact after_value hs he hd1 hd2 hD s1 e1 r1 hKv
    cases hop : l.op with
    | call k f args =>
      rw [hop] at hev h1
      simp only [ev1] at hev
      obtain ⟨c, hoo, hcal, hargs⟩ := okOp_call h1
      obtain ⟨a1, a2⟩ := okOpds_rep hargs he
      refine called hev (vs := c.args.toList.map a.eval) (by simp [a1]) a2 fun hf => ?_
      have := run_call (P := P) (w := w) (a := a) (fi := []) (cap := []) hoo hcal rfl hf
      simpa using this
    | madec f args =>
      rw [hop] at hev h1
      simp only [ev1] at hev
      obtain ⟨c, hoo, hcal, hargs⟩ := okOp_madec h1
      obtain ⟨a1, a2⟩ := okOpds_rep hargs he
      split at hev
      · rename_i x hx
        rw [Option.map_eq_some_iff] at hev
        obtain ⟨⟨k, τ⟩, hp, heq⟩ := hev
        simp only [Prod.mk.injEq] at heq
        obtain ⟨rfl, rfl⟩ := heq
        obtain ⟨hf, hcalls⟩ := sim_made hc hx hp hs (vs := c.args.toList.map a.eval) (by simp [a1]) a2
        have hrun := run_call (P := P) (w := w) (a := a) (fi := []) (cap := []) hoo hcal rfl hf
        rw [show (execOp a.eval o).run P w = .ok (.enter f (c.args.toList.map a.eval).toArray) w by simpa using hrun, Oper.uponIn_enter]
        refine ⟨(fun h => by cases h), fr_calls.2 (hcalls.mono ?_)⟩
        rintro en w' ⟨u, G', ρ', rfl, s1, e1, r1⟩
        exact after_value hs he hd1 hd2 hD s1 e1 r1 hKv
      · cases hev
    | callv k x args =>
      rw [hop] at hev h1
      simp only [ev1] at hev
      split at hev
      · rename_i f cap hx
        obtain ⟨c, y, hoo, hcal, hy, hargs⟩ := okOp_callv h1
        have r1 := okOpd_rep hy he
        rw [hx] at r1
        obtain ⟨cs, hcs, hcl, hck⟩ := rep_fn r1
        obtain ⟨a1, a2⟩ := okOpds_rep hargs he
        refine called hev (vs := c.args.toList.map a.eval ++ cs) (by simp [a1, hcl]) ?_ fun hf => ?_
        · intro j u v hu hv
          rcases Nat.lt_or_ge j args.length with hj | hj
          · rw [List.getElem?_append_left (by simpa using hj)] at hu
            rw [List.getElem?_append_left (by simp [← a1]; simpa using hj)] at hv
            exact a2 j u v hu hv
          · rw [List.getElem?_append_right (by simpa using hj)] at hu
            rw [List.getElem?_append_right (by simp; rw [← Array.length_toList, ← a1]; exact hj)] at hv
            have : j - (c.args.toList.map a.eval).length = j - (args.map (vl e)).length := by simp; rw [← Array.length_toList, ← a1]
            rw [this] at hv
            exact hck _ u v hu hv
        · have := run_call (P := P) (w := w) (a := a) (fi := []) (cap := cs) hoo hcal (by simpa using hcs) hf
          simpa using this
      · cases hev
    | _ =>
      rw [hop] at hev h1
      simp only [ev1] at hev
      exact plain (sim_ev hs he h1 hev) rfl
  unfold wpOpIn
  simp only [hi]
  unfold evL at h
  split at h
  · rename_i hg
    rw [hg] at h3
    have hog : o.guard = none := by
      cases hog : o.guard with
      | none => rfl
      | some x => rw [hog] at h3; cases h3
    have hw : Region.wanted o (yielded ops a.tmps) = true := by simp [Region.wanted, hog]
    rw [if_pos hw]
    simp only [Option.map_eq_some_iff] at h
    obtain ⟨⟨v, σ2⟩, hev, heq⟩ := h
    cases heq
    exact step hev hK
  · rename_i t want hg
    rw [hg] at h3
    cases hog : o.guard with
    | none => rw [hog] at h3; cases h3
    | some x =>
      obtain ⟨j, w0⟩ := x
      rw [hog] at h3
      simp only [Bool.and_eq_true, beq_iff_eq] at h3
      obtain ⟨rfl, h4⟩ := h3
      split at h
      · rename_i b hb
        have r1 := he t
        rw [hb] at r1
        have r2 := rep_bool r1
        have hyield : yielded ops a.tmps j = some b := by
          unfold yielded
          rw [h4]
          simp only [Option.bind_some]
          have : a.tmps[t]? = some (.bool b) := by
            rw [Array.getD_eq_getD_getElem?] at r2
            cases hq : a.tmps[t]? with
            | none => rw [hq] at r2; simp [undef] at r2
            | some q => rw [hq] at r2; simp at r2; rw [r2]
          rw [this]
        split at h
        · rename_i hbw
          have hw : Region.wanted o (yielded ops a.tmps) = true := by simp [Region.wanted, hog, hyield, hbw]
          rw [if_pos hw]
          simp only [Option.map_eq_some_iff] at h
          obtain ⟨⟨v, σ2⟩, hev, heq⟩ := h
          cases heq
          exact step hev hK
        · rename_i hbw
          have hw : ¬ Region.wanted o (yielded ops a.tmps) = true := by simp [Region.wanted, hog, hyield, hbw]
          rw [if_neg hw]
          cases h
          refine ⟨fun _ _ => trivial, ?_⟩
          exact after_value hs he hd1 hd2 hD hs Ext.refl (.tup [] [] rfl (by simp)) hK
      · rename_i hb
        have r1 := he t
        rw [hb] at r1
        have hyield : yielded ops a.tmps j = none := by
          unfold yielded
          rw [h4]
          simp only [Option.bind_some]
          cases hq : a.tmps[t]? with
          | none => rfl
          | some q =>
            rw [Array.getD_eq_getD_getElem?, hq] at r1
            simp only [Option.getD_some] at r1
            cases r1
            rfl
        have hw : ¬ Region.wanted o (yielded ops a.tmps) = true := by simp [Region.wanted, hog, hyield]
        rw [if_neg hw]
        cases h
        refine ⟨fun _ _ => trivial, ?_⟩
        exact after_value hs he hd1 hd2 hD hs Ext.refl (.tup [] [] rfl (by simp)) hK
      · cases h
theorem After.trans {w1 : World} {G1 : Nat → Prop} {ρ1 : List Loc} {a1 : Act} {e' : Env} {σ' : Store} {K : Act → World → Prop} (hK : After D w G ρ a e' σ' K) (e1 : Ext w G ρ w1 G1 ρ1) (hd : a1.defers = a.defers) (hz : a1.tmps.size = a.tmps.size) (ht : ∀ t, D t → a1.tmps[t]? = a.tmps[t]?) : After D w1 G1 ρ1 a1 e' σ' K :=
  fun a' w' G' ρ' s2 e2 r2 d2 z2 t2 => hK a' w' G' ρ' s2 (e1.trans e2) r2 (d2.trans hd) (z2.trans hz) fun t h => (t2 t h).trans (ht t h)
theorem okL_get : ∀ {os : List Oper} {ls : List LOp}, okL P ops n os ls = true → os.length = ls.length ∧ ∀ (i : Nat) o l, os[i]? = some o → ls[i]? = some l → okLOp P ops n o l = true
  | [], [], _ => ⟨rfl, by simp⟩
  | o :: os, l :: ls, h => by
    simp only [okL, Bool.and_eq_true] at h
    obtain ⟨h1, h2⟩ := okL_get h.2
    refine ⟨by simp [h1], ?_⟩
    intro i x y hx hy
    cases i with
    | zero => simp at hx hy; subst hx hy; exact h.1
    | succ i => exact h2 i x y (by simpa using hx) (by simpa using hy)
  | [], _ :: _, h => by simp [okL] at h
  | _ :: _, [], h => by simp [okL] at h
theorem sim_runP (hc : CallSim P run) {e' : Env} {σ' : Store} {m : Nat} :
    ∀ (ls : List LOp) (k : Nat) (w : World) (G : Nat → Prop) (ρ : List Loc) (σ : Store) (e : Env) (a : Act), k + ls.length ≤ ops.size → (∀ (i : Nat) o l, ops[k + i]? = some o → ls[i]? = some l → okLOp P ops n o l = true) → (∀ l ∈ ls, ∀ t, D t → l.d ≠ some t) →
      St w G ρ σ → RepE w G ρ e a.tmps → n ≤ a.tmps.size → runO run base ls e σ = some (e', σ') → After D w G ρ a e' σ' (fun a w => wpOpsIn (Fr rd) mm P ops Q (List.range' (k + ls.length) m) a w) →
      wpOpsIn (Fr rd) mm P ops Q (List.range' k (ls.length + m)) a w
  | [], k, w, G, ρ, σ, e, a, hk, hok, hD, hs, he, hn, h, hK => by
    simp only [runO] at h
    cases h
    have := hK a w G ρ hs Ext.refl he rfl rfl fun _ _ => rfl
    simpa using this
  | l :: ls, k, w, G, ρ, σ, e, a, hk, hok, hD, hs, he, hn, h, hK => by
    simp only [List.length_cons] at hk
    simp only [runO] at h
    split at h
    · rename_i e1 σ1 hev
      rw [List.length_cons, show ls.length + 1 + m = (ls.length + m) + 1 by omega, List.range'_succ, wpOpsIn_cons]
      have hlt : k < ops.size := by omega
      refine sim_evL hc hs he hn (o := ops[k]) (by simp) (hok 0 _ l (by simp) rfl) (hD l (List.mem_cons_self ..)) hev ?_
      intro a' w' G' ρ' s1 x1 r1 d1 z1 t1
      refine sim_runP hc ls (k + 1) w' G' ρ' σ1 e1 a' (by omega) (fun i o l' ho hl => hok (i + 1) o l' (by rw [← ho]; congr 1; omega) (by simpa using hl)) (fun l' hl' => hD l' (List.mem_cons_of_mem _ hl')) s1 r1 (by omega) h ?_
      have := hK.trans x1 d1 z1 t1
      rwa [List.length_cons, show k + (ls.length + 1) = k + 1 + ls.length by omega] at this
    · cases h
theorem sim_runO {lops : List LOp} (hc : CallSim P run) (hok : okL P ops n ops.toList lops = true) (hD : ∀ l ∈ lops, ∀ t, D t → l.d ≠ some t) {e' : Env} {σ' : Store} {w : World} {G : Nat → Prop} {ρ : List Loc} {σ : Store} {e : Env} {a : Act} (hs : St w G ρ σ) (he : RepE w G ρ e a.tmps) (hn : n ≤ a.tmps.size)
    (h : runO run base lops e σ = some (e', σ')) (hK : After D w G ρ a e' σ' (fun a w => Q .normal a w)) : wpOpsIn (Fr rd) mm P ops Q (List.range ops.size) a w := by
  obtain ⟨hlen, hget⟩ := okL_get hok
  simp only [Array.length_toList] at hlen
  have := sim_runP (rd := rd) (mm := mm) (Q := Q) (m := 0) hc lops 0 w G ρ σ e a (by omega) (fun i o l ho hl => hget i o l (by simpa using ho) hl) hD hs he hn h hK
  rw [List.range_eq_range', hlen]
  exact this
end
end Go.Proofs.Ytdpdnplljonppaa.Vpi

namespace Go.Proofs.Ytdpdnplljonppaa.Vpi
open Go
set_option linter.unusedVariables false
set_option linter.unusedSimpArgs false
def cls : ROp → Nat
  | .alloc .. | .box .. | .mks .. | .bslk .. | .madec .. => 1
  | .load .. | .slice .. | .indexA .. => 2
  | .store .. | .bslice .. | .append .. | .appk .. | .appz .. | .copy .. => 3
  | .call .fz _ _ | .callv .fz _ _ => 3
  | .call .cell _ _ => 3
  | .call .peek _ _ => 2
  | .call .pu _ _ | .callv .pu _ _ => 0
  | .call .. | .callv .. => 4
  | _ => 0
def pushes : ROp → Bool
  | .alloc .. | .box .. | .mks .. | .bslice .. | .append .. | .bslk .. | .appk .. | .appz .. | .madec .. => true
  | _ => false
def slotAt (base : Nat) (sl : Option Nat) (op : ROp) : Option Nat := if pushes op = true then sl.map (base + ·) else none
def Local (f : Store → Option (CV × Store)) (F : Foot) (s : Option Nat) : Prop :=
  ∀ (σ : Store) (v : CV) (σ1 : Store), f σ = some (v, σ1) →
    σ1.length = σ.length ∧
    (∀ b : Nat, b ∉ F.wr → s ≠ some b → σ1[b]? = σ[b]?) ∧
    (∀ b : Nat, σ1[b]? = some Blk.hole → σ[b]? = some Blk.hole) ∧
    (∀ b : Nat, b ∉ F.kl → s ≠ some b → bsz σ1 b = bsz σ b) ∧
    (∀ b : Nat, s = some b → σ[b]? = some Blk.hole ∧ σ1[b]? ≠ some Blk.hole) ∧
    ∀ σ' : Store, σ'.length = σ.length → (∀ b : Nat, s = some b → σ'[b]? = some Blk.hole) → (∀ b ∈ F.rd, σ[b]? = some Blk.hole ∨ σ'[b]? = σ[b]?) → (∀ b ∈ F.sz, σ[b]? = some Blk.hole ∨ bsz σ' b = bsz σ b) →
      ∃ σ1' : Store, f σ' = some (v, σ1') ∧ σ1'.length = σ'.length ∧ ∀ b : Nat, σ1'[b]? = σ1[b]? ∨ (σ1[b]? = σ[b]? ∧ σ1'[b]? = σ'[b]?)
def wrs (ws : List (Nat × Blk)) (σ : Store) : Store := ws.foldl (fun σ w => σ.set w.1 w.2) σ
theorem wrs_length : ∀ (ws : List (Nat × Blk)) (σ : Store), (wrs ws σ).length = σ.length
  | [], _ => rfl
  | w :: ws, σ => by
    show (wrs ws (σ.set w.1 w.2)).length = _
    rw [wrs_length ws]; simp
theorem wrs_append (a b : List (Nat × Blk)) (σ : Store) : wrs (a ++ b) σ = wrs b (wrs a σ) := by simp [wrs, List.foldl_append]
theorem wrs_die : ∀ (bs : List Nat) (σ : Store), dieAll σ bs = wrs (bs.map fun b => (b, Blk.dead)) σ
  | [], _ => rfl
  | b :: bs, σ => by
    show dieAll (σ.set b .dead) bs = wrs (bs.map fun b => (b, Blk.dead)) (σ.set b .dead)
    exact wrs_die bs _
theorem dieAll_get' : ∀ (bs : List Nat) (σ : Store) (i : Nat), i ∈ bs → (dieAll σ bs)[i]? = if i < σ.length then some .dead else none
  | b :: bs, σ, i, h => by
    show (dieAll (σ.set b .dead) bs)[i]? = _
    by_cases hi : i ∈ bs
    · rw [dieAll_get' bs _ i hi]; simp
    · rw [dieAll_get bs _ i hi]
      have : i = b := by simpa [hi] using h
      subst this
      rw [List.getElem?_set_self']
      by_cases hl : i < σ.length
      · simp [hl]
      · simp [hl]
theorem wrs_get : ∀ (ws : List (Nat × Blk)) (b : Nat), (∀ σ : Store, (wrs ws σ)[b]? = σ[b]?) ∧ (∀ x, (b, x) ∉ ws) ∨ ∃ x, (b, x) ∈ ws ∧ ∀ σ : Store, (wrs ws σ)[b]? = if b < σ.length then some x else none
  | [], b => .inl ⟨fun _ => rfl, by simp⟩
  | (k, y) :: ws, b => by
    rcases wrs_get ws b with ⟨h1, h2⟩ | ⟨x, h1, h2⟩
    · by_cases hkb : k = b
      · subst hkb
        refine .inr ⟨y, by simp, fun σ => ?_⟩
        show (wrs ws (σ.set k y))[k]? = _
        rw [h1, List.getElem?_set_self']
        by_cases hl : k < σ.length
        · simp [hl]
        · simp [hl]
      · refine .inl ⟨fun σ => ?_, fun x hx => ?_⟩
        · show (wrs ws (σ.set k y))[b]? = _
          rw [h1, List.getElem?_set_ne hkb]
        · rcases List.mem_cons.1 hx with hx | hx
          · cases hx; exact hkb rfl
          · exact h2 x hx
    · refine .inr ⟨x, by simp [h1], fun σ => ?_⟩
      show (wrs ws (σ.set k y))[b]? = _
      rw [h2]; simp
def blkSz : Blk → Option Nat
  | .prow s _ => some s
  | .kblk s _ => some s
  | _ => none
theorem bsz_eq (σ : Store) (b : Nat) : bsz σ b = (σ[b]?).bind blkSz := by
  unfold bsz
  cases σ[b]? with
  | none => rfl
  | some x => cases x <;> rfl
theorem bsz_congr {σ σ' : Store} {b : Nat} (h : σ'[b]? = σ[b]?) : bsz σ' b = bsz σ b := by rw [bsz_eq, bsz_eq, h]
theorem Local.gen {f : Store → Option (CV × Store)} {F : Foot} {s : Option Nat}
    (h : ∀ (σ : Store) (v : CV) (σ1 : Store), f σ = some (v, σ1) → ∃ ws : List (Nat × Blk), σ1 = wrs ws σ ∧
      (∀ b x, (b, x) ∈ ws → x ≠ Blk.hole ∧ (b ∈ F.kl ∧ b ∈ F.wr ∨ s = some b ∨ b ∈ F.wr ∧ blkSz x = bsz σ b)) ∧
      (∀ b : Nat, s = some b → σ[b]? = some Blk.hole ∧ ∃ x, (b, x) ∈ ws) ∧
      ∀ σ' : Store, σ'.length = σ.length → (∀ b : Nat, s = some b → σ'[b]? = some Blk.hole) → (∀ b ∈ F.rd, σ[b]? = some Blk.hole ∨ σ'[b]? = σ[b]?) → (∀ b ∈ F.sz, σ[b]? = some Blk.hole ∨ bsz σ' b = bsz σ b) →
        f σ' = some (v, wrs ws σ')) : Local f F s := by
  intro σ v σ1 hf
  obtain ⟨ws, rfl, h1, h2, h3⟩ := h σ v σ1 hf
  refine ⟨wrs_length _ _, ?_, ?_, ?_, ?_, ?_⟩
  · intro b hb hs
    rcases wrs_get ws b with ⟨g1, _⟩ | ⟨x, g1, _⟩
    · exact g1 σ
    · rcases (h1 b x g1).2 with h | h | h
      · exact absurd h.2 hb
      · exact absurd h hs
      · exact absurd h.1 hb
  · intro b hb
    rcases wrs_get ws b with ⟨g1, _⟩ | ⟨x, g1, g2⟩
    · rw [g1] at hb; exact hb
    · rw [g2] at hb
      split at hb
      · cases hb; exact absurd rfl (h1 b _ g1).1
      · cases hb
  · intro b hb hs
    rcases wrs_get ws b with ⟨g1, _⟩ | ⟨x, g1, g2⟩
    · exact bsz_congr (g1 σ)
    · rcases (h1 b x g1).2 with h | h | h
      · exact absurd h.1 hb
      · exact absurd h hs
      · rw [bsz_eq, g2, ← h.2]
        split
        · rfl
        · rename_i hl
          rw [h.2, bsz_eq, List.getElem?_eq_none (by omega)]
  · intro b hs
    obtain ⟨g1, x, g2⟩ := h2 b hs
    refine ⟨g1, ?_⟩
    rcases wrs_get ws b with ⟨_, g3⟩ | ⟨y, g3, g4⟩
    · exact absurd g2 (g3 x)
    · rw [g4]
      split
      · intro hh; cases hh; exact (h1 b _ g3).1 rfl
      · intro hh; cases hh
  · intro σ' hl hs hr hz
    refine ⟨_, h3 σ' hl hs hr hz, wrs_length _ _, ?_⟩
    intro b
    rcases wrs_get ws b with ⟨g1, _⟩ | ⟨x, g1, g2⟩
    · exact .inr ⟨g1 σ, g1 σ'⟩
    · exact .inl (by rw [g2, g2, hl])
theorem Local.pure {f : Store → Option (CV × Store)} {F : Foot} {c : Option CV} (h : ∀ σ, f σ = c.map fun v => (v, σ)) : Local f F none := by
  refine Local.gen fun σ v σ1 hf => ?_
  rw [h, Option.map_eq_some_iff] at hf
  obtain ⟨u, hu, he⟩ := hf
  cases he
  exact ⟨[], rfl, by simp, by simp, fun σ' _ _ _ _ => by rw [h, hu]; rfl⟩
theorem Local.pure' {f : Store → Option (CV × Store)} {F : Foot} (h : ∀ (σ : Store) (v : CV) (σ1 : Store), f σ = some (v, σ1) → σ1 = σ ∧ ∀ σ', f σ' = some (v, σ')) : Local f F none := by
  refine Local.gen fun σ v σ1 hf => ?_
  obtain ⟨rfl, h2⟩ := h σ v σ1 hf
  exact ⟨[], rfl, by simp, by simp, fun σ' _ _ _ _ => h2 σ'⟩
theorem Local.read {f : Store → Option (CV × Store)} {F : Foot} {g : Store → Option CV} (h : ∀ σ, f σ = (g σ).map fun v => (v, σ))
    (hg : ∀ (σ : Store) v, g σ = some v → ∀ σ' : Store, (∀ b ∈ F.rd, σ[b]? = some Blk.hole ∨ σ'[b]? = σ[b]?) → (∀ b ∈ F.sz, σ[b]? = some Blk.hole ∨ bsz σ' b = bsz σ b) → g σ' = some v) : Local f F none := by
  refine Local.gen fun σ v σ1 hf => ?_
  rw [h, Option.map_eq_some_iff] at hf
  obtain ⟨u, hu, he⟩ := hf
  cases he
  exact ⟨[], rfl, by simp, by simp, fun σ' _ _ hr hz => by rw [h, hg _ _ hu σ' hr hz]; rfl⟩
/-! ### what is read -/
theorem frz1_congr {σ σ' : Store} {c : CV} {x : PV} (h : frz1 σ c = some x) (hr : ∀ b ∈ own0 c, σ[b]? = some Blk.hole ∨ σ'[b]? = σ[b]?) : frz1 σ' c = some x := by
  cases c with
  | own b off n =>
    simp only [frz1] at h ⊢
    rcases hr b (by simp [own0]) with h1 | h1
    · rw [h1] at h; cases h
    · rw [h1]; exact h
  | _ => exact h
theorem frzL_congr {σ σ' : Store} : ∀ {l : List CV} {xs : List PV}, frzL σ l = some xs → (∀ b ∈ l.flatMap own0, σ[b]? = some Blk.hole ∨ σ'[b]? = σ[b]?) → frzL σ' l = some xs
  | [], _, h, _ => h
  | v :: l, xs, h, hr => by
    simp only [frzL] at h ⊢
    split at h
    · rename_i x hx
      rw [Option.map_eq_some_iff] at h
      obtain ⟨ys, hy, rfl⟩ := h
      rw [frz1_congr hx (fun b hb => hr b (by rw [List.flatMap_cons]; exact List.mem_append.2 (.inl hb)))]
      simp only []
      rw [frzL_congr hy (fun b hb => hr b (by rw [List.flatMap_cons]; exact List.mem_append.2 (.inr hb)))]
      rfl
    · cases h
theorem frz_congr {σ σ' : Store} {c : CV} {x : PV} (h : frz σ c = some x) (hr : ∀ b ∈ ownsOf c, σ[b]? = some Blk.hole ∨ σ'[b]? = σ[b]?) : frz σ' c = some x := by
  cases c with
  | agg cs =>
    simp only [frz] at h ⊢
    rw [Option.map_eq_some_iff] at h
    obtain ⟨ys, hy, rfl⟩ := h
    rw [frzL_congr hy hr]; rfl
  | _ => simp only [frz] at h ⊢; exact frz1_congr h (by simpa only [ownsOf] using hr)
theorem frzs_congr {σ σ' : Store} : ∀ {l : List CV} {xs : List PV}, frzs σ l = some xs → (∀ b ∈ l.flatMap ownsOf, σ[b]? = some Blk.hole ∨ σ'[b]? = σ[b]?) → frzs σ' l = some xs
  | [], _, h, _ => h
  | v :: l, xs, h, hr => by
    simp only [frzs] at h ⊢
    split at h
    · rename_i x hx
      rw [Option.map_eq_some_iff] at h
      obtain ⟨ys, hy, rfl⟩ := h
      rw [frz_congr hx (fun b hb => hr b (by rw [List.flatMap_cons]; exact List.mem_append.2 (.inl hb)))]
      simp only []
      rw [frzs_congr hy (fun b hb => hr b (by rw [List.flatMap_cons]; exact List.mem_append.2 (.inr hb)))]
      rfl
    · cases h
theorem content_congr {σ σ' : Store} {c : CV} {x : List PV} (h : content σ c = some x) (hr : ∀ b ∈ ownsOf c, σ[b]? = some Blk.hole ∨ σ'[b]? = σ[b]?) : content σ' c = some x := by
  cases c with
  | own b off n =>
    simp only [content] at h ⊢
    rcases hr b (by simp [ownsOf, own0]) with h1 | h1
    · rw [h1] at h; cases h
    · rw [h1]; exact h
  | p v => cases v <;> exact h
  | _ => exact h
theorem bsz_hole {σ : Store} {b : Nat} (h : σ[b]? = some Blk.hole) : bsz σ b = none := by rw [bsz_eq, h]; rfl
theorem contentK_congr {σ σ' : Store} {c : CV} {x : List CV} (h : contentK σ c = some x) (hr : ∀ b ∈ ownsOf c, σ[b]? = some Blk.hole ∨ σ'[b]? = σ[b]?) : contentK σ' c = some x := by
  unfold contentK at h ⊢
  split at h
  · exact h
  · rename_i b off n
    rcases hr b (by simp [ownsOf, own0]) with h1 | h1
    · rw [h1] at h; cases h
    · simp only [h1]; exact h
  · cases h
theorem sliceV_congr {σ σ' : Store} {sz : Nat} {x : CV} {l h : Nat} {v : CV} (hv : sliceV σ sz x l h = some v) (hz : ∀ b ∈ ownsOf x, σ[b]? = some Blk.hole ∨ bsz σ' b = bsz σ b) : sliceV σ' sz x l h = some v := by
  cases x with
  | own b off n =>
    simp only [sliceV] at hv ⊢
    rcases hz b (by simp [ownsOf, own0]) with h1 | h1
    · rw [bsz_hole h1] at hv; simp at hv
    · rw [h1]; exact hv
  | p v => cases v <;> exact hv
  | _ => exact hv
/-! ### the operations -/
section
variable {run : Caller} {base : Nat} {sl : Option Nat} {e : Env}
theorem push_some {j k : Nat} {σ σ' : Store} {b : Blk} (h : push base (some j) σ b = some (k, σ')) : k = base + j ∧ σ[base + j]? = some Blk.hole ∧ σ' = σ.set (base + j) b := by
  unfold push at h
  simp only [] at h
  split at h
  · rename_i hh; simp only [Option.some.injEq, Prod.mk.injEq] at h; exact ⟨h.1.symm, hh, h.2.symm⟩
  · cases h
theorem push_hole {j : Nat} {σ : Store} {b : Blk} (h : σ[base + j]? = some Blk.hole) : push base (some j) σ b = some (base + j, σ.set (base + j) b) := by
  unfold push; simp only [h]
theorem Local.push {F : Foot} {j : Nat} {f : Store → Option (CV × Store)} {bs : List Nat}
    (h : ∀ (σ : Store) (v : CV) (σ1 : Store), f σ = some (v, σ1) → ∃ (x : Blk) (c : Nat → CV), x ≠ Blk.hole ∧ (Vpi.push base (some j) (dieAll σ bs) x).map (fun (k, σ) => (c k, σ)) = some (v, σ1) ∧
      ∀ σ' : Store, (∀ b ∈ F.rd, σ[b]? = some Blk.hole ∨ σ'[b]? = σ[b]?) → f σ' = (Vpi.push base (some j) (dieAll σ' bs) x).map (fun (k, σ) => (c k, σ)))
    (hb : ∀ b ∈ bs, b ∈ F.kl ∧ b ∈ F.wr) : Local f F (some (base + j)) := by
  refine Local.gen fun σ v σ1 hf => ?_
  obtain ⟨x, c, hx, hp, hc⟩ := h σ v σ1 hf
  rw [Option.map_eq_some_iff] at hp
  obtain ⟨⟨k, τ⟩, hp, he⟩ := hp
  cases he
  obtain ⟨rfl, hh, rfl⟩ := push_some hp
  have hnb : base + j ∉ bs := by
    intro hm
    rw [dieAll_get' _ _ _ hm] at hh
    split at hh <;> cases hh
  refine ⟨bs.map (fun b => (b, Blk.dead)) ++ [(base + j, x)], by rw [wrs_append, ← wrs_die]; rfl, ?_, ?_, ?_⟩
  · intro b y hm
    rcases List.mem_append.1 hm with hm | hm
    · obtain ⟨b', hb', he⟩ := List.mem_map.1 hm
      cases he
      exact ⟨by simp, .inl (hb _ hb')⟩
    · have := List.mem_singleton.1 hm
      cases this
      exact ⟨hx, .inr (.inl rfl)⟩
  · intro b he
    cases he
    exact ⟨by rw [← dieAll_get bs σ _ hnb]; exact hh, x, by simp⟩
  · intro σ' hl hs hr _
    rw [hc σ' hr, push_hole (by rw [dieAll_get _ _ _ hnb]; exact hs _ rfl), wrs_append, ← wrs_die]
    rfl
theorem Local.push0 {F : Foot} {j : Nat} {f : Store → Option (CV × Store)} (x : Option Blk) (c : Nat → CV) (hx : ∀ y, x = some y → y ≠ Blk.hole)
    (h : ∀ σ : Store, f σ = x.bind fun x => (Vpi.push base (some j) σ x).map (fun (k, σ) => (c k, σ))) : Local f F (some (base + j)) := by
  refine Local.push (bs := []) (fun σ v σ1 hf => ?_) (by simp)
  rw [h] at hf
  cases hxx : x with
  | none => rw [hxx] at hf; cases hf
  | some y =>
    rw [hxx] at hf
    refine ⟨y, c, hx y hxx, hf, fun σ' _ => ?_⟩
    rw [h, hxx]; rfl
theorem local_pu {F : Foot} {f : Nat} {args : List CV} : Local (fun σ => doCall run .pu f args σ) F none := by
  refine Local.pure (c := match toPs args with | some ps => (match run f (ps.map .p) [] with | some (r, τ) => back 0 τ r | none => none) | none => none) fun σ => ?_
  simp only [doCall]
  cases toPs args with
  | none => rfl
  | some ps =>
    simp only []
    cases run f (ps.map .p) [] with
    | none => rfl
    | some q =>
      obtain ⟨r, τ⟩ := q
      simp only []
theorem local_fz {F : Foot} {f : Nat} {args : List CV} (h1 : F.rd = args.flatMap ownsOf) (h2 : F.wr = args.flatMap ownsOf) (h3 : F.kl = args.flatMap ownsOf) : Local (fun σ => doCall run .fz f args σ) F none := by
  refine Local.gen fun σ v σ1 hf => ?_
  simp only [doCall] at hf
  split at hf
  · rename_i ps hps
    split at hf
    · rename_i r τ hrun
      rw [Option.map_eq_some_iff] at hf
      obtain ⟨u, hu, he⟩ := hf
      cases he
      refine ⟨(args.flatMap ownsOf).map (fun b => (b, Blk.dead)), by rw [← wrs_die, kills_eq], ?_, (by intro b hb; cases hb), ?_⟩
      · intro b y hm
        obtain ⟨b', hb', he⟩ := List.mem_map.1 hm
        cases he
        exact ⟨by simp, .inl ⟨by rw [h3]; exact hb', by rw [h2]; exact hb'⟩⟩
      · intro σ' _ _ hr _
        rw [h1] at hr
        simp only [doCall, frzs_congr hps hr, hrun, hu]
        rw [← wrs_die, kills_eq]
        first | done | rfl
    · cases hf
  · cases hf
theorem local_cell {F : Foot} {f : Nat} {args : List CV} (h1 : F.rd = args.flatMap addrs) (h2 : F.wr = args.flatMap addrs) : Local (fun σ => doCall run .cell f args σ) F none := by
  refine Local.gen fun σ v σ1 hf => ?_
  simp only [doCall] at hf
  split at hf
  · rename_i hn
    split at hf
    · rename_i ps hps
      split at hf
      · rename_i r τ hrun
        rw [Option.map_eq_some_iff] at hf
        obtain ⟨u, hu, he⟩ := hf
        cases he
        refine ⟨[], rfl, (by intro b y hm; cases hm), (by intro b hb; cases hb), ?_⟩
        intro σ' _ _ hr _
        simp only [doCall, hn, hps, hrun, hu]
        rfl
      · cases hf
    · cases hf
  · rename_i b hb
    split at hf
    · rename_i s cs hσ
      split at hf
      · rename_i as q has hcs
        split at hf
        · rename_i v' τ hrun
          split at hf
          · rename_i s' cs' hτ
            split at hf
            · rename_i hcond
              cases hf
              refine ⟨[(b, .kblk s' cs')], rfl, ?_, (by intro b hb; cases hb), ?_⟩
              · intro b' y hm
                have := List.mem_singleton.1 hm
                cases this
                refine ⟨by simp, .inr (.inr ⟨by rw [h2, hb]; simp, ?_⟩)⟩
                rw [bsz_eq, hσ, hcond.1]; rfl
              · intro σ' hl _ hr _
                have hr1 : σ'[b]? = σ[b]? := by
                  rcases hr b (by rw [h1, hb]; simp) with h | h
                  · rw [h] at hσ; cases hσ
                  · exact h
                simp only [doCall, hb, hr1, hσ, has, hcs, hrun, hτ]
                rw [if_pos hcond]
                rfl
            · cases hf
          · cases hf
        · cases hf
      · cases hf
    · cases hf
  · cases hf
theorem local_peek {F : Foot} {f : Nat} {args : List CV} (h1 : F.rd = args.flatMap ownsOf) : Local (fun σ => doCall run .peek f args σ) F none := by
  refine Local.gen fun σ v σ1 hf => ?_
  simp only [doCall] at hf
  split at hf
  · rename_i ps hps
    split at hf
    · rename_i r τ hrun
      rw [Option.map_eq_some_iff] at hf
      obtain ⟨u, hu, he⟩ := hf
      cases he
      refine ⟨[], rfl, (by intro b y hm; cases hm), (by intro b hb; cases hb), ?_⟩
      intro σ' _ _ hr _
      rw [h1] at hr
      simp only [doCall, frzs_congr hps hr, hrun, hu]
      rfl
    · cases hf
  · cases hf
theorem local_ev1 {op : ROp} (hc : cls op ≠ 4) (hp : pushes op = true → sl.isSome = true) : Local (fun σ => ev1 run base sl op e σ) (foot e op) (slotAt base sl op) := by
  have slot : ∀ {j : Nat}, pushes op = true → sl = some j → slotAt base sl op = some (base + j) := by
    intro j h1 h2; simp [slotAt, h1, h2]
  have noslot : pushes op = false → slotAt base sl op = none := by intro h1; simp [slotAt, h1]
  cases op with
  | mv x => rw [noslot rfl]; exact Local.pure (c := some (vl e x)) fun σ => rfl
  | pick c a b =>
    rw [noslot rfl]
    refine Local.pure (c := match vl e c with | .p (.bool t) => some (if t = true then vl e a else vl e b) | _ => none) fun σ => ?_
    simp only [ev1, ev]
    repeat' split
    all_goals first | rfl | simp_all [Option.map_map, Function.comp_def]
  | alloc zs =>
    obtain ⟨j, hj⟩ := Option.isSome_iff_exists.1 (hp rfl)
    rw [slot rfl hj, hj]
    exact Local.push0 (some (.kblk zs.length zs)) (fun b => .ptr b 0 0) (by rintro _ ⟨⟩ ⟨⟩) fun σ => by simp only [ev1, ev]; rfl
  | box x =>
    obtain ⟨j, hj⟩ := Option.isSome_iff_exists.1 (hp rfl)
    rw [slot rfl hj, hj]
    refine Local.push0 ((vl e x).cells.map fun cs => .kblk cs.length cs) (fun b => .ptr b 0 0) ?_ fun σ => ?_
    · intro y hy
      rw [Option.map_eq_some_iff] at hy
      obtain ⟨cs, _, rfl⟩ := hy
      rintro ⟨⟩
    · simp only [ev1, ev]
      repeat' split
      all_goals first | rfl | simp_all [Option.map_map, Function.comp_def]
  | build zs parts =>
    rw [noslot rfl]
    refine Local.pure (c := (fill zs e parts).map mkAgg) fun σ => ?_
    simp only [ev1, ev]
    repeat' split
    all_goals first | rfl | simp_all [Option.map_map, Function.comp_def]
  | bslice sz xs =>
    obtain ⟨j, hj⟩ := Option.isSome_iff_exists.1 (hp rfl)
    rw [slot rfl hj, hj]
    refine Local.push (bs := (xs.map (vl e)).flatMap ownsOf) (fun σ v σ1 hf => ?_) (fun b hb => ⟨hb, hb⟩)
    simp only [ev1, ev] at hf
    split at hf
    · rename_i ps hps
      split at hf
      · rename_i hz
        refine ⟨.prow sz ps, fun b => .own b 0 ps.length, by rintro ⟨⟩, by rw [← kills_eq]; exact hf, fun σ' hr => ?_⟩
        simp only [ev1, ev, frzs_congr hps hr, hz, if_true, kills_eq]
      · cases hf
    · cases hf
  | bslk xs =>
    obtain ⟨j, hj⟩ := Option.isSome_iff_exists.1 (hp rfl)
    rw [slot rfl hj, hj]
    refine Local.push0 ((cellL (xs.map (vl e))).map fun cs => .kblk 1 cs) (fun b => .own b 0 (((cellL (xs.map (vl e))).getD []).length)) (by intro y hy; rw [Option.map_eq_some_iff] at hy; obtain ⟨cs, _, rfl⟩ := hy; rintro ⟨⟩) fun σ => ?_
    simp only [ev1, ev]
    cases cellL (xs.map (vl e)) <;> rfl
  | load agg sz a =>
    rw [noslot rfl]
    refine Local.read (g := fun σ => match vl e a with
      | .ptr b i off =>
        match σ[b]? with
        | some (.prow _ es) => (match es[i]? with | some x => (subPV agg sz x off).map .p | none => none)
        | some (.kblk s cs) => subCV agg sz cs (i * s + off)
        | _ => none
      | .rp x off => (subPV agg sz x off).map .p
      | _ => none) (fun σ => ?_) ?_
    · simp only [ev1, ev]
      repeat' split
      all_goals first | rfl | simp_all [Option.map_map, Function.comp_def]
    · intro σ v h σ' hr _
      simp only [foot] at hr
      split at h
      · rename_i b i off hv
        rw [hv] at hr
        rcases hr b (by simp [addrs]) with h1 | h1
        · rw [h1] at h; cases h
        · rw [h1]; exact h
      · rename_i x off hv
        exact h
      · cases h
  | store sz a x =>
    rw [noslot rfl]
    refine Local.gen fun σ v σ1 hf => ?_
    simp only [ev1, ev] at hf
    split at hf
    · rename_i b i off hv
      split at hf
      · rename_i s0 es0 hb
        split at hf
        · rename_i u hu
          split at hf
          · rename_i s es hk
            split at hf
            · rename_i y hy
              rw [Option.map_eq_some_iff] at hf
              obtain ⟨z, hz, he⟩ := hf
              cases he
              have hnb : b ∉ ownsOf (vl e x) := by
                intro hm
                rw [kill_eq, dieAll_get' _ _ _ hm] at hk
                split at hk <;> cases hk
              have hkb := hk
              rw [kill_eq, dieAll_get _ _ _ hnb] at hkb
              rw [kill_eq]
              refine ⟨(ownsOf (vl e x)).map (fun b => (b, Blk.dead)) ++ [(b, .prow s (es.set i z))], by rw [wrs_append, ← wrs_die]; rfl, ?_, (by intro b hb; cases hb), ?_⟩
              · intro b' q hm
                rcases List.mem_append.1 hm with hm | hm
                · obtain ⟨b'', hb', he⟩ := List.mem_map.1 hm
                  cases he
                  exact ⟨by simp, .inl ⟨hb', List.mem_append.2 (.inr hb')⟩⟩
                · have := List.mem_singleton.1 hm
                  cases this
                  refine ⟨by simp, .inr (.inr ⟨by simp [foot, hv, addrs], ?_⟩)⟩
                  rw [bsz_eq, hkb]; rfl
              · intro σ' hl _ hr _
                simp only [foot] at hr
                have hr1 : σ'[b]? = σ[b]? := by
                  rcases hr b (by simp [hv, addrs]) with h1 | h1
                  · rw [h1] at hb; cases hb
                  · exact h1
                have hr2 := frz_congr hu (fun b hb => hr b (List.mem_append.2 (.inr hb)))
                have hkb' : (kill σ' (vl e x))[b]? = some (.prow s es) := by rw [kill_eq, dieAll_get _ _ _ hnb, hr1]; exact hkb
                simp only [ev1, ev, hv, hr1, hb, hr2, hkb', hy, hz]
                simp only [Option.map_some, wrs_append, ← wrs_die, kill_eq]
                rfl
            · cases hf
          · cases hf
        · cases hf
      · rename_i s cs hb
        split at hf
        · rename_i xs hx
          split at hf
          · rename_i hcond
            cases hf
            refine ⟨[(b, .kblk s (setCells cs (i * s + off) xs))], rfl, ?_, (by intro b hb; cases hb), ?_⟩
            · intro b' q hm
              have := List.mem_singleton.1 hm
              cases this
              refine ⟨by simp, .inr (.inr ⟨by simp [foot, hv, addrs], ?_⟩)⟩
              rw [bsz_eq, hb]; rfl
            · intro σ' hl _ hr _
              have hr1 : σ'[b]? = σ[b]? := by
                rcases hr b (by simp [foot, hv, addrs]) with h1 | h1
                · rw [h1] at hb; cases hb
                · exact h1
              simp only [ev1, ev, hv, hr1, hb, hx]
              rw [if_pos hcond]
              rfl
          · cases hf
        · cases hf
      · cases hf
    · cases hf
  | nilc x =>
    rw [noslot rfl]
    refine Local.pure (c := match vl e x with | .fn f cap => some (.fn f cap) | .ptr b i off => some (.ptr b i off) | .rp v off => some (.rp v off) | _ => none) fun σ => ?_
    simp only [ev1, ev]
    repeat' split
    all_goals first | rfl | simp_all [Option.map_map, Function.comp_def]
  | bin o x y =>
    rw [noslot rfl]
    refine Local.pure (c := match vl e x, vl e y with | .p a, .p b => (binV o a b).map .p | _, _ => none) fun σ => ?_
    simp only [ev1, ev]
    repeat' split
    all_goals first | rfl | simp_all [Option.map_map, Function.comp_def]
  | beq ne x y =>
    rw [noslot rfl]
    refine Local.pure (c := match vl e x, vl e y with | .p (.bool a), .p (.bool b) => some (.p (.bool (if ne = true then !(a == b) else a == b))) | _, _ => none) fun σ => ?_
    simp only [ev1, ev]
    repeat' split
    all_goals first | rfl | simp_all [Option.map_map, Function.comp_def]
  | un o x =>
    rw [noslot rfl]
    refine Local.pure (c := match vl e x with | .p a => (unV o a).map .p | _ => none) fun σ => ?_
    simp only [ev1, ev]
    repeat' split
    all_goals first | rfl | simp_all [Option.map_map, Function.comp_def]
  | conv k x =>
    rw [noslot rfl]
    refine Local.pure (c := match (vl e x).num with | some n => some (.p (.int k (k.wrap n))) | none => none) fun σ => ?_
    simp only [ev1, ev]
    repeat' split
    all_goals first | rfl | simp_all [Option.map_map, Function.comp_def]
  | mkfn f cap => rw [noslot rfl]; exact Local.pure (c := some (.fn f (cap.map (vl e)))) fun σ => rfl
  | mks deep sz bytes z l c =>
    obtain ⟨j, hj⟩ := Option.isSome_iff_exists.1 (hp rfl)
    rw [slot rfl hj, hj]
    cases hl : (vl e l).num with
    | none => exact Local.push0 none (fun _ => .any) (by intro y hy; cases hy) fun σ => by simp only [ev1, ev, hl]; rfl
    | some l' =>
      cases hcn : (vl e c).num with
      | none => exact Local.push0 none (fun _ => .any) (by intro y hy; cases hy) fun σ => by simp only [ev1, ev, hl, hcn]; rfl
      | some c' =>
        by_cases hcond : 0 ≤ l' ∧ l' ≤ c' ∧ (bytes : Int) * c' ≤ 281474976710656 ∧ c' ≤ 9223372036854775807 ∧ z.cells.length = sz
        · cases deep with
          | false =>
            refine Local.push0 (some (.prow sz (List.replicate l'.toNat z))) (fun b => .own b 0 l'.toNat) (by rintro _ ⟨⟩ ⟨⟩) fun σ => ?_
            simp only [ev1, ev, hl, hcn]
            rw [if_pos hcond]
            rfl
          | true =>
            by_cases h1 : sz = 1
            · refine Local.push0 (some (.kblk sz (List.replicate l'.toNat .nils))) (fun b => .own b 0 l'.toNat) (by rintro _ ⟨⟩ ⟨⟩) fun σ => ?_
              simp only [ev1, ev, hl, hcn]
              rw [if_pos hcond, if_pos h1]
              rfl
            · refine Local.push0 none (fun _ => .any) (by intro y hy; cases hy) fun σ => ?_
              simp only [ev1, ev, hl, hcn]
              rw [if_pos hcond, if_neg h1]
              rfl
        · refine Local.push0 none (fun _ => .any) (by intro y hy; cases hy) fun σ => ?_
          simp only [ev1, ev, hl, hcn]
          rw [if_neg hcond]
          rfl
  | slice sz x lo hi mx =>
    rw [noslot rfl]
    clear hc hp slot noslot
    refine Local.read (g := fun σ => match lenV (vl e x) with
      | some n =>
        match bnd e lo 0, bnd e hi n with
        | some l, some h =>
          match mx with
          | none => sliceV σ sz (vl e x) l h
          | some m =>
            match (vl e m).num with
            | some m => if 0 ≤ m ∧ h ≤ m.toNat ∧ m.toNat ≤ n then sliceV σ sz (vl e x) l h else none
            | none => none
        | _, _ => none
      | none => none) (fun σ => ?_) ?_
    · simp only [ev1, ev]
      cases lenV (vl e x) with
      | none => rfl
      | some n =>
        show _ = Option.map _ (match bnd e lo 0, bnd e hi n with
        | some l, some h =>
          match mx with
          | none => sliceV σ sz (vl e x) l h
          | some m =>
            match (vl e m).num with
            | some m => if 0 ≤ m ∧ h ≤ m.toNat ∧ m.toNat ≤ n then sliceV σ sz (vl e x) l h else none
            | none => none
        | _, _ => none)
        dsimp only
        cases bnd e lo 0 with
        | none => rfl
        | some l =>
          cases bnd e hi n with
          | none => rfl
          | some h =>
            cases mx with
            | none => rfl
            | some m =>
              dsimp only
              cases (vl e m).num with
              | none => rfl
              | some m =>
                dsimp only
                by_cases hcond : 0 ≤ m ∧ h ≤ m.toNat ∧ m.toNat ≤ n
                · rw [if_pos hcond, if_pos hcond]
                · rw [if_neg hcond, if_neg hcond]; rfl
    · intro σ v h σ' _ hz
      simp only [foot] at hz
      split at h
      · split at h
        · split at h
          · exact sliceV_congr h hz
          · split at h
            · split at h
              · rename_i hcond; rw [if_pos hcond]; exact sliceV_congr h hz
              · cases h
            · cases h
        · cases h
      · cases h
  | fieldA off x =>
    rw [noslot rfl]
    refine Local.pure (c := match vl e x with | .ptr b i o => some (.ptr b i (o + off)) | .rp v o => some (.rp v (o + off)) | _ => none) fun σ => ?_
    simp only [ev1, ev]
    repeat' split
    all_goals first | rfl | simp_all [Option.map_map, Function.comp_def]
  | field agg off sz x =>
    rw [noslot rfl]
    refine Local.pure (c := match vl e x with | .p (.agg cs) => (subPV agg sz (.agg cs) off).map .p | .agg cs => subCV agg sz cs off | _ => none) fun σ => ?_
    simp only [ev1, ev]
    repeat' split
    all_goals first | rfl | simp_all [Option.map_map, Function.comp_def]
  | indexA sz x i =>
    rw [noslot rfl]
    refine Local.read (g := fun σ => match (vl e i).num with
      | some i =>
        if 0 ≤ i then
          match vl e x with
          | .p (.sl es) => (match es[i.toNat]? with | some v => if v.cells.length = sz then some (.rp v 0) else none | none => none)
          | .own b off n => if i.toNat < n ∧ bsz σ b = some sz then some (.ptr b (off + i.toNat) 0) else none
          | _ => none
        else none
      | none => none) (fun σ => ?_) ?_
    · simp only [ev1, ev]
      cases (vl e i).num with
      | none => rfl
      | some i =>
        simp only []
        by_cases h0 : 0 ≤ i
        · rw [if_pos h0, if_pos h0]
          cases vl e x with
          | p v =>
            cases v with
            | sl es =>
              simp only []
              cases es[i.toNat]? with
              | none => rfl
              | some v =>
                simp only []
                by_cases h1 : v.cells.length = sz
                · rw [if_pos h1, if_pos h1]; rfl
                · rw [if_neg h1, if_neg h1]; rfl
            | _ => rfl
          | own b off n =>
            simp only []
            by_cases h1 : i.toNat < n ∧ bsz σ b = some sz
            · rw [if_pos h1, if_pos h1]; rfl
            · rw [if_neg h1, if_neg h1]; rfl
          | _ => rfl
        · rw [if_neg h0, if_neg h0]; rfl
    · intro σ v h σ' _ hz
      simp only [foot] at hz
      split at h
      · split at h
        · rename_i h0
          rw [if_pos h0]
          split at h
          · exact h
          · rename_i b off n hv
            rw [hv] at hz
            split at h
            · rename_i hcond
              rcases hz b (by simp [ownsOf, own0]) with h1 | h1
              · rw [bsz_hole h1] at hcond; exact absurd hcond.2 (by simp)
              · rw [h1, if_pos hcond]; exact h
            · cases h
          · cases h
        · cases h
      · cases h
  | idx tab x =>
    rw [noslot rfl]
    refine Local.pure' fun σ v σ1 hf => ?_
    simp only [ev1, ev] at hf ⊢
    split at hf
    · split at hf
      · split at hf
        · cases hf; exact ⟨rfl, fun σ' => by simp [*]⟩
        · cases hf
      · cases hf
    · cases hf
  | extract x i =>
    rw [noslot rfl]
    refine Local.pure (c := match vl e x with | .tup vs => vs[i]? | _ => none) fun σ => ?_
    simp only [ev1, ev]
    repeat' split
    all_goals first | rfl | simp_all [Option.map_map, Function.comp_def]
  | len x =>
    rw [noslot rfl]
    refine Local.pure (c := (lenV (vl e x)).map fun (n : Nat) => i64 (n : Int)) fun σ => ?_
    simp only [ev1, ev]
    repeat' split
    all_goals first | rfl | simp_all [Option.map_map, Function.comp_def]
  | append sz bytes s x =>
    obtain ⟨j, hj⟩ := Option.isSome_iff_exists.1 (hp rfl)
    rw [slot rfl hj, hj]
    refine Local.push (bs := ownsOf (vl e s)) (fun σ v σ1 hf => ?_) (fun b hb => ⟨hb, hb⟩)
    simp only [ev1, ev] at hf
    split at hf
    · rename_i a b ha hb
      split at hf
      · rename_i hcond
        refine ⟨.prow sz (a ++ b), fun k => .own k 0 (a.length + b.length), by rintro ⟨⟩, ?_, fun σ' hr => ?_⟩
        · split at hf
          · rename_i hv; rw [hv]; exact hf
          · rename_i k' o n hv
            rw [hv]
            split at hf
            · split at hf
              · exact hf
              · cases hf
            · cases hf
          · cases hf
        · simp only [foot] at hr
          simp only [ev1, ev, content_congr ha (fun b hb => hr b (List.mem_append.2 (.inl hb))), content_congr hb (fun b hb => hr b (List.mem_append.2 (.inr hb)))]
          rw [if_pos hcond]
          split at hf
          · rename_i hv; rw [hv]; rfl
          · rename_i k' o n hv
            rw [hv] at hr
            split at hf
            · rename_i sz' q hq
              rcases hr k' (by simp [ownsOf, own0]) with h1 | h1
              · rw [h1] at hq; cases hq
              · rw [h1, hq]
                split at hf
                · rename_i hsz; rw [hv]; simp only []; rw [if_pos hsz]; rfl
                · cases hf
            · cases hf
          · cases hf
      · cases hf
    · cases hf
  | appk bytes s x =>
    obtain ⟨j, hj⟩ := Option.isSome_iff_exists.1 (hp rfl)
    rw [slot rfl hj, hj]
    refine Local.push (bs := ownsOf (vl e s)) (fun σ v σ1 hf => ?_) (fun b hb => ⟨hb, hb⟩)
    simp only [ev1, ev] at hf
    split at hf
    · rename_i a b ha hb
      split at hf
      · rename_i hcond
        refine ⟨.kblk 1 (a ++ b), fun k => .own k 0 (a.length + b.length), by rintro ⟨⟩, ?_, fun σ' hr => ?_⟩
        · split at hf
          · rename_i hv; rw [hv]; exact hf
          · rename_i k' o n hv
            rw [hv]
            exact hf
          · cases hf
        · simp only [foot] at hr
          simp only [ev1, ev, contentK_congr ha (fun b hb => hr b (List.mem_append.2 (.inl hb))), contentK_congr hb (fun b hb => hr b (List.mem_append.2 (.inr hb)))]
          rw [if_pos hcond]
          split at hf
          · rename_i hv; rw [hv]; rfl
          · rename_i k' o n hv
            rw [hv]; rfl
          · cases hf
      · cases hf
    · cases hf
  | appz sz bytes z s x =>
    obtain ⟨j, hj⟩ := Option.isSome_iff_exists.1 (hp rfl)
    rw [slot rfl hj, hj]
    refine Local.push (bs := ownsOf (vl e s)) (fun σ v σ1 hf => ?_) (fun b hb => ⟨hb, hb⟩)
    simp only [ev1, ev] at hf
    split at hf
    · rename_i a m ha hm
      split at hf
      · rename_i hcond
        refine ⟨.prow sz (a ++ List.replicate m.toNat z), fun k => .own k 0 (a.length + m.toNat), by rintro ⟨⟩, ?_, fun σ' hr => ?_⟩
        · split at hf
          · rename_i hv; rw [hv]; exact hf
          · rename_i k' o n hv
            rw [hv]
            split at hf
            · split at hf
              · exact hf
              · cases hf
            · cases hf
          · cases hf
        · simp only [foot] at hr
          simp only [ev1, ev, content_congr ha hr, hm]
          rw [if_pos hcond]
          split at hf
          · rename_i hv; rw [hv]; rfl
          · rename_i k' o n hv
            rw [hv] at hr
            split at hf
            · rename_i sz' q hq
              rcases hr k' (by simp [ownsOf, own0]) with h1 | h1
              · rw [h1] at hq; cases hq
              · rw [h1, hq]
                split at hf
                · rename_i hsz; rw [hv]; simp only []; rw [if_pos hsz]; rfl
                · cases hf
            · cases hf
          · cases hf
      · cases hf
    · cases hf
  | copy sz d s =>
    rw [noslot rfl]
    refine Local.gen fun σ v σ1 hf => ?_
    simp only [ev1, ev] at hf
    split at hf
    · rename_i b off n xs hd hs
      split at hf
      · rename_i q es hb
        split at hf
        · rename_i hcond
          cases hf
          refine ⟨[(b, .prow q (setCells es off (xs.take n)))], rfl, ?_, (by intro b hb; cases hb), ?_⟩
          · intro b' y hm
            have := List.mem_singleton.1 hm
            cases this
            refine ⟨by simp, .inr (.inr ⟨by simp [foot, hd, ownsOf, own0], ?_⟩)⟩
            rw [bsz_eq, hb]; rfl
          · intro σ' hl _ hr _
            simp only [foot] at hr
            have hr1 : σ'[b]? = σ[b]? := by
              rcases hr b (by simp [hd, ownsOf, own0]) with h1 | h1
              · rw [h1] at hb; cases hb
              · exact h1
            have hr2 := content_congr hs (fun b hb => hr b (List.mem_append.2 (.inr hb)))
            simp only [ev1, ev, hd, hr2, hr1, hb]
            rw [if_pos hcond]
            rfl
        · cases hf
      · cases hf
    · rename_i xs hd hs
      cases hf
      refine ⟨[], rfl, by simp, by simp, ?_⟩
      intro σ' hl _ hr _
      simp only [foot] at hr
      have hr2 := content_congr hs (fun b hb => hr b (List.mem_append.2 (.inr hb)))
      simp only [ev1, ev, hd, hr2]
      rfl
    · cases hf
  | mx x y =>
    rw [noslot rfl]
    refine Local.pure' fun σ v σ1 hf => ?_
    simp only [ev1, ev] at hf ⊢
    split at hf
    · rename_i h1 h2; cases hf; exact ⟨rfl, fun σ' => rfl⟩
    · cases hf
  | mn x y =>
    rw [noslot rfl]
    refine Local.pure' fun σ v σ1 hf => ?_
    simp only [ev1, ev] at hf ⊢
    split at hf
    · rename_i h1 h2; cases hf; exact ⟨rfl, fun σ' => rfl⟩
    · cases hf
  | call k f args =>
    rw [noslot rfl]
    simp only [ev1]
    cases k with
    | pu => exact local_pu
    | fz => exact local_fz rfl rfl rfl
    | full => exact absurd rfl hc
    | keep => exact absurd rfl hc
    | cell => exact local_cell rfl rfl
    | peek => exact local_peek rfl
  | madec f args =>
    obtain ⟨j, hj⟩ := Option.isSome_iff_exists.1 (hp rfl)
    rw [slot rfl hj, hj]
    refine Local.push0 ((madeV run f (args.map (vl e))).map fun x => .prow x.1 x.2) (fun b => .own b 0 (((madeV run f (args.map (vl e))).getD (0, [])).2.length)) (by intro y hy; rw [Option.map_eq_some_iff] at hy; obtain ⟨cs, _, rfl⟩ := hy; rintro ⟨⟩) fun σ => ?_
    simp only [ev1]
    cases madeV run f (args.map (vl e)) <;> rfl
  | callv k x args =>
    rw [noslot rfl]
    simp only [ev1]
    cases hx : vl e x with
    | fn f cap =>
      simp only []
      cases k with
      | pu => exact local_pu
      | fz => exact local_fz (by simp only [foot, hx, capOf]) (by simp only [foot, hx, capOf]) (by simp only [foot, hx, capOf])
      | full => exact absurd rfl hc
      | keep => exact absurd rfl hc
      | cell => exact absurd rfl hc
      | peek => exact absurd rfl hc
    | _ => exact Local.pure (c := none) fun σ => rfl
end
end Go.Proofs.Ytdpdnplljonppaa.Vpi

namespace Go.Proofs.Ytdpdnplljonppaa.Vpi
open Go
set_option linter.unusedVariables false
set_option linter.unusedSimpArgs false
def opdT : Opd → List Nat
  | .t n => [n]
  | .c _ => []
def optT : Option Opd → List Nat
  | some x => opdT x
  | none => []
def ropT : ROp → List Nat
  | .mv x => opdT x
  | .pick c a b => opdT c ++ opdT a ++ opdT b
  | .alloc _ => []
  | .box x => opdT x
  | .build _ parts => parts.flatMap fun p => opdT p.2.2
  | .bslice _ xs => xs.flatMap opdT
  | .bslk xs => xs.flatMap opdT
  | .load _ _ a => opdT a
  | .store _ a x => opdT a ++ opdT x
  | .nilc x => opdT x
  | .bin _ x y => opdT x ++ opdT y
  | .beq _ x y => opdT x ++ opdT y
  | .un _ x => opdT x
  | .conv _ x => opdT x
  | .mkfn _ cap => cap.flatMap opdT
  | .mks _ _ _ _ l c => opdT l ++ opdT c
  | .slice _ x lo hi mx => opdT x ++ optT lo ++ optT hi ++ optT mx
  | .fieldA _ x => opdT x
  | .field _ _ _ x => opdT x
  | .indexA _ x i => opdT x ++ opdT i
  | .extract x _ => opdT x
  | .idx _ x => opdT x
  | .len x => opdT x
  | .append _ _ s x => opdT s ++ opdT x
  | .appk _ s x => opdT s ++ opdT x
  | .appz _ _ _ s x => opdT s ++ opdT x
  | .copy _ d s => opdT d ++ opdT s
  | .mx x y => opdT x ++ opdT y
  | .mn x y => opdT x ++ opdT y
  | .call _ _ args => args.flatMap opdT
  | .callv _ x args => opdT x ++ args.flatMap opdT
  | .madec _ args => args.flatMap opdT
def lopT (o : LOp) : List Nat := ropT o.op ++ (match o.g with | some (t, _) => [t] | none => [])
section
variable {run : Caller} {base : Nat} {sl : Option Nat} {e e' : Env} {σ : Store}
def AgreeOn (l : List Nat) (e e' : Env) : Prop := ∀ t ∈ l, gt e t = gt e' t
theorem AgreeOn.left {a b : List Nat} (h : AgreeOn (a ++ b) e e') : AgreeOn a e e' := fun t ht => h t (List.mem_append.2 (.inl ht))
theorem AgreeOn.right {a b : List Nat} (h : AgreeOn (a ++ b) e e') : AgreeOn b e e' := fun t ht => h t (List.mem_append.2 (.inr ht))
theorem vl_agree {x : Opd} (h : AgreeOn (opdT x) e e') : vl e x = vl e' x := by
  cases x with
  | t n => exact h n (by simp [opdT])
  | c v => rfl
theorem map_agree : ∀ {xs : List Opd}, AgreeOn (xs.flatMap opdT) e e' → xs.map (vl e) = xs.map (vl e')
  | [], _ => rfl
  | x :: xs, h => by
    rw [List.flatMap_cons] at h
    rw [List.map_cons, List.map_cons, vl_agree h.left, map_agree h.right]
theorem bnd_agree {x : Option Opd} (h : AgreeOn (optT x) e e') (d : Nat) : bnd e x d = bnd e' x d := by
  cases x with
  | none => rfl
  | some x => simp only [bnd]; rw [vl_agree (x := x) h]
theorem fill_agree : ∀ {ps : List (Nat × Nat × Opd)} {zs : List CV}, AgreeOn (ps.flatMap fun p => opdT p.2.2) e e' → fill zs e ps = fill zs e' ps
  | [], _, _ => rfl
  | (off, sz, x) :: ps, zs, h => by
    rw [List.flatMap_cons] at h
    simp only [fill]
    have h1 : vl e x = vl e' x := vl_agree h.left
    rw [h1]
    cases (vl e' x).cells with
    | none => rfl
    | some cs =>
      simp only []
      rw [fill_agree h.right]
theorem ev1_agree {op : ROp} (h : AgreeOn (ropT op) e e') : ev1 run base sl op e σ = ev1 run base sl op e' σ := by
  cases op with
  | mv x => simp only [ev1, ev]; rw [vl_agree (x := x) h]
  | pick c a b => simp only [ev1, ev]; rw [vl_agree (x := c) h.left.left, vl_agree (x := a) h.left.right, vl_agree (x := b) h.right]
  | alloc _ => rfl
  | box x => simp only [ev1, ev]; rw [vl_agree (x := x) h]
  | build zs parts => simp only [ev1, ev]; rw [fill_agree h]
  | bslice sz xs => simp only [ev1, ev]; rw [map_agree h]
  | bslk xs => simp only [ev1, ev]; rw [map_agree h]
  | load agg sz a => simp only [ev1, ev]; rw [vl_agree (x := a) h]
  | store sz a x => simp only [ev1, ev]; rw [vl_agree (x := a) h.left, vl_agree (x := x) h.right]
  | nilc x => simp only [ev1, ev]; rw [vl_agree (x := x) h]
  | bin op x y => simp only [ev1, ev]; rw [vl_agree (x := x) h.left, vl_agree (x := y) h.right]
  | beq op x y => simp only [ev1, ev]; rw [vl_agree (x := x) h.left, vl_agree (x := y) h.right]
  | un op x => simp only [ev1, ev]; rw [vl_agree (x := x) h]
  | conv k x => simp only [ev1, ev]; rw [vl_agree (x := x) h]
  | mkfn f cap => simp only [ev1, ev]; rw [map_agree h]
  | mks deep sz bytes z l c => simp only [ev1, ev]; rw [vl_agree (x := l) h.left, vl_agree (x := c) h.right]
  | slice sz x lo hi mx =>
    simp only [ev1, ev]
    rw [vl_agree (x := x) h.left.left.left, bnd_agree (x := lo) h.left.left.right]
    have h1 := fun d => bnd_agree (x := hi) h.left.right d
    simp only [h1]
    cases mx with
    | none => rfl
    | some m => simp only [vl_agree (x := m) h.right]
  | fieldA off x => simp only [ev1, ev]; rw [vl_agree (x := x) h]
  | field agg off sz x => simp only [ev1, ev]; rw [vl_agree (x := x) h]
  | indexA sz x i => simp only [ev1, ev]; rw [vl_agree (x := x) h.left, vl_agree (x := i) h.right]
  | extract x i => simp only [ev1, ev]; rw [vl_agree (x := x) h]
  | idx tab x => simp only [ev1, ev]; rw [vl_agree (x := x) h]
  | len x => simp only [ev1, ev]; rw [vl_agree (x := x) h]
  | append sz bytes s x => simp only [ev1, ev]; rw [vl_agree (x := s) h.left, vl_agree (x := x) h.right]
  | appz sz bytes z s x => simp only [ev1, ev]; rw [vl_agree (x := s) h.left, vl_agree (x := x) h.right]
  | appk bytes s x => simp only [ev1, ev]; rw [vl_agree (x := s) h.left, vl_agree (x := x) h.right]
  | copy sz d s => simp only [ev1, ev]; rw [vl_agree (x := d) h.left, vl_agree (x := s) h.right]
  | mx x y => simp only [ev1, ev]; rw [vl_agree (x := x) h.left, vl_agree (x := y) h.right]
  | mn x y => simp only [ev1, ev]; rw [vl_agree (x := x) h.left, vl_agree (x := y) h.right]
  | call k f args => simp only [ev1]; rw [map_agree h]
  | callv k x args => simp only [ev1]; rw [vl_agree (x := x) h.left, map_agree h.right]
  | madec f args => simp only [ev1]; rw [map_agree h]
theorem foot_agree {op : ROp} (h : AgreeOn (ropT op) e e') : foot e op = foot e' op := by
  cases op with
  | load agg sz a => simp only [foot]; rw [vl_agree (x := a) h]
  | store sz a x => simp only [foot]; rw [vl_agree (x := a) h.left, vl_agree (x := x) h.right]
  | bslice sz xs => simp only [foot]; rw [map_agree h]
  | append sz bytes s x => simp only [foot]; rw [vl_agree (x := s) h.left, vl_agree (x := x) h.right]
  | appz sz bytes z s x => simp only [foot]; rw [vl_agree (x := s) h.left]
  | appk bytes s x => simp only [foot]; rw [vl_agree (x := s) h.left, vl_agree (x := x) h.right]
  | copy sz d s => simp only [foot]; rw [vl_agree (x := d) h.left, vl_agree (x := s) h.right]
  | slice sz x lo hi mx => simp only [foot]; rw [vl_agree (x := x) h.left.left.left]
  | indexA sz x i => simp only [foot]; rw [vl_agree (x := x) h.left]
  | call k f args => cases k <;> first | rfl | (simp only [foot]; rw [map_agree h])
  | callv k x args => cases k <;> first | rfl | (simp only [foot]; rw [vl_agree (x := x) h.left, map_agree h.right])
  | _ => rfl
def evV (run : Caller) (base : Nat) (o : LOp) (e : Env) (σ : Store) : Option (CV × Store) :=
  match o.g with
  | none => ev1 run base o.sl o.op e σ
  | some (t, want) =>
    match gt e t with
    | .p (.bool b) => if b = want then ev1 run base o.sl o.op e σ else some (.tup [], σ)
    | .tup [] => some (.tup [], σ)
    | _ => none
theorem evL_eq (o : LOp) : evL run base o e σ = (evV run base o e σ).map fun (v, σ) => (sto o.d v e, σ) := by
  unfold evL evV
  cases o.g with
  | none => rfl
  | some x =>
    obtain ⟨t, want⟩ := x
    simp only []
    cases gt e t with
    | p v =>
      cases v with
      | bool b =>
        simp only []
        by_cases hb : b = want
        · rw [if_pos hb, if_pos hb]
        · rw [if_neg hb, if_neg hb]; rfl
      | _ => rfl
    | tup cs => cases cs <;> rfl
    | _ => rfl
theorem evV_agree {o : LOp} (h : AgreeOn (lopT o) e e') : evV run base o e σ = evV run base o e' σ := by
  unfold evV
  unfold lopT at h
  split
  · exact ev1_agree h.left
  · rename_i t want hg
    rw [hg] at h
    rw [ev1_agree h.left, h.right t (by simp)]
def Quiet (f : Store → Option (CV × Store)) : Prop := ∀ (σ : Store) (v : CV) (σ1 : Store), f σ = some (v, σ1) → σ1 = σ ∧ ∀ σ', f σ' = some (v, σ')
theorem Quiet.of {f : Store → Option (CV × Store)} {c : Option CV} (h : ∀ σ, f σ = c.map fun v => (v, σ)) : Quiet f := by
  intro σ v σ1 hf
  rw [h, Option.map_eq_some_iff] at hf
  obtain ⟨u, hu, he⟩ := hf
  cases he
  exact ⟨rfl, fun σ' => by rw [h, hu]; rfl⟩
theorem quiet_pu {f : Nat} {args : List CV} : Quiet (fun σ => doCall run .pu f args σ) := by
  intro σ v σ1 h
  simp only [doCall] at h ⊢
  split at h
  · split at h
    · rw [Option.map_eq_some_iff] at h
      obtain ⟨u, hu, he⟩ := h
      cases he
      exact ⟨rfl, fun σ' => by rw [hu]; rfl⟩
    · cases h
  · cases h
theorem quiet_ev1 {op : ROp} (hc : cls op = 0) : Quiet (fun σ => ev1 run base sl op e σ) := by
  cases op with
  | alloc _ => simp [cls] at hc
  | box _ => simp [cls] at hc
  | mks _ _ _ _ _ _ => simp [cls] at hc
  | load _ _ _ => simp [cls] at hc
  | slice _ _ _ _ _ => simp [cls] at hc
  | indexA _ _ _ => simp [cls] at hc
  | store _ _ _ => simp [cls] at hc
  | bslice _ _ => simp [cls] at hc
  | append _ _ _ _ => simp [cls] at hc
  | bslk _ => simp [cls] at hc
  | madec _ _ => simp [cls] at hc
  | appk _ _ _ => simp [cls] at hc
  | appz _ _ _ _ _ => simp [cls] at hc
  | copy _ _ _ => simp [cls] at hc
  | mv x => exact Quiet.of (c := some (vl e x)) fun σ => rfl
  | mkfn f cap => exact Quiet.of (c := some (.fn f (cap.map (vl e)))) fun σ => rfl
  | build zs parts =>
    refine Quiet.of (c := (fill zs e parts).map mkAgg) fun σ => ?_
    simp only [ev1, ev]
    cases fill zs e parts <;> rfl
  | len x =>
    refine Quiet.of (c := (lenV (vl e x)).map fun (n : Nat) => i64 (n : Int)) fun σ => ?_
    simp only [ev1, ev]
    cases lenV (vl e x) <;> rfl
  | call k f args =>
    cases k with
    | pu => exact quiet_pu
    | fz => simp [cls] at hc
    | full => simp [cls] at hc
    | keep => simp [cls] at hc
    | cell => simp [cls] at hc
    | peek => simp [cls] at hc
  | callv k x args =>
    cases k with
    | pu =>
      simp only [ev1]
      cases hx : vl e x with
      | fn f cap => exact quiet_pu
      | _ => exact Quiet.of (c := none) fun σ => rfl
    | fz => simp [cls] at hc
    | full => simp [cls] at hc
    | keep => simp [cls] at hc
    | cell => simp [cls] at hc
    | peek => simp [cls] at hc
  | _ =>
    intro σ v σ1 h
    simp only [ev1, ev] at h ⊢
    repeat' split at h
    all_goals first
      | (cases h; done)
      | (cases h; exact ⟨rfl, fun _ => rfl⟩)
      | (rw [Option.map_eq_some_iff] at h
         obtain ⟨u, hu, he⟩ := h
         cases he
         refine ⟨rfl, fun _ => ?_⟩; simp only [*]; rfl)
      | (cases h; refine ⟨rfl, fun _ => ?_⟩; simp [*]; done)
      | (simp_all; done)
theorem quiet_evV {o : LOp} (hc : cls o.op = 0) : Quiet (fun σ => evV run base o e σ) := by
  unfold evV
  cases hg : o.g with
  | none => exact quiet_ev1 hc
  | some x =>
    obtain ⟨t, want⟩ := x
    simp only []
    split
    · split
      · exact quiet_ev1 hc
      · exact Quiet.of (c := some (.tup [])) fun σ => rfl
    · exact Quiet.of (c := some (.tup [])) fun σ => rfl
    · exact Quiet.of (c := none) fun σ => rfl
theorem local_evV {o : LOp} (hc : cls o.op ≠ 4) (hp : pushes o.op = true → o.sl.isSome = true) : ∃ s, Local (fun σ => evV run base o e σ) (foot e o.op) s := by
  unfold evV
  cases hg : o.g with
  | none => exact ⟨_, local_ev1 hc hp⟩
  | some x =>
    obtain ⟨t, want⟩ := x
    simp only []
    split
    · split
      · exact ⟨_, local_ev1 hc hp⟩
      · exact ⟨none, Local.pure (c := some (.tup [])) fun σ => rfl⟩
    · exact ⟨none, Local.pure (c := some (.tup [])) fun σ => rfl⟩
    · exact ⟨none, Local.pure (c := none) fun σ => rfl⟩
/-! ### two stores' worth of steps change places -/
def Apart (F H : Foot) : Prop :=
  (∀ b ∈ F.rd, b ∉ H.wr) ∧ (∀ b ∈ F.sz, b ∉ H.kl) ∧ (∀ b ∈ H.rd, b ∉ F.wr) ∧ (∀ b ∈ H.sz, b ∉ F.kl) ∧ (∀ b ∈ F.wr, b ∉ H.wr)
theorem swapS {f g : Store → Option (CV × Store)} {F H : Foot} {s t : Option Nat} (hf : Local f F s) (hg : Local g H t) (hap : Apart F H) {σ σ1 σ2 : Store} {v u : CV} (h1 : f σ = some (v, σ1)) (h2 : g σ1 = some (u, σ2))
    (hn : ∀ b, b ∈ H.rd ∨ b ∈ H.sz ∨ b ∈ H.wr → σ[b]? ≠ some Blk.hole) : ∃ σ1', g σ = some (u, σ1') ∧ f σ1' = some (v, σ2) := by
  obtain ⟨a1, a2, a3, a4, a5⟩ := hap
  obtain ⟨f1, f2, f3, f4, f5, f6⟩ := hf σ v σ1 h1
  obtain ⟨g1, g2, g3, g4, g5, g6⟩ := hg σ1 u σ2 h2
  have hsn : ∀ b, b ∈ H.rd ∨ b ∈ H.sz ∨ b ∈ H.wr → s ≠ some b := fun b hb hs => hn b hb (f5 b hs).1
  obtain ⟨τ, t1, t2, t3⟩ := g6 σ (by rw [f1]) (fun b hb => f3 b (g5 b hb).1)
    (fun b hb => .inr (f2 b (fun x => a3 b hb x) (hsn b (.inl hb))).symm)
    (fun b hb => .inr (f4 b (fun x => a4 b hb x) (hsn b (.inr (.inl hb)))).symm)
  obtain ⟨y1, y2, y3, y4, y5, y6⟩ := hg σ u τ t1
  obtain ⟨q, q1, q2, q3⟩ := f6 τ t2 (fun b hb => by
      rw [y2 b (fun hw => hsn b (.inr (.inr hw)) hb) (fun ht => (f5 b hb).2 (g5 b ht).1)]
      exact (f5 b hb).1)
    (fun b hb => by
      by_cases ht : t = some b
      · exact .inl (f3 b (g5 b ht).1)
      · exact .inr (y2 b (a1 b hb) ht))
    (fun b hb => by
      by_cases ht : t = some b
      · exact .inl (f3 b (g5 b ht).1)
      · exact .inr (y4 b (a2 b hb) ht))
  refine ⟨τ, t1, ?_⟩
  suffices q = σ2 by rw [q1, this]
  apply List.ext_getElem?
  intro b
  rcases t3 b with k1 | ⟨k1, k2⟩ <;> rcases q3 b with m1 | ⟨m1, m2⟩
  · by_cases hw : b ∈ H.wr
    · have e1 : σ1[b]? = σ[b]? := f2 b (fun x => a5 b x hw) (hsn b (.inr (.inr hw)))
      obtain ⟨z1, z2, _⟩ := hf τ v q q1
      rw [z2 b (fun x => a5 b x hw) (hsn b (.inr (.inr hw))), k1]
    · by_cases ht : t = some b
      · have h0 := (g5 b ht).1
        rw [h0] at m1
        obtain ⟨_, _, z3, _⟩ := hf τ v q q1
        exact absurd (z3 b m1) (y5 b ht).2
      · rw [m1, g2 b hw ht]
  · rw [m2, k1]
  · rw [m1, k1]
  · rw [m2, k2, k1, m1]
end
end Go.Proofs.Ytdpdnplljonppaa.Vpi

namespace Go.Proofs.Ytdpdnplljonppaa.Vpi
open Go
set_option linter.unusedVariables false
set_option linter.unusedSimpArgs false
def foot0 (op : ROp) : Bool := (foot [] op).rd.isEmpty && (foot [] op).sz.isEmpty && (foot [] op).wr.isEmpty
def refs (c : CV) : List Nat := ownsOf c ++ (addrs c ++ (capOf c).flatMap ownsOf)
theorem opd_q (q : CV → List Nat) {e : Env} {x : Opd} {b : Nat} (h : b ∈ q (vl e x)) : b ∈ q (vl [] x) ∨ ∃ t ∈ opdT x, b ∈ q (gt e t) := by
  cases x with
  | t n => exact .inr ⟨n, by simp [opdT], h⟩
  | c v => exact .inl h
theorem opds_q (q : CV → List Nat) {e : Env} {b : Nat} : ∀ {xs : List Opd}, b ∈ (xs.map (vl e)).flatMap q → b ∈ (xs.map (vl [])).flatMap q ∨ ∃ t ∈ xs.flatMap opdT, b ∈ q (gt e t)
  | [], h => by simp at h
  | x :: xs, h => by
    rw [List.map_cons, List.flatMap_cons] at h ⊢
    rw [List.flatMap_cons]
    rcases List.mem_append.1 h with h | h
    · rcases opd_q q h with h | ⟨t, h1, h2⟩
      · exact .inl (List.mem_append.2 (.inl h))
      · exact .inr ⟨t, List.mem_append.2 (.inl h1), h2⟩
    · rcases opds_q q h with h | ⟨t, h1, h2⟩
      · exact .inl (List.mem_append.2 (.inr h))
      · exact .inr ⟨t, List.mem_append.2 (.inr h1), h2⟩
theorem own_refs {c : CV} {b : Nat} (h : b ∈ ownsOf c) : b ∈ refs c := List.mem_append.2 (.inl h)
theorem addr_refs {c : CV} {b : Nat} (h : b ∈ addrs c) : b ∈ refs c := List.mem_append.2 (.inr (List.mem_append.2 (.inl h)))
theorem cap_refs {c : CV} {b : Nat} (h : b ∈ (capOf c).flatMap ownsOf) : b ∈ refs c := List.mem_append.2 (.inr (List.mem_append.2 (.inr h)))
theorem foot_refs {op : ROp} {e : Env} {b : Nat} (h0 : foot0 op = true) (h : b ∈ (foot e op).rd ∨ b ∈ (foot e op).sz ∨ b ∈ (foot e op).wr) : ∃ t ∈ ropT op, b ∈ refs (gt e t) := by
  simp only [foot0, Bool.and_eq_true, List.isEmpty_iff] at h0
  obtain ⟨⟨z1, z2⟩, z3⟩ := h0
  have no1 : ∀ {p : Prop}, b ∈ (foot [] op).rd → p := fun h => by rw [z1] at h; cases h
  have no2 : ∀ {p : Prop}, b ∈ (foot [] op).sz → p := fun h => by rw [z2] at h; cases h
  have no3 : ∀ {p : Prop}, b ∈ (foot [] op).wr → p := fun h => by rw [z3] at h; cases h
  have L : ∀ {x y : List Nat}, b ∈ x → b ∈ x ++ y := fun h => List.mem_append.2 (.inl h)
  have R : ∀ {x y : List Nat}, b ∈ y → b ∈ x ++ y := fun h => List.mem_append.2 (.inr h)
  cases op with
  | load agg sz a =>
    simp only [foot, ropT, List.not_mem_nil, or_false] at h no1 no2 no3 ⊢
    rcases opd_q addrs h with h | ⟨t, h1, h2⟩
    · exact no1 h
    · exact ⟨t, h1, addr_refs h2⟩
  | store sz a x =>
    simp only [foot, ropT, List.not_mem_nil, false_or, or_self] at h no1 no2 no3 ⊢
    rcases List.mem_append.1 h with h | h
    · rcases opd_q addrs h with h | ⟨t, h1, h2⟩
      · exact no1 (L h)
      · exact ⟨t, List.mem_append.2 (.inl h1), addr_refs h2⟩
    · rcases opd_q ownsOf h with h | ⟨t, h1, h2⟩
      · exact no1 (R h)
      · exact ⟨t, List.mem_append.2 (.inr h1), own_refs h2⟩
  | bslice sz xs =>
    simp only [foot, ropT, List.not_mem_nil, false_or, or_self] at h no1 no2 no3 ⊢
    rcases opds_q ownsOf h with h | ⟨t, h1, h2⟩
    · exact no1 h
    · exact ⟨t, h1, own_refs h2⟩
  | append sz bytes s x =>
    simp only [foot, ropT, List.not_mem_nil, false_or] at h no1 no2 no3 ⊢
    have h : b ∈ ownsOf (vl e s) ++ ownsOf (vl e x) := h.elim id L
    rcases List.mem_append.1 h with h | h
    · rcases opd_q ownsOf h with h | ⟨t, h1, h2⟩
      · exact no1 (L h)
      · exact ⟨t, List.mem_append.2 (.inl h1), own_refs h2⟩
    · rcases opd_q ownsOf h with h | ⟨t, h1, h2⟩
      · exact no1 (R h)
      · exact ⟨t, List.mem_append.2 (.inr h1), own_refs h2⟩
  | appz sz bytes z s x =>
    simp only [foot, ropT, List.not_mem_nil, false_or, or_self] at h no1 no2 no3 ⊢
    rcases opd_q ownsOf h with h | ⟨t, h1, h2⟩
    · exact no1 h
    · exact ⟨t, List.mem_append.2 (.inl h1), own_refs h2⟩
  | appk bytes s x =>
    simp only [foot, ropT, List.not_mem_nil, false_or] at h no1 no2 no3 ⊢
    have h : b ∈ ownsOf (vl e s) ++ ownsOf (vl e x) := h.elim id L
    rcases List.mem_append.1 h with h | h
    · rcases opd_q ownsOf h with h | ⟨t, h1, h2⟩
      · exact no1 (L h)
      · exact ⟨t, List.mem_append.2 (.inl h1), own_refs h2⟩
    · rcases opd_q ownsOf h with h | ⟨t, h1, h2⟩
      · exact no1 (R h)
      · exact ⟨t, List.mem_append.2 (.inr h1), own_refs h2⟩
  | copy sz d s =>
    simp only [foot, ropT, List.not_mem_nil, false_or] at h no1 no2 no3 ⊢
    have h : b ∈ ownsOf (vl e d) ++ ownsOf (vl e s) := h.elim id L
    rcases List.mem_append.1 h with h | h
    · rcases opd_q ownsOf h with h | ⟨t, h1, h2⟩
      · exact no1 (L h)
      · exact ⟨t, List.mem_append.2 (.inl h1), own_refs h2⟩
    · rcases opd_q ownsOf h with h | ⟨t, h1, h2⟩
      · exact no1 (R h)
      · exact ⟨t, List.mem_append.2 (.inr h1), own_refs h2⟩
  | slice sz x lo hi mx =>
    simp only [foot, ropT, List.not_mem_nil, false_or, or_false] at h no1 no2 no3 ⊢
    rcases opd_q ownsOf h with h | ⟨t, h1, h2⟩
    · exact no2 h
    · exact ⟨t, List.mem_append.2 (.inl (List.mem_append.2 (.inl (List.mem_append.2 (.inl h1))))), own_refs h2⟩
  | indexA sz x i =>
    simp only [foot, ropT, List.not_mem_nil, false_or, or_false] at h no1 no2 no3 ⊢
    rcases opd_q ownsOf h with h | ⟨t, h1, h2⟩
    · exact no2 h
    · exact ⟨t, List.mem_append.2 (.inl h1), own_refs h2⟩
  | call k f args =>
    cases k with
    | fz =>
      simp only [foot, ropT, List.not_mem_nil, false_or, or_self] at h no1 no2 no3 ⊢
      rcases opds_q ownsOf h with h | ⟨t, h1, h2⟩
      · exact no1 h
      · exact ⟨t, h1, own_refs h2⟩
    | peek =>
      simp only [foot, ropT, List.not_mem_nil, false_or, or_false] at h no1 no2 no3 ⊢
      rcases opds_q ownsOf h with h | ⟨t, h1, h2⟩
      · exact no1 h
      · exact ⟨t, h1, own_refs h2⟩
    | cell =>
      simp only [foot, ropT, List.not_mem_nil, false_or, or_self] at h no1 no2 no3 ⊢
      rcases opds_q addrs h with h | ⟨t, h1, h2⟩
      · exact no1 h
      · exact ⟨t, h1, addr_refs h2⟩
    | _ => simp [foot] at h
  | callv k x args =>
    cases k with
    | fz =>
      simp only [foot, ropT, List.not_mem_nil, false_or, or_self, List.flatMap_append] at h no1 no2 no3 ⊢
      rcases List.mem_append.1 h with h | h
      · rcases opds_q ownsOf h with h | ⟨t, h1, h2⟩
        · exact no1 (L h)
        · exact ⟨t, List.mem_append.2 (.inr h1), own_refs h2⟩
      · rcases opd_q (fun c => (capOf c).flatMap ownsOf) h with h | ⟨t, h1, h2⟩
        · exact no1 (R h)
        · exact ⟨t, List.mem_append.2 (.inl h1), cap_refs h2⟩
    | _ => simp [foot] at h
  | _ => simp [foot] at h
section
variable {w : World} {G : Nat → Prop} {ρ : List Loc} {σ : Store}
theorem St.noHole {b : Nat} {l : Loc} (hs : St w G ρ σ) (h : ρ[b]? = some l) (hl : l ≠ .hole) : σ[b]? ≠ some Blk.hole := by
  intro h1
  have := hs.ok b l .hole h h1
  cases l <;> first | exact this | exact hl rfl
theorem own_noHole {c : CV} {v : Value} {b : Nat} (hs : St w G ρ σ) (hr : RepC w G ρ c v) (hb : b ∈ own0 c) : σ[b]? ≠ some Blk.hole := by
  cases c with
  | own b' off n =>
    simp only [own0, List.mem_singleton] at hb
    subst hb
    obtain ⟨ad, cap, _, _, ho⟩ := rep_own hr
    unfold OwnOk at ho
    cases hl : ρ[b]? with
    | none => rw [hl] at ho; exact ho.elim
    | some l => exact hs.noHole hl (by rintro rfl; rw [hl] at ho; exact ho)
  | _ => simp [own0] at hb
theorem owns_noHole {c : CV} {v : Value} {b : Nat} (hs : St w G ρ σ) (hr : RepC w G ρ c v) (hb : b ∈ ownsOf c) : σ[b]? ≠ some Blk.hole := by
  cases c with
  | agg cs =>
    obtain ⟨vs, _, hl, hk, _⟩ := rep_agg hr
    simp only [ownsOf, List.mem_flatMap] at hb
    obtain ⟨c, hc, hb⟩ := hb
    obtain ⟨k, hk1⟩ := List.mem_iff_getElem?.1 hc
    have hkl : k < vs.length := by rw [← hl]; exact get_lt hk1
    exact own_noHole hs (hk k c vs[k] hk1 (by simp)) hb
  | _ => exact own_noHole hs hr hb
theorem refs_noHole {c : CV} {v : Value} {b : Nat} (hs : St w G ρ σ) (hr : RepC w G ρ c v) (hb : b ∈ refs c) : σ[b]? ≠ some Blk.hole := by
  rcases List.mem_append.1 hb with hb | hb
  · exact owns_noHole hs hr hb
  · rcases List.mem_append.1 hb with hb | hb
    · cases c with
      | ptr b' i off =>
        simp only [addrs, List.mem_singleton] at hb
        subst hb
        obtain ⟨ad, _, ho⟩ := rep_ptr hr
        unfold PtrOk at ho
        cases hl : ρ[b]? with
        | none => rw [hl] at ho; exact ho.elim
        | some l => exact hs.noHole hl (by rintro rfl; rw [hl] at ho; exact ho)
      | _ => simp [addrs] at hb
    · cases c with
      | fn f cap =>
        obtain ⟨vs, _, hl, hk⟩ := rep_fn hr
        simp only [capOf, List.mem_flatMap] at hb
        obtain ⟨c, hc, hb⟩ := hb
        obtain ⟨k, hk1⟩ := List.mem_iff_getElem?.1 hc
        have hkl : k < vs.length := by rw [← hl]; exact get_lt hk1
        exact owns_noHole hs (hk k c vs[k] hk1 (by simp)) hb
      | _ => simp [capOf] at hb
theorem St.holes (hs : St w G ρ σ) (h : Nat) : St w G (ρ ++ List.replicate h .hole) (σ ++ List.replicate h .hole) := by
  have key : ∀ (i : Nat) l, (ρ ++ List.replicate h Loc.hole)[i]? = some l → (ρ[i]? = some l) ∨ (ρ.length ≤ i ∧ l = .hole) := by
    intro i l hi
    rcases Nat.lt_or_ge i ρ.length with h1 | h1
    · rw [List.getElem?_append_left h1] at hi; exact .inl hi
    · rw [List.getElem?_append_right h1, List.getElem?_replicate] at hi
      split at hi
      · cases hi; exact .inr ⟨h1, rfl⟩
      · cases hi
  have loc : LocExt ρ (ρ ++ List.replicate h .hole) := fun i l hl => .inl (by rw [List.getElem?_append_left (get_lt hl)]; exact hl)
  refine ⟨hs.g, by simp [hs.len], ?_, ?_⟩
  · intro i j k o t s o' t' s' hi hj
    rcases key i _ hi with hi | ⟨_, hi⟩
    · rcases key j _ hj with hj | ⟨_, hj⟩
      · exact hs.inj i j k o t s o' t' s' hi hj
      · cases hj
    · cases hi
  · intro i l b hi hb
    rcases key i _ hi with hi' | ⟨h1, rfl⟩
    · rw [List.getElem?_append_left (by rw [← hs.len]; exact get_lt hi')] at hb
      exact BlkOk.mono (fun _ _ => rfl) (fun _ x => x) loc (fun _ _ _ _ _ => ⟨rfl, id⟩) (hs.ok i l b hi' hb)
    · rw [List.getElem?_append_right (by rw [← hs.len]; exact h1), List.getElem?_replicate] at hb
      split at hb
      · cases hb; trivial
      · cases hb
end
end Go.Proofs.Ytdpdnplljonppaa.Vpi

namespace Go.Proofs.Ytdpdnplljonppaa.Vpi
open Go
set_option linter.unusedVariables false
set_option linter.unusedSimpArgs false
def indep (x y : LOp) : Bool :=
  (match x.d with | some d => !(lopT y).elem d && (match y.d with | some d' => d != d' | none => true) | none => true) &&
  (match y.d with | some d => !(lopT x).elem d | none => true)
def pairS (x y : ROp) : Bool :=
  cls x == 0 || cls y == 0 || (decide (cls x ≤ 2) && decide (cls y ≤ 2)) || (cls x == 1 && cls y != 4) || (cls y == 1 && cls x != 4)
instance : Inhabited LOp := ⟨⟨none, none, none, .alloc []⟩⟩
def at' (L : List LOp) (i : Nat) : LOp := L.getD i default
def EnvEq (e e' : Env) : Prop := ∀ n, gt e n = gt e' n
theorem EnvEq.agree {e e' : Env} (h : EnvEq e e') (l : List Nat) : AgreeOn l e e' := fun t _ => h t
theorem gt_sto (d : Option Nat) (v : CV) (e : Env) (n : Nat) : gt (sto d v e) n = if d = some n then v else gt e n := by
  cases d with
  | none => simp [sto]
  | some d =>
    simp only [sto]
    rw [gt_st]
    by_cases h : n = d
    · subst h; simp
    · rw [if_neg h, if_neg (by rintro ⟨⟩; exact h rfl)]
theorem EnvEq.sto {e e' : Env} (h : EnvEq e e') (d : Option Nat) (v : CV) : EnvEq (sto d v e) (sto d v e') := by
  intro n; rw [gt_sto, gt_sto, h n]
section
variable {run : Caller} {base : Nat} {e e' : Env} {σ : Store}
theorem evL_env {o : LOp} (h : EnvEq e e') {e1 : Env} {σ1 : Store} (hr : evL run base o e σ = some (e1, σ1)) : ∃ e1', evL run base o e' σ = some (e1', σ1) ∧ EnvEq e1 e1' := by
  rw [evL_eq, Option.map_eq_some_iff] at hr
  obtain ⟨⟨v, τ⟩, hv, he⟩ := hr
  cases he
  rw [evV_agree (h.agree _)] at hv
  exact ⟨sto o.d v e', by rw [evL_eq, hv]; rfl, h.sto _ _⟩
theorem runO_env : ∀ {l : List LOp} {e e' : Env} {σ : Store} {e1 : Env} {σ1 : Store}, EnvEq e e' → runO run base l e σ = some (e1, σ1) → ∃ e1', runO run base l e' σ = some (e1', σ1) ∧ EnvEq e1 e1'
  | [], e, e', σ, e1, σ1, h, hr => by
    simp only [runO] at hr
    cases hr
    exact ⟨e', rfl, h⟩
  | o :: l, e, e', σ, e1, σ1, h, hr => by
    simp only [runO] at hr
    split at hr
    · rename_i e2 σ2 hev
      obtain ⟨e2', h1, h2⟩ := evL_env h hev
      obtain ⟨e1', h3, h4⟩ := runO_env h2 hr
      exact ⟨e1', by simp only [runO, h1]; exact h3, h4⟩
    · cases hr
theorem evL_sto {o : LOp} {e1 : Env} {σ1 : Store} (hr : evL run base o e σ = some (e1, σ1)) : ∃ v, evV run base o e σ = some (v, σ1) ∧ e1 = sto o.d v e := by
  rw [evL_eq, Option.map_eq_some_iff] at hr
  obtain ⟨⟨v, τ⟩, hv, he⟩ := hr
  cases he
  exact ⟨v, hv, rfl⟩
theorem runO_gt : ∀ {l : List LOp} {e : Env} {σ : Store} {e1 : Env} {σ1 : Store} {n : Nat}, runO run base l e σ = some (e1, σ1) → (∀ o ∈ l, o.d ≠ some n) → gt e1 n = gt e n
  | [], e, σ, e1, σ1, n, hr, _ => by simp only [runO] at hr; cases hr; rfl
  | o :: l, e, σ, e1, σ1, n, hr, h => by
    simp only [runO] at hr
    split at hr
    · rename_i e2 σ2 hev
      obtain ⟨v, _, rfl⟩ := evL_sto hev
      rw [runO_gt hr (fun o ho => h o (by simp [ho])), gt_sto, if_neg (h o (by simp))]
    · cases hr
def Compat (x y : LOp) (e : Env) : Prop :=
  cls x.op = 0 ∨ cls y.op = 0 ∨ (cls x.op ≠ 4 ∧ cls y.op ≠ 4 ∧ Apart (foot e x.op) (foot e y.op))
theorem foot_cls {op : ROp} (h : cls op ≤ 2) : (foot e op).wr = [] ∧ (foot e op).kl = [] := by
  cases op with
  | call k f args => cases k <;> first | exact ⟨rfl, rfl⟩ | (simp [cls] at h)
  | callv k x args => cases k <;> first | exact ⟨rfl, rfl⟩ | (simp [cls] at h)
  | store _ _ _ => simp [cls] at h
  | bslice _ _ => simp [cls] at h
  | append _ _ _ _ => simp [cls] at h
  | appk _ _ _ => simp [cls] at h
  | appz _ _ _ _ _ => simp [cls] at h
  | copy _ _ _ => simp [cls] at h
  | _ => exact ⟨rfl, rfl⟩
theorem foot_cls1 {op : ROp} (h : cls op ≤ 1) : foot e op = ⟨[], [], [], []⟩ := by
  cases op with
  | call k f args => cases k <;> first | rfl | (simp [cls] at h)
  | callv k x args => cases k <;> first | rfl | (simp [cls] at h)
  | store _ _ _ => simp [cls] at h
  | bslice _ _ => simp [cls] at h
  | append _ _ _ _ => simp [cls] at h
  | appk _ _ _ => simp [cls] at h
  | appz _ _ _ _ _ => simp [cls] at h
  | copy _ _ _ => simp [cls] at h
  | load _ _ _ => simp [cls] at h
  | slice _ _ _ _ _ => simp [cls] at h
  | indexA _ _ _ => simp [cls] at h
  | _ => rfl
theorem Compat.ofS {x y : LOp} (h : pairS x.op y.op = true) : Compat x y e := by
  simp only [pairS, Bool.or_eq_true, Bool.and_eq_true, beq_iff_eq, decide_eq_true_eq, bne_iff_ne, ne_eq] at h
  rcases h with (((h | h) | ⟨h1, h2⟩) | ⟨h1, h2⟩) | ⟨h1, h2⟩
  · exact .inl h
  · exact .inr (.inl h)
  · obtain ⟨x1, x2⟩ := foot_cls (e := e) h1
    obtain ⟨y1, y2⟩ := foot_cls (e := e) h2
    exact .inr (.inr ⟨by omega, by omega, by simp [y1], by simp [y2], by simp [x1], by simp [x2], by simp [x1]⟩)
  · have := foot_cls1 (e := e) (op := x.op) (by omega)
    exact .inr (.inr ⟨by omega, h2, by simp [Apart, this]⟩)
  · have := foot_cls1 (e := e) (op := y.op) (by omega)
    exact .inr (.inr ⟨h2, by omega, by simp [Apart, this]⟩)
theorem apartB_spec {F H : Foot} (h : apartB F H = true) : Apart F H := by
  simp only [apartB, Bool.and_eq_true, List.all_eq_true, Bool.not_eq_true'] at h
  obtain ⟨⟨⟨⟨h1, h2⟩, h3⟩, h4⟩, h5⟩ := h
  have k : ∀ {l : List Nat} {b : Nat}, l.elem b = false → b ∉ l := by intro l b h hm; rw [List.elem_eq_contains, ← Bool.not_eq_true, List.contains_iff_mem] at h; exact h hm
  exact ⟨fun b hb => k (h1 b hb), fun b hb => k (h2 b hb), fun b hb => k (h3 b hb), fun b hb => k (h4 b hb), fun b hb => k (h5 b hb)⟩
theorem indep_spec {x y : LOp} (h : indep x y = true) : (∀ d, x.d = some d → d ∉ lopT y) ∧ (∀ d, y.d = some d → d ∉ lopT x) ∧ (∀ d, x.d = some d → y.d ≠ some d) := by
  simp only [indep, Bool.and_eq_true] at h
  have k : ∀ {l : List Nat} {b : Nat}, l.elem b = false → b ∉ l := by intro l b h hm; rw [List.elem_eq_contains, ← Bool.not_eq_true, List.contains_iff_mem] at h; exact h hm
  obtain ⟨h1, h2⟩ := h
  refine ⟨?_, ?_, ?_⟩
  · intro d hd
    rw [hd] at h1
    simp only [Bool.and_eq_true, Bool.not_eq_true'] at h1
    exact k h1.1
  · intro d hd
    rw [hd] at h2
    simp only [Bool.not_eq_true'] at h2
    exact k h2
  · intro d hd hy
    rw [hd, hy] at h1
    simp at h1
theorem swapL {x y : LOp} {e1 e2 : Env} {σ1 σ2 : Store} (hx : evL run base x e σ = some (e1, σ1)) (hy : evL run base y e1 σ1 = some (e2, σ2)) (hi : indep x y = true) (hc : Compat x y e)
    (px : pushes x.op = true → x.sl.isSome = true) (py : pushes y.op = true → y.sl.isSome = true)
    (hn : ∀ b, b ∈ (foot e y.op).rd ∨ b ∈ (foot e y.op).sz ∨ b ∈ (foot e y.op).wr → σ[b]? ≠ some Blk.hole) :
    ∃ e1' σ1' e2', evL run base y e σ = some (e1', σ1') ∧ evL run base x e1' σ1' = some (e2', σ2) ∧ EnvEq e2' e2 := by
  obtain ⟨i1, i2, i3⟩ := indep_spec hi
  obtain ⟨v, hv, rfl⟩ := evL_sto hx
  obtain ⟨u, hu, rfl⟩ := evL_sto hy
  have ey : AgreeOn (lopT y) (sto x.d v e) e := by
    intro t ht
    rw [gt_sto, if_neg]
    intro h; exact i1 t h ht
  have ex : AgreeOn (lopT x) (sto y.d u e) e := by
    intro t ht
    rw [gt_sto, if_neg]
    intro h; exact i2 t h ht
  rw [evV_agree ey] at hu
  have key : ∃ τ, evV run base y e σ = some (u, τ) ∧ evV run base x e τ = some (v, σ2) := by
    rcases hc with h | h | ⟨h1, h2, h3⟩
    · obtain ⟨rfl, q⟩ := quiet_evV (run := run) (base := base) (e := e) h σ v σ1 hv
      exact ⟨σ2, hu, q σ2⟩
    · obtain ⟨rfl, q⟩ := quiet_evV (run := run) (base := base) (e := e) h σ1 u σ2 hu
      exact ⟨σ, q σ, hv⟩
    · obtain ⟨s, hs⟩ := local_evV (run := run) (base := base) (e := e) h1 px
      obtain ⟨t, ht⟩ := local_evV (run := run) (base := base) (e := e) h2 py
      exact swapS hs ht h3 hv hu hn
  obtain ⟨τ, k1, k2⟩ := key
  refine ⟨sto y.d u e, τ, sto x.d v (sto y.d u e), by rw [evL_eq, k1]; rfl, by rw [evL_eq, evV_agree ex, k2]; rfl, ?_⟩
  intro n
  simp only [gt_sto]
  by_cases hd : x.d = some n
  · rw [if_pos hd, if_neg (i3 n hd), if_pos hd]
  · rw [if_neg hd, if_neg hd]
theorem takeFront {L : List LOp} {i : Nat} {post : List Nat} {ef : Env} {σf : Store} (pi : pushes (at' L i).op = true → (at' L i).sl.isSome = true) :
    ∀ (pre : List Nat) (e : Env) (σ : Store) (eg : Env), runO run base ((pre ++ i :: post).map (at' L)) e σ = some (eg, σf) → EnvEq eg ef →
      (∀ j ∈ pre, indep (at' L j) (at' L i) = true ∧ (pushes (at' L j).op = true → (at' L j).sl.isSome = true)) →
      (∀ pre1 j pre2, pre = pre1 ++ j :: pre2 → pairS (at' L j).op (at' L i).op = true ∨
        (cls (at' L j).op ≠ 4 ∧ cls (at' L i).op ≠ 4 ∧ Apart (foot ef (at' L j).op) (foot ef (at' L i).op) ∧ ∀ k ∈ j :: pre2 ++ i :: post, ∀ d, (at' L k).d = some d → d ∉ ropT (at' L j).op ∧ d ∉ ropT (at' L i).op)) →
      (∀ b, b ∈ (foot e (at' L i).op).rd ∨ b ∈ (foot e (at' L i).op).sz ∨ b ∈ (foot e (at' L i).op).wr → σ[b]? ≠ some Blk.hole) →
      ∃ eg', runO run base ((i :: pre ++ post).map (at' L)) e σ = some (eg', σf) ∧ EnvEq eg' ef
  | [], e, σ, eg, hr, he, _, _, _ => ⟨eg, hr, he⟩
  | j :: pre, e, σ, eg, hr, he, hind, hcomp, hn => by
    have hr0 := hr
    rw [List.cons_append, List.map_cons] at hr
    simp only [runO] at hr
    split at hr
    · rename_i e1 σ1 hev
      obtain ⟨hij, hpj⟩ := hind j (by simp)
      obtain ⟨v, hv, he1⟩ := evL_sto hev
      have hcj : Compat (at' L j) (at' L i) e := by
        rcases hcomp [] j pre rfl with h | ⟨h1, h2, h3, h4⟩
        · exact Compat.ofS h
        · have ag : ∀ (o : ROp), (∀ k ∈ j :: pre ++ i :: post, ∀ d, (at' L k).d = some d → d ∉ ropT o) → AgreeOn (ropT o) e ef := by
            intro o ho t ht
            rw [← he t]
            symm
            refine runO_gt hr0 ?_
            intro x hx hd
            obtain ⟨k, hk, rfl⟩ := List.mem_map.1 hx
            exact ho k hk t hd ht
          rw [← foot_agree (ag _ fun k hk d hd => (h4 k hk d hd).1), ← foot_agree (ag _ fun k hk d hd => (h4 k hk d hd).2)] at h3
          exact .inr (.inr ⟨h1, h2, h3⟩)
      have hfe : foot e1 (at' L i).op = foot e (at' L i).op := by
        refine foot_agree fun t ht => ?_
        rw [he1, gt_sto, if_neg]
        intro hd
        exact (indep_spec hij).1 t hd (List.mem_append.2 (.inl ht))
      have hn1 : ∀ b, b ∈ (foot e1 (at' L i).op).rd ∨ b ∈ (foot e1 (at' L i).op).sz ∨ b ∈ (foot e1 (at' L i).op).wr → σ1[b]? ≠ some Blk.hole := by
        rw [hfe]
        intro b hb
        rcases hcj with h | h | ⟨h, _, _⟩
        · obtain ⟨rfl, _⟩ := quiet_evV (run := run) (base := base) (e := e) h σ v σ1 hv
          exact hn b hb
        · rw [foot_cls1 (by omega)] at hb
          simp at hb
        · obtain ⟨s, hs⟩ := local_evV (run := run) (base := base) (e := e) h hpj
          intro hh
          exact hn b hb ((hs σ v σ1 hv).2.2.1 b hh)
      obtain ⟨eg1, hr1, he2⟩ := takeFront pi pre e1 σ1 eg hr he (fun k hk => hind k (by simp [hk])) (fun p1 k p2 hp => hcomp (j :: p1) k p2 (by rw [hp]; rfl)) hn1
      rw [List.cons_append, List.map_cons] at hr1
      simp only [runO] at hr1
      split at hr1
      · rename_i e2 σ2 hev2
        obtain ⟨e1', σ1', e2', k1, k2, k3⟩ := swapL hev hev2 hij hcj hpj pi hn
        obtain ⟨eg2, k4, k5⟩ := runO_env (fun n => (k3 n).symm) hr1
        refine ⟨eg2, ?_, fun n => (k5 n).symm.trans (he2 n)⟩
        rw [List.cons_append, List.map_cons, List.cons_append, List.map_cons]
        simp only [runO, k1, k2]
        exact k4
      · cases hr1
    · cases hr
end
end Go.Proofs.Ytdpdnplljonppaa.Vpi

namespace Go.Proofs.Ytdpdnplljonppaa.Vpi
open Go
set_option linter.unusedVariables false
set_option linter.unusedSimpArgs false
def depsOf (o : Oper) : List Nat := (o.after.toList.filter fun e => Region.binds .any e).map (·.on)
def addAll : List Nat → List Nat → List Nat
  | [], acc => acc
  | x :: l, acc => if acc.elem x then addAll l acc else addAll l (x :: acc)
def cloGo : List (List Nat) → List (List Nat) → List (List Nat)
  | acc, [] => acc
  | acc, ds :: rest => cloGo (acc ++ [ds.foldl (fun a k => addAll (acc.getD k []) (addAll [k] a)) []]) rest
def cloOk (deps tab : List (List Nat)) : Bool :=
  (List.range deps.length).all fun i => (deps.getD i []).all (fun j => decide (j < i)) &&
    (tab.getD i []).all fun j => (deps.getD i []).elem j || (deps.getD i []).any fun k => (tab.getD k []).elem j
def stable (L : List LOp) (ci : List Nat) (j i : Nat) : Bool :=
  (List.range L.length).all fun k => decide (k < j) || (match (at' L k).d with | some d => !(ropT (at' L j).op).elem d && (ci.elem k || !(ropT (at' L i).op).elem d) | none => true)
def pairOk (L : List LOp) (xp : List (Nat × Nat)) (ci : List Nat) (j i : Nat) : Bool :=
  ci.elem j || (indep (at' L j) (at' L i) && (pairS (at' L j).op (at' L i).op || (cls (at' L j).op != 4 && cls (at' L i).op != 4 && xp.any (fun p => p.1 == j && p.2 == i) && stable L ci j i)))
def drawL (L : List LOp) (xp : List (Nat × Nat)) (deps tab : List (List Nat)) : Bool :=
  deps.length == L.length && cloOk deps tab && L.all (fun o => (!pushes o.op || o.sl.isSome) && foot0 o.op) &&
  (List.range L.length).all fun i => (List.range i).all fun j => pairOk L xp (tab.getD i []) j i
def drawOk (ops : Array Oper) (L : List LOp) (xp : List (Nat × Nat)) : Bool := drawL L xp (ops.toList.map depsOf) (cloGo [] (ops.toList.map depsOf))
section
variable {P : Program} {ops : Array Oper} {Q : Exit → Act → World → Prop} {run : Caller} {base n : Nat} {rd : Option Nat} {mm : Nat} {L : List LOp} {xp : List (Nat × Nat)} {tab : List (List Nat)}
theorem elem_mem {l : List Nat} {b : Nat} : l.elem b = true ↔ b ∈ l := by rw [List.elem_eq_contains, List.contains_iff_mem]
theorem elem_not {l : List Nat} {b : Nat} : (!l.elem b) = true ↔ b ∉ l := by rw [Bool.not_eq_true', ← Bool.not_eq_true, elem_mem]
theorem wpAny_sim {ef : Env} {σf : Store} (hc : CallSim P run) (hok : okL P ops n ops.toList L = true) (hd : drawL L xp (ops.toList.map depsOf) tab = true) (hxp : xp.all (apartAt ef L) = true) :
    ∀ (fuel : Nat) (listed : Array Bool) (rest : List Nat) (e : Env) (σ : Store) (w : World) (G : Nat → Prop) (ρ : List Loc) (a : Act) (eg : Env),
      listed.size = ops.size → rest = (List.range ops.size).filter (fun i => !listed.getD i true) → rest.length ≤ fuel →
      (∀ k, k < ops.size → listed.getD k false = true → ∀ j ∈ tab.getD k [], listed.getD j false = true) →
      St w G ρ σ → RepE w G ρ e a.tmps → n ≤ a.tmps.size → runO run base (rest.map (at' L)) e σ = some (eg, σf) → EnvEq eg ef → After (fun _ => False) w G ρ a ef σf (fun a w => Q .normal a w) →
      wpAnyIn (Fr rd) mm P .any ops Q fuel listed a w := by
  obtain ⟨hlen, hget⟩ := okL_get hok
  simp only [Array.length_toList] at hlen
  simp only [drawL, Bool.and_eq_true, List.all_eq_true, List.mem_range, cloOk, Bool.or_eq_true, Bool.not_eq_true', beq_iff_eq, decide_eq_true_eq, List.any_eq_true, elem_mem] at hd
  obtain ⟨⟨⟨_, hclo⟩, hslot⟩, hpair⟩ := hd
  have hatL : ∀ i, i < ops.size → L[i]? = some (at' L i) := by
    intro i hi
    rw [hlen] at hi
    simp [at', List.getD_eq_getElem?_getD, hi]
  have hdeps : ∀ i o, ops[i]? = some o → (ops.toList.map depsOf).getD i [] = depsOf o := by
    intro i o ho
    simp [List.getD_eq_getElem?_getD, ho]
  intro fuel
  induction fuel with
  | zero =>
    intro listed rest e σ w G ρ a eg hsz hrest hfuel hdown hs he hn hr hee hK
    have hnil : rest = [] := List.length_eq_zero_iff.1 (by omega)
    rw [hnil] at hr
    simp only [List.map_nil, runO] at hr
    cases hr
    refine ⟨?_, hK a w G ρ hs Ext.refl (fun k => by rw [← hee k]; exact he k) rfl rfl (fun _ (h : False) => h.elim)⟩
    rw [List.eq_nil_iff_forall_not_mem]
    intro i hi
    obtain ⟨h0, o, ho, _⟩ := mem_ready.1 hi
    have : i ∈ rest := by rw [hrest, List.mem_filter, List.mem_range]; exact ⟨aget_lt ho, by rw [h0]; rfl⟩
    rw [hnil] at this
    cases this
  | succ fuel ih =>
    intro listed rest e σ w G ρ a eg hsz hrest hfuel hdown hs he hn hr hee hK
    have gd : ∀ k, k < ops.size → listed.getD k true = listed.getD k false := by
      intro k hk
      have : k < listed.size := by omega
      simp [this]
    have hmem : ∀ k, k ∈ rest ↔ k < ops.size ∧ listed.getD k false = false := by
      intro k
      rw [hrest, List.mem_filter, List.mem_range]
      constructor
      · rintro ⟨h1, h2⟩; rw [gd k h1] at h2; exact ⟨h1, by simpa using h2⟩
      · rintro ⟨h1, h2⟩; rw [gd k h1, h2]; exact ⟨h1, rfl⟩
    refine ⟨?_, ?_⟩
    · intro hready
      have hnil : rest = [] := by
        rw [List.eq_nil_iff_forall_not_mem]
        intro i
        induction i using Nat.strongRecOn with
        | ind i ihi =>
          intro hi
          obtain ⟨h1, h2⟩ := (hmem i).1 hi
          have : i ∈ Region.ready .any ops listed := by
            refine mem_ready.2 ⟨by rw [gd i h1]; exact h2, ops[i], by simp, ?_⟩
            intro ed hed hb
            have hin : ed.on ∈ depsOf ops[i] := List.mem_map.2 ⟨ed, List.mem_filter.2 ⟨by simpa using hed, hb⟩, rfl⟩
            have hlt := (hclo i (by simpa using h1)).1 ed.on (by rw [hdeps i ops[i] (by simp)]; exact hin)
            have hno := ihi ed.on hlt
            cases hv : listed.getD ed.on false with
            | true => rfl
            | false => exact absurd ((hmem ed.on).2 ⟨by omega, hv⟩) hno
          rw [hready] at this
          cases this
      rw [hnil] at hr
      simp only [List.map_nil, runO] at hr
      cases hr
      exact hK a w G ρ hs Ext.refl (fun k => by rw [← hee k]; exact he k) rfl rfl (fun _ (h : False) => h.elim)
    · intro i hi
      obtain ⟨h0, o, ho, hafter⟩ := mem_ready.1 hi
      have hilt := aget_lt ho
      have himem : i ∈ rest := (hmem i).2 ⟨hilt, by rw [← gd i hilt]; exact h0⟩
      have hclosed : ∀ j ∈ tab.getD i [], listed.getD j false = true := by
        intro j hj
        have hdep : ∀ k ∈ depsOf o, listed.getD k false = true := by
          intro k hk
          obtain ⟨ed, hed, rfl⟩ := List.mem_map.1 hk
          obtain ⟨q1, q2⟩ := List.mem_filter.1 hed
          exact hafter ed (by simpa using q1) q2
        rcases (hclo i (by simpa using hilt)).2 j hj with h | ⟨k, h1, h2⟩
        · rw [hdeps i o ho] at h; exact hdep j h
        · have hk2 := (hclo i (by simpa using hilt)).1 k h1
          rw [hdeps i o ho] at h1
          exact hdown k (by omega) (hdep k h1) j h2
      obtain ⟨pre, post, hsplit⟩ := List.append_of_mem himem
      have hsorted : rest.Pairwise (· < ·) := by rw [hrest]; exact List.Pairwise.filter _ List.pairwise_lt_range
      rw [hsplit] at hsorted
      have hpre : ∀ j ∈ pre, j < i := fun j hj => (List.pairwise_append.1 hsorted).2.2 j hj i (by simp)
      have hpost : ∀ j ∈ post, i < j := fun j hj => (List.pairwise_cons.1 (List.pairwise_append.1 hsorted).2.1).1 j hj
      have hunl : ∀ j ∈ rest, j ∉ tab.getD i [] := by
        intro j hj hm
        have := ((hmem j).1 hj).2
        rw [hclosed j hm] at this
        cases this
      have hpk : ∀ j ∈ pre, indep (at' L j) (at' L i) = true ∧ (pairS (at' L j).op (at' L i).op = true ∨ (cls (at' L j).op ≠ 4 ∧ cls (at' L i).op ≠ 4 ∧ (∃ p ∈ xp, p.1 = j ∧ p.2 = i) ∧ stable L (tab.getD i []) j i = true)) := by
        intro j hj
        have h1 := hpair i (by omega) j (hpre j hj)
        simp only [pairOk, Bool.or_eq_true, Bool.and_eq_true, elem_mem, bne_iff_ne, ne_eq, List.any_eq_true, beq_iff_eq] at h1
        rcases h1 with h1 | ⟨h1, h2⟩
        · exact absurd h1 (hunl j (by rw [hsplit]; simp [hj]))
        · refine ⟨h1, h2.imp id ?_⟩
          rintro ⟨⟨⟨a1, a2⟩, a3⟩, a4⟩
          exact ⟨a1, a2, a3, a4⟩
      have hslots : ∀ j, j < ops.size → (pushes (at' L j).op = true → (at' L j).sl.isSome = true) ∧ foot0 (at' L j).op = true := by
        intro j hj
        have := hslot (at' L j) (List.mem_of_getElem? (hatL j hj))
        refine ⟨fun hp => ?_, this.2⟩
        rcases this.1 with h | h
        · rw [hp] at h; cases h
        · exact h
      have hjlt : ∀ j ∈ rest, j < ops.size := fun j hj => ((hmem j).1 hj).1
      rw [hsplit] at hr
      obtain ⟨eg', hr', hee'⟩ := takeFront (hslots i hilt).1 pre e σ eg hr hee
        (fun j hj => ⟨(hpk j hj).1, (hslots j (hjlt j (by rw [hsplit]; simp [hj]))).1⟩)
        (by
          intro pre1 j pre2 hp
          have hjp : j ∈ pre := by rw [hp]; simp
          rcases (hpk j hjp).2 with h | ⟨a1, a2, ⟨p, hpm, hp1, hp2⟩, a4⟩
          · exact .inl h
          · refine .inr ⟨a1, a2, ?_, ?_⟩
            · have := List.all_eq_true.1 hxp p hpm
              unfold apartAt at this
              rw [hp1, hp2, hatL j (hjlt j (by rw [hsplit]; simp [hjp])), hatL i hilt] at this
              exact apartB_spec this
            · intro k hk d hdk
              have hkr : k ∈ rest := by
                rw [hsplit, hp]
                rcases List.mem_append.1 hk with h | h
                · exact List.mem_append.2 (.inl (List.mem_append.2 (.inr h)))
                · exact List.mem_append.2 (.inr h)
              have hjk : j ≤ k := by
                have hs2 : (j :: pre2 ++ i :: post).Pairwise (· < ·) := by
                  rw [hp, List.append_assoc] at hsorted
                  exact (List.pairwise_append.1 hsorted).2.1
                rw [List.cons_append] at hs2 hk
                rcases List.mem_cons.1 hk with rfl | hk
                · exact Nat.le_refl _
                · exact Nat.le_of_lt ((List.pairwise_cons.1 hs2).1 k hk)
              simp only [stable, List.all_eq_true, List.mem_range, Bool.or_eq_true, decide_eq_true_eq] at a4
              have hk4 := a4 k (by rw [← hlen]; exact hjlt k hkr)
              rcases hk4 with h | h
              · omega
              · rw [hdk] at h
                simp only [Bool.and_eq_true, Bool.or_eq_true, elem_not, elem_mem] at h
                exact ⟨h.1, h.2.resolve_left (hunl k hkr)⟩)
        (by
          intro b hb
          obtain ⟨t, _, ht⟩ := foot_refs (hslots i hilt).2 hb
          exact refs_noHole hs (he t) ht)
      rw [List.cons_append, List.map_cons] at hr'
      simp only [runO] at hr'
      split at hr'
      · rename_i e1 σ1 hev
        refine sim_evL hc hs he hn ho (hget i o _ (by simpa using ho) (hatL i hilt)) (fun _ (h : False) => h.elim) hev ?_
        intro a' w' G' ρ' s1 x1 r1 d1 z1 t1
        have gset : ∀ k, k < ops.size → (listed.setIfInBounds i true).getD k false = if k = i then true else listed.getD k false := by
          intro k hk
          by_cases hki : k = i
          · subst hki; rw [if_pos rfl]; simp [hsz, hk]
          · rw [if_neg hki, getD_set_ne false (fun x => hki x.symm)]
        refine ih (listed.setIfInBounds i true) (pre ++ post) e1 σ1 w' G' ρ' a' eg' (by simp [hsz]) ?_ ?_ ?_ s1 r1 (by omega) hr' hee' (hK.trans x1 d1 z1 t1)
        · have h1 : (List.range ops.size).filter (fun k => !(listed.setIfInBounds i true).getD k true) = rest.filter (fun k => decide (k ≠ i)) := by
            rw [hrest, List.filter_filter]
            apply List.filter_congr
            intro k hk
            rw [List.mem_range] at hk
            by_cases hki : k = i
            · subst hki; simp [hsz, hk]
            · rw [getD_set_ne true (fun x => hki x.symm)]; simp [hki]
          rw [h1, hsplit, List.filter_append, List.filter_cons]
          have e1 : pre.filter (fun k => decide (k ≠ i)) = pre := List.filter_eq_self.2 fun k hk => by have := hpre k hk; simp; omega
          have e2 : post.filter (fun k => decide (k ≠ i)) = post := List.filter_eq_self.2 fun k hk => by have := hpost k hk; simp; omega
          rw [e1, e2]; simp
        · have := congrArg List.length hsplit
          simp at this ⊢
          omega
        · intro k hk hkl j hj
          have hset : ∀ j, listed.getD j false = true → (listed.setIfInBounds i true).getD j false = true := fun j h => getD_set_true h
          rw [gset k hk] at hkl
          by_cases hki : k = i
          · subst hki; exact hset j (hclosed j hj)
          · rw [if_neg hki] at hkl; exact hset j (hdown k hk hkl j hj)
      · cases hr'
theorem sim_draw {w : World} {G : Nat → Prop} {ρ : List Loc} {σ : Store} {e e' : Env} {σ' : Store} {a : Act} (hc : CallSim P run) (hok : okL P ops n ops.toList L = true) (hd : drawOk ops L xp = true) (hxp : xp.all (apartAt e' L) = true)
    (hs : St w G ρ σ) (he : RepE w G ρ e a.tmps) (hn : n ≤ a.tmps.size) (hr : runO run base L e σ = some (e', σ')) (hK : After (fun _ => False) w G ρ a e' σ' (fun a w => Q .normal a w)) :
    wpAnyIn (Fr rd) mm P .any ops Q ops.size (Array.replicate ops.size false) a w := by
  have hlen := (okL_get hok).1
  simp only [Array.length_toList] at hlen
  refine wpAny_sim (base := base) hc hok hd hxp ops.size (Array.replicate ops.size false) (List.range ops.size) e σ w G ρ a e' (by simp) ?_ (by simp) ?_ hs he hn ?_ (fun _ => rfl) hK
  · symm
    rw [List.filter_eq_self]
    intro k hk
    simp at hk
    simp [hk]
  · intro k hk h
    simp [hk] at h
  · have : (List.range ops.size).map (at' L) = L := by
      apply List.ext_getElem?
      intro i
      rw [List.getElem?_map]
      rcases Nat.lt_or_ge i ops.size with h | h
      · rw [List.getElem?_range h]
        have h' : i < L.length := by omega
        simp [at', List.getD_eq_getElem?_getD, h']
      · rw [List.getElem?_eq_none (by simpa using h), List.getElem?_eq_none (by omega)]; rfl
    rw [this]; exact hr
end
end Go.Proofs.Ytdpdnplljonppaa.Vpi

namespace Go.Proofs.Ytdpdnplljonppaa.Vpi
open Go
set_option linter.unusedVariables false
set_option linter.unusedSimpArgs false
section
variable {w w' w1 w2 : World} {G G' G1 G2 : Nat → Prop} {ρ ρ' ρ1 ρ2 : List Loc} {σ : Store} {l : Nat}
theorem St.frame (h : St w G ρ σ) (hG : ∀ k, G k → w'.heap[k]? = w.heap[k]?) (hL : ∀ k, Live ρ k → w'.heap[k]? = w.heap[k]?) (hz : w.heap.size ≤ w'.heap.size) : St w' G ρ σ :=
  ⟨fun k hk => Nat.lt_of_lt_of_le (h.g k hk) hz, h.len, h.inj, fun i l b h1 h2 => (h.ok i l b h1 h2).mono hG (fun _ x => x) (LocExt.refl _) fun k o t s e => ⟨hL k ⟨i, o, t, s, e ▸ h1⟩, id⟩⟩
theorem St.live_cells (h : St w G ρ σ) {k : Nat} (hk : Live ρ k) : ∃ arr el, w.heap[k]? = some (.cells arr el (0, 0)) := by
  obtain ⟨i, o, t, s, hi⟩ := hk
  have hlt := get_lt hi
  have hs : σ[i]? = some σ[i]! := by
    have : i < σ.length := h.len ▸ hlt
    simp [this]
  have := h.ok i _ _ hi hs
  unfold BlkOk at this
  split at this
  · simp_all
  · simp_all
  · rename_i heq; cases heq; obtain ⟨_, _, arr, el, hh, _⟩ := this; exact ⟨arr, el, hh⟩
  · simp_all
  · rename_i heq; cases heq; obtain ⟨_, _, arr, el, hh, _⟩ := this; exact ⟨arr, el, hh⟩
  · exact this.elim
theorem St.notLive (h : St w G ρ σ) {k : Nat} {o : Obj} (ho : w.heap[k]? = some o) (hc : ∀ arr el fr, o ≠ .cells arr el fr) : ¬ Live ρ k := fun hl => by
  obtain ⟨arr, el, h1⟩ := h.live_cells hl
  rw [ho] at h1
  cases h1
  exact hc _ _ _ rfl
structure ExtL (l : Nat) (w : World) (G : Nat → Prop) (ρ : List Loc) (w' : World) (G' : Nat → Prop) (ρ' : List Loc) : Prop where
  wld : Same w w'
  loc : LocExt ρ ρ'
  heap : w.heap.size ≤ w'.heap.size
  grow : ∀ k, G k → G' k
  only : ∀ k, G' k → G k ∨ w.heap.size ≤ k ∨ Live ρ k
  below : ∀ k, k < w.heap.size → k ≠ l → ¬ Live ρ k → w'.heap[k]? = w.heap[k]?
  lives : ∀ k, Live ρ' k → Live ρ k ∨ w.heap.size ≤ k
theorem Ext.toL (h : Ext w G ρ w' G' ρ') : ExtL l w G ρ w' G' ρ' := ⟨h.wld, h.loc, h.heap, h.grow, h.only, fun k hk _ hn => h.below k hk hn, h.lives⟩
theorem ExtL.trans (h : ExtL l w G ρ w1 G1 ρ1) (h' : ExtL l w1 G1 ρ1 w2 G2 ρ2) : ExtL l w G ρ w2 G2 ρ2 where
  wld := h.wld.trans h'.wld
  loc := h.loc.trans h'.loc
  heap := Nat.le_trans h.heap h'.heap
  grow := fun k hk => h'.grow k (h.grow k hk)
  only := by
    intro k hk
    rcases h'.only k hk with h1 | h1 | h1
    · exact h.only k h1
    · exact .inr (.inl (Nat.le_trans h.heap h1))
    · rcases h.lives k h1 with h2 | h2
      · exact .inr (.inr h2)
      · exact .inr (.inl h2)
  below := by
    intro k hk hl hn
    rw [h'.below k (Nat.lt_of_lt_of_le hk h.heap) hl fun hlv => ?_, h.below k hk hl hn]
    rcases h.lives k hlv with h2 | h2
    · exact hn h2
    · omega
  lives := by
    intro k hk
    rcases h'.lives k hk with h1 | h1
    · exact h.lives k h1
    · exact .inr (Nat.le_trans h.heap h1)
theorem putObj_same {o : Obj} : Same w (w.putObj l o) := ⟨rfl, rfl, rfl⟩
theorem ExtL.put {o : Obj} : ExtL l w G ρ (w.putObj l o) G ρ :=
  ⟨putObj_same, LocExt.refl _, by rw [World.putObj_size]; exact Nat.le_refl _, fun _ h => h, fun _ h => .inl h, fun k _ hl _ => World.putObj_heap_other hl, fun _ h => .inl h⟩
theorem ExtL.ext (h : ExtL l w1 G1 ρ1 w2 G2 ρ2) (hx : Ext w G ρ w1 G1 ρ1) (hl : w.heap.size ≤ l) : Ext w G ρ w2 G2 ρ2 :=
  have h2 := hx.toL (l := l) |>.trans h
  ⟨h2.wld, h2.loc, h2.heap, h2.grow, h2.only, fun k hk hn => h2.below k hk (by omega) hn, h2.lives⟩
theorem ExtL.noG (h : ExtL l w G ρ w' G' ρ') {D : Nat} (hD : D < w.heap.size) (hn : ¬ Live ρ D) (hg : ¬ G D) : ¬ G' D := fun hh => by
  rcases h.only D hh with h1 | h1 | h1
  · exact hg h1
  · omega
  · exact hn h1
theorem ExtL.same (h : ExtL l w G ρ w' G' ρ') (hs : St w G ρ σ) (hg : ¬ G l) : ∀ k, G k → w'.heap[k]? = w.heap[k]? :=
  fun k hk => h.below k (hs.g k hk) (fun e => hg (e ▸ hk)) fun hl => hs.notG hl hk
theorem RepC.extL (h : ExtL l w G ρ w' G' ρ') (hs : St w G ρ σ) (hg : ¬ G l) {x : CV} {v : Value} (hr : RepC w G ρ x v) : RepC w' G' ρ' x v :=
  hr.mono (h.same hs hg) h.grow h.loc
theorem RepE.extL (h : ExtL l w G ρ w' G' ρ') (hs : St w G ρ σ) (hg : ¬ G l) {e : Env} {ts : Array Value} (hr : RepE w G ρ e ts) : RepE w' G' ρ' e ts :=
  fun k => (hr k).extL h hs hg
theorem St.put {o : Obj} (hs : St w G ρ σ) (hg : ¬ G l) (hn : ¬ Live ρ l) : St (w.putObj l o) G ρ σ :=
  hs.frame (fun k hk => World.putObj_heap_other fun e => hg (e ▸ hk)) (fun k hk => World.putObj_heap_other fun e => hn (e ▸ hk)) (by rw [World.putObj_size]; exact Nat.le_refl _)
/-! ### a list whose rows become values -/
theorem St.recast {b : Nat} {l : Loc} {x : Blk} (hs : St w G ρ σ) (hb : ρ[b]? = some l) (hx : BlkOk w G ρ l x) : St w G ρ (σ.set b x) := by
  refine ⟨hs.g, by rw [List.length_set]; exact hs.len, hs.inj, fun i l' y h1 h2 => ?_⟩
  by_cases hi : b = i
  · subst hi
    rw [List.getElem?_set_self (by rw [← hs.len]; exact get_lt hb)] at h2
    rw [hb] at h1
    cases h1
    cases h2
    exact hx
  · rw [List.getElem?_set_ne hi] at h2
    exact hs.ok i l' y h1 h2
theorem St.frzk {b : Nat} {cs : List CV} {qs : List PV} (hs : St w G ρ σ) (hb : σ[b]? = some (.kblk 1 cs)) (hf : frzL σ cs = some qs) (hq : qs.all isSl = true) (hself : b ∉ cs.flatMap own0) :
    ∃ G' ρ', St w G' ρ' ((killL σ cs).set b (.prow 1 qs)) ∧ Ext w G ρ w G' ρ' := by
  obtain ⟨G', ρ', s1, e1, t1, d1⟩ := dieAll_st (cs.flatMap own0) G ρ σ hs (frzL_lt hf)
  have hk : killL σ cs = dieAll σ (cs.flatMap own0) := killL_eq cs σ
  rw [← hk] at s1
  have hget : (killL σ cs)[b]? = some (.kblk 1 cs) := by
    rw [hk, dieAll_get _ _ _ hself]; exact hb
  have hlt : b < ρ.length := by rw [hs.len]; exact get_lt hb
  have hlt' : b < ρ'.length := by rw [s1.len]; exact get_lt hget
  have o1 := s1.ok b ρ'[b] _ (by simp) hget
  have o0 := hs.ok b ρ[b] _ (by simp) hb
  cases hl : ρ[b] with
  | det => rw [hl] at o0; exact o0.elim
  | dead => rw [hl] at o0; exact o0.elim
  | hole => rw [hl] at o0; exact o0.elim
  | lv blk o tot sz =>
    rw [hl] at o0
    have hl' : ρ'[b] = .lv blk o tot sz := by
      have h0 : ρ[b]? = some (.lv blk o tot sz) := by rw [← hl]; simp
      rcases e1.loc b _ h0 with h | h | h
      · rw [List.getElem?_eq_getElem hlt'] at h; exact Option.some.inj h
      · rw [List.getElem?_eq_getElem hlt'] at h
        rw [Option.some.inj h] at o1; exact o1.elim
      · cases h
    rw [hl'] at o1
    obtain ⟨rfl, ng, arr, el, hh, hz, hfit, hc⟩ := o1
    obtain ⟨_, _, arr0, el0, hh0, _, _, hc0⟩ := o0
    rw [hh] at hh0
    cases hh0
    refine ⟨G', ρ', s1.recast (l := .lv blk o tot 1) (by rw [← hl']; simp) ?_, e1⟩
    have hget2 : ∀ k, k < cs.length → ∃ u, arr[o + k]? = some u := fun k hk => ⟨arr[o + k]'(by omega), by simp⟩
    obtain ⟨h1, h2⟩ := frzL_rep hs e1.grow (vs := (List.range cs.length).map fun k => arr.getD (o + k) undef) hf (by simp) (fun k c v hkc hkv => by
      have hkl := get_lt hkc
      rw [List.getElem?_map, List.getElem?_range hkl, Option.map_some] at hkv
      cases hkv
      obtain ⟨u, hu⟩ := hget2 k hkl
      have : arr.getD (o + k) undef = u := by rw [Array.getD_eq_getD_getElem?, hu]; rfl
      rw [this]
      exact (hc0 k c u hkc hu).1) (by
      intro b' hb' blk' o' t' s' hloc
      rcases t1 b' blk' o' t' s' hloc with h | h
      · rw [d1 b' hb'] at h; cases h
      · exact h)
    have hlen : qs.length = cs.length := by rw [h1]; simp
    have hsl : ∀ (i : Nat) e, qs[i]? = some e → e.cells = [e] := fun i e he => by
      have := List.all_eq_true.1 hq e (List.mem_of_getElem? he)
      cases e <;> first | rfl | (simp [isSl] at this)
    refine ⟨rfl, ng, arr, el, hh, hz, by omega, fun i e he => by rw [hsl i e he]; rfl, fun i e k c u he hk hu => ?_⟩
    rw [hsl i e he] at hk
    cases k with
    | succ k => simp at hk
    | zero =>
      simp at hk
      subst hk
      have hil := get_lt he
      rw [Nat.mul_one, Nat.add_zero] at hu
      refine ⟨h2 i e u he ?_, (hc i cs[i] u (by simp) hu).2⟩
      rw [List.getElem?_map, List.getElem?_range (by omega), Option.map_some]
      rw [Array.getD_eq_getD_getElem?, hu]; rfl
/-! ### marks among the deferred calls -/
def Marks (lo : Nat) (w : World) (G : Nat → Prop) : Nat → List Deferred → Prop
  | _, [] => True
  | B, d :: ds => ∃ D, d.target = .collected D ∧ lo ≤ D ∧ D < B ∧ ¬ G D ∧ w.heap[D]? = some (.deferred (some [])) ∧ Marks lo w G D ds
theorem Marks.mono {lo B B' : Nat} {ds : List Deferred} (h : Marks lo w G B ds) (hB : B ≤ B') : Marks lo w G B' ds := by
  cases ds with
  | nil => trivial
  | cons d ds =>
    obtain ⟨D, h1, h2, h3, h4⟩ := h
    exact ⟨D, h1, h2, Nat.lt_of_lt_of_le h3 hB, h4⟩
theorem Marks.keep {lo : Nat} : ∀ {ds : List Deferred} {B : Nat}, Marks lo w G B ds → (∀ D, D < B → ¬ G D → w.heap[D]? = some (.deferred (some [])) → w'.heap[D]? = w.heap[D]? ∧ ¬ G' D) → Marks lo w' G' B ds
  | [], _, _, _ => trivial
  | d :: ds, B, ⟨D, h1, h2, h3, h4, h5, h6⟩, hk => by
    obtain ⟨a1, a2⟩ := hk D h3 h4 h5
    exact ⟨D, h1, h2, h3, a2, a1.trans h5, h6.keep fun E hE => hk E (by omega)⟩
theorem Marks.extL {lo B : Nat} {ds : List Deferred} (h : Marks lo w G B ds) (hx : ExtL l w G ρ w' G' ρ') (hs : St w G ρ σ) (hl : w.heap[l]? ≠ some (.deferred (some []))) : Marks lo w' G' B ds :=
  h.keep fun D _ hg ho => by
    have hlt := aget_lt ho
    have hn := hs.notLive ho (by intro _ _ _ e; cases e)
    exact ⟨hx.below D hlt (fun e => hl (e ▸ ho)) hn, hx.noG hlt hn hg⟩
theorem Marks.ext {lo B : Nat} {ds : List Deferred} (h : Marks lo w G B ds) (hx : Ext w G ρ w' G' ρ') (hs : St w G ρ σ) : Marks lo w' G' B ds :=
  h.keep fun D _ hg ho => by
    have hlt := aget_lt ho
    have hn := hs.notLive ho (by intro _ _ _ e; cases e)
    exact ⟨hx.below D hlt hn, (hx.toL (l := w.heap.size)).noG hlt hn hg⟩
theorem unwind {P : Program} {b : Frame} {a : Act} {k : List Item} {cs : List Frame} {lo : Nat} : ∀ {ds : List Deferred} {w : World} {B : Nat}, Marks lo w G B ds →
    ∃ w', Steps P (lone { b.atR { a with defers := ds } k with mode := .returning } cs w) (lone { b.atR { a with defers := [] } k with mode := .returning } cs w') ∧ Same w w' ∧ w'.heap.size = w.heap.size ∧
      ∀ j, (j < lo ∨ G j ∨ ∃ arr el fr, w.heap[j]? = some (.cells arr el fr)) → w'.heap[j]? = w.heap[j]?
  | [], w, B, _ => ⟨w, .refl _ _, ⟨rfl, rfl, rfl⟩, rfl, fun _ _ => rfl⟩
  | d :: ds, w, B, ⟨D, h1, h2, h3, h4, h5, h6⟩ => by
    have hlt := aget_lt h5
    have hstep := step_collected (P := P) (fr := { b.atR { a with defers := d :: ds } k with mode := .returning }) (cs := cs) (by simp) rfl h1 (run_takeDeferred (P := P) h5)
    have hm : Marks lo (w.putObj D (.deferred none)) G D ds := h6.keep fun E hE hg ho => ⟨World.putObj_heap_other (by omega), hg⟩
    obtain ⟨w', q1, q2, q3, q4⟩ := unwind (b := b) (a := a) (k := k) (cs := cs) hm
    refine ⟨w', .head hstep q1, putObj_same.trans q2, by rw [q3, World.putObj_size], fun j hj => ?_⟩
    have hjD : j ≠ D := by
      rintro rfl
      rcases hj with h | h | ⟨_, _, _, h⟩
      · omega
      · exact h4 h
      · rw [h5] at h; cases h
    rw [q4 j (by rw [World.putObj_heap_other hjD]; exact hj), World.putObj_heap_other hjD]
theorem enter_loop {P : Program} {rd : Option Nat} (hrd : ∀ l0, rd = some l0 → ∃ r, w.heap[l0]? = some (.loop r)) (fn : FuncId) (tmps : Array Value) (ps : Array Tmp) (assign body : Code) :
    ∃ l mark W1 dd, (Instr.enterLoop fn tmps ps assign body rd).run P w = .ok (l, mark) W1 ∧ w.heap.size ≤ l ∧ W1.heap[l]? = some (.loop { state := .ready, pending := none, fn, tmps, params := ps, assign, body, defers := dd }) ∧
      (∀ k, k < w.heap.size → W1.heap[k]? = w.heap[k]?) ∧ w.heap.size ≤ W1.heap.size ∧ Same w W1 ∧ (rd.isSome = true → mark = []) ∧
      ∀ (G : Nat → Prop) (lo : Nat) (ds : List Deferred), (∀ k, G k → k < w.heap.size) → lo ≤ w.heap.size → Marks lo w G w.heap.size ds → Marks lo W1 G l (mark ++ ds) := by
  cases rd with
  | none =>
    have hk : ∀ k, k < w.heap.size → ((w.alloc (.deferred (some []))).alloc (.loop { state := .ready, pending := none, fn, tmps, params := ps, assign, body, defers := w.heap.size })).heap[k]? = w.heap[k]? := fun k hk => by
      rw [RowKit.Below.heap_alloc _ _ _ (by simp; omega), RowKit.Below.heap_alloc _ _ _ hk]
    refine ⟨_, _, _, w.heap.size, run_enterLoop_outer fn tmps ps assign body, by omega, ?_, hk, by simp; omega, ⟨rfl, rfl, rfl⟩, (fun h => by cases h), fun G lo ds hG hlo hm => ?_⟩
    · have := World.alloc_heap_new (w.alloc (.deferred (some []))) (.loop { state := .ready, pending := none, fn, tmps, params := ps, assign, body, defers := w.heap.size })
      rwa [World.size_alloc] at this
    · refine ⟨w.heap.size, rfl, hlo, by omega, fun h => Nat.lt_irrefl _ (hG _ h), ?_, hm.keep fun D hD hg ho => ⟨hk D hD, hg⟩⟩
      rw [RowKit.Below.heap_alloc _ _ _ (by simp), World.alloc_heap_new]
  | some l0 =>
    obtain ⟨r, hr⟩ := hrd l0 rfl
    have hk : ∀ k, k < w.heap.size → (w.alloc (.loop { state := .ready, pending := none, fn, tmps, params := ps, assign, body, defers := r.defers })).heap[k]? = w.heap[k]? := fun k hk => RowKit.Below.heap_alloc _ _ _ hk
    exact ⟨_, _, _, r.defers, run_enterLoop_inner hr fn tmps ps assign body, Nat.le_refl _, World.alloc_heap_new _ _, hk, by simp, ⟨rfl, rfl, rfl⟩, fun _ => rfl, fun G lo ds hG hlo hm => hm.keep fun D hD hg ho => ⟨hk D hD, hg⟩⟩
end
end Go.Proofs.Ytdpdnplljonppaa.Vpi
