/- The verified interpreter, part 11: append and copy. -/
import Derived.Test.YtnbglampelmgoaaGreatVpiStore
namespace Go.Proofs.YtnbglampelmgoaaGreat.Vpi
open Go
set_option linter.unusedVariables false
set_option linter.unusedSimpArgs false
section
variable {P : Program} {o : Oper} {w : World} {G : Nat → Prop} {ρ : List Loc} {σ : Store} {e : Env} {a : Act} {base : Nat} {sl : Option Nat}

/-- where a pushed block stands -/
theorem push_loc {σ' : Store} {b : Blk} {k : Nat} {ρ : List Loc} (l : Loc) (hp : Vpi.push base sl σ b = some (k, σ')) (hlen : ρ.length = σ.length) :
    ∃ ρ' : List Loc, ρ'.length = σ'.length ∧ ρ'[k]? = some l ∧ σ'[k]? = some b ∧ (∀ (j : Nat) x, ρ'[j]? = some x → (j ≠ k ∧ ρ[j]? = some x ∧ σ'[j]? = σ[j]?) ∨ (j = k ∧ x = l)) ∧
      (∀ (j : Nat) x, ρ[j]? = some x → (j ≠ k ∧ ρ'[j]? = some x) ∨ (j = k ∧ σ[k]? = some .hole)) := by
  rcases push_spec hp with ⟨rfl, rfl⟩ | ⟨hk, rfl⟩
  · refine ⟨ρ ++ [l], by simp [hlen], by rw [← hlen]; simp, by simp, ?_, ?_⟩
    · intro j x hj
      rcases Nat.lt_or_ge j ρ.length with h1 | h1
      · rw [List.getElem?_append_left h1] at hj
        exact .inl ⟨by omega, hj, by rw [List.getElem?_append_left (by omega)]⟩
      · rw [List.getElem?_append_right h1] at hj
        have : j - ρ.length = 0 := by
          have := get_lt hj
          simp at this
          omega
        rw [this] at hj
        simp at hj
        exact .inr ⟨by omega, hj.symm⟩
    · intro j x hj
      have := get_lt hj
      exact .inl ⟨by omega, by rw [List.getElem?_append_left this]; exact hj⟩
  · have hlt : k < ρ.length := by rw [hlen]; exact get_lt hk
    refine ⟨ρ.set k l, by simp [hlen], by rw [List.getElem?_set_self hlt], by rw [List.getElem?_set_self (by omega)], ?_, ?_⟩
    · intro j x hj
      by_cases hjk : k = j
      · subst hjk; rw [List.getElem?_set_self hlt] at hj; cases hj; exact .inr ⟨rfl, rfl⟩
      · rw [List.getElem?_set_ne hjk] at hj
        exact .inl ⟨fun x => hjk x.symm, hj, by rw [List.getElem?_set_ne hjk]⟩
    · intro j x hj
      by_cases hjk : k = j
      · subst hjk; exact .inr ⟨rfl, hk⟩
      · exact .inl ⟨fun x => hjk x.symm, by rw [List.getElem?_set_ne hjk]; exact hj⟩

/-- a block without memory -/
theorem St.pushDet {σ' : Store} {k sz : Nat} (hs : St w G ρ σ) (hp : Vpi.push base sl σ (.prow sz []) = some (k, σ')) :
    ∃ ρ', St w G ρ' σ' ∧ Ext w G ρ w G ρ' ∧ ρ'[k]? = some .det := by
  obtain ⟨ρ', h1, h2, h3, h4, h5⟩ := push_loc .det hp hs.len
  have hloc : LocExt ρ ρ' := by
    intro j x hj
    rcases h5 j x hj with ⟨_, h⟩ | ⟨rfl, h⟩
    · exact .inl h
    · have := hs.ok _ _ _ hj h
      unfold BlkOk at this
      split at this <;> simp_all
  refine ⟨ρ', ⟨hs.g, h1, ?_, ?_⟩, ⟨⟨rfl, rfl, rfl⟩, hloc, Nat.le_refl _, fun _ x => x, fun _ x => .inl x, fun _ _ _ => rfl, ?_⟩, h2⟩
  · intro i j q o1 t1 s1 o2 t2 s2 hi hj
    rcases h4 i _ hi with ⟨_, hi, _⟩ | ⟨_, hi⟩
    · rcases h4 j _ hj with ⟨_, hj, _⟩ | ⟨_, hj⟩
      · exact hs.inj i j q o1 t1 s1 o2 t2 s2 hi hj
      · cases hj
    · cases hi
  · intro i l b hi hb
    rcases h4 i _ hi with ⟨hne, hi, he⟩ | ⟨rfl, rfl⟩
    · rw [he] at hb
      exact (hs.ok i l b hi hb).mono (fun _ _ => rfl) (fun _ x => x) hloc fun _ _ _ _ _ => ⟨rfl, id⟩
    · rw [h3] at hb; cases hb; rfl
  · rintro q ⟨i, o1, t1, s1, hi⟩
    rcases h4 i _ hi with ⟨_, hi, _⟩ | ⟨_, hi⟩
    · exact .inl ⟨i, o1, t1, s1, hi⟩
    · cases hi

/-- a block handed on under a new number -/
theorem St.repl {σ' : Store} {i k : Nat} {li l : Loc} {b : Blk} (hs : St w G ρ σ) (hi : ρ[i]? = some li) (hp : Vpi.push base sl (σ.set i .dead) b = some (k, σ'))
    (hl : ∀ (blk o t s : Nat), l = .lv blk o t s → ∃ o' t' s', li = .lv blk o' t' s') (hb : ∀ ρ', LocExt ρ ρ' → BlkOk w G ρ' l b) :
    ∃ ρ', St w G ρ' σ' ∧ Ext w G ρ w G ρ' ∧ ρ'[k]? = some l := by
  have hilt := get_lt hi
  obtain ⟨ρ', h1, h2, h3, h4, h5⟩ := push_loc (ρ := ρ.set i .dead) l hp (by simp [hs.len])
  have hset : ∀ (j : Nat) x, (ρ.set i Loc.dead)[j]? = some x → (j ≠ i ∧ ρ[j]? = some x) ∨ (j = i ∧ x = .dead) := by
    intro j x hj
    by_cases hji : i = j
    · subst hji; rw [List.getElem?_set_self hilt] at hj; cases hj; exact .inr ⟨rfl, rfl⟩
    · rw [List.getElem?_set_ne hji] at hj; exact .inl ⟨fun x => hji x.symm, hj⟩
  have hloc : LocExt ρ ρ' := by
    intro j x hj
    by_cases hji : i = j
    · subst hji
      have h0 : (ρ.set i Loc.dead)[i]? = some .dead := by rw [List.getElem?_set_self hilt]
      rcases h5 i _ h0 with ⟨_, h⟩ | ⟨hk, h⟩
      · exact .inr (.inl h)
      · subst hk; rw [List.getElem?_set_self (by rw [← hs.len]; exact hilt)] at h; cases h
    · have h0 : (ρ.set i Loc.dead)[j]? = some x := by rw [List.getElem?_set_ne hji]; exact hj
      rcases h5 j _ h0 with ⟨_, h⟩ | ⟨hk, h⟩
      · exact .inl h
      · subst hk
        rw [List.getElem?_set_ne hji] at h
        have := hs.ok _ _ _ hj h
        unfold BlkOk at this
        split at this <;> simp_all
  refine ⟨ρ', ⟨hs.g, h1, ?_, ?_⟩, ⟨⟨rfl, rfl, rfl⟩, hloc, Nat.le_refl _, fun _ x => x, fun _ x => .inl x, fun _ _ _ => rfl, ?_⟩, h2⟩
  · intro x y q o1 t1 s1 o2 t2 s2 hx hy
    rcases h4 x _ hx with ⟨hxk, hx, _⟩ | ⟨hxk, hx⟩ <;> rcases h4 y _ hy with ⟨hyk, hy, _⟩ | ⟨hyk, hy⟩
    · rcases hset x _ hx with ⟨_, hx⟩ | ⟨_, hx⟩
      · rcases hset y _ hy with ⟨_, hy⟩ | ⟨_, hy⟩
        · exact hs.inj x y q o1 t1 s1 o2 t2 s2 hx hy
        · cases hy
      · cases hx
    · rcases hset x _ hx with ⟨hxi, hx⟩ | ⟨_, hx⟩
      · obtain ⟨o', t', s', rfl⟩ := hl _ _ _ _ hy.symm
        exact absurd (hs.inj x i q o1 t1 s1 o' t' s' hx hi) hxi
      · cases hx
    · rcases hset y _ hy with ⟨hyi, hy⟩ | ⟨_, hy⟩
      · obtain ⟨o', t', s', rfl⟩ := hl _ _ _ _ hx.symm
        exact absurd (hs.inj y i q o2 t2 s2 o' t' s' hy hi) hyi
      · cases hy
    · omega
  · intro j x y hj hy
    rcases h4 j _ hj with ⟨hne, hj, he⟩ | ⟨rfl, rfl⟩
    · rw [he] at hy
      rcases hset j _ hj with ⟨hji, hj⟩ | ⟨rfl, rfl⟩
      · rw [List.getElem?_set_ne (fun z => hji z.symm)] at hy
        exact (hs.ok j x y hj hy).mono (fun _ _ => rfl) (fun _ x => x) hloc fun _ _ _ _ _ => ⟨rfl, id⟩
      · rw [List.getElem?_set_self (by rw [← hs.len]; exact hilt)] at hy
        cases hy
        trivial
    · rw [h3] at hy; cases hy; exact hb _ hloc
  · rintro q ⟨x, o1, t1, s1, hx⟩
    rcases h4 x _ hx with ⟨_, hx, _⟩ | ⟨_, hx⟩
    · rcases hset x _ hx with ⟨_, hx⟩ | ⟨_, hx⟩
      · exact .inl ⟨x, o1, t1, s1, hx⟩
      · cases hx
    · obtain ⟨o', t', s', rfl⟩ := hl _ _ _ _ hx.symm
      exact .inl ⟨i, o', t', s', hi⟩

/-- what a slice holds, as the model's cells -/
theorem content_rep {c : CV} {xs : List PV} {v : Value} {sz : Nat} (hs : St w G ρ σ) (h : content σ c = some xs) (hr : RepC w G ρ c v) (hall : allSz sz xs = true) :
    ∃ (ad : Option Addr) (cap : Nat) (us : List Value), v = .slice ad xs.length cap ∧ xs.length ≤ cap ∧ us.length = xs.length * sz ∧ (∀ A, ad = some A → ∀ (j : Nat) u, us[j]? = some u → w.cell? (A.add j) = some u) ∧ (ad = none → xs = []) ∧
      (∀ (i : Nat) x (k : Nat) c u, xs[i]? = some x → x.cells[k]? = some c → us[i * sz + k]? = some u → RepP w G c u) ∧ ∀ u ∈ us, u.oneCell' = true := by
  have hall' : ∀ (i : Nat) x, xs[i]? = some x → x.cells.length = sz := fun i x hx => by simpa using List.all_eq_true.1 hall x (List.mem_of_getElem? hx)
  -- out of a block that has the cells
  have key : ∀ (ad : Option Addr) (cap blk B : Nat) (arr : Array Value) (el : TypeId) (fr : Nat × Nat), xs ≠ [] → v = .slice ad xs.length cap → xs.length ≤ cap → ad = some ⟨blk, B, none⟩ → w.heap[blk]? = some (.cells arr el fr) → B + xs.length * sz ≤ arr.size →
      (∀ (i : Nat) x (k : Nat) c u, xs[i]? = some x → x.cells[k]? = some c → arr[B + i * sz + k]? = some u → RepP w G c u ∧ u.oneCell' = true) →
      ∃ (ad : Option Addr) (cap : Nat) (us : List Value), v = .slice ad xs.length cap ∧ xs.length ≤ cap ∧ us.length = xs.length * sz ∧ (∀ A, ad = some A → ∀ (j : Nat) u, us[j]? = some u → w.cell? (A.add j) = some u) ∧ (ad = none → xs = []) ∧
      (∀ (i : Nat) x (k : Nat) c u, xs[i]? = some x → x.cells[k]? = some c → us[i * sz + k]? = some u → RepP w G c u) ∧ ∀ u ∈ us, u.oneCell' = true := by
    intro ad cap blk B arr el fr hne hv hcap had hh hfit hk
    have hget : ∀ j : Nat, j < xs.length * sz → ((arr.toList.drop B).take (xs.length * sz))[j]? = arr[B + j]? := by
      intro j hj
      rw [List.getElem?_take, if_pos hj, List.getElem?_drop]
      simp
    refine ⟨ad, cap, (arr.toList.drop B).take (xs.length * sz), hv, hcap, by simp; omega, ?_, (by rw [had]; intro x; cases x), ?_, ?_⟩
    · intro A hA j u hu
      rw [had] at hA
      cases hA
      have hj := get_lt hu
      rw [hget j (by simp at hj; omega)] at hu
      rw [add_at, cell_at hh]
      exact hu
    · intro i x k c u hx hc hu
      have hi := get_lt hx
      have hkk := get_lt hc
      rw [hall' i x hx] at hkk
      have : (i + 1) * sz ≤ xs.length * sz := Nat.mul_le_mul_right _ hi
      rw [Nat.succ_mul] at this
      rw [hget _ (by omega), ← Nat.add_assoc] at hu
      exact (hk i x k c u hx hc hu).1
    · intro u hu
      obtain ⟨j, hj⟩ := List.getElem?_of_mem hu
      have hjl := get_lt hj
      simp at hjl
      have hj2 : j < xs.length * sz := by omega
      rw [hget j hj2] at hj
      rcases Nat.eq_zero_or_pos sz with h0 | h0
      · subst h0; simp at hj2
      · have hq : j / sz < xs.length := Nat.div_lt_of_lt_mul (by rw [Nat.mul_comm]; exact hj2)
        have hx : xs[j / sz]? = some (xs[j / sz]) := by simp
        have hm : j % sz < (xs[j / sz]).cells.length := by rw [hall' _ _ hx]; exact Nat.mod_lt _ h0
        have hj3 : arr[B + j / sz * sz + j % sz]? = some u := by
          rw [Nat.add_assoc, Nat.div_add_mod' j sz]; exact hj
        exact (hk _ _ (j % sz) ((xs[j / sz]).cells[j % sz]'hm) u hx (List.getElem?_eq_getElem hm) hj3).2
  have empty : xs = [] → ∀ (ad : Option Addr) (cap : Nat), v = .slice ad xs.length cap → ∃ (ad : Option Addr) (cap : Nat) (us : List Value), v = .slice ad xs.length cap ∧ xs.length ≤ cap ∧ us.length = xs.length * sz ∧ (∀ A, ad = some A → ∀ (j : Nat) u, us[j]? = some u → w.cell? (A.add j) = some u) ∧ (ad = none → xs = []) ∧
      (∀ (i : Nat) x (k : Nat) c u, xs[i]? = some x → x.cells[k]? = some c → us[i * sz + k]? = some u → RepP w G c u) ∧ ∀ u ∈ us, u.oneCell' = true := by
    intro h0 ad cap hv
    exact ⟨ad, cap, [], hv, by rw [h0]; simp, by rw [h0]; simp, by simp, fun _ => h0, by simp, by simp⟩
  unfold content at h
  split at h
  · cases h
    obtain ⟨ad, cap, rfl, hcap, hcase⟩ := rep_sl (rep_p hr)
    rcases hcase with h0 | ⟨blk, off, arr, el, fr, s, rfl, hg, hh, hfit, hlen, hk⟩
    · exact empty h0 ad cap rfl
    · by_cases h0 : xs = []
      · exact empty h0 _ cap rfl
      · obtain ⟨x, hx⟩ : ∃ x, xs[0]? = some x := by
          cases xs with
          | nil => exact absurd rfl h0
          | cons x l => exact ⟨x, rfl⟩
        have hss : s = sz := by rw [← hlen 0 x hx, hall' 0 x hx]
        subst hss
        exact key _ cap blk off arr el fr h0 rfl hcap rfl hh hfit hk
  · cases h
    have := rep_nils hr
    exact empty rfl none 0 this
  · rename_i b off n
    split at h
    · rename_i s es hb
      split at h
      · rename_i hle
        cases h
        obtain ⟨ad, cap, rfl, hcap, hok⟩ := rep_own hr
        have hlen : ((es.drop off).take n).length = n := by simp; omega
        by_cases h0 : (es.drop off).take n = []
        · exact empty h0 ad cap (by rw [hlen])
        · have hn : n ≠ 0 := by rintro rfl; exact h0 (by simp)
          obtain ⟨l, hl, hblk⟩ := hs.get hb
          simp only [OwnOk, hl] at hok
          cases l with
          | lv blk o' t s' =>
            obtain ⟨rfl, hng, arr, el, hh, rfl, hfit, hcl, hk⟩ := hblk
            simp only at hok
            rcases hok with rfl | ⟨rfl, hf2⟩
            · omega
            · have hx0 : (es.drop off)[0]? = some (es[off]'(by omega)) := by simp
              have hss : s = sz := by
                rw [← hcl off (es[off]'(by omega)) (by simp)]
                exact hall' 0 _ (by rw [List.getElem?_take, if_pos (by omega)]; exact hx0)
              subst hss
              have hmul : (off + n) * s ≤ es.length * s := Nat.mul_le_mul_right _ hle
              rw [Nat.add_mul] at hmul
              refine key _ cap blk (o' + off * s) arr el (0, 0) h0 (by rw [hlen]) (by rw [hlen]; exact hcap) rfl hh (by rw [hlen]; omega) ?_
              intro i x k c u hx hc hu
              rw [List.getElem?_take] at hx
              split at hx
              · rw [List.getElem?_drop] at hx
                exact hk (off + i) x k c u hx hc (by rw [Nat.add_mul, show o' + (off * s + i * s) + k = o' + off * s + i * s + k by omega]; exact hu)
              · cases hx
          | det => simp only at hok; omega
          | dead => exact hblk.elim
          | hole => exact hblk.elim
      · cases h
    · cases h
  · cases h

theorem run_first {size n cap : Nat} {ad : Option Addr} {us : List Value} {w' : World} (hl : us.length = n * size) (h : ∀ A, ad = some A → ∀ (j : Nat) u, us[j]? = some u → w'.cell? (A.add j) = some u) (hn : ad = none → n = 0) :
    (Builtin.firstCells size n (.slice ad n cap)).run P w' = .ok us.toArray w' := by
  cases ad with
  | none =>
    have := hn rfl
    subst this
    have : us = [] := by simpa using hl
    subst this
    simp [Builtin.firstCells]
  | some A => exact run_firstCells_some (P := P) w' size n A n cap us hl (h A rfl)

/-- append where there is room -/
theorem run_app_fits {t el ty : TypeId} {i : TypeInfo} {n cap m bcap : Nat} {ad bd : Option Addr} {us : List Value} {w' : World} (ht : P.underlying t = some (.slice el)) (hi : P.info? el = some i) (hl : us.length = m * i.size)
    (h : ∀ A, bd = some A → ∀ (j : Nat) u, us[j]? = some u → w.cell? (A.add j) = some u) (hn : bd = none → m = 0) (hroom : n + m ≤ cap)
    (hst : match ad with | some A => (storeCells (A.add (n * i.size)) us).run P w = .ok () w' | none => w' = w) :
    (Builtin.append_ #[t, t] ty #[.slice ad n cap, .slice bd m bcap]).run P w = .ok (.slice ad (n + m) cap) w' := by
  have hf := run_first (P := P) (cap := bcap) (w' := w) hl h hn
  cases ad with
  | none => subst hst; simp [Builtin.append_, run_underlying ht, sizeOf, typeInfo, hi, Builtin.lenOf, hroom, hf]
  | some A => simp [Builtin.append_, run_underlying ht, sizeOf, typeInfo, hi, Builtin.lenOf, hroom, hf, hst]

/-- append where a new block is made -/
theorem run_app_grows {t el ty : TypeId} {i : TypeInfo} {z : Value} {n cap m bcap : Nat} {ad bd : Option Addr} {os us : List Value} (ht : P.underlying t = some (.slice el)) (hi : P.info? el = some i) (hz : i.zero = some z) (hlo : os.length = n * i.size) (hl : us.length = m * i.size)
    (ho : ∀ A, ad = some A → ∀ (j : Nat) u, os[j]? = some u → w.cell? (A.add j) = some u) (hno : ad = none → n = 0 ∧ cap = 0)
    (h : ∀ A, bd = some A → ∀ (j : Nat) u, us[j]? = some u → w.cell? (A.add j) = some u) (hn : bd = none → m = 0) (hg : cap < n + m) (hncap : n ≤ cap) (hbytes : (n + m) * i.bytes ≤ 140737488355328) (h63 : ((n + m : Nat) : Int) ≤ 9223372036854775807) :
    (Builtin.append_ #[t, t] ty #[.slice ad n cap, .slice bd m bcap]).run P w =
      .ok (.slice (some ⟨w.heap.size, 0, none⟩) (n + m) (grownCap w (n + m) cap el)) (w.drew.alloc (.cells (os.toArray ++ us.toArray ++ Builtin.zeroCells z.cells (grownCap w (n + m) cap el - (n + m))) el)) := by
  cases bd with
  | none => have := hn rfl; omega
  | some B =>
    cases ad with
    | none =>
      obtain ⟨rfl, rfl⟩ := hno rfl
      have : os = [] := by simpa using hlo
      subst this
      have := run_append_nil (P := P) w t ty el i z ht hi hz B m bcap us hl (h B rfl) (by omega) (by omega) (by rw [Nat.zero_add] at hbytes; omega)
      simp only [Nat.zero_add]
      rw [this]
      simp
    | some A =>
      exact run_append_grow (P := P) w t ty el i z ht hi hz A n cap os hlo (ho A rfl) B m bcap us hl (h B rfl) hg h63 (growslice_fits hg hbytes)

theorem seg_get {os us zs : List Value} {A B : List PV} {sz i k : Nat} {x : PV} (hlo : os.length = A.length * sz) (hl : us.length = B.length * sz) (hx : (A ++ B)[i]? = some x) (hk : k < sz) :
    (i < A.length ∧ A[i]? = some x ∧ (os ++ us ++ zs)[i * sz + k]? = os[i * sz + k]?) ∨ (A.length ≤ i ∧ B[i - A.length]? = some x ∧ (os ++ us ++ zs)[i * sz + k]? = us[(i - A.length) * sz + k]?) := by
  rcases Nat.lt_or_ge i A.length with h | h
  · rw [List.getElem?_append_left h] at hx
    have : (i + 1) * sz ≤ A.length * sz := Nat.mul_le_mul_right _ h
    rw [Nat.succ_mul] at this
    exact .inl ⟨h, hx, by rw [List.append_assoc, List.getElem?_append_left (by omega)]⟩
  · rw [List.getElem?_append_right h] at hx
    have hb := get_lt hx
    have : (i - A.length + 1) * sz ≤ B.length * sz := Nat.mul_le_mul_right _ hb
    rw [Nat.succ_mul] at this
    have hmul : i * sz = A.length * sz + (i - A.length) * sz := by rw [← Nat.add_mul]; congr 1; omega
    refine .inr ⟨h, hx, ?_⟩
    rw [List.append_assoc, List.getElem?_append_right (by omega), List.getElem?_append_left (by omega)]
    congr 1; omega

theorem exec_append {c : Call} {x y : Operand} {t : TypeId} (ho : o.op = .call c) (hc1 : c.callee = .builtin .append) (hc2 : c.args = #[x, y]) (hc3 : c.argTypes = #[t, t]) :
    (execOp a.eval o).run P w = ((Builtin.append_ #[t, t] o.type #[a.eval x, a.eval y]).run P w).andThen fun v w => .ok (.value v) w := by
  simp [execOp, ho, resolve, hc1, hc2, hc3, invoke, builtin]

theorem sim_append {sz bytes : Nat} {t el : TypeId} {x y : Operand} {x' y' : Opd} {i : TypeInfo} {z : Value} {r : CV × Store} (hs : St w G ρ σ) (he : RepE w G ρ e a.tmps) (ho : ∃ c : Call, o.op = .call c ∧ c.callee = .builtin .append ∧ c.args = #[x, y] ∧ c.argTypes = #[t, t])
    (hx : okOpd x x' = true) (hy : okOpd y y' = true) (ht : P.underlying t = some (.slice el)) (hi : P.info? el = some i) (hsz : i.size = sz) (hby : i.bytes = bytes) (hz : i.zero = some z) (hzs : z.cells.size = sz) (h0 : sz ≠ 0) (hb0 : bytes ≠ 0)
    (h : ev base sl (.append sz bytes x' y') e σ = some r) : SimOp P o a w G ρ r.1 r.2 := by
  have r1 := okOpd_rep hx he
  have r2 := okOpd_rep hy he
  obtain ⟨c, ho, hc1, hc2, hc3⟩ := ho
  have exec := exec_append (P := P) (w := w) (a := a) ho hc1 hc2 hc3
  generalize hu : a.eval x = u at r1
  generalize hv : a.eval y = v at r2
  rw [hu, hv] at exec
  simp only [ev] at h
  split at h
  · rename_i A B hA hB
    split at h
    · rename_i hcond
      obtain ⟨hbytes, hallB⟩ := hcond
      obtain ⟨bd, bcap, us, rfl, hbcap, hul, hucell, hunone, hurep, hu1⟩ := content_rep hs hB r2 hallB
      subst hsz hby
      have h63 : ((A.length + B.length : Nat) : Int) ≤ 9223372036854775807 := by
        have : (A.length + B.length) * 1 ≤ (A.length + B.length) * i.bytes := Nat.mul_le_mul_left _ (by omega)
        omega
      -- a new block
      have fresh : ∀ {G1 : Nat → Prop} {ρ1 : List Loc} {σ1 σ' : Store} {k : Nat} {ad : Option Addr} {cap : Nat} {os : List Value}, St w G1 ρ1 σ1 → Ext w G ρ w G1 ρ1 → Vpi.push base sl σ1 (.prow i.size (A ++ B)) = some (k, σ') → r = (.own k 0 (A.length + B.length), σ') → u = .slice ad A.length cap → os.length = A.length * i.size →
          (∀ A', ad = some A' → ∀ (j : Nat) u, os[j]? = some u → w.cell? (A'.add j) = some u) → (ad = none → A.length = 0 ∧ cap = 0) → cap < A.length + B.length → A.length ≤ cap → allSz i.size A = true → ((A.length + B.length : Nat) : Int) ≤ 9223372036854775807 →
          (∀ (j : Nat) x (k : Nat) c q, A[j]? = some x → x.cells[k]? = some c → os[j * i.size + k]? = some q → RepP w G1 c q) → (∀ q ∈ os, q.oneCell' = true) → SimOp P o a w G ρ r.1 r.2 := by
        intro G1 ρ1 σ1 σ' k ad cap os s1 e1 hp hr hua hol hoc hon hg hnc hallA h63 horep ho1
        subst hr hua
        have hrun := run_app_grows (P := P) (w := w) (ty := o.type) (bcap := bcap) ht hi hz hol hul hoc hon hucell (fun x => by rw [hunone x]; rfl) hg hnc hbytes h63
        have hge := grownCap_ge w (A.length + B.length) cap el
        have hAc : ∀ (j : Nat) x, A[j]? = some x → x.cells.length = i.size := fun j x hx => by simpa using List.all_eq_true.1 hallA x (List.mem_of_getElem? hx)
        have hBc : ∀ (j : Nat) x, B[j]? = some x → x.cells.length = i.size := fun j x hx => by simpa using List.all_eq_true.1 hallB x (List.mem_of_getElem? hx)
        have hABc : ∀ (j : Nat) x, (A ++ B)[j]? = some x → x.cells.length = i.size := by
          intro j x hx
          rcases Nat.lt_or_ge j A.length with h1 | h1
          · rw [List.getElem?_append_left h1] at hx; exact hAc j x hx
          · rw [List.getElem?_append_right h1] at hx; exact hBc _ x hx
        have harr : (os.toArray ++ us.toArray ++ Builtin.zeroCells z.cells (grownCap w (A.length + B.length) cap el - (A.length + B.length))).size = grownCap w (A.length + B.length) cap el * i.size := by
          simp only [Array.size_append, List.size_toArray, hol, hul, size_zeroCells, hzs]
          rw [← Nat.add_mul, ← Nat.add_mul]
          congr 1; omega
        obtain ⟨ρ2, s2, e2, rep2⟩ := push_row (n := A.length + B.length) (w' := w.drew.alloc (.cells (os.toArray ++ us.toArray ++ Builtin.zeroCells z.cells (grownCap w (A.length + B.length) cap el - (A.length + B.length))) el)) s1 hp rfl hge (by rw [harr]; exact Nat.le_refl _)
          (by rw [harr, List.length_append]; exact Nat.mul_le_mul_right _ hge) hABc
          (by
            intro j x q c p hx hc hp'
            have hq : q < i.size := by rw [← hABc j x hx]; exact get_lt hc
            have hget : (os ++ us ++ (Builtin.zeroCells z.cells (grownCap w (A.length + B.length) cap el - (A.length + B.length))).toList)[j * i.size + q]? = some p := by
              have : (os.toArray ++ us.toArray ++ Builtin.zeroCells z.cells (grownCap w (A.length + B.length) cap el - (A.length + B.length))).toList = os ++ us ++ (Builtin.zeroCells z.cells (grownCap w (A.length + B.length) cap el - (A.length + B.length))).toList := by simp
              rw [← this, Array.getElem?_toList]
              exact hp'
            rcases seg_get (zs := (Builtin.zeroCells z.cells (grownCap w (A.length + B.length) cap el - (A.length + B.length))).toList) hol hul hx hq with ⟨h1, h2, h3⟩ | ⟨h1, h2, h3⟩
            · rw [h3] at hget
              exact ⟨horep j x q c p h2 hc hget, ho1 p (List.mem_of_getElem? hget)⟩
            · rw [h3] at hget
              exact ⟨(hurep _ x q c p h2 hc hget).mono (fun _ _ => rfl) e1.grow, hu1 p (List.mem_of_getElem? hget)⟩)
        refine ⟨.value _, _, _, G1, ρ2, ?_, .inl rfl, s2, e1.trans e2, rep2⟩
        rw [exec, hrun]; rfl
      split at h
      · -- nil
        rename_i hnil
        rw [hnil] at r1 hA
        have hu0 := rep_nils r1
        subst hu0
        simp only [content, Option.some.injEq] at hA
        subst hA
        simp only [Option.map_eq_some_iff] at h
        obtain ⟨⟨k, σ'⟩, hp, hr⟩ := h
        by_cases hm : B.length = 0
        · have hB0 : B = [] := by simpa using hm
          subst hB0
          obtain ⟨ρ', s1, e1, hk⟩ := hs.pushDet hp
          subst hr
          have hrun := run_app_fits (P := P) (w := w) (ty := o.type) (n := 0) (cap := 0) (ad := none) (bcap := bcap) (w' := w) ht hi hul hucell (fun _ => rfl) (by simp) rfl
          refine ⟨.value _, _, w, G, ρ', by rw [exec, hrun]; rfl, .inl rfl, s1, e1, ?_⟩
          exact .own _ _ _ _ _ (by simp) (by simp [OwnOk, hk])
        · exact fresh (os := []) hs Ext.refl hp hr.symm rfl (by simp) (by simp) (fun _ => ⟨rfl, rfl⟩) (by simp; omega) (by simp) (by simp [allSz]) h63 (by simp) (by simp)
      · -- a block of our own
        rename_i b off n hown
        split at h
        · rename_i s es hb
          split at h
          · rename_i hss
            subst hss
            simp only [Option.map_eq_some_iff] at h
            obtain ⟨⟨k, σ'⟩, hp, hr⟩ := h
            rw [hown] at r1 hA
            have r1' := r1
            obtain ⟨ad, cap, rfl, hcap, hok⟩ := rep_own r1
            obtain ⟨l, hl, hblk⟩ := hs.get hb
            have hA' := hA
            simp only [content, hb] at hA'
            split at hA'
            · rename_i hle
              cases hA'
              have hlen : ((es.drop off).take n).length = n := by simp; omega
              have hcl : ∀ (j : Nat) x, es[j]? = some x → x.cells.length = i.size := by
                cases l with
                | lv blk o' t s' => obtain ⟨rfl, _, _, _, _, _, _, hcl, _⟩ := hblk; exact hcl
                | det => simp only [BlkOk] at hblk; subst hblk; simp
                | dead => exact hblk.elim
                | hole => exact hblk.elim
              have hallA : allSz i.size ((es.drop off).take n) = true := by
                rw [allSz, List.all_eq_true]
                intro x hx
                have := List.mem_of_mem_drop (List.mem_of_mem_take hx)
                obtain ⟨j, hj⟩ := List.getElem?_of_mem this
                simpa using hcl j x hj
              obtain ⟨ad2, cap2, os, he2, _, hol, hocell, honone, horep, ho1⟩ := content_rep hs hA r1' hallA
              simp only [Value.slice.injEq] at he2
              obtain ⟨rfl, _, rfl⟩ := he2
              rw [hlen] at hol h63 hbytes
              -- the old block is given up
              have hdie : ∃ G1 ρ1, St w G1 ρ1 (σ.set b .dead) ∧ Ext w G ρ w G1 ρ1 := by
                cases l with
                | lv blk o' t s' => obtain ⟨x1, x2⟩ := hs.give hl; exact ⟨_, _, x1, x2⟩
                | det => obtain ⟨x1, x2⟩ := hs.giveDet hl (by rintro ⟨_, _, _, _, x⟩; cases x); exact ⟨_, _, x1, x2⟩
                | dead => exact hblk.elim
                | hole => exact hblk.elim
              rcases Nat.lt_or_ge cap (n + B.length) with hroom | hroom
              · obtain ⟨G1, ρ1, s1, e1⟩ := hdie
                refine fresh (os := os) (cap := cap) (ad := ad) s1 e1 hp hr.symm (by rw [hlen]) (by rw [hlen]; exact hol) hocell ?_ (by rw [hlen]; exact hroom) (by rw [hlen]; exact hcap) hallA (by rw [hlen]; exact h63) ?_ ho1
                · intro hnone
                  have := honone hnone
                  refine ⟨by rw [this]; rfl, ?_⟩
                  simp only [OwnOk, hl] at hok
                  cases l with
                  | lv blk o' t s' =>
                    simp only at hok
                    rcases hok with h | ⟨h, _⟩
                    · exact h
                    · rw [hnone] at h; cases h
                  | det => exact hok
                  | dead => exact hblk.elim
                  | hole => exact hblk.elim
                · intro j x k c q h1 h2 h3
                  exact (horep j x k c q h1 h2 h3).mono (fun _ _ => rfl) e1.grow
              · -- there is room
                by_cases hm : B.length = 0
                · have hB0 : B = [] := by simpa using hm
                  subst hB0
                  have hus : us = [] := by simpa using hul
                  subst hus
                  have hrun := run_app_fits (P := P) (w := w) (ty := o.type) (n := n) (cap := cap) (ad := ad) (bcap := bcap) (w' := w) ht hi hul hucell (fun x => rfl) (by simpa using hcap) (by cases ad <;> rfl)
                  have hnewloc : ∃ l', (∀ (blk o t s : Nat), l' = .lv blk o t s → ∃ o' t' s', l = .lv blk o' t' s') ∧ (∀ ρ', LocExt ρ ρ' → BlkOk w G ρ' l' (.prow i.size ((es.drop off).take n))) ∧
                      (match l' with | .lv blk o tot sz => cap = 0 ∨ (ad = some ⟨blk, o + 0 * sz, none⟩ ∧ o + (0 + cap) * sz ≤ tot) | .det => cap = 0 | _ => False) := by
                    cases l with
                    | lv blk o' t s' =>
                      obtain ⟨rfl, hng, arr, el', hh, rfl, hfit, hcl2, hk2⟩ := hblk
                      simp only [OwnOk, hl] at hok
                      rcases hok with hc0 | ⟨hada, hf2⟩
                      · refine ⟨.det, by simp, ?_, hc0⟩
                        intro ρ' _
                        have : n = 0 := by omega
                        subst this
                        simp [BlkOk]
                      · have hmul : (off + n) * i.size ≤ es.length * i.size := Nat.mul_le_mul_right _ hle
                        rw [Nat.add_mul] at hmul
                        refine ⟨.lv blk (o' + off * i.size) arr.size i.size, ?_, ?_, .inr ⟨by simpa using hada, by rw [Nat.add_mul] at hf2; simpa [Nat.add_assoc] using hf2⟩⟩
                        · rintro blk' o2 t2 s2 h2; cases h2; exact ⟨_, _, _, rfl⟩
                        · intro ρ' _
                          refine ⟨rfl, hng, arr, el', hh, rfl, by rw [hlen]; omega, ?_, ?_⟩
                          · intro j x hx
                            rw [List.getElem?_take] at hx
                            split at hx
                            · rw [List.getElem?_drop] at hx; exact hcl2 _ _ hx
                            · cases hx
                          · intro j x k c u hx hc hu
                            rw [List.getElem?_take] at hx
                            split at hx
                            · rw [List.getElem?_drop] at hx
                              exact hk2 (off + j) x k c u hx hc (by rw [Nat.add_mul, show o' + (off * i.size + j * i.size) + k = o' + off * i.size + j * i.size + k by omega]; exact hu)
                            · cases hx
                    | det =>
                      refine ⟨.det, by simp, ?_, by simpa [OwnOk, hl] using hok⟩
                      intro ρ' _
                      simp only [BlkOk] at hblk ⊢
                      subst hblk
                      simp
                    | dead => exact hblk.elim
                    | hole => exact hblk.elim
                  obtain ⟨l', hl'1, hl'2, hl'3⟩ := hnewloc
                  simp only [List.append_nil] at hp
                  obtain ⟨ρ', s1, e1, hk⟩ := hs.repl hl hp hl'1 hl'2
                  subst hr
                  refine ⟨.value _, _, w, G, ρ', by rw [exec, hrun]; rfl, .inl rfl, s1, e1, ?_⟩
                  have hrep : RepC w G ρ' (.own k 0 n) (.slice ad n cap) := by
                    refine .own _ _ _ _ _ (by simpa using hcap) ?_
                    simp only [OwnOk, hk]
                    cases l' <;> first | exact hl'3 | exact hl'3.elim
                  simpa [hlen] using hrep
                · cases l with
                  | lv blk o' t s' =>
                    obtain ⟨rfl, hng, arr, el', hh, rfl, hfit, hcl2, hk2⟩ := hblk
                    simp only [OwnOk, hl] at hok
                    rcases hok with hc0 | ⟨rfl, hf2⟩
                    · omega
                    · have hmul : (off + n) * i.size ≤ es.length * i.size := Nat.mul_le_mul_right _ hle
                      have hmul2 : (off + (n + B.length)) * i.size ≤ (off + cap) * i.size := Nat.mul_le_mul_right _ (by omega)
                      have hx1 : (off + n) * i.size = off * i.size + n * i.size := Nat.add_mul _ _ _
                      have hx2 : (off + (n + B.length)) * i.size = off * i.size + n * i.size + B.length * i.size := by rw [Nat.add_mul, Nat.add_mul]; omega
                      have hW : o' + off * i.size + n * i.size + us.length ≤ arr.size := by rw [hul]; omega
                      have hst := run_storeCells_at P blk (o' + off * i.size + n * i.size) el' us 0 arr w hh (by omega) hu1
                      simp only [Nat.add_zero] at hst
                      have hrun := run_app_fits (P := P) (w := w) (ty := o.type) (n := n) (cap := cap) (ad := some ⟨blk, o' + off * i.size, none⟩) (bcap := bcap) (w' := w.setRow blk (wrote arr (o' + off * i.size + n * i.size) us)) ht hi hul hucell (fun x => by rw [hunone x]; rfl) hroom
                        (by simp only [add_at]; exact hst)
                      have hGsame : ∀ k, G k → (w.setRow blk (wrote arr (o' + off * i.size + n * i.size) us)).heap[k]? = w.heap[k]? := by
                        intro q hq
                        rw [setRow_eq hh, Array.getElem?_setIfInBounds_ne]
                        rintro rfl; exact hng hq
                      have hnew : (w.setRow blk (wrote arr (o' + off * i.size + n * i.size) us)).heap[blk]? = some (.cells (wrote arr (o' + off * i.size + n * i.size) us) el' (0, 0)) := by
                        rw [setRow_eq hh, Array.getElem?_setIfInBounds_self_of_lt (aget_lt hh)]
                      obtain ⟨s1, e1⟩ := hs.write (w' := w.setRow blk (wrote arr (o' + off * i.size + n * i.size) us)) hl (aget_lt hh) (setRow_eq hh) (b := .prow i.size [])
                        ⟨rfl, hng, _, el', hnew, wrote_size hW, by simp; omega, by simp, by simp⟩
                      have hp' : Vpi.push base sl ((σ.set b (.prow i.size [])).set b .dead) (.prow i.size (List.take n (List.drop off es) ++ B)) = some (k, σ') := by rw [List.set_set]; exact hp
                      obtain ⟨ρ', s2, e2, hk⟩ := s1.repl hl hp' (l := .lv blk (o' + off * i.size) arr.size i.size) (by rintro blk' o2 t2 s2 h2; cases h2; exact ⟨_, _, _, rfl⟩) (by
                        intro ρ' _
                        refine ⟨rfl, hng, _, el', hnew, wrote_size hW, ?_, ?_, ?_⟩
                        · rw [List.length_append, hlen, Nat.add_mul]; omega
                        · intro j x hx
                          rcases Nat.lt_or_ge j n with h1 | h1
                          · rw [List.getElem?_append_left (by rw [hlen]; exact h1), List.getElem?_take, if_pos h1, List.getElem?_drop] at hx; exact hcl2 _ _ hx
                          · rw [List.getElem?_append_right (by rw [hlen]; exact h1)] at hx
                            simpa using List.all_eq_true.1 hallB x (List.mem_of_getElem? hx)
                        · intro j x q c p hx hc hpq
                          rw [wrote_get hW] at hpq
                          rcases Nat.lt_or_ge j n with h1 | h1
                          · rw [List.getElem?_append_left (by rw [hlen]; exact h1), List.getElem?_take, if_pos h1, List.getElem?_drop] at hx
                            have hq : q < i.size := by rw [← hcl2 _ _ hx]; exact get_lt hc
                            have h2 : (j + 1) * i.size ≤ n * i.size := Nat.mul_le_mul_right _ h1
                            rw [Nat.succ_mul] at h2
                            rw [if_neg (by omega)] at hpq
                            obtain ⟨y1, y2⟩ := hk2 (off + j) x q c p hx hc (by rw [Nat.add_mul, show o' + (off * i.size + j * i.size) + q = o' + off * i.size + j * i.size + q by omega]; exact hpq)
                            exact ⟨y1.mono hGsame (fun _ y => y), y2⟩
                          · rw [List.getElem?_append_right (by rw [hlen]; exact h1), hlen] at hx
                            have hq : q < i.size := by rw [← (by simpa using List.all_eq_true.1 hallB x (List.mem_of_getElem? hx) : x.cells.length = i.size)]; exact get_lt hc
                            have hjB := get_lt hx
                            have h2 : (j - n + 1) * i.size ≤ B.length * i.size := Nat.mul_le_mul_right _ hjB
                            rw [Nat.succ_mul] at h2
                            have h3 : j * i.size = n * i.size + (j - n) * i.size := by rw [← Nat.add_mul]; congr 1; omega
                            rw [if_pos (by omega), show o' + off * i.size + j * i.size + q - (o' + off * i.size + n * i.size) = (j - n) * i.size + q by omega] at hpq
                            exact ⟨(hurep _ x q c p hx hc hpq).mono hGsame (fun _ y => y), hu1 p (List.mem_of_getElem? hpq)⟩)
                      subst hr
                      have hrep : RepC (w.setRow blk (wrote arr (o' + off * i.size + n * i.size) us)) G ρ' (.own k 0 (n + B.length)) (.slice (some ⟨blk, o' + off * i.size, none⟩) (n + B.length) cap) := by
                        refine .own _ _ _ _ _ hroom ?_
                        simp only [OwnOk, hk]
                        right
                        rw [Nat.add_mul] at hf2
                        exact ⟨by simp, by simp; omega⟩
                      exact ⟨.value _, _, _, G, ρ', by rw [exec, hrun]; rfl, .inl rfl, s2, e1.trans e2, by simpa [hlen] using hrep⟩
                  | det => simp only [OwnOk, hl] at hok; omega
                  | dead => exact hblk.elim
                  | hole => exact hblk.elim
            · cases hA'
          · cases h
        · cases h
      · cases h
    · cases h
  · cases h

theorem exec_copy {c : Call} {x y : Operand} {t t2 : TypeId} (ho : o.op = .call c) (hc1 : c.callee = .builtin .copy) (hc2 : c.args = #[x, y]) (hc3 : c.argTypes = #[t, t2]) :
    (execOp a.eval o).run P w = ((Builtin.copy_ #[t, t2] o.type #[a.eval x, a.eval y]).run P w).andThen fun v w => .ok (.value v) w := by
  simp [execOp, ho, resolve, hc1, hc2, hc3, invoke, builtin]

theorem run_copy_all {t t2 el ty : TypeId} {sz n cap m bcap : Nat} {ad bd : Option Addr} {us : List Value} {w' : World} (ht : P.underlying t = some (.slice el)) (hz : szP P el = some sz) (hl : us.length = (min m n) * sz)
    (h : ∀ A, bd = some A → ∀ (j : Nat) u, us[j]? = some u → w.cell? (A.add j) = some u) (hn : bd = none → m = 0) (hst : match ad with | some A => (storeCells A us).run P w = .ok () w' | none => w' = w) :
    (Builtin.copy_ #[t, t2] ty #[.slice ad n cap, .slice bd m bcap]).run P w = .ok (.int .i64 ((min m n : Nat) : Int)) w' := by
  have hf : (Builtin.firstCells sz (min m n) (.slice bd m bcap)).run P w = .ok us.toArray w := by
    cases bd with
    | none =>
      have := hn rfl
      subst this
      have : us = [] := by simpa using hl
      subst this
      simp [Builtin.firstCells]
    | some A => exact run_firstCells_some (P := P) w sz (min m n) A m bcap us hl (h A rfl)
  have hmin : Nat.min m n = min m n := rfl
  cases ad with
  | none => subst hst; simp [Builtin.copy_, run_underlying ht, run_sizeOf hz, Builtin.lenOf, hmin, hf, goInt]
  | some A => simp [Builtin.copy_, run_underlying ht, run_sizeOf hz, Builtin.lenOf, hmin, hf, hst, goInt]

theorem content_len {c : CV} {xs : List PV} (h : content σ c = some xs) : ∃ m, lenV c = some m := by
  cases c with
  | p v => cases v <;> first | exact ⟨_, rfl⟩ | cases h
  | nils => exact ⟨_, rfl⟩
  | own b off n => exact ⟨_, rfl⟩
  | _ => cases h

theorem sim_copy {sz : Nat} {t t2 el : TypeId} {x y : Operand} {x' y' : Opd} {r : CV × Store} (hs : St w G ρ σ) (he : RepE w G ρ e a.tmps) (ho : ∃ c : Call, o.op = .call c ∧ c.callee = .builtin .copy ∧ c.args = #[x, y] ∧ c.argTypes = #[t, t2])
    (hx : okOpd x x' = true) (hy : okOpd y y' = true) (ht : P.underlying t = some (.slice el)) (hz : szP P el = some sz) (h : ev base sl (.copy sz x' y') e σ = some r) : SimOp P o a w G ρ r.1 r.2 := by
  have r1 := okOpd_rep hx he
  have r2 := okOpd_rep hy he
  obtain ⟨c, ho, hc1, hc2, hc3⟩ := ho
  have exec := exec_copy (P := P) (w := w) (a := a) ho hc1 hc2 hc3
  generalize hu : a.eval x = u at r1
  generalize hv : a.eval y = v at r2
  rw [hu, hv] at exec
  simp only [ev] at h
  split at h
  · rename_i b off n xs hd hc
    split at h
    · rename_i s es hb
      split at h
      · rename_i hcond
        obtain ⟨hle, rfl, hall⟩ := hcond
        cases h
        rw [hd] at r1
        obtain ⟨ad, cap, rfl, hcap, hok⟩ := rep_own r1
        obtain ⟨bd, bcap, us, rfl, hbcap, hul, hucell, hunone, hurep, hu1⟩ := content_rep hs hc r2 hall
        have hlt := get_lt hb
        by_cases hm : min xs.length n = 0
        · have hxt : xs.take n = [] := by
            rw [← List.length_eq_zero_iff, List.length_take, Nat.min_comm]; exact hm
          have hrun := run_copy_all (P := P) (w := w) (t2 := t2) (ty := o.type) (n := n) (cap := cap) (ad := ad) (bcap := bcap) (m := xs.length) (us := []) (w' := w) ht hz (by rw [hm]; simp) (by simp) (fun x => by rw [hunone x]; rfl) (by cases ad <;> rfl)
          have hset : σ.set b (.prow s (setCells es off (xs.take n))) = σ := by
            rw [hxt]
            simp only [setCells, List.append_nil, List.length_nil, Nat.add_zero, List.take_append_drop]
            have : σ[b] = .prow s es := by
              rw [List.getElem?_eq_getElem hlt] at hb; simpa using hb
            rw [← this, List.set_getElem_self]
          rw [hset]
          exact SimOp.quiet hs (by rw [exec, hrun]; rfl) (.p _ _ (.int _ _))
        · obtain ⟨l, hl, hblk⟩ := hs.get hb
          cases l with
          | lv blk o' t' s' =>
            obtain ⟨rfl, hng, arr, el', hh, rfl, hfit, hcl, hk⟩ := hblk
            simp only [OwnOk, hl] at hok
            rcases hok with hc0 | ⟨rfl, hf2⟩
            · omega
            · have hmn : min xs.length n ≤ n := Nat.min_le_right _ _
              have hmx : min xs.length n ≤ xs.length := Nat.min_le_left _ _
              have hmulA : (off + min xs.length n) * s ≤ es.length * s := Nat.mul_le_mul_right _ (by omega)
              rw [Nat.add_mul] at hmulA
              have hmulB : min xs.length n * s ≤ xs.length * s := Nat.mul_le_mul_right _ hmx
              have htl : (us.take (min xs.length n * s)).length = min xs.length n * s := by rw [List.length_take, hul]; omega
              have htk : (xs.take n).length = min xs.length n := by rw [List.length_take, Nat.min_comm]
              have hW : o' + off * s + (us.take (min xs.length n * s)).length ≤ arr.size := by rw [htl]; omega
              have hst := run_storeCells_at P blk (o' + off * s) el' (us.take (min xs.length n * s)) 0 arr w hh (by omega) (fun q hq => hu1 q (List.mem_of_mem_take hq))
              simp only [Nat.add_zero] at hst
              have hrun := run_copy_all (P := P) (w := w) (t2 := t2) (ty := o.type) (n := n) (cap := cap) (ad := some ⟨blk, o' + off * s, none⟩) (bcap := bcap) (m := xs.length) (us := us.take (min xs.length n * s)) (w' := w.setRow blk (wrote arr (o' + off * s) (us.take (min xs.length n * s)))) ht hz htl
                (by
                  intro A hA j q hq
                  rw [List.getElem?_take] at hq
                  split at hq
                  · exact hucell A hA j q hq
                  · cases hq)
                (fun x => by rw [hunone x]; rfl) hst
              have hGsame : ∀ k, G k → (w.setRow blk (wrote arr (o' + off * s) (us.take (min xs.length n * s)))).heap[k]? = w.heap[k]? := by
                intro q hq
                rw [setRow_eq hh, Array.getElem?_setIfInBounds_ne]
                rintro rfl; exact hng hq
              have hnew : (w.setRow blk (wrote arr (o' + off * s) (us.take (min xs.length n * s)))).heap[blk]? = some (.cells (wrote arr (o' + off * s) (us.take (min xs.length n * s))) el' (0, 0)) := by
                rw [setRow_eq hh, Array.getElem?_setIfInBounds_self_of_lt (aget_lt hh)]
              have hsf : off + (xs.take n).length ≤ es.length := by rw [htk]; omega
              obtain ⟨s1, e1⟩ := hs.write (w' := w.setRow blk (wrote arr (o' + off * s) (us.take (min xs.length n * s)))) hl (aget_lt hh) (setRow_eq hh) (b := .prow s (setCells es off (xs.take n))) (by
                refine ⟨rfl, hng, _, el', hnew, wrote_size hW, by rw [setCells_len2 hsf]; exact hfit, ?_, ?_⟩
                · intro j x hx
                  rw [setCells_get _ _ _ _ hsf] at hx
                  split at hx
                  · rw [List.getElem?_take] at hx
                    split at hx
                    · simpa using List.all_eq_true.1 hall x (List.mem_of_getElem? hx)
                    · cases hx
                  · exact hcl j x hx
                · intro j x q c p hx hc' hpq
                  rw [setCells_get _ _ _ _ hsf, htk] at hx
                  rw [wrote_get hW, htl] at hpq
                  by_cases hin : off ≤ j ∧ j < off + min xs.length n
                  · rw [if_pos hin, List.getElem?_take, if_pos (by omega)] at hx
                    have hq : q < s := by rw [← (by simpa using List.all_eq_true.1 hall x (List.mem_of_getElem? hx) : x.cells.length = s)]; exact get_lt hc'
                    have h2 : (j - off + 1) * s ≤ min xs.length n * s := Nat.mul_le_mul_right _ (by omega)
                    rw [Nat.succ_mul] at h2
                    have h3 : j * s = off * s + (j - off) * s := by rw [← Nat.add_mul]; congr 1; omega
                    rw [if_pos (by omega), List.getElem?_take, if_pos (by omega), show o' + j * s + q - (o' + off * s) = (j - off) * s + q by omega] at hpq
                    exact ⟨(hurep _ x q c p hx hc' hpq).mono hGsame (fun _ y => y), hu1 p (List.mem_of_getElem? hpq)⟩
                  · rw [if_neg hin] at hx
                    have hq : q < s := by rw [← hcl j x hx]; exact get_lt hc'
                    have hout : ¬ (o' + off * s ≤ o' + j * s + q ∧ o' + j * s + q < o' + off * s + min xs.length n * s) := by
                      rintro ⟨x2, x3⟩
                      rcases Nat.lt_or_ge j off with hlt2 | hge2
                      · have := Nat.mul_le_mul_right s (show j + 1 ≤ off from hlt2)
                        rw [Nat.succ_mul] at this
                        omega
                      · have := Nat.mul_le_mul_right s (show off + min xs.length n ≤ j by omega)
                        rw [Nat.add_mul] at this
                        omega
                    rw [if_neg hout] at hpq
                    obtain ⟨y1, y2⟩ := hk j x q c p hx hc' hpq
                    exact ⟨y1.mono hGsame (fun _ y => y), y2⟩)
              exact ⟨.value _, _, _, G, ρ, by rw [exec, hrun]; rfl, .inl rfl, s1, e1, .p _ _ (.int _ _)⟩
          | det => simp only [OwnOk, hl] at hok; omega
          | dead => exact hblk.elim
          | hole => exact hblk.elim
      · cases h
    · cases h
  · rename_i xs hd hc
    cases h
    rw [hd] at r1
    have := rep_nils r1
    subst this
    obtain ⟨m, hm⟩ := content_len hc
    obtain ⟨bd, bcap, rfl, _⟩ := slice_spec hm r2
    have hmin : Nat.min m 0 = 0 := Nat.min_zero m
    have hf : (Builtin.firstCells sz 0 (.slice bd m bcap)).run P w = .ok #[] w := by
      cases bd with
      | none => simp [Builtin.firstCells]
      | some A => exact run_firstCells_some (P := P) w sz 0 A m bcap [] (by simp) (by simp)
    refine SimOp.quiet (v := .int .i64 0) hs ?_ (.p _ _ (.int _ _))
    rw [exec]
    simp [Builtin.copy_, run_underlying ht, run_sizeOf hz, Builtin.lenOf, hmin, hf, goInt]
  · cases h

end
end Go.Proofs.YtnbglampelmgoaaGreat.Vpi
