/- Resolved code of functions, printed by a program of ours (genfun.py); each is held against the model by chkF; The functions together; Determinants: expansion along a row, cofactors, rows exchanged, elimination with pivots, Cramer, coefficients along rows: plain facts, no program in sight; elim.Det, walked: over a table of its own. No condition. -/
import Derived.Test.YtdpdnplljonppaaZa3
import Derived.Test.YtdpdnplljonppaaProg
import Derived.KernelRfl
import Derived.Test.YtdpdnplljonppaaZb1

namespace Go.Proofs.Ytdpdnplljonppaa.VDt
open Go Vpi
set_option maxRecDepth 100000
def f27 : RFun := ⟨(.seq (.reg [lq 2 (.alloc [.p (.bool false), .nils]), lq 3 (.mv (ki 0))] none)
 (.seq (.seq (.reg [mq 7 0, lq 8 (.call .pu 76 [.t 7]), mq 6 8, lq 9 (.extract (.t 6) 0), lq 10 (.extract (.t 6) 1), mq 4 9, mq 5 10] none)
 (.seq (.reg [mq 11 5, lq 12 (.bin .neq (.t 11) (ki 0))] none)
 (.fg [0, 2, 5, 12] (.cond (.t 12)
 (.seq (.reg [lq 13 (.build [.p (.bool false), .nils] []), mq 14 5, sq 2 2 13, mq 3 14] none)
 .ret)
 .skip))))
 (.seq (.reg [mq 15 0, lq 16 (.call .pu 77 [.t 15]), sq 2 2 16, lq 3 (.mv (ki 0))] none)
 .ret))), [.cell 2 true 2, .t 3]⟩
theorem c27 : chkF Try.prog 27 f27 = true := by kernel_rfl
def f57 : RFun := ⟨(.seq (.reg [lq 1 (.box (.t 0)), lq 2 (.alloc [.p (.bool false), .nils])] none)
 (.seq (.reg [lq 3 (.fieldA 0 (.t 1)), lF 4 1 3, lq 5 (.fieldA 1 (.t 1)), lF 6 1 5, lq 7 (.call .pu 71 [.t 4, .t 6]), sq 2 2 7] none)
 .ret)), [.cell 2 true 2]⟩
theorem c57 : chkF Try.prog 57 f57 = true := by kernel_rfl
def f76 : RFun := ⟨(.seq (.reg [lq 2 (.mv (ki 0)), lq 3 (.mv (ki 0))] none)
 (.seq (.reg [mq 8 0, lq 9 (.call .pu 129 [.t 8]), mq 7 9, lq 10 (.extract (.t 7) 0), lq 11 (.extract (.t 7) 1), lq 12 (.extract (.t 7) 2), mq 4 10, mq 5 11, mq 6 12] none)
 (.seq (.seq (.reg [mq 13 6, lq 14 (.bin .eql (.t 13) (ki 0)), mq 15 14, ⟨(some 16), (some (15, true)), none, .mv (.t 4)⟩, ⟨(some 17), (some (15, true)), none, .mv (.t 5)⟩, ⟨(some 18), (some (15, true)), none, .bin .neq (.t 16) (.t 17)⟩, lq 19 (.pick (.t 15) (.t 18) (.c (.p (.bool false))))] none)
 (.fg [4, 6, 19] (.cond (.t 19)
 (.reg [lq 6 (.mv (ki 8))] none)
 .skip)))
 (.seq (.reg [mq 20 4, mq 21 6, mq 2 20, mq 3 21] none)
 .ret)))), [.t 2, .t 3]⟩
theorem c76 : chkF Try.prog 76 f76 = true := by kernel_rfl
def f77 : RFun := ⟨(.seq (.reg [lq 2 (.alloc [.p (.bool false), .nils])] none)
 (.seq (.reg [mq 8 0, lq 9 (.len (.t 8)), mq 3 9] none)
 (.seq (.reg [mq 11 0, mq 12 3, lq 13 (.call .keep 130 [.t 11, .t 12]), mq 10 13, lq 14 (.extract (.t 10) 0), lq 15 (.extract (.t 10) 1), lq 16 (.extract (.t 10) 2), lq 17 (.extract (.t 10) 3), lq 6 (.alloc [.p (.bool false), .nils]), mq 4 14, mq 5 15, sq 2 6 16, mq 7 17] none)
 (.seq (.block 0
 (.seq (.reg [mq 19 5, lq 20 (.len (.t 19)), mq 21 3, bq 22 .lss 20 21, mq 18 22] none)
 (.fg [2, 6, 7, 18] (.cond (.t 18)
 (.seq (.reg [lq 23 (.build [.p (.bool false), .nils] []), sq 2 2 23] none)
 .ret)
 (.seq (.reg [mq 25 7, mq 24 25] none)
 (.fg [2, 6, 24] (.cond (.t 24)
 (.seq (.reg [lT 26 2 6, lq 27 (.call .fz 131 [.t 26]), sq 2 2 27] none)
 .ret)
 .skip)))))))
 (.fg [2, 6] (.seq (.reg [lT 28 2 6, lq 29 (.call .fz 57 [.t 28]), sq 2 2 29] none)
 .ret)))))), [.cell 2 true 2]⟩
theorem c77 : chkF Try.prog 77 f77 = true := by kernel_rfl
def f129 : RFun := ⟨(.seq (.reg [lq 2 (.mv (ki 0)), lq 3 (.mv (ki 0)), lq 4 (.mv (ki 0))] none)
 (.seq (.reg [mq 9 0, lq 10 (.call .pu 56 [.t 9]), mq 8 10, lq 11 (.extract (.t 8) 0), lq 12 (.extract (.t 8) 1), lq 13 (.extract (.t 8) 2), mq 5 11, mq 6 12, mq 7 13] none)
 (.seq (.seq (.reg [mq 14 7, lq 15 (.bin .neq (.t 14) (ki 0))] none)
 (.fg [5, 6, 7, 15] (.cond (.t 15)
 (.seq (.reg [mq 16 7, lq 2 (.mv (ki 0)), lq 3 (.mv (ki 0)), mq 4 16] none)
 .ret)
 .skip)))
 (.seq (.seq (.reg [mq 17 5, lq 18 (.bin .gtr (.t 17) (ki 64)), mq 19 18, ⟨(some 20), (some (19, false)), none, .mv (.t 6)⟩, ⟨(some 21), (some (19, false)), none, .bin .gtr (.t 20) (ki 64)⟩, lq 22 (.pick (.t 19) (.c (.p (.bool true))) (.t 21))] none)
 (.fg [5, 6, 22] (.cond (.t 22)
 (.seq (.reg [lq 2 (.mv (ki 0)), lq 3 (.mv (ki 0)), lq 4 (.mv (ki 60))] none)
 .ret)
 .skip)))
 (.seq (.reg [mq 23 5, mq 24 6, mq 2 23, mq 3 24, lq 4 (.mv (ki 0))] none)
 .ret))))), [.t 2, .t 3, .t 4]⟩
theorem c129 : chkF Try.prog 129 f129 = true := by kernel_rfl
def f130 : RFun := ⟨(.seq (.reg [lq 4 (.mv (.c (.nils))), lq 5 (.mv (.c (.nils))), lq 6 (.alloc [.p (.bool false), .nils]), lq 7 (.mv (.c (.p (.bool false))))] none)
 (.scope
 (.seq (.reg [mq 18 0, lq 19 (.call .keep 168 [.t 18]), mq 8 19] none)
 (.seq (.reg [lq 9 (.mv (.c (.nils)))] none)
 (.seq (.reg [lq 20 (.call .pu 25 [.c (.p (.int .i64 1))]), lq 10 (.alloc [.p (.bool false), .nils]), sq 2 10 20, lq 11 (.mv (.c (.p (.bool false))))] none)
 (.seq .skip
 (.seq (.seq (.reg [mq 21 1, lq 22 (.mv (ki 0))] none)
 (.fg [6, 8, 9, 10, 11, 21, 22] (.block 0
 (.loop (.fg [6, 8, 9, 10, 11, 21, 22]
 (.seq (.reg [bq 23 .lss 22 21] none)
 (.seq (.cond (.t 23)
 .skip
 (.exit 0))
 (.fg [6, 8, 9, 10, 11, 21, 22] (.seq (.block 1
 (.seq (.reg [mq 24 22, mq 12 24] none)
 (.seq (.reg [mq 25 9, lq 26 (.len (.t 25)), mq 13 26] none)
 (.seq (.reg [mq 27 13, mq 14 27] none)
 (.seq (.block 2
 (.loop (.fg [6, 8, 9, 10, 11, 12, 13, 14, 21, 22]
 (.seq (.seq (.reg [mq 28 14, mq 29 8, lq 30 (.len (.t 29)), bq 31 .lss 28 30, mq 32 31, ⟨(some 33), (some (32, true)), none, .mv (.t 8)⟩, ⟨(some 34), (some (32, true)), none, .mv (.t 14)⟩, ⟨(some 35), (some (32, true)), none, .indexA 1 (.t 33) (.t 34)⟩, ⟨(some 36), (some (32, true)), none, .load false 1 (.t 35)⟩, ⟨(some 37), (some (32, true)), none, .mv (.t 12)⟩, ⟨(some 38), (some (32, true)), none, .indexA 2 (.t 36) (.t 37)⟩, ⟨(some 39), (some (32, true)), none, .load true 2 (.t 38)⟩, ⟨(some 40), (some (32, true)), none, .call .pu 55 [.t 39]⟩, ⟨(some 41), (some (32, true)), none, .bin .eql (.t 40) (ki 0)⟩, lq 42 (.pick (.t 32) (.t 41) (.c (.p (.bool false))))] none)
 (.fg [6, 8, 9, 10, 11, 12, 13, 14, 21, 22, 42] (.cond (.t 42)
 .skip
 (.exit 2))))
 (.fg [6, 8, 9, 10, 11, 12, 13, 14, 21, 22] (.block 3
 (.reg [mq 43 14, lq 44 (.bin .add (.t 43) (ki 1)), mq 14 44] none)))))))
 (.fg [6, 8, 9, 10, 11, 12, 13, 14, 21, 22] (.seq (.seq (.reg [mq 45 14, mq 46 8, lq 47 (.len (.t 46)), bq 48 .eql 45 47] none)
 (.fg [6, 8, 9, 10, 11, 12, 13, 14, 21, 22, 48] (.cond (.t 48)
 (.exit 1)
 .skip)))
 (.seq (.seq (.reg [mq 49 14, mq 50 13, bq 51 .neq 49 50] none)
 (.fg [6, 8, 9, 10, 11, 12, 13, 14, 21, 22, 51] (.cond (.t 51)
 (.seq (.reg [mq 52 8, mq 53 14, mq 54 8, mq 55 13, mq 56 8, mq 57 13, xq 58 1 56 57, lF 59 1 58, mq 60 8, mq 61 14, xq 62 1 60 61, lF 63 1 62, xq 64 1 52 53, sq 1 64 59, xq 65 1 54 55, sq 1 65 63] (some (0, [])))
 (.reg [mq 66 11, lq 67 (.un .not (.t 66)), mq 11 67] none))
 .skip)))
 (.seq (.seq (.reg [mq 68 13, lq 69 (.bin .add (.t 68) (ki 1)), mq 15 69] none)
 (.fg [6, 8, 9, 10, 11, 12, 13, 15, 21, 22] (.block 4
 (.loop (.fg [6, 8, 9, 10, 11, 12, 13, 15, 21, 22]
 (.seq (.seq (.reg [mq 70 15, mq 71 8, lq 72 (.len (.t 71)), bq 73 .lss 70 72] none)
 (.fg [6, 8, 9, 10, 11, 12, 13, 15, 21, 22, 73] (.cond (.t 73)
 .skip
 (.exit 4))))
 (.seq (.block 5
 (.seq (.reg [mq 76 8, mq 77 15, xq 78 1 76 77, lF 79 1 78, lq 80 (.len (.t 79)), lq 81 (.bin .sub (.t 80) (ki 1)), mq 16 81] none)
 (.fg [6, 8, 9, 10, 11, 12, 13, 15, 16, 21, 22] (.block 6
 (.loop (.fg [6, 8, 9, 10, 11, 12, 13, 15, 16, 21, 22]
 (.seq (.seq (.reg [mq 82 16, mq 83 12, bq 84 .geq 82 83] none)
 (.fg [6, 8, 9, 10, 11, 12, 13, 15, 16, 21, 22, 84] (.cond (.t 84)
 .skip
 (.exit 6))))
 (.seq (.block 7
 (.seq (.reg [mq 87 8, mq 88 13, xq 89 1 87 88, lF 90 1 89, mq 91 12, xq 92 2 90 91, lT 93 2 92, mq 94 8, mq 95 15, xq 96 1 94 95, lF 97 1 96, mq 98 16, xq 99 2 97 98, lT 100 2 99, lq 101 (.call .pu 24 [.t 93, .t 100]), mq 102 8, mq 103 15, xq 104 1 102 103, lF 105 1 104, mq 106 12, xq 107 2 105 106, lT 108 2 107, mq 109 8, mq 110 13, xq 111 1 109 110, lF 112 1 111, mq 113 16, xq 114 2 112 113, lT 115 2 114, lq 116 (.call .pu 24 [.t 108, .t 115]), lq 117 (.call .pu 137 [.t 101, .t 116]), ⟨(some 17), none, (some 0), .alloc [.p (.bool false), .nils]⟩, sq 2 17 117] (some (1, [])))
 (.reg [mq 119 8, mq 120 15, xq 121 1 119 120, lF 122 1 121, mq 123 16, lT 124 2 17, lT 125 2 10, lq 126 (.call .pu 112 [.t 124, .t 125]), mq 118 126, lq 127 (.extract (.t 118) 0), lq 128 (.extract (.t 118) 1), lq 129 (.extract (.t 118) 2), xq 130 2 122 123, sq 2 130 127] (some (0, [])))))
 (.fg [6, 8, 9, 10, 11, 12, 13, 15, 16, 21, 22] (.reg [mq 85 16, lq 86 (.bin .sub (.t 85) (ki 1)), mq 16 86] none))))))))))
 (.fg [6, 8, 9, 10, 11, 12, 13, 15, 21, 22] (.reg [mq 74 15, lq 75 (.bin .add (.t 74) (ki 1)), mq 15 75] none)))))))))
 (.seq (.reg [mq 131 8, mq 132 13, xq 133 1 131 132, lF 134 1 133, mq 135 12, xq 136 2 134 135, lT 137 2 136, sq 2 10 137] none)
 (.reg [mq 138 9, mq 139 12, lq 140 (.bslice 1 [.t 139]), lq 141 (.append 1 8 (.t 138) (.t 140)), mq 9 141] none)))))))))))
 (.fg [6, 8, 9, 10, 11, 21, 22] (.reg [lq 142 (.bin .add (.t 22) (ki 1)), mq 22 142] none)))))))))))
 (.seq (.reg [mq 143 8, mq 144 9, lT 145 2 10, mq 146 11, mq 4 143, mq 5 144, sq 2 6 145, mq 7 146] (some (0, [])))
 .ret)))))))), [.t 4, .t 5, .cell 6 true 2, .t 7]⟩
theorem c130 : chkF Try.prog 130 f130 = true := by kernel_rfl
def f168 : RFun := ⟨(.seq (.reg [lq 2 (.mv (.c (.nils)))] none)
 (.seq (.reg [mq 6 0, lq 7 (.len (.t 6)), lq 8 (.mks true 1 24 (.sl []) (.t 7) (.t 7)), mq 3 8] none)
 (.seq (.seq (.reg [mq 9 0, lq 10 (.len (.t 9)), lq 11 (.mv (ki 0))] none)
 (.fg [3, 9, 10, 11] (.block 0
 (.loop (.fg [3, 9, 10, 11]
 (.seq (.reg [bq 12 .lss 11 10] none)
 (.seq (.cond (.t 12)
 .skip
 (.exit 0))
 (.fg [3, 9, 10, 11] (.seq (.block 1
 (.seq (.reg [mq 13 11, xq 14 1 9 11, lF 15 1 14, mq 4 13, mq 5 15] none)
 (.seq (.reg [mq 16 3, mq 17 4, mq 18 5, lq 19 (.len (.t 18)), lq 20 (.mks false 2 32 (.agg [.bool false, .sl []]) (.t 19) (.t 19)), xq 21 1 16 17, sq 1 21 20] none)
 (.reg [mq 22 3, mq 23 4, xq 24 1 22 23, lF 25 1 24, mq 26 5, lq 27 (.copy 2 (.t 25) (.t 26))] none))))
 (.fg [3, 9, 10, 11] (.reg [lq 28 (.bin .add (.t 11) (ki 1)), mq 11 28] none)))))))))))
 (.seq (.reg [mq 29 3, mq 2 29] none)
 .ret)))), [.t 2]⟩
theorem c168 : chkF Try.prog 168 f168 = true := by kernel_rfl
end Go.Proofs.Ytdpdnplljonppaa.VDt

namespace Go.Proofs.Ytdpdnplljonppaa.VDt
open Go Vpi
set_option maxRecDepth 100000
def tab : List (Nat × RFun) := [(27, f27), (57, f57), (76, f76), (77, f77), (129, f129), (130, f130), (168, f168)]
def rp : RProg := fun f => match VBn.rp f with | some rf => some rf | none => (tab.find? fun x => x.1 == f).map (·.2)
theorem all_ok : (tab.all fun x => chkF Try.prog x.1 x.2) = true := by
  simp only [tab, List.all_cons, List.all_nil, c27, c57, c76, c77, c129, c130, c168, Bool.and_self]
theorem base_le : TabLe VBn.rp rp := by
  intro f rf h
  simp only [rp, h]
theorem rp_ok : ∀ f rf, rp f = some rf → chkF Try.prog f rf = true := by
  intro f rf h
  unfold rp at h
  split at h
  · rename_i h1
    cases h
    exact VBn.rp_ok _ _ h1
  · rw [Option.map_eq_some_iff] at h
    obtain ⟨x, hx, rfl⟩ := h
    have h1 := List.find?_some hx
    have h2 := List.mem_of_find?_eq_some hx
    have h3 := List.all_eq_true.1 all_ok x h2
    have h4 : x.1 = f := by simpa using h1
    rw [← h4]; exact h3
theorem mixed : Try.prog.follows .mixedOrders = true := VBn.mixed
theorem sim (m : Nat) : CallSim Try.prog (runF rp m) := callSim mixed rp_ok m
end Go.Proofs.Ytdpdnplljonppaa.VDt

namespace Go.Proofs.Ytdpdnplljonppaa.Gs
set_option linter.unusedVariables false
theorem det_same {n : Nat} : ∀ {d p : Nat} {A : Nat → Nat → Rat}, p + d + 1 < n → (∀ q, A p q = A (p + d + 1) q) → det n A = 0
  | 0, p, A, hp, h => det_adj (p := p) hp h
  | d + 1, p, A, hp, h => by
    have h1 := det_swap (A := A) (p := p) (n := n) (by omega)
    rw [det_same (d := d) (p := p + 1) (A := put (put A p (A (p + 1))) (p + 1) (A p)) (by omega) (fun q => by
      rw [put_at, put_ne (by omega), put_ne (by omega), show p + 1 + d + 1 = p + (d + 1) + 1 by omega]; exact h q)] at h1
    grind
theorem det_eqrows {n i j : Nat} {A : Nat → Nat → Rat} (hi : i < n) (hj : j < n) (hne : i ≠ j) (h : ∀ q, A i q = A j q) : det n A = 0 := by
  rcases Nat.lt_or_ge i j with h1 | h1
  · exact det_same (d := j - i - 1) (p := i) (by omega) fun q => by rw [show i + (j - i - 1) + 1 = j by omega]; exact h q
  · exact det_same (d := i - j - 1) (p := j) (by omega) fun q => by rw [show j + (i - j - 1) + 1 = i by omega]; exact (h q).symm
def swp (p r i : Nat) : Nat := if i = p then r else if i = r then p else i
theorem swp_lt {p r i n : Nat} (hp : p < n) (hr : r < n) (hi : i < n) : swp p r i < n := by unfold swp; split; omega; split <;> omega
theorem swp_ge {p r i k : Nat} (hp : k ≤ p) (hr : k ≤ r) (hi : k ≤ i) : k ≤ swp p r i := by unfold swp; split; omega; split <;> omega
theorem swp_low {p r i k : Nat} (hp : k ≤ p) (hr : k ≤ r) (hi : i < k) : swp p r i = i := by unfold swp; rw [if_neg (by omega), if_neg (by omega)]
theorem det_swp {n p r : Nat} {A : Nat → Nat → Rat} (hp : p < n) (hr : r < n) (hne : p ≠ r) : det n (fun i q => A (swp p r i) q) = - det n A := by
  have hz : ∀ x : Nat → Rat, det n (put (put A p x) r x) = 0 := fun x => det_eqrows (i := p) (j := r) hp hr hne fun q => by rw [put_ne hne, put_at, put_at]
  have l1 : ∀ x y z : Nat → Rat, det n (put (put A p fun q => x q + y q) r z) = det n (put (put A p x) r z) + 1 * det n (put (put A p y) r z) := fun x y z =>
    det_lin (p := p) hp (fun q => by
      simp only [put, if_neg hne, if_true]
      grind) (fun s q hs => by
      by_cases h : s = r
      · subst h; rw [put_at, put_at, put_at]; exact ⟨rfl, rfl⟩
      · rw [put_ne h, put_ne h, put_ne h, put_ne hs, put_ne hs, put_ne hs]; exact ⟨rfl, rfl⟩)
  have l2 : ∀ x y z : Nat → Rat, det n (put (put A p z) r fun q => x q + y q) = det n (put (put A p z) r x) + 1 * det n (put (put A p z) r y) := fun x y z =>
    det_lin (p := r) hr (fun q => by rw [put_at, put_at, put_at]; grind) (fun s q hs => by rw [put_ne hs, put_ne hs, put_ne hs]; exact ⟨rfl, rfl⟩)
  have k := hz fun q => A p q + A r q
  rw [l1, l2, l2, hz, hz] at k
  have e : det n (put (put A p (A p)) r (A r)) = det n A := det_congr fun s q _ _ => by
    by_cases h : s = r
    · subst h; rw [put_at]
    · rw [put_ne h]
      by_cases h' : s = p
      · subst h'; rw [put_at]
      · rw [put_ne h']
  have e2 : det n (put (put A p (A r)) r (A p)) = det n (fun i q => A (swp p r i) q) := det_congr fun s q _ _ => by
    unfold swp
    by_cases h : s = r
    · subst h; rw [put_at, if_neg (Ne.symm hne), if_pos rfl]
    · rw [put_ne h]
      by_cases h' : s = p
      · subst h'; rw [put_at, if_pos rfl]
      · rw [put_ne h', if_neg h', if_neg h]
  rw [e, e2] at k
  grind
theorem det_lead : ∀ {k n : Nat} {g : Nat → Nat → Rat}, k ≤ n → (∀ t, t < k → U g t t t ≠ 0) → det n g = Dk g k * det (n - k) fun p q => U g k (p + k) (q + k)
  | 0, n, g, _, _ => by simp only [Dk, U, Nat.add_zero, Nat.sub_zero]; grind
  | k + 1, 0, g, h, _ => by omega
  | k + 1, n + 1, g, h, hp => by
    have h0 : g 0 0 ≠ 0 := hp 0 (by omega)
    rw [det_elim h0, show (fun p q => g (p + 1) (q + 1) - g (p + 1) 0 * g 0 (q + 1) / g 0 0) = nx g from rfl,
      det_lead (k := k) (n := n) (g := nx g) (by omega) (fun t ht => by rw [← U_nx]; exact hp (t + 1) (by omega)), Dk_nx, show n + 1 - (k + 1) = n - k by omega]
    have e : (fun p q => U (nx g) k (p + k) (q + k)) = fun p q => U g (k + 1) (p + (k + 1)) (q + (k + 1)) := by
      funext p q
      rw [← U_nx]; rfl
    rw [e]
    grind
theorem U_swp {g : Nat → Nat → Rat} {p r k : Nat} (hp : k ≤ p) (hr : k ≤ r) : ∀ {m i j : Nat}, m ≤ k → U (fun i q => g (swp p r i) q) m i j = U g m (swp p r i) j
  | 0, _, _, _ => rfl
  | m + 1, i, j, h => by
    have e : swp p r m = m := swp_low hp hr (by omega)
    rw [U, U, U_swp hp hr (by omega), U_swp hp hr (by omega), U_swp hp hr (by omega), U_swp hp hr (by omega), e]
theorem Dk_swp {g : Nat → Nat → Rat} {p r k : Nat} (hp : k ≤ p) (hr : k ≤ r) : ∀ {m : Nat}, m ≤ k → Dk (fun i q => g (swp p r i) q) m = Dk g m
  | 0, _ => rfl
  | m + 1, h => by
    rw [Dk, Dk, Dk_swp hp hr (by omega), U_swp hp hr (by omega), swp_low hp hr (by omega)]
structure Pv (g : Nat → Nat → Int) (n r : Nat) (W : Nat → Nat → Int) (last : Int) : Prop where
  piv : ∀ t, t < r → U (rg g) t t t ≠ 0
  lst : (last : Rat) = Dk (rg g) r
  w : ∀ i j, r ≤ i → i < n → r ≤ j → j < n → (W i j : Rat) = Dk (rg g) r * U (rg g) r i j
theorem Dk_ne {g : Nat → Nat → Rat} : ∀ {r : Nat}, (∀ t, t < r → U g t t t ≠ 0) → Dk g r ≠ 0
  | 0, _ => by simp only [Dk]; grind
  | r + 1, h => by
    have h1 := Dk_ne (r := r) fun t ht => h t (by omega)
    have h2 := h r (by omega)
    simp only [Dk]
    grind
section
variable {g : Nat → Nat → Int} {n r : Nat} {W : Nat → Nat → Int} {last : Int}
theorem Pv.start : Pv g n 0 g 1 := ⟨fun t h => by omega, rfl, fun i j _ _ _ _ => by simp only [Dk, U, rg]; grind⟩
theorem Pv.ne (h : Pv g n r W last) : last ≠ 0 := fun h0 => Dk_ne h.piv (by rw [← h.lst, h0]; rfl)
theorem Pv.swap {p : Nat} (h : Pv g n r W last) (hp : r ≤ p) (hpn : p < n) : Pv (fun i q => g (swp p r i) q) n r (fun i q => W (swp p r i) q) last := by
  have e : rg (fun i q => g (swp p r i) q) = fun i q => rg g (swp p r i) q := rfl
  refine ⟨fun t ht => ?_, ?_, fun i j h1 h2 h3 h4 => ?_⟩
  · rw [e, U_swp hp (Nat.le_refl r) (by omega), swp_low hp (Nat.le_refl r) ht]
    exact h.piv t ht
  · rw [e, Dk_swp hp (Nat.le_refl r) (Nat.le_refl r)]
    exact h.lst
  · rw [e, Dk_swp hp (Nat.le_refl r) (Nat.le_refl r), U_swp hp (Nat.le_refl r) (Nat.le_refl r)]
    exact h.w _ _ (swp_ge hp (Nat.le_refl r) h1) (swp_lt hpn (by omega) h2) h3 h4
theorem Pv.piv1 (h : Pv g n r W last) (hr : r < n) (h0 : W r r ≠ 0) : ∀ t, t < r + 1 → U (rg g) t t t ≠ 0 := by
  intro t ht
  rcases Nat.lt_or_ge t r with h1 | h1
  · exact h.piv t h1
  · obtain rfl : t = r := by omega
    intro h2
    have := h.w t t (Nat.le_refl _) hr (Nat.le_refl _) hr
    rw [h2] at this
    apply h0
    have h3 : ((W t t : Int) : Rat) = ((0 : Int) : Rat) := by rw [this]; show _ = (0 : Rat); grind
    exact Rat.intCast_inj.1 h3
theorem Pv.whole (h : Pv g n r W last) (hr : r < n) (h0 : W r r ≠ 0) {i j : Nat} (hi : r < i) (hin : i < n) (hj : r < j) (hjn : j < n) :
    ∃ q : Int, W r r * W i j - W i r * W r j = q * last ∧ (q : Rat) = Dk (rg g) (r + 1) * U (rg g) (r + 1) i j := by
  have e := det_U (g := rg g) (k := r + 1) (i := i) (j := j) hi hj (h.piv1 hr h0)
  obtain ⟨x, hx, -⟩ := In.det (n := r + 1 + 1) (A := fun p q => rg g (ro (r + 1) i p) (ro (r + 1) j q)) (M := mx2 (fun p q => (g (ro (r + 1) i p) (ro (r + 1) j q)).natAbs) (r + 1 + 1) (r + 1 + 1)) fun p q hp hq => ⟨_, rfl, le_mx2 (f := fun p q => (g (ro (r + 1) i p) (ro (r + 1) j q)).natAbs) hp hq⟩
  refine ⟨x, ?_, by rw [← hx, e]⟩
  apply Rat.intCast_inj.1
  have h1 := h.w r r (Nat.le_refl _) hr (Nat.le_refl _) hr
  have h2 := h.w i j (by omega) hin (by omega) hjn
  have h3 := h.w i r (by omega) hin (Nat.le_refl _) hr
  have h4 := h.w r j (Nat.le_refl _) hr (by omega) hjn
  have h5 := h.piv1 hr h0 r (by omega)
  rw [Rat.intCast_sub, Rat.intCast_mul, Rat.intCast_mul, Rat.intCast_mul, ← hx, e, h.lst, h1, h2, h3, h4, Dk, U]
  grind
theorem Pv.next {W' : Nat → Nat → Int} (h : Pv g n r W last) (hr : r < n) (h0 : W r r ≠ 0) (hw : ∀ i j, r < i → i < n → r < j → j < n → W r r * W i j - W i r * W r j = W' i j * last) : Pv g n (r + 1) W' (W r r) := by
  refine ⟨h.piv1 hr h0, ?_, fun i j h1 h2 h3 h4 => ?_⟩
  · rw [Dk]; exact h.w r r (Nat.le_refl _) hr (Nat.le_refl _) hr
  · obtain ⟨q, e1, e2⟩ := h.whole hr h0 (by omega : r < i) h2 (by omega : r < j) h4
    rw [hw i j (by omega) h2 (by omega) h4] at e1
    rw [Int.eq_of_mul_eq_mul_right h.ne e1]
    exact e2
theorem Pv.stop (h : Pv g n r W last) (hr : r < n) (h0 : ∀ i, r ≤ i → i < n → W i r = 0) : det n (rg g) = 0 := by
  rw [det_lead (k := r) (by omega) h.piv]
  have e : det (n - r) (fun p q => U (rg g) r (p + r) (q + r)) = 0 := by
    obtain ⟨m, hm⟩ : ∃ m, n - r = m + 1 := ⟨n - r - 1, by omega⟩
    rw [hm, det]
    refine sumR_zero fun s hs => ?_
    have h1 := h.w (s + r) r (by omega) (by omega) (Nat.le_refl _) hr
    rw [h0 _ (by omega) (by omega)] at h1
    have h2 := Dk_ne h.piv
    have h3 : U (rg g) r (s + r) r = 0 := by
      have : (0 : Rat) = Dk (rg g) r * U (rg g) r (s + r) r := h1
      grind
    simp only [Nat.zero_add, h3]
    grind
  rw [e]; grind
theorem Pv.done (h : Pv g n n W last) : det n (rg g) = last := by
  rw [det_lead (k := n) (Nat.le_refl n) h.piv, Nat.sub_self, h.lst, det]
  grind
end
theorem det_int {n : Nat} {g : Nat → Nat → Int} : ∃ x : Int, det n (rg g) = x := by
  obtain ⟨x, hx, -⟩ := In.det (n := n) (A := rg g) (M := mx2 (fun p q => (g p q).natAbs) n n) fun p q hp hq => ⟨_, rfl, le_mx2 (f := fun p q => (g p q).natAbs) hp hq⟩
  exact ⟨x, hx⟩
def dI (n : Nat) (g : Nat → Nat → Int) : Int := (det n (rg g)).num
theorem dI_eq {n : Nat} {g : Nat → Nat → Int} : (dI n g : Rat) = det n (rg g) := by
  obtain ⟨x, hx⟩ := det_int (n := n) (g := g)
  unfold dI
  rw [hx]; rfl
theorem dI_of {n : Nat} {g : Nat → Nat → Int} {x : Int} (h : det n (rg g) = x) : dI n g = x := by
  unfold dI
  rw [h]; rfl
def cI (n : Nat) (g : Nat → Nat → Int) (i k : Nat) : Int := (if (i + k) % 2 = 1 then -1 else 1) * dI n fun p q => g (sk i p) (sk k q)
theorem dI_swp {n p r : Nat} {g : Nat → Nat → Int} (hp : p < n) (hr : r < n) (hne : p ≠ r) : dI n (fun i q => g (swp p r i) q) = - dI n g := by
  apply dI_of
  rw [show rg (fun i q => g (swp p r i) q) = fun i q => rg g (swp p r i) q from rfl, det_swp hp hr hne, Rat.intCast_neg, dI_eq]
section
variable {n : Nat} {mu : Nat → Nat → Rat} {star : Nat → Rat} {G : Nat → Nat → Rat} {al c t : Nat → Rat}
end
end Go.Proofs.Ytdpdnplljonppaa.Gs

namespace Go.Proofs.Ytdpdnplljonppaa.VDt
open Go Vpi
open VBn hiding rp tab rp_ok all_ok mixed sim Big
set_option maxRecDepth 100000
set_option linter.unusedSimpArgs false
set_option linter.unusedVariables false
theorem rp94 : rp 57 = some f57 := rfl
/-! ### stores that grow -/
structure Pre (σ ρ : Store) : Prop where
  len : σ.length ≤ ρ.length
  get : ∀ j, j < σ.length → ρ[j]? = σ[j]?
section
variable {σ ρ : Store} {c : CV} {sz : Nat} {es : List PV}
theorem Pre.refl : Pre σ σ := ⟨Nat.le_refl _, fun _ _ => rfl⟩
theorem Pre.push (h : Pre σ ρ) {l : Store} : Pre σ (ρ ++ l) := ⟨by rw [List.length_append]; exact Nat.le_trans h.len (Nat.le_add_right _ _), fun j hj => by rw [get_left (Nat.lt_of_lt_of_le hj h.len), h.get j hj]⟩
theorem Pre.set (h : Pre σ ρ) {b : Nat} {x : Blk} (hb : σ.length ≤ b) : Pre σ (ρ.set b x) := ⟨by rw [List.length_set]; exact h.len, fun j hj => by rw [get_ne (by omega), h.get j hj]⟩
section
variable {rp : RProg} {rs : List RRes} {base : Nat} {d : Option Nat} {l : List LOp} {dr : Dr} {ks : List KI} {e : Env} {Q : CV → Store → Prop} {xs : List PV}
end
end
/-! ### lists of numbers -/
def zr (r : List Int) : List PV := r.map zi
/-! ### each -/
theorem p94 {p : PV} {x : Int} (h : Nu p x) : Pu rp 57 [p] (.p (zi x)) := by
  obtain ⟨n1, a, rfl, ha, hna, rfl⟩ := h
  refine pu_of rp94 ?_
  rw [CapN_eq] at hna
  have k := (p105 (neg := n1) ha (by omega)).lift base_le
  rw [mk_val] at k
  simp only [f57, args0, SA, setCells, Int.reduceLE, Int.reduceLT, ↓reduceIte, reduceCtorEq, Nat.reduceLT, Nat.reduceEqDiff, Nat.reduceAdd, Nat.reduceMul, Nat.reduceLeDiff, Nat.reduceBEq, kp2 k]
  rfl
/-! ### a list of blocks -/
structure RowsAt (ρ : Store) (lo : Nat) (cs : List CV) (M : List (List Int)) : Prop where
  len : cs.length = M.length
  own : ∀ (j : Nat) (r : List Int), M[j]? = some r → ∃ b, cs[j]? = some (.own b 0 r.length) ∧ lo ≤ b ∧ ρ[b]? = some (.prow 2 (zr r))
  ne : ∀ (j j' b b' n n' : Nat), j < j' → cs[j]? = some (.own b 0 n) → cs[j']? = some (.own b' 0 n') → b ≠ b'
section
variable {rp : RProg} {rs : List RRes} {base : Nat} {d : Option Nat} {l : List LOp} {dr : Dr} {ks : List KI} {e : Env} {σ ρ : Store} {Q : CV → Store → Prop}
end
/-! ### Floor -/
structure Fl (x y q r : Int) : Prop where
  eq : x = q * y + r
  rest : (0 ≤ r ∧ r < y) ∨ (y < r ∧ r ≤ 0)
  le : q.natAbs ≤ x.natAbs + 1
  rle : r.natAbs < y.natAbs
theorem fl_of {n1 n2 : Bool} {A B : Nat} {x y : Int} (hx : x = if n1 = true then -(A : Int) else A) (hy : y = if n2 = true then -(B : Int) else B) (hB : B ≠ 0) :
    ∃ q0 r0 : Int, q0 = (if (!(n1 == n2)) = true then -((A / B : Nat) : Int) else ((A / B : Nat) : Int)) ∧ r0 = (if n1 = true then -((A % B : Nat) : Int) else ((A % B : Nat) : Int)) ∧ x = q0 * y + r0 ∧ q0.natAbs ≤ x.natAbs ∧ r0.natAbs ≤ x.natAbs ∧ r0.natAbs < y.natAbs ∧
      (r0.sign = 0 → Fl x y q0 r0) ∧ (r0.sign ≠ 0 → r0.sign = y.sign → Fl x y q0 r0) ∧ (r0.sign ≠ 0 → r0.sign ≠ y.sign → Fl x y (q0 - 1) (r0 + y)) := by
  have hd : (A : Int) = ((A / B : Nat) : Int) * (B : Int) + ((A % B : Nat) : Int) := by
    have := Nat.div_add_mod A B
    have h2 : (A : Int) = ((B * (A / B) + A % B : Nat) : Int) := by rw [this]
    rw [h2, Int.natCast_add, Int.natCast_mul, Int.mul_comm]
  have hm : A % B < B := Nat.mod_lt _ (Nat.pos_of_ne_zero hB)
  have hqle : A / B ≤ A := Nat.div_le_self _ _
  have hrle : A % B ≤ A := Nat.mod_le _ _
  generalize A / B = D at *
  generalize A % B = R at *
  have key : x = (if (!(n1 == n2)) = true then -(D : Int) else (D : Int)) * y + (if n1 = true then -(R : Int) else (R : Int)) := by
    rw [hx, hy]
    cases n1 <;> cases n2
    · show (A : Int) = (D : Int) * (B : Int) + (R : Int)
      exact hd
    · show (A : Int) = -(D : Int) * -(B : Int) + (R : Int)
      rw [Int.neg_mul_neg]; exact hd
    · show -(A : Int) = -(D : Int) * (B : Int) + -(R : Int)
      rw [Int.neg_mul]; omega
    · show -(A : Int) = (D : Int) * -(B : Int) + -(R : Int)
      rw [Int.mul_neg]; omega
  refine ⟨_, _, rfl, rfl, key, ?_, ?_, ?_, ?_, ?_, ?_⟩
  · rw [hx]; cases n1 <;> cases n2 <;> simp <;> omega
  · rw [hx]; cases n1 <;> simp <;> omega
  · rw [hy]; cases n1 <;> cases n2 <;> simp <;> omega
  · intro h0
    have h1 := Int.sign_eq_zero_iff_zero.1 h0
    refine ⟨key, ?_, ?_, ?_⟩
    · rw [h1]
      rw [hy]; cases n2 <;> simp <;> omega
    · rw [hx]; cases n1 <;> cases n2 <;> simp <;> omega
    · rw [h1, hy]; cases n2 <;> simp <;> omega
  · intro h0 h1
    have hR : R ≠ 0 := by rintro rfl; apply h0; cases n1 <;> rfl
    refine ⟨key, ?_, ?_, ?_⟩
    · rw [hy] at h1 ⊢
      cases n1 <;> cases n2
      · left; simp; omega
      · exfalso
        rw [Int.sign_eq_one_of_pos (by simp; omega : (0 : Int) < if false = true then -(R : Int) else R), Int.sign_eq_neg_one_of_neg (by simp; omega : (if true = true then -(B : Int) else (B : Int)) < 0)] at h1
        cases h1
      · exfalso
        rw [Int.sign_eq_neg_one_of_neg (by simp; omega : (if true = true then -(R : Int) else (R : Int)) < 0), Int.sign_eq_one_of_pos (by simp; omega : (0 : Int) < if false = true then -(B : Int) else B)] at h1
        cases h1
      · right; simp; omega
    · rw [hx]; cases n1 <;> cases n2 <;> simp <;> omega
    · rw [hy]; cases n1 <;> cases n2 <;> simp <;> omega
  · intro h0 h1
    have hR : R ≠ 0 := by rintro rfl; apply h0; cases n1 <;> rfl
    refine ⟨by rw [Int.sub_mul]; omega, ?_, ?_, ?_⟩
    · rw [hy] at h1 ⊢
      cases n1 <;> cases n2
      · exfalso
        apply h1
        rw [Int.sign_eq_one_of_pos (by simp; omega : (0 : Int) < if false = true then -(R : Int) else R), Int.sign_eq_one_of_pos (by simp; omega : (0 : Int) < if false = true then -(B : Int) else B)]
      · right; simp; omega
      · left; simp; omega
      · exfalso
        apply h1
        rw [Int.sign_eq_neg_one_of_neg (by simp; omega : (if true = true then -(R : Int) else (R : Int)) < 0), Int.sign_eq_neg_one_of_neg (by simp; omega : (if true = true then -(B : Int) else (B : Int)) < 0)]
    · rw [hx]; cases n1 <;> cases n2 <;> simp <;> omega
    · rw [hy] at h1 ⊢
      cases n1 <;> cases n2
      · exfalso
        apply h1
        rw [Int.sign_eq_one_of_pos (by simp; omega : (0 : Int) < if false = true then -(R : Int) else R), Int.sign_eq_one_of_pos (by simp; omega : (0 : Int) < if false = true then -(B : Int) else B)]
      · simp; omega
      · simp; omega
      · exfalso
        apply h1
        rw [Int.sign_eq_neg_one_of_neg (by simp; omega : (if true = true then -(R : Int) else (R : Int)) < 0), Int.sign_eq_neg_one_of_neg (by simp; omega : (if true = true then -(B : Int) else (B : Int)) < 0)]
end Go.Proofs.Ytdpdnplljonppaa.VDt
namespace Go.Proofs.Ytdpdnplljonppaa.VDt
open Go Vpi
open VBn hiding rp tab rp_ok all_ok mixed sim Big
set_option maxRecDepth 100000
set_option linter.unusedSimpArgs false
set_option linter.unusedVariables false
end Go.Proofs.Ytdpdnplljonppaa.VDt
namespace Go.Proofs.Ytdpdnplljonppaa.VDt
open Go Vpi
open VBn hiding rp tab rp_ok all_ok mixed sim Big
set_option maxRecDepth 100000
set_option linter.unusedSimpArgs false
set_option linter.unusedVariables false
/-! ### what divides all -/
theorem updPV_zz {x y : Int} : updPV (zi x) 0 2 (zi y) = some (zi y) := updPV_mk
section
variable {rp : RProg} {rs : List RRes} {base : Nat} {d : Option Nat} {l : List LOp} {dr : Dr} {ks : List KI} {e : Env} {ρ : Store} {Q : CV → Store → Prop} {c : CV} {sz : Nat} {es xs : List PV}
theorem GL.kb {j s : Nat} {cs : List CV} (h : GL ρ sz c es) (hj : ρ[j]? = some (.kblk s cs)) {l : Store} : (nd ρ c ++ l)[j]? = some (.kblk s cs) := by
  have hl := (List.getElem?_eq_some_iff.1 hj).1
  rw [get_left (by rw [nd_len]; exact hl)]
  have hn := VBn.GL.nek h hj
  cases c <;> try exact hj
  exact (get_ne (hn _ _ _ rfl)).trans hj
end
/-! ### the rounds -/
structure Bx (A : List CV) (G : Int) (τ : Store) : Prop where
  h0 : τ[0]? = some (.kblk 2 A)
  h1 : τ[1]? = some (.kblk 2 [.p (.bool false), .nils])
  h2 : τ[2]? = some (.kblk 2 (cz G))
  wf : Wf τ
structure By (A : List CV) (G : Int) (k : Nat) (cs : List CV) (lo : Nat) (M : List (List Int)) (τ : Store) : Prop where
  h0 : τ[0]? = some (.kblk 2 A)
  h1 : τ[1]? = some (.kblk 2 [.p (.bool false), .nils])
  h2 : τ[2]? = some (.kblk 2 (cz G))
  hk : τ[k]? = some (.kblk 1 cs)
  rows : RowsAt τ lo cs M
end Go.Proofs.Ytdpdnplljonppaa.VDt
namespace Go.Proofs.Ytdpdnplljonppaa.VDt
open Go Vpi
open VBn hiding rp tab rp_ok all_ok mixed sim Big
set_option maxRecDepth 100000
set_option linter.unusedSimpArgs false
set_option linter.unusedVariables false
theorem rp211 : rp 168 = some f168 := rfl
theorem fl134 {p p' : PV} {x y : Int} (h : Nu p x) (h' : Nu p' y) (hy : y ≠ 0) : ∃ q r, Fl x y q r ∧ Pu VBn.rp 112 [p, p'] (.tup [.p (zi q), .p (zi r), .p (.int .i64 0)]) := by
  have hx := h.sz
  have hys := h'.sz
  have k77y := VBn.p77 h'
  obtain ⟨n1, a, rfl, ha, hna, rfl⟩ := h
  have h'' := h'
  obtain ⟨n2, b, rfl, hb, hnb, rfl⟩ := h'
  have hb0 : val b ≠ 0 := by intro h0; apply hy; unfold iv; rw [h0]; cases n2 <;> rfl
  obtain ⟨q0, r0, eq0, er0, key, qle, rle, rlt, f1, f2, f3⟩ := fl_of (n1 := n1) (n2 := n2) (A := val a) (B := val b) (x := iv n1 a) (y := iv n2 b) rfl rfl hb0
  rw [CapN_eq] at hna hnb
  have k1 := VBn.p159 ha hb (by omega) (by omega) hb0
  have hdq : (dgl (val a / val b)).length ≤ a.length := dgl_len (Nat.lt_of_le_of_lt (Nat.div_le_self _ _) (val_lt ha))
  have hdr : (dgl (val a % val b)).length ≤ a.length := dgl_len (Nat.lt_of_le_of_lt (Nat.mod_le _ _) (val_lt ha))
  have kq := VBn.p105 (neg := !(n1 == n2)) (dgl_lim (val a / val b)) (by omega)
  have kr := VBn.p105 (neg := n1) (dgl_lim (val a % val b)) (by omega)
  simp only [val_dgl, mk_iv] at kq kr
  rw [← eq0] at kq
  rw [← er0] at kr
  have hqz : Sz q0 := hx.le qle
  have hrz : Sz r0 := hx.le rle
  have k77 := VBn.p77 (Nu.zi hrz)
  have ks := VBn.p157 (Nu.zi hqz) (Nu.zi (x := 1) (Sz.small (by decide)))
  have ka := VBn.p145 (Nu.zi hrz) h''
  have k54 := VBn.p54 (x := 1) (by decide) (by decide)
  rw [zi_raw] at k77 ka
  rw [zi_raw (x := q0)] at ks
  have e0 : ((0 : Int) != 0) = false := rfl
  by_cases h0 : r0.sign = 0
  · refine ⟨q0, r0, f1 h0, ?_⟩
    refine pu_of VBn.rp134 ?_
    have e1 : (r0.sign != 0) = false := by rw [h0]; rfl
    simp only [VBn.f112, args0, SA, setCells, Int.reduceLE, Int.reduceLT, ↓reduceIte, reduceCtorEq, Nat.reduceLT, Nat.reduceEqDiff, Nat.reduceAdd, Nat.reduceMul, Nat.reduceLeDiff, Nat.reduceBEq, kp2 k1, push_sl, e0, kp2 kq, kp2 kr, kp1 k77, e1]
    rw [r_nilx]
    refine ⟨by rfl, ?_⟩
    simp only [SA, setCells, Int.reduceLE, Int.reduceLT, ↓reduceIte, reduceCtorEq, Nat.reduceLT, Nat.reduceEqDiff, Nat.reduceAdd, Nat.reduceMul, Nat.reduceLeDiff, Nat.reduceBEq]
    exact back_t3 back1_p back1_p back1_p
  · have e1 : (r0.sign != 0) = true := by simp [h0]
    by_cases h1 : r0.sign = (iv n2 b).sign
    · refine ⟨q0, r0, f2 h0 h1, ?_⟩
      refine pu_of VBn.rp134 ?_
      rw [← h1] at k77y
      simp only [VBn.f112, args0, SA, setCells, Int.reduceLE, Int.reduceLT, ↓reduceIte, reduceCtorEq, Nat.reduceLT, Nat.reduceEqDiff, Nat.reduceAdd, Nat.reduceMul, Nat.reduceLeDiff, Nat.reduceBEq, kp2 k1, push_sl, e0, kp2 kq, kp2 kr, kp1 k77, e1, kp1 k77y, bne_self_eq_false]
      rw [r_nilx]
      refine ⟨by rfl, ?_⟩
      simp only [SA, setCells, Int.reduceLE, Int.reduceLT, ↓reduceIte, reduceCtorEq, Nat.reduceLT, Nat.reduceEqDiff, Nat.reduceAdd, Nat.reduceMul, Nat.reduceLeDiff, Nat.reduceBEq]
      exact back_t3 back1_p back1_p back1_p
    · refine ⟨q0 - 1, r0 + iv n2 b, f3 h0 h1, ?_⟩
      refine pu_of VBn.rp134 ?_
      have e2 : (r0.sign != (iv n2 b).sign) = true := by simp [h1]
      simp only [VBn.f112, args0, SA, setCells, Int.reduceLE, Int.reduceLT, ↓reduceIte, reduceCtorEq, Nat.reduceLT, Nat.reduceEqDiff, Nat.reduceAdd, Nat.reduceMul, Nat.reduceLeDiff, Nat.reduceBEq, kp2 k1, push_sl, e0, kp2 kq, kp2 kr, kp1 k77, e1, kp1 k77y, e2, kp1 k54, kp2 ks, kp2 ka]
      rw [r_nilx]
      refine ⟨by rfl, ?_⟩
      simp only [SA, setCells, Int.reduceLE, Int.reduceLT, ↓reduceIte, reduceCtorEq, Nat.reduceLT, Nat.reduceEqDiff, Nat.reduceAdd, Nat.reduceMul, Nat.reduceLeDiff, Nat.reduceBEq]
      exact back_t3 back1_p back1_p back1_p
/-! ### matrices by their places -/
def zF (n : Nat) (f : Nat → Int) : List PV := (List.range n).map fun j => zi (f j)
def zM (m n : Nat) (W : Nat → Nat → Int) : List PV := (List.range m).map fun i => .sl (zF n (W i))
theorem zF_len {n : Nat} {f : Nat → Int} : (zF n f).length = n := by simp [zF]
theorem zM_len {m n : Nat} {W : Nat → Nat → Int} : (zM m n W).length = m := by simp [zM]
theorem zF_get {n j : Nat} {f : Nat → Int} (h : j < n) : (zF n f)[j]? = some (zi (f j)) := by simp [zF, h]
theorem zM_get {m n i : Nat} {W : Nat → Nat → Int} (h : i < m) : (zM m n W)[i]? = some (.sl (zF n (W i))) := by simp [zM, h]
theorem zF_congr {n : Nat} {f g : Nat → Int} (h : ∀ j, j < n → f j = g j) : zF n f = zF n g := by
  unfold zF
  refine List.map_congr_left fun j hj => ?_
  rw [h j (List.mem_range.1 hj)]
theorem zF_set {n j : Nat} {f : Nat → Int} {x : Int} : (zF n f).set j (zi x) = zF n fun k => if k = j then x else f k := by
  apply List.ext_getElem?
  intro k
  by_cases hk : k < n
  · rw [zF_get hk]
    by_cases hjk : j = k
    · subst hjk
      rw [List.getElem?_set_self (by rw [zF_len]; exact hk), if_pos rfl]
    · rw [List.getElem?_set_ne hjk, zF_get hk, if_neg (Ne.symm hjk)]
  · rw [List.getElem?_eq_none (by rw [List.length_set, zF_len]; omega), List.getElem?_eq_none (by rw [zF_len]; omega)]
theorem zF_sz {n : Nat} {f : Nat → Int} : allSz 2 (zF n f) = true := by
  unfold allSz zF
  rw [List.all_eq_true]
  intro x hx
  obtain ⟨y, _, rfl⟩ := List.mem_map.1 hx
  rfl
structure RowsF (ρ : Store) (cs : List CV) (m n : Nat) (W : Nat → Nat → Int) : Prop where
  len : cs.length = m
  own : ∀ i, i < m → ∃ b, cs[i]? = some (.own b 0 n) ∧ ρ[b]? = some (.prow 2 (zF n (W i)))
  ne : ∀ i j b b' : Nat, i ≠ j → cs[i]? = some (.own b 0 n) → cs[j]? = some (.own b' 0 n) → b ≠ b'
section
variable {ρ τ : Store} {cs : List CV} {m n : Nat} {W V : Nat → Nat → Int}
theorem RowsF.mono (h : RowsF ρ cs m n W) (hp : ∀ (b : Nat) es, ρ[b]? = some (.prow 2 es) → τ[b]? = some (.prow 2 es)) : RowsF τ cs m n W :=
  ⟨h.len, fun i hi => by obtain ⟨b, h1, h2⟩ := h.own i hi; exact ⟨b, h1, hp b _ h2⟩, h.ne⟩
theorem RowsF.app (h : RowsF ρ cs m n W) {l : Store} : RowsF (ρ ++ l) cs m n W := h.mono fun b es hb => by rw [get_left (List.getElem?_eq_some_iff.1 hb).1]; exact hb
theorem RowsF.setk (h : RowsF ρ cs m n W) {j s : Nat} {xs : List CV} {x : Blk} (hj : ρ[j]? = some (.kblk s xs)) : RowsF (ρ.set j x) cs m n W := h.mono fun b es hb => by
  rw [get_ne]
  · exact hb
  · rintro rfl; rw [hj] at hb; cases hb
theorem RowsF.congr (h : RowsF ρ cs m n W) (hv : ∀ i j, i < m → j < n → W i j = V i j) : RowsF ρ cs m n V :=
  ⟨h.len, fun i hi => by obtain ⟨b, h1, h2⟩ := h.own i hi; exact ⟨b, h1, by rw [← zF_congr fun j hj => hv i j hi hj]; exact h2⟩, h.ne⟩
theorem RowsF.set (h : RowsF ρ cs m n W) {i b : Nat} {f : Nat → Int} (hi : i < m) (hc : cs[i]? = some (.own b 0 n)) (hv1 : ∀ j, j < n → f j = V i j) (hv2 : ∀ a j, a < m → a ≠ i → j < n → W a j = V a j) : RowsF (ρ.set b (.prow 2 (zF n f))) cs m n V := by
  refine ⟨h.len, fun a ha => ?_, h.ne⟩
  obtain ⟨b0, g1, g2⟩ := h.own i hi
  rw [hc] at g1
  cases g1
  by_cases hai : a = i
  · subst hai
    exact ⟨b, hc, by rw [get_self (List.getElem?_eq_some_iff.1 g2).1, zF_congr hv1]⟩
  · obtain ⟨b1, k1, k2⟩ := h.own a ha
    exact ⟨b1, k1, by rw [get_ne (h.ne i a b b1 (Ne.symm hai) hc k1), ← zF_congr fun j hj => hv2 a j ha hai hj]; exact k2⟩
theorem RowsF.apart (h : RowsF ρ cs m n W) {j s : Nat} {xs : List CV} (hj : ρ[j]? = some (.kblk s xs)) {i b : Nat} (hi : i < m) (hc : cs[i]? = some (.own b 0 n)) : b ≠ j := by
  rintro rfl
  obtain ⟨b0, g1, g2⟩ := h.own i hi
  rw [hc] at g1
  cases g1
  rw [hj] at g2
  cases g2
theorem RowsF.nd (h : RowsF ρ cs m n W) {c : CV} {es : List PV} (hc : GL ρ 1 c es) : RowsF (nd ρ c) cs m n W := h.mono fun b es' hb => by
  rcases hc with ⟨rfl, rfl⟩ | ⟨b', rfl, hb'⟩
  · exact hb
  · show (ρ.set b' .dead)[b]? = _
    rw [get_ne]
    · exact hb
    · rintro rfl; rw [hb'] at hb; cases hb
theorem RowsF.snoc {b : Nat} (h : RowsF ρ cs m n W) (hb : ρ[b]? = some (.prow 2 (zF n (W m)))) (hne : ∀ j b', j < m → cs[j]? = some (.own b' 0 n) → b' ≠ b) : RowsF ρ (cs ++ [.own b 0 n]) (m + 1) n W := by
  have hl := h.len
  have gl : ∀ i, i < m → (cs ++ [CV.own b 0 n])[i]? = cs[i]? := fun i hi => List.getElem?_append_left (by omega)
  have gm : (cs ++ [CV.own b 0 n])[m]? = some (.own b 0 n) := by rw [List.getElem?_append_right (by omega), hl, Nat.sub_self]; rfl
  have hlt : ∀ {i x}, (cs ++ [CV.own b 0 n])[i]? = some x → i < m + 1 := fun {i x} hi => by
    have := (List.getElem?_eq_some_iff.1 hi).1
    simp at this; omega
  refine ⟨by simp [hl], fun i hi => ?_, fun i j b1 b2 hij h1 h2 => ?_⟩
  · rcases Nat.lt_or_ge i m with h1 | h1
    · obtain ⟨b', k1, k2⟩ := h.own i h1
      exact ⟨b', by rw [gl i h1]; exact k1, k2⟩
    · obtain rfl : i = m := by omega
      exact ⟨b, gm, hb⟩
  · have hi := hlt h1
    have hj := hlt h2
    rcases Nat.lt_or_ge i m with a1 | a1
    · rw [gl i a1] at h1
      rcases Nat.lt_or_ge j m with a2 | a2
      · rw [gl j a2] at h2
        exact h.ne i j b1 b2 hij h1 h2
      · obtain rfl : j = m := by omega
        rw [gm] at h2
        cases h2
        exact hne i b1 a1 h1
    · obtain rfl : i = m := by omega
      rw [gm] at h1
      cases h1
      rw [gl j (by omega)] at h2
      exact (hne j b2 (by omega) h2).symm
theorem RowsF.swap (h : RowsF ρ cs m n W) {p r : Nat} {cp cr : CV} (hp : p < m) (hr : r < m) (hcp : cs[p]? = some cp) (hcr : cs[r]? = some cr) : RowsF ρ ((cs.set p cr).set r cp) m n (fun i j => W (Gs.swp p r i) j) := by
  have key : ∀ i, i < m → ((cs.set p cr).set r cp)[i]? = cs[Gs.swp p r i]? := fun i hi => by
    unfold Gs.swp
    by_cases h1 : r = i
    · subst h1
      rw [List.getElem?_set_self (by rw [List.length_set, h.len]; exact hi)]
      by_cases h2 : r = p
      · rw [if_pos h2]
        subst h2
        rw [hcp]
      · rw [if_neg h2, if_pos rfl, hcp]
    · rw [List.getElem?_set_ne h1]
      by_cases h2 : p = i
      · subst h2
        rw [List.getElem?_set_self (by rw [h.len]; exact hi), if_pos rfl, hcr]
      · rw [List.getElem?_set_ne h2, if_neg (Ne.symm h2), if_neg (Ne.symm h1)]
  have hlt : ∀ {i b}, ((cs.set p cr).set r cp)[i]? = some (.own b 0 n) → i < m := fun {i b} hi => by
    have := (List.getElem?_eq_some_iff.1 hi).1
    rw [List.length_set, List.length_set, h.len] at this
    exact this
  have inj : ∀ i j, Gs.swp p r i = Gs.swp p r j → i = j := fun i j hij => by
    unfold Gs.swp at hij
    split at hij <;> split at hij <;> (try split at hij) <;> (try split at hij) <;> omega
  refine ⟨by rw [List.length_set, List.length_set]; exact h.len, fun i hi => ?_, fun i j b b' hij h1 h2 => ?_⟩
  · obtain ⟨b, g1, g2⟩ := h.own (Gs.swp p r i) (Gs.swp_lt hp hr hi)
    exact ⟨b, by rw [key i hi]; exact g1, g2⟩
  · rw [key i (hlt h1)] at h1
    rw [key j (hlt h2)] at h2
    exact h.ne _ _ _ _ (fun hh => hij (inj _ _ hh)) h1 h2
end
/-! ### copied -/
theorem n211 {m n : Nat} {W : Nat → Nat → Int} {σ : Store} (hm : m ≤ 64) (hn : n ≤ 64) {Q : CV → Store → Prop}
    (hQ : ∀ ρ k cs, Pre σ ρ → σ.length ≤ k → ρ[k]? = some (.kblk 1 cs) → RowsF ρ cs m n W → Q (.own k 0 m) ρ) : Rn rp 168 [.p (.sl (zM m n W))] σ Q := by
  rw [rn_of rp211]
  have m1 : ((24 : Nat) : Int) * (m : Int) ≤ 281474976710656 := by omega
  have m2 : (m : Int) ≤ 9223372036854775807 := by omega
  have m3 : ((32 : Nat) : Int) * (n : Int) ≤ 281474976710656 := by omega
  have m4 : (n : Int) ≤ 9223372036854775807 := by omega
  simp only [f168, args0, SA, setCells, Int.reduceLE, Int.reduceLT, ↓reduceIte, reduceCtorEq, Nat.reduceLT, Nat.reduceEqDiff, Nat.reduceAdd, Nat.reduceMul, Nat.reduceLeDiff, Nat.reduceBEq, zM_len, Int.natCast_nonneg, m1, m2, Int.le_refl, Int.toNat_natCast]
  refine loop_rule (β := Nat × Store × List CV) (fun t => ([(3, .own σ.length 0 m), (9, .p (.sl (zM m n W))), (10, i64 m), (11, i64 t.1)], t.2.1))
    (fun t => t.1 ≤ m ∧ Pre σ t.2.1 ∧ t.2.1[σ.length]? = some (.kblk 1 (t.2.2 ++ List.replicate (m - t.1) .nils)) ∧ RowsF t.2.1 t.2.2 t.1 n W) (fun t => m - t.1) ((0, σ ++ [.kblk 1 (List.replicate m .nils)], []) : Nat × Store × List CV) rfl rfl
    ⟨Nat.zero_le _, Pre.refl.push, by rw [get_app0]; rfl, ⟨rfl, fun i hi => by omega, fun i j b b' _ h => by simp at h⟩⟩ ?_
  rintro ⟨i, τ, cs⟩ ⟨hi, hp, hk, hro⟩ ih
  simp only [] at hi hp hk hro ih ⊢
  have hcl := hro.len
  have hlk := (List.getElem?_eq_some_iff.1 hk).1
  by_cases hin : (i : Int) < m
  · have hin' : i < m := by omega
    have w1 : IntKind.i64.wrap ((i : Int) + 1) = ((i + 1 : Nat) : Int) := by rw [IntWalk.i64_in _ (by omega)]; omega
    have hset : setCells (cs ++ List.replicate (m - i) CV.nils) (i * 1) [.own τ.length 0 n] = cs ++ [.own τ.length 0 n] ++ List.replicate (m - (i + 1)) CV.nils := by
      unfold setCells
      rw [Nat.mul_one, ← hcl, List.take_left, show m - cs.length = (m - (cs.length + 1)) + 1 by omega, List.replicate_succ, show cs.length + [CV.own τ.length 0 n].length = cs.length + 1 from rfl, ← List.drop_drop, List.drop_left]
      rfl
    have hLl : (cs ++ List.replicate (m - i) CV.nils).length = m := by rw [List.length_append, List.length_replicate]; omega
    have hLg : (cs ++ [CV.own τ.length 0 n] ++ List.replicate (m - (i + 1)) CV.nils)[i * 1]? = some (.own τ.length 0 n) := by
      rw [Nat.mul_one, ← hcl, List.append_assoc, List.getElem?_append_right (Nat.le_refl _), Nat.sub_self]; rfl
    generalize hLe : cs ++ List.replicate (m - i) CV.nils = L at hk hset hLl
    generalize hLe' : cs ++ [CV.own τ.length 0 n] ++ List.replicate (m - (i + 1)) CV.nils = L' at hset hLg
    have e2 : ∀ l, (τ ++ l)[σ.length]? = some (.kblk 1 L) := fun l => by rw [get_left hlk]; exact hk
    have e3 : ∀ l x, (τ ++ l).set σ.length x = τ.set σ.length x ++ l := fun l x => set_left hlk
    have e4 : ∀ l x, (τ.set σ.length x ++ l)[σ.length]? = some x := fun l x => by rw [get_left (by rw [List.length_set]; exact hlk), get_self hlk]
    have e5 : ∀ l x, (τ.set σ.length x ++ l)[τ.length]? = l[0]? := fun l x => by rw [show τ.length = (τ.set σ.length x).length by rw [List.length_set], get_app0]
    have e6 : ∀ l x y, (τ.set σ.length x ++ l).set τ.length y = τ.set σ.length x ++ l.set 0 y := fun l x y => by rw [show τ.length = (τ.set σ.length x).length by rw [List.length_set], set_app0]
    have hle : i * 1 + 1 ≤ m := by omega
    have hsz := zF_sz (n := n) (f := W i)
    have hcp : setCells (List.replicate n (PV.agg [.bool false, .sl []])) 0 ((zF n (W i)).take n) = zF n (W i) := by
      rw [show (zF n (W i)).take n = zF n (W i) from List.take_of_length_le (by rw [zF_len]; exact Nat.le_refl _)]
      unfold setCells
      rw [List.take_zero, List.nil_append, Nat.zero_add, zF_len, List.drop_of_length_le (by rw [List.length_replicate]; exact Nat.le_refl _), List.append_nil]
    simp only [SA, Int.reduceLE, Int.reduceLT, ↓reduceIte, reduceCtorEq, Nat.reduceLT, Nat.reduceEqDiff, Nat.reduceAdd, Nat.reduceMul, Nat.reduceLeDiff, Nat.reduceBEq, hin, hin', zM_get hin', zF_len, Int.natCast_nonneg, m3, m4, Int.le_refl, Int.toNat_natCast, e2, e3, e4, e5, e6, hset, hLl, hLg, hle, hsz, hcp, List.length_replicate, w1]
    refine ih (i + 1, τ.set σ.length (.kblk 1 L') ++ [.prow 2 (zF n (W i))], cs ++ [.own τ.length 0 n]) _ ⟨by simp only []; omega, (hp.set (Nat.le_refl _)).push, by simp only []; rw [e4, ← hLe'], ?_⟩ (by simp only []; omega) ?_
    rotate_left
    · rfl
    refine RowsF.snoc ((hro.setk hk).app) ?_ fun j b hj hb => ?_
    · rw [e5]; rfl
    · obtain ⟨b0, g1, g2⟩ := hro.own j hj
      rw [hb] at g1
      cases g1
      have := (List.getElem?_eq_some_iff.1 g2).1
      omega
  · obtain rfl : i = m := by omega
    rw [Nat.sub_self, List.replicate_zero, List.append_nil] at hk
    simp only [SA, setCells, Int.reduceLE, Int.reduceLT, ↓reduceIte, reduceCtorEq, Nat.reduceLT, Nat.reduceEqDiff, Nat.reduceAdd, Nat.reduceMul, Nat.reduceLeDiff, Nat.reduceBEq, hin]
    exact hQ τ _ cs hp (Nat.le_refl _) hk hro
end Go.Proofs.Ytdpdnplljonppaa.VDt
namespace Go.Proofs.Ytdpdnplljonppaa.VDt
open Go Vpi
open VBn hiding rp tab rp_ok all_ok mixed sim Big
set_option maxRecDepth 100000
set_option linter.unusedSimpArgs false
set_option linter.unusedVariables false
open Gs (Pv dI swp)
/-! ### floors -/
def flq (x y : Int) : Int := if 0 < y then x / y else (-x) / (-y)
theorem Fl.flq {x y q r : Int} (h : Fl x y q r) (hy : y ≠ 0) : q = flq x y := by
  have h1 := h.eq
  unfold VDt.flq
  by_cases h0 : 0 < y
  · rw [if_pos h0]
    rcases h.rest with ⟨a, b⟩ | ⟨a, b⟩
    · exact ((Int.ediv_emod_unique h0).2 ⟨by rw [Int.mul_comm]; omega, a, b⟩).1.symm
    · omega
  · rw [if_neg h0]
    rcases h.rest with ⟨a, b⟩ | ⟨a, b⟩
    · omega
    · exact ((Int.ediv_emod_unique (a := -x) (b := -y) (r := -r) (q := q) (by omega)).2 ⟨by rw [Int.neg_mul, Int.mul_comm]; omega, by omega, by omega⟩).1.symm
theorem flq_exact {x y q : Int} (hy : y ≠ 0) (h : x = q * y) : flq x y = q := by
  subst h
  unfold flq
  by_cases h0 : 0 < y
  · rw [if_pos h0, Int.mul_ediv_cancel _ hy]
  · rw [if_neg h0, ← Int.mul_neg, Int.mul_ediv_cancel _ (by omega)]
theorem flq_le {x y : Int} : (flq x y).natAbs ≤ x.natAbs := by
  unfold flq
  split
  · exact Int.natAbs_ediv_le_natAbs ..
  · have := Int.natAbs_ediv_le_natAbs (-x) (-y)
    rwa [Int.natAbs_neg] at this
/-! ### sizes -/
def Ex2 (e : Nat) : Nat → Nat
  | 0 => e
  | c + 1 => 2 * Ex2 e c + 1
theorem Ex2_eq {e : Nat} : ∀ {c : Nat}, Ex2 e c + 1 = 2 ^ c * (e + 1)
  | 0 => by simp [Ex2]
  | c + 1 => by
    rw [Ex2, Nat.pow_succ, Nat.mul_comm (2 ^ c) 2, Nat.mul_assoc, ← Ex2_eq]; omega
theorem Ex2_suc {e c : Nat} : Ex2 e c ≤ Ex2 e (c + 1) := by rw [Ex2]; omega
theorem Ex2_le {e c : Nat} (he : e ≤ 1000) (hc : c ≤ 12) : Ex2 e c ≤ 4100095 := by
  have h := Ex2_eq (e := e) (c := c)
  have h1 : 2 ^ c ≤ 2 ^ 12 := Nat.pow_le_pow_right (by decide) hc
  have h2 : 2 ^ c * (e + 1) ≤ 2 ^ 12 * (e + 1) := Nat.mul_le_mul_right _ h1
  omega
theorem sk_cross {E : Nat} {a b c d : Int} (ha : Sk E a) (hb : Sk E b) (hc : Sk E c) (hd : Sk E d) : Sk (2 * E + 1) (a * b - c * d) := by
  unfold Sk at *
  have h1 := Int.natAbs_sub_le (a * b) (c * d)
  rw [Int.natAbs_mul, Int.natAbs_mul] at h1
  have h2 : a.natAbs * b.natAbs < LB ^ E * LB ^ E := Nat.mul_lt_mul'' ha hb
  have h3 : c.natAbs * d.natAbs < LB ^ E * LB ^ E := Nat.mul_lt_mul'' hc hd
  have h4 : LB ^ (2 * E + 1) = LB ^ E * LB ^ E * LB := by rw [Nat.pow_succ, Nat.two_mul, Nat.pow_add]
  rw [h4]
  have h5 : LB ^ E * LB ^ E * 2 ≤ LB ^ E * LB ^ E * LB := Nat.mul_le_mul_left _ (by decide)
  omega
/-! ### the states -/
def El (W : Nat → Nat → Int) (r c : Nat) (last : Int) (i k : Nat) : Int := flq (W r c * W i k - W i c * W r k) last
def elm (W : Nat → Nat → Int) (r c : Nat) (last : Int) (i k : Nat) : Int := if r < i ∧ c ≤ k then El W r c last i k else W i k
structure Bst (W0 : Nat → Nat → Int) (n e c r : Nat) (W : Nat → Nat → Int) (last : Int) (odd : Bool) : Prop where
  rc : r ≤ c
  ne : last ≠ 0
  sl : Sk (Ex2 e c) last
  sw : ∀ i j, i < n → j < n → Sk (Ex2 e c) (W i j)
  good : (r = c ∧ ∃ g, Pv g n c W last ∧ dI n g = if odd = true then - dI n W0 else dI n W0) ∨ (r < c ∧ dI n W0 = 0)
section
variable {W0 W : Nat → Nat → Int} {n e c r : Nat} {last : Int} {odd : Bool}
theorem Bst.start (he : 1 ≤ e) (h : ∀ i j, i < n → j < n → Sk e (W0 i j)) : Bst W0 n e 0 0 W0 1 false := by
  refine ⟨Nat.le_refl _, by decide, ?_, h, .inl ⟨rfl, W0, Pv.start, by simp⟩⟩
  unfold Sk Ex2
  exact Nat.one_lt_pow (by omega) (by decide)
theorem Bst.skip (h : Bst W0 n e c r W last odd) (hc : c < n) (hz : ∀ i, r ≤ i → i < n → W i c = 0) : Bst W0 n e (c + 1) r W last odd := by
  refine ⟨Nat.le_succ_of_le h.rc, h.ne, h.sl.mono Ex2_suc, fun i j hi hj => (h.sw i j hi hj).mono Ex2_suc, .inr ⟨Nat.lt_succ_of_le h.rc, ?_⟩⟩
  rcases h.good with ⟨rfl, g, h1, h2⟩ | ⟨_, h1⟩
  · have h3 : dI n g = 0 := Gs.dI_of (h1.stop hc hz)
    rw [h3] at h2
    cases odd
    · simpa using h2.symm
    · simp at h2; omega
  · exact h1
theorem Bst.swap {p : Nat} (h : Bst W0 n e c r W last odd) (hc : c < n) (hp : r ≤ p) (hpn : p < n) (hne : p ≠ r) : Bst W0 n e c r (fun i j => W (swp p r i) j) last (!odd) := by
  have hrn : r < n := Nat.lt_of_le_of_lt h.rc hc
  refine ⟨h.rc, h.ne, h.sl, fun i j hi hj => h.sw _ j (Gs.swp_lt hpn hrn hi) hj, ?_⟩
  rcases h.good with ⟨rfl, g, h1, h2⟩ | h1
  · refine .inl ⟨rfl, _, h1.swap hp hpn, ?_⟩
    rw [Gs.dI_swp hpn hrn hne, h2]
    cases odd <;> simp
  · exact .inr h1
theorem Bst.step (h : Bst W0 n e c r W last odd) (hc : c < n) (hz : W r c ≠ 0) : Bst W0 n e (c + 1) (r + 1) (elm W r c last) (W r c) odd := by
  have hrn : r < n := Nat.lt_of_le_of_lt h.rc hc
  refine ⟨Nat.succ_le_succ h.rc, hz, (h.sw r c hrn hc).mono Ex2_suc, fun i j hi hj => ?_, ?_⟩
  · unfold elm
    split
    · have h1 := sk_cross (h.sw r c hrn hc) (h.sw i j hi hj) (h.sw i c hi hc) (h.sw r j hrn hj)
      exact Nat.lt_of_le_of_lt flq_le h1
    · exact (h.sw i j hi hj).mono Ex2_suc
  · rcases h.good with ⟨rfl, g, h1, h2⟩ | ⟨h1, h2⟩
    · refine .inl ⟨rfl, g, h1.next hrn hz fun i j a1 a2 a3 a4 => ?_, h2⟩
      obtain ⟨q, e1, _⟩ := h1.whole hrn hz a1 a2 a3 a4
      unfold elm El
      rw [if_pos ⟨a1, by omega⟩, flq_exact h.ne e1]
      exact e1
    · exact .inr ⟨Nat.succ_lt_succ h1, h2⟩
theorem Bst.done (h : Bst W0 n e n r W last odd) : (r = n → (if odd = true then -last else last) = dI n W0) ∧ (r ≠ n → dI n W0 = 0) := by
  rcases h.good with ⟨rfl, g, h1, h2⟩ | ⟨h1, h2⟩
  · refine ⟨fun _ => ?_, fun h => absurd rfl h⟩
    rw [Gs.dI_of h1.done] at h2
    rw [h2]
    cases odd <;> simp
  · exact ⟨fun h => by omega, fun _ => h2⟩
end
end Go.Proofs.Ytdpdnplljonppaa.VDt
namespace Go.Proofs.Ytdpdnplljonppaa.VDt
open Go Vpi
open VBn hiding rp tab rp_ok all_ok mixed sim Big
set_option maxRecDepth 100000
set_option linter.unusedSimpArgs false
set_option linter.unusedVariables false
open Gs (Pv dI swp)
theorem rp209 : rp 130 = some f130 := rfl
theorem rp193 : rp 77 = some f77 := rfl
theorem join2 {rs : List RRes} {c : RCode} {ks : List KI} {Q : CV → Store → Prop} {G : Prop} {R : Env → Store → Prop} (hmain : (∀ e ρ, R e ρ → Ex rp rs (.loop c) ks e ρ Q) → G) (hrest : ∀ e ρ, R e ρ → Ex rp rs (.loop c) ks e ρ Q) : G := hmain hrest
theorem setC1 {α : Type} {l : List α} {i : Nat} {x : α} (h : i < l.length) : setCells l (i * 1) [x] = l.set i x := by
  unfold setCells
  rw [Nat.mul_one]
  apply List.ext_getElem?
  intro j
  rcases Nat.lt_trichotomy j i with h1 | h1 | h1
  · rw [List.getElem?_set_ne (by omega), List.append_assoc, List.getElem?_append_left (by rw [List.length_take]; omega), List.getElem?_take, if_pos h1]
  · subst h1
    rw [List.getElem?_set_self h, List.append_assoc, List.getElem?_append_right (by rw [List.length_take]; omega), List.length_take, Nat.min_eq_left (by omega), Nat.sub_self]
    rfl
  · rw [List.getElem?_set_ne (by omega), List.getElem?_append_right (by simp; omega), List.getElem?_drop]
    congr 1
    simp
    omega
structure S9 where
  c : Nat
  r : Nat
  W : Nat → Nat → Int
  last : Int
  odd : Bool
  τ : Store
  cs : List CV
  ch : CV
  hs : List PV
structure F9 (k q n : Nat) (W : Nat → Nat → Int) (last : Int) (τ : Store) (cs : List CV) (ch : CV) (hs : List PV) : Prop where
  h0 : τ[0]? = some (.kblk 2 [.p (.bool false), .nils])
  h1 : τ[1]? = some (.kblk 2 [.p (.bool false), .nils])
  hq : τ[q]? = some (.kblk 2 (cz last))
  hk : τ[k]? = some (.kblk 1 cs)
  ro : RowsF τ cs n n W
  gh : GL τ 1 ch hs
structure B9 (k q : Nat) (W0 : Nat → Nat → Int) (n e : Nat) (s : S9) : Prop where
  cn : s.c ≤ n
  f : F9 k q n s.W s.last s.τ s.cs s.ch s.hs
  hl : s.hs.length = s.r
  b : Bst W0 n e s.c s.r s.W s.last s.odd
section
variable {k q n : Nat} {W V : Nat → Nat → Int} {last : Int} {τ : Store} {cs : List CV} {ch : CV} {hs : List PV}
theorem F9.push (h : F9 k q n W last τ cs ch hs) {l : Store} : F9 k q n W last (τ ++ l) cs ch hs := by
  obtain ⟨a0, a1, a2, a3, a4, a5⟩ := h
  exact ⟨by rw [get_left (List.getElem?_eq_some_iff.1 a0).1]; exact a0, by rw [get_left (List.getElem?_eq_some_iff.1 a1).1]; exact a1, by rw [get_left (List.getElem?_eq_some_iff.1 a2).1]; exact a2, by rw [get_left (List.getElem?_eq_some_iff.1 a3).1]; exact a3, a4.app, a5.left⟩
theorem F9.row (h : F9 k q n W last τ cs ch hs) {i b : Nat} {f : Nat → Int} (hi : i < n) (hc : cs[i]? = some (.own b 0 n)) (hv1 : ∀ j, j < n → f j = V i j) (hv2 : ∀ a j, a < n → a ≠ i → j < n → W a j = V a j) : F9 k q n V last (τ.set b (.prow 2 (zF n f))) cs ch hs := by
  obtain ⟨a0, a1, a2, a3, a4, a5⟩ := h
  obtain ⟨b0, g1, g2⟩ := a4.own i hi
  rw [hc] at g1
  cases g1
  refine ⟨by rw [get_ne (a4.apart a0 hi hc)]; exact a0, by rw [get_ne (a4.apart a1 hi hc)]; exact a1, by rw [get_ne (a4.apart a2 hi hc)]; exact a2, by rw [get_ne (a4.apart a3 hi hc)]; exact a3, a4.set hi hc hv1 hv2, ?_⟩
  refine a5.set_ne fun b' o m hb' => ?_
  rintro rfl
  rcases a5 with ⟨h, _⟩ | ⟨b'', h, h'⟩
  · rw [h] at hb'; cases hb'
  · rw [h] at hb'; cases hb'; rw [g2] at h'; cases h'
theorem F9.congr (h : F9 k q n W last τ cs ch hs) (hv : ∀ i j, i < n → j < n → W i j = V i j) : F9 k q n V last τ cs ch hs :=
  ⟨h.h0, h.h1, h.hq, h.hk, h.ro.congr hv, h.gh⟩
theorem F9.rowOf (h : F9 k q n W last τ cs ch hs) {i : Nat} {f : Nat → Int} (hi : i < n) (hf : ∀ j, j < n → W i j = f j) : ∃ b, cs[i * 1]? = some (.own b 0 n) ∧ τ[b]? = some (.prow 2 (zF n f)) := by
  obtain ⟨b, g1, g2⟩ := h.ro.own i hi
  exact ⟨b, by rw [Nat.mul_one]; exact g1, by rw [← zF_congr hf]; exact g2⟩
theorem F9.swap (h : F9 k q n W last τ cs ch hs) {p r : Nat} {cp cr : CV} (hp : p < n) (hr : r < n) (hcp : cs[p * 1]? = some cp) (hcr : cs[r * 1]? = some cr) : F9 k q n (fun i j => W (swp p r i) j) last (τ.set k (.kblk 1 ((cs.set p cr).set r cp))) ((cs.set p cr).set r cp) ch hs := by
  rw [Nat.mul_one] at hcp hcr
  obtain ⟨a0, a1, a2, a3, a4, a5⟩ := h
  have ne : ∀ {j xs}, τ[j]? = some (.kblk 2 xs) → k ≠ j := fun {j xs} hj => by
    rintro rfl
    rw [a3] at hj
    cases hj
  refine ⟨by rw [get_ne (ne a0)]; exact a0, by rw [get_ne (ne a1)]; exact a1, by rw [get_ne (ne a2)]; exact a2, get_self (List.getElem?_eq_some_iff.1 a3).1, (a4.setk a3).swap hp hr hcp hcr, a5.set a3⟩
end
section
variable {k q n : Nat} {W V : Nat → Nat → Int} {last : Int} {τ : Store} {cs : List CV} {ch : CV} {hs : List PV}
theorem F9.app (h : F9 k q n W last τ cs ch hs) {xs : List PV} {l : Nat} (hl : l = τ.length) {m : Nat} (hm : m = (hs ++ xs).length) : F9 k q n W last (nd τ ch ++ [.prow 1 xs, .prow 1 (hs ++ xs)]) cs (.own (l + 1) 0 m) (hs ++ xs) :=
  ⟨GL.kb h.gh h.h0, GL.kb h.gh h.h1, GL.kb h.gh h.hq, GL.kb h.gh h.hk, (h.ro.nd h.gh).app, GL.new2 hm hl⟩
theorem F9.setl (h : F9 k q n W last τ cs ch hs) {last' : Int} (h0q : q ≠ 0) (h1q : q ≠ 1) : F9 k q n W last' (τ.set q (.kblk 2 (cz last'))) cs ch hs := by
  obtain ⟨a0, a1, a2, a3, a4, a5⟩ := h
  refine ⟨by rw [get_ne h0q]; exact a0, by rw [get_ne h1q]; exact a1, get_self (List.getElem?_eq_some_iff.1 a2).1, ?_, a4.setk a2, a5.set a2⟩
  rw [get_ne]
  · exact a3
  · rintro rfl; rw [a2] at a3; cases a3
end
theorem r_app_l {rp : RProg} {rs : List RRes} {base : Nat} {d : Option Nat} {l : List LOp} {dr : Dr} {ks : List KI} {ε : Env} {σ : Store} {Q : CV → Store → Prop} {c : CV} {sz m : Nat} {es xs : List PV} {s x : Opd} {bytes : Nat} (hm : σ.length = m) (h : GL σ sz c es) (hc : (es.length + xs.length) * bytes ≤ 140737488355328) (hs : vl ε s = c) (hx : vl ε x = .own m 0 xs.length) (hz : allSz sz xs = true) :
    ExR rp rs base (⟨d, none, none, .append sz bytes s x⟩ :: l) dr ks ε (σ ++ [.prow sz xs]) Q = ExR rp rs base l dr ks (sto d (.own (m + 1) 0 (es.length + xs.length)) ε) (nd σ c ++ [.prow sz xs, .prow sz (es ++ xs)]) Q := by
  subst hm
  exact r_app h hc hs hx hz
theorem n209 {n e : Nat} {W0 : Nat → Nat → Int} (hn : n ≤ 12) (he1 : 1 ≤ e) (he : e ≤ 1000) (hW : ∀ i j, i < n → j < n → Sk e (W0 i j)) {Q : CV → Store → Prop}
    (hQ : ∀ ρ k ch last odd r hs W, ρ[0]? = some (.kblk 2 [.p (.bool false), .nils]) → GL ρ 1 ch hs → hs.length = r → r ≤ n → Bst W0 n e n r W last odd → Q (.tup [.own k 0 n, ch, .p (zi last), .p (.bool odd)]) ρ) :
    Rn rp 130 [.p (.sl (zM n n W0)), i64 n] [.kblk 2 [.p (.bool false), .nils]] Q := by
  rw [rn_of rp209]
  have k54 := (VBn.p54 (x := 1) (by decide) (by decide)).lift base_le
  simp only [f130, args0, SA, setCells, Int.reduceLE, Int.reduceLT, ↓reduceIte, reduceCtorEq, Nat.reduceLT, Nat.reduceEqDiff, Nat.reduceAdd, Nat.reduceMul, Nat.reduceLeDiff, Nat.reduceBEq]
  refine kc_keep' (n211 (by omega) (by omega) fun ρ k cs hp hkl hk hro => ?_)
  simp only [SA, setCells, Int.reduceLE, Int.reduceLT, ↓reduceIte, reduceCtorEq, Nat.reduceLT, Nat.reduceEqDiff, Nat.reduceAdd, Nat.reduceMul, Nat.reduceLeDiff, Nat.reduceBEq, kp1 k54]
  refine loop_rule (β := S9) (fun s => ([(6, .ptr 1 0 0), (8, .own k 0 n), (9, s.ch), (10, .ptr ρ.length 0 0), (11, .p (.bool s.odd)), (21, i64 n), (22, i64 s.c)], s.τ)) (B9 k ρ.length W0 n e) (fun s => n - s.c) (⟨0, 0, W0, 1, false, ρ ++ [.kblk 2 (cz 1)], cs, .nils, []⟩ : S9) rfl rfl
    ⟨Nat.zero_le _, ⟨by rw [get_left (Nat.lt_of_lt_of_le (by decide) hp.len), hp.get 0 (by decide)]; rfl, by rw [get_left (Nat.lt_of_lt_of_le (by decide) hp.len), hp.get 1 (by decide)]; rfl, by rw [get_app0]; rfl, by rw [get_left (List.getElem?_eq_some_iff.1 hk).1]; exact hk, hro.app, .nil⟩, rfl, Bst.start he1 hW⟩ ?_
  have hq0 : ρ.length ≠ 0 := by have := hp.len; simp at this; omega
  have hq1 : ρ.length ≠ 1 := by have := hp.len; simp at this; omega
  generalize ρ.length = q at *
  clear hp hkl hk hro
  rintro ⟨c, r, W, last, odd, τ, cs, ch, hs⟩ ⟨hcn, hF, hl, hb⟩ ih
  simp only [] at hcn hF hl hb ih ⊢
  have hlen : lenV ch = some r := by rw [hF.gh.len, hl]
  have hrn : r ≤ n := Nat.le_trans hb.rc hcn
  by_cases hin : (c : Int) < n
  · have hin' : c < n := by omega
    have w1 : IntKind.i64.wrap ((c : Int) + 1) = ((c + 1 : Nat) : Int) := by rw [IntWalk.i64_in _ (by omega)]; omega
    have hrc := hb.rc
    have hE := Ex2_le he (c := c) (by omega)
    simp only [SA, Int.reduceLE, Int.reduceLT, ↓reduceIte, reduceCtorEq, Nat.reduceLT, Nat.reduceEqDiff, Nat.reduceAdd, Nat.reduceMul, Nat.reduceLeDiff, Nat.reduceBEq, hin, hlen]
    refine loop_rule (β := Nat) (fun p => ([(6, .ptr 1 0 0), (8, .own k 0 n), (9, ch), (10, .ptr q 0 0), (11, .p (.bool odd)), (12, i64 c), (13, i64 r), (14, i64 p), (21, i64 n), (22, i64 c)], τ)) (fun p => r ≤ p ∧ p ≤ n ∧ ∀ i, r ≤ i → i < p → W i c = 0) (fun p => n - p) r rfl rfl ⟨Nat.le_refl _, hrn, fun i h1 h2 => by omega⟩ ?_
    rintro p ⟨hp1, hp2, hpz⟩ ih2
    simp only [] at hp1 hp2 hpz ih2 ⊢
    by_cases hpn : (p : Int) < n
    · have hpn' : p < n := by omega
      obtain ⟨bp, g1, g2⟩ := hF.rowOf hpn' (f := W p) (fun _ _ => rfl)
      have hk := hF.hk
      have k77 := (VBn.p77 (Nu.zi ((hb.sw p c hpn' hin').sz (by omega)))).lift base_le
      have w2 : IntKind.i64.wrap ((p : Int) + 1) = ((p + 1 : Nat) : Int) := by rw [IntWalk.i64_in _ (by omega)]; omega
      by_cases hz : W p c = 0
      · have e0 : (((W p c).sign : Int) == 0) = true := by rw [hz]; rfl
        simp only [SA, Int.reduceLE, Int.reduceLT, ↓reduceIte, reduceCtorEq, Nat.reduceLT, Nat.reduceEqDiff, Nat.reduceAdd, Nat.reduceMul, Nat.reduceLeDiff, Nat.reduceBEq, hpn, hpn', Int.natCast_nonneg, Int.toNat_natCast, hk, g1, g2, zF_get hin', hin', subPV_zi, kp1 k77, e0, w2]
        exact ih2 (p + 1) _ ⟨by omega, by omega, fun i h1 h2 => by
          rcases Nat.lt_or_ge i p with h | h
          · exact hpz i h1 h
          · obtain rfl : i = p := by omega
            exact hz⟩ (by omega) rfl
      · have e0 : (((W p c).sign : Int) == 0) = false := by
          rw [beq_eq_false_iff_ne]; intro h; exact hz (Int.sign_eq_zero_iff_zero.1 h)
        have e1 : ((p : Int) == (n : Int)) = false := by rw [beq_eq_false_iff_ne]; omega
        refine @join2 ?rs ?cc ?kk Q _ (fun ε τ' => ∃ cs' W' odd', fgt [6, 8, 9, 10, 11, 12, 13, 15, 21, 22] ε = [(6, .ptr 1 0 0), (8, .own k 0 n), (9, ch), (10, .ptr q 0 0), (11, .p (.bool odd')), (12, i64 c), (13, i64 r), (15, i64 (r + 1 : Nat)), (21, i64 n), (22, i64 c)] ∧ F9 k q n W' last τ' cs' ch hs ∧ Bst W0 n e c r W' last odd' ∧ W' r c ≠ 0) (fun rest => ?main) ?tail
        case main =>
          have hrn' : r < n := by omega
          have w3 : IntKind.i64.wrap ((r : Int) + 1) = ((r + 1 : Nat) : Int) := by rw [IntWalk.i64_in _ (by omega)]; omega
          have hkl := (List.getElem?_eq_some_iff.1 hk).1
          have hcl := hF.ro.len
          by_cases hpr : p = r
          · subst hpr
            simp only [SA, Int.reduceLE, Int.reduceLT, ↓reduceIte, reduceCtorEq, Nat.reduceLT, Nat.reduceEqDiff, Nat.reduceAdd, Nat.reduceMul, Nat.reduceLeDiff, Nat.reduceBEq, hpn, hpn', Int.natCast_nonneg, Int.toNat_natCast, hk, g1, g2, zF_get hin', hin', subPV_zi, kp1 k77, e0, e1, bne_self_eq_false, w3]
            refine rest _ _ ⟨cs, W, odd, ?_, hF, hb, hz⟩
            rfl
          · have e2 : ((p : Int) != (r : Int)) = true := by rw [bne_iff_ne]; omega
            obtain ⟨br, g3, g4⟩ := hF.rowOf hrn' (f := W r) (fun _ _ => rfl)
            have hs1 : setCells cs (p * 1) [.own br 0 n] = cs.set p (.own br 0 n) := setC1 (by omega)
            have hs2 : setCells (cs.set p (.own br 0 n)) (r * 1) [.own bp 0 n] = (cs.set p (.own br 0 n)).set r (.own bp 0 n) := setC1 (by rw [List.length_set]; omega)
            have e4 : ∀ x, (τ.set k x)[k]? = some x := fun x => get_self hkl
            have l1 : p * 1 + 1 ≤ cs.length := by omega
            have l2 : r * 1 + 1 ≤ cs.length := by omega
            simp only [SA, Int.reduceLE, Int.reduceLT, ↓reduceIte, reduceCtorEq, Nat.reduceLT, Nat.reduceEqDiff, Nat.reduceAdd, Nat.reduceMul, Nat.reduceLeDiff, Nat.reduceBEq, hpn, hpn', hrn', Int.natCast_nonneg, Int.toNat_natCast, hk, g1, g2, g3, zF_get hin', hin', subPV_zi, kp1 k77, e0, e1, e2, hs1, hs2, e4, l1, l2, List.set_set, w3]
            refine rest _ _ ⟨_, _, !odd, ?_, hF.swap hpn' hrn' g1 g3, hb.swap hin' hp1 hpn' hpr, ?_⟩
            · rfl
            simp only [swp]
            rw [if_neg (Ne.symm hpr)]
            simpa using hz
        case tail =>
          rintro ε τ' ⟨cs', W', odd', hε, hF', hb', hz'⟩
          clear ih2 g1 g2 hk hF hb k77 hpz
          have hrn' : r < n := by omega
          refine loop_rule (β := Nat × Store) (fun t => ([(6, .ptr 1 0 0), (8, .own k 0 n), (9, ch), (10, .ptr q 0 0), (11, .p (.bool odd')), (12, i64 c), (13, i64 r), (15, i64 t.1), (21, i64 n), (22, i64 c)], t.2)) (fun t => r < t.1 ∧ t.1 ≤ n ∧ F9 k q n (fun a b => if a < t.1 then elm W' r c last a b else W' a b) last t.2 cs' ch hs) (fun t => n - t.1) ((r + 1, τ') : Nat × Store) hε rfl ⟨Nat.lt_succ_self r, hrn', hF'.congr fun a b ha hbb => by
            by_cases h : a < r + 1
            · rw [if_pos h]; unfold elm; rw [if_neg (by omega)]
            · rw [if_neg h]⟩ ?_
          rintro ⟨i, σ1⟩ ⟨hi1, hi2, hF1⟩ ih3
          simp only [] at hi1 hi2 hF1 ih3 ⊢
          have hcl := hF1.ro.len
          by_cases hii : (i : Int) < n
          · have hii' : i < n := by omega
            have w3 : IntKind.i64.wrap ((i : Int) + 1) = ((i + 1 : Nat) : Int) := by rw [IntWalk.i64_in _ (by omega)]; omega
            have w4 : IntKind.i64.wrap ((n : Int) - 1) = (n : Int) - 1 := IntWalk.i64_in _ (by omega)
            obtain ⟨bi, g1, g2⟩ := hF1.rowOf hii' (f := W' i) (fun j _ => by rw [if_neg (Nat.lt_irrefl i)])
            have hk := hF1.hk
            simp only [SA, Int.reduceLE, Int.reduceLT, ↓reduceIte, reduceCtorEq, Nat.reduceLT, Nat.reduceEqDiff, Nat.reduceAdd, Nat.reduceMul, Nat.reduceLeDiff, Nat.reduceBEq, hii, hii', hcl, Int.natCast_nonneg, Int.toNat_natCast, hk, g1, w4]
            refine loop_rule (β := Nat × Store) (fun t => ([(6, .ptr 1 0 0), (8, .own k 0 n), (9, ch), (10, .ptr q 0 0), (11, .p (.bool odd')), (12, i64 c), (13, i64 r), (15, i64 i), (16, i64 ((t.1 : Int) - 1)), (21, i64 n), (22, i64 c)], t.2)) (fun t => c ≤ t.1 ∧ t.1 ≤ n ∧ F9 k q n (fun a b => if a < i ∨ (a = i ∧ t.1 ≤ b) then elm W' r c last a b else W' a b) last t.2 cs' ch hs) (fun t => t.1) ((n, σ1) : Nat × Store) rfl rfl ⟨hcn, Nat.le_refl n, hF1.congr fun a b ha hbb => by
              by_cases h : a < i
              · rw [if_pos h, if_pos (.inl h)]
              · rw [if_neg h, if_neg (by omega)]⟩ ?_
            clear hF1 g1 g2 hk
            rintro ⟨t, σ2⟩ ⟨ht1, ht2, hF2⟩ ih4
            simp only [] at ht1 ht2 hF2 ih4 ⊢
            by_cases htc : (t : Int) - 1 ≥ c
            · obtain ⟨t, rfl⟩ : ∃ t', t = t' + 1 := ⟨t - 1, by omega⟩
              have hE : (((t + 1 : Nat) : Int) - 1) = (t : Int) := by omega
              rw [hE] at htc ⊢
              have htn : t < n := by omega
              have hct : c ≤ t := by omega
              obtain ⟨br, g1, g2⟩ := hF2.rowOf hrn' (f := W' r) (fun j _ => by rw [if_pos (.inl hi1)]; unfold elm; rw [if_neg (by omega)])
              obtain ⟨bi, g3, g4⟩ := hF2.rowOf hii' (f := fun b => if t + 1 ≤ b then elm W' r c last i b else W' i b) (fun j _ => by simp)
              have e1 : (if t + 1 ≤ t then elm W' r c last i t else W' i t) = W' i t := by rw [if_neg (by omega)]
              have e2 : (if t + 1 ≤ c then elm W' r c last i c else W' i c) = W' i c := by rw [if_neg (by omega)]
              have hk := hF2.hk
              have hq := hF2.hq
              have z1 := hb'.sw r c hrn' hin'
              have z2 := hb'.sw i t hii' htn
              have z3 := hb'.sw i c hii' hin'
              have z4 := hb'.sw r t hrn' htn
              have k63a := (VBn.p63' (Nu.zi (z1.sz (by omega))) (Nu.zi (z2.sz (by omega)))).lift base_le
              have k63b := (VBn.p63' (Nu.zi (z3.sz (by omega))) (Nu.zi (z4.sz (by omega)))).lift base_le
              have k157 := (VBn.p157 (Nu.zi ((z1.mul z2).sz (by omega))) (Nu.zi ((z3.mul z4).sz (by omega)))).lift base_le
              obtain ⟨q1, r1, f1, f2⟩ := fl134 (Nu.zi ((sk_cross z1 z2 z3 z4).sz (by omega))) (Nu.zi (hb'.sl.sz (by omega))) hb'.ne
              have f3 := f2.lift base_le
              obtain rfl := f1.flq hb'.ne
              rw [zi_raw (x := W' r c * W' i t - W' i c * W' r t), zi_raw (x := last)] at f3
              have lk := (List.getElem?_eq_some_iff.1 hk).1
              have lq := (List.getElem?_eq_some_iff.1 hq).1
              have lr := (List.getElem?_eq_some_iff.1 g2).1
              have li := (List.getElem?_eq_some_iff.1 g4).1
              have a1 : ∀ l, (σ2 ++ l)[k]? = some (.kblk 1 cs') := fun l => by rw [get_left lk]; exact hk
              have a2 : ∀ l, (σ2 ++ l)[q]? = some (.kblk 2 (cz last)) := fun l => by rw [get_left lq]; exact hq
              have a3 : ∀ l, (σ2 ++ l)[br]? = some (.prow 2 (zF n (W' r))) := fun l => by rw [get_left lr]; exact g2
              have a4 : ∀ l, (σ2 ++ l)[bi]? = some (.prow 2 (zF n fun b => if t + 1 ≤ b then elm W' r c last i b else W' i b)) := fun l => by rw [get_left li]; exact g4
              have a5 : ∀ l x, (σ2 ++ l).set bi x = σ2.set bi x ++ l := fun l x => set_left li
              have b1 := zF_get (f := W' r) hin'
              have b2 := zF_get (f := W' r) htn
              have b3 := zF_get (f := fun b => if t + 1 ≤ b then elm W' r c last i b else W' i b) hin'
              have b4 := zF_get (f := fun b => if t + 1 ≤ b then elm W' r c last i b else W' i b) htn
              simp only [e2] at b3
              simp only [e1] at b4
              have w5 : IntKind.i64.wrap ((t : Int) - 1) = (t : Int) - 1 := IntWalk.i64_in _ (by omega)
              simp only [SA, setCells, Int.reduceLE, Int.reduceLT, ↓reduceIte, reduceCtorEq, Nat.reduceLT, Nat.reduceEqDiff, Nat.reduceAdd, Nat.reduceMul, Nat.reduceLeDiff, Nat.reduceBEq, htc, hii', hrn', htn, hin', Int.natCast_nonneg, Int.toNat_natCast, a1, g1, g3, a3, a4, b1, b2, b3, b4, subPV_zi, kp2 k63a, kp2 k63b, kp2 k157, push_sl, a2, cz, kp2 f3, updPV_zz, a5, zF_set, w5]
              rw [Nat.mul_one] at g3
              refine ih4 (t, σ2.set bi (.prow 2 (zF n fun b => if b = t then flq (W' r c * W' i t - W' i c * W' r t) last else if t + 1 ≤ b then elm W' r c last i b else W' i b)) ++ [.kblk 2 (cz (W' r c * W' i t - W' i c * W' r t))]) _ ⟨hct, by simp only []; omega, (hF2.row hii' g3 (fun j hj => ?_) fun a j ha hai hj => ?_).push⟩ (by simp only []; omega) ?_
              · show (if j = t then _ else _) = if i < i ∨ (i = i ∧ t ≤ j) then _ else _
                by_cases h : j = t
                · subst h
                  rw [if_pos rfl, if_pos (by omega)]
                  unfold elm El
                  rw [if_pos ⟨hi1, hct⟩]
                · rw [if_neg h]
                  by_cases h2 : t + 1 ≤ j
                  · rw [if_pos h2, if_pos (by omega)]
                  · rw [if_neg h2, if_neg (by omega)]
              · show (if a < i ∨ (a = i ∧ t + 1 ≤ j) then _ else _) = if a < i ∨ (a = i ∧ t ≤ j) then _ else _
                by_cases h : a < i
                · rw [if_pos (.inl h), if_pos (.inl h)]
                · rw [if_neg (by omega), if_neg (by omega)]
              · rfl
            · obtain rfl : t = c := by omega
              simp only [SA, Int.reduceLE, Int.reduceLT, ↓reduceIte, reduceCtorEq, Nat.reduceLT, Nat.reduceEqDiff, Nat.reduceAdd, Nat.reduceMul, Nat.reduceLeDiff, Nat.reduceBEq, htc, w3]
              refine ih3 (i + 1, σ2) _ ⟨by simp only []; omega, by simp only []; omega, hF2.congr fun a b ha hbb => ?_⟩ (by simp only []; omega) ?_
              · show (if a < i ∨ (a = i ∧ t ≤ b) then _ else _) = if a < i + 1 then _ else _
                by_cases h : a < i
                · rw [if_pos (.inl h), if_pos (by omega)]
                · by_cases h2 : a = i
                  · subst h2
                    rw [if_pos (Nat.lt_succ_self a)]
                    by_cases h3 : t ≤ b
                    · rw [if_pos (.inr ⟨rfl, h3⟩)]
                    · rw [if_neg (by omega)]
                      unfold elm
                      rw [if_neg (by omega)]
                  · rw [if_neg (by omega), if_neg (by omega)]
              · rfl
          · obtain rfl : i = n := by omega
            obtain ⟨br, g1, g2⟩ := hF1.rowOf hrn' (f := W' r) (fun j _ => by rw [if_pos hrn']; unfold elm; rw [if_neg (by omega)])
            have hk := hF1.hk
            have hq := hF1.hq
            have lq := (List.getElem?_eq_some_iff.1 hq).1
            have b1 := zF_get (f := W' r) hin'
            have hgl := hF1.gh.set hq (x := .kblk 2 (cz (W' r c)))
            have hc8 : (hs.length + [PV.int .i64 (c : Int)].length) * 8 ≤ 140737488355328 := by rw [hl]; simp; omega
            have hR := fun {rp rs base d l dr ks ε Q s x} => r_app_l (rp := rp) (rs := rs) (base := base) (d := d) (l := l) (dr := dr) (ks := ks) (ε := ε) (Q := Q) (s := s) (x := x) (show (σ1.set q (Blk.kblk 2 (cz (W' r c)))).length = σ1.length from List.length_set ..) hgl hc8
            simp only [cz] at hR
            simp only [SA, setCells, Int.reduceLE, Int.reduceLT, ↓reduceIte, reduceCtorEq, Nat.reduceLT, Nat.reduceEqDiff, Nat.reduceAdd, Nat.reduceMul, Nat.reduceLeDiff, Nat.reduceBEq, hii, hcl, hrn', hin', Int.natCast_nonneg, Int.toNat_natCast, hk, g1, g2, b1, subPV_zi, hq, cz, hR, hl, w1]
            refine ih ⟨c + 1, r + 1, elm W' r c last, W' r c, odd', nd (σ1.set q (.kblk 2 (cz (W' r c)))) ch ++ [.prow 1 [.int .i64 c], .prow 1 (hs ++ [.int .i64 c])], cs', .own (σ1.length + 1) 0 (r + 1), hs ++ [.int .i64 c]⟩ _ ⟨by simp only []; omega, ((hF1.congr fun a b ha hbb => by rw [if_pos ha]).setl hq0 hq1).app (by rw [List.length_set]) (by simp [hl]), by simp [hl], hb'.step hin' hz'⟩ (by simp only []; omega) ?_
            rfl
    · obtain rfl : p = n := by omega
      have hcl := hF.ro.len
      simp only [SA, Int.reduceLE, Int.reduceLT, ↓reduceIte, reduceCtorEq, Nat.reduceLT, Nat.reduceEqDiff, Nat.reduceAdd, Nat.reduceMul, Nat.reduceLeDiff, Nat.reduceBEq, hpn, beq_self_eq_true, w1]
      refine ih ⟨c + 1, r, W, last, odd, τ, cs, ch, hs⟩ _ ⟨by simp only []; omega, hF, hl, hb.skip hin' fun i h1 h2 => hpz i h1 h2⟩ (by simp only []; omega) ?_
      rfl
  · obtain rfl : c = n := by omega
    obtain ⟨a0, a1, a2, a3, a4, a5⟩ := hF
    have l1 := (List.getElem?_eq_some_iff.1 a1).1
    have e1 : ∀ x, (τ.set 1 x)[1]? = some x := fun x => get_self l1
    simp only [SA, setCells, Int.reduceLE, Int.reduceLT, ↓reduceIte, reduceCtorEq, Nat.reduceLT, Nat.reduceEqDiff, Nat.reduceAdd, Nat.reduceMul, Nat.reduceLeDiff, Nat.reduceBEq, hin, a2, cz, a1, e1]
    exact hQ _ k ch last odd r hs W (by rw [get_ne (by decide)]; exact a0) (a5.set a1) hl hb.rc hb
theorem p193 {n e : Nat} {W : Nat → Nat → Int} (hn : n ≤ 12) (he1 : 1 ≤ e) (he : e ≤ 1000) (hW : ∀ i j, i < n → j < n → Sk e (W i j)) : Pu rp 77 [.sl (zM n n W)] (.p (zi (dI n W))) := by
  refine pu_of rp193 ?_
  simp only [f77, args0, SA, setCells, Int.reduceLE, Int.reduceLT, ↓reduceIte, reduceCtorEq, Nat.reduceLT, Nat.reduceEqDiff, Nat.reduceAdd, Nat.reduceMul, Nat.reduceLeDiff, Nat.reduceBEq, zM_len]
  refine kc_keep' (n209 hn he1 he hW fun ρ k ch last odd r hs W' h0 hg hl hr hb => ?_)
  have hlen : lenV ch = some r := by rw [hg.len, hl]
  obtain ⟨d1, d2⟩ := hb.done
  have hsz := hb.sl.sz (Nat.le_trans (Ex2_le he hn) (by decide))
  have l0 := (List.getElem?_eq_some_iff.1 h0).1
  have e0 : ∀ l, (ρ ++ l)[0]? = some (.kblk 2 [.p (.bool false), .nils]) := fun l => by rw [get_left l0]; exact h0
  have e1 : ∀ l x, (ρ ++ l).set 0 x = ρ.set 0 x ++ l := fun l x => set_left l0
  have e2 : ∀ l x, (ρ.set 0 x ++ l)[0]? = some x := fun l x => by rw [get_left (by rw [List.length_set]; exact l0), get_self l0]
  by_cases hrn : (r : Int) < n
  · have hr' : r ≠ n := by omega
    rw [d2 hr']
    rw [zi_zero]
    simp only [SA, setCells, Int.reduceLE, Int.reduceLT, ↓reduceIte, reduceCtorEq, Nat.reduceLT, Nat.reduceEqDiff, Nat.reduceAdd, Nat.reduceMul, Nat.reduceLeDiff, Nat.reduceBEq, zi_raw (x := last), hlen, hrn, e0, e1, e2]
    rfl
  · obtain rfl : r = n := by omega
    have hd := d1 rfl
    cases odd
    · have k94 := p94 (Nu.zi hsz)
      rw [zi_raw (x := last)] at k94
      simp only [Bool.false_eq_true, if_false] at hd
      rw [← hd]
      have k94' : Pu rp 57 [.agg [.bool (decide (last < 0) && decide (last.natAbs ≠ 0)), .sl (lm (dgl last.natAbs))]] (.p (zi last)) := p94 (Nu.zi hsz)
      simp only [SA, setCells, Int.reduceLE, Int.reduceLT, ↓reduceIte, reduceCtorEq, Nat.reduceLT, Nat.reduceEqDiff, Nat.reduceAdd, Nat.reduceMul, Nat.reduceLeDiff, Nat.reduceBEq, zi_raw (x := last), hlen, hrn, e0, e1, e2, kz1 k94']
      rfl
    · simp only [if_true] at hd
      rw [← hd]
      have k146 : Pu rp 131 [.agg [.bool (decide (last < 0) && decide (last.natAbs ≠ 0)), .sl (lm (dgl last.natAbs))]] (.p (zi (-last))) := (VBn.p146 (Nu.zi hsz)).lift base_le
      simp only [SA, setCells, Int.reduceLE, Int.reduceLT, ↓reduceIte, reduceCtorEq, Nat.reduceLT, Nat.reduceEqDiff, Nat.reduceAdd, Nat.reduceMul, Nat.reduceLeDiff, Nat.reduceBEq, zi_raw (x := last), hlen, hrn, e0, e1, e2, kz1 k146]
      rfl
end Go.Proofs.Ytdpdnplljonppaa.VDt
namespace Go.Proofs.Ytdpdnplljonppaa.VDt
open Go Vpi
open VBn hiding rp tab rp_ok all_ok mixed sim Big
set_option maxRecDepth 100000
set_option linter.unusedSimpArgs false
set_option linter.unusedVariables false
open Gs (Pv dI swp sk cI)
theorem rp208 : rp 129 = some f129 := rfl
theorem rp192 : rp 76 = some f76 := rfl
theorem zM_mr {m n : Nat} {W : Nat → Nat → Int} (hn : n ≤ 2000000) (h : ∀ i j, i < m → j < n → Sz (W i j)) : MR (zM m n W) (fun _ => n) W := by
  intro i hi
  rw [zM_len] at hi
  refine ⟨_, zM_get hi, zF_len, hn, fun j hj => ?_⟩
  rw [zF_len] at hj
  exact ⟨_, zF_get hj, Nu.zi (h i j hi hj)⟩
theorem z93 {m n : Nat} {W : Nat → Nat → Int} (hm0 : 0 < m) (hm : m ≤ 2000000) (hn : n ≤ 2000000) (h : ∀ i j, i < m → j < n → Sz (W i j)) : Pu rp 56 [.sl (zM m n W)] (.tup [.p (.int .i64 m), .p (.int .i64 n), .p (.int .i64 0)]) := by
  have k := ((VBn.p93 (zM_mr hn h) (by rw [zM_len]; omega) (by rw [zM_len]; exact hm)).2 (fun ⟨i, h1, h2⟩ => h2 rfl)).lift base_le
  rw [zM_len] at k
  exact k
theorem p208 {m n : Nat} {W : Nat → Nat → Int} (hm0 : 0 < m) (hm : m ≤ 64) (hn : n ≤ 64) (h : ∀ i j, i < m → j < n → Sz (W i j)) : Pu rp 129 [.sl (zM m n W)] (.tup [.p (.int .i64 m), .p (.int .i64 n), .p (.int .i64 0)]) := by
  have k93 := z93 hm0 (by omega) (by omega) h
  refine pu_of rp208 ?_
  have e0 : ((0 : Int) != 0) = false := rfl
  have e1 : ¬ (m : Int) > 64 := by omega
  have e2 : ¬ (n : Int) > 64 := by omega
  simp only [f129, args0, SA, setCells, Int.reduceLE, Int.reduceLT, ↓reduceIte, reduceCtorEq, Nat.reduceLT, Nat.reduceEqDiff, Nat.reduceAdd, Nat.reduceMul, Nat.reduceLeDiff, Nat.reduceBEq, kp1 k93, e0, e1, e2]
  exact back_t3 back1_p back1_p back1_p
theorem p192 {n : Nat} {W : Nat → Nat → Int} (hn0 : 0 < n) (hn : n ≤ 64) (h : ∀ i j, i < n → j < n → Sz (W i j)) : Pu rp 76 [.sl (zM n n W)] (.tup [.p (.int .i64 n), .p (.int .i64 0)]) := by
  have k208 := p208 hn0 hn hn h
  refine pu_of rp192 ?_
  simp only [f76, args0, SA, setCells, Int.reduceLE, Int.reduceLT, ↓reduceIte, reduceCtorEq, Nat.reduceLT, Nat.reduceEqDiff, Nat.reduceAdd, Nat.reduceMul, Nat.reduceLeDiff, Nat.reduceBEq, kp1 k208, bne_self_eq_false, beq_self_eq_true]
  exact back_t2 back1_p back1_p
section
variable {rp : RProg} {rs : List RRes} {d : Option Nat} {l : List LOp} {xp : List (Nat × Nat)} {ops : List LOp} {ks : List KI} {e : Env} {ρ : Store} {Q : CV → Store → Prop} {c : CV} {sz : Nat} {es xs : List PV}
end
end Go.Proofs.Ytdpdnplljonppaa.VDt
namespace Go.Proofs.Ytdpdnplljonppaa.VDt
open Go Vpi
open VBn hiding rp tab rp_ok all_ok mixed sim Big
set_option maxRecDepth 100000
set_option linter.unusedSimpArgs false
set_option linter.unusedVariables false
open Gs (Pv dI swp sk cI)
theorem rp166 : rp 27 = some f27 := rfl
section
variable {rp : RProg} {rs : List RRes} {base : Nat} {d : Option Nat} {l : List LOp} {dr : Dr} {ks : List KI} {e : Env} {ρ : Store} {Q : CV → Store → Prop} {c : CV} {sz : Nat} {es xs : List PV}
end
theorem z166 {n e : Nat} {W : Nat → Nat → Int} (hn0 : 0 < n) (hn : n ≤ 12) (he1 : 1 ≤ e) (he : e ≤ 1000) (hW : ∀ i j, i < n → j < n → Sk e (W i j)) : Pu rp 27 [.sl (zM n n W)] (.tup [.p (zi (dI n W)), .p (.int .i64 0)]) := by
  have k192 := p192 hn0 (by omega) fun i j hi hj => (hW i j hi hj).sz (by omega)
  have k193 := p193 hn he1 he hW
  refine pu_of rp166 ?_
  simp only [f27, args0, SA, setCells, Int.reduceLE, Int.reduceLT, ↓reduceIte, reduceCtorEq, Nat.reduceLT, Nat.reduceEqDiff, Nat.reduceAdd, Nat.reduceMul, Nat.reduceLeDiff, Nat.reduceBEq, kp1 k192, bne_self_eq_false, kp1 k193]
  exact back_t2 back1_p back1_p
end Go.Proofs.Ytdpdnplljonppaa.VDt
