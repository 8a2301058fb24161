/- The text of a number of one limb, 1, and of 0; The texts of 1, -1 and 0; The texts of three numbers; DERIVED: THE SHELF's CONTRACTS AT THIS DUMP, IN PLAIN WORDS (tools/lay-plain.mjs out of 'TryShelf.lean', which tools/lay-shelf.mjs wrote): THE SAME DECLARATIONS UNDER THE SAME NAMES: 'import', 'namespace', 'open', 'def', 'theorem' AND NOTHING ELSE: no command of the shelf's: FOR A HAND-IN. Each laying: the table of numbers ('.._ren') and one theorem, a field a fact of the dump's own or the kernel's comparison; each contract: ONE APPLICATION; The text of a vector of three numbers; The text of a matrix of two rows; alive; Resolved code of functions, printed by a program of ours (genfun.py); each is held against the model by chkF; The functions together; alive; Resolved code of functions, printed by a program of ours (genfun.py); each is held against the model by chkF; The functions together; KinWhole: kin.Draw and kin.Qary; KinWhole: trammellaw26.eq, mat.Unit, zint.Power; KinWhole: herm.Member of a vector of the lattice; KinWhole: herm.rest, walked; KinWhole: herm.Member; KinWhole: what kin.Qary makes: its determinant, and the multiples of q; The law KinWhole; The law KinWhole: its run; The law KinWhole, for its row. No condition. -/
import Derived.Test.YtdpdnplljonppaaZb1
import Derived.Test.YtdpdnplljonppaaZa3
import Derived.Test.YtdpdnplljonppaaRows
import Derived.WalkKit
import Derived.WalkSpells
import Derived.WalkLawsBesides
import Derived.LoopN
import Derived.OwnWalk
import Derived.Laws.AppendOwn
import Derived.Laws.BytesString
import Derived.Laws.IdiomStrings
import Derived.Shelf.Strings.Builder1
import Derived.Shelf.Strings.Builder2
import Derived.Shelf.Strings.OnBuilder
import Derived.Shelf.Strings.BuilderF
import Derived.Shelf.Strings.BuilderK
import Derived.Shelf.Strings.Builder2Cap
import Derived.Shelf.Strings.BuilderCap
import Derived.Test.YtdpdnplljonppaaProg
import Derived.KernelRfl
import Derived.Test.YtdpdnplljonppaaZr1
import Derived.Test.YtdpdnplljonppaaZt1

namespace Go.Proofs.Ytdpdnplljonppaa
open Go.RowKit Vpi
set_option maxRecDepth 100000
namespace Al
def one : PV := .agg [.bool false, .sl [.int .u32 1]]
def neg : PV := .agg [.bool true, .sl [.int .u32 1]]
def nought : PV := .agg [.bool false, .sl []]
theorem norm1 : Pu VBn.rp 146 [.sl [.int .u32 1]] (.p (.sl [.int .u32 1])) := pu_closed (n := 1000) (by kernel_rfl)
theorem norm0 : Pu VBn.rp 146 [.sl []] (.p (.sl [])) := pu_closed (n := 1000) (by kernel_rfl)
theorem short1 : Pu VBn.rp 181 [.sl [.int .u32 1], .int .u32 1000000000] (.tup [.p (.sl []), .p (.int .u32 1)]) := pu_closed (n := 1000) (by kernel_rfl)
theorem call1 {f : Nat} {p : PV} {es : List PV} (k : Pu VBn.rp f [p] (.p (.sl es))) (w : World) {G : Nat → Prop} {v : Value} (hg : ∀ k, G k → k < w.heap.size) (hv : RepP w G p v) :
    Calls Try.prog f #[v] w fun e w' => ∃ a cap G', e = .returned (.slice a es.length cap) ∧ (∀ k, G' k → k < w'.heap.size) ∧ RepP w' G' (.sl es) (.slice a es.length cap) ∧ Below w.heap.size w w' := by
  refine (call_pu VBn.sim (w := w) (G := G) hg k (vs := [v]) rfl ?_).mono ?_
  · intro k p u hk hu
    rcases k with _ | k
    · simp only [List.getElem?_cons_zero, Option.some.injEq] at hk hu; subst hk; subst hu; exact hv
    · simp at hk
  rintro e w' ⟨v, G', rfl, hg, _, hr, hb⟩
  obtain ⟨a, cap, rfl⟩ := repP_sl (repC_p hr)
  exact ⟨a, cap, G', rfl, hg, repC_p hr, hb⟩
theorem short (w : World) {G : Nat → Prop} {v : Value} (hg : ∀ k, G k → k < w.heap.size) (hv : RepP w G (.sl [.int .u32 1]) v) :
    Calls Try.prog 181 #[v, .int .u32 1000000000] w fun e w' => ∃ a cap, e = .returned (.tuple #[.slice a 0 cap, .int .u32 1]) ∧ Below w.heap.size w w' := by
  refine (call_pu VBn.sim (w := w) (G := G) hg short1 (vs := [v, .int .u32 1000000000]) rfl ?_).mono ?_
  · intro k p u hk hu
    rcases k with _ | _ | k
    · simp only [List.getElem?_cons_zero, Option.some.injEq] at hk hu; subst hk; subst hu; exact hv
    · simp only [List.getElem?_cons_succ, List.getElem?_cons_zero, Option.some.injEq] at hk hu; subst hk; subst hu; exact .int _ _
    · simp at hk
  rintro e w' ⟨v, G', rfl, hg, _, hr, hb⟩
  cases hr with
  | tup cs vs hl hk =>
    match vs, hl, hk with
    | [x, y], _, hk =>
      obtain ⟨a, cap, rfl⟩ := repP_sl (repC_p (hk 0 _ x rfl rfl))
      rw [repP_int (repC_p (hk 1 _ y rfl rfl))]
      exact ⟨a, cap, rfl, hb⟩
theorem conv1 (w : World) (b c : Nat) (h : w.cell? ⟨b, 0, none⟩ = some (.int .u8 49)) : (convert 177 9 (.slice (some ⟨b, 0, none⟩) 1 c)).run Try.prog w = .ok (.string ⟨#[49]⟩) w := by
  rw [run_convert_bytes_string w 177 9 5 _ 1 c Try.underlying177 Try.underlying5 Try.underlying9]
  refine (run_bytesToString w ⟨b, 0, none⟩ 1 c [49] ?_).trans ?_
  · simp [go_sem, h]
  · rfl
set_option maxHeartbeats 1000000 in
theorem text0 (w : World) {G : Nat → Prop} {v : Value} (hg : ∀ k, G k → k < w.heap.size) (hv : RepP w G (.sl []) v) :
    Calls Try.prog 195 #[v] w fun e w' => e = .returned (.string ⟨#[48]⟩) ∧ Below w.heap.size w w' := by
  go_enter Try.func195, Try.ntmps195
  go_wp2_with (go_at_call 146; refine (call1 norm0 _ hg hv).mono ?_; rintro e w1 ⟨a, cap, G1, rfl, hg1, hr1, hb1⟩)
  go_ret
  exact ⟨rfl, hb1⟩
set_option maxHeartbeats 1000000 in
theorem text1 (w : World) {G : Nat → Prop} {v : Value} (hg : ∀ k, G k → k < w.heap.size) (hv : RepP w G (.sl [.int .u32 1]) v) :
    Calls Try.prog 195 #[v] w fun e w' => e = .returned (.string ⟨#[49]⟩) ∧ Below w.heap.size w w' := by
  go_enter Try.func195, Try.ntmps195
  go_wp2_with (go_at_call 146; refine (call1 norm1 _ hg hv).mono ?_; rintro e w1 ⟨a, cap, G1, rfl, hg1, hr1, hb1⟩)
  refine wp_loop_rounds 2 ?_
  rw [rounds_succ]
  go_wp2_with (go_at_call 181; refine (short _ hg1 hr1).mono ?_; rintro e w2 ⟨a2, cap2, rfl, hb2⟩)
  refine wp_loop_rounds 2 ?_
  rw [rounds_succ]
  go_wp2
  rw [rounds_succ]
  go_wp2
  rw [rounds_succ]
  go_wp2
  refine wp_loop_rounds 1 ?_
  rw [rounds_succ]
  go_wp2
  rw [conv1 _ _ _ (by simp [go_sem]; rw [Array.getElem?_append_left (by simp)]; rfl)]
  simp only [Result.andThen]
  go_wp2
  go_ret
  have hb := hb1.trans (hb2.mono hb1.size)
  exact ⟨rfl, ((hb.alloc hb.size _).alloc (by simp; have := hb.size; omega) _).drew⟩
end Al
end Go.Proofs.Ytdpdnplljonppaa

namespace Go.Proofs.Ytdpdnplljonppaa
open Go.RowKit Vpi
set_option maxRecDepth 100000
namespace Al
theorem rep_below {w w' : World} {G : Nat → Prop} {p : PV} {v : Value} (hg : ∀ k, G k → k < w.heap.size) (h : RepP w G p v) (hb : Below w.heap.size w w') : RepP w' G p v := h.mono (fun k hk => hb.block k (hg k hk)) fun _ h => h
theorem lt_below {w w' : World} {G : Nat → Prop} (hg : ∀ k, G k → k < w.heap.size) (hb : Below w.heap.size w w') : ∀ k, G k → k < w'.heap.size := fun k hk => Nat.lt_of_lt_of_le (hg k hk) hb.size
theorem below_alloc {w : World} (o : Obj) : Below w.heap.size w (w.alloc o) := (Below.refl w.heap.size w).alloc (Nat.le_refl _) o
theorem rep2 {w : World} {G : Nat → Prop} {s : Bool} {es : List PV} {v : Value} (h : RepP w G (.agg [.bool s, .sl es]) v) : ∃ a cap, v = .agg #[.bool s, .slice a es.length cap] ∧ RepP w G (.sl es) (.slice a es.length cap) := by
  cases h with
  | agg cs vs hl hk h1 =>
    match vs, hl, hk with
    | [x, y], _, hk =>
      have hx := hk 0 _ x rfl rfl
      have hy := hk 1 _ y rfl rfl
      obtain ⟨a, cap, rfl⟩ := repP_sl hy
      cases hx
      exact ⟨a, cap, rfl, hy⟩
theorem sign1 : Pu VBn.rp 55 [one] (.p (.int .i64 1)) := pu_closed (n := 1000) (by kernel_rfl)
theorem signn : Pu VBn.rp 55 [neg] (.p (.int .i64 (-1))) := pu_closed (n := 1000) (by kernel_rfl)
theorem sign0 : Pu VBn.rp 55 [nought] (.p (.int .i64 0)) := pu_closed (n := 1000) (by kernel_rfl)
theorem calln {f : Nat} {p : PV} {x : Int} (k : Pu VBn.rp f [p] (.p (.int .i64 x))) (w : World) {G : Nat → Prop} {v : Value} (hg : ∀ k, G k → k < w.heap.size) (hv : RepP w G p v) :
    Calls Try.prog f #[v] w fun e w' => e = .returned (.int .i64 x) ∧ Below w.heap.size w w' := by
  refine (call_pu VBn.sim (w := w) (G := G) hg k (vs := [v]) rfl ?_).mono ?_
  · intro k p u hk hu
    rcases k with _ | k
    · simp only [List.getElem?_cons_zero, Option.some.injEq] at hk hu; subst hk; subst hu; exact hv
    · simp at hk
  rintro e w' ⟨v, G', rfl, hg, _, hr, hb⟩
  exact ⟨by rw [repP_int (repC_p hr)], hb⟩
set_option maxHeartbeats 1000000 in
theorem zpos {s : Bool} {es : List PV} {x : Int} {t : ByteArray} (k : Pu VBn.rp 55 [.agg [.bool s, .sl es]] (.p (.int .i64 x))) (hx : ¬ x < 0)
    (ht : ∀ (w : World) (G : Nat → Prop) (v : Value), (∀ k, G k → k < w.heap.size) → RepP w G (.sl es) v → Calls Try.prog 195 #[v] w fun e w' => e = .returned (.string t) ∧ Below w.heap.size w w')
    (w : World) {G : Nat → Prop} {v : Value} (hg : ∀ k, G k → k < w.heap.size) (hv : RepP w G (.agg [.bool s, .sl es]) v) :
    Calls Try.prog 167 #[v] w fun e w' => e = .returned (.string t) ∧ Below w.heap.size w w' := by
  obtain ⟨a, cap, rfl, hs⟩ := rep2 hv
  go_enter Try.func167, Try.ntmps167
  go_wp2_with (first
    | (go_at_call 55; refine (calln k _ (lt_below hg (below_alloc _)) (rep_below hg hv (below_alloc _))).mono ?_; rintro e w1 ⟨rfl, hb1⟩; have c1 : w1.cell? ⟨w.heap.size, 1, none⟩ = some (.slice a es.length cap) := by rw [hb1.cell (by simp)]; simp [go_sem])
    | (go_at_call 195; have hb2 := (below_alloc (w := w) _).trans (hb1.mono (by simp)); refine (ht _ G _ (lt_below hg hb2) (rep_below hg hs hb2)).mono ?_; rintro e w2 ⟨rfl, hb3⟩))
  go_ret
  have hb2 := (below_alloc (w := w) _).trans (hb1.mono (by simp))
  exact ⟨rfl, hb2.trans (hb3.mono hb2.size)⟩
set_option maxHeartbeats 1000000 in
theorem zneg {s : Bool} {es : List PV} {x : Int} (k : Pu VBn.rp 55 [.agg [.bool s, .sl es]] (.p (.int .i64 x))) (hx : x < 0)
    (ht : ∀ (w : World) (G : Nat → Prop) (v : Value), (∀ k, G k → k < w.heap.size) → RepP w G (.sl es) v → Calls Try.prog 195 #[v] w fun e w' => e = .returned (.string ⟨#[49]⟩) ∧ Below w.heap.size w w')
    (w : World) {G : Nat → Prop} {v : Value} (hg : ∀ k, G k → k < w.heap.size) (hv : RepP w G (.agg [.bool s, .sl es]) v) :
    Calls Try.prog 167 #[v] w fun e w' => e = .returned (.string ⟨#[45, 49]⟩) ∧ Below w.heap.size w w' := by
  obtain ⟨a, cap, rfl, hs⟩ := rep2 hv
  go_enter Try.func167, Try.ntmps167
  go_wp2_with (first
    | (go_at_call 55; refine (calln k _ (lt_below hg (below_alloc _)) (rep_below hg hv (below_alloc _))).mono ?_; rintro e w1 ⟨rfl, hb1⟩; have c1 : w1.cell? ⟨w.heap.size, 1, none⟩ = some (.slice a es.length cap) := by rw [hb1.cell (by simp)]; simp [go_sem])
    | (go_at_call 195; have hb2 := (below_alloc (w := w) _).trans (hb1.mono (by simp)); refine (ht _ G _ (lt_below hg hb2) (rep_below hg hs hb2)).mono ?_; rintro e w2 ⟨rfl, hb3⟩))
  go_ret
  have hb2 := (below_alloc (w := w) _).trans (hb1.mono (by simp))
  exact ⟨rfl, hb2.trans (hb3.mono hb2.size)⟩
def Tx (p : PV) (t : ByteArray) : Prop := ∀ (w : World) (G : Nat → Prop) (v : Value), (∀ k, G k → k < w.heap.size) → RepP w G p v → Calls Try.prog 167 #[v] w fun e w' => e = .returned (.string t) ∧ Below w.heap.size w w'
theorem tx1 : Tx one ⟨#[49]⟩ := fun w G v hg hv => zpos sign1 (by decide) (fun w G v hg hv => text1 w hg hv) w hg hv
theorem txn : Tx neg ⟨#[45, 49]⟩ := fun w G v hg hv => zneg signn (by decide) (fun w G v hg hv => text1 w hg hv) w hg hv
theorem tx0 : Tx nought ⟨#[48]⟩ := fun w G v hg hv => zpos sign0 (by decide) (fun w G v hg hv => text0 w hg hv) w hg hv
end Al
end Go.Proofs.Ytdpdnplljonppaa

namespace Go.Proofs.Ytdpdnplljonppaa
open Go.RowKit Vpi
set_option maxRecDepth 100000
namespace Al
theorem cell_of {w : World} {blk o : Nat} {arr : Array Value} {el : TypeId} {fr : Nat × Nat} {u : Value} (h : w.heap[blk]? = some (.cells arr el fr)) (hu : arr[o]? = some u) : w.cell? ⟨blk, o, none⟩ = some u := by
  simp [World.cell?, h, hu]
theorem rep_el {w : World} {G : Nat → Prop} {es : List PV} {v : Value} (h : RepP w G (.sl es) v) (h0 : 0 < es.length) (he : ∀ (i : Nat) e, es[i]? = some e → ∃ s l, e = .agg [.bool s, .sl l]) :
    ∃ blk off cap, v = .slice (some ⟨blk, off, none⟩) es.length cap ∧ G blk ∧ ∀ (i : Nat) s l, es[i]? = some (.agg [.bool s, .sl l]) → ∃ a c, w.cell? ⟨blk, off + i * 2, none⟩ = some (.bool s) ∧ w.cell? ⟨blk, off + i * 2 + 1, none⟩ = some (.slice a l.length c) ∧ RepP w G (.agg [.bool s, .sl l]) (.agg #[.bool s, .slice a l.length c]) := by
  cases h with
  | nil a cap => simp at h0
  | sl _ blk off arr el fr cap sz hg hb hc hs hlen hk h1 =>
    have hsz : sz = 2 := by
      obtain ⟨s, l, hsl⟩ := he 0 es[0] (by simp [h0])
      have := hlen 0 es[0] (by simp [h0])
      rw [hsl] at this
      simpa [PV.cells] using this.symm
    subst hsz
    refine ⟨blk, off, cap, rfl, hg, fun i s l hi => ?_⟩
    have hil := (List.getElem?_eq_some_iff.1 hi).1
    have hb1 : off + i * 2 + 1 < arr.size := by omega
    have hb0 : off + i * 2 < arr.size := by omega
    have e0 : arr[off + i * 2 + 0]? = some arr[off + i * 2] := by rw [Nat.add_zero]; exact Array.getElem?_eq_getElem hb0
    have e1 : arr[off + i * 2 + 1]? = some arr[off + i * 2 + 1] := Array.getElem?_eq_getElem hb1
    have r0 := hk i _ 0 (.bool s) _ hi rfl e0
    have r1 := hk i _ 1 (.sl l) _ hi rfl e1
    obtain ⟨a, c, ha⟩ := repP_sl r1
    rw [ha] at e1 r1
    generalize arr[off + i * 2] = u at *
    cases r0
    refine ⟨a, c, cell_of hb (by rw [Nat.add_zero] at e0; exact e0), cell_of hb e1, .agg [.bool s, .sl l] [.bool s, .slice a l.length c] rfl ?_ ?_⟩
    · intro k p u hk hu
      rcases k with _ | _ | k
      · simp only [List.getElem?_cons_zero, Option.some.injEq] at hk hu; subst hk; subst hu; exact .bool _
      · simp only [List.getElem?_cons_succ, List.getElem?_cons_zero, Option.some.injEq] at hk hu; subst hk; subst hu; exact r1
      · simp at hk
    · intro u hu
      simp at hu
      rcases hu with rfl | rfl <;> rfl
set_option maxHeartbeats 4000000 in
theorem each3 {s0 s1 s2 : Bool} {l0 l1 l2 : List PV} {t0 t1 t2 : ByteArray} (h0 : Tx (.agg [.bool s0, .sl l0]) t0) (h1 : Tx (.agg [.bool s1, .sl l1]) t1) (h2 : Tx (.agg [.bool s2, .sl l2]) t2)
    (w : World) {G : Nat → Prop} {v : Value} (hg : ∀ k, G k → k < w.heap.size) (hv : RepP w G (.sl [.agg [.bool s0, .sl l0], .agg [.bool s1, .sl l1], .agg [.bool s2, .sl l2]]) v) :
    Calls Try.prog 166 #[v, .func (.func 167) #[] #[]] w fun e w' => ∃ bk, e = .returned (.slice (some ⟨bk, 0, none⟩) 3 3) ∧ w'.cell? ⟨bk, 0, none⟩ = some (.string t0) ∧ w'.cell? ⟨bk, 1, none⟩ = some (.string t1) ∧ w'.cell? ⟨bk, 2, none⟩ = some (.string t2) ∧ bk < w'.heap.size ∧ Below w.heap.size w w' := by
  obtain ⟨blk, off, cap, rfl, hG, hel⟩ := rep_el hv (by simp) (by
    intro i e hi
    rcases i with _ | _ | _ | i <;> simp at hi <;> subst hi <;> exact ⟨_, _, rfl⟩)
  obtain ⟨a0, k0, c00, c01, r0⟩ := hel 0 s0 l0 rfl
  obtain ⟨a1, k1, c10, c11, r1⟩ := hel 1 s1 l1 rfl
  obtain ⟨a2, k2, c20, c21, r2⟩ := hel 2 s2 l2 rfl
  simp only [Nat.zero_mul, Nat.add_zero, Nat.one_mul, Nat.reduceMul, Nat.add_assoc, Nat.reduceAdd] at c00 c01 c10 c11 c20 c21
  have hlt := hg blk hG
  have hmk : ∀ w : World, (Instr.makeSlice 142 (.int .i64 0) (.int .i64 3)).run Try.prog w = .ok (.slice (some ⟨w.heap.size, 0, none⟩) 0 3) (w.alloc (Obj.cells #[.string ⟨#[]⟩, .string ⟨#[]⟩, .string ⟨#[]⟩] 9)) := fun _ => by kernel_rfl
  go_enter Try.func166, Try.ntmps166
  go_wp2
  refine wp_loop_rounds 4 ?_
  have hb0 := below_alloc (w := w) (Obj.cells #[.string ⟨#[]⟩, .string ⟨#[]⟩, .string ⟨#[]⟩] 9)
  have q00 : (w.alloc (Obj.cells #[.string ⟨#[]⟩, .string ⟨#[]⟩, .string ⟨#[]⟩] 9)).cell? ⟨w.heap.size, 0, none⟩ = some (.string ⟨#[]⟩) := by simp [go_sem]
  have q01 : (w.alloc (Obj.cells #[.string ⟨#[]⟩, .string ⟨#[]⟩, .string ⟨#[]⟩] 9)).cell? ⟨w.heap.size, 1, none⟩ = some (.string ⟨#[]⟩) := by simp [go_sem]
  have q02 : (w.alloc (Obj.cells #[.string ⟨#[]⟩, .string ⟨#[]⟩, .string ⟨#[]⟩] 9)).cell? ⟨w.heap.size, 2, none⟩ = some (.string ⟨#[]⟩) := by simp [go_sem]
  have fB0 : ∀ j, (w.alloc (Obj.cells #[.string ⟨#[]⟩, .string ⟨#[]⟩, .string ⟨#[]⟩] 9)).frozen? ⟨w.heap.size, j, none⟩ = false := fun j => by simp [go_sem]
  have lB0 : w.heap.size < (w.alloc (Obj.cells #[.string ⟨#[]⟩, .string ⟨#[]⟩, .string ⟨#[]⟩] 9)).heap.size := by simp
  generalize w.alloc (Obj.cells #[.string ⟨#[]⟩, .string ⟨#[]⟩, .string ⟨#[]⟩] 9) = W0 at *
  have d0 := (hb0.cell (p := ⟨blk, off, none⟩) hlt).trans c00
  have d1 := (hb0.cell (p := ⟨blk, off + 1, none⟩) hlt).trans c01
  rw [rounds_succ]
  go_wp2_with (go_at_call 167; refine (h0 _ G _ (lt_below hg (hb0.trans ((below_alloc _).mono hb0.size))) (rep_below hg r0 (hb0.trans ((below_alloc _).mono hb0.size)))).mono ?_; rintro e w1 ⟨rfl, hc0⟩; have lw : W0.heap.size < w1.heap.size := Nat.lt_of_lt_of_le (by simp) hc0.size; have hX := (((below_alloc (w := W0) (Obj.cells #[.bool s0, .slice a0 l0.length k0] 41)).trans (hc0.mono (by simp))).trans ((below_alloc (w := w1) (Obj.cells #[.string t0] 9)).mono (Nat.le_of_lt lw))); have eW := (hX.cell (p := ⟨w.heap.size, 0, none⟩) lB0).trans q00; have fW := (hX.frozen (p := ⟨w.heap.size, 0, none⟩) lB0).trans (fB0 0))
  have hb1 : Below w.heap.size w ((w1.alloc (Obj.cells #[.string t0] 9)).setCell ⟨w.heap.size, 0, none⟩ (.string t0)) := (hb0.trans (hX.mono hb0.size)).setCell (Nat.le_refl _) _
  have q10 : ((w1.alloc (Obj.cells #[.string t0] 9)).setCell ⟨w.heap.size, 0, none⟩ (.string t0)).cell? ⟨w.heap.size, 0, none⟩ = some (.string t0) := World.cell?_setCell_same _ _ _ eW
  have q11 := (World.cell?_setCell_other (w1.alloc (Obj.cells #[.string t0] 9)) ⟨w.heap.size, 0, none⟩ ⟨w.heap.size, 1, none⟩ (.string t0) (by simp)).trans ((hX.cell (p := ⟨w.heap.size, 1, none⟩) lB0).trans q01)
  have q12 := (World.cell?_setCell_other (w1.alloc (Obj.cells #[.string t0] 9)) ⟨w.heap.size, 0, none⟩ ⟨w.heap.size, 2, none⟩ (.string t0) (by simp)).trans ((hX.cell (p := ⟨w.heap.size, 2, none⟩) lB0).trans q02)
  have fB1 : ∀ j, ((w1.alloc (Obj.cells #[.string t0] 9)).setCell ⟨w.heap.size, 0, none⟩ (.string t0)).frozen? ⟨w.heap.size, j, none⟩ = false := fun j => by rw [World.frozen?_setCell]; exact (hX.frozen (p := ⟨w.heap.size, j, none⟩) lB0).trans (fB0 j)
  have lB1 : w.heap.size < ((w1.alloc (Obj.cells #[.string t0] 9)).setCell ⟨w.heap.size, 0, none⟩ (.string t0)).heap.size := by simp; omega
  generalize ((w1.alloc (Obj.cells #[.string t0] 9)).setCell ⟨w.heap.size, 0, none⟩ (.string t0)) = W1 at *
  clear d0 d1 lw hX eW fW
  have d0 := (hb1.cell (p := ⟨blk, off + 2, none⟩) hlt).trans c10
  have d1 := (hb1.cell (p := ⟨blk, off + 3, none⟩) hlt).trans c11
  rw [rounds_succ]
  go_wp2_with (go_at_call 167; refine (h1 _ G _ (lt_below hg (hb1.trans ((below_alloc _).mono hb1.size))) (rep_below hg r1 (hb1.trans ((below_alloc _).mono hb1.size)))).mono ?_; rintro e w2 ⟨rfl, hc1⟩; have lw : W1.heap.size < w2.heap.size := Nat.lt_of_lt_of_le (by simp) hc1.size; have hX := (((below_alloc (w := W1) (Obj.cells #[.bool s1, .slice a1 l1.length k1] 41)).trans (hc1.mono (by simp))).trans ((below_alloc (w := w2) (Obj.cells #[.string t1] 9)).mono (Nat.le_of_lt lw))); have eW := (hX.cell (p := ⟨w.heap.size, 1, none⟩) lB1).trans q11; have fW := (hX.frozen (p := ⟨w.heap.size, 1, none⟩) lB1).trans (fB1 1))
  have hb2 : Below w.heap.size w ((w2.alloc (Obj.cells #[.string t1] 9)).setCell ⟨w.heap.size, 1, none⟩ (.string t1)) := (hb1.trans (hX.mono hb1.size)).setCell (Nat.le_refl _) _
  have q20 := (World.cell?_setCell_other (w2.alloc (Obj.cells #[.string t1] 9)) ⟨w.heap.size, 1, none⟩ ⟨w.heap.size, 0, none⟩ (.string t1) (by simp)).trans ((hX.cell (p := ⟨w.heap.size, 0, none⟩) lB1).trans q10)
  have q21 : ((w2.alloc (Obj.cells #[.string t1] 9)).setCell ⟨w.heap.size, 1, none⟩ (.string t1)).cell? ⟨w.heap.size, 1, none⟩ = some (.string t1) := World.cell?_setCell_same _ _ _ eW
  have q22 := (World.cell?_setCell_other (w2.alloc (Obj.cells #[.string t1] 9)) ⟨w.heap.size, 1, none⟩ ⟨w.heap.size, 2, none⟩ (.string t1) (by simp)).trans ((hX.cell (p := ⟨w.heap.size, 2, none⟩) lB1).trans q12)
  have fB2 : ∀ j, ((w2.alloc (Obj.cells #[.string t1] 9)).setCell ⟨w.heap.size, 1, none⟩ (.string t1)).frozen? ⟨w.heap.size, j, none⟩ = false := fun j => by rw [World.frozen?_setCell]; exact (hX.frozen (p := ⟨w.heap.size, j, none⟩) lB1).trans (fB1 j)
  have lB2 : w.heap.size < ((w2.alloc (Obj.cells #[.string t1] 9)).setCell ⟨w.heap.size, 1, none⟩ (.string t1)).heap.size := by simp; omega
  generalize ((w2.alloc (Obj.cells #[.string t1] 9)).setCell ⟨w.heap.size, 1, none⟩ (.string t1)) = W2 at *
  clear d0 d1 lw hX eW fW
  have d0 := (hb2.cell (p := ⟨blk, off + 4, none⟩) hlt).trans c20
  have d1 := (hb2.cell (p := ⟨blk, off + 5, none⟩) hlt).trans c21
  rw [rounds_succ]
  go_wp2_with (go_at_call 167; refine (h2 _ G _ (lt_below hg (hb2.trans ((below_alloc _).mono hb2.size))) (rep_below hg r2 (hb2.trans ((below_alloc _).mono hb2.size)))).mono ?_; rintro e w3 ⟨rfl, hc2⟩; have lw : W2.heap.size < w3.heap.size := Nat.lt_of_lt_of_le (by simp) hc2.size; have hX := (((below_alloc (w := W2) (Obj.cells #[.bool s2, .slice a2 l2.length k2] 41)).trans (hc2.mono (by simp))).trans ((below_alloc (w := w3) (Obj.cells #[.string t2] 9)).mono (Nat.le_of_lt lw))); have eW := (hX.cell (p := ⟨w.heap.size, 2, none⟩) lB2).trans q22; have fW := (hX.frozen (p := ⟨w.heap.size, 2, none⟩) lB2).trans (fB2 2))
  have hb3 : Below w.heap.size w ((w3.alloc (Obj.cells #[.string t2] 9)).setCell ⟨w.heap.size, 2, none⟩ (.string t2)) := (hb2.trans (hX.mono hb2.size)).setCell (Nat.le_refl _) _
  have q30 := (World.cell?_setCell_other (w3.alloc (Obj.cells #[.string t2] 9)) ⟨w.heap.size, 2, none⟩ ⟨w.heap.size, 0, none⟩ (.string t2) (by simp)).trans ((hX.cell (p := ⟨w.heap.size, 0, none⟩) lB2).trans q20)
  have q31 := (World.cell?_setCell_other (w3.alloc (Obj.cells #[.string t2] 9)) ⟨w.heap.size, 2, none⟩ ⟨w.heap.size, 1, none⟩ (.string t2) (by simp)).trans ((hX.cell (p := ⟨w.heap.size, 1, none⟩) lB2).trans q21)
  have q32 : ((w3.alloc (Obj.cells #[.string t2] 9)).setCell ⟨w.heap.size, 2, none⟩ (.string t2)).cell? ⟨w.heap.size, 2, none⟩ = some (.string t2) := World.cell?_setCell_same _ _ _ eW
  have fB3 : ∀ j, ((w3.alloc (Obj.cells #[.string t2] 9)).setCell ⟨w.heap.size, 2, none⟩ (.string t2)).frozen? ⟨w.heap.size, j, none⟩ = false := fun j => by rw [World.frozen?_setCell]; exact (hX.frozen (p := ⟨w.heap.size, j, none⟩) lB2).trans (fB2 j)
  have lB3 : w.heap.size < ((w3.alloc (Obj.cells #[.string t2] 9)).setCell ⟨w.heap.size, 2, none⟩ (.string t2)).heap.size := by simp; omega
  generalize ((w3.alloc (Obj.cells #[.string t2] 9)).setCell ⟨w.heap.size, 2, none⟩ (.string t2)) = W3 at *
  clear d0 d1 lw hX eW fW
  rw [rounds_succ]
  go_wp2
  go_ret
  exact ⟨_, rfl, q30, q31, q32, lB3, hb3⟩
end Al
end Go.Proofs.Ytdpdnplljonppaa

namespace Go.Proofs
open Go.Shelf
def Try.lays156_ren : Go.Shelf.Ren := ⟨fun | 156 => 124 | 165 => 163 | 166 => 164 | 169 => 165 | 240 => 193 | 241 => 194 | 276 => 204 | 277 => 205 | n => n, fun | 31 => 142 | 9 => 9 | 3 => 3 | 4 => 4 | 0 => 0 | 20 => 20 | 72 => 179 | 76 => 183 | 70 => 176 | 37 => 177 | 75 => 182 | 127 => 209 | 164 => 215 | 5 => 5 | 80 => 185 | n => n, fun | n => n⟩
theorem Try.lays156 : Go.Proofs.Lays.n156 Try.prog Try.lays156_ren := {
  mixed := by kernel_rfl
  f156 := Try.func124.trans (congrArg some (by kernel_rfl))
  f165 := Try.func163.trans (congrArg some (by kernel_rfl))
  f166 := Try.func164.trans (congrArg some (by kernel_rfl))
  f169 := Try.func165.trans (congrArg some (by kernel_rfl))
  f240 := Try.func193.trans (congrArg some (by kernel_rfl))
  f241 := Try.func194.trans (congrArg some (by kernel_rfl))
  f276 := Try.func204.trans (congrArg some (by kernel_rfl))
  f277 := Try.func205.trans (congrArg some (by kernel_rfl))
  t0 := Try.underlying0
  a0 := Try.isAgg0
  z0 := Try.sizeOf0
  v0 := Try.zeroValue0
  t3 := Try.underlying3
  a3 := Try.isAgg3
  z3 := Try.sizeOf3
  v3 := Try.zeroValue3
  t4 := Try.underlying4
  a4 := Try.isAgg4
  z4 := Try.sizeOf4
  v4 := Try.zeroValue4
  t9 := Try.underlying9
  a9 := Try.isAgg9
  z9 := Try.sizeOf9
  v9 := Try.zeroValue9
  t20 := Try.underlying20
  a20 := Try.isAgg20
  z20 := Try.sizeOf20
  v20 := Try.zeroValue20
  t31 := Try.underlying142
  a31 := Try.isAgg142
  z31 := Try.sizeOf142
  v31 := Try.zeroValue142
  t37 := Try.underlying177
  a37 := Try.isAgg177
  z37 := Try.sizeOf177
  v37 := Try.zeroValue177
  t70 := Try.underlying176
  a70 := Try.isAgg176
  z70 := Try.sizeOf176
  v70 := Try.zeroValue176
  t72 := Try.underlying179
  a72 := Try.isAgg179
  z72 := Try.sizeOf179
  v72 := Try.zeroValue179
  t75 := Try.underlying182
  a75 := Try.isAgg182
  z75 := Try.sizeOf182
  v75 := Try.zeroValue182
  t76 := Try.underlying183
  a76 := Try.isAgg183
  z76 := Try.sizeOf183
  v76 := Try.zeroValue183
  t127 := Try.underlying209
  a127 := Try.isAgg209
  z127 := Try.sizeOf209
  v127 := Try.zeroValue209
  t164 := Try.underlying215
  a164 := Try.isAgg215
  z164 := Try.sizeOf215
  v164 := Try.zeroValue215 }
theorem Try.Builder_Extra_156 : Builder.Extra Try.prog Try.lays156_ren := {
  sizeBuilder := by kernel_rfl
  liesBuilder := by kernel_rfl
  t5 := Try.underlying5
  a5 := Try.isAgg5
  z5 := Try.sizeOf5
  v5 := Try.zeroValue5
  infoByte := by kernel_rfl
  cellsByte := by kernel_rfl
  sizeByte := by kernel_rfl
  neB5 := by decide }
open Go.RowKit in
theorem Try.strings_Join (bk o c : Nat) (xs : List ByteArray) (sep : ByteArray) (w : World) (hcells : ∀ (j : Nat) x, xs[j]? = some x → w.cell? ⟨bk, o + j, none⟩ = some (.string x)) (hbk : bk < w.heap.size) (hN : xs.length ≤ 140737488355328) (hcap : xs.length ≤ c) (hlen : (Lib.join (xs.map (·.data.toList)) sep.data.toList).length ≤ 140737488355328) :
    Calls Try.prog 124 #[.slice (some ⟨bk, o, none⟩) xs.length c, .string sep] w fun e w' => e = .returned (.string ⟨(Lib.join (xs.map (·.data.toList)) sep.data.toList).toArray⟩) ∧ Below w.heap.size w w' := Any.strings_Join Try.lays156 Try.Builder_Extra_156 bk o c xs sep w hcells hbk hN hcap hlen
end Go.Proofs

namespace Go.Proofs.Ytdpdnplljonppaa
open Go.RowKit Vpi
set_option maxRecDepth 100000
namespace Al
def Tv (p : PV) (t : ByteArray) : Prop := ∀ (w : World) (G : Nat → Prop) (v : Value), (∀ k, G k → k < w.heap.size) → RepP w G p v → Calls Try.prog 126 #[v] w fun e w' => e = .returned (.string t) ∧ Below w.heap.size w w'
theorem cells3 {w : World} {bk : Nat} {t0 t1 t2 : ByteArray} (c0 : w.cell? ⟨bk, 0, none⟩ = some (.string t0)) (c1 : w.cell? ⟨bk, 1, none⟩ = some (.string t1)) (c2 : w.cell? ⟨bk, 2, none⟩ = some (.string t2)) :
    ∀ (j : Nat) x, [t0, t1, t2][j]? = some x → w.cell? ⟨bk, 0 + j, none⟩ = some (.string x) := by
  intro j x h
  rcases j with _ | _ | _ | j <;> simp at h <;> subst h <;> assumption
theorem tv {s0 s1 s2 : Bool} {l0 l1 l2 : List PV} {t0 t1 t2 t : ByteArray} (h0 : Tx (.agg [.bool s0, .sl l0]) t0) (h1 : Tx (.agg [.bool s1, .sl l1]) t1) (h2 : Tx (.agg [.bool s2, .sl l2]) t2)
    (hl : (Lib.join ([t0, t1, t2].map (·.data.toList)) (⟨#[32]⟩ : ByteArray).data.toList).length ≤ 140737488355328) (ht : (⟨(Lib.join ([t0, t1, t2].map (·.data.toList)) (⟨#[32]⟩ : ByteArray).data.toList).toArray⟩ : ByteArray) = t) :
    Tv (.sl [.agg [.bool s0, .sl l0], .agg [.bool s1, .sl l1], .agg [.bool s2, .sl l2]]) t := by
  intro w G v hg hv
  go_enter Try.func126, Try.ntmps126
  go_wp2_with (first
    | (go_at_call 166; refine (each3 h0 h1 h2 _ hg hv).mono ?_; rintro e w1 ⟨bk, rfl, c0, c1, c2, lb, hb1⟩)
    | (go_at_call 124; refine (Try.strings_Join bk 0 3 [t0, t1, t2] ⟨#[32]⟩ w1 (cells3 c0 c1 c2) lb (by simp) (by simp) hl).mono ?_; rintro e w2 ⟨rfl, hb2⟩))
  go_ret
  exact ⟨by rw [← ht]; rfl, hb1.trans (hb2.mono hb1.size)⟩
theorem tvA : Tv (.sl [one, neg, nought]) ⟨#[49, 32, 45, 49, 32, 48]⟩ := tv tx1 txn tx0 (by decide) (by decide)
theorem tvB : Tv (.sl [nought, one, neg]) ⟨#[48, 32, 49, 32, 45, 49]⟩ := tv tx0 tx1 txn (by decide) (by decide)
end Al
end Go.Proofs.Ytdpdnplljonppaa

namespace Go.Proofs.Ytdpdnplljonppaa
open Go.RowKit Vpi
set_option maxRecDepth 100000
namespace Al
theorem rep_row {w : World} {G : Nat → Prop} {es : List PV} {v : Value} (h : RepP w G (.sl es) v) (h0 : 0 < es.length) (he : ∀ (i : Nat) e, es[i]? = some e → ∃ l, e = .sl l) :
    ∃ blk off cap, v = .slice (some ⟨blk, off, none⟩) es.length cap ∧ G blk ∧ ∀ (i : Nat) l, es[i]? = some (.sl l) → ∃ a c, w.cell? ⟨blk, off + i, none⟩ = some (.slice a l.length c) ∧ RepP w G (.sl l) (.slice a l.length c) := by
  cases h with
  | nil a cap => simp at h0
  | sl _ blk off arr el fr cap sz hg hb hc hs hlen hk h1 =>
    have hsz : sz = 1 := by
      obtain ⟨l, hsl⟩ := he 0 es[0] (by simp [h0])
      have := hlen 0 es[0] (by simp [h0])
      rw [hsl] at this
      simpa [PV.cells] using this.symm
    subst hsz
    refine ⟨blk, off, cap, rfl, hg, fun i l hi => ?_⟩
    have hil := (List.getElem?_eq_some_iff.1 hi).1
    have hb0 : off + i < arr.size := by omega
    have e0 : arr[off + i * 1 + 0]? = some arr[off + i] := by rw [Nat.add_zero, Nat.mul_one]; exact Array.getElem?_eq_getElem hb0
    have r0 := hk i _ 0 (.sl l) _ hi rfl e0
    obtain ⟨a, c, ha⟩ := repP_sl r0
    rw [ha] at e0 r0
    exact ⟨a, c, cell_of hb (by rw [Nat.add_zero, Nat.mul_one] at e0; exact e0), r0⟩
set_option maxHeartbeats 4000000 in
theorem each2 {l0 l1 : List PV} {t0 t1 : ByteArray} (h0 : Tv (.sl l0) t0) (h1 : Tv (.sl l1) t1)
    (w : World) {G : Nat → Prop} {v : Value} (hg : ∀ k, G k → k < w.heap.size) (hv : RepP w G (.sl [.sl l0, .sl l1]) v) :
    Calls Try.prog 125 #[v, .func (.func 126) #[] #[]] w fun e w' => ∃ bk, e = .returned (.slice (some ⟨bk, 0, none⟩) 2 2) ∧ w'.cell? ⟨bk, 0, none⟩ = some (.string t0) ∧ w'.cell? ⟨bk, 1, none⟩ = some (.string t1) ∧ bk < w'.heap.size ∧ Below w.heap.size w w' := by
  obtain ⟨blk, off, cap, rfl, hG, hel⟩ := rep_row hv (by simp) (by
    intro i e hi
    rcases i with _ | _ | i <;> simp at hi <;> subst hi <;> exact ⟨_, rfl⟩)
  obtain ⟨a0, k0, c0, r0⟩ := hel 0 l0 rfl
  obtain ⟨a1, k1, c1, r1⟩ := hel 1 l1 rfl
  simp only [Nat.add_zero] at c0
  have hlt := hg blk hG
  have hmk : ∀ w : World, (Instr.makeSlice 142 (.int .i64 0) (.int .i64 2)).run Try.prog w = .ok (.slice (some ⟨w.heap.size, 0, none⟩) 0 2) (w.alloc (Obj.cells #[.string ⟨#[]⟩, .string ⟨#[]⟩] 9)) := fun _ => by kernel_rfl
  go_enter Try.func125, Try.ntmps125
  go_wp2
  refine wp_loop_rounds 3 ?_
  have hb0 := below_alloc (w := w) (Obj.cells #[.string ⟨#[]⟩, .string ⟨#[]⟩] 9)
  have q00 : (w.alloc (Obj.cells #[.string ⟨#[]⟩, .string ⟨#[]⟩] 9)).cell? ⟨w.heap.size, 0, none⟩ = some (.string ⟨#[]⟩) := by simp [go_sem]
  have q01 : (w.alloc (Obj.cells #[.string ⟨#[]⟩, .string ⟨#[]⟩] 9)).cell? ⟨w.heap.size, 1, none⟩ = some (.string ⟨#[]⟩) := by simp [go_sem]
  have fB0 : ∀ j, (w.alloc (Obj.cells #[.string ⟨#[]⟩, .string ⟨#[]⟩] 9)).frozen? ⟨w.heap.size, j, none⟩ = false := fun j => by simp [go_sem]
  have lB0 : w.heap.size < (w.alloc (Obj.cells #[.string ⟨#[]⟩, .string ⟨#[]⟩] 9)).heap.size := by simp
  generalize w.alloc (Obj.cells #[.string ⟨#[]⟩, .string ⟨#[]⟩] 9) = W0 at *
  have d0 := (hb0.cell (p := ⟨blk, off, none⟩) hlt).trans c0
  rw [rounds_succ]
  go_wp2_with (go_at_call 126; refine (h0 _ G _ (lt_below hg hb0) (rep_below hg r0 hb0)).mono ?_; rintro e w1 ⟨rfl, hc0⟩; have lw : W0.heap.size ≤ w1.heap.size := hc0.size; have hX := (hc0.trans ((below_alloc (w := w1) (Obj.cells #[.string t0] 9)).mono lw)); have eW := (hX.cell (p := ⟨w.heap.size, 0, none⟩) lB0).trans q00; have fW := (hX.frozen (p := ⟨w.heap.size, 0, none⟩) lB0).trans (fB0 0))
  have hb1 : Below w.heap.size w ((w1.alloc (Obj.cells #[.string t0] 9)).setCell ⟨w.heap.size, 0, none⟩ (.string t0)) := (hb0.trans (hX.mono hb0.size)).setCell (Nat.le_refl _) _
  have q10 : ((w1.alloc (Obj.cells #[.string t0] 9)).setCell ⟨w.heap.size, 0, none⟩ (.string t0)).cell? ⟨w.heap.size, 0, none⟩ = some (.string t0) := World.cell?_setCell_same _ _ _ eW
  have q11 := (World.cell?_setCell_other (w1.alloc (Obj.cells #[.string t0] 9)) ⟨w.heap.size, 0, none⟩ ⟨w.heap.size, 1, none⟩ (.string t0) (by simp)).trans ((hX.cell (p := ⟨w.heap.size, 1, none⟩) lB0).trans q01)
  have fB1 : ∀ j, ((w1.alloc (Obj.cells #[.string t0] 9)).setCell ⟨w.heap.size, 0, none⟩ (.string t0)).frozen? ⟨w.heap.size, j, none⟩ = false := fun j => by rw [World.frozen?_setCell]; exact (hX.frozen (p := ⟨w.heap.size, j, none⟩) lB0).trans (fB0 j)
  have lB1 : w.heap.size < ((w1.alloc (Obj.cells #[.string t0] 9)).setCell ⟨w.heap.size, 0, none⟩ (.string t0)).heap.size := by simp; omega
  generalize ((w1.alloc (Obj.cells #[.string t0] 9)).setCell ⟨w.heap.size, 0, none⟩ (.string t0)) = W1 at *
  clear d0 lw hX eW fW
  have d0 := (hb1.cell (p := ⟨blk, off + 1, none⟩) hlt).trans c1
  rw [rounds_succ]
  go_wp2_with (go_at_call 126; refine (h1 _ G _ (lt_below hg hb1) (rep_below hg r1 hb1)).mono ?_; rintro e w2 ⟨rfl, hc1⟩; have lw : W1.heap.size ≤ w2.heap.size := hc1.size; have hX := (hc1.trans ((below_alloc (w := w2) (Obj.cells #[.string t1] 9)).mono lw)); have eW := (hX.cell (p := ⟨w.heap.size, 1, none⟩) lB1).trans q11; have fW := (hX.frozen (p := ⟨w.heap.size, 1, none⟩) lB1).trans (fB1 1))
  have hb2 : Below w.heap.size w ((w2.alloc (Obj.cells #[.string t1] 9)).setCell ⟨w.heap.size, 1, none⟩ (.string t1)) := (hb1.trans (hX.mono hb1.size)).setCell (Nat.le_refl _) _
  have q20 := (World.cell?_setCell_other (w2.alloc (Obj.cells #[.string t1] 9)) ⟨w.heap.size, 1, none⟩ ⟨w.heap.size, 0, none⟩ (.string t1) (by simp)).trans ((hX.cell (p := ⟨w.heap.size, 0, none⟩) lB1).trans q10)
  have q21 : ((w2.alloc (Obj.cells #[.string t1] 9)).setCell ⟨w.heap.size, 1, none⟩ (.string t1)).cell? ⟨w.heap.size, 1, none⟩ = some (.string t1) := World.cell?_setCell_same _ _ _ eW
  have fB2 : ∀ j, ((w2.alloc (Obj.cells #[.string t1] 9)).setCell ⟨w.heap.size, 1, none⟩ (.string t1)).frozen? ⟨w.heap.size, j, none⟩ = false := fun j => by rw [World.frozen?_setCell]; exact (hX.frozen (p := ⟨w.heap.size, j, none⟩) lB1).trans (fB1 j)
  have lB2 : w.heap.size < ((w2.alloc (Obj.cells #[.string t1] 9)).setCell ⟨w.heap.size, 1, none⟩ (.string t1)).heap.size := by simp; omega
  generalize ((w2.alloc (Obj.cells #[.string t1] 9)).setCell ⟨w.heap.size, 1, none⟩ (.string t1)) = W2 at *
  clear d0 lw hX eW fW
  rw [rounds_succ]
  go_wp2
  go_ret
  exact ⟨_, rfl, q20, q21, lB2, hb2⟩
theorem cells2 {w : World} {bk : Nat} {t0 t1 : ByteArray} (c0 : w.cell? ⟨bk, 0, none⟩ = some (.string t0)) (c1 : w.cell? ⟨bk, 1, none⟩ = some (.string t1)) :
    ∀ (j : Nat) x, [t0, t1][j]? = some x → w.cell? ⟨bk, 0 + j, none⟩ = some (.string x) := by
  intro j x h
  rcases j with _ | _ | j <;> simp at h <;> subst h <;> assumption
theorem textm (w : World) {G : Nat → Prop} {v : Value} (hg : ∀ k, G k → k < w.heap.size) (hv : RepP w G (.sl [.sl [one, neg, nought], .sl [nought, one, neg]]) v) :
    Calls Try.prog 69 #[v] w fun e w' => e = .returned (.string ⟨#[49, 32, 45, 49, 32, 48, 59, 32, 48, 32, 49, 32, 45, 49]⟩) ∧ Below w.heap.size w w' := by
  have ht : (⟨(Lib.join ([⟨#[49, 32, 45, 49, 32, 48]⟩, ⟨#[48, 32, 49, 32, 45, 49]⟩].map (fun x : ByteArray => x.data.toList)) (⟨#[59, 32]⟩ : ByteArray).data.toList).toArray⟩ : ByteArray) = ⟨#[49, 32, 45, 49, 32, 48, 59, 32, 48, 32, 49, 32, 45, 49]⟩ := by decide
  go_enter Try.func69, Try.ntmps69
  go_wp2_with (first
    | (go_at_call 125; refine (each2 tvA tvB _ hg hv).mono ?_; rintro e w1 ⟨bk, rfl, c0, c1, lb, hb1⟩)
    | (go_at_call 124; refine (Try.strings_Join bk 0 2 [⟨#[49, 32, 45, 49, 32, 48]⟩, ⟨#[48, 32, 49, 32, 45, 49]⟩] ⟨#[59, 32]⟩ w1 (cells2 c0 c1) lb (by simp) (by simp) (by decide)).mono ?_; rintro e w2 ⟨rfl, hb2⟩))
  go_ret
  exact ⟨by rw [← ht]; rfl, hb1.trans (hb2.mono hb1.size)⟩
end Al
end Go.Proofs.Ytdpdnplljonppaa

namespace Go.Proofs.Ytdpdnplljonppaa.VAl
open Go Vpi
set_option maxRecDepth 100000
def f68 : RFun := ⟨(.seq (.reg [lq 4 (.mv (.c (.nils))), lq 5 (.mv (ki 0))] none)
 (.seq (.seq (.reg [mq 10 0, mq 11 1, lq 12 (.call .pu 119 [.t 10, .t 11]), mq 6 12] none)
 (.seq (.reg [mq 13 6, lq 14 (.bin .neq (.t 13) (ki 0))] none)
 (.fg [0, 1, 6, 14] (.cond (.t 14)
 (.seq (.reg [mq 15 6, lq 4 (.mv (.c (.nils))), mq 5 15] none)
 .ret)
 .skip))))
 (.seq (.reg [lq 7 (.mv (.c (.nils)))] none)
 (.seq (.seq (.reg [mq 16 0] none)
 (.fg [1, 7, 16] (.block 0
 (.seq (.reg [lq 23 (.bin .eql (.t 16) (ki 3)), mq 22 23] none)
 (.fg [1, 7, 16, 22] (.cond (.t 22)
 (.seq (.reg [mq 24 7, mq 25 1, lq 26 (.bslice 1 [.c (.p (.int .i64 0)), .c (.p (.int .i64 1)), .c (.p (.int .i64 1)), .c (.p (.int .i64 1))]), lq 27 (.call .fz 120 [.t 25, .t 26]), lq 28 (.bslice 1 [.t 27]), lq 29 (.append 1 24 (.t 24) (.t 28)), mq 7 29] none)
 (.seq (.reg [lq 8 (.mv (ki 1))] none)
 (.fg [1, 7, 8] (.block 1
 (.loop (.fg [1, 7, 8]
 (.seq (.seq (.reg [mq 30 8, mq 31 1, bq 32 .lss 30 31] none)
 (.fg [1, 7, 8, 32] (.cond (.t 32)
 .skip
 (.exit 1))))
 (.seq (.block 2
 (.reg [mq 35 7, mq 36 1, mq 37 8, lq 38 (.bin .sub (.t 37) (ki 1)), mq 39 8, lq 40 (.bslice 1 [.t 38, .c (.p (.int .i64 (-1))), .t 39, .c (.p (.int .i64 1))]), lq 41 (.call .fz 120 [.t 36, .t 40]), lq 42 (.bslice 1 [.t 41]), lq 43 (.append 1 24 (.t 35) (.t 42)), mq 7 43] none))
 (.fg [1, 7, 8] (.reg [mq 33 8, lq 34 (.bin .add (.t 33) (ki 1)), mq 8 34] none))))))))))
 (.seq (.reg [lq 45 (.bin .eql (.t 16) (ki 2)), mq 44 45] none)
 (.fg [1, 7, 16, 44] (.cond (.t 44)
 (.seq (.reg [mq 46 1, lq 47 (.mv (ki 0))] none)
 (.fg [1, 7, 46, 47] (.block 3
 (.loop (.fg [1, 7, 46, 47]
 (.seq (.reg [bq 48 .lss 47 46] none)
 (.seq (.cond (.t 48)
 .skip
 (.exit 3))
 (.fg [1, 7, 46, 47] (.seq (.block 4
 (.seq (.reg [mq 49 47, mq 9 49] none)
 (.reg [mq 50 7, mq 51 1, lq 52 (.bin .add (.t 51) (ki 1)), mq 53 9, mq 54 9, lq 55 (.bin .add (.t 54) (ki 1)), lq 56 (.bslice 1 [.t 53, .c (.p (.int .i64 1)), .t 55, .c (.p (.int .i64 (-1)))]), lq 57 (.call .fz 120 [.t 52, .t 56]), lq 58 (.bslice 1 [.t 57]), lq 59 (.append 1 24 (.t 50) (.t 58)), mq 7 59] none)))
 (.fg [1, 7, 46, 47] (.reg [lq 60 (.bin .add (.t 47) (ki 1)), mq 47 60] none)))))))))))
 (.seq (.reg [lq 62 (.bin .eql (.t 16) (ki 4)), mq 61 62] none)
 (.fg [1, 61] (.cond (.t 61)
 (.seq (.reg [lq 63 (.call .pu 121 []), mq 7 63] none)
 (.seq (.seq (.reg [mq 64 1, lq 65 (.bin .lss (.t 64) (ki 8))] none)
 (.fg [1, 7, 65] (.cond (.t 65)
 (.reg [mq 66 7, lq 67 (.call .pu 123 [.c (.p (.int .i64 8)), .c (.p (.int .i64 0))]), lq 68 (.call .fz 122 [.t 66, .t 67]), mq 7 68] none)
 .skip)))
 (.seq (.reg [mq 69 1, lq 70 (.bin .lss (.t 69) (ki 7))] none)
 (.fg [7, 70] (.cond (.t 70)
 (.reg [mq 71 7, lq 72 (.call .pu 123 [.c (.p (.int .i64 8)), .c (.p (.int .i64 6))]), lq 73 (.call .fz 122 [.t 71, .t 72]), mq 7 73] none)
 .skip)))))
 (.reg [mq 18 1, lq 19 (.call .pu 23 [.t 18]), mq 17 19, lq 20 (.extract (.t 17) 0), lq 21 (.extract (.t 17) 1), mq 7 20] none)))))))))))))
 (.seq (.reg [mq 74 7, mq 4 74, lq 5 (.mv (ki 0))] none)
 .ret))))), [.t 4, .t 5]⟩
theorem c68 : chkF Try.prog 68 f68 = true := by kernel_rfl
def f119 : RFun := ⟨(.seq (.reg [lq 4 (.mv (ki 0))] none)
 (.seq (.reg [mq 8 0, lq 9 (.call .pu 160 [.t 8]), mq 7 9, lq 10 (.extract (.t 7) 0), lq 11 (.extract (.t 7) 1), mq 5 10, mq 6 11] none)
 (.seq (.block 0
 (.seq (.reg [mq 13 6, lq 14 (.bin .eql (.t 13) (ki 0)), mq 12 14] none)
 (.fg [1, 5, 6, 12] (.cond (.t 12)
 (.seq (.reg [lq 4 (.mv (ki 1))] none)
 .ret)
 (.seq (.reg [mq 16 1, mq 17 5, bq 18 .lss 16 17, mq 19 18, ⟨(some 20), (some (19, false)), none, .mv (.t 1)⟩, ⟨(some 21), (some (19, false)), none, .mv (.t 6)⟩, ⟨(some 22), (some (19, false)), none, .bin .gtr (.t 20) (.t 21)⟩, lq 23 (.pick (.t 19) (.c (.p (.bool true))) (.t 22)), mq 15 23] none)
 (.fg [15] (.cond (.t 15)
 (.seq (.reg [lq 4 (.mv (ki 6))] none)
 .ret)
 .skip)))))))
 (.fg [] (.seq (.reg [lq 4 (.mv (ki 0))] none)
 .ret))))), [.t 4]⟩
theorem c119 : chkF Try.prog 119 f119 = true := by kernel_rfl
def f120 : RFun := ⟨(.seq (.reg [lq 4 (.mv (.c (.nils)))] none)
 (.seq (.reg [mq 7 0, lq 8 (.mks false 2 32 (.agg [.bool false, .sl []]) (.t 7) (.t 7)), mq 5 8] none)
 (.seq (.seq (.reg [lq 6 (.mv (ki 0))] none)
 (.fg [1, 5, 6] (.block 0
 (.loop (.fg [1, 5, 6]
 (.seq (.seq (.reg [mq 9 6, lq 10 (.bin .add (.t 9) (ki 1)), mq 11 1, lq 12 (.len (.t 11)), bq 13 .lss 10 12] none)
 (.fg [1, 5, 6, 13] (.cond (.t 13)
 .skip
 (.exit 0))))
 (.seq (.block 1
 (.reg [mq 16 5, mq 17 1, mq 18 6, xq 19 1 17 18, lF 20 1 19, mq 21 1, mq 22 6, lq 23 (.bin .add (.t 22) (ki 1)), xq 24 1 21 23, lF 25 1 24, lq 26 (.call .pu 25 [.t 25]), xq 27 2 16 20, sq 2 27 26] (some (0, []))))
 (.fg [1, 5, 6] (.reg [mq 14 6, lq 15 (.bin .add (.t 14) (ki 2)), mq 6 15] none)))))))))
 (.seq (.reg [mq 28 5, mq 4 28] none)
 .ret)))), [.t 4]⟩
theorem c120 : chkF Try.prog 120 f120 = true := by kernel_rfl
def f160 : RFun := ⟨(.seq (.reg [lq 2 (.mv (ki 0)), lq 3 (.mv (ki 0))] none)
 (.seq (.seq (.reg [mq 4 0] none)
 (.fg [4] (.block 0
 (.seq (.reg [lq 6 (.bin .eql (.t 4) (ki 1)), mq 5 6] none)
 (.fg [4, 5] (.cond (.t 5)
 (.seq (.reg [lq 2 (.mv (ki 1)), lq 3 (.mv (ki 12))] none)
 .ret)
 (.seq (.reg [lq 8 (.bin .eql (.t 4) (ki 2)), mq 7 8] none)
 (.fg [4, 7] (.cond (.t 7)
 (.seq (.reg [lq 2 (.mv (ki 1)), lq 3 (.mv (ki 11))] none)
 .ret)
 (.seq (.reg [lq 10 (.bin .eql (.t 4) (ki 3)), mq 9 10] none)
 (.fg [4, 9] (.cond (.t 9)
 (.seq (.reg [lq 2 (.mv (ki 2)), lq 3 (.mv (ki 12))] none)
 .ret)
 (.seq (.reg [lq 12 (.bin .eql (.t 4) (ki 4)), mq 11 12] none)
 (.fg [11] (.cond (.t 11)
 (.seq (.reg [lq 2 (.mv (ki 6)), lq 3 (.mv (ki 8))] none)
 .ret)
 .skip)))))))))))))))
 (.seq (.reg [lq 2 (.mv (ki 0)), lq 3 (.mv (ki 0))] none)
 .ret))), [.t 2, .t 3]⟩
theorem c160 : chkF Try.prog 160 f160 = true := by kernel_rfl
end Go.Proofs.Ytdpdnplljonppaa.VAl

namespace Go.Proofs.Ytdpdnplljonppaa.VAl
open Go Vpi
set_option maxRecDepth 100000
def tab : List (Nat × RFun) := [(68, f68), (119, f119), (120, f120), (160, f160)]
def rp : RProg := fun f => match VBn.rp f with | some rf => some rf | none => (tab.find? fun x => x.1 == f).map (·.2)
theorem all_ok : (tab.all fun x => chkF Try.prog x.1 x.2) = true := by
  simp only [tab, List.all_cons, List.all_nil, c68, c119, c120, c160, Bool.and_self]
theorem base_le : TabLe VBn.rp rp := by
  intro f rf h
  simp only [rp, h]
theorem rp_ok : ∀ f rf, rp f = some rf → chkF Try.prog f rf = true := by
  intro f rf h
  unfold rp at h
  split at h
  · rename_i h1
    cases h
    exact VBn.rp_ok _ _ h1
  · rw [Option.map_eq_some_iff] at h
    obtain ⟨x, hx, rfl⟩ := h
    have h1 := List.find?_some hx
    have h2 := List.mem_of_find?_eq_some hx
    have h3 := List.all_eq_true.1 all_ok x h2
    have h4 : x.1 = f := by simpa using h1
    rw [← h4]; exact h3
theorem mixed : Try.prog.follows .mixedOrders = true := VBn.mixed
theorem sim (m : Nat) : CallSim Try.prog (runF rp m) := callSim mixed rp_ok m
end Go.Proofs.Ytdpdnplljonppaa.VAl

namespace Go.Proofs.Ytdpdnplljonppaa
open Go.RowKit Vpi
set_option maxRecDepth 100000
namespace Al
def rootP : PV := .sl [.sl [one, neg, nought], .sl [nought, one, neg]]
theorem basis : Pu VAl.rp 68 [.int .i64 2, .int .i64 2] (.tup [.p rootP, .p (.int .i64 0)]) := pu_closed (n := 1000) (by kernel_rfl)
theorem basis_call (w : World) : Calls Try.prog 68 #[.int .i64 2, .int .i64 2] w fun e w' => ∃ v G', e = .returned (.tuple #[v, .int .i64 0]) ∧ (∀ k, G' k → k < w'.heap.size) ∧ RepP w' G' rootP v ∧ Below w.heap.size w w' := by
  refine (call_pu VAl.sim (w := w) (G := fun _ => False) (fun _ h => h.elim) basis (vs := [.int .i64 2, .int .i64 2]) rfl ?_).mono ?_
  · intro k p u hk hu
    rcases k with _ | _ | k
    · simp only [List.getElem?_cons_zero, Option.some.injEq] at hk hu; subst hk; subst hu; exact .int _ _
    · simp only [List.getElem?_cons_succ, List.getElem?_cons_zero, Option.some.injEq] at hk hu; subst hk; subst hu; exact .int _ _
    · simp at hk
  rintro e w' ⟨v, G', rfl, hg, _, hr, hb⟩
  cases hr with
  | tup cs vs hl hk =>
    match vs, hl, hk with
    | [x, y], _, hk =>
      rw [repP_int (repC_p (hk 1 _ y rfl rfl))]
      exact ⟨x, G', rfl, hg, repC_p (hk 0 _ x rfl rfl), hb⟩
set_option maxHeartbeats 1000000 in
theorem alive (w : World) : Calls Try.prog 21 #[] w fun e w' => e = .returned (.bool true) ∧ Below w.heap.size w w' := by
  go_enter Try.func21, Try.ntmps21
  go_wp2_with (first
    | (go_at_call 68; refine (basis_call _).mono ?_; rintro e w1 ⟨v, G, rfl, hg, hr, hb1⟩)
    | (go_at_call 69; refine (textm _ hg hr).mono ?_; rintro e w2 ⟨rfl, hb2⟩))
  go_ret
  exact ⟨rfl, hb1.trans (hb2.mono hb1.size)⟩
end Al
end Go.Proofs.Ytdpdnplljonppaa

namespace Go.Proofs.Ytdpdnplljonppaa.VKw
open Go Vpi
set_option maxRecDepth 100000
def f6 : RFun := ⟨(.seq (.reg [lq 2 (.box (.t 0)), lq 4 (.mv (.c (.p (.bool false))))] none)
 (.seq (.seq (.reg [lq 21 (.call .pu 21 []), lq 22 (.un .not (.t 21))] none)
 (.fg [1, 2, 22] (.cond (.t 22)
 (.seq (.reg [lq 4 (.mv (.c (.p (.bool false))))] none)
 .ret)
 .skip)))
 (.seq (.reg [lq 24 (.fieldA 0 (.t 2)), lF 25 1 24, lq 26 (.fieldA 1 (.t 2)), lF 27 1 26, lq 28 (.fieldA 2 (.t 2)), lF 29 1 28, lq 30 (.fieldA 3 (.t 2)), lF 31 1 30, lq 32 (.call .pu 22 [.t 25, .t 27, .t 29, .t 31]), mq 23 32, lq 33 (.extract (.t 23) 0), lq 34 (.extract (.t 23) 1), mq 5 33, mq 6 34] none)
 (.seq (.seq (.reg [mq 35 6, lq 36 (.bin .eql (.t 35) (ki 0))] none)
 (.fg [1, 2, 5, 36] (.cond (.t 36)
 (.seq (.reg [lq 38 (.fieldA 0 (.t 2)), lF 39 1 38, lq 40 (.call .pu 23 [.t 39]), mq 37 40, lq 41 (.extract (.t 37) 0), lq 42 (.extract (.t 37) 1), mq 7 41, mq 8 42] none)
 (.seq (.reg [lq 43 (.fieldA 2 (.t 2)), lF 44 1 43, lq 45 (.bin .quo (.t 44) (.c (.p (.int .u64 2)))), lq 46 (.conv .i64 (.t 45)), lq 47 (.call .pu 25 [.t 46]), lq 48 (.call .pu 25 [.c (.p (.int .i64 2))]), lq 49 (.call .pu 24 [.t 47, .t 48]), lq 9 (.alloc [.p (.bool false), .nils]), sq 2 9 49] none)
 (.seq (.reg [lT 50 2 9, lq 51 (.fieldA 2 (.t 2)), lF 52 1 51, lq 53 (.bin .rem (.t 52) (.c (.p (.int .u64 2)))), lq 54 (.conv .i64 (.t 53)), lq 55 (.call .pu 25 [.t 54]), lq 56 (.call .pu 26 [.t 50, .t 55]), sq 2 9 56] (some (0, [])))
 (.seq (.reg [mq 58 5, lq 59 (.call .pu 27 [.t 58]), mq 57 59, lq 60 (.extract (.t 57) 0), lq 61 (.extract (.t 57) 1), lq 10 (.alloc [.p (.bool false), .nils]), sq 2 10 60, mq 11 61] none)
 (.seq (.reg [lT 63 2 9, lq 64 (.fieldA 0 (.t 2)), lF 65 1 64, lq 66 (.fieldA 1 (.t 2)), lF 67 1 66, bq 68 .sub 65 67, lq 69 (.call .pu 28 [.t 63, .t 68]), mq 62 69, lq 70 (.extract (.t 62) 0), lq 71 (.extract (.t 62) 1), lq 12 (.alloc [.p (.bool false), .nils]), sq 2 12 70, mq 13 71] none)
 (.seq (.seq (.reg [mq 72 8, lq 73 (.bin .neq (.t 72) (ki 0)), mq 74 73, ⟨(some 75), (some (74, false)), none, .mv (.t 11)⟩, ⟨(some 76), (some (74, false)), none, .bin .neq (.t 75) (ki 0)⟩, lq 77 (.pick (.t 74) (.c (.p (.bool true))) (.t 76)), mq 78 77, ⟨(some 79), (some (78, false)), none, .mv (.t 13)⟩, ⟨(some 80), (some (78, false)), none, .bin .neq (.t 79) (ki 0)⟩, lq 81 (.pick (.t 78) (.c (.p (.bool true))) (.t 80)), mq 82 81, ⟨(some 83), (some (82, false)), none, .load true 2 (.t 10)⟩, ⟨(some 84), (some (82, false)), none, .load true 2 (.t 12)⟩, ⟨(some 85), (some (82, false)), none, .call .pu 29 [.t 83, .t 84]⟩, ⟨(some 86), (some (82, false)), none, .un .not (.t 85)⟩, lq 87 (.pick (.t 82) (.c (.p (.bool true))) (.t 86))] none)
 (.fg [1, 2, 5, 7, 9, 87] (.cond (.t 87)
 (.seq (.reg [lq 4 (.mv (.c (.p (.bool false))))] none)
 .ret)
 .skip)))
 (.seq (.reg [lq 14 (.mv (ki 0))] none)
 (.fg [1, 2, 5, 7, 9, 14] (.block 0
 (.loop (.fg [1, 2, 5, 7, 9, 14]
 (.seq (.seq (.reg [mq 88 14, mq 89 7, lq 90 (.len (.t 89)), bq 91 .lss 88 90] none)
 (.fg [1, 2, 5, 7, 9, 14, 91] (.cond (.t 91)
 .skip
 (.exit 0))))
 (.seq (.block 1
 (.seq (.reg [mq 95 5, lT 96 2 9, mq 97 7, mq 98 14, xq 99 1 97 98, lF 100 1 99, lq 101 (.call .pu 31 [.t 96, .t 100]), lq 102 (.call .pu 30 [.t 95, .t 101]), mq 94 102, lq 103 (.extract (.t 94) 0), lq 104 (.extract (.t 94) 1), mq 15 103, mq 16 104] (some (0, [])))
 (.seq (.reg [mq 105 16, lq 106 (.bin .neq (.t 105) (ki 0)), mq 107 106, ⟨(some 108), (some (107, false)), none, .mv (.t 15)⟩, ⟨(some 109), (some (107, false)), none, .un .not (.t 108)⟩, lq 110 (.pick (.t 107) (.c (.p (.bool true))) (.t 109))] none)
 (.fg [1, 2, 5, 7, 9, 14, 110] (.cond (.t 110)
 (.seq (.reg [lq 4 (.mv (.c (.p (.bool false))))] none)
 .ret)
 .skip)))))
 (.fg [1, 2, 5, 7, 9, 14] (.reg [mq 92 14, lq 93 (.bin .add (.t 92) (ki 1)), mq 14 93] none)))))))))))))))
 .skip)))
 (.seq (.reg [lq 112 (.fieldA 3 (.t 2)), lF 113 1 112, mq 114 1, lq 115 (.fieldA 2 (.t 2)), lF 116 1 115, lq 117 (.call .pu 32 [.t 113, .t 114, .t 116]), mq 111 117, lq 118 (.extract (.t 111) 0), lq 119 (.extract (.t 111) 1), mq 17 118, mq 6 119] none)
 (.seq (.reg [lq 121 (.fieldA 3 (.t 2)), lF 122 1 121, mq 123 1, lq 124 (.bin .quo (.t 123) (ki 2)), lq 125 (.fieldA 2 (.t 2)), lF 126 1 125, lq 127 (.call .pu 32 [.t 122, .t 124, .t 126]), mq 120 127, lq 128 (.extract (.t 120) 0), lq 129 (.extract (.t 120) 1), mq 18 128, mq 19 129] none)
 (.seq (.seq (.reg [mq 130 6, lq 131 (.bin .neq (.t 130) (ki 0)), mq 132 131, ⟨(some 133), (some (132, false)), none, .mv (.t 19)⟩, ⟨(some 134), (some (132, false)), none, .bin .neq (.t 133) (ki 0)⟩, lq 135 (.pick (.t 132) (.c (.p (.bool true))) (.t 134))] none)
 (.fg [1, 2, 6, 17, 18, 19, 135] (.cond (.t 135)
 (.seq (.reg [mq 136 6, mq 137 19, bq 138 .eql 136 137, mq 139 138, ⟨(some 140), (some (139, false)), none, .mv (.t 1)⟩, ⟨(some 141), (some (139, false)), none, .bin .lss (.t 140) (ki 0)⟩, lq 142 (.pick (.t 139) (.c (.p (.bool true))) (.t 141)), mq 143 142, ⟨(some 144), (some (143, false)), none, .mv (.t 1)⟩, ⟨(some 145), (some (143, false)), none, .bin .gtr (.t 144) (ki 4096)⟩, lq 146 (.pick (.t 143) (.c (.p (.bool true))) (.t 145)), mq 4 146] none)
 .ret)
 .skip)))
 (.seq (.seq (.reg [mq 147 17, lq 148 (.len (.t 147)), mq 149 1, bq 150 .neq 148 149, mq 151 150, ⟨(some 152), (some (151, false)), none, .mv (.t 18)⟩, ⟨(some 153), (some (151, false)), none, .len (.t 152)⟩, ⟨(some 154), (some (151, false)), none, .mv (.t 1)⟩, ⟨(some 155), (some (151, false)), none, .bin .quo (.t 154) (ki 2)⟩, ⟨(some 156), (some (151, false)), none, .bin .neq (.t 153) (.t 155)⟩, lq 157 (.pick (.t 151) (.c (.p (.bool true))) (.t 156))] none)
 (.fg [1, 2, 17, 18, 157] (.cond (.t 157)
 (.seq (.reg [lq 4 (.mv (.c (.p (.bool false))))] none)
 .ret)
 .skip)))
 (.seq (.seq (.reg [lq 20 (.mv (ki 0))] none)
 (.fg [1, 2, 17, 18, 20] (.block 2
 (.loop (.fg [1, 2, 17, 18, 20]
 (.seq (.seq (.reg [mq 158 20, mq 159 1, bq 160 .lss 158 159] none)
 (.fg [1, 2, 17, 18, 20, 160] (.cond (.t 160)
 .skip
 (.exit 2))))
 (.seq (.block 3
 (.seq (.reg [mq 163 17, mq 164 20, xq 165 1 163 164, lF 166 1 165, lq 167 (.fieldA 2 (.t 2)), lF 168 1 167, bq 169 .geq 166 168, mq 170 169, ⟨(some 171), (some (170, false)), none, .mv (.t 20)⟩, ⟨(some 172), (some (170, false)), none, .mv (.t 18)⟩, ⟨(some 173), (some (170, false)), none, .len (.t 172)⟩, ⟨(some 174), (some (170, false)), none, .bin .lss (.t 171) (.t 173)⟩, ⟨(some 175), (some (170, false)), none, .mv (.t 174)⟩, ⟨(some 176), (some (175, true)), none, .mv (.t 18)⟩, ⟨(some 177), (some (175, true)), none, .mv (.t 20)⟩, ⟨(some 178), (some (175, true)), none, .indexA 1 (.t 176) (.t 177)⟩, ⟨(some 179), (some (175, true)), none, .load false 1 (.t 178)⟩, ⟨(some 180), (some (175, true)), none, .mv (.t 17)⟩, ⟨(some 181), (some (175, true)), none, .mv (.t 20)⟩, ⟨(some 182), (some (175, true)), none, .indexA 1 (.t 180) (.t 181)⟩, ⟨(some 183), (some (175, true)), none, .load false 1 (.t 182)⟩, ⟨(some 184), (some (175, true)), none, .bin .neq (.t 179) (.t 183)⟩, ⟨(some 185), (some (170, false)), none, .pick (.t 175) (.t 184) (.c (.p (.bool false)))⟩, lq 186 (.pick (.t 170) (.c (.p (.bool true))) (.t 185))] (some (0, [])))
 (.fg [1, 2, 17, 18, 20, 186] (.cond (.t 186)
 (.seq (.reg [lq 4 (.mv (.c (.p (.bool false))))] none)
 .ret)
 .skip))))
 (.fg [1, 2, 17, 18, 20] (.reg [mq 161 20, lq 162 (.bin .add (.t 161) (ki 1)), mq 20 162] none)))))))))
 (.seq (.reg [lq 4 (.mv (.c (.p (.bool true))))] none)
 .ret)))))))))), [.t 4]⟩
theorem c6 : chkF Try.prog 6 f6 = true := by kernel_rfl
def f22 : RFun := ⟨(.seq (.reg [lq 8 (.mv (.c (.nils))), lq 9 (.mv (ki 0))] none)
 (.seq (.seq (.reg [mq 15 0, lq 16 (.bin .lss (.t 15) (ki 1)), mq 17 16, ⟨(some 18), (some (17, false)), none, .mv (.t 0)⟩, ⟨(some 19), (some (17, false)), none, .bin .gtr (.t 18) (ki 12)⟩, lq 20 (.pick (.t 17) (.c (.p (.bool true))) (.t 19)), mq 21 20, ⟨(some 22), (some (21, false)), none, .mv (.t 1)⟩, ⟨(some 23), (some (21, false)), none, .bin .lss (.t 22) (ki 0)⟩, lq 24 (.pick (.t 21) (.c (.p (.bool true))) (.t 23)), mq 25 24, ⟨(some 26), (some (25, false)), none, .mv (.t 1)⟩, ⟨(some 27), (some (25, false)), none, .mv (.t 0)⟩, ⟨(some 28), (some (25, false)), none, .bin .gtr (.t 26) (.t 27)⟩, lq 29 (.pick (.t 25) (.c (.p (.bool true))) (.t 28)), mq 30 29, ⟨(some 31), (some (30, false)), none, .mv (.t 2)⟩, ⟨(some 32), (some (30, false)), none, .call .pu 70 [.t 31]⟩, ⟨(some 33), (some (30, false)), none, .un .not (.t 32)⟩, lq 34 (.pick (.t 30) (.c (.p (.bool true))) (.t 33))] none)
 (.fg [0, 1, 2, 3, 34] (.cond (.t 34)
 (.seq (.reg [lq 8 (.mv (.c (.nils))), lq 9 (.mv (ki 1))] none)
 .ret)
 .skip)))
 (.seq (.reg [mq 35 3, lq 36 (.call .keep 40 [.t 35]), mq 10 36] none)
 (.seq (.reg [lq 11 (.mv (.c (.nils)))] none)
 (.seq (.seq (.reg [mq 37 0, lq 38 (.mv (ki 0))] none)
 (.fg [0, 1, 2, 10, 11, 37, 38] (.block 0
 (.loop (.fg [0, 1, 2, 10, 11, 37, 38]
 (.seq (.reg [bq 39 .lss 38 37] none)
 (.seq (.cond (.t 39)
 .skip
 (.exit 0))
 (.fg [0, 1, 2, 10, 11, 37, 38] (.seq (.block 1
 (.seq (.reg [mq 40 38, mq 12 40] none)
 (.seq (.reg [mq 41 0, lq 42 (.mks false 2 32 (.agg [.bool false, .sl []]) (.t 41) (.t 41)), mq 13 42] none)
 (.seq (.seq (.reg [mq 43 12, mq 44 1, bq 45 .geq 43 44] none)
 (.fg [0, 1, 2, 10, 11, 12, 13, 37, 38, 45] (.cond (.t 45)
 (.seq (.reg [mq 46 13, mq 47 12, mq 48 2, lq 49 (.conv .i64 (.t 48)), lq 50 (.call .pu 25 [.t 49]), xq 51 2 46 47, sq 2 51 50] none)
 (.seq (.reg [mq 52 11, mq 53 13, lq 54 (.bslice 1 [.t 53]), lq 55 (.append 1 24 (.t 52) (.t 54)), mq 11 55] none)
 (.exit 1)))
 .skip)))
 (.seq (.reg [mq 56 13, mq 57 12, lq 58 (.call .pu 25 [.c (.p (.int .i64 1))]), xq 59 2 56 57, sq 2 59 58] none)
 (.seq (.seq (.reg [mq 60 1, mq 14 60] none)
 (.fg [0, 1, 2, 10, 11, 13, 14, 37, 38] (.block 2
 (.loop (.fg [0, 1, 2, 10, 11, 13, 14, 37, 38]
 (.seq (.seq (.reg [mq 61 14, mq 62 0, bq 63 .lss 61 62] none)
 (.fg [0, 1, 2, 10, 11, 13, 14, 37, 38, 63] (.cond (.t 63)
 .skip
 (.exit 2))))
 (.seq (.block 3
 (.reg [mq 66 13, mq 67 14, mq 68 10, mq 69 2, lq 70 (.callv .full (.t 68) [.t 69]), lq 71 (.conv .i64 (.t 70)), lq 72 (.call .pu 25 [.t 71]), xq 73 2 66 67, sq 2 73 72] none))
 (.fg [0, 1, 2, 10, 11, 13, 14, 37, 38] (.reg [mq 64 14, lq 65 (.bin .add (.t 64) (ki 1)), mq 14 65] none)))))))))
 (.reg [mq 74 11, mq 75 13, lq 76 (.bslice 1 [.t 75]), lq 77 (.append 1 24 (.t 74) (.t 76)), mq 11 77] none)))))))
 (.fg [0, 1, 2, 10, 11, 37, 38] (.reg [lq 78 (.bin .add (.t 38) (ki 1)), mq 38 78] none)))))))))))
 (.seq (.reg [mq 79 11, mq 8 79, lq 9 (.mv (ki 0))] none)
 .ret)))))), [.t 8, .t 9]⟩
theorem c22 : chkF Try.prog 22 f22 = true := by kernel_rfl
def f23 : RFun := ⟨(.seq (.reg [lq 2 (.mv (.c (.nils))), lq 3 (.mv (ki 0))] none)
 (.seq (.block 0
 (.seq (.reg [mq 8 0, lq 9 (.bin .lss (.t 8) (ki 0)), mq 7 9] none)
 (.fg [0, 7] (.cond (.t 7)
 (.seq (.reg [lq 2 (.mv (.c (.nils))), lq 3 (.mv (ki 1))] none)
 .ret)
 (.seq (.reg [mq 11 0, lq 12 (.bin .gtr (.t 11) (ki 64)), mq 10 12] none)
 (.fg [0, 10] (.cond (.t 10)
 (.seq (.reg [lq 2 (.mv (.c (.nils))), lq 3 (.mv (ki 2))] none)
 .ret)
 .skip)))))))
 (.fg [0] (.seq (.reg [lq 4 (.mv (.c (.nils)))] none)
 (.seq (.seq (.reg [mq 13 0, lq 14 (.mv (ki 0))] none)
 (.fg [0, 4, 13, 14] (.block 1
 (.loop (.fg [0, 4, 13, 14]
 (.seq (.reg [bq 15 .lss 14 13] none)
 (.seq (.cond (.t 15)
 .skip
 (.exit 1))
 (.fg [0, 4, 13, 14] (.seq (.block 2
 (.seq (.reg [mq 16 14, mq 5 16] none)
 (.seq (.reg [mq 17 0, lq 18 (.mks false 2 32 (.agg [.bool false, .sl []]) (.t 17) (.t 17)), mq 6 18] none)
 (.seq (.reg [mq 19 6, mq 20 5, lq 21 (.call .pu 25 [.c (.p (.int .i64 1))]), xq 22 2 19 20, sq 2 22 21] none)
 (.reg [mq 23 4, mq 24 6, lq 25 (.bslice 1 [.t 24]), lq 26 (.append 1 24 (.t 23) (.t 25)), mq 4 26] none)))))
 (.fg [0, 4, 13, 14] (.reg [lq 27 (.bin .add (.t 14) (ki 1)), mq 14 27] none)))))))))))
 (.seq (.reg [mq 28 4, mq 2 28, lq 3 (.mv (ki 0))] none)
 .ret)))))), [.t 2, .t 3]⟩
theorem c23 : chkF Try.prog 23 f23 = true := by kernel_rfl
def f27 : RFun := ⟨(.seq (.reg [lq 2 (.alloc [.p (.bool false), .nils]), lq 3 (.mv (ki 0))] none)
 (.seq (.seq (.reg [mq 7 0, lq 8 (.call .pu 76 [.t 7]), mq 6 8, lq 9 (.extract (.t 6) 0), lq 10 (.extract (.t 6) 1), mq 4 9, mq 5 10] none)
 (.seq (.reg [mq 11 5, lq 12 (.bin .neq (.t 11) (ki 0))] none)
 (.fg [0, 2, 5, 12] (.cond (.t 12)
 (.seq (.reg [lq 13 (.build [.p (.bool false), .nils] []), mq 14 5, sq 2 2 13, mq 3 14] none)
 .ret)
 .skip))))
 (.seq (.reg [mq 15 0, lq 16 (.call .pu 77 [.t 15]), sq 2 2 16, lq 3 (.mv (ki 0))] none)
 .ret))), [.cell 2 true 2, .t 3]⟩
theorem c27 : chkF Try.prog 27 f27 = true := by kernel_rfl
def f28 : RFun := ⟨(.seq (.reg [lq 2 (.box (.t 0)), lq 4 (.alloc [.p (.bool false), .nils]), lq 5 (.mv (ki 0))] none)
 (.seq (.seq (.reg [lT 9 2 2, lq 10 (.call .pu 78 [.t 9]), mq 6 10] none)
 (.fg [1, 2, 4, 6] (.block 0
 (.seq (.reg [mq 12 1, lq 13 (.bin .lss (.t 12) (ki 0)), mq 11 13] none)
 (.fg [1, 2, 4, 6, 11] (.cond (.t 11)
 (.seq (.reg [lq 14 (.build [.p (.bool false), .nils] []), sq 2 4 14, lq 5 (.mv (ki 1))] none)
 .ret)
 (.seq (.reg [mq 16 6, lq 17 (.bin .gtr (.t 16) (ki 0)), mq 18 17, ⟨(some 19), (some (18, true)), none, .mv (.t 1)⟩, ⟨(some 20), (some (18, true)), none, .mv (.t 6)⟩, ⟨(some 21), (some (18, true)), none, .bin .quo (ki 65536) (.t 20)⟩, ⟨(some 22), (some (18, true)), none, .bin .gtr (.t 19) (.t 21)⟩, lq 23 (.pick (.t 18) (.t 22) (.c (.p (.bool false)))), mq 15 23] none)
 (.fg [1, 2, 4, 6, 15] (.cond (.t 15)
 (.seq (.reg [lq 24 (.build [.p (.bool false), .nils] []), sq 2 4 24, lq 5 (.mv (ki 2))] none)
 .ret)
 (.seq (.reg [mq 26 1, lq 27 (.bin .eql (.t 26) (ki 0)), mq 25 27] none)
 (.fg [1, 2, 4, 6, 25] (.cond (.t 25)
 (.seq (.reg [lq 28 (.call .pu 25 [.c (.p (.int .i64 1))]), sq 2 4 28, lq 5 (.mv (ki 0))] none)
 .ret)
 (.seq (.reg [mq 30 6, lq 31 (.bin .eql (.t 30) (ki 0)), mq 29 31] none)
 (.fg [1, 2, 4, 29] (.cond (.t 29)
 (.seq (.reg [lq 32 (.build [.p (.bool false), .nils] []), sq 2 4 32, lq 5 (.mv (ki 0))] none)
 .ret)
 .skip)))))))))))))))
 (.seq (.reg [lq 33 (.call .pu 25 [.c (.p (.int .i64 1))]), lq 7 (.alloc [.p (.bool false), .nils]), sq 2 7 33] none)
 (.seq (.reg [lT 34 2 2, lq 35 (.call .pu 57 [.t 34]), lq 8 (.alloc [.p (.bool false), .nils]), sq 2 8 35] none)
 (.fg [1, 4, 7, 8] (.block 1
 (.loop (.fg [1, 4, 7, 8]
 (.seq (.block 2
 (.seq (.seq (.reg [mq 39 1, lq 40 (.bin .and (.t 39) (ki 1)), lq 41 (.bin .eql (.t 40) (ki 1))] none)
 (.fg [1, 4, 7, 8, 41] (.cond (.t 41)
 (.reg [lT 42 2 7, lT 43 2 8, lq 44 (.call .pu 24 [.t 42, .t 43]), sq 2 7 44] none)
 .skip)))
 (.seq (.reg [mq 45 1, lq 46 (.bin .shr (.t 45) (.c (.p (.int .u64 1)))), mq 1 46] none)
 (.seq (.reg [mq 47 1, lq 48 (.bin .eql (.t 47) (ki 0))] none)
 (.fg [1, 4, 7, 8, 48] (.cond (.t 48)
 (.seq (.reg [lT 49 2 7, sq 2 4 49, lq 5 (.mv (ki 0))] none)
 .ret)
 .skip))))))
 (.fg [1, 4, 7, 8] (.seq (.seq (.reg [lT 50 2 8] none)
 (.reg [lq 8 (.alloc [.p (.bool false), .nils]), sq 2 8 50] none))
 (.reg [lT 36 2 8, lT 37 2 8, lq 38 (.call .pu 24 [.t 36, .t 37]), sq 2 8 38] none)))))))))))), [.cell 4 true 2, .t 5]⟩
theorem c28 : chkF Try.prog 28 f28 = true := by kernel_rfl
def f29 : RFun := ⟨(.seq (.reg [lq 2 (.box (.t 0)), lq 3 (.box (.t 1)), lq 4 (.mv (.c (.p (.bool false))))] none)
 (.seq (.seq (.reg [lq 6 (.fieldA 0 (.t 2)), lF 7 1 6, lq 8 (.fieldA 0 (.t 3)), lF 9 1 8, lq 10 (.beq true (.t 7) (.t 9)), mq 11 10, ⟨(some 12), (some (11, false)), none, .fieldA 1 (.t 2)⟩, ⟨(some 13), (some (11, false)), none, .load false 1 (.t 12)⟩, ⟨(some 14), (some (11, false)), none, .len (.t 13)⟩, ⟨(some 15), (some (11, false)), none, .fieldA 1 (.t 3)⟩, ⟨(some 16), (some (11, false)), none, .load false 1 (.t 15)⟩, ⟨(some 17), (some (11, false)), none, .len (.t 16)⟩, ⟨(some 18), (some (11, false)), none, .bin .neq (.t 14) (.t 17)⟩, lq 19 (.pick (.t 11) (.c (.p (.bool true))) (.t 18))] none)
 (.fg [2, 3, 19] (.cond (.t 19)
 (.seq (.reg [lq 4 (.mv (.c (.p (.bool false))))] none)
 .ret)
 .skip)))
 (.seq (.seq (.reg [lq 5 (.mv (ki 0))] none)
 (.fg [2, 3, 5] (.block 0
 (.loop (.fg [2, 3, 5]
 (.seq (.seq (.reg [mq 20 5, lq 21 (.fieldA 1 (.t 2)), lF 22 1 21, lq 23 (.len (.t 22)), bq 24 .lss 20 23] none)
 (.fg [2, 3, 5, 24] (.cond (.t 24)
 .skip
 (.exit 0))))
 (.seq (.block 1
 (.seq (.reg [lq 27 (.fieldA 1 (.t 2)), lF 28 1 27, mq 29 5, xq 30 1 28 29, lF 31 1 30, lq 32 (.fieldA 1 (.t 3)), lF 33 1 32, mq 34 5, xq 35 1 33 34, lF 36 1 35, bq 37 .neq 31 36] (some (0, [])))
 (.fg [2, 3, 5, 37] (.cond (.t 37)
 (.seq (.reg [lq 4 (.mv (.c (.p (.bool false))))] none)
 .ret)
 .skip))))
 (.fg [2, 3, 5] (.reg [mq 25 5, lq 26 (.bin .add (.t 25) (ki 1)), mq 5 26] none)))))))))
 (.seq (.reg [lq 4 (.mv (.c (.p (.bool true))))] none)
 .ret)))), [.t 4]⟩
theorem c29 : chkF Try.prog 29 f29 = true := by kernel_rfl
def f30 : RFun := ⟨(.seq (.reg [lq 4 (.mv (.c (.p (.bool false)))), lq 5 (.mv (ki 0))] none)
 (.seq (.reg [mq 9 0, mq 10 1, lq 11 (.call .pu 79 [.t 9, .t 10]), mq 8 11, lq 12 (.extract (.t 8) 0), lq 13 (.extract (.t 8) 1), mq 6 12, mq 7 13] none)
 (.seq (.seq (.reg [mq 14 7, lq 15 (.bin .neq (.t 14) (ki 0))] none)
 (.fg [0, 1, 6, 7, 15] (.cond (.t 15)
 (.seq (.reg [mq 16 7, lq 4 (.mv (.c (.p (.bool false)))), mq 5 16] none)
 .ret)
 .skip)))
 (.seq (.reg [mq 17 0, mq 18 6, lq 19 (.call .pu 82 [.t 17, .t 18]), mq 20 1, lq 21 (.call .pu 81 [.t 19, .t 20]), lq 22 (.call .pu 80 [.t 21]), lq 23 (.bin .lss (.t 22) (ki 0)), mq 4 23, lq 5 (.mv (ki 0))] none)
 .ret)))), [.t 4, .t 5]⟩
theorem c30 : chkF Try.prog 30 f30 = true := by kernel_rfl
def f32 : RFun := ⟨(.seq (.reg [lq 6 (.mv (.c (.nils))), lq 7 (.mv (ki 0))] none)
 (.seq (.seq (.reg [mq 10 1, lq 11 (.bin .lss (.t 10) (ki 0)), mq 12 11, ⟨(some 13), (some (12, false)), none, .mv (.t 1)⟩, ⟨(some 14), (some (12, false)), none, .bin .gtr (.t 13) (ki 4096)⟩, lq 15 (.pick (.t 12) (.c (.p (.bool true))) (.t 14)), mq 16 15, ⟨(some 17), (some (16, false)), none, .mv (.t 2)⟩, ⟨(some 18), (some (16, false)), none, .bin .eql (.t 17) (.c (.p (.int .u64 0)))⟩, lq 19 (.pick (.t 16) (.c (.p (.bool true))) (.t 18))] none)
 (.fg [0, 1, 2, 19] (.cond (.t 19)
 (.seq (.reg [lq 6 (.mv (.c (.nils))), lq 7 (.mv (ki 1))] none)
 .ret)
 .skip)))
 (.seq (.reg [mq 20 0, lq 21 (.call .keep 40 [.t 20]), mq 8 21] none)
 (.seq (.reg [lq 9 (.mv (.c (.nils)))] none)
 (.seq (.seq (.reg [mq 22 1, lq 23 (.mv (ki 0))] none)
 (.fg [2, 8, 9, 22, 23] (.block 0
 (.loop (.fg [2, 8, 9, 22, 23]
 (.seq (.reg [bq 24 .lss 23 22] none)
 (.seq (.cond (.t 24)
 .skip
 (.exit 0))
 (.fg [2, 8, 9, 22, 23] (.seq (.block 1
 (.reg [mq 25 9, mq 26 8, mq 27 2, lq 28 (.callv .full (.t 26) [.t 27]), lq 29 (.bslice 1 [.t 28]), lq 30 (.append 1 8 (.t 25) (.t 29)), mq 9 30] none))
 (.fg [2, 8, 9, 22, 23] (.reg [lq 31 (.bin .add (.t 23) (ki 1)), mq 23 31] none)))))))))))
 (.seq (.reg [mq 32 9, mq 6 32, lq 7 (.mv (ki 0))] none)
 .ret)))))), [.t 6, .t 7]⟩
theorem c32 : chkF Try.prog 32 f32 = true := by kernel_rfl
def f40 : RFun := ⟨(.seq (.reg [lq 2 (.mv (.c (.any)))] none)
 (.seq (.reg [mq 4 0, lq 3 (.alloc [.p (.int .u64 0)]), sq 1 3 4] none)
 (.seq (.reg [lq 5 (.mkfn 95 [.t 3]), mq 2 5] none)
 .ret))), [.t 2]⟩
theorem c40 : chkF Try.prog 40 f40 = true := by kernel_rfl
def f70 : RFun := ⟨(.seq (.reg [lq 2 (.mv (.c (.p (.bool false))))] none)
 (.seq (.reg [mq 3 0, lq 4 (.bin .geq (.t 3) (.c (.p (.int .u64 2)))), mq 5 4, ⟨(some 6), (some (5, true)), none, .mv (.t 0)⟩, ⟨(some 7), (some (5, true)), none, .bin .leq (.t 6) (.c (.p (.int .u64 4294967296)))⟩, lq 8 (.pick (.t 5) (.t 7) (.c (.p (.bool false)))), mq 2 8] none)
 .ret)), [.t 2]⟩
theorem c70 : chkF Try.prog 70 f70 = true := by kernel_rfl
def f76 : RFun := ⟨(.seq (.reg [lq 2 (.mv (ki 0)), lq 3 (.mv (ki 0))] none)
 (.seq (.reg [mq 8 0, lq 9 (.call .pu 129 [.t 8]), mq 7 9, lq 10 (.extract (.t 7) 0), lq 11 (.extract (.t 7) 1), lq 12 (.extract (.t 7) 2), mq 4 10, mq 5 11, mq 6 12] none)
 (.seq (.seq (.reg [mq 13 6, lq 14 (.bin .eql (.t 13) (ki 0)), mq 15 14, ⟨(some 16), (some (15, true)), none, .mv (.t 4)⟩, ⟨(some 17), (some (15, true)), none, .mv (.t 5)⟩, ⟨(some 18), (some (15, true)), none, .bin .neq (.t 16) (.t 17)⟩, lq 19 (.pick (.t 15) (.t 18) (.c (.p (.bool false))))] none)
 (.fg [4, 6, 19] (.cond (.t 19)
 (.reg [lq 6 (.mv (ki 8))] none)
 .skip)))
 (.seq (.reg [mq 20 4, mq 21 6, mq 2 20, mq 3 21] none)
 .ret)))), [.t 2, .t 3]⟩
theorem c76 : chkF Try.prog 76 f76 = true := by kernel_rfl
def f77 : RFun := ⟨(.seq (.reg [lq 2 (.alloc [.p (.bool false), .nils])] none)
 (.seq (.reg [mq 8 0, lq 9 (.len (.t 8)), mq 3 9] none)
 (.seq (.reg [mq 11 0, mq 12 3, lq 13 (.call .keep 130 [.t 11, .t 12]), mq 10 13, lq 14 (.extract (.t 10) 0), lq 15 (.extract (.t 10) 1), lq 16 (.extract (.t 10) 2), lq 17 (.extract (.t 10) 3), lq 6 (.alloc [.p (.bool false), .nils]), mq 4 14, mq 5 15, sq 2 6 16, mq 7 17] none)
 (.seq (.block 0
 (.seq (.reg [mq 19 5, lq 20 (.len (.t 19)), mq 21 3, bq 22 .lss 20 21, mq 18 22] none)
 (.fg [2, 6, 7, 18] (.cond (.t 18)
 (.seq (.reg [lq 23 (.build [.p (.bool false), .nils] []), sq 2 2 23] none)
 .ret)
 (.seq (.reg [mq 25 7, mq 24 25] none)
 (.fg [2, 6, 24] (.cond (.t 24)
 (.seq (.reg [lT 26 2 6, lq 27 (.call .fz 131 [.t 26]), sq 2 2 27] none)
 .ret)
 .skip)))))))
 (.fg [2, 6] (.seq (.reg [lT 28 2 6, lq 29 (.call .fz 57 [.t 28]), sq 2 2 29] none)
 .ret)))))), [.cell 2 true 2]⟩
theorem c77 : chkF Try.prog 77 f77 = true := by kernel_rfl
def f79 : RFun := ⟨(.seq (.reg [lq 4 (.mv (ki 0)), lq 5 (.mv (ki 0))] none)
 (.seq (.reg [mq 10 0, lq 11 (.call .pu 104 [.t 10]), mq 9 11, lq 12 (.extract (.t 9) 0), lq 13 (.extract (.t 9) 1), lq 14 (.extract (.t 9) 2), mq 6 12, mq 7 13, mq 8 14] none)
 (.seq (.seq (.reg [mq 15 8, lq 16 (.bin .neq (.t 15) (ki 0))] none)
 (.fg [1, 6, 7, 8, 16] (.cond (.t 16)
 (.seq (.reg [mq 17 8, lq 4 (.mv (ki 0)), mq 5 17] none)
 .ret)
 .skip)))
 (.seq (.seq (.reg [mq 18 6, lq 19 (.bin .gtr (.t 18) (ki 0)), mq 20 19, ⟨(some 21), (some (20, true)), none, .mv (.t 1)⟩, ⟨(some 22), (some (20, true)), none, .len (.t 21)⟩, ⟨(some 23), (some (20, true)), none, .mv (.t 7)⟩, ⟨(some 24), (some (20, true)), none, .bin .neq (.t 22) (.t 23)⟩, lq 25 (.pick (.t 20) (.t 24) (.c (.p (.bool false))))] none)
 (.fg [7, 25] (.cond (.t 25)
 (.seq (.reg [lq 4 (.mv (ki 0)), lq 5 (.mv (ki 8))] none)
 .ret)
 .skip)))
 (.seq (.reg [mq 26 7, mq 4 26, lq 5 (.mv (ki 0))] none)
 .ret))))), [.t 4, .t 5]⟩
theorem c79 : chkF Try.prog 79 f79 = true := by kernel_rfl
def f80 : RFun := ⟨(.seq (.reg [lq 2 (.mv (ki 0))] none)
 (.seq (.seq (.reg [mq 5 0, lq 6 (.len (.t 5)), lq 7 (.mv (ki 0))] none)
 (.fg [5, 6, 7] (.block 0
 (.loop (.fg [5, 6, 7]
 (.seq (.reg [bq 8 .lss 7 6] none)
 (.seq (.cond (.t 8)
 .skip
 (.exit 0))
 (.fg [5, 6, 7] (.seq (.block 1
 (.seq (.reg [mq 9 7, xq 10 2 5 7, lT 11 2 10, lq 4 (.alloc [.p (.bool false), .nils]), mq 3 9, sq 2 4 11] none)
 (.seq (.reg [lT 12 2 4, lq 13 (.call .pu 55 [.t 12]), lq 14 (.bin .neq (.t 13) (ki 0))] none)
 (.fg [3, 5, 6, 7, 14] (.cond (.t 14)
 (.seq (.reg [mq 15 3, mq 2 15] none)
 .ret)
 .skip)))))
 (.fg [5, 6, 7] (.reg [lq 16 (.bin .add (.t 7) (ki 1)), mq 7 16] none)))))))))))
 (.seq (.reg [lq 2 (.mv (.c (.p (.int .i64 (-1)))))] none)
 .ret))), [.t 2]⟩
theorem c80 : chkF Try.prog 80 f80 = true := by kernel_rfl
def f81 : RFun := ⟨(.seq (.reg [lq 4 (.mv (.c (.nils)))] none)
 (.seq (.reg [lq 11 (.call .pu 25 [.c (.p (.int .i64 1))]), mq 12 1, lq 13 (.call .pu 31 [.t 11, .t 12]), lq 5 (.alloc [.nils]), sq 1 5 13] none)
 (.seq (.seq (.reg [mq 14 0, lq 15 (.call .keep 132 [.t 14])] none)
 (.fg [5, 15] (.block 0
 (.rng false [16, 17] (.t 15)
 (.seq (.reg [mq 6 16] none)
 (.reg [mq 7 17] none))
 (.fg [5, 6, 7] (.block 1
 (.seq (.reg [lF 19 1 5, mq 20 6, xq 21 2 19 20, lT 22 2 21, mq 23 7, mq 24 6, xq 25 2 23 24, lT 26 2 25, lq 27 (.call .pu 112 [.t 22, .t 26]), mq 18 27, lq 28 (.extract (.t 18) 0), lq 29 (.extract (.t 18) 1), lq 30 (.extract (.t 18) 2), ⟨(some 8), none, (some 0), .alloc [.p (.bool false), .nils]⟩, ⟨(some 9), none, (some 1), .alloc [.p (.bool false), .nils]⟩, sq 2 8 28, sq 2 9 29, mq 10 30] (some (2, [])))
 (.reg [lF 32 1 5, lT 33 2 8, mq 34 7, lq 35 (.call .pu 31 [.t 33, .t 34]), lq 36 (.call .pu 97 [.t 32, .t 35]), mq 31 36, lq 37 (.extract (.t 31) 0), lq 38 (.extract (.t 31) 1), sq 1 5 37] (some (0, []))))))))))
 (.seq (.reg [lF 39 1 5, mq 4 39] none)
 .ret)))), [.t 4]⟩
theorem c81 : chkF Try.prog 81 f81 = true := by kernel_rfl
def f95 : RFun := ⟨(.seq (.reg [lq 3 (.mv (.c (.p (.int .u64 0))))] none)
 (.seq (.reg [lF 5 1 1, lq 6 (.bin .add (.t 5) (.c (.p (.int .u64 11400714819323198485)))), sq 1 1 6] none)
 (.seq (.reg [lF 7 1 1, mq 4 7] none)
 (.seq (.reg [mq 8 4, mq 9 4, lq 10 (.bin .shr (.t 9) (.c (.p (.int .u64 30)))), bq 11 .xor 8 10, lq 12 (.bin .mul (.t 11) (.c (.p (.int .u64 13787848793156543929)))), mq 4 12] none)
 (.seq (.reg [mq 13 4, mq 14 4, lq 15 (.bin .shr (.t 14) (.c (.p (.int .u64 27)))), bq 16 .xor 13 15, lq 17 (.bin .mul (.t 16) (.c (.p (.int .u64 10723151780598845931)))), mq 4 17] none)
 (.seq (.reg [mq 18 4, mq 19 4, lq 20 (.bin .shr (.t 19) (.c (.p (.int .u64 31)))), bq 21 .xor 18 20, mq 22 0, bq 23 .rem 21 22, mq 3 23] none)
 .ret)))))), [.t 3]⟩
theorem c95 : chkF Try.prog 95 f95 = true := by kernel_rfl
def f97 : RFun := ⟨(.seq (.reg [lq 4 (.mv (.c (.nils))), lq 5 (.mv (ki 0))] none)
 (.seq (.reg [mq 6 0, mq 7 1, lq 8 (.call .full 136 [.t 6, .t 7, .c (.fn 137 [])]), lq 9 (.extract (.t 8) 0), lq 10 (.extract (.t 8) 1), mq 4 9, mq 5 10] none)
 .ret)), [.t 4, .t 5]⟩
theorem c97 : chkF Try.prog 97 f97 = true := by kernel_rfl
def f129 : RFun := ⟨(.seq (.reg [lq 2 (.mv (ki 0)), lq 3 (.mv (ki 0)), lq 4 (.mv (ki 0))] none)
 (.seq (.reg [mq 9 0, lq 10 (.call .pu 56 [.t 9]), mq 8 10, lq 11 (.extract (.t 8) 0), lq 12 (.extract (.t 8) 1), lq 13 (.extract (.t 8) 2), mq 5 11, mq 6 12, mq 7 13] none)
 (.seq (.seq (.reg [mq 14 7, lq 15 (.bin .neq (.t 14) (ki 0))] none)
 (.fg [5, 6, 7, 15] (.cond (.t 15)
 (.seq (.reg [mq 16 7, lq 2 (.mv (ki 0)), lq 3 (.mv (ki 0)), mq 4 16] none)
 .ret)
 .skip)))
 (.seq (.seq (.reg [mq 17 5, lq 18 (.bin .gtr (.t 17) (ki 64)), mq 19 18, ⟨(some 20), (some (19, false)), none, .mv (.t 6)⟩, ⟨(some 21), (some (19, false)), none, .bin .gtr (.t 20) (ki 64)⟩, lq 22 (.pick (.t 19) (.c (.p (.bool true))) (.t 21))] none)
 (.fg [5, 6, 22] (.cond (.t 22)
 (.seq (.reg [lq 2 (.mv (ki 0)), lq 3 (.mv (ki 0)), lq 4 (.mv (ki 60))] none)
 .ret)
 .skip)))
 (.seq (.reg [mq 23 5, mq 24 6, mq 2 23, mq 3 24, lq 4 (.mv (ki 0))] none)
 .ret))))), [.t 2, .t 3, .t 4]⟩
theorem c129 : chkF Try.prog 129 f129 = true := by kernel_rfl
def f130 : RFun := ⟨(.seq (.reg [lq 4 (.mv (.c (.nils))), lq 5 (.mv (.c (.nils))), lq 6 (.alloc [.p (.bool false), .nils]), lq 7 (.mv (.c (.p (.bool false))))] none)
 (.scope
 (.seq (.reg [mq 18 0, lq 19 (.call .keep 168 [.t 18]), mq 8 19] none)
 (.seq (.reg [lq 9 (.mv (.c (.nils)))] none)
 (.seq (.reg [lq 20 (.call .pu 25 [.c (.p (.int .i64 1))]), lq 10 (.alloc [.p (.bool false), .nils]), sq 2 10 20, lq 11 (.mv (.c (.p (.bool false))))] none)
 (.seq .skip
 (.seq (.seq (.reg [mq 21 1, lq 22 (.mv (ki 0))] none)
 (.fg [6, 8, 9, 10, 11, 21, 22] (.block 0
 (.loop (.fg [6, 8, 9, 10, 11, 21, 22]
 (.seq (.reg [bq 23 .lss 22 21] none)
 (.seq (.cond (.t 23)
 .skip
 (.exit 0))
 (.fg [6, 8, 9, 10, 11, 21, 22] (.seq (.block 1
 (.seq (.reg [mq 24 22, mq 12 24] none)
 (.seq (.reg [mq 25 9, lq 26 (.len (.t 25)), mq 13 26] none)
 (.seq (.reg [mq 27 13, mq 14 27] none)
 (.seq (.block 2
 (.loop (.fg [6, 8, 9, 10, 11, 12, 13, 14, 21, 22]
 (.seq (.seq (.reg [mq 28 14, mq 29 8, lq 30 (.len (.t 29)), bq 31 .lss 28 30, mq 32 31, ⟨(some 33), (some (32, true)), none, .mv (.t 8)⟩, ⟨(some 34), (some (32, true)), none, .mv (.t 14)⟩, ⟨(some 35), (some (32, true)), none, .indexA 1 (.t 33) (.t 34)⟩, ⟨(some 36), (some (32, true)), none, .load false 1 (.t 35)⟩, ⟨(some 37), (some (32, true)), none, .mv (.t 12)⟩, ⟨(some 38), (some (32, true)), none, .indexA 2 (.t 36) (.t 37)⟩, ⟨(some 39), (some (32, true)), none, .load true 2 (.t 38)⟩, ⟨(some 40), (some (32, true)), none, .call .pu 55 [.t 39]⟩, ⟨(some 41), (some (32, true)), none, .bin .eql (.t 40) (ki 0)⟩, lq 42 (.pick (.t 32) (.t 41) (.c (.p (.bool false))))] none)
 (.fg [6, 8, 9, 10, 11, 12, 13, 14, 21, 22, 42] (.cond (.t 42)
 .skip
 (.exit 2))))
 (.fg [6, 8, 9, 10, 11, 12, 13, 14, 21, 22] (.block 3
 (.reg [mq 43 14, lq 44 (.bin .add (.t 43) (ki 1)), mq 14 44] none)))))))
 (.fg [6, 8, 9, 10, 11, 12, 13, 14, 21, 22] (.seq (.seq (.reg [mq 45 14, mq 46 8, lq 47 (.len (.t 46)), bq 48 .eql 45 47] none)
 (.fg [6, 8, 9, 10, 11, 12, 13, 14, 21, 22, 48] (.cond (.t 48)
 (.exit 1)
 .skip)))
 (.seq (.seq (.reg [mq 49 14, mq 50 13, bq 51 .neq 49 50] none)
 (.fg [6, 8, 9, 10, 11, 12, 13, 14, 21, 22, 51] (.cond (.t 51)
 (.seq (.reg [mq 52 8, mq 53 14, mq 54 8, mq 55 13, mq 56 8, mq 57 13, xq 58 1 56 57, lF 59 1 58, mq 60 8, mq 61 14, xq 62 1 60 61, lF 63 1 62, xq 64 1 52 53, sq 1 64 59, xq 65 1 54 55, sq 1 65 63] (some (0, [])))
 (.reg [mq 66 11, lq 67 (.un .not (.t 66)), mq 11 67] none))
 .skip)))
 (.seq (.seq (.reg [mq 68 13, lq 69 (.bin .add (.t 68) (ki 1)), mq 15 69] none)
 (.fg [6, 8, 9, 10, 11, 12, 13, 15, 21, 22] (.block 4
 (.loop (.fg [6, 8, 9, 10, 11, 12, 13, 15, 21, 22]
 (.seq (.seq (.reg [mq 70 15, mq 71 8, lq 72 (.len (.t 71)), bq 73 .lss 70 72] none)
 (.fg [6, 8, 9, 10, 11, 12, 13, 15, 21, 22, 73] (.cond (.t 73)
 .skip
 (.exit 4))))
 (.seq (.block 5
 (.seq (.reg [mq 76 8, mq 77 15, xq 78 1 76 77, lF 79 1 78, lq 80 (.len (.t 79)), lq 81 (.bin .sub (.t 80) (ki 1)), mq 16 81] none)
 (.fg [6, 8, 9, 10, 11, 12, 13, 15, 16, 21, 22] (.block 6
 (.loop (.fg [6, 8, 9, 10, 11, 12, 13, 15, 16, 21, 22]
 (.seq (.seq (.reg [mq 82 16, mq 83 12, bq 84 .geq 82 83] none)
 (.fg [6, 8, 9, 10, 11, 12, 13, 15, 16, 21, 22, 84] (.cond (.t 84)
 .skip
 (.exit 6))))
 (.seq (.block 7
 (.seq (.reg [mq 87 8, mq 88 13, xq 89 1 87 88, lF 90 1 89, mq 91 12, xq 92 2 90 91, lT 93 2 92, mq 94 8, mq 95 15, xq 96 1 94 95, lF 97 1 96, mq 98 16, xq 99 2 97 98, lT 100 2 99, lq 101 (.call .pu 24 [.t 93, .t 100]), mq 102 8, mq 103 15, xq 104 1 102 103, lF 105 1 104, mq 106 12, xq 107 2 105 106, lT 108 2 107, mq 109 8, mq 110 13, xq 111 1 109 110, lF 112 1 111, mq 113 16, xq 114 2 112 113, lT 115 2 114, lq 116 (.call .pu 24 [.t 108, .t 115]), lq 117 (.call .pu 137 [.t 101, .t 116]), ⟨(some 17), none, (some 0), .alloc [.p (.bool false), .nils]⟩, sq 2 17 117] (some (1, [])))
 (.reg [mq 119 8, mq 120 15, xq 121 1 119 120, lF 122 1 121, mq 123 16, lT 124 2 17, lT 125 2 10, lq 126 (.call .pu 112 [.t 124, .t 125]), mq 118 126, lq 127 (.extract (.t 118) 0), lq 128 (.extract (.t 118) 1), lq 129 (.extract (.t 118) 2), xq 130 2 122 123, sq 2 130 127] (some (0, [])))))
 (.fg [6, 8, 9, 10, 11, 12, 13, 15, 16, 21, 22] (.reg [mq 85 16, lq 86 (.bin .sub (.t 85) (ki 1)), mq 16 86] none))))))))))
 (.fg [6, 8, 9, 10, 11, 12, 13, 15, 21, 22] (.reg [mq 74 15, lq 75 (.bin .add (.t 74) (ki 1)), mq 15 75] none)))))))))
 (.seq (.reg [mq 131 8, mq 132 13, xq 133 1 131 132, lF 134 1 133, mq 135 12, xq 136 2 134 135, lT 137 2 136, sq 2 10 137] none)
 (.reg [mq 138 9, mq 139 12, lq 140 (.bslice 1 [.t 139]), lq 141 (.append 1 8 (.t 138) (.t 140)), mq 9 141] none)))))))))))
 (.fg [6, 8, 9, 10, 11, 21, 22] (.reg [lq 142 (.bin .add (.t 22) (ki 1)), mq 22 142] none)))))))))))
 (.seq (.reg [mq 143 8, mq 144 9, lT 145 2 10, mq 146 11, mq 4 143, mq 5 144, sq 2 6 145, mq 7 146] (some (0, [])))
 .ret)))))))), [.t 4, .t 5, .cell 6 true 2, .t 7]⟩
theorem c130 : chkF Try.prog 130 f130 = true := by kernel_rfl
def f132 : RFun := ⟨(.seq (.reg [lq 1 (.box (.t 0)), lq 2 (.mv (.c (.any)))] none)
 (.seq (.reg [lq 3 (.mkfn 169 [.t 1]), mq 2 3] none)
 .ret)), [.t 2]⟩
theorem c132 : chkF Try.prog 132 f132 = true := by kernel_rfl
def f168 : RFun := ⟨(.seq (.reg [lq 2 (.mv (.c (.nils)))] none)
 (.seq (.reg [mq 6 0, lq 7 (.len (.t 6)), lq 8 (.mks true 1 24 (.sl []) (.t 7) (.t 7)), mq 3 8] none)
 (.seq (.seq (.reg [mq 9 0, lq 10 (.len (.t 9)), lq 11 (.mv (ki 0))] none)
 (.fg [3, 9, 10, 11] (.block 0
 (.loop (.fg [3, 9, 10, 11]
 (.seq (.reg [bq 12 .lss 11 10] none)
 (.seq (.cond (.t 12)
 .skip
 (.exit 0))
 (.fg [3, 9, 10, 11] (.seq (.block 1
 (.seq (.reg [mq 13 11, xq 14 1 9 11, lF 15 1 14, mq 4 13, mq 5 15] none)
 (.seq (.reg [mq 16 3, mq 17 4, mq 18 5, lq 19 (.len (.t 18)), lq 20 (.mks false 2 32 (.agg [.bool false, .sl []]) (.t 19) (.t 19)), xq 21 1 16 17, sq 1 21 20] none)
 (.reg [mq 22 3, mq 23 4, xq 24 1 22 23, lF 25 1 24, mq 26 5, lq 27 (.copy 2 (.t 25) (.t 26))] none))))
 (.fg [3, 9, 10, 11] (.reg [lq 28 (.bin .add (.t 11) (ki 1)), mq 11 28] none)))))))))))
 (.seq (.reg [mq 29 3, mq 2 29] none)
 .ret)))), [.t 2]⟩
theorem c168 : chkF Try.prog 168 f168 = true := by kernel_rfl
def f169 : RFun := ⟨(.iter (.seq (.reg [lF 5 1 1, lq 6 (.len (.t 5)), lq 7 (.mv (ki 0))] none)
 (.fg [0, 5, 6, 7] (.block 0
 (.loop (.fg [0, 5, 6, 7]
 (.seq (.reg [bq 8 .lss 7 6] none)
 (.seq (.cond (.t 8)
 .skip
 (.exit 0))
 (.fg [0, 5, 6, 7] (.seq (.block 1
 (.seq (.reg [xq 9 1 5 7, lF 10 1 9, mq 4 10] none)
 (.seq (.yld 11 [⟨(some 12), none, none, .mv (.t 4)⟩, ⟨(some 13), none, none, .call .pu 80 [.t 12]⟩, ⟨(some 14), none, none, .mv (.t 4)⟩] 15 [.t 13, .t 14] [⟨(some 16), none, none, .un .not (.t 15)⟩])
 (.fg [0, 5, 6, 7, 16] (.cond (.t 16)
 .ret
 .skip)))))
 (.fg [0, 5, 6, 7] (.reg [lq 17 (.bin .add (.t 7) (ki 1)), mq 7 17] none)))))))))))), []⟩
theorem c169 : chkF Try.prog 169 f169 = true := by kernel_rfl
end Go.Proofs.Ytdpdnplljonppaa.VKw

namespace Go.Proofs.Ytdpdnplljonppaa.VKw
open Go Vpi
set_option maxRecDepth 100000
def tab : List (Nat × RFun) := [(6, f6), (22, f22), (23, f23), (27, f27), (28, f28), (29, f29), (30, f30), (32, f32), (40, f40), (70, f70), (76, f76), (77, f77), (79, f79), (80, f80), (81, f81), (95, f95), (97, f97), (129, f129), (130, f130), (132, f132), (168, f168), (169, f169)]
def rp : RProg := fun f => match VRs.rp f with | some rf => some rf | none => (tab.find? fun x => x.1 == f).map (·.2)
theorem all_ok : (tab.all fun x => chkF Try.prog x.1 x.2) = true := by
  simp only [tab, List.all_cons, List.all_nil, c6, c22, c23, c27, c28, c29, c30, c32, c40, c70, c76, c77, c79, c80, c81, c95, c97, c129, c130, c132, c168, c169, Bool.and_self]
theorem base_le : TabLe VRs.rp rp := by
  intro f rf h
  simp only [rp, h]
theorem rp_ok : ∀ f rf, rp f = some rf → chkF Try.prog f rf = true := by
  intro f rf h
  unfold rp at h
  split at h
  · rename_i h1
    cases h
    exact VRs.rp_ok _ _ h1
  · rw [Option.map_eq_some_iff] at h
    obtain ⟨x, hx, rfl⟩ := h
    have h1 := List.find?_some hx
    have h2 := List.mem_of_find?_eq_some hx
    have h3 := List.all_eq_true.1 all_ok x h2
    have h4 : x.1 = f := by simpa using h1
    rw [← h4]; exact h3
theorem mixed : Try.prog.follows .mixedOrders = true := VRs.mixed
theorem sim (m : Nat) : CallSim Try.prog (runF rp m) := callSim mixed rp_ok m
end Go.Proofs.Ytdpdnplljonppaa.VKw

namespace Go.Proofs.Ytdpdnplljonppaa.VKw
open Go Vpi
open VBn hiding rp tab rp_ok all_ok mixed sim Big
open VRs (zr zm)
set_option maxRecDepth 100000
set_option linter.unusedSimpArgs false
set_option linter.unusedVariables false
theorem bn : TabLe VBn.rp rp := fun f rf h => base_le f rf (VRs.base_le f rf h)
theorem rq32 : rp 32 = some f32 := rfl
theorem rq40 : rp 40 = some f40 := rfl
theorem rq95 : rp 95 = some f95 := rfl
theorem rq70 : rp 70 = some f70 := rfl
theorem rq22 : rp 22 = some f22 := rfl
def nz (z : Int) : Int := IntKind.u64.wrap (z + 11400714819323198485)
def xs (x : Int) (k : Int) : Int := IntKind.u64.wrap (BitVec.ofInt IntKind.u64.bits x ^^^ BitVec.ofInt IntKind.u64.bits (x.fdiv (2 ^ min k.toNat IntKind.u64.bits))).toNat
def m1 (x : Int) : Int := IntKind.u64.wrap (xs x 30 * 13787848793156543929)
def m2 (x : Int) : Int := IntKind.u64.wrap (xs x 27 * 10723151780598845931)
def ot (z below : Int) : Int := (xs (m2 (m1 (nz z))) 31).tmod below
theorem fn95 {z below : Int} (hb : below ≠ 0) {b : Nat} {σ : Store} (hσ : σ[b]? = some (.kblk 1 [.p (.int .u64 z)])) {Q : CV → Store → Prop}
    (hq : Q (.p (.int .u64 (ot z below))) (σ.set b (.kblk 1 [.p (.int .u64 (nz z))]))) : Rn rp 95 [.p (.int .u64 below), .ptr b 0 0] σ Q := by
  rw [rn_of rq95]
  have hlt : b < σ.length := (List.getElem?_eq_some_iff.1 hσ).1
  simp only [f95, args0, SA, setCells, Int.reduceLE, Int.reduceLT, ↓reduceIte, reduceCtorEq, Nat.reduceLT, Nat.reduceEqDiff, Nat.reduceAdd, Nat.reduceMul, Nat.reduceLeDiff, Nat.reduceBEq, hσ, binV_rem hb, List.getElem?_set_self, hlt]
  exact hq
theorem fn40 {z : Int} {σ : Store} {Q : CV → Store → Prop} (hq : Q (.fn 95 [.ptr σ.length 0 0]) (σ ++ [.kblk 1 [.p (.int .u64 z)]])) : Rn rp 40 [.p (.int .u64 z)] σ Q := by
  rw [rn_of rq40]
  simp only [f40, args0, SA, setCells, Int.reduceLE, Int.reduceLT, ↓reduceIte, reduceCtorEq, Nat.reduceLT, Nat.reduceEqDiff, Nat.reduceAdd, Nat.reduceMul, Nat.reduceLeDiff, Nat.reduceBEq]
  exact hq
section
variable {rs : List RRes} {base : Nat} {d : Option Nat} {l : List LOp} {dr : Dr} {ks : List KI} {e : Env} {σ : Store} {Q : CV → Store → Prop} {z below : Int} {b : Nat}
theorem k40 : KC rp rs base .keep 40 [.p (.int .u64 z)] d l dr ks e σ Q = ExR rp rs base l dr ks (sto d (.fn 95 [.ptr σ.length 0 0]) e) (σ ++ [.kblk 1 [.p (.int .u64 z)]]) Q := kc_keep (fn40 ⟨rfl, rfl⟩)
theorem k95 (hσ : σ[b]? = some (.kblk 1 [.p (.int .u64 z)])) (hb : below ≠ 0) (hw : Wf σ) : KC rp rs base .full 95 [.p (.int .u64 below), .ptr b 0 0] d l dr ks e σ Q =
    ExR rp rs base l dr ks (sto d (.p (.int .u64 (ot z below))) e) (σ.set b (.kblk 1 [.p (.int .u64 (nz z))])) Q :=
  kc_full (fn95 hb hσ ⟨by rw [List.take_of_length_le (by simp)], by have := (hw.set (b := b) (x := .kblk 1 [.p (.int .u64 (nz z))]) rfl).all; rwa [List.length_set] at this, rfl⟩)
end
def zst (z : Int) : Nat → Int
  | 0 => z
  | n + 1 => nz (zst z n)
def drw (z below : Int) (n : Nat) : List PV := (List.range n).map fun i => .int .u64 (ot (zst z i) below)
theorem drw_succ {z below : Int} {n : Nat} : drw z below (n + 1) = drw z below n ++ [.int .u64 (ot (zst z n) below)] := by simp [drw, List.range_succ]
theorem drw_len {z below : Int} {n : Nat} : (drw z below n).length = n := by simp [drw]
theorem p32 {z n below : Int} (h0 : 0 ≤ n) (h1 : n ≤ 4096) (hb : below ≠ 0) : Pu rp 32 [.int .u64 z, .int .i64 n, .int .u64 below] (.tup [.p (.sl (drw z below n.toNat)), .p (.int .i64 0)]) := by
  refine pu_of rq32 ?_
  have e1 : ¬ n < 0 := by omega
  have e2 : ¬ n > 4096 := by omega
  have e3 : (below == 0) = false := by simpa using hb
  simp only [f32, args0, SA, setCells, Int.reduceLE, Int.reduceLT, ↓reduceIte, reduceCtorEq, Nat.reduceLT, Nat.reduceEqDiff, Nat.reduceAdd, Nat.reduceMul, Nat.reduceLeDiff, Nat.reduceBEq, e1, e2, e3, k40]
  refine loop_rule (β := Nat × Store × CV) (fun b => ([(2, .p (.int .u64 below)), (8, .fn 95 [.ptr 0 0 0]), (9, b.2.2), (22, .p (.int .i64 n)), (23, i64 b.1)], b.2.1))
    (fun b => b.1 ≤ n.toNat ∧ Wf b.2.1 ∧ b.2.1[0]? = some (.kblk 1 [.p (.int .u64 (zst z b.1))]) ∧ GL b.2.1 1 b.2.2 (drw z below b.1)) (fun b => n.toNat - b.1) (0, _, .nils) rfl rfl ⟨Nat.zero_le _, ?_, rfl, .inl ⟨rfl, rfl⟩⟩ ?_
  · exact Wf.nil.push rfl
  · rintro ⟨i, σ, c⟩ ⟨hi, hwf, hz, hgl⟩ ih
    simp only [] at hi hwf hz hgl ih ⊢
    have hlt0 := (List.getElem?_eq_some_iff.1 hz).1
    by_cases hin : (i : Int) < n
    · have hgl' := hgl.set hz (x := .kblk 1 [.p (.int .u64 (nz (zst z i)))])
      have hz' := get_self (x := .kblk 1 [.p (.int .u64 (nz (zst z i)))]) hlt0
      have hwf' := hwf.set (b := 0) (x := .kblk 1 [.p (.int .u64 (nz (zst z i)))]) rfl
      have hc : ((drw z below i).length + [PV.int .u64 (ot (zst z i) below)].length) * 8 ≤ 140737488355328 := by rw [drw_len]; simp; omega
      simp only [SA, setCells, Int.reduceLE, Int.reduceLT, ↓reduceIte, reduceCtorEq, Nat.reduceLT, Nat.reduceEqDiff, Nat.reduceAdd, Nat.reduceMul, Nat.reduceLeDiff, Nat.reduceBEq, hin, k95 hz hb hwf, r_app hgl' hc, ← drw_succ, drw_len, IntWalk.i64_in ((i : Int) + 1) (by omega)]
      refine ih (i + 1, nd (σ.set 0 (.kblk 1 [.p (.int .u64 (nz (zst z i)))])) c ++ [.prow 1 [.int .u64 (ot (zst z i) below)], .prow 1 (drw z below (i + 1))], .own (σ.length + 1) 0 (i + 1))
        _ ⟨by omega, nd_wf2 hwf', nd_get hgl' hz', GL.new2 drw_len.symm (List.length_set ..).symm⟩ (by simp; omega) ?_
      rfl
    · simp only [SA, setCells, Int.reduceLE, Int.reduceLT, ↓reduceIte, reduceCtorEq, Nat.reduceLT, Nat.reduceEqDiff, Nat.reduceAdd, Nat.reduceMul, Nat.reduceLeDiff, Nat.reduceBEq, hin]
      have : i = n.toNat := by omega
      subst this
      exact back_t2 hgl.back1 back1_p
theorem e32 {z n below : Int} (h : n < 0 ∨ 4096 < n ∨ below = 0) : Pu rp 32 [.int .u64 z, .int .i64 n, .int .u64 below] (.tup [.p (.sl []), .p (.int .i64 1)]) := by
  refine pu_of rq32 ?_
  by_cases h0 : n < 0
  · simp only [f32, args0, SA, setCells, Int.reduceLE, Int.reduceLT, ↓reduceIte, reduceCtorEq, Nat.reduceLT, Nat.reduceEqDiff, Nat.reduceAdd, Nat.reduceMul, Nat.reduceLeDiff, Nat.reduceBEq, h0]; rfl
  · by_cases h1 : n > 4096
    · simp only [f32, args0, SA, setCells, Int.reduceLE, Int.reduceLT, ↓reduceIte, reduceCtorEq, Nat.reduceLT, Nat.reduceEqDiff, Nat.reduceAdd, Nat.reduceMul, Nat.reduceLeDiff, Nat.reduceBEq, h0, h1]; rfl
    · have h2 : below = 0 := by omega
      subst h2
      simp only [f32, args0, SA, setCells, Int.reduceLE, Int.reduceLT, ↓reduceIte, reduceCtorEq, Nat.reduceLT, Nat.reduceEqDiff, Nat.reduceAdd, Nat.reduceMul, Nat.reduceLeDiff, Nat.reduceBEq, h0, h1]; rfl
/-! ### the rows -/
def otn (z : Int) (q : Nat) : Nat := (ot z q).toNat
theorem ot_nonneg {z below : Int} : 0 ≤ ot z below := by
  unfold ot xs
  refine Int.tmod_nonneg _ ?_
  rw [IntKind.wrap_u64]
  omega
theorem ot_eq {z : Int} {q : Nat} : ot z q = ((otn z q : Nat) : Int) := (Int.toNat_of_nonneg ot_nonneg).symm
theorem otn_lt {z : Int} {q : Nat} (h : 0 < q) : otn z q < q := by
  have h1 : ot z q < q := by unfold ot; exact Int.tmod_lt_of_pos _ (by omega)
  have := ot_eq (z := z) (q := q)
  omega
def fillD (z : Int) (q j0 : Nat) (r : List PV) : Nat → List PV
  | 0 => r
  | m + 1 => (fillD z q j0 r m).set (j0 + m) (mk false (otn (zst z m) q))
theorem fillD_len {z : Int} {q j0 m : Nat} {r : List PV} : (fillD z q j0 r m).length = r.length := by
  induction m with
  | zero => rfl
  | succ m ih => simp [fillD, ih]
theorem fillD_nums {z : Int} {q j0 m : Nat} {r : List PV} (h : Nums r) : Nums (fillD z q j0 r m) := by
  induction m with
  | zero => exact h
  | succ m ih => exact ih.set
def qrow (n k q i : Nat) (z : Int) : List PV :=
  if i < k then fillD z q k ((List.replicate n (mk false 0)).set i (mk false 1)) (n - k) else (List.replicate n (mk false 0)).set i (mk false q)
def qst (n k : Nat) (z : Int) : Nat → Int
  | 0 => z
  | i + 1 => if i < k then zst (qst n k z i) (n - k) else qst n k z i
def qrows (n k q : Nat) (z : Int) : Nat → List PV
  | 0 => []
  | i + 1 => qrows n k q z i ++ [.sl (qrow n k q i (qst n k z i))]
theorem qrows_len {n k q : Nat} {z : Int} {i : Nat} : (qrows n k q z i).length = i := by
  induction i with
  | zero => rfl
  | succ i ih => simp [qrows, ih]
theorem qrow_len {n k q i : Nat} {z : Int} : (qrow n k q i z).length = n := by
  unfold qrow; split <;> simp [fillD_len]
section
variable {rs : List RRes} {base : Nat} {d : Option Nat} {l : List LOp} {dr : Dr} {ks : List KI} {e : Env} {σ : Store} {Q : CV → Store → Prop} {z : Int} {q b : Nat}
theorem k95' (hσ : σ[b]? = some (.kblk 1 [.p (.int .u64 z)])) (hb : 0 < q) (hw : Wf σ) : KC rp rs base .full 95 [.p (.int .u64 q), .ptr b 0 0] d l dr ks e σ Q =
    ExR rp rs base l dr ks (sto d (.p (.int .u64 (otn z q : Nat))) e) (σ.set b (.kblk 1 [.p (.int .u64 (nz z))])) Q := by rw [k95 hσ (by omega) hw, ot_eq]
end
theorem zi_nonneg {x : Int} (h : 0 ≤ x) : zi x = mk false x.toNat := by
  obtain ⟨n, rfl⟩ := Int.eq_ofNat_of_zero_le h
  simp [zi, mk]
  omega
theorem p54' {v : Nat} (h : v ≤ 4294967296) : Pu rp 25 [.int .i64 (v : Int)] (.p (mk false v)) := by
  have := (VBn.p54 (x := (v : Int)) (by omega) (by omega)).lift bn
  rwa [zi_nonneg (by omega), Int.toNat_natCast] at this
theorem take_all {α : Type} {r : List α} {n : Nat} (h : r.length = n) : r.take n = r := List.take_of_length_le (by omega)
theorem p70 {q : Int} : Pu rp 70 [.int .u64 q] (.p (.bool (decide (2 ≤ q) && decide (q ≤ 4294967296)))) := by
  refine pu_of rq70 ?_
  by_cases h : q ≥ 2
  · by_cases h2 : q ≤ 4294967296
    · simp only [f70, args0, SA, setCells, Int.reduceLE, Int.reduceLT, ↓reduceIte, reduceCtorEq, Nat.reduceLT, Nat.reduceEqDiff, Nat.reduceAdd, Nat.reduceMul, Nat.reduceLeDiff, Nat.reduceBEq, h, h2]; simp [back_p, h2]
    · simp only [f70, args0, SA, setCells, Int.reduceLE, Int.reduceLT, ↓reduceIte, reduceCtorEq, Nat.reduceLT, Nat.reduceEqDiff, Nat.reduceAdd, Nat.reduceMul, Nat.reduceLeDiff, Nat.reduceBEq, h, h2]; simp [back_p, h2]
  · simp only [f70, args0, SA, setCells, Int.reduceLE, Int.reduceLT, ↓reduceIte, reduceCtorEq, Nat.reduceLT, Nat.reduceEqDiff, Nat.reduceAdd, Nat.reduceMul, Nat.reduceLeDiff, Nat.reduceBEq, h]; simp [back_p]
theorem p22 {n k q : Nat} {z : Int} (h1 : 1 ≤ n) (h2 : n ≤ 12) (h3 : k ≤ n) (h4 : 2 ≤ q) (h5 : q ≤ 4294967296) :
    Pu rp 22 [.int .i64 n, .int .i64 k, .int .u64 q, .int .u64 z] (.tup [.p (.sl (qrows n k q z n)), .p (.int .i64 0)]) := by
  refine pu_of rq22 ?_
  have e1 : ¬ (n : Int) < 1 := by omega
  have e2 : ¬ (n : Int) > 12 := by omega
  have e3 : ¬ (k : Int) < 0 := by omega
  have e4 : ¬ (k : Int) > n := by omega
  have e5 : (2 : Int) ≤ q := by omega
  have e6 : (q : Int) ≤ 4294967296 := by omega
  have q1 : Pu rp 25 [.int .i64 1] (.p (mk false 1)) := p54' (v := 1) (by decide)
  simp only [f22, args0, SA, setCells, Int.reduceLE, Int.reduceLT, ↓reduceIte, reduceCtorEq, Nat.reduceLT, Nat.reduceEqDiff, Nat.reduceAdd, Nat.reduceMul, Nat.reduceLeDiff, Nat.reduceBEq, e1, e2, e3, e4, e5, e6, kp1 p70, unV, Bool.not_true, k40]
  refine loop_rule (β := Nat × Store × CV) (fun b => ([(0, .p (.int .i64 n)), (1, .p (.int .i64 k)), (2, .p (.int .u64 q)), (10, .fn 95 [.ptr 0 0 0]), (11, b.2.2), (37, .p (.int .i64 n)), (38, i64 b.1)], b.2.1))
    (fun b => b.1 ≤ n ∧ Wf b.2.1 ∧ b.2.1[0]? = some (.kblk 1 [.p (.int .u64 (qst n k z b.1))]) ∧ GL b.2.1 1 b.2.2 (qrows n k q z b.1)) (fun b => n - b.1) (0, _, .nils) rfl rfl ⟨Nat.zero_le _, Wf.nil.push rfl, rfl, .nil⟩ ?_
  rintro ⟨i, σ, c⟩ ⟨hi, hwf, hz, hgl⟩ ih
  simp only [] at hi hwf hz hgl ih ⊢
  by_cases hin : (i : Int) < n
  · simp only [S1, S2, S3, S4, S5, r_idx, S6, S7, S8, setCells, Int.reduceLE, Int.reduceLT, ↓reduceIte, reduceCtorEq, Nat.reduceLT, Nat.reduceEqDiff, Nat.reduceAdd, Nat.reduceMul, Nat.reduceLeDiff, Nat.reduceBEq, hin]
    refine r_row (by omega) hwf hz hgl rfl rfl fun ρ b I0 => ?_
    have hb := I0.row
    have hil : i < n := by omega
    have hr0 : (List.replicate n (mk false 0))[i]? = some (mk false 0) := by simp [hil]
    have hc : ∀ r, ((qrows n k q z i).length + [PV.sl r].length) * 24 ≤ 140737488355328 := by intro r; rw [qrows_len]; simp; omega
    by_cases hik : (i : Int) < k
    · have I2 := I0.put (row' := (List.replicate n (mk false 0)).set i (mk false 1))
      have hik' : i < k := by omega
      have hik2 : ¬ (i : Int) ≥ k := by omega
      simp only [SA, setCells, Int.reduceLE, Int.reduceLT, ↓reduceIte, reduceCtorEq, Nat.reduceLT, Nat.reduceEqDiff, Nat.reduceAdd, Nat.reduceMul, Nat.reduceLeDiff, Nat.reduceBEq, kp1 q1, Int.natCast_nonneg, Int.toNat_natCast, hb, hil, hr0, hik2]
      refine loop_rule (β := Nat × Store) (fun b' => ([(0, .p (.int .i64 n)), (1, .p (.int .i64 k)), (2, .p (.int .u64 q)), (10, .fn 95 [.ptr 0 0 0]), (11, c), (13, .own b 0 n), (14, i64 ((k + b'.1 : Nat) : Int)), (37, .p (.int .i64 n)), (38, i64 i)], b'.2))
        (fun b' => b'.1 ≤ n - k ∧ Inv b'.2 (zst (qst n k z i) b'.1) c (qrows n k q z i) b (fillD (qst n k z i) q k ((List.replicate n (mk false 0)).set i (mk false 1)) b'.1)) (fun b' => n - k - b'.1) (0, _) rfl rfl ⟨Nat.zero_le _, I2⟩ ?_
      rintro ⟨m, ρ'⟩ ⟨hm, J⟩ ih2
      simp only [] at hm J ih2 ⊢
      by_cases hkm : ((k + m : Nat) : Int) < n
      · have hkl : k + m < n := by omega
        obtain ⟨s, v, hsv⟩ := (fillD_nums (z := qst n k z i) (q := q) (j0 := k) (m := m) (Nums.rep.set (j := i) (s := false) (v := 1)) : Nums (fillD (qst n k z i) q k ((List.replicate n (mk false 0)).set i (mk false 1)) m)) (k + m) (by rw [fillD_len]; simpa using hkl)
        have J1 := J.seed (z' := nz (zst (qst n k z i) m))
        have hlt := otn_lt (z := zst (qst n k z i) m) (q := q) (by omega)
        have hw : IntKind.i64.wrap ((otn (zst (qst n k z i) m) q : Nat) : Int) = ((otn (zst (qst n k z i) m) q : Nat) : Int) := IntWalk.i64_in _ (by omega)
        simp only [SA, setCells, Int.reduceLE, Int.reduceLT, ↓reduceIte, reduceCtorEq, Nat.reduceLT, Nat.reduceEqDiff, Nat.reduceAdd, Nat.reduceMul, Nat.reduceLeDiff, Nat.reduceBEq, hkm, k95' (q := q) J.z (by omega) J.wf, hw, kp1 (p54' (v := otn (zst (qst n k z i) m) q) (by omega)), Int.natCast_nonneg, Int.toNat_natCast, J1.row, hkl, hsv, IntWalk.i64_in (((k + m : Nat) : Int) + 1) (by omega)]
        refine ih2 (m + 1, _) _ ⟨by omega, J1.put⟩ (by simp; omega) ?_
        rfl
      · have hmm : m = n - k := by omega
        have hrow : fillD (qst n k z i) q k ((List.replicate n (mk false 0)).set i (mk false 1)) m = qrow n k q i (qst n k z i) := by unfold qrow; rw [if_pos hik', hmm]
        have hq1 : zst (qst n k z i) m = qst n k z (i + 1) := by simp only [qst]; rw [if_pos hik', hmm]
        rw [hrow, hq1] at J
        have hl := qrow_len (n := n) (k := k) (q := q) (i := i) (z := qst n k z i)
        simp only [SA, setCells, Int.reduceLE, Int.reduceLT, ↓reduceIte, reduceCtorEq, Nat.reduceLT, Nat.reduceEqDiff, Nat.reduceAdd, Nat.reduceMul, Nat.reduceLeDiff, Nat.reduceBEq, hkm, J.row, take_all hl, hl, r_app J.done_gl (hc _), qrows_len, IntWalk.i64_in ((i : Int) + 1) (by omega)]
        refine ih (i + 1, nd (ρ'.set b .dead) c ++ [.prow 1 [.sl (qrow n k q i (qst n k z i))], .prow 1 (qrows n k q z (i + 1))], .own (ρ'.length + 1) 0 (i + 1)) _ ⟨by omega, J.done_wf, J.done_z, GL.new2 qrows_len.symm (List.length_set ..).symm⟩ (by simp; omega) ?_
        rfl
    · have hik' : ¬ i < k := by omega
      have hik2 : (i : Int) ≥ k := by omega
      have I1 := I0.put (row' := (List.replicate n (mk false 0)).set i (mk false q))
      have hrow : (List.replicate n (mk false 0)).set i (mk false q) = qrow n k q i (qst n k z i) := by unfold qrow; rw [if_neg hik']
      have hq1 : qst n k z i = qst n k z (i + 1) := by simp only [qst]; rw [if_neg hik']
      have hl := qrow_len (n := n) (k := k) (q := q) (i := i) (z := qst n k z i)
      have hw : IntKind.i64.wrap (q : Int) = q := IntWalk.i64_in _ (by omega)
      simp only [hrow] at I1
      simp only [SA, setCells, Int.reduceLE, Int.reduceLT, ↓reduceIte, reduceCtorEq, Nat.reduceLT, Nat.reduceEqDiff, Nat.reduceAdd, Nat.reduceMul, Nat.reduceLeDiff, Nat.reduceBEq, hw, kp1 (p54' h5), Int.natCast_nonneg, Int.toNat_natCast, hb, hil, hr0, hik2, hrow, I1.row, take_all hl, hl, r_app I1.done_gl (hc _), qrows_len, IntWalk.i64_in ((i : Int) + 1) (by omega)]
      refine ih (i + 1, nd ((ρ.set b (.prow 2 (qrow n k q i (qst n k z i)))).set b .dead) c ++ [.prow 1 [.sl (qrow n k q i (qst n k z i))], .prow 1 (qrows n k q z (i + 1))], .own (ρ.length + 1) 0 (i + 1)) _ ⟨by omega, I1.done_wf, by rw [← hq1]; exact I1.done_z, GL.new2 qrows_len.symm (by simp)⟩ (by simp; omega) ?_
      rfl
  · simp only [SA, setCells, Int.reduceLE, Int.reduceLT, ↓reduceIte, reduceCtorEq, Nat.reduceLT, Nat.reduceEqDiff, Nat.reduceAdd, Nat.reduceMul, Nat.reduceLeDiff, Nat.reduceBEq, hin]
    have : i = n := by omega
    subst this
    exact back_t2 hgl.back1 back1_p
end Go.Proofs.Ytdpdnplljonppaa.VKw

namespace Go.Proofs.Ytdpdnplljonppaa.VKw
open Go Vpi
open VBn hiding rp tab rp_ok all_ok mixed sim Big
open VRs (zr zm zr_len zm_len zr_get zm_get)
set_option maxRecDepth 100000
set_option linter.unusedSimpArgs false
set_option linter.unusedVariables false
theorem rq29 : rp 29 = some f29 := rfl
theorem rq23 : rp 23 = some f23 := rfl
theorem rq28 : rp 28 = some f28 := rfl
theorem q29 {p : PV} {x : Int} (h : Nu p x) : Pu rp 29 [p, p] (.p (.bool true)) := by
  obtain ⟨s, l, rfl, hl, hn, rfl⟩ := h
  rw [CapN_eq] at hn
  refine pu_of rq29 ?_
  have e2 : ((l.length : Int) != (l.length : Int)) = false := by simp
  simp only [f29, args0, SA, setCells, Int.reduceLE, Int.reduceLT, ↓reduceIte, reduceCtorEq, Nat.reduceLT, Nat.reduceEqDiff, Nat.reduceAdd, Nat.reduceMul, Nat.reduceLeDiff, Nat.reduceBEq, lm_len]
  simp only [bne_self_eq_false, beq_self_eq_true, Bool.not_true, SA, setCells, Int.reduceLE, Int.reduceLT, ↓reduceIte, reduceCtorEq, Nat.reduceLT, Nat.reduceEqDiff, Nat.reduceAdd, Nat.reduceMul, Nat.reduceLeDiff, Nat.reduceBEq, e2]
  refine loop_rule (β := Nat) (fun b => ([(2, .ptr 0 0 0), (3, .ptr 1 0 0), (5, i64 b)], [.kblk 2 [.p (.bool s), .p (.sl (lm l))], .kblk 2 [.p (.bool s), .p (.sl (lm l))]])) (fun b => b ≤ l.length) (fun b => l.length - b) 0 rfl rfl (Nat.zero_le _) ?_
  intro i hi ih
  by_cases hin : (i : Int) < l.length
  · have hx := lm_get (l := l) (i := i) (by omega)
    simp only [SA, setCells, Int.reduceLE, Int.reduceLT, ↓reduceIte, reduceCtorEq, Nat.reduceLT, Nat.reduceEqDiff, Nat.reduceAdd, Nat.reduceMul, Nat.reduceLeDiff, Nat.reduceBEq, lm_len, hin, hx, bne_self_eq_false, Int.natCast_nonneg, Int.toNat_natCast, IntWalk.i64_in ((i : Int) + 1) (by omega)]
    refine ih (i + 1) _ (by omega) (by omega) ?_
    rfl
  · simp only [SA, setCells, Int.reduceLE, Int.reduceLT, ↓reduceIte, reduceCtorEq, Nat.reduceLT, Nat.reduceEqDiff, Nat.reduceAdd, Nat.reduceMul, Nat.reduceLeDiff, Nat.reduceBEq, lm_len, hin]
    rfl
theorem q23 {n : Nat} (h1 : 1 ≤ n) (h2 : n ≤ 12) : Pu rp 23 [.int .i64 n] (.tup [.p (.sl (zm (VRs.un n))), .p (.int .i64 0)]) := by
  refine pu_of rq23 ?_
  have e1 : ¬ (n : Int) < 0 := by omega
  have e2 : ¬ (n : Int) > 64 := by omega
  have q1 : Pu rp 25 [.int .i64 1] (.p (mk false 1)) := p54' (v := 1) (by decide)
  simp only [f23, args0, SA, setCells, Int.reduceLE, Int.reduceLT, ↓reduceIte, reduceCtorEq, Nat.reduceLT, Nat.reduceEqDiff, Nat.reduceAdd, Nat.reduceMul, Nat.reduceLeDiff, Nat.reduceBEq, e1, e2]
  refine loop_rule (β := Nat × Store × CV) (fun b => ([(0, .p (.int .i64 n)), (4, b.2.2), (13, .p (.int .i64 n)), (14, i64 b.1)], b.2.1))
    (fun b => b.1 ≤ n ∧ Wf b.2.1 ∧ GL b.2.1 1 b.2.2 (zm ((VRs.un n).take b.1))) (fun b => n - b.1) ((0, [], .nils) : Nat × Store × CV) rfl rfl ⟨Nat.zero_le _, Wf.nil, .nil⟩ ?_
  rintro ⟨i, σ, c⟩ ⟨hi, hwf, hgl⟩ ih
  simp only [] at hi hwf hgl ih ⊢
  by_cases hin : (i : Int) < n
  · simp only [S1, S2, S3, S4, S5, r_idx, S6, S7, S8, setCells, Int.reduceLE, Int.reduceLT, ↓reduceIte, reduceCtorEq, Nat.reduceLT, Nat.reduceEqDiff, Nat.reduceAdd, Nat.reduceMul, Nat.reduceLeDiff, Nat.reduceBEq, hin]
    refine r_row' (by omega) hwf hgl rfl rfl fun ρ b I0 => ?_
    have hb := I0.row
    have hil : i < n := by omega
    have hr0 : (List.replicate n (mk false 0))[i]? = some (mk false 0) := by simp [hil]
    have hrow : (List.replicate n (mk false 0)).set i (mk false 1) = zr (VRs.urow n i) := by
      rw [mk_zero]; exact VRs.urow_set hil
    have hl : (zr (VRs.urow n i)).length = n := by rw [zr_len, VRs.urow_len]
    have I1 := I0.put (row' := zr (VRs.urow n i))
    have htl : (zm ((VRs.un n).take i)).length = i := by rw [zm_len, List.length_take, VRs.un_len]; omega
    have hs1 : zm ((VRs.un n).take i) ++ [PV.sl (zr (VRs.urow n i))] = zm ((VRs.un n).take (i + 1)) := by rw [VRs.zm_suc (VRs.un_get hil)]
    have hc : ∀ r, ((zm ((VRs.un n).take i)).length + [PV.sl r].length) * 24 ≤ 140737488355328 := by intro r; rw [htl]; simp; omega
    have w1 : IntKind.i64.wrap ((i : Int) + 1) = ((i + 1 : Nat) : Int) := by rw [IntWalk.i64_in _ (by omega)]; omega
    simp only [SA, setCells, Int.reduceLE, Int.reduceLT, ↓reduceIte, reduceCtorEq, Nat.reduceLT, Nat.reduceEqDiff, Nat.reduceAdd, Nat.reduceMul, Nat.reduceLeDiff, Nat.reduceBEq, kp1 q1, Int.natCast_nonneg, Int.toNat_natCast, hb, hil, hr0, hrow, I1.row, take_all hl, hl, r_app I1.done_gl (hc _), hs1, htl, w1]
    refine ih (i + 1, nd ((ρ.set b (.prow 2 (zr (VRs.urow n i)))).set b .dead) c ++ [.prow 1 [.sl (zr (VRs.urow n i))], .prow 1 (zm ((VRs.un n).take (i + 1)))], .own (ρ.length + 1) 0 (i + 1)) _ ⟨by simp only []; omega, I1.done_wf, GL.new2 (by rw [zm_len, List.length_take, VRs.un_len]; omega) (by simp)⟩ (by simp only []; omega) ?_
    rfl
  · simp only [SA, setCells, Int.reduceLE, Int.reduceLT, ↓reduceIte, reduceCtorEq, Nat.reduceLT, Nat.reduceEqDiff, Nat.reduceAdd, Nat.reduceMul, Nat.reduceLeDiff, Nat.reduceBEq, hin]
    rw [List.take_of_length_le (by rw [VRs.un_len]; omega)] at hgl
    exact back_t2 hgl.back1 back1_p
/-! ### powers -/
theorem and1 : ∀ m : Nat, m ≤ 12 → IntKind.i64.wrap (BitVec.ofInt IntKind.i64.bits (m : Int) &&& BitVec.ofInt IntKind.i64.bits 1).toNat = ((m % 2 : Nat) : Int) := by decide
theorem shr1 : ∀ m : Nat, m ≤ 12 → (m : Int).fdiv (2 ^ min (Int.toNat 1) IntKind.i64.bits) = ((m / 2 : Nat) : Int) := by decide
def cy (x : Int) : List CV := [.p (.bool (decide (x < 0) && decide (x.natAbs ≠ 0))), .p (.sl (lm (dgl x.natAbs)))]
theorem two_pow_cap {x e : Nat} (he : e ≤ 1000) (h : x ≤ 2 ^ e) : x < LB ^ CapN := by
  have c1 : 3200000000000 ≤ 32 * CapN := by rw [CapN_eq]; omega
  have h4 : 2 ^ e < 2 ^ (32 * CapN) := Nat.pow_lt_pow_right (by decide) (by omega)
  rw [LB_pow2]
  exact Nat.lt_of_le_of_lt h h4
theorem bl33 {q : Nat} (h0 : 0 < q) (hq : q ≤ 4294967296) : 1 ≤ bl q ∧ bl q ≤ 33 := by
  obtain ⟨h1, h2, h3⟩ := bl_spec (x := q) (by omega)
  refine ⟨h3, ?_⟩
  rcases Nat.lt_or_ge 33 (bl q) with h | h
  · have : 2 ^ 33 ≤ 2 ^ (bl q - 1) := Nat.pow_le_pow_right (by decide) (by omega)
    have e : (2 : Nat) ^ 33 = 8589934592 := rfl
    omega
  · exact h
theorem quo12 : ∀ b : Nat, b ≤ 33 → 1 ≤ b → 12 ≤ IntKind.i64.wrap ((65536 : Int).tdiv (b : Int)) := by decide
theorem q_pow {q n : Nat} (hq : q ≤ 4294967296) : q ^ n ≤ 2 ^ (32 * n) := by
  have h1 : q ^ n ≤ (2 ^ 32) ^ n := Nat.pow_le_pow_left hq n
  rwa [← Nat.pow_mul] at h1
theorem q_cap {q n x : Nat} (hq : q ≤ 4294967296) (hn : n ≤ 24) (h : x ≤ q ^ n) : x < LB ^ CapN := two_pow_cap (by omega) (Nat.le_trans h (q_pow hq))
theorem q28 {q n : Nat} (h0 : 0 < q) (hq : q ≤ 4294967296) (hn : n ≤ 12) : Pu rp 28 [zi (q : Int), .int .i64 n] (.tup [.p (zi ((q ^ n : Nat) : Int)), .p (.int .i64 0)]) := by
  have hqz : Sz (q : Int) := q_cap (n := 1) hq (by decide) (by rw [Nat.pow_one]; exact Nat.le_refl _)
  have k78 := (VBn.p121 (Nu.zi hqz)).lift bn
  rw [Int.natAbs_natCast] at k78
  have k25 := (VBn.p54 (x := 1) (by decide) (by decide)).lift bn
  have k57 := (VRs.p94 (Nu.zi hqz)).lift base_le
  obtain ⟨hb1, hb2⟩ := bl33 h0 hq
  have hbq := quo12 _ hb2 hb1
  have t1 : ¬ (n : Int) < 0 := by omega
  have t2 : (bl q : Int) > 0 := by omega
  have t3 : ¬ (n : Int) > IntKind.i64.wrap ((65536 : Int).tdiv (bl q : Int)) := by omega
  have t4 : ((bl q : Int) == 0) = false := by rw [beq_eq_false_iff_ne]; omega
  have bq := binV_quo (k := .i64) (a := 65536) (b := (bl q : Int)) (by omega)
  rw [zi_raw (x := (q : Int))] at k78 k57
  refine pu_of rq28 ?_
  rw [zi_raw (x := (q : Int))]
  rcases Nat.eq_zero_or_pos n with hn0 | hn0
  · subst hn0
    have e0 : (((0 : Nat) : Int) == 0) = true := rfl
    have e1 : ¬ ((0 : Nat) : Int) > IntKind.i64.wrap ((65536 : Int).tdiv (bl q : Int)) := t3
    rw [zi_raw (x := 1)] at k25
    simp only [f28, args0, SA, setCells, Int.reduceLE, Int.reduceLT, ↓reduceIte, reduceCtorEq, Nat.reduceLT, Nat.reduceEqDiff, Nat.reduceAdd, Nat.reduceMul, Nat.reduceLeDiff, Nat.reduceBEq, kp1 k78, t1, t2, bq, e1, e0, kp1 k25]
    rfl
  · have e0 : ((n : Int) == 0) = false := by rw [beq_eq_false_iff_ne]; omega
    rw [zi_raw (x := 1)] at k25
    simp only [f28, args0, SA, setCells, Int.reduceLE, Int.reduceLT, ↓reduceIte, reduceCtorEq, Nat.reduceLT, Nat.reduceEqDiff, Nat.reduceAdd, Nat.reduceMul, Nat.reduceLeDiff, Nat.reduceBEq, kp1 k78, t1, t2, bq, t3, e0, t4, kp1 k25, kp1 k57]
    refine loop_rule (β := Nat × Nat × Nat × Nat × Store) (fun t => ([(1, i64 t.1), (4, .ptr 1 0 0), (7, .ptr 2 0 0), (8, .ptr t.2.2.2.1 0 0)], t.2.2.2.2))
      (fun t => 0 < t.1 ∧ t.1 ≤ 12 ∧ 0 < t.2.1 ∧ 0 < t.2.2.1 ∧ t.2.1 * t.2.2.1 ^ t.1 = q ^ n ∧ 2 < t.2.2.2.1 ∧ t.2.2.2.2[1]? = some (.kblk 2 [.p (.bool false), .nils]) ∧ t.2.2.2.2[2]? = some (.kblk 2 (cy t.2.1)) ∧ t.2.2.2.2[t.2.2.2.1]? = some (.kblk 2 (cy t.2.2.1)))
      (fun t => t.1) ((n, 1, q, 3, _) : Nat × Nat × Nat × Nat × Store) rfl rfl ⟨hn0, hn, Nat.zero_lt_one, h0, Nat.one_mul _, Nat.lt_succ_self 2, rfl, rfl, rfl⟩ ?_
    rintro ⟨m, P, X, a, τ⟩ ⟨h1, h2, h3, h4, h5, h6, g1, g2, g3⟩ ih
    simp only [] at h1 h2 h3 h4 h5 h6 g1 g2 g3 ih ⊢
    have hX1 : X ≤ X ^ m := by
      have := Nat.pow_le_pow_right h4 (show 1 ≤ m by omega)
      rwa [Nat.pow_one] at this
    have hXm : X ^ m ≤ q ^ n := by
      rw [← h5]
      have := Nat.mul_le_mul_right (X ^ m) (show 1 ≤ P by omega)
      rwa [Nat.one_mul] at this
    have hPX : P * X ≤ q ^ n := by rw [← h5]; exact Nat.mul_le_mul_left _ hX1
    have hPm : P ≤ q ^ n := by
      have := Nat.mul_le_mul_left P (show 1 ≤ X by omega)
      rw [Nat.mul_one] at this
      exact Nat.le_trans this (Nat.le_trans (Nat.mul_le_mul_left _ hX1) (by rw [h5]; exact Nat.le_refl _))
    have hPz : Sz (P : Int) := q_cap hq (by omega) hPm
    have hXz : Sz (X : Int) := q_cap hq (by omega) (Nat.le_trans hX1 hXm)
    have kPX := (VBn.p63' (Nu.zi hPz) (Nu.zi hXz)).lift bn
    have kXX := (VBn.p63' (Nu.zi hXz) (Nu.zi hXz)).lift bn
    rw [← Int.natCast_mul, zi_raw (x := (P : Int)), zi_raw (x := (X : Int)), zi_raw (x := ((P * X : Nat) : Int))] at kPX
    rw [← Int.natCast_mul, zi_raw (x := (X : Int)), zi_raw (x := ((X * X : Nat) : Int))] at kXX
    have hand := and1 m h2
    have hshr := shr1 m h2
    unfold cy at g2 g3
    have hl2 := (List.getElem?_eq_some_iff.1 g2).1
    rcases Nat.mod_two_eq_zero_or_one m with hm | hm
    · rw [hm] at hand
      have e1 : (((0 : Nat) : Int) == 1) = false := rfl
      have e2 : (((m / 2 : Nat) : Int) == 0) = false := by rw [beq_eq_false_iff_ne]; omega
      simp only [SA, setCells, Int.reduceLE, Int.reduceLT, ↓reduceIte, reduceCtorEq, Nat.reduceLT, Nat.reduceEqDiff, Nat.reduceAdd, Nat.reduceMul, Nat.reduceLeDiff, Nat.reduceBEq, hand, hshr, e1, e2, g2, g3, kp2 kXX]
      refine ih (m / 2, P, X * X, τ.length, τ ++ [.kblk 2 (cy ((X * X : Nat) : Int))]) _ ⟨by simp only []; omega, by simp only []; omega, h3, Nat.mul_pos h4 h4, ?_, ?_, ?_, ?_, ?_⟩ (by simp only []; omega) ?_
      · simp only []
        rw [← h5, ← Nat.pow_two, ← Nat.pow_mul, show 2 * (m / 2) = m by omega]
      · simp only []; omega
      · simp only []; rw [get_left (List.getElem?_eq_some_iff.1 g1).1]; exact g1
      · simp only []; rw [get_left (List.getElem?_eq_some_iff.1 g2).1]; exact g2
      · simp only []; rw [get_app0]; rfl
      · rfl
    · rw [hm] at hand
      have e1 : (((1 : Nat) : Int) == 1) = true := rfl
      have g1' : ∀ x, (τ.set 2 x)[1]? = some (.kblk 2 [.p (.bool false), .nils]) := fun x => by rw [get_ne (by omega)]; exact g1
      have gA : ∀ x b, (τ.set 2 x ++ [b])[τ.length]? = some b := fun x b => by rw [List.getElem?_append_right (by rw [List.length_set]; exact Nat.le_refl _), List.length_set, Nat.sub_self]; rfl
      have gS : ∀ x b y, (τ.set 2 x ++ [b]).set τ.length y = τ.set 2 x ++ [y] := fun x b y => by rw [List.set_append_right _ _ (by rw [List.length_set]; exact Nat.le_refl _), List.length_set, Nat.sub_self]; rfl
      have g3' : ∀ x, (τ.set 2 x)[a]? = some (.kblk 2 [.p (.bool (decide ((X : Int) < 0) && decide ((X : Int).natAbs ≠ 0))), .p (.sl (lm (dgl (X : Int).natAbs)))]) := fun x => by rw [get_ne (by omega)]; exact g3
      by_cases hm1 : m = 1
      · subst hm1
        have e2 : (((1 / 2 : Nat) : Int) == 0) = true := rfl
        have g2' : ∀ x, (τ.set 2 x)[2]? = some x := fun x => get_self hl2
        have g1s : ∀ x y, ((τ.set 2 x).set 1 y)[1]? = some y := fun x y => get_self (by rw [List.length_set]; omega)
        rw [Nat.pow_one] at h5
        simp only [SA, setCells, Int.reduceLE, Int.reduceLT, ↓reduceIte, reduceCtorEq, Nat.reduceLT, Nat.reduceEqDiff, Nat.reduceAdd, Nat.reduceMul, Nat.reduceLeDiff, Nat.reduceBEq, hand, hshr, e1, e2, g1', g1s, g2', g2, g3, g3', kp2 kPX, hl2]
        rw [← h5]
        rfl
      · have e2 : (((m / 2 : Nat) : Int) == 0) = false := by rw [beq_eq_false_iff_ne]; omega
        simp only [SA, setCells, Int.reduceLE, Int.reduceLT, ↓reduceIte, reduceCtorEq, Nat.reduceLT, Nat.reduceEqDiff, Nat.reduceAdd, Nat.reduceMul, Nat.reduceLeDiff, Nat.reduceBEq, hand, hshr, e1, e2, g2, g3, g3', gA, gS, kp2 kPX, kp2 kXX, hl2]
        refine ih (m / 2, P * X, X * X, τ.length, τ.set 2 (.kblk 2 (cy ((P * X : Nat) : Int))) ++ [.kblk 2 (cy ((X * X : Nat) : Int))]) _ ⟨by simp only []; omega, by simp only []; omega, Nat.mul_pos h3 h4, Nat.mul_pos h4 h4, ?_, ?_, ?_, ?_, ?_⟩ (by simp only []; omega) ?_
        · simp only []
          have h7 : m = 2 * (m / 2) + 1 := by omega
          rw [← h5, ← Nat.pow_two, ← Nat.pow_mul]
          have h8 : X ^ m = X ^ (2 * (m / 2)) * X := by
            conv => lhs; rw [h7, Nat.pow_succ]
          rw [h8, Nat.mul_assoc, Nat.mul_comm X]
        · simp only []; omega
        · simp only []; rw [get_left (by rw [List.length_set]; exact (List.getElem?_eq_some_iff.1 g1).1)]; exact g1' _
        · simp only []; rw [get_left (by rw [List.length_set]; exact hl2), get_self hl2]
        · exact gA _ _
        · rfl
end Go.Proofs.Ytdpdnplljonppaa.VKw

namespace Go.Proofs.Ytdpdnplljonppaa.VKw
open Go Vpi
open VBn hiding rp tab rp_ok all_ok mixed sim Big
open VRs (zr zm zr_len zm_len zr_get zm_get NL ML SzL kc_full' back_ge)
open Hn (en Wd SpE Bd Frm vec vm Sp Ech)
set_option maxRecDepth 100000
set_option linter.unusedSimpArgs false
set_option linter.unusedVariables false
theorem rq97 : rp 97 = some f97 := rfl
theorem rq81 : rp 81 = some f81 := rfl
theorem rq132 : rp 132 = some f132 := rfl
theorem rq80 : rp 80 = some f80 := rfl
theorem rq79 : rp 79 = some f79 := rfl
theorem rq30 : rp 30 = some f30 := rfl
theorem rq104 : rp 104 = some VRs.f104 := rfl
theorem q97 {a b : List PV} {xs ys : List Int} (ha : NL a xs) (hb : NL b ys) (hl : a.length = b.length) (hm : a.length ≤ 2000000) (h0 : 0 < a.length) :
    Pu rp 97 [.sl a, .sl b] (.tup [.p (.sl (zr (List.zipWith (· - ·) xs ys))), .p (.int .i64 0)]) := by
  refine pu_of rq97 ?_
  simp only [f97, args0, SA, setCells, Int.reduceLE, Int.reduceLT, ↓reduceIte, reduceCtorEq, Nat.reduceLT, Nat.reduceEqDiff, Nat.reduceAdd, Nat.reduceMul, Nat.reduceLeDiff, Nat.reduceBEq]
  refine kc_full' ((VRs.n156 (g := 137) (F := (· - ·)) (fun p q x y h1 h2 => (VBn.p157 h1 h2).lift VRs.base_le) ha hb hl hm h0 fun ρ k hk => ?_).lift base_le)
  have hn : a.length = (zr (List.zipWith (· - ·) xs ys)).length := by rw [zr_len, List.length_zipWith, ← ha.1, ← hb.1, hl, Nat.min_self]
  refine ⟨rfl, .tup [.p (.sl (zr (List.zipWith (· - ·) xs ys))), .p (.int .i64 0)], ?_, ?_⟩
  · have := back_ge (base := 0) hk hn (Nat.zero_le _)
    exact back_t2 this back1_p
  · simp only [SA, setCells, Int.reduceLE, Int.reduceLT, ↓reduceIte, reduceCtorEq, Nat.reduceLT, Nat.reduceEqDiff, Nat.reduceAdd, Nat.reduceMul, Nat.reduceLeDiff, Nat.reduceBEq]
    rfl
theorem q80 {b : List PV} {xs : List Int} (h : NL b xs) (hm : b.length ≤ 2000000) {p : Nat} (hp : p ≤ b.length) (h0 : ∀ j, j < p → xs.getD j 0 = 0) (hne : p < b.length → xs.getD p 0 ≠ 0) :
    Pu rp 80 [.sl b] (.p (.int .i64 (if p < b.length then (p : Int) else -1))) := by
  refine pu_of rq80 ?_
  simp only [f80, args0, SA, setCells, Int.reduceLE, Int.reduceLT, ↓reduceIte, reduceCtorEq, Nat.reduceLT, Nat.reduceEqDiff, Nat.reduceAdd, Nat.reduceMul, Nat.reduceLeDiff, Nat.reduceBEq]
  refine loop_rule (β := Nat × Store) (fun t => ([(5, .p (.sl b)), (6, i64 b.length), (7, i64 t.1)], t.2)) (fun t => t.1 ≤ p) (fun t => b.length - t.1) ((0, []) : Nat × Store) rfl rfl (Nat.zero_le _) ?_
  rintro ⟨i, ρ⟩ hi ih
  simp only [] at hi ih ⊢
  by_cases hin : (i : Int) < b.length
  · obtain ⟨q, x, q1, q2, q3⟩ := h.ix (i := i) (by omega)
    have k77 := (VBn.p77 q3).lift bn
    obtain ⟨s1, l1, rfl⟩ := VRs.Nu.agg q3
    have w1 : IntKind.i64.wrap ((i : Int) + 1) = ((i + 1 : Nat) : Int) := by rw [IntWalk.i64_in _ (by omega)]; omega
    have hx : xs.getD i 0 = x := by rw [List.getD_eq_getElem?_getD, q2]; rfl
    by_cases hip : i < p
    · have hx0 := h0 i hip
      rw [hx] at hx0
      subst hx0
      have e0 : ((Int.sign 0) != 0) = false := rfl
      simp only [SA, setCells, Int.reduceLE, Int.reduceLT, ↓reduceIte, reduceCtorEq, Nat.reduceLT, Nat.reduceEqDiff, Nat.reduceAdd, Nat.reduceMul, Nat.reduceLeDiff, Nat.reduceBEq, hin, q1, Int.natCast_nonneg, Int.toNat_natCast, kp1 k77, e0, w1]
      refine ih (i + 1, ρ ++ [.kblk 2 [.p (.bool s1), .p (.sl l1)]]) _ (by simp only []; omega) (by simp only []; omega) ?_
      rfl
    · obtain rfl : i = p := by omega
      have hx0 := hne (by omega)
      rw [hx] at hx0
      have e0 : (x.sign != 0) = true := by
        rw [bne_iff_ne]
        intro h
        exact hx0 (Int.sign_eq_zero_iff_zero.1 h)
      rw [if_pos (show i < b.length by omega)]
      simp only [SA, setCells, Int.reduceLE, Int.reduceLT, ↓reduceIte, reduceCtorEq, Nat.reduceLT, Nat.reduceEqDiff, Nat.reduceAdd, Nat.reduceMul, Nat.reduceLeDiff, Nat.reduceBEq, hin, q1, Int.natCast_nonneg, Int.toNat_natCast, kp1 k77, e0]
      rfl
  · rw [if_neg (show ¬ p < b.length by omega)]
    simp only [SA, setCells, Int.reduceLE, Int.reduceLT, ↓reduceIte, reduceCtorEq, Nat.reduceLT, Nat.reduceEqDiff, Nat.reduceAdd, Nat.reduceMul, Nat.reduceLeDiff, Nat.reduceBEq, hin]
    rfl
/-! ### what is left of a vector -/
def stp (r row : List Int) (p : Nat) : List Int := List.zipWith (· - ·) r (row.map ((r.getD p 0 / row.getD p 0) * ·))
def rst (H : List (List Int)) (P : Nat → Nat) (xs : List Int) : Nat → List Int
  | 0 => xs
  | k + 1 => stp (rst H P xs k) (H.getD k []) (P k)
theorem stp_len {r row : List Int} {p : Nat} (h : row.length = r.length) : (stp r row p).length = r.length := by simp [stp, h]
theorem stp_vec {r row : List Int} {p : Nat} (h : row.length = r.length) (j : Nat) : vec (stp r row p) j = vec r j - (vec r p / vec row p) * vec row j := by
  unfold stp vec
  simp only [List.getD_eq_getElem?_getD, List.getElem?_zipWith, List.getElem?_map]
  rcases Nat.lt_or_ge j r.length with hj | hj
  · have h1 : r[j]? = some r[j] := by simp
    have h2 : row[j]? = some (row[j]'(by omega)) := by simp [h, hj]
    rw [h1, h2]
    rfl
  · rw [List.getElem?_eq_none hj, List.getElem?_eq_none (show row.length ≤ j by omega)]
    simp
structure Hds (H : List (List Int)) (m : Nat) (P : Nat → Nat) : Prop where
  lt : ∀ i, i < H.length → P i < m
  pos : ∀ i, i < H.length → 0 < en H i (P i)
  low : ∀ i, i < H.length → ∀ j, j < P i → en H i j = 0
  inc : ∀ i k, i < k → k < H.length → P i < P k
theorem en_getD {H : List (List Int)} {i j : Nat} : en H i j = vec (H.getD i []) j := rfl
theorem rst_len {H : List (List Int)} {P : Nat → Nat} {xs : List Int} (hw : Wd xs.length H) : ∀ {k : Nat}, k ≤ H.length → (rst H P xs k).length = xs.length
  | 0, _ => rfl
  | k + 1, h => by
    have ih := rst_len (P := P) hw (k := k) (by omega)
    have hr := hw k _ (Hn.getD_get (by omega : k < H.length))
    show (stp _ _ _).length = _
    rw [stp_len (by rw [ih, hr]), ih]
theorem rst_vec {H : List (List Int)} {P : Nat → Nat} {xs : List Int} (hw : Wd xs.length H) {k : Nat} (h : k < H.length) (j : Nat) : vec (rst H P xs (k + 1)) j = vec (rst H P xs k) j - (vec (rst H P xs k) (P k) / en H k (P k)) * en H k j := by
  have hr := hw k _ (Hn.getD_get h)
  exact stp_vec (by rw [rst_len hw (by omega), hr]) j
theorem div_abs {x y : Int} (hy : 0 < y) : (x / y).natAbs ≤ x.natAbs := by
  rcases Int.lt_or_le x 0 with h | h
  · have h1 : x / y < 0 := Int.ediv_neg_of_neg_of_pos h hy
    have h2 : x ≤ x / y := by
      have h3 := Int.mul_ediv_add_emod x y
      have h4 := Int.emod_nonneg x (by omega : y ≠ 0)
      have h5 : x % y < y := Int.emod_lt_of_pos x hy
      have h6 : y * (x / y) ≤ 1 * (x / y) := Int.mul_le_mul_of_nonpos_right (by omega) (by omega)
      have h7 : (x / y + 1) * y ≤ (x / y + 1) * 1 := Int.mul_le_mul_of_nonpos_left (by omega) (by omega)
      rw [Int.add_mul, Int.mul_comm (x / y) y] at h7
      omega
    omega
  · have h1 : 0 ≤ x / y := Int.ediv_nonneg h (by omega)
    have h2 : x / y ≤ x := Int.ediv_le_self y h
    omega
theorem rst_bd {H : List (List Int)} {P : Nat → Nat} {xs : List Int} {m B R : Nat} (hw : Wd xs.length H) (hp : Hds H m P) (hB : ∀ i j, (en H i j).natAbs ≤ B) (hR : ∀ j, (vec xs j).natAbs ≤ R) : ∀ {k : Nat}, k ≤ H.length → ∀ j, (vec (rst H P xs k) j).natAbs ≤ R * (B + 1) ^ k
  | 0, _, j => by
    show (vec xs j).natAbs ≤ R * (B + 1) ^ 0
    rw [Nat.pow_zero, Nat.mul_one]; exact hR j
  | k + 1, h, j => by
    have ih := rst_bd hw hp hB hR (k := k) (by omega)
    rw [rst_vec hw (by omega)]
    have h1 := ih j
    have h2 := ih (P k)
    have h3 := div_abs (x := vec (rst H P xs k) (P k)) (hp.pos k (by omega))
    have h4 := hB k j
    have h5 : ((vec (rst H P xs k) (P k) / en H k (P k)) * en H k j).natAbs ≤ R * (B + 1) ^ k * B := by
      rw [Int.natAbs_mul]
      exact Nat.mul_le_mul (Nat.le_trans h3 h2) h4
    have h6 : R * (B + 1) ^ (k + 1) = R * (B + 1) ^ k * B + R * (B + 1) ^ k := by rw [Nat.pow_succ, ← Nat.mul_assoc, Nat.mul_add, Nat.mul_one]
    rw [h6]
    generalize R * (B + 1) ^ k * B = X at *
    generalize R * (B + 1) ^ k = Y at *
    omega
theorem rst_zero {H : List (List Int)} {P : Nat → Nat} {xs : List Int} {m : Nat} (hw : Wd xs.length H) (hp : Hds H m P) (hE : Ech 0 (vm H)) (hs : Sp (vm H) (vec xs)) (j : Nat) : vec (rst H P xs H.length) j = 0 := by
  have key : ∀ k, k ≤ H.length → Sp (vm H) (vec (rst H P xs k)) ∧ ∀ i, i < k → 0 ≤ vec (rst H P xs k) (P i) ∧ vec (rst H P xs k) (P i) < en H i (P i) := by
    intro k
    induction k with
    | zero => exact fun _ => ⟨hs, fun i hi => by omega⟩
    | succ k ih =>
      intro hk
      obtain ⟨h1, h2⟩ := ih (by omega)
      have hr := Hn.vm_row (Hn.getD_get (show k < H.length by omega))
      have hv := fun j => rst_vec (P := P) hw (show k < H.length by omega) j
      refine ⟨(h1.sub (hr.smul _)).cast fun j => (hv j).symm, fun i hi => ?_⟩
      rw [hv]
      rcases Nat.lt_or_ge i k with hik | hik
      · have := hp.low k (by omega) (P i) (hp.inc i k hik (by omega))
        rw [this, Int.mul_zero, Int.sub_zero]
        exact h2 i hik
      · obtain rfl : i = k := by omega
        have hpos := hp.pos i (by omega)
        have e1 := Int.mul_ediv_add_emod (vec (rst H P xs i) (P i)) (en H i (P i))
        have e2 := Int.emod_nonneg (vec (rst H P xs i) (P i)) (by omega : en H i (P i) ≠ 0)
        have e3 := Int.emod_lt_of_pos (vec (rst H P xs i) (P i)) hpos
        rw [Int.mul_comm] at e1
        omega
  obtain ⟨h1, h2⟩ := key H.length (Nat.le_refl _)
  refine Hn.small_zero hE h1 (fun s hs p hp1 hp2 => ?_) j
  obtain ⟨i, row, hi, rfl⟩ := Hn.mem_vm.1 hs
  have hil : i < H.length := (List.getElem?_eq_some_iff.1 hi).1
  have e : ∀ j, vec row j = en H i j := fun j => (Hn.en_vec hi j).symm
  have hpe : p = P i := by
    rcases Nat.lt_trichotomy p (P i) with h | h | h
    · have := hp.low i hil p h
      rw [← e] at this; omega
    · exact h
    · have := hp2 _ h
      have := hp.pos i hil
      rw [← e] at this; omega
  subst hpe
  rw [e]
  have := h2 i hil
  have := hp.pos i hil
  omega
theorem hds_of {H : List (List Int)} {m : Nat} (hw : Wd m H) (hE : Ech 0 (vm H)) (hh : ∀ (i : Nat) (s : List Int), H[i]? = some s → ∃ p, p < m ∧ 0 < vec s p ∧ ∀ j, j < p → vec s j = 0) : ∃ P, Hds H m P := by
  have hh' : ∀ i, ∃ p, i < H.length → p < m ∧ 0 < en H i p ∧ ∀ j, j < p → en H i j = 0 := by
    intro i
    rcases Nat.lt_or_ge i H.length with hi | hi
    · obtain ⟨p, h1, h2, h3⟩ := hh i _ (Hn.getD_get hi)
      exact ⟨p, fun _ => ⟨h1, h2, h3⟩⟩
    · exact ⟨0, fun h => by omega⟩
  refine ⟨fun i => Classical.choose (hh' i), fun i hi => (Classical.choose_spec (hh' i) hi).1, fun i hi => (Classical.choose_spec (hh' i) hi).2.1, fun i hi => (Classical.choose_spec (hh' i) hi).2.2, ?_⟩
  have gen : ∀ (A : List (List Int)) (c : Nat), Ech c (vm A) → ∀ i k, i < k → k < A.length → ∀ p q, 0 < en A i p → (∀ j, j < p → en A i j = 0) → 0 < en A k q → p < q := by
    intro A
    induction A with
    | nil => intro c _ i k _ hk; simp at hk
    | cons s A ih =>
      rintro c ⟨p0, g1, g2, g3, g4⟩ i k hik hk p q hp hp0 hq
      cases k with
      | zero => omega
      | succ k =>
        have hk' : k < A.length := by simpa using hk
        cases i with
        | zero =>
          have hp' : p = p0 := by
            rcases Nat.lt_trichotomy p p0 with h | h | h
            · have := g3 p h
              have e : en (s :: A) 0 p = vec s p := rfl
              rw [e] at hp; omega
            · exact h
            · have := hp0 p0 h
              have e : en (s :: A) 0 p0 = vec s p0 := rfl
              rw [e] at this; omega
          subst hp'
          rcases Nat.lt_or_ge p q with h | h
          · exact h
          · exfalso
            have hm : vec (A.getD k []) ∈ vm A := Hn.mem_vm.2 ⟨k, _, Hn.getD_get hk', rfl⟩
            have := g4.low (j := q) (by omega) _ hm
            have e : en (s :: A) (k + 1) q = vec (A.getD k []) q := rfl
            rw [e] at hq; omega
        | succ i => exact ih _ g4 i k (by omega) hk' p q hp hp0 hq
  intro i k hik hk
  have h1 := Classical.choose_spec (hh' i) (by omega)
  have h2 := Classical.choose_spec (hh' k) hk
  exact gen H 0 hE i k hik hk _ _ h1.2.1 h1.2.2 h2.2.1
end Go.Proofs.Ytdpdnplljonppaa.VKw

namespace Go.Proofs.Ytdpdnplljonppaa.VKw
open Go Vpi
open VBn hiding rp tab rp_ok all_ok mixed sim Big
open VRs (zr zm zr_len zm_len zr_get zm_get NL ML SzL kc_full' back_ge)
open Hn (en Wd SpE Bd Frm vec vm Sp Ech)
set_option maxRecDepth 100000
set_option linter.unusedSimpArgs false
set_option linter.unusedVariables false
section
variable {rs : List RRes} {base : Nat} {d : Option Nat} {l : List LOp} {dr : Dr} {ks : List KI} {e : Env} {σ : Store} {Q : CV → Store → Prop} {h : List PV}
theorem fn132 (hq : Q (.fn 169 [.ptr σ.length 0 0]) (σ ++ [.kblk 1 [.p (.sl h)]])) : Rn rp 132 [.p (.sl h)] σ Q := by
  rw [rn_of rq132]
  simp only [f132, args0, SA, setCells, Int.reduceLE, Int.reduceLT, ↓reduceIte, reduceCtorEq, Nat.reduceLT, Nat.reduceEqDiff, Nat.reduceAdd, Nat.reduceMul, Nat.reduceLeDiff, Nat.reduceBEq]
  exact hq
theorem k132 : KC rp rs base .keep 132 [.p (.sl h)] d l dr ks e σ Q = ExR rp rs base l dr ks (sto d (.fn 169 [.ptr σ.length 0 0]) e) (σ ++ [.kblk 1 [.p (.sl h)]]) Q := kc_keep (fn132 ⟨rfl, rfl⟩)
end
abbrev cyq (x : Int) : List CV := [.p (.bool (decide (x < 0) && decide (x.natAbs ≠ 0))), .p (.sl (lm (dgl x.natAbs)))]
theorem getD_some {r : List Int} {p : Nat} (h : p < r.length) : r[p]? = some (r.getD p 0) := by simp [List.getD, h]
theorem map_one {xs : List Int} : xs.map (1 * ·) = xs := by
  induction xs with
  | nil => rfl
  | cons a l ih => simp
theorem q81 {H : List (List Int)} {v : List PV} {xs : List Int} {m B R : Nat} {P : Nat → Nat} (hv : NL v xs) (hx : xs.length = m) (hm0 : 0 < m) (hm2 : m ≤ 2000000) (hHl : H.length ≤ 2000000) (hw : Wd m H) (hp : Hds H m P)
    (hB : ∀ i j, (en H i j).natAbs ≤ B) (hR : ∀ j, (vec xs j).natAbs ≤ R) (hR1 : 1 ≤ R) (hcap : R * (B + 1) ^ (H.length + 1) < LB ^ CapN) : Pu rp 81 [.sl (zm H), .sl v] (.p (.sl (zr (rst H P xs H.length)))) := by
  subst hx
  have hvl : v.length = xs.length := hv.1
  have k25 := (VBn.p54 (x := 1) (by decide) (by decide)).lift bn
  have k31 := (VRs.p78 (k := 1) (Nu.zi (Sz.small (by decide))) hv (by omega)).lift base_le
  rw [map_one] at k31
  have hpw : ∀ k, k ≤ H.length + 1 → R * (B + 1) ^ k < LB ^ CapN := fun k hk => Nat.lt_of_le_of_lt (Nat.mul_le_mul_left _ (Nat.pow_le_pow_right (by omega) hk)) hcap
  have hBz : B < LB ^ CapN := by
    refine Nat.lt_of_le_of_lt ?_ (hpw 1 (by omega))
    rw [Nat.pow_one]
    have : 1 * (B + 1) ≤ R * (B + 1) := Nat.mul_le_mul_right _ hR1
    omega
  have szr : ∀ k, k ≤ H.length → SzL (rst H P xs k) := fun k hk => VRs.szl_of fun j => Nat.lt_of_le_of_lt (rst_bd hw hp hB hR hk j) (hpw k (by omega))
  refine pu_of rq81 ?_
  simp only [f81, args0, SA, setCells, Int.reduceLE, Int.reduceLT, ↓reduceIte, reduceCtorEq, Nat.reduceLT, Nat.reduceEqDiff, Nat.reduceAdd, Nat.reduceMul, Nat.reduceLeDiff, Nat.reduceBEq, kp1 k25, kp2 k31, k132]
  refine x_head (g := 80) (c := .p (.sl (zm H))) (n := H.length) (bx := 1) (gf := 169) rfl rfl rfl (by simp [lenV, zm_len]) (by omega) rfl rfl (fun i τ => τ[0]? = some (.kblk 1 [.p (.sl (zr (rst H P xs i)))]) ∧ Wf τ) (fun _ => False) ?_ ?_ ?_ ?_
  · exact ⟨rfl, (Wf.nil.push (x := .kblk 1 [.p (.sl (zr xs))]) rfl).push (x := .kblk 1 [.p (.sl (zm H))]) rfl⟩
  · rintro i τ hi ⟨hI, hwf⟩
    have hr := Hn.getD_get hi
    have hrl := hw i _ hr
    have hPi := hp.lt i hi
    have szH : SzL (H.getD i []) := VRs.szl_of fun j => Nat.lt_of_le_of_lt (hB i j) hBz
    have k80 := q80 (NL.zr szH) (by rw [zr_len]; omega) (p := P i) (by rw [zr_len]; omega) (fun j hj => hp.low i hi j hj) (fun _ => by have := hp.pos i hi; intro h; rw [en_getD] at this; unfold vec at this; omega)
    rw [if_pos (by rw [zr_len, hrl]; exact hPi)] at k80
    refine ⟨.sl (zr (H.getD i [])), .int .i64 (P i : Nat), by simp [elC, zm_get hr, PV.cells, subPV], k80, ?_⟩
    have hlen := rst_len hw (P := P) (k := i) (by omega)
    have g1 : (zr (rst H P xs i))[P i]? = some (zi (vec (rst H P xs i) (P i))) := by
      exact zr_get (getD_some (by omega))
    have g2 : (zr (H.getD i []))[P i]? = some (zi (en H i (P i))) := by
      exact zr_get (getD_some (by omega))
    have s1 : Sz (vec (rst H P xs i) (P i)) := Nat.lt_of_le_of_lt (rst_bd hw hp hB hR (by omega) _) (hpw i (by omega))
    have s2 : Sz (en H i (P i)) := Nat.lt_of_le_of_lt (hB i _) hBz
    have k112 := (VBn.p134 (Nu.zi s1) (Nu.zi s2) (hp.pos i hi)).lift bn
    generalize hq : vec (rst H P xs i) (P i) / en H i (P i) = q at k112
    generalize hρ : vec (rst H P xs i) (P i) % en H i (P i) = ρ at k112
    have qb : q.natAbs ≤ R * (B + 1) ^ i := by rw [← hq]; exact Nat.le_trans (div_abs (hp.pos i hi)) (rst_bd hw hp hB hR (by omega) _)
    have qz : Sz q := Nat.lt_of_le_of_lt qb (hpw i (by omega))
    have k31' := (VRs.p78 (k := q) (Nu.zi qz) (NL.zr szH) (by rw [zr_len]; omega)).lift base_le
    have szm : SzL ((H.getD i []).map (q * ·)) := VRs.map_sz fun j => by
      refine Nat.lt_of_le_of_lt ?_ (hpw (i + 1) (by omega))
      rw [Int.natAbs_mul, Nat.pow_succ, ← Nat.mul_assoc]
      exact Nat.mul_le_mul qb (Nat.le_trans (hB i j) (by omega))
    have k97 := q97 (NL.zr (szr i (by omega))) (NL.zr szm) (by rw [zr_len, zr_len, List.length_map]; omega) (by rw [zr_len]; omega) (by rw [zr_len]; omega)
    have hst : List.zipWith (· - ·) (rst H P xs i) ((H.getD i []).map (q * ·)) = rst H P xs (i + 1) := by rw [← hq]; rfl
    rw [hst] at k97
    rw [zi_raw (x := q), zi_raw (x := ρ)] at k112
    rw [zi_raw (x := q)] at k31'
    have hlt := (List.getElem?_eq_some_iff.1 hI).1
    have e0 : ∀ l, (τ ++ l)[0]? = some (.kblk 1 [.p (.sl (zr (rst H P xs i)))]) := fun l => by rw [get_left hlt]; exact hI
    have e1 : ∀ l x, (τ ++ l).set 0 x = τ.set 0 x ++ l := fun l x => set_left hlt
    simp only [stL, SA, setCells, Int.reduceLE, Int.reduceLT, ↓reduceIte, reduceCtorEq, Nat.reduceLT, Nat.reduceEqDiff, Nat.reduceAdd, Nat.reduceMul, Nat.reduceLeDiff, Nat.reduceBEq, hI, e0, e1, g1, g2, subPV_zi, push_sl, Int.natCast_nonneg, Int.toNat_natCast, kp2 k112, kp2 k31', kp2 k97, ex_fin]
    refine .inl ⟨?_, ?_⟩
    · rw [get_left (by rw [List.length_set]; exact hlt), get_self hlt]
    · have := ((hwf.set (b := 0) (x := .kblk 1 [.p (.sl (zr (rst H P xs (i + 1))))]) rfl).push (x := .kblk 2 (cyq q)) rfl).push (x := .kblk 2 (cyq ρ)) rfl
      rwa [List.append_assoc] at this
  · rintro τ ⟨hI, _⟩
    simp only [SA, setCells, Int.reduceLE, Int.reduceLT, ↓reduceIte, reduceCtorEq, Nat.reduceLT, Nat.reduceEqDiff, Nat.reduceAdd, Nat.reduceMul, Nat.reduceLeDiff, Nat.reduceBEq, hI]
    rfl
  · exact fun τ h => h.elim
end Go.Proofs.Ytdpdnplljonppaa.VKw

namespace Go.Proofs.Ytdpdnplljonppaa.VRs
open Go Vpi
open VBn hiding rp tab rp_ok all_ok mixed sim Big
open Hn (addR swR tuR Fl en Wd Bd SpE Frm vec vm Sp shR)
set_option maxRecDepth 100000
set_option linter.unusedSimpArgs false
set_option linter.unusedVariables false
theorem p150b {b : List PV} {M : List (List Int)} {m E : Nat} (hML : ML b M) (h0 : 0 < M.length) (hNm : M.length ≤ 2000000) (hw : Wd m M) (hm0 : 0 < m) (hm2 : m ≤ 2000000) (hE : Bd E (sd M (un M.length)) 0) (hC : CapOk E M.length) :
    ∃ L r, Pu rp 82 [.sl b, .int .i64 m] (.p (.sl (zm (L.take r)))) ∧ r ≤ M.length ∧ Wd m L ∧ Frm L m r ∧ SpE M L ∧ ∀ i j, (en (L.take r) i j).natAbs ≤ upB E r := by
  obtain ⟨n, v, hrun, W, r, P, bl, bu, hv, hps, hFI⟩ := n149 hML h0 hNm hw hm0 hm2 hE hC (Q := fun v ρ => ∃ (W : List (List Int)) (r P bl bu : Nat), v = .tup [.ptr P 0 0, i64 r] ∧ PS ρ P bl bu (lw m W) (uw m W) ∧ FI (sd M (un M.length)) W (m + M.length) m r E)
    (fun W r ρ P bl bu h1 h2 => ⟨W, r, P, bl, bu, rfl, h1, h2⟩)
  obtain ⟨v1, ρ⟩ := v
  simp only [] at hv hps
  subst hv
  have hWN : W.length = M.length := hFI.len.trans (sd_len un_len.symm)
  have hrN : r ≤ W.length := hFI.frm.le
  refine ⟨lw m W, r, ?_, by omega, lw_wd hFI.wd, Frm_left hFI.frm, ?_, fun i j => ?_⟩
  · refine pu_of rp150 ?_
    simp only [f82, args0, SA, setCells, Int.reduceLE, Int.reduceLT, ↓reduceIte, reduceCtorEq, Nat.reduceLT, Nat.reduceEqDiff, Nat.reduceAdd, Nat.reduceMul, Nat.reduceLeDiff, Nat.reduceBEq]
    refine kc_keep' ⟨n, _, hrun, ?_⟩
    have gP := hps.pair
    have gl := hps.l
    have hrl : r ≤ (lw m W).length := by rw [lw_len]; exact hrN
    have hrz : r ≤ (zm (lw m W)).length := by rw [zm_len, lw_len]; exact hrN
    simp only [SA, setCells, Int.reduceLE, Int.reduceLT, ↓reduceIte, reduceCtorEq, Nat.reduceLT, Nat.reduceEqDiff, Nat.reduceAdd, Nat.reduceMul, Nat.reduceLeDiff, Nat.reduceBEq, gP, gl, Int.natCast_nonneg, Int.toNat_natCast, hrl, sliceV, Nat.sub_zero, Nat.zero_le]
    simp only [back, back1, Nat.not_lt_zero, if_false, frz1, gl, Nat.zero_add, hrz, if_true, List.drop_zero, Option.map_some, zm_take]
  · have := SpE_left (m := m) hFI.sp
    rwa [lw_sd hw un_len.symm] at this
  · unfold en
    rw [List.getD_eq_getElem?_getD (l := (lw m W).take r), List.getElem?_take]
    split
    · rename_i hi
      rw [← List.getD_eq_getElem?_getD, lw_getD, List.getD_eq_getElem?_getD, List.getElem?_take]
      split
      · rw [← List.getD_eq_getElem?_getD]; exact hFI.up i j hi
      · exact Nat.zero_le _
    · exact Nat.zero_le _
theorem capsT : ∀ k, k ≤ 12 → 256 + ubS 256 k * 13 + 1 < 3200000000000 := by decide
end Go.Proofs.Ytdpdnplljonppaa.VRs
namespace Go.Proofs.Ytdpdnplljonppaa.VKw
open Go Vpi
open VBn hiding rp tab rp_ok all_ok mixed sim Big
open VRs (zr zm zr_len zm_len zr_get zm_get NL ML SzL)
open Hn (en Wd SpE Bd Frm vec vm Sp Ech)
set_option maxRecDepth 100000
set_option linter.unusedSimpArgs false
set_option linter.unusedVariables false
theorem q30 {b : List PV} {M : List (List Int)} {n : Nat} {v : List PV} {xs : List Int} (hML : ML b M) (hn : M.length = n) (h1 : 1 ≤ n) (h2 : n ≤ 12) (hw : Wd n M) (hb : ∀ i j, (en M i j).natAbs ≤ 2 ^ 256)
    (k56 : Pu rp 56 [.sl b] (.tup [.p (.int .i64 n), .p (.int .i64 n), .p (.int .i64 0)])) (hv : NL v xs) (hx : xs.length = n) (hR : ∀ j, (vec xs j).natAbs ≤ 2 ^ 256) (hs : Sp (vm M) (vec xs)) :
    Pu rp 30 [.sl b, .sl v] (.tup [.p (.bool true), .p (.int .i64 0)]) := by
  have hbl : b.length = n := hML.1.trans hn
  have hvl : v.length = n := hv.1.trans hx
  obtain ⟨L, r, k82, hr, wL, fL, sL, bL⟩ := VRs.p150b hML (by omega) (by omega) hw (by omega) (by omega) (VRs.mat_bd hw hb) (VRs.capOkS (Nat.le_refl _) fun k hk => VRs.capsS k (by omega))
  have k82' := k82.lift base_le
  have wH : Wd n (L.take r) := fun i s hi => by
    rw [List.getElem?_take] at hi
    split at hi
    · exact wL i s hi
    · cases hi
  have hE := fL.hnf.ech
  have hsp : Sp (vm (L.take r)) (vec xs) := (fL.sp wL _).1 ((sL _).1 hs)
  obtain ⟨P, hP⟩ := hds_of wH hE (fun i s hi => by
    rw [List.getElem?_take] at hi
    split at hi
    · rename_i hir; exact fL.head i s hir hi
    · cases hi)
  have hHl : (L.take r).length ≤ 12 := by rw [List.length_take]; omega
  have hcap : 2 ^ 256 * (VRs.upB (2 ^ 256) r + 1) ^ ((L.take r).length + 1) < LB ^ CapN := by
    have hu := VRs.upB_leS (Nat.le_refl (2 ^ 256)) r
    have hk := VRs.capsT r (by omega)
    have h3 : (VRs.upB (2 ^ 256) r + 1) ^ ((L.take r).length + 1) ≤ (2 ^ VRs.ubS 256 r) ^ 13 := by
      refine Nat.le_trans (Nat.pow_le_pow_left hu _) (Nat.pow_le_pow_right (Nat.pow_pos (by decide)) (by omega))
    rw [← Nat.pow_mul] at h3
    have h4 : 2 ^ 256 * (VRs.upB (2 ^ 256) r + 1) ^ ((L.take r).length + 1) ≤ 2 ^ (256 + VRs.ubS 256 r * 13) := by
      rw [Nat.pow_add (a := 2) (m := 256)]; exact Nat.mul_le_mul_left _ h3
    have c1 : 3200000000000 ≤ 32 * CapN := by rw [CapN_eq]; omega
    rw [LB_pow2]
    exact Nat.lt_of_le_of_lt h4 (Nat.pow_lt_pow_right (by decide) (by omega))
  have k81 := q81 hv hx (by omega) (by omega) (by omega) wH hP bL hR (Nat.pow_pos (by decide)) hcap
  have wx : Wd xs.length (L.take r) := by rw [hx]; exact wH
  have hz := rst_zero wx hP hE hsp
  have hrl := rst_len wx (P := P) (Nat.le_refl (L.take r).length)
  have szr : SzL (rst (L.take r) P xs (L.take r).length) := VRs.szl_of fun j => by
    have := hz j
    unfold vec at this
    rw [this]; exact Sz.small (by decide)
  have k80 := q80 (NL.zr szr) (by rw [zr_len]; omega) (p := n) (by rw [zr_len]; omega) (fun j _ => hz j) (fun h => by rw [zr_len] at h; omega)
  rw [if_neg (by rw [zr_len]; omega)] at k80
  have e0 : ((0 : Int) != 0) = false := rfl
  have t1 : ¬ ((n : Int) > 64) := by omega
  have t2 : ((n : Int) > 0) := by omega
  have e1 : ((n : Int) != (n : Int)) = false := by simp
  have k104 : Pu rp 104 [.sl b] (.tup [.p (.int .i64 n), .p (.int .i64 n), .p (.int .i64 0)]) := by
    refine pu_of rq104 ?_
    simp only [VRs.f104, args0, SA, setCells, Int.reduceLE, Int.reduceLT, ↓reduceIte, reduceCtorEq, Nat.reduceLT, Nat.reduceEqDiff, Nat.reduceAdd, Nat.reduceMul, Nat.reduceLeDiff, Nat.reduceBEq, kp1 k56, e0, t1]
    exact back_t3 back1_p back1_p back1_p
  have k79 : Pu rp 79 [.sl b, .sl v] (.tup [.p (.int .i64 n), .p (.int .i64 0)]) := by
    refine pu_of rq79 ?_
    simp only [f79, args0, SA, setCells, Int.reduceLE, Int.reduceLT, ↓reduceIte, reduceCtorEq, Nat.reduceLT, Nat.reduceEqDiff, Nat.reduceAdd, Nat.reduceMul, Nat.reduceLeDiff, Nat.reduceBEq, kp1 k104, e0, t2, hvl, e1]
    exact back_t2 back1_p back1_p
  have t3 : (-1 : Int) < 0 := by decide
  refine pu_of rq30 ?_
  simp only [f30, args0, SA, setCells, Int.reduceLE, Int.reduceLT, ↓reduceIte, reduceCtorEq, Nat.reduceLT, Nat.reduceEqDiff, Nat.reduceAdd, Nat.reduceMul, Nat.reduceLeDiff, Nat.reduceBEq, kp2 k79, e0, kp2 k82', kp2 k81, kp1 k80, t3]
  exact back_t2 back1_p back1_p
end Go.Proofs.Ytdpdnplljonppaa.VKw

namespace Go.Proofs.Ytdpdnplljonppaa.Gs
open Go
theorem det_steps {q : Int} (hq : q ≠ 0) : ∀ {n k : Nat} {A : Nat → Nat → Rat}, k ≤ n → (∀ i j, j < i → i < n → A i j = 0) → (∀ i, i < n → A i i = if i < k then 1 else (q : Rat)) → det n A = ((q ^ (n - k) : Int) : Rat)
  | 0, k, A, hk, _, _ => by
    obtain rfl : k = 0 := by omega
    simp [det]
  | n + 1, k, A, hk, h0, hd => by
    have hq' : (q : Rat) ≠ 0 := fun h => hq (Rat.intCast_inj.1 h)
    have h00 := hd 0 (by omega)
    have hne : A 0 0 ≠ 0 := by
      rw [h00]
      split
      · decide
      · exact hq'
    rw [det_elim hne]
    have hc : det n (fun p r => A (p + 1) (r + 1) - A (p + 1) 0 * A 0 (r + 1) / A 0 0) = det n fun p r => A (p + 1) (r + 1) := det_congr fun p r hp hr => by
      rw [h0 (p + 1) 0 (by omega) (by omega), Rat.zero_mul, Rat.div_def, Rat.zero_mul, Rat.sub_eq_add_neg, Rat.neg_zero, Rat.add_zero]
    rw [hc]
    cases k with
    | zero =>
      have ih := det_steps hq (n := n) (k := 0) (A := fun p r => A (p + 1) (r + 1)) (by omega) (fun i j h1 h2 => h0 _ _ (by omega) (by omega)) (fun i hi => by
        have := hd (i + 1) (by omega)
        rw [if_neg (by omega)] at this
        rw [this, if_neg (by omega)])
      rw [ih, h00, if_neg (by omega), ← Rat.intCast_mul, Nat.sub_zero, Nat.sub_zero, Int.pow_succ, Int.mul_comm]
    | succ k =>
      have ih := det_steps hq (n := n) (k := k) (A := fun p r => A (p + 1) (r + 1)) (by omega) (fun i j h1 h2 => h0 _ _ (by omega) (by omega)) (fun i hi => by
        have := hd (i + 1) (by omega)
        rw [this]
        by_cases h : i < k
        · rw [if_pos h, if_pos (by omega)]
        · rw [if_neg h, if_neg (by omega)])
      rw [ih, h00, if_pos (by omega), Rat.one_mul, Nat.succ_sub_succ]
end Go.Proofs.Ytdpdnplljonppaa.Gs
namespace Go.Proofs.Ytdpdnplljonppaa.VKw
open Go Vpi
open VBn hiding rp tab rp_ok all_ok mixed sim Big
open VRs (zr zm zr_len zm_len zr_get zm_get NL ML SzL)
open Hn (en Wd SpE Bd Frm vec vm Sp Ech)
set_option linter.unusedSimpArgs false
set_option linter.unusedVariables false
def qe (n k q : Nat) (z : Int) (i j : Nat) : Int :=
  if i < k then (if j = i then 1 else if k ≤ j then ((otn (zst (qst n k z i) (j - k)) q : Nat) : Int) else 0) else (if j = i then (q : Int) else 0)
theorem qe_nn {n k q : Nat} {z : Int} {i j : Nat} : 0 ≤ qe n k q z i j := by
  unfold qe
  split
  · split
    · decide
    · split
      · exact Int.natCast_nonneg _
      · exact Int.le_refl _
  · split
    · exact Int.natCast_nonneg _
    · exact Int.le_refl _
theorem qe_le {n k q : Nat} {z : Int} {i j : Nat} (hq : 1 ≤ q) : qe n k q z i j ≤ q := by
  unfold qe
  split
  · split
    · omega
    · split
      · have := otn_lt (z := zst (qst n k z i) (j - k)) (q := q) (by omega); omega
      · omega
  · split <;> omega
theorem fillD_get {z : Int} {q j0 : Nat} {r : List PV} {j : Nat} : ∀ {m : Nat}, (fillD z q j0 r m)[j]? = if j0 ≤ j ∧ j < j0 + m ∧ j < r.length then some (mk false (otn (zst z (j - j0)) q)) else r[j]?
  | 0 => by
    rw [if_neg (by omega)]; rfl
  | m + 1 => by
    show ((fillD z q j0 r m).set (j0 + m) _)[j]? = _
    rw [List.getElem?_set, fillD_len]
    by_cases h : j0 + m = j
    · subst h
      rw [if_pos rfl]
      by_cases hl : j0 + m < r.length
      · rw [if_pos hl, if_pos ⟨by omega, by omega, hl⟩, Nat.add_sub_cancel_left]
      · rw [if_neg hl, if_neg (by omega), List.getElem?_eq_none (by omega)]
    · rw [if_neg h, fillD_get (m := m)]
      by_cases h2 : j0 ≤ j ∧ j < j0 + m ∧ j < r.length
      · rw [if_pos h2, if_pos (by omega)]
      · rw [if_neg h2, if_neg (by omega)]
theorem mk_zi {v : Nat} : mk false v = zi (v : Int) := by rw [zi_nonneg (by omega), Int.toNat_natCast]
theorem qrow_eq {n k q i : Nat} {z : Int} (hk : k ≤ n) (hi : i < n) : qrow n k q i (qst n k z i) = (List.range n).map fun j => zi (qe n k q z i j) := by
  apply List.ext_getElem?
  intro j
  rcases Nat.lt_or_ge j n with hj | hj
  · rw [List.getElem?_map, List.getElem?_range hj, Option.map_some]
    unfold qrow qe
    by_cases hik : i < k
    · rw [if_pos hik, if_pos hik, fillD_get]
      by_cases hkj : k ≤ j
      · rw [if_pos ⟨hkj, by omega, by simpa using hj⟩, if_neg (by omega), if_pos hkj, mk_zi]
      · rw [if_neg (by omega)]
        by_cases hji : j = i
        · subst hji
          rw [if_pos rfl, List.getElem?_set_self (by simpa using hj), mk_zi]; rfl
        · rw [if_neg hji, if_neg hkj, List.getElem?_set_ne (by omega), mk_zi]
          simp [hj]
    · rw [if_neg hik, if_neg hik]
      by_cases hji : j = i
      · subst hji
        rw [if_pos rfl, List.getElem?_set_self (by simpa using hj), mk_zi]
      · rw [if_neg hji, List.getElem?_set_ne (by omega), mk_zi]
        simp [hj]
  · rw [List.getElem?_eq_none (by rw [qrow_len]; exact hj), List.getElem?_eq_none (by simpa using hj)]
def QM (n k q : Nat) (z : Int) : List (List Int) := (List.range n).map fun i => (List.range n).map (qe n k q z i)
theorem qrows_eq {n k q : Nat} {z : Int} (hk : k ≤ n) : ∀ {m : Nat}, m ≤ n → qrows n k q z m = (List.range m).map fun i => .sl ((List.range n).map fun j => zi (qe n k q z i j))
  | 0, _ => rfl
  | m + 1, h => by
    show qrows n k q z m ++ [.sl (qrow n k q m (qst n k z m))] = _
    rw [qrows_eq hk (m := m) (by omega), qrow_eq hk (by omega), List.range_succ, List.map_append]; rfl
theorem QM_zm {n k q : Nat} {z : Int} (hk : k ≤ n) : qrows n k q z n = zm (QM n k q z) := by
  rw [qrows_eq hk (Nat.le_refl n)]
  simp [zm, zr, QM, List.map_map, Function.comp_def]
theorem QM_len {n k q : Nat} {z : Int} : (QM n k q z).length = n := by simp [QM]
theorem QM_get {n k q : Nat} {z : Int} {i : Nat} (h : i < n) : (QM n k q z)[i]? = some ((List.range n).map (qe n k q z i)) := by simp [QM, h]
theorem QM_wd {n k q : Nat} {z : Int} : Wd n (QM n k q z) := fun i r h => by
  have hi := (List.getElem?_eq_some_iff.1 h).1
  rw [QM_len] at hi
  rw [QM_get hi] at h
  cases h
  simp
theorem QM_vec {n k q : Nat} {z : Int} {i : Nat} (j : Nat) : vec ((List.range n).map (qe n k q z i)) j = if j < n then qe n k q z i j else 0 := by
  unfold vec
  rw [List.getD_eq_getElem?_getD, List.getElem?_map]
  split
  · rename_i h; rw [List.getElem?_range h]; rfl
  · rename_i h; rw [List.getElem?_eq_none (by simpa using h)]; rfl
theorem QM_bd {n k q : Nat} {z : Int} (hq : 1 ≤ q) (hq' : q ≤ 4294967296) (i j : Nat) : (en (QM n k q z) i j).natAbs ≤ 2 ^ 256 := by
  have h32 : 4294967296 ≤ 2 ^ 256 := by decide
  rcases Nat.lt_or_ge i n with hi | hi
  · rw [Hn.en_vec (QM_get hi), QM_vec]
    split
    · have h1 := qe_nn (n := n) (k := k) (q := q) (z := z) (i := i) (j := j)
      have h2 := qe_le (n := n) (k := k) (q := q) (z := z) (i := i) (j := j) hq
      refine Nat.le_trans ?_ h32
      omega
    · exact Nat.zero_le _
  · rw [Hn.en_out (by rw [QM_len]; exact hi)]; exact Nat.zero_le _
theorem QM_in {n k q : Nat} {z : Int} (hk : k ≤ n) {i : Nat} (hi : i < n) : Sp (vm (QM n k q z)) fun j => if j = i then (q : Int) else 0 := by
  have low : ∀ i, i < n → k ≤ i → Sp (vm (QM n k q z)) fun j => if j = i then (q : Int) else 0 := by
    intro i hi hki
    refine (Hn.vm_row (QM_get hi)).cast fun j => ?_
    rw [QM_vec]
    by_cases hj : j < n
    · rw [if_pos hj]
      unfold qe
      rw [if_neg (show ¬ i < k by omega)]
    · rw [if_neg hj, if_neg (show ¬ j = i by omega)]
  rcases Nat.lt_or_ge i k with hik | hik
  · have part : ∀ m, k + m ≤ n → Sp (vm (QM n k q z)) fun j => if k ≤ j ∧ j < k + m then (q : Int) * qe n k q z i j else 0 := by
      intro m
      induction m with
      | zero => exact fun _ => Sp.zero.cast fun j => by rw [if_neg (by omega)]
      | succ m ih =>
        intro hm
        refine ((ih (by omega)).sum ((low (k + m) (by omega) (by omega)).smul (qe n k q z i (k + m)))).cast fun j => ?_
        by_cases h1 : j = k + m
        · subst h1
          rw [if_neg (by omega), if_pos rfl, if_pos (by omega), Int.mul_comm]; omega
        · rw [if_neg h1, Int.mul_zero, Int.add_zero]
          by_cases h2 : k ≤ j ∧ j < k + m
          · rw [if_pos h2, if_pos (by omega)]
          · rw [if_neg h2, if_neg (by omega)]
    refine (((Hn.vm_row (QM_get hi)).smul q).sub (part (n - k) (by omega))).cast fun j => ?_
    rw [QM_vec]
    by_cases hj : j < n
    · rw [if_pos hj]
      by_cases hkj : k ≤ j
      · rw [if_pos (by omega), if_neg (by omega), Int.sub_self]
      · rw [if_neg (by omega), Int.sub_zero]
        unfold qe
        rw [if_pos hik]
        by_cases hji : j = i
        · rw [if_pos hji, if_pos hji, Int.mul_one]
        · rw [if_neg hji, if_neg hkj, if_neg hji, Int.mul_zero]
    · rw [if_neg hj, Int.mul_zero, if_neg (by omega), if_neg (by omega), Int.sub_self]
  · exact low i hi hik
theorem unit_vec {n i q : Nat} (hi : i < n) (j : Nat) : vec ((VRs.urow n i).map ((q : Int) * ·)) j = if j = i then (q : Int) else 0 := by
  unfold vec
  rw [List.getD_eq_getElem?_getD, List.getElem?_map]
  by_cases hj : j < n
  · rw [VRs.urow_get hj, Option.map_some, Option.getD_some]
    split
    · rw [Int.mul_one]
    · rw [Int.mul_zero]
  · rw [List.getElem?_eq_none (by rw [VRs.urow_len]; omega), if_neg (by omega)]; rfl
theorem QM_det {n k q : Nat} {z : Int} (hk : k ≤ n) (hq : 1 ≤ q) : Gs.dI n (qe n k q z) = ((q ^ (n - k) : Nat) : Int) := by
  refine Gs.dI_of ?_
  rw [Gs.det_steps (q := (q : Int)) (n := n) (k := k) (by omega) hk (fun i j h1 h2 => ?_) (fun i hi => ?_)]
  · rw [Int.natCast_pow]
  · show ((qe n k q z i j : Int) : Rat) = 0
    have : qe n k q z i j = 0 := by
      unfold qe
      by_cases h : i < k
      · rw [if_pos h, if_neg (by omega), if_neg (by omega)]
      · rw [if_neg h, if_neg (by omega)]
    rw [this]; rfl
  · show ((qe n k q z i i : Int) : Rat) = _
    unfold qe
    by_cases h : i < k
    · rw [if_pos h, if_pos h, if_pos rfl]; rfl
    · rw [if_neg h, if_neg h, if_pos rfl]
end Go.Proofs.Ytdpdnplljonppaa.VKw

namespace Go.Proofs.Ytdpdnplljonppaa.VKw
open Go Vpi
open VBn hiding rp tab rp_ok all_ok mixed sim Big
open VRs (zr zm zr_len zm_len zr_get zm_get NL ML SzL)
open Hn (en Wd SpE Bd Frm vec vm Sp Ech)
set_option maxRecDepth 100000
set_option linter.unusedSimpArgs false
set_option linter.unusedVariables false
theorem dt_le : TabLe VDt.rp rp := by
  intro f rf h
  unfold VDt.rp at h
  split at h
  · rename_i r h1
    cases h
    exact bn _ _ h1
  · rw [Option.map_eq_some_iff] at h
    obtain ⟨x, hx, rfl⟩ := h
    have h1 := List.find?_some hx
    have h2 := List.mem_of_find?_eq_some hx
    have h3 : x.1 = f := by simpa using h1
    subst h3
    simp only [VDt.tab, List.mem_cons, List.not_mem_nil, or_false] at h2
    rcases h2 with rfl | rfl | rfl | rfl | rfl | rfl | rfl <;> rfl
theorem drw_get {z q : Int} {n i : Nat} (h : i < n) : (drw z q n)[i]? = some (.int .u64 (ot (zst z i) q)) := by simp [drw, h]
theorem ot_lt {z q : Int} (h : 0 < q) : ot z q < q := by unfold ot; exact Int.tmod_lt_of_pos _ h
theorem draw_any (z n q : Int) : ∃ l e, Pu rp 32 [.int .u64 z, .int .i64 n, .int .u64 q] (.tup [.p (.sl l), .p (.int .i64 e)]) := by
  by_cases h : n < 0 ∨ 4096 < n ∨ q = 0
  · exact ⟨_, _, e32 h⟩
  · exact ⟨_, _, p32 (by omega) (by omega) (by omega)⟩
theorem e22 {n k q z : Int} (h : ¬ (1 ≤ n ∧ n ≤ 12 ∧ 0 ≤ k ∧ k ≤ n ∧ 2 ≤ q ∧ q ≤ 4294967296)) : Pu rp 22 [.int .i64 n, .int .i64 k, .int .u64 q, .int .u64 z] (.tup [.p (.sl []), .p (.int .i64 1)]) := by
  refine pu_of rq22 ?_
  by_cases h0 : n < 1
  · simp only [f22, args0, SA, setCells, Int.reduceLE, Int.reduceLT, ↓reduceIte, reduceCtorEq, Nat.reduceLT, Nat.reduceEqDiff, Nat.reduceAdd, Nat.reduceMul, Nat.reduceLeDiff, Nat.reduceBEq, h0]; rfl
  by_cases h1 : n > 12
  · simp only [f22, args0, SA, setCells, Int.reduceLE, Int.reduceLT, ↓reduceIte, reduceCtorEq, Nat.reduceLT, Nat.reduceEqDiff, Nat.reduceAdd, Nat.reduceMul, Nat.reduceLeDiff, Nat.reduceBEq, h0, h1]; rfl
  by_cases h2 : k < 0
  · simp only [f22, args0, SA, setCells, Int.reduceLE, Int.reduceLT, ↓reduceIte, reduceCtorEq, Nat.reduceLT, Nat.reduceEqDiff, Nat.reduceAdd, Nat.reduceMul, Nat.reduceLeDiff, Nat.reduceBEq, h0, h1, h2]; rfl
  by_cases h3 : k > n
  · simp only [f22, args0, SA, setCells, Int.reduceLE, Int.reduceLT, ↓reduceIte, reduceCtorEq, Nat.reduceLT, Nat.reduceEqDiff, Nat.reduceAdd, Nat.reduceMul, Nat.reduceLeDiff, Nat.reduceBEq, h0, h1, h2, h3]; rfl
  have h4 : (decide (2 ≤ q) && decide (q ≤ 4294967296)) = false := by simp; omega
  simp only [f22, args0, SA, setCells, Int.reduceLE, Int.reduceLT, ↓reduceIte, reduceCtorEq, Nat.reduceLT, Nat.reduceEqDiff, Nat.reduceAdd, Nat.reduceMul, Nat.reduceLeDiff, Nat.reduceBEq, h0, h1, h2, h3, kp1 p70, h4, unV, Bool.not_false]; rfl
theorem facts {n k q : Nat} {z : Int} (h1 : 1 ≤ n) (h2 : n ≤ 12) (h3 : k ≤ n) (h4 : 2 ≤ q) (h5 : q ≤ 4294967296) :
    Pu rp 22 [.int .i64 n, .int .i64 k, .int .u64 q, .int .u64 z] (.tup [.p (.sl (zm (QM n k q z))), .p (.int .i64 0)]) ∧
    Pu rp 27 [.sl (zm (QM n k q z))] (.tup [.p (zi ((q ^ (n - k) : Nat) : Int)), .p (.int .i64 0)]) ∧
    ∀ i, i < n → Pu rp 30 [.sl (zm (QM n k q z)), .sl (zr ((VRs.urow n i).map ((q : Int) * ·)))] (.tup [.p (.bool true), .p (.int .i64 0)]) := by
  have hq1 : 1 ≤ q := by omega
  have hle := fun i j => qe_le (n := n) (k := k) (q := q) (z := z) (i := i) (j := j) hq1
  have hnn := fun i j => qe_nn (n := n) (k := k) (q := q) (z := z) (i := i) (j := j)
  have e32' : LB ^ 2 = 18446744073709551616 := by decide
  have hsk : ∀ i j, Sk 2 (qe n k q z i j) := fun i j => by
    have := hle i j; have := hnn i j
    unfold Sk
    rw [e32']
    omega
  have hsz : ∀ i j, Sz (qe n k q z i j) := fun i j => (hsk i j).sz (by decide)
  have hML : ML (zm (QM n k q z)) (QM n k q z) := ML.zm fun i r hr => by
    have hi := (List.getElem?_eq_some_iff.1 hr).1
    rw [QM_len] at hi
    rw [QM_get hi] at hr
    cases hr
    refine ⟨fun j x hx => ?_, by simp; omega⟩
    rw [List.getElem?_map, Option.map_eq_some_iff] at hx
    obtain ⟨j', _, rfl⟩ := hx
    exact hsz i j'
  refine ⟨?_, ?_, fun i hi => ?_⟩
  · rw [← QM_zm h3]; exact p22 h1 h2 h3 h4 h5
  · have := (VDt.z166 (n := n) (e := 2) (W := qe n k q z) (by omega) h2 (by decide) (by decide) fun i j _ _ => hsk i j).lift dt_le
    rw [QM_det h3 hq1] at this
    have e : zm (QM n k q z) = VDt.zM n n (qe n k q z) := by simp [zm, zr, QM, VDt.zM, VDt.zF, List.map_map, Function.comp_def]
    rw [e]; exact this
  · have hMR : MR (zm (QM n k q z)) (fun _ => n) (qe n k q z) := fun i hi => by
      rw [zm_len, QM_len] at hi
      refine ⟨_, zm_get (QM_get hi), by simp [zr_len], (show n ≤ 2000000 by omega), fun j hj => ?_⟩
      rw [zr_len, List.length_map, List.length_range] at hj
      exact ⟨_, zr_get (by simp [hj]), Nu.zi (hsz i j)⟩
    have k56 := ((p93 hMR (by rw [zm_len, QM_len]; omega) (by rw [zm_len, QM_len]; omega)).2 (fun ⟨i, h1, h2⟩ => h2 rfl)).lift bn
    rw [zm_len, QM_len] at k56
    have hv := unit_vec (n := n) (i := i) (q := q) hi
    have hvs : SzL ((VRs.urow n i).map ((q : Int) * ·)) := VRs.szl_of fun j => by
      have := hv j
      unfold vec at this
      rw [this]
      split
      · exact q_cap (n := 1) h5 (by decide) (by rw [Nat.pow_one]; exact Nat.le_refl _)
      · exact Sz.small (by decide)
    refine q30 hML QM_len h1 h2 QM_wd (QM_bd hq1 h5) k56 (NL.zr hvs) (by rw [List.length_map, VRs.urow_len]) (fun j => ?_) ((QM_in h3 hi).cast fun j => (hv j).symm)
    rw [hv]
    have h32 : 4294967296 ≤ 2 ^ 256 := by decide
    split
    · rw [Int.natAbs_natCast]; exact Nat.le_trans h5 h32
    · exact Nat.zero_le _
end Go.Proofs.Ytdpdnplljonppaa.VKw

namespace Go.Proofs.Ytdpdnplljonppaa.VKw
open Go Vpi
open VBn hiding rp tab rp_ok all_ok mixed sim Big
open VRs (zr zm zr_len zm_len zr_get zm_get NL ML SzL)
open Hn (en Wd SpE Bd Frm vec vm Sp Ech)
set_option maxRecDepth 100000
set_option linter.unusedSimpArgs false
set_option linter.unusedVariables false
theorem half_wrap {m : Int} (h0 : 0 ≤ m) (h1 : m ≤ 4096) : IntKind.i64.wrap (m.tdiv 2) = ((m.toNat / 2 : Nat) : Int) := by
  obtain ⟨k, rfl⟩ := Int.eq_ofNat_of_zero_le h0
  have e : (k : Int).tdiv 2 = ((k / 2 : Nat) : Int) := by rw [Int.tdiv_eq_ediv_of_nonneg (by omega)]; rfl
  rw [e, Int.toNat_natCast, IntWalk.i64_in _ (by omega)]
theorem half_u {q : Nat} (h : q ≤ 4294967296) : IntKind.i64.wrap (IntKind.u64.wrap ((q : Int).tdiv 2)) = ((q / 2 : Nat) : Int) := by
  have e : (q : Int).tdiv 2 = ((q / 2 : Nat) : Int) := by rw [Int.tdiv_eq_ediv_of_nonneg (by omega)]; rfl
  rw [e, IntKind.wrap_u64, show ((q / 2 : Nat) : Int) % 18446744073709551616 = ((q / 2 : Nat) : Int) by omega, IntWalk.i64_in _ (by omega)]
theorem rem_u {q : Nat} (h : q ≤ 4294967296) : IntKind.i64.wrap ((q : Int).tmod 2) = ((q % 2 : Nat) : Int) := by
  have e : (q : Int).tmod 2 = ((q % 2 : Nat) : Int) := by rw [Int.tmod_eq_emod_of_nonneg (by omega)]; rfl
  rw [e, IntWalk.i64_in _ (by omega)]
theorem q_sz {q : Nat} (hq : q ≤ 4294967296) : Sz (q : Int) := q_cap (n := 1) hq (by decide) (by rw [Nat.pow_one]; exact Nat.le_refl _)
theorem un_szl {n i : Nat} : SzL (VRs.urow n i) := by
  intro j x hx
  unfold VRs.urow at hx
  rw [List.getElem?_map, Option.map_eq_some_iff] at hx
  obtain ⟨k, _, rfl⟩ := hx
  split <;> exact Sz.small (by decide)
abbrev ask (n k q z : Int) : List CV := [.p (.int .i64 n), .p (.int .i64 k), .p (.int .u64 q), .p (.int .u64 z)]
theorem join2 {rs : List RRes} {c : RCode} {ks : List KI} {Q : CV → Store → Prop} {G : Prop} {R : Env → Store → Prop} (hmain : (∀ e ρ, R e ρ → Ex rp rs (.loop c) ks e ρ Q) → G) (hrest : ∀ e ρ, R e ρ → Ex rp rs (.loop c) ks e ρ Q) : G := hmain hrest
set_option maxHeartbeats 4000000 in
theorem run6 {n k q0 z m : Int} (hq0 : 0 ≤ q0) : ∃ c ks e σ, PRun (callK 21 (.bool true)) f6.code [] (args0 0 ([.agg [.int .i64 n, .int .i64 k, .int .u64 q0, .int .u64 z], .int .i64 m].map .p)) [] c ks e σ ∧
    Ex rp f6.res c ks e σ fun v τ => back 0 τ v = some (.p (.bool true)) := by
  refine ⟨_, _, _, _, .seq (.reg rfl (.skip (.seq (.seq (.reg rfl (.skip (.fg (.no rfl (.skip .nil))))))))), ?_⟩
  have bq2 : ∀ a : Int, binV .quo (.int .i64 a) (.int .i64 2) = some (.int .i64 (IntKind.i64.wrap (a.tdiv 2))) := fun a => binV_quo (by decide)
  have e10 : ((1 : Int) != 0) = true := rfl
  have e00 : ((0 : Int) != 0) = false := rfl
  have e0t : ((0 : Int) == 0) = true := rfl
  have e1f : ((1 : Int) == 0) = false := rfl
  show Ex rp [.t 4] _ [] [(1, .p (.int .i64 m)), (2, .ptr 0 0 0), (22, .p (.bool false))] [.kblk 4 (ask n k q0 z)] _
  refine join2 (rs := ?rs) (c := ?c) (ks := ?ks) (Q := ?Q) (R := fun e ρ => e = [(1, .p (.int .i64 m)), (2, .ptr 0 0 0), (17, .p (.sl (drw z q0 m.toNat))), (18, .p (.sl (drw z q0 (m.toNat / 2)))), (20, i64 0)] ∧ ρ[0]? = some (.kblk 4 (ask n k q0 z)) ∧ 0 ≤ m ∧ m ≤ 4096 ∧ q0 ≠ 0) (fun hj => ?main) ?rest
  case main =>
    by_cases H : 1 ≤ n ∧ n ≤ 12 ∧ 0 ≤ k ∧ k ≤ n ∧ 2 ≤ q0 ∧ q0 ≤ 4294967296
    · obtain ⟨N, rfl⟩ := Int.eq_ofNat_of_zero_le (show 0 ≤ n by omega)
      obtain ⟨K, rfl⟩ := Int.eq_ofNat_of_zero_le (show 0 ≤ k by omega)
      obtain ⟨q, rfl⟩ := Int.eq_ofNat_of_zero_le hq0
      have hN1 : 1 ≤ N := by omega
      have hN2 : N ≤ 12 := by omega
      have hK : K ≤ N := by omega
      have hq2 : 2 ≤ q := by omega
      have hq3 : q ≤ 4294967296 := by omega
      clear H
      obtain ⟨k22, k27, k30⟩ := facts (z := z) hN1 hN2 hK hq2 hq3
      have k23 := q23 hN1 hN2
      have hqz := q_sz hq3
      have k25a := (VBn.p54 (x := ((q / 2 : Nat) : Int)) (by omega) (by omega)).lift bn
      have k25b := (VBn.p54 (x := 2) (by decide) (by decide)).lift bn
      have k24 := (VBn.p63' (Nu.zi (q_sz (show q / 2 ≤ 4294967296 by omega))) (Nu.zi (x := 2) (Sz.small (by decide)))).lift bn
      have k25c := (VBn.p54 (x := ((q % 2 : Nat) : Int)) (by omega) (by omega)).lift bn
      have eh : ((q / 2 : Nat) : Int) * 2 = ((q / 2 * 2 : Nat) : Int) := by rw [Int.natCast_mul]; rfl
      rw [eh] at k24
      have k26 := (VBn.p145 (Nu.zi (q_sz (show q / 2 * 2 ≤ 4294967296 by omega))) (Nu.zi (q_sz (show q % 2 ≤ 4294967296 by omega)))).lift bn
      have eq2 : ((q / 2 * 2 : Nat) : Int) + ((q % 2 : Nat) : Int) = q := by omega
      rw [eq2] at k26
      rw [zi_raw (x := ((q / 2 * 2 : Nat) : Int))] at k24 k26
      rw [zi_raw (x := (q : Int))] at k26
      have hD : Sz ((q ^ (N - K) : Nat) : Int) := q_cap hq3 (by omega) (Nat.le_refl _)
      have k28 := q28 (q := q) (n := N - K) (by omega) hq3 (by omega)
      have k29 := q29 (Nu.zi hD)
      generalize q ^ (N - K) = D at *
      rw [zi_raw (x := (D : Int))] at k27 k28 k29
      rw [zi_raw (x := (q : Int))] at k28
      have w5 : IntKind.i64.wrap ((N : Int) - K) = ((N - K : Nat) : Int) := by rw [IntWalk.i64_in _ (by omega)]; omega
      have bqu : binV .quo (.int .u64 (q : Int)) (.int .u64 2) = some (.int .u64 (IntKind.u64.wrap ((q : Int).tdiv 2))) := binV_quo (by decide)
      have bru : binV .rem (.int .u64 (q : Int)) (.int .u64 2) = some (.int .u64 ((q : Int).tmod 2)) := binV_rem (by decide)
      simp only [SA, setCells, Int.reduceLE, Int.reduceLT, ↓reduceIte, reduceCtorEq, Nat.reduceLT, Nat.reduceEqDiff, Nat.reduceAdd, Nat.reduceMul, Nat.reduceLeDiff, Nat.reduceBEq, kp4 k22, e0t, kp1 k23, bqu, half_u hq3, kp1 k25a, kp1 k25b, kp2 k24, bru, rem_u hq3, kp1 k25c, kp2 k26, kp1 k27, w5, kp2 k28, kp2 k29, e00, Bool.not_true, Bool.false_eq_true, if_false]
      refine loop_rule (β := Nat) (fun t => ([(1, .p (.int .i64 m)), (2, .ptr 0 0 0), (5, .p (.sl (zm (QM N K q z)))), (7, .p (.sl (zm (VRs.un N)))), (9, .ptr 1 0 0), (14, i64 t)], [.kblk 4 (ask N K q z), .kblk 2 (cyq q), .kblk 2 (cyq D), .kblk 2 (cyq D)])) (fun t => t ≤ N) (fun t => N - t) 0 rfl rfl (Nat.zero_le _) ?_
      intro i hi ih
      by_cases hin : (i : Int) < N
      · have hil : i < N := by omega
        have hu := zm_get (VRs.un_get hil)
        have k31 := (VRs.p78 (k := (q : Int)) (Nu.zi hqz) (NL.zr (un_szl (n := N) (i := i))) (by rw [zr_len, VRs.urow_len]; omega)).lift base_le
        rw [zi_raw (x := (q : Int))] at k31
        have kM := k30 i hil
        have w1 : IntKind.i64.wrap ((i : Int) + 1) = ((i + 1 : Nat) : Int) := by rw [IntWalk.i64_in _ (by omega)]; omega
        simp only [SA, setCells, Int.reduceLE, Int.reduceLT, ↓reduceIte, reduceCtorEq, Nat.reduceLT, Nat.reduceEqDiff, Nat.reduceAdd, Nat.reduceMul, Nat.reduceLeDiff, Nat.reduceBEq, zm_len, VRs.un_len, hin, hu, kp2 k31, kp2 kM, e00, Bool.not_true, Bool.false_eq_true, if_false, Int.natCast_nonneg, Int.toNat_natCast, w1]
        refine ih (i + 1) _ (by omega) (by omega) ?_
        rfl
      · clear ih
        rcases Int.lt_or_le m 0 with hm0 | hm0
        · obtain ⟨l2, f2, kd2⟩ := draw_any z (IntKind.i64.wrap (m.tdiv 2)) (q : Int)
          have kd1 := e32 (z := z) (n := m) (below := (q : Int)) (.inl hm0)
          have t3 : m < 0 := hm0
          by_cases hf : ((1 : Int) == f2) = true
          · simp only [SA, setCells, Int.reduceLE, Int.reduceLT, ↓reduceIte, reduceCtorEq, Nat.reduceLT, Nat.reduceEqDiff, Nat.reduceAdd, Nat.reduceMul, Nat.reduceLeDiff, Nat.reduceBEq, zm_len, VRs.un_len, hin, kp3 kd1, kp3 kd2, bq2, e10, hf]
            rfl
          · have hf' : ((1 : Int) == f2) = false := by simpa using hf
            simp only [SA, setCells, Int.reduceLE, Int.reduceLT, ↓reduceIte, reduceCtorEq, Nat.reduceLT, Nat.reduceEqDiff, Nat.reduceAdd, Nat.reduceMul, Nat.reduceLeDiff, Nat.reduceBEq, zm_len, VRs.un_len, hin, kp3 kd1, kp3 kd2, bq2, e10, hf', t3]
            rfl
        · have t3 : ¬ m < 0 := by omega
          rcases Int.lt_or_le 4096 m with hm1 | hm1
          · obtain ⟨l2, f2, kd2⟩ := draw_any z (IntKind.i64.wrap (m.tdiv 2)) (q : Int)
            have kd1 := e32 (z := z) (n := m) (below := (q : Int)) (.inr (.inl hm1))
            have t4 : m > 4096 := hm1
            by_cases hf : ((1 : Int) == f2) = true
            · simp only [SA, setCells, Int.reduceLE, Int.reduceLT, ↓reduceIte, reduceCtorEq, Nat.reduceLT, Nat.reduceEqDiff, Nat.reduceAdd, Nat.reduceMul, Nat.reduceLeDiff, Nat.reduceBEq, zm_len, VRs.un_len, hin, kp3 kd1, kp3 kd2, bq2, e10, hf]
              rfl
            · have hf' : ((1 : Int) == f2) = false := by simpa using hf
              simp only [SA, setCells, Int.reduceLE, Int.reduceLT, ↓reduceIte, reduceCtorEq, Nat.reduceLT, Nat.reduceEqDiff, Nat.reduceAdd, Nat.reduceMul, Nat.reduceLeDiff, Nat.reduceBEq, zm_len, VRs.un_len, hin, kp3 kd1, kp3 kd2, bq2, e10, hf', t3, t4]
              rfl
          · by_cases hq00 : (q : Int) = 0
            · have kd1 := e32 (z := z) (n := m) (below := (q : Int)) (.inr (.inr hq00))
              have kd2 := e32 (z := z) (n := IntKind.i64.wrap (m.tdiv 2)) (below := (q : Int)) (.inr (.inr hq00))
              have hf : ((1 : Int) == 1) = true := rfl
              simp only [SA, setCells, Int.reduceLE, Int.reduceLT, ↓reduceIte, reduceCtorEq, Nat.reduceLT, Nat.reduceEqDiff, Nat.reduceAdd, Nat.reduceMul, Nat.reduceLeDiff, Nat.reduceBEq, zm_len, VRs.un_len, hin, kp3 kd1, kp3 kd2, bq2, e10, hf]
              rfl
            · have kd1 := p32 (z := z) (n := m) (below := (q : Int)) hm0 hm1 hq00
              have hw : IntKind.i64.wrap (m.tdiv 2) = ((m.toNat / 2 : Nat) : Int) := half_wrap hm0 hm1
              have kd2 := p32 (z := z) (n := ((m.toNat / 2 : Nat) : Int)) (below := (q : Int)) (by omega) (by omega) hq00
              rw [Int.toNat_natCast] at kd2
              have g1 : ((drw z (q : Int) m.toNat).length : Int) = m := by rw [drw_len]; omega
              have g2 : ((drw z (q : Int) (m.toNat / 2)).length : Int) = ((m.toNat / 2 : Nat) : Int) := by rw [drw_len]
              have g3 : (m != m) = false := by simp
              have g4 : (((m.toNat / 2 : Nat) : Int) != ((m.toNat / 2 : Nat) : Int)) = false := by simp
              simp only [SA, setCells, Int.reduceLE, Int.reduceLT, ↓reduceIte, reduceCtorEq, Nat.reduceLT, Nat.reduceEqDiff, Nat.reduceAdd, Nat.reduceMul, Nat.reduceLeDiff, Nat.reduceBEq, zm_len, VRs.un_len, hin, kp3 kd1, kp3 kd2, bq2, hw, e00, g1, g2, g3, g4]
              refine hj _ _ ?_
              exact ⟨rfl, rfl, hm0, hm1, hq00⟩
    · have k22 := e22 (z := z) H
      rcases Int.lt_or_le m 0 with hm0 | hm0
      · obtain ⟨l2, f2, kd2⟩ := draw_any z (IntKind.i64.wrap (m.tdiv 2)) q0
        have kd1 := e32 (z := z) (n := m) (below := q0) (.inl hm0)
        have t3 : m < 0 := hm0
        by_cases hf : ((1 : Int) == f2) = true
        · simp only [SA, setCells, Int.reduceLE, Int.reduceLT, ↓reduceIte, reduceCtorEq, Nat.reduceLT, Nat.reduceEqDiff, Nat.reduceAdd, Nat.reduceMul, Nat.reduceLeDiff, Nat.reduceBEq, kp4 k22, e1f, kp3 kd1, kp3 kd2, bq2, e10, hf]
          rfl
        · have hf' : ((1 : Int) == f2) = false := by simpa using hf
          simp only [SA, setCells, Int.reduceLE, Int.reduceLT, ↓reduceIte, reduceCtorEq, Nat.reduceLT, Nat.reduceEqDiff, Nat.reduceAdd, Nat.reduceMul, Nat.reduceLeDiff, Nat.reduceBEq, kp4 k22, e1f, kp3 kd1, kp3 kd2, bq2, e10, hf', t3]
          rfl
      · have t3 : ¬ m < 0 := by omega
        rcases Int.lt_or_le 4096 m with hm1 | hm1
        · obtain ⟨l2, f2, kd2⟩ := draw_any z (IntKind.i64.wrap (m.tdiv 2)) q0
          have kd1 := e32 (z := z) (n := m) (below := q0) (.inr (.inl hm1))
          have t4 : m > 4096 := hm1
          by_cases hf : ((1 : Int) == f2) = true
          · simp only [SA, setCells, Int.reduceLE, Int.reduceLT, ↓reduceIte, reduceCtorEq, Nat.reduceLT, Nat.reduceEqDiff, Nat.reduceAdd, Nat.reduceMul, Nat.reduceLeDiff, Nat.reduceBEq, kp4 k22, e1f, kp3 kd1, kp3 kd2, bq2, e10, hf]
            rfl
          · have hf' : ((1 : Int) == f2) = false := by simpa using hf
            simp only [SA, setCells, Int.reduceLE, Int.reduceLT, ↓reduceIte, reduceCtorEq, Nat.reduceLT, Nat.reduceEqDiff, Nat.reduceAdd, Nat.reduceMul, Nat.reduceLeDiff, Nat.reduceBEq, kp4 k22, e1f, kp3 kd1, kp3 kd2, bq2, e10, hf', t3, t4]
            rfl
        · by_cases hq00 : q0 = 0
          · have kd1 := e32 (z := z) (n := m) (below := q0) (.inr (.inr hq00))
            have kd2 := e32 (z := z) (n := IntKind.i64.wrap (m.tdiv 2)) (below := q0) (.inr (.inr hq00))
            have hf : ((1 : Int) == 1) = true := rfl
            simp only [SA, setCells, Int.reduceLE, Int.reduceLT, ↓reduceIte, reduceCtorEq, Nat.reduceLT, Nat.reduceEqDiff, Nat.reduceAdd, Nat.reduceMul, Nat.reduceLeDiff, Nat.reduceBEq, kp4 k22, e1f, kp3 kd1, kp3 kd2, bq2, e10, hf]
            rfl
          · have kd1 := p32 (z := z) (n := m) (below := q0) hm0 hm1 hq00
            have hw : IntKind.i64.wrap (m.tdiv 2) = ((m.toNat / 2 : Nat) : Int) := half_wrap hm0 hm1
            have kd2 := p32 (z := z) (n := ((m.toNat / 2 : Nat) : Int)) (below := q0) (by omega) (by omega) hq00
            rw [Int.toNat_natCast] at kd2
            have g1 : ((drw z q0 m.toNat).length : Int) = m := by rw [drw_len]; omega
            have g2 : ((drw z q0 (m.toNat / 2)).length : Int) = ((m.toNat / 2 : Nat) : Int) := by rw [drw_len]
            have g3 : (m != m) = false := by simp
            have g4 : (((m.toNat / 2 : Nat) : Int) != ((m.toNat / 2 : Nat) : Int)) = false := by simp
            simp only [SA, setCells, Int.reduceLE, Int.reduceLT, ↓reduceIte, reduceCtorEq, Nat.reduceLT, Nat.reduceEqDiff, Nat.reduceAdd, Nat.reduceMul, Nat.reduceLeDiff, Nat.reduceBEq, kp4 k22, e1f, kp3 kd1, kp3 kd2, bq2, hw, e00, g1, g2, g3, g4]
            refine hj _ _ ?_
            exact ⟨rfl, rfl, hm0, hm1, hq00⟩
  case rest =>
    rintro e ρ ⟨rfl, hρ, hm0, hm1, hq00⟩
    refine loop_rule (β := Nat) (fun t => ([(1, .p (.int .i64 m)), (2, .ptr 0 0 0), (17, .p (.sl (drw z q0 m.toNat))), (18, .p (.sl (drw z q0 (m.toNat / 2)))), (20, i64 t)], ρ)) (fun t => t ≤ m.toNat) (fun t => m.toNat - t) 0 rfl rfl (Nat.zero_le _) ?_
    intro i hi ih
    by_cases hin : (i : Int) < m
    · have hl := drw_get (z := z) (q := q0) (n := m.toNat) (i := i) (by omega)
      have t1 : ¬ ot (zst z i) q0 ≥ q0 := by have := ot_lt (z := zst z i) (q := q0) (by omega); omega
      have w1 : IntKind.i64.wrap ((i : Int) + 1) = ((i + 1 : Nat) : Int) := by rw [IntWalk.i64_in _ (by omega)]; omega
      have ex : (ot (zst z i) q0 != ot (zst z i) q0) = false := by simp
      by_cases h2 : (i : Int) < ((m.toNat / 2 : Nat) : Int)
      · have hl2 := drw_get (z := z) (q := q0) (n := m.toNat / 2) (i := i) (by omega)
        simp only [SA, setCells, Int.reduceLE, Int.reduceLT, ↓reduceIte, reduceCtorEq, Nat.reduceLT, Nat.reduceEqDiff, Nat.reduceAdd, Nat.reduceMul, Nat.reduceLeDiff, Nat.reduceBEq, hin, hl, hl2, hρ, t1, drw_len, h2, ex, Int.natCast_nonneg, Int.toNat_natCast, w1]
        refine ih (i + 1) _ (by omega) (by omega) ?_
        rfl
      · simp only [SA, setCells, Int.reduceLE, Int.reduceLT, ↓reduceIte, reduceCtorEq, Nat.reduceLT, Nat.reduceEqDiff, Nat.reduceAdd, Nat.reduceMul, Nat.reduceLeDiff, Nat.reduceBEq, hin, hl, hρ, t1, drw_len, h2, ex, Int.natCast_nonneg, Int.toNat_natCast, w1]
        refine ih (i + 1) _ (by omega) (by omega) ?_
        rfl
    · simp only [SA, setCells, Int.reduceLE, Int.reduceLT, ↓reduceIte, reduceCtorEq, Nat.reduceLT, Nat.reduceEqDiff, Nat.reduceAdd, Nat.reduceMul, Nat.reduceLeDiff, Nat.reduceBEq, hin]
      rfl
end Go.Proofs.Ytdpdnplljonppaa.VKw

namespace Go.Proofs.Ytdpdnplljonppaa.VKw
open Go Vpi Go.RowKit
set_option maxRecDepth 100000
set_option linter.unusedSimpArgs false
set_option linter.unusedVariables false
theorem shp_int {P : Program} {n : Nat} {t : TypeId} {k : IntKind} {ps : List PV} (ht : P.underlying t = some (.int k)) (h : shp P (n + 1) t ps) : ∃ i, ps = [.int k i] ∧ (Lit.int k i).wf = true := by
  rw [shp, ht] at h
  exact h
theorem shp_struct {P : Program} {n : Nat} {t : TypeId} {fs : Array Field} {ps : List PV} (ht : P.underlying t = some (.struct fs)) (h : shp P (n + 1) t ps) : shpL (shp P n) fs.toList ps := by
  rw [shp, ht] at h
  exact h
theorem wf_u64 {c : Int} (h : (Lit.int .u64 c).wf = true) : 0 ≤ c := by
  simp only [Lit.wf, Bool.and_eq_true, decide_eq_true_eq] at h
  have := h.1
  have e : IntKind.u64.min = 0 := rfl
  rw [e] at this
  omega
theorem law6 {ps : List PV} (w : shp Try.prog 8 49 ps) (m : Int) {W : World} {vs : List Value} (hl : 2 = vs.length)
    (hr : ∀ (k : Nat) p v, [PV.agg ps, .int .i64 m][k]? = some p → vs[k]? = some v → RepP W (· < W.heap.size) p v) : Calls Try.prog 6 vs.toArray W fun e W' => e = .returned (.bool true) ∧ Below W.heap.size W W' := by
  replace w := shp_struct Try.underlying49 w
  obtain ⟨a, r, rfl, ha, b, r, rfl, hb, c, r, rfl, hc, d, r, rfl, hd, rfl⟩ := w
  obtain ⟨n, rfl, _⟩ := shp_int Try.underlying3 ha
  obtain ⟨k, rfl, _⟩ := shp_int Try.underlying3 hb
  obtain ⟨q, rfl, hq⟩ := shp_int Try.underlying23 hc
  obtain ⟨z, rfl, _⟩ := shp_int Try.underlying23 hd
  obtain ⟨c, ks, e, σ, hp, hx⟩ := run6 (n := n) (k := k) (z := z) (m := m) (wf_u64 hq)
  exact top_pu mixed rp_ok (callK_sim (by kernel_rfl) fun w => Al.alive w) c6 hp hx hl hr
end Go.Proofs.Ytdpdnplljonppaa.VKw
