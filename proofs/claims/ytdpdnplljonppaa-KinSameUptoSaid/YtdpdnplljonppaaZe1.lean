/- The text of a number of one limb, 1, and of 0; The texts of 1, -1 and 0; The texts of three numbers; DERIVED: THE SHELF's CONTRACTS AT THIS DUMP, IN PLAIN WORDS (tools/lay-plain.mjs out of 'TryShelf.lean', which tools/lay-shelf.mjs wrote): THE SAME DECLARATIONS UNDER THE SAME NAMES: 'import', 'namespace', 'open', 'def', 'theorem' AND NOTHING ELSE: no command of the shelf's: FOR A HAND-IN. Each laying: the table of numbers ('.._ren') and one theorem, a field a fact of the dump's own or the kernel's comparison; each contract: ONE APPLICATION; The text of a vector of three numbers; The text of a matrix of two rows; alive; Resolved code of functions, printed by a program of ours (genfun.py); each is held against the model by chkF; The functions together; alive; A twisted basis: what the transform makes of the first, the lattice, the determinant of the transform; What the law's calls answer; The law KinSame, walked; What the bound on all arguments gives for their parts. No condition. -/
import Derived.Test.YtdpdnplljonppaaZb1
import Derived.Test.YtdpdnplljonppaaZa3
import Derived.Test.YtdpdnplljonppaaRows
import Derived.WalkKit
import Derived.WalkSpells
import Derived.WalkLawsBesides
import Derived.LoopN
import Derived.OwnWalk
import Derived.Laws.AppendOwn
import Derived.Laws.BytesString
import Derived.Laws.IdiomStrings
import Derived.Shelf.Strings.Builder1
import Derived.Shelf.Strings.Builder2
import Derived.Shelf.Strings.OnBuilder
import Derived.Shelf.Strings.BuilderF
import Derived.Shelf.Strings.BuilderK
import Derived.Shelf.Strings.Builder2Cap
import Derived.Shelf.Strings.BuilderCap
import Derived.Test.YtdpdnplljonppaaProg
import Derived.KernelRfl
import Derived.Test.YtdpdnplljonppaaZk1
import Derived.Test.YtdpdnplljonppaaZh1
import Derived.Test.YtdpdnplljonppaaZd1
import Derived.Test.YtdpdnplljonppaaZr1

namespace Go.Proofs.Ytdpdnplljonppaa
open Go.RowKit Vpi
set_option maxRecDepth 100000
namespace Al
def one : PV := .agg [.bool false, .sl [.int .u32 1]]
def neg : PV := .agg [.bool true, .sl [.int .u32 1]]
def nought : PV := .agg [.bool false, .sl []]
theorem norm1 : Pu VBn.rp 146 [.sl [.int .u32 1]] (.p (.sl [.int .u32 1])) := pu_closed (n := 1000) (by kernel_rfl)
theorem norm0 : Pu VBn.rp 146 [.sl []] (.p (.sl [])) := pu_closed (n := 1000) (by kernel_rfl)
theorem short1 : Pu VBn.rp 181 [.sl [.int .u32 1], .int .u32 1000000000] (.tup [.p (.sl []), .p (.int .u32 1)]) := pu_closed (n := 1000) (by kernel_rfl)
theorem call1 {f : Nat} {p : PV} {es : List PV} (k : Pu VBn.rp f [p] (.p (.sl es))) (w : World) {G : Nat → Prop} {v : Value} (hg : ∀ k, G k → k < w.heap.size) (hv : RepP w G p v) :
    Calls Try.prog f #[v] w fun e w' => ∃ a cap G', e = .returned (.slice a es.length cap) ∧ (∀ k, G' k → k < w'.heap.size) ∧ RepP w' G' (.sl es) (.slice a es.length cap) ∧ Below w.heap.size w w' := by
  refine (call_pu VBn.sim (w := w) (G := G) hg k (vs := [v]) rfl ?_).mono ?_
  · intro k p u hk hu
    rcases k with _ | k
    · simp only [List.getElem?_cons_zero, Option.some.injEq] at hk hu; subst hk; subst hu; exact hv
    · simp at hk
  rintro e w' ⟨v, G', rfl, hg, _, hr, hb⟩
  obtain ⟨a, cap, rfl⟩ := repP_sl (repC_p hr)
  exact ⟨a, cap, G', rfl, hg, repC_p hr, hb⟩
theorem short (w : World) {G : Nat → Prop} {v : Value} (hg : ∀ k, G k → k < w.heap.size) (hv : RepP w G (.sl [.int .u32 1]) v) :
    Calls Try.prog 181 #[v, .int .u32 1000000000] w fun e w' => ∃ a cap, e = .returned (.tuple #[.slice a 0 cap, .int .u32 1]) ∧ Below w.heap.size w w' := by
  refine (call_pu VBn.sim (w := w) (G := G) hg short1 (vs := [v, .int .u32 1000000000]) rfl ?_).mono ?_
  · intro k p u hk hu
    rcases k with _ | _ | k
    · simp only [List.getElem?_cons_zero, Option.some.injEq] at hk hu; subst hk; subst hu; exact hv
    · simp only [List.getElem?_cons_succ, List.getElem?_cons_zero, Option.some.injEq] at hk hu; subst hk; subst hu; exact .int _ _
    · simp at hk
  rintro e w' ⟨v, G', rfl, hg, _, hr, hb⟩
  cases hr with
  | tup cs vs hl hk =>
    match vs, hl, hk with
    | [x, y], _, hk =>
      obtain ⟨a, cap, rfl⟩ := repP_sl (repC_p (hk 0 _ x rfl rfl))
      rw [repP_int (repC_p (hk 1 _ y rfl rfl))]
      exact ⟨a, cap, rfl, hb⟩
theorem conv1 (w : World) (b c : Nat) (h : w.cell? ⟨b, 0, none⟩ = some (.int .u8 49)) : (convert 177 9 (.slice (some ⟨b, 0, none⟩) 1 c)).run Try.prog w = .ok (.string ⟨#[49]⟩) w := by
  rw [run_convert_bytes_string w 177 9 5 _ 1 c Try.underlying177 Try.underlying5 Try.underlying9]
  refine (run_bytesToString w ⟨b, 0, none⟩ 1 c [49] ?_).trans ?_
  · simp [go_sem, h]
  · rfl
set_option maxHeartbeats 1000000 in
theorem text0 (w : World) {G : Nat → Prop} {v : Value} (hg : ∀ k, G k → k < w.heap.size) (hv : RepP w G (.sl []) v) :
    Calls Try.prog 195 #[v] w fun e w' => e = .returned (.string ⟨#[48]⟩) ∧ Below w.heap.size w w' := by
  go_enter Try.func195, Try.ntmps195
  go_wp2_with (go_at_call 146; refine (call1 norm0 _ hg hv).mono ?_; rintro e w1 ⟨a, cap, G1, rfl, hg1, hr1, hb1⟩)
  go_ret
  exact ⟨rfl, hb1⟩
set_option maxHeartbeats 1000000 in
theorem text1 (w : World) {G : Nat → Prop} {v : Value} (hg : ∀ k, G k → k < w.heap.size) (hv : RepP w G (.sl [.int .u32 1]) v) :
    Calls Try.prog 195 #[v] w fun e w' => e = .returned (.string ⟨#[49]⟩) ∧ Below w.heap.size w w' := by
  go_enter Try.func195, Try.ntmps195
  go_wp2_with (go_at_call 146; refine (call1 norm1 _ hg hv).mono ?_; rintro e w1 ⟨a, cap, G1, rfl, hg1, hr1, hb1⟩)
  refine wp_loop_rounds 2 ?_
  rw [rounds_succ]
  go_wp2_with (go_at_call 181; refine (short _ hg1 hr1).mono ?_; rintro e w2 ⟨a2, cap2, rfl, hb2⟩)
  refine wp_loop_rounds 2 ?_
  rw [rounds_succ]
  go_wp2
  rw [rounds_succ]
  go_wp2
  rw [rounds_succ]
  go_wp2
  refine wp_loop_rounds 1 ?_
  rw [rounds_succ]
  go_wp2
  rw [conv1 _ _ _ (by simp [go_sem]; rw [Array.getElem?_append_left (by simp)]; rfl)]
  simp only [Result.andThen]
  go_wp2
  go_ret
  have hb := hb1.trans (hb2.mono hb1.size)
  exact ⟨rfl, ((hb.alloc hb.size _).alloc (by simp; have := hb.size; omega) _).drew⟩
end Al
end Go.Proofs.Ytdpdnplljonppaa

namespace Go.Proofs.Ytdpdnplljonppaa
open Go.RowKit Vpi
set_option maxRecDepth 100000
namespace Al
theorem rep_below {w w' : World} {G : Nat → Prop} {p : PV} {v : Value} (hg : ∀ k, G k → k < w.heap.size) (h : RepP w G p v) (hb : Below w.heap.size w w') : RepP w' G p v := h.mono (fun k hk => hb.block k (hg k hk)) fun _ h => h
theorem lt_below {w w' : World} {G : Nat → Prop} (hg : ∀ k, G k → k < w.heap.size) (hb : Below w.heap.size w w') : ∀ k, G k → k < w'.heap.size := fun k hk => Nat.lt_of_lt_of_le (hg k hk) hb.size
theorem below_alloc {w : World} (o : Obj) : Below w.heap.size w (w.alloc o) := (Below.refl w.heap.size w).alloc (Nat.le_refl _) o
theorem rep2 {w : World} {G : Nat → Prop} {s : Bool} {es : List PV} {v : Value} (h : RepP w G (.agg [.bool s, .sl es]) v) : ∃ a cap, v = .agg #[.bool s, .slice a es.length cap] ∧ RepP w G (.sl es) (.slice a es.length cap) := by
  cases h with
  | agg cs vs hl hk h1 =>
    match vs, hl, hk with
    | [x, y], _, hk =>
      have hx := hk 0 _ x rfl rfl
      have hy := hk 1 _ y rfl rfl
      obtain ⟨a, cap, rfl⟩ := repP_sl hy
      cases hx
      exact ⟨a, cap, rfl, hy⟩
theorem sign1 : Pu VBn.rp 55 [one] (.p (.int .i64 1)) := pu_closed (n := 1000) (by kernel_rfl)
theorem signn : Pu VBn.rp 55 [neg] (.p (.int .i64 (-1))) := pu_closed (n := 1000) (by kernel_rfl)
theorem sign0 : Pu VBn.rp 55 [nought] (.p (.int .i64 0)) := pu_closed (n := 1000) (by kernel_rfl)
theorem calln {f : Nat} {p : PV} {x : Int} (k : Pu VBn.rp f [p] (.p (.int .i64 x))) (w : World) {G : Nat → Prop} {v : Value} (hg : ∀ k, G k → k < w.heap.size) (hv : RepP w G p v) :
    Calls Try.prog f #[v] w fun e w' => e = .returned (.int .i64 x) ∧ Below w.heap.size w w' := by
  refine (call_pu VBn.sim (w := w) (G := G) hg k (vs := [v]) rfl ?_).mono ?_
  · intro k p u hk hu
    rcases k with _ | k
    · simp only [List.getElem?_cons_zero, Option.some.injEq] at hk hu; subst hk; subst hu; exact hv
    · simp at hk
  rintro e w' ⟨v, G', rfl, hg, _, hr, hb⟩
  exact ⟨by rw [repP_int (repC_p hr)], hb⟩
set_option maxHeartbeats 1000000 in
theorem zpos {s : Bool} {es : List PV} {x : Int} {t : ByteArray} (k : Pu VBn.rp 55 [.agg [.bool s, .sl es]] (.p (.int .i64 x))) (hx : ¬ x < 0)
    (ht : ∀ (w : World) (G : Nat → Prop) (v : Value), (∀ k, G k → k < w.heap.size) → RepP w G (.sl es) v → Calls Try.prog 195 #[v] w fun e w' => e = .returned (.string t) ∧ Below w.heap.size w w')
    (w : World) {G : Nat → Prop} {v : Value} (hg : ∀ k, G k → k < w.heap.size) (hv : RepP w G (.agg [.bool s, .sl es]) v) :
    Calls Try.prog 167 #[v] w fun e w' => e = .returned (.string t) ∧ Below w.heap.size w w' := by
  obtain ⟨a, cap, rfl, hs⟩ := rep2 hv
  go_enter Try.func167, Try.ntmps167
  go_wp2_with (first
    | (go_at_call 55; refine (calln k _ (lt_below hg (below_alloc _)) (rep_below hg hv (below_alloc _))).mono ?_; rintro e w1 ⟨rfl, hb1⟩; have c1 : w1.cell? ⟨w.heap.size, 1, none⟩ = some (.slice a es.length cap) := by rw [hb1.cell (by simp)]; simp [go_sem])
    | (go_at_call 195; have hb2 := (below_alloc (w := w) _).trans (hb1.mono (by simp)); refine (ht _ G _ (lt_below hg hb2) (rep_below hg hs hb2)).mono ?_; rintro e w2 ⟨rfl, hb3⟩))
  go_ret
  have hb2 := (below_alloc (w := w) _).trans (hb1.mono (by simp))
  exact ⟨rfl, hb2.trans (hb3.mono hb2.size)⟩
set_option maxHeartbeats 1000000 in
theorem zneg {s : Bool} {es : List PV} {x : Int} (k : Pu VBn.rp 55 [.agg [.bool s, .sl es]] (.p (.int .i64 x))) (hx : x < 0)
    (ht : ∀ (w : World) (G : Nat → Prop) (v : Value), (∀ k, G k → k < w.heap.size) → RepP w G (.sl es) v → Calls Try.prog 195 #[v] w fun e w' => e = .returned (.string ⟨#[49]⟩) ∧ Below w.heap.size w w')
    (w : World) {G : Nat → Prop} {v : Value} (hg : ∀ k, G k → k < w.heap.size) (hv : RepP w G (.agg [.bool s, .sl es]) v) :
    Calls Try.prog 167 #[v] w fun e w' => e = .returned (.string ⟨#[45, 49]⟩) ∧ Below w.heap.size w w' := by
  obtain ⟨a, cap, rfl, hs⟩ := rep2 hv
  go_enter Try.func167, Try.ntmps167
  go_wp2_with (first
    | (go_at_call 55; refine (calln k _ (lt_below hg (below_alloc _)) (rep_below hg hv (below_alloc _))).mono ?_; rintro e w1 ⟨rfl, hb1⟩; have c1 : w1.cell? ⟨w.heap.size, 1, none⟩ = some (.slice a es.length cap) := by rw [hb1.cell (by simp)]; simp [go_sem])
    | (go_at_call 195; have hb2 := (below_alloc (w := w) _).trans (hb1.mono (by simp)); refine (ht _ G _ (lt_below hg hb2) (rep_below hg hs hb2)).mono ?_; rintro e w2 ⟨rfl, hb3⟩))
  go_ret
  have hb2 := (below_alloc (w := w) _).trans (hb1.mono (by simp))
  exact ⟨rfl, hb2.trans (hb3.mono hb2.size)⟩
def Tx (p : PV) (t : ByteArray) : Prop := ∀ (w : World) (G : Nat → Prop) (v : Value), (∀ k, G k → k < w.heap.size) → RepP w G p v → Calls Try.prog 167 #[v] w fun e w' => e = .returned (.string t) ∧ Below w.heap.size w w'
theorem tx1 : Tx one ⟨#[49]⟩ := fun w G v hg hv => zpos sign1 (by decide) (fun w G v hg hv => text1 w hg hv) w hg hv
theorem txn : Tx neg ⟨#[45, 49]⟩ := fun w G v hg hv => zneg signn (by decide) (fun w G v hg hv => text1 w hg hv) w hg hv
theorem tx0 : Tx nought ⟨#[48]⟩ := fun w G v hg hv => zpos sign0 (by decide) (fun w G v hg hv => text0 w hg hv) w hg hv
end Al
end Go.Proofs.Ytdpdnplljonppaa

namespace Go.Proofs.Ytdpdnplljonppaa
open Go.RowKit Vpi
set_option maxRecDepth 100000
namespace Al
theorem cell_of {w : World} {blk o : Nat} {arr : Array Value} {el : TypeId} {fr : Nat × Nat} {u : Value} (h : w.heap[blk]? = some (.cells arr el fr)) (hu : arr[o]? = some u) : w.cell? ⟨blk, o, none⟩ = some u := by
  simp [World.cell?, h, hu]
theorem rep_el {w : World} {G : Nat → Prop} {es : List PV} {v : Value} (h : RepP w G (.sl es) v) (h0 : 0 < es.length) (he : ∀ (i : Nat) e, es[i]? = some e → ∃ s l, e = .agg [.bool s, .sl l]) :
    ∃ blk off cap, v = .slice (some ⟨blk, off, none⟩) es.length cap ∧ G blk ∧ ∀ (i : Nat) s l, es[i]? = some (.agg [.bool s, .sl l]) → ∃ a c, w.cell? ⟨blk, off + i * 2, none⟩ = some (.bool s) ∧ w.cell? ⟨blk, off + i * 2 + 1, none⟩ = some (.slice a l.length c) ∧ RepP w G (.agg [.bool s, .sl l]) (.agg #[.bool s, .slice a l.length c]) := by
  cases h with
  | nil a cap => simp at h0
  | sl _ blk off arr el fr cap sz hg hb hc hs hlen hk h1 =>
    have hsz : sz = 2 := by
      obtain ⟨s, l, hsl⟩ := he 0 es[0] (by simp [h0])
      have := hlen 0 es[0] (by simp [h0])
      rw [hsl] at this
      simpa [PV.cells] using this.symm
    subst hsz
    refine ⟨blk, off, cap, rfl, hg, fun i s l hi => ?_⟩
    have hil := (List.getElem?_eq_some_iff.1 hi).1
    have hb1 : off + i * 2 + 1 < arr.size := by omega
    have hb0 : off + i * 2 < arr.size := by omega
    have e0 : arr[off + i * 2 + 0]? = some arr[off + i * 2] := by rw [Nat.add_zero]; exact Array.getElem?_eq_getElem hb0
    have e1 : arr[off + i * 2 + 1]? = some arr[off + i * 2 + 1] := Array.getElem?_eq_getElem hb1
    have r0 := hk i _ 0 (.bool s) _ hi rfl e0
    have r1 := hk i _ 1 (.sl l) _ hi rfl e1
    obtain ⟨a, c, ha⟩ := repP_sl r1
    rw [ha] at e1 r1
    generalize arr[off + i * 2] = u at *
    cases r0
    refine ⟨a, c, cell_of hb (by rw [Nat.add_zero] at e0; exact e0), cell_of hb e1, .agg [.bool s, .sl l] [.bool s, .slice a l.length c] rfl ?_ ?_⟩
    · intro k p u hk hu
      rcases k with _ | _ | k
      · simp only [List.getElem?_cons_zero, Option.some.injEq] at hk hu; subst hk; subst hu; exact .bool _
      · simp only [List.getElem?_cons_succ, List.getElem?_cons_zero, Option.some.injEq] at hk hu; subst hk; subst hu; exact r1
      · simp at hk
    · intro u hu
      simp at hu
      rcases hu with rfl | rfl <;> rfl
set_option maxHeartbeats 4000000 in
theorem each3 {s0 s1 s2 : Bool} {l0 l1 l2 : List PV} {t0 t1 t2 : ByteArray} (h0 : Tx (.agg [.bool s0, .sl l0]) t0) (h1 : Tx (.agg [.bool s1, .sl l1]) t1) (h2 : Tx (.agg [.bool s2, .sl l2]) t2)
    (w : World) {G : Nat → Prop} {v : Value} (hg : ∀ k, G k → k < w.heap.size) (hv : RepP w G (.sl [.agg [.bool s0, .sl l0], .agg [.bool s1, .sl l1], .agg [.bool s2, .sl l2]]) v) :
    Calls Try.prog 166 #[v, .func (.func 167) #[] #[]] w fun e w' => ∃ bk, e = .returned (.slice (some ⟨bk, 0, none⟩) 3 3) ∧ w'.cell? ⟨bk, 0, none⟩ = some (.string t0) ∧ w'.cell? ⟨bk, 1, none⟩ = some (.string t1) ∧ w'.cell? ⟨bk, 2, none⟩ = some (.string t2) ∧ bk < w'.heap.size ∧ Below w.heap.size w w' := by
  obtain ⟨blk, off, cap, rfl, hG, hel⟩ := rep_el hv (by simp) (by
    intro i e hi
    rcases i with _ | _ | _ | i <;> simp at hi <;> subst hi <;> exact ⟨_, _, rfl⟩)
  obtain ⟨a0, k0, c00, c01, r0⟩ := hel 0 s0 l0 rfl
  obtain ⟨a1, k1, c10, c11, r1⟩ := hel 1 s1 l1 rfl
  obtain ⟨a2, k2, c20, c21, r2⟩ := hel 2 s2 l2 rfl
  simp only [Nat.zero_mul, Nat.add_zero, Nat.one_mul, Nat.reduceMul, Nat.add_assoc, Nat.reduceAdd] at c00 c01 c10 c11 c20 c21
  have hlt := hg blk hG
  have hmk : ∀ w : World, (Instr.makeSlice 142 (.int .i64 0) (.int .i64 3)).run Try.prog w = .ok (.slice (some ⟨w.heap.size, 0, none⟩) 0 3) (w.alloc (Obj.cells #[.string ⟨#[]⟩, .string ⟨#[]⟩, .string ⟨#[]⟩] 9)) := fun _ => by kernel_rfl
  go_enter Try.func166, Try.ntmps166
  go_wp2
  refine wp_loop_rounds 4 ?_
  have hb0 := below_alloc (w := w) (Obj.cells #[.string ⟨#[]⟩, .string ⟨#[]⟩, .string ⟨#[]⟩] 9)
  have q00 : (w.alloc (Obj.cells #[.string ⟨#[]⟩, .string ⟨#[]⟩, .string ⟨#[]⟩] 9)).cell? ⟨w.heap.size, 0, none⟩ = some (.string ⟨#[]⟩) := by simp [go_sem]
  have q01 : (w.alloc (Obj.cells #[.string ⟨#[]⟩, .string ⟨#[]⟩, .string ⟨#[]⟩] 9)).cell? ⟨w.heap.size, 1, none⟩ = some (.string ⟨#[]⟩) := by simp [go_sem]
  have q02 : (w.alloc (Obj.cells #[.string ⟨#[]⟩, .string ⟨#[]⟩, .string ⟨#[]⟩] 9)).cell? ⟨w.heap.size, 2, none⟩ = some (.string ⟨#[]⟩) := by simp [go_sem]
  have fB0 : ∀ j, (w.alloc (Obj.cells #[.string ⟨#[]⟩, .string ⟨#[]⟩, .string ⟨#[]⟩] 9)).frozen? ⟨w.heap.size, j, none⟩ = false := fun j => by simp [go_sem]
  have lB0 : w.heap.size < (w.alloc (Obj.cells #[.string ⟨#[]⟩, .string ⟨#[]⟩, .string ⟨#[]⟩] 9)).heap.size := by simp
  generalize w.alloc (Obj.cells #[.string ⟨#[]⟩, .string ⟨#[]⟩, .string ⟨#[]⟩] 9) = W0 at *
  have d0 := (hb0.cell (p := ⟨blk, off, none⟩) hlt).trans c00
  have d1 := (hb0.cell (p := ⟨blk, off + 1, none⟩) hlt).trans c01
  rw [rounds_succ]
  go_wp2_with (go_at_call 167; refine (h0 _ G _ (lt_below hg (hb0.trans ((below_alloc _).mono hb0.size))) (rep_below hg r0 (hb0.trans ((below_alloc _).mono hb0.size)))).mono ?_; rintro e w1 ⟨rfl, hc0⟩; have lw : W0.heap.size < w1.heap.size := Nat.lt_of_lt_of_le (by simp) hc0.size; have hX := (((below_alloc (w := W0) (Obj.cells #[.bool s0, .slice a0 l0.length k0] 41)).trans (hc0.mono (by simp))).trans ((below_alloc (w := w1) (Obj.cells #[.string t0] 9)).mono (Nat.le_of_lt lw))); have eW := (hX.cell (p := ⟨w.heap.size, 0, none⟩) lB0).trans q00; have fW := (hX.frozen (p := ⟨w.heap.size, 0, none⟩) lB0).trans (fB0 0))
  have hb1 : Below w.heap.size w ((w1.alloc (Obj.cells #[.string t0] 9)).setCell ⟨w.heap.size, 0, none⟩ (.string t0)) := (hb0.trans (hX.mono hb0.size)).setCell (Nat.le_refl _) _
  have q10 : ((w1.alloc (Obj.cells #[.string t0] 9)).setCell ⟨w.heap.size, 0, none⟩ (.string t0)).cell? ⟨w.heap.size, 0, none⟩ = some (.string t0) := World.cell?_setCell_same _ _ _ eW
  have q11 := (World.cell?_setCell_other (w1.alloc (Obj.cells #[.string t0] 9)) ⟨w.heap.size, 0, none⟩ ⟨w.heap.size, 1, none⟩ (.string t0) (by simp)).trans ((hX.cell (p := ⟨w.heap.size, 1, none⟩) lB0).trans q01)
  have q12 := (World.cell?_setCell_other (w1.alloc (Obj.cells #[.string t0] 9)) ⟨w.heap.size, 0, none⟩ ⟨w.heap.size, 2, none⟩ (.string t0) (by simp)).trans ((hX.cell (p := ⟨w.heap.size, 2, none⟩) lB0).trans q02)
  have fB1 : ∀ j, ((w1.alloc (Obj.cells #[.string t0] 9)).setCell ⟨w.heap.size, 0, none⟩ (.string t0)).frozen? ⟨w.heap.size, j, none⟩ = false := fun j => by rw [World.frozen?_setCell]; exact (hX.frozen (p := ⟨w.heap.size, j, none⟩) lB0).trans (fB0 j)
  have lB1 : w.heap.size < ((w1.alloc (Obj.cells #[.string t0] 9)).setCell ⟨w.heap.size, 0, none⟩ (.string t0)).heap.size := by simp; omega
  generalize ((w1.alloc (Obj.cells #[.string t0] 9)).setCell ⟨w.heap.size, 0, none⟩ (.string t0)) = W1 at *
  clear d0 d1 lw hX eW fW
  have d0 := (hb1.cell (p := ⟨blk, off + 2, none⟩) hlt).trans c10
  have d1 := (hb1.cell (p := ⟨blk, off + 3, none⟩) hlt).trans c11
  rw [rounds_succ]
  go_wp2_with (go_at_call 167; refine (h1 _ G _ (lt_below hg (hb1.trans ((below_alloc _).mono hb1.size))) (rep_below hg r1 (hb1.trans ((below_alloc _).mono hb1.size)))).mono ?_; rintro e w2 ⟨rfl, hc1⟩; have lw : W1.heap.size < w2.heap.size := Nat.lt_of_lt_of_le (by simp) hc1.size; have hX := (((below_alloc (w := W1) (Obj.cells #[.bool s1, .slice a1 l1.length k1] 41)).trans (hc1.mono (by simp))).trans ((below_alloc (w := w2) (Obj.cells #[.string t1] 9)).mono (Nat.le_of_lt lw))); have eW := (hX.cell (p := ⟨w.heap.size, 1, none⟩) lB1).trans q11; have fW := (hX.frozen (p := ⟨w.heap.size, 1, none⟩) lB1).trans (fB1 1))
  have hb2 : Below w.heap.size w ((w2.alloc (Obj.cells #[.string t1] 9)).setCell ⟨w.heap.size, 1, none⟩ (.string t1)) := (hb1.trans (hX.mono hb1.size)).setCell (Nat.le_refl _) _
  have q20 := (World.cell?_setCell_other (w2.alloc (Obj.cells #[.string t1] 9)) ⟨w.heap.size, 1, none⟩ ⟨w.heap.size, 0, none⟩ (.string t1) (by simp)).trans ((hX.cell (p := ⟨w.heap.size, 0, none⟩) lB1).trans q10)
  have q21 : ((w2.alloc (Obj.cells #[.string t1] 9)).setCell ⟨w.heap.size, 1, none⟩ (.string t1)).cell? ⟨w.heap.size, 1, none⟩ = some (.string t1) := World.cell?_setCell_same _ _ _ eW
  have q22 := (World.cell?_setCell_other (w2.alloc (Obj.cells #[.string t1] 9)) ⟨w.heap.size, 1, none⟩ ⟨w.heap.size, 2, none⟩ (.string t1) (by simp)).trans ((hX.cell (p := ⟨w.heap.size, 2, none⟩) lB1).trans q12)
  have fB2 : ∀ j, ((w2.alloc (Obj.cells #[.string t1] 9)).setCell ⟨w.heap.size, 1, none⟩ (.string t1)).frozen? ⟨w.heap.size, j, none⟩ = false := fun j => by rw [World.frozen?_setCell]; exact (hX.frozen (p := ⟨w.heap.size, j, none⟩) lB1).trans (fB1 j)
  have lB2 : w.heap.size < ((w2.alloc (Obj.cells #[.string t1] 9)).setCell ⟨w.heap.size, 1, none⟩ (.string t1)).heap.size := by simp; omega
  generalize ((w2.alloc (Obj.cells #[.string t1] 9)).setCell ⟨w.heap.size, 1, none⟩ (.string t1)) = W2 at *
  clear d0 d1 lw hX eW fW
  have d0 := (hb2.cell (p := ⟨blk, off + 4, none⟩) hlt).trans c20
  have d1 := (hb2.cell (p := ⟨blk, off + 5, none⟩) hlt).trans c21
  rw [rounds_succ]
  go_wp2_with (go_at_call 167; refine (h2 _ G _ (lt_below hg (hb2.trans ((below_alloc _).mono hb2.size))) (rep_below hg r2 (hb2.trans ((below_alloc _).mono hb2.size)))).mono ?_; rintro e w3 ⟨rfl, hc2⟩; have lw : W2.heap.size < w3.heap.size := Nat.lt_of_lt_of_le (by simp) hc2.size; have hX := (((below_alloc (w := W2) (Obj.cells #[.bool s2, .slice a2 l2.length k2] 41)).trans (hc2.mono (by simp))).trans ((below_alloc (w := w3) (Obj.cells #[.string t2] 9)).mono (Nat.le_of_lt lw))); have eW := (hX.cell (p := ⟨w.heap.size, 2, none⟩) lB2).trans q22; have fW := (hX.frozen (p := ⟨w.heap.size, 2, none⟩) lB2).trans (fB2 2))
  have hb3 : Below w.heap.size w ((w3.alloc (Obj.cells #[.string t2] 9)).setCell ⟨w.heap.size, 2, none⟩ (.string t2)) := (hb2.trans (hX.mono hb2.size)).setCell (Nat.le_refl _) _
  have q30 := (World.cell?_setCell_other (w3.alloc (Obj.cells #[.string t2] 9)) ⟨w.heap.size, 2, none⟩ ⟨w.heap.size, 0, none⟩ (.string t2) (by simp)).trans ((hX.cell (p := ⟨w.heap.size, 0, none⟩) lB2).trans q20)
  have q31 := (World.cell?_setCell_other (w3.alloc (Obj.cells #[.string t2] 9)) ⟨w.heap.size, 2, none⟩ ⟨w.heap.size, 1, none⟩ (.string t2) (by simp)).trans ((hX.cell (p := ⟨w.heap.size, 1, none⟩) lB2).trans q21)
  have q32 : ((w3.alloc (Obj.cells #[.string t2] 9)).setCell ⟨w.heap.size, 2, none⟩ (.string t2)).cell? ⟨w.heap.size, 2, none⟩ = some (.string t2) := World.cell?_setCell_same _ _ _ eW
  have fB3 : ∀ j, ((w3.alloc (Obj.cells #[.string t2] 9)).setCell ⟨w.heap.size, 2, none⟩ (.string t2)).frozen? ⟨w.heap.size, j, none⟩ = false := fun j => by rw [World.frozen?_setCell]; exact (hX.frozen (p := ⟨w.heap.size, j, none⟩) lB2).trans (fB2 j)
  have lB3 : w.heap.size < ((w3.alloc (Obj.cells #[.string t2] 9)).setCell ⟨w.heap.size, 2, none⟩ (.string t2)).heap.size := by simp; omega
  generalize ((w3.alloc (Obj.cells #[.string t2] 9)).setCell ⟨w.heap.size, 2, none⟩ (.string t2)) = W3 at *
  clear d0 d1 lw hX eW fW
  rw [rounds_succ]
  go_wp2
  go_ret
  exact ⟨_, rfl, q30, q31, q32, lB3, hb3⟩
end Al
end Go.Proofs.Ytdpdnplljonppaa

namespace Go.Proofs
open Go.Shelf
def Try.lays156_ren : Go.Shelf.Ren := ⟨fun | 156 => 124 | 165 => 163 | 166 => 164 | 169 => 165 | 240 => 193 | 241 => 194 | 276 => 204 | 277 => 205 | n => n, fun | 31 => 142 | 9 => 9 | 3 => 3 | 4 => 4 | 0 => 0 | 20 => 20 | 72 => 179 | 76 => 183 | 70 => 176 | 37 => 177 | 75 => 182 | 127 => 209 | 164 => 215 | 5 => 5 | 80 => 185 | n => n, fun | n => n⟩
theorem Try.lays156 : Go.Proofs.Lays.n156 Try.prog Try.lays156_ren := {
  mixed := by kernel_rfl
  f156 := Try.func124.trans (congrArg some (by kernel_rfl))
  f165 := Try.func163.trans (congrArg some (by kernel_rfl))
  f166 := Try.func164.trans (congrArg some (by kernel_rfl))
  f169 := Try.func165.trans (congrArg some (by kernel_rfl))
  f240 := Try.func193.trans (congrArg some (by kernel_rfl))
  f241 := Try.func194.trans (congrArg some (by kernel_rfl))
  f276 := Try.func204.trans (congrArg some (by kernel_rfl))
  f277 := Try.func205.trans (congrArg some (by kernel_rfl))
  t0 := Try.underlying0
  a0 := Try.isAgg0
  z0 := Try.sizeOf0
  v0 := Try.zeroValue0
  t3 := Try.underlying3
  a3 := Try.isAgg3
  z3 := Try.sizeOf3
  v3 := Try.zeroValue3
  t4 := Try.underlying4
  a4 := Try.isAgg4
  z4 := Try.sizeOf4
  v4 := Try.zeroValue4
  t9 := Try.underlying9
  a9 := Try.isAgg9
  z9 := Try.sizeOf9
  v9 := Try.zeroValue9
  t20 := Try.underlying20
  a20 := Try.isAgg20
  z20 := Try.sizeOf20
  v20 := Try.zeroValue20
  t31 := Try.underlying142
  a31 := Try.isAgg142
  z31 := Try.sizeOf142
  v31 := Try.zeroValue142
  t37 := Try.underlying177
  a37 := Try.isAgg177
  z37 := Try.sizeOf177
  v37 := Try.zeroValue177
  t70 := Try.underlying176
  a70 := Try.isAgg176
  z70 := Try.sizeOf176
  v70 := Try.zeroValue176
  t72 := Try.underlying179
  a72 := Try.isAgg179
  z72 := Try.sizeOf179
  v72 := Try.zeroValue179
  t75 := Try.underlying182
  a75 := Try.isAgg182
  z75 := Try.sizeOf182
  v75 := Try.zeroValue182
  t76 := Try.underlying183
  a76 := Try.isAgg183
  z76 := Try.sizeOf183
  v76 := Try.zeroValue183
  t127 := Try.underlying209
  a127 := Try.isAgg209
  z127 := Try.sizeOf209
  v127 := Try.zeroValue209
  t164 := Try.underlying215
  a164 := Try.isAgg215
  z164 := Try.sizeOf215
  v164 := Try.zeroValue215 }
theorem Try.Builder_Extra_156 : Builder.Extra Try.prog Try.lays156_ren := {
  sizeBuilder := by kernel_rfl
  liesBuilder := by kernel_rfl
  t5 := Try.underlying5
  a5 := Try.isAgg5
  z5 := Try.sizeOf5
  v5 := Try.zeroValue5
  infoByte := by kernel_rfl
  cellsByte := by kernel_rfl
  sizeByte := by kernel_rfl
  neB5 := by decide }
open Go.RowKit in
theorem Try.strings_Join (bk o c : Nat) (xs : List ByteArray) (sep : ByteArray) (w : World) (hcells : ∀ (j : Nat) x, xs[j]? = some x → w.cell? ⟨bk, o + j, none⟩ = some (.string x)) (hbk : bk < w.heap.size) (hN : xs.length ≤ 140737488355328) (hcap : xs.length ≤ c) (hlen : (Lib.join (xs.map (·.data.toList)) sep.data.toList).length ≤ 140737488355328) :
    Calls Try.prog 124 #[.slice (some ⟨bk, o, none⟩) xs.length c, .string sep] w fun e w' => e = .returned (.string ⟨(Lib.join (xs.map (·.data.toList)) sep.data.toList).toArray⟩) ∧ Below w.heap.size w w' := Any.strings_Join Try.lays156 Try.Builder_Extra_156 bk o c xs sep w hcells hbk hN hcap hlen
end Go.Proofs

namespace Go.Proofs.Ytdpdnplljonppaa
open Go.RowKit Vpi
set_option maxRecDepth 100000
namespace Al
def Tv (p : PV) (t : ByteArray) : Prop := ∀ (w : World) (G : Nat → Prop) (v : Value), (∀ k, G k → k < w.heap.size) → RepP w G p v → Calls Try.prog 126 #[v] w fun e w' => e = .returned (.string t) ∧ Below w.heap.size w w'
theorem cells3 {w : World} {bk : Nat} {t0 t1 t2 : ByteArray} (c0 : w.cell? ⟨bk, 0, none⟩ = some (.string t0)) (c1 : w.cell? ⟨bk, 1, none⟩ = some (.string t1)) (c2 : w.cell? ⟨bk, 2, none⟩ = some (.string t2)) :
    ∀ (j : Nat) x, [t0, t1, t2][j]? = some x → w.cell? ⟨bk, 0 + j, none⟩ = some (.string x) := by
  intro j x h
  rcases j with _ | _ | _ | j <;> simp at h <;> subst h <;> assumption
theorem tv {s0 s1 s2 : Bool} {l0 l1 l2 : List PV} {t0 t1 t2 t : ByteArray} (h0 : Tx (.agg [.bool s0, .sl l0]) t0) (h1 : Tx (.agg [.bool s1, .sl l1]) t1) (h2 : Tx (.agg [.bool s2, .sl l2]) t2)
    (hl : (Lib.join ([t0, t1, t2].map (·.data.toList)) (⟨#[32]⟩ : ByteArray).data.toList).length ≤ 140737488355328) (ht : (⟨(Lib.join ([t0, t1, t2].map (·.data.toList)) (⟨#[32]⟩ : ByteArray).data.toList).toArray⟩ : ByteArray) = t) :
    Tv (.sl [.agg [.bool s0, .sl l0], .agg [.bool s1, .sl l1], .agg [.bool s2, .sl l2]]) t := by
  intro w G v hg hv
  go_enter Try.func126, Try.ntmps126
  go_wp2_with (first
    | (go_at_call 166; refine (each3 h0 h1 h2 _ hg hv).mono ?_; rintro e w1 ⟨bk, rfl, c0, c1, c2, lb, hb1⟩)
    | (go_at_call 124; refine (Try.strings_Join bk 0 3 [t0, t1, t2] ⟨#[32]⟩ w1 (cells3 c0 c1 c2) lb (by simp) (by simp) hl).mono ?_; rintro e w2 ⟨rfl, hb2⟩))
  go_ret
  exact ⟨by rw [← ht]; rfl, hb1.trans (hb2.mono hb1.size)⟩
theorem tvA : Tv (.sl [one, neg, nought]) ⟨#[49, 32, 45, 49, 32, 48]⟩ := tv tx1 txn tx0 (by decide) (by decide)
theorem tvB : Tv (.sl [nought, one, neg]) ⟨#[48, 32, 49, 32, 45, 49]⟩ := tv tx0 tx1 txn (by decide) (by decide)
end Al
end Go.Proofs.Ytdpdnplljonppaa

namespace Go.Proofs.Ytdpdnplljonppaa
open Go.RowKit Vpi
set_option maxRecDepth 100000
namespace Al
theorem rep_row {w : World} {G : Nat → Prop} {es : List PV} {v : Value} (h : RepP w G (.sl es) v) (h0 : 0 < es.length) (he : ∀ (i : Nat) e, es[i]? = some e → ∃ l, e = .sl l) :
    ∃ blk off cap, v = .slice (some ⟨blk, off, none⟩) es.length cap ∧ G blk ∧ ∀ (i : Nat) l, es[i]? = some (.sl l) → ∃ a c, w.cell? ⟨blk, off + i, none⟩ = some (.slice a l.length c) ∧ RepP w G (.sl l) (.slice a l.length c) := by
  cases h with
  | nil a cap => simp at h0
  | sl _ blk off arr el fr cap sz hg hb hc hs hlen hk h1 =>
    have hsz : sz = 1 := by
      obtain ⟨l, hsl⟩ := he 0 es[0] (by simp [h0])
      have := hlen 0 es[0] (by simp [h0])
      rw [hsl] at this
      simpa [PV.cells] using this.symm
    subst hsz
    refine ⟨blk, off, cap, rfl, hg, fun i l hi => ?_⟩
    have hil := (List.getElem?_eq_some_iff.1 hi).1
    have hb0 : off + i < arr.size := by omega
    have e0 : arr[off + i * 1 + 0]? = some arr[off + i] := by rw [Nat.add_zero, Nat.mul_one]; exact Array.getElem?_eq_getElem hb0
    have r0 := hk i _ 0 (.sl l) _ hi rfl e0
    obtain ⟨a, c, ha⟩ := repP_sl r0
    rw [ha] at e0 r0
    exact ⟨a, c, cell_of hb (by rw [Nat.add_zero, Nat.mul_one] at e0; exact e0), r0⟩
set_option maxHeartbeats 4000000 in
theorem each2 {l0 l1 : List PV} {t0 t1 : ByteArray} (h0 : Tv (.sl l0) t0) (h1 : Tv (.sl l1) t1)
    (w : World) {G : Nat → Prop} {v : Value} (hg : ∀ k, G k → k < w.heap.size) (hv : RepP w G (.sl [.sl l0, .sl l1]) v) :
    Calls Try.prog 125 #[v, .func (.func 126) #[] #[]] w fun e w' => ∃ bk, e = .returned (.slice (some ⟨bk, 0, none⟩) 2 2) ∧ w'.cell? ⟨bk, 0, none⟩ = some (.string t0) ∧ w'.cell? ⟨bk, 1, none⟩ = some (.string t1) ∧ bk < w'.heap.size ∧ Below w.heap.size w w' := by
  obtain ⟨blk, off, cap, rfl, hG, hel⟩ := rep_row hv (by simp) (by
    intro i e hi
    rcases i with _ | _ | i <;> simp at hi <;> subst hi <;> exact ⟨_, rfl⟩)
  obtain ⟨a0, k0, c0, r0⟩ := hel 0 l0 rfl
  obtain ⟨a1, k1, c1, r1⟩ := hel 1 l1 rfl
  simp only [Nat.add_zero] at c0
  have hlt := hg blk hG
  have hmk : ∀ w : World, (Instr.makeSlice 142 (.int .i64 0) (.int .i64 2)).run Try.prog w = .ok (.slice (some ⟨w.heap.size, 0, none⟩) 0 2) (w.alloc (Obj.cells #[.string ⟨#[]⟩, .string ⟨#[]⟩] 9)) := fun _ => by kernel_rfl
  go_enter Try.func125, Try.ntmps125
  go_wp2
  refine wp_loop_rounds 3 ?_
  have hb0 := below_alloc (w := w) (Obj.cells #[.string ⟨#[]⟩, .string ⟨#[]⟩] 9)
  have q00 : (w.alloc (Obj.cells #[.string ⟨#[]⟩, .string ⟨#[]⟩] 9)).cell? ⟨w.heap.size, 0, none⟩ = some (.string ⟨#[]⟩) := by simp [go_sem]
  have q01 : (w.alloc (Obj.cells #[.string ⟨#[]⟩, .string ⟨#[]⟩] 9)).cell? ⟨w.heap.size, 1, none⟩ = some (.string ⟨#[]⟩) := by simp [go_sem]
  have fB0 : ∀ j, (w.alloc (Obj.cells #[.string ⟨#[]⟩, .string ⟨#[]⟩] 9)).frozen? ⟨w.heap.size, j, none⟩ = false := fun j => by simp [go_sem]
  have lB0 : w.heap.size < (w.alloc (Obj.cells #[.string ⟨#[]⟩, .string ⟨#[]⟩] 9)).heap.size := by simp
  generalize w.alloc (Obj.cells #[.string ⟨#[]⟩, .string ⟨#[]⟩] 9) = W0 at *
  have d0 := (hb0.cell (p := ⟨blk, off, none⟩) hlt).trans c0
  rw [rounds_succ]
  go_wp2_with (go_at_call 126; refine (h0 _ G _ (lt_below hg hb0) (rep_below hg r0 hb0)).mono ?_; rintro e w1 ⟨rfl, hc0⟩; have lw : W0.heap.size ≤ w1.heap.size := hc0.size; have hX := (hc0.trans ((below_alloc (w := w1) (Obj.cells #[.string t0] 9)).mono lw)); have eW := (hX.cell (p := ⟨w.heap.size, 0, none⟩) lB0).trans q00; have fW := (hX.frozen (p := ⟨w.heap.size, 0, none⟩) lB0).trans (fB0 0))
  have hb1 : Below w.heap.size w ((w1.alloc (Obj.cells #[.string t0] 9)).setCell ⟨w.heap.size, 0, none⟩ (.string t0)) := (hb0.trans (hX.mono hb0.size)).setCell (Nat.le_refl _) _
  have q10 : ((w1.alloc (Obj.cells #[.string t0] 9)).setCell ⟨w.heap.size, 0, none⟩ (.string t0)).cell? ⟨w.heap.size, 0, none⟩ = some (.string t0) := World.cell?_setCell_same _ _ _ eW
  have q11 := (World.cell?_setCell_other (w1.alloc (Obj.cells #[.string t0] 9)) ⟨w.heap.size, 0, none⟩ ⟨w.heap.size, 1, none⟩ (.string t0) (by simp)).trans ((hX.cell (p := ⟨w.heap.size, 1, none⟩) lB0).trans q01)
  have fB1 : ∀ j, ((w1.alloc (Obj.cells #[.string t0] 9)).setCell ⟨w.heap.size, 0, none⟩ (.string t0)).frozen? ⟨w.heap.size, j, none⟩ = false := fun j => by rw [World.frozen?_setCell]; exact (hX.frozen (p := ⟨w.heap.size, j, none⟩) lB0).trans (fB0 j)
  have lB1 : w.heap.size < ((w1.alloc (Obj.cells #[.string t0] 9)).setCell ⟨w.heap.size, 0, none⟩ (.string t0)).heap.size := by simp; omega
  generalize ((w1.alloc (Obj.cells #[.string t0] 9)).setCell ⟨w.heap.size, 0, none⟩ (.string t0)) = W1 at *
  clear d0 lw hX eW fW
  have d0 := (hb1.cell (p := ⟨blk, off + 1, none⟩) hlt).trans c1
  rw [rounds_succ]
  go_wp2_with (go_at_call 126; refine (h1 _ G _ (lt_below hg hb1) (rep_below hg r1 hb1)).mono ?_; rintro e w2 ⟨rfl, hc1⟩; have lw : W1.heap.size ≤ w2.heap.size := hc1.size; have hX := (hc1.trans ((below_alloc (w := w2) (Obj.cells #[.string t1] 9)).mono lw)); have eW := (hX.cell (p := ⟨w.heap.size, 1, none⟩) lB1).trans q11; have fW := (hX.frozen (p := ⟨w.heap.size, 1, none⟩) lB1).trans (fB1 1))
  have hb2 : Below w.heap.size w ((w2.alloc (Obj.cells #[.string t1] 9)).setCell ⟨w.heap.size, 1, none⟩ (.string t1)) := (hb1.trans (hX.mono hb1.size)).setCell (Nat.le_refl _) _
  have q20 := (World.cell?_setCell_other (w2.alloc (Obj.cells #[.string t1] 9)) ⟨w.heap.size, 1, none⟩ ⟨w.heap.size, 0, none⟩ (.string t1) (by simp)).trans ((hX.cell (p := ⟨w.heap.size, 0, none⟩) lB1).trans q10)
  have q21 : ((w2.alloc (Obj.cells #[.string t1] 9)).setCell ⟨w.heap.size, 1, none⟩ (.string t1)).cell? ⟨w.heap.size, 1, none⟩ = some (.string t1) := World.cell?_setCell_same _ _ _ eW
  have fB2 : ∀ j, ((w2.alloc (Obj.cells #[.string t1] 9)).setCell ⟨w.heap.size, 1, none⟩ (.string t1)).frozen? ⟨w.heap.size, j, none⟩ = false := fun j => by rw [World.frozen?_setCell]; exact (hX.frozen (p := ⟨w.heap.size, j, none⟩) lB1).trans (fB1 j)
  have lB2 : w.heap.size < ((w2.alloc (Obj.cells #[.string t1] 9)).setCell ⟨w.heap.size, 1, none⟩ (.string t1)).heap.size := by simp; omega
  generalize ((w2.alloc (Obj.cells #[.string t1] 9)).setCell ⟨w.heap.size, 1, none⟩ (.string t1)) = W2 at *
  clear d0 lw hX eW fW
  rw [rounds_succ]
  go_wp2
  go_ret
  exact ⟨_, rfl, q20, q21, lB2, hb2⟩
theorem cells2 {w : World} {bk : Nat} {t0 t1 : ByteArray} (c0 : w.cell? ⟨bk, 0, none⟩ = some (.string t0)) (c1 : w.cell? ⟨bk, 1, none⟩ = some (.string t1)) :
    ∀ (j : Nat) x, [t0, t1][j]? = some x → w.cell? ⟨bk, 0 + j, none⟩ = some (.string x) := by
  intro j x h
  rcases j with _ | _ | j <;> simp at h <;> subst h <;> assumption
theorem textm (w : World) {G : Nat → Prop} {v : Value} (hg : ∀ k, G k → k < w.heap.size) (hv : RepP w G (.sl [.sl [one, neg, nought], .sl [nought, one, neg]]) v) :
    Calls Try.prog 69 #[v] w fun e w' => e = .returned (.string ⟨#[49, 32, 45, 49, 32, 48, 59, 32, 48, 32, 49, 32, 45, 49]⟩) ∧ Below w.heap.size w w' := by
  have ht : (⟨(Lib.join ([⟨#[49, 32, 45, 49, 32, 48]⟩, ⟨#[48, 32, 49, 32, 45, 49]⟩].map (fun x : ByteArray => x.data.toList)) (⟨#[59, 32]⟩ : ByteArray).data.toList).toArray⟩ : ByteArray) = ⟨#[49, 32, 45, 49, 32, 48, 59, 32, 48, 32, 49, 32, 45, 49]⟩ := by decide
  go_enter Try.func69, Try.ntmps69
  go_wp2_with (first
    | (go_at_call 125; refine (each2 tvA tvB _ hg hv).mono ?_; rintro e w1 ⟨bk, rfl, c0, c1, lb, hb1⟩)
    | (go_at_call 124; refine (Try.strings_Join bk 0 2 [⟨#[49, 32, 45, 49, 32, 48]⟩, ⟨#[48, 32, 49, 32, 45, 49]⟩] ⟨#[59, 32]⟩ w1 (cells2 c0 c1) lb (by simp) (by simp) (by decide)).mono ?_; rintro e w2 ⟨rfl, hb2⟩))
  go_ret
  exact ⟨by rw [← ht]; rfl, hb1.trans (hb2.mono hb1.size)⟩
end Al
end Go.Proofs.Ytdpdnplljonppaa

namespace Go.Proofs.Ytdpdnplljonppaa.VAl
open Go Vpi
set_option maxRecDepth 100000
def f68 : RFun := ⟨(.seq (.reg [lq 4 (.mv (.c (.nils))), lq 5 (.mv (ki 0))] none)
 (.seq (.seq (.reg [mq 10 0, mq 11 1, lq 12 (.call .pu 119 [.t 10, .t 11]), mq 6 12] none)
 (.seq (.reg [mq 13 6, lq 14 (.bin .neq (.t 13) (ki 0))] none)
 (.fg [0, 1, 6, 14] (.cond (.t 14)
 (.seq (.reg [mq 15 6, lq 4 (.mv (.c (.nils))), mq 5 15] none)
 .ret)
 .skip))))
 (.seq (.reg [lq 7 (.mv (.c (.nils)))] none)
 (.seq (.seq (.reg [mq 16 0] none)
 (.fg [1, 7, 16] (.block 0
 (.seq (.reg [lq 23 (.bin .eql (.t 16) (ki 3)), mq 22 23] none)
 (.fg [1, 7, 16, 22] (.cond (.t 22)
 (.seq (.reg [mq 24 7, mq 25 1, lq 26 (.bslice 1 [.c (.p (.int .i64 0)), .c (.p (.int .i64 1)), .c (.p (.int .i64 1)), .c (.p (.int .i64 1))]), lq 27 (.call .fz 120 [.t 25, .t 26]), lq 28 (.bslice 1 [.t 27]), lq 29 (.append 1 24 (.t 24) (.t 28)), mq 7 29] none)
 (.seq (.reg [lq 8 (.mv (ki 1))] none)
 (.fg [1, 7, 8] (.block 1
 (.loop (.fg [1, 7, 8]
 (.seq (.seq (.reg [mq 30 8, mq 31 1, bq 32 .lss 30 31] none)
 (.fg [1, 7, 8, 32] (.cond (.t 32)
 .skip
 (.exit 1))))
 (.seq (.block 2
 (.reg [mq 35 7, mq 36 1, mq 37 8, lq 38 (.bin .sub (.t 37) (ki 1)), mq 39 8, lq 40 (.bslice 1 [.t 38, .c (.p (.int .i64 (-1))), .t 39, .c (.p (.int .i64 1))]), lq 41 (.call .fz 120 [.t 36, .t 40]), lq 42 (.bslice 1 [.t 41]), lq 43 (.append 1 24 (.t 35) (.t 42)), mq 7 43] none))
 (.fg [1, 7, 8] (.reg [mq 33 8, lq 34 (.bin .add (.t 33) (ki 1)), mq 8 34] none))))))))))
 (.seq (.reg [lq 45 (.bin .eql (.t 16) (ki 2)), mq 44 45] none)
 (.fg [1, 7, 16, 44] (.cond (.t 44)
 (.seq (.reg [mq 46 1, lq 47 (.mv (ki 0))] none)
 (.fg [1, 7, 46, 47] (.block 3
 (.loop (.fg [1, 7, 46, 47]
 (.seq (.reg [bq 48 .lss 47 46] none)
 (.seq (.cond (.t 48)
 .skip
 (.exit 3))
 (.fg [1, 7, 46, 47] (.seq (.block 4
 (.seq (.reg [mq 49 47, mq 9 49] none)
 (.reg [mq 50 7, mq 51 1, lq 52 (.bin .add (.t 51) (ki 1)), mq 53 9, mq 54 9, lq 55 (.bin .add (.t 54) (ki 1)), lq 56 (.bslice 1 [.t 53, .c (.p (.int .i64 1)), .t 55, .c (.p (.int .i64 (-1)))]), lq 57 (.call .fz 120 [.t 52, .t 56]), lq 58 (.bslice 1 [.t 57]), lq 59 (.append 1 24 (.t 50) (.t 58)), mq 7 59] none)))
 (.fg [1, 7, 46, 47] (.reg [lq 60 (.bin .add (.t 47) (ki 1)), mq 47 60] none)))))))))))
 (.seq (.reg [lq 62 (.bin .eql (.t 16) (ki 4)), mq 61 62] none)
 (.fg [1, 61] (.cond (.t 61)
 (.seq (.reg [lq 63 (.call .pu 121 []), mq 7 63] none)
 (.seq (.seq (.reg [mq 64 1, lq 65 (.bin .lss (.t 64) (ki 8))] none)
 (.fg [1, 7, 65] (.cond (.t 65)
 (.reg [mq 66 7, lq 67 (.call .pu 123 [.c (.p (.int .i64 8)), .c (.p (.int .i64 0))]), lq 68 (.call .fz 122 [.t 66, .t 67]), mq 7 68] none)
 .skip)))
 (.seq (.reg [mq 69 1, lq 70 (.bin .lss (.t 69) (ki 7))] none)
 (.fg [7, 70] (.cond (.t 70)
 (.reg [mq 71 7, lq 72 (.call .pu 123 [.c (.p (.int .i64 8)), .c (.p (.int .i64 6))]), lq 73 (.call .fz 122 [.t 71, .t 72]), mq 7 73] none)
 .skip)))))
 (.reg [mq 18 1, lq 19 (.call .pu 23 [.t 18]), mq 17 19, lq 20 (.extract (.t 17) 0), lq 21 (.extract (.t 17) 1), mq 7 20] none)))))))))))))
 (.seq (.reg [mq 74 7, mq 4 74, lq 5 (.mv (ki 0))] none)
 .ret))))), [.t 4, .t 5]⟩
theorem c68 : chkF Try.prog 68 f68 = true := by kernel_rfl
def f119 : RFun := ⟨(.seq (.reg [lq 4 (.mv (ki 0))] none)
 (.seq (.reg [mq 8 0, lq 9 (.call .pu 160 [.t 8]), mq 7 9, lq 10 (.extract (.t 7) 0), lq 11 (.extract (.t 7) 1), mq 5 10, mq 6 11] none)
 (.seq (.block 0
 (.seq (.reg [mq 13 6, lq 14 (.bin .eql (.t 13) (ki 0)), mq 12 14] none)
 (.fg [1, 5, 6, 12] (.cond (.t 12)
 (.seq (.reg [lq 4 (.mv (ki 1))] none)
 .ret)
 (.seq (.reg [mq 16 1, mq 17 5, bq 18 .lss 16 17, mq 19 18, ⟨(some 20), (some (19, false)), none, .mv (.t 1)⟩, ⟨(some 21), (some (19, false)), none, .mv (.t 6)⟩, ⟨(some 22), (some (19, false)), none, .bin .gtr (.t 20) (.t 21)⟩, lq 23 (.pick (.t 19) (.c (.p (.bool true))) (.t 22)), mq 15 23] none)
 (.fg [15] (.cond (.t 15)
 (.seq (.reg [lq 4 (.mv (ki 6))] none)
 .ret)
 .skip)))))))
 (.fg [] (.seq (.reg [lq 4 (.mv (ki 0))] none)
 .ret))))), [.t 4]⟩
theorem c119 : chkF Try.prog 119 f119 = true := by kernel_rfl
def f120 : RFun := ⟨(.seq (.reg [lq 4 (.mv (.c (.nils)))] none)
 (.seq (.reg [mq 7 0, lq 8 (.mks false 2 32 (.agg [.bool false, .sl []]) (.t 7) (.t 7)), mq 5 8] none)
 (.seq (.seq (.reg [lq 6 (.mv (ki 0))] none)
 (.fg [1, 5, 6] (.block 0
 (.loop (.fg [1, 5, 6]
 (.seq (.seq (.reg [mq 9 6, lq 10 (.bin .add (.t 9) (ki 1)), mq 11 1, lq 12 (.len (.t 11)), bq 13 .lss 10 12] none)
 (.fg [1, 5, 6, 13] (.cond (.t 13)
 .skip
 (.exit 0))))
 (.seq (.block 1
 (.reg [mq 16 5, mq 17 1, mq 18 6, xq 19 1 17 18, lF 20 1 19, mq 21 1, mq 22 6, lq 23 (.bin .add (.t 22) (ki 1)), xq 24 1 21 23, lF 25 1 24, lq 26 (.call .pu 25 [.t 25]), xq 27 2 16 20, sq 2 27 26] (some (0, []))))
 (.fg [1, 5, 6] (.reg [mq 14 6, lq 15 (.bin .add (.t 14) (ki 2)), mq 6 15] none)))))))))
 (.seq (.reg [mq 28 5, mq 4 28] none)
 .ret)))), [.t 4]⟩
theorem c120 : chkF Try.prog 120 f120 = true := by kernel_rfl
def f160 : RFun := ⟨(.seq (.reg [lq 2 (.mv (ki 0)), lq 3 (.mv (ki 0))] none)
 (.seq (.seq (.reg [mq 4 0] none)
 (.fg [4] (.block 0
 (.seq (.reg [lq 6 (.bin .eql (.t 4) (ki 1)), mq 5 6] none)
 (.fg [4, 5] (.cond (.t 5)
 (.seq (.reg [lq 2 (.mv (ki 1)), lq 3 (.mv (ki 12))] none)
 .ret)
 (.seq (.reg [lq 8 (.bin .eql (.t 4) (ki 2)), mq 7 8] none)
 (.fg [4, 7] (.cond (.t 7)
 (.seq (.reg [lq 2 (.mv (ki 1)), lq 3 (.mv (ki 11))] none)
 .ret)
 (.seq (.reg [lq 10 (.bin .eql (.t 4) (ki 3)), mq 9 10] none)
 (.fg [4, 9] (.cond (.t 9)
 (.seq (.reg [lq 2 (.mv (ki 2)), lq 3 (.mv (ki 12))] none)
 .ret)
 (.seq (.reg [lq 12 (.bin .eql (.t 4) (ki 4)), mq 11 12] none)
 (.fg [11] (.cond (.t 11)
 (.seq (.reg [lq 2 (.mv (ki 6)), lq 3 (.mv (ki 8))] none)
 .ret)
 .skip)))))))))))))))
 (.seq (.reg [lq 2 (.mv (ki 0)), lq 3 (.mv (ki 0))] none)
 .ret))), [.t 2, .t 3]⟩
theorem c160 : chkF Try.prog 160 f160 = true := by kernel_rfl
end Go.Proofs.Ytdpdnplljonppaa.VAl

namespace Go.Proofs.Ytdpdnplljonppaa.VAl
open Go Vpi
set_option maxRecDepth 100000
def tab : List (Nat × RFun) := [(68, f68), (119, f119), (120, f120), (160, f160)]
def rp : RProg := fun f => match VBn.rp f with | some rf => some rf | none => (tab.find? fun x => x.1 == f).map (·.2)
theorem all_ok : (tab.all fun x => chkF Try.prog x.1 x.2) = true := by
  simp only [tab, List.all_cons, List.all_nil, c68, c119, c120, c160, Bool.and_self]
theorem base_le : TabLe VBn.rp rp := by
  intro f rf h
  simp only [rp, h]
theorem rp_ok : ∀ f rf, rp f = some rf → chkF Try.prog f rf = true := by
  intro f rf h
  unfold rp at h
  split at h
  · rename_i h1
    cases h
    exact VBn.rp_ok _ _ h1
  · rw [Option.map_eq_some_iff] at h
    obtain ⟨x, hx, rfl⟩ := h
    have h1 := List.find?_some hx
    have h2 := List.mem_of_find?_eq_some hx
    have h3 := List.all_eq_true.1 all_ok x h2
    have h4 : x.1 = f := by simpa using h1
    rw [← h4]; exact h3
theorem mixed : Try.prog.follows .mixedOrders = true := VBn.mixed
theorem sim (m : Nat) : CallSim Try.prog (runF rp m) := callSim mixed rp_ok m
end Go.Proofs.Ytdpdnplljonppaa.VAl

namespace Go.Proofs.Ytdpdnplljonppaa
open Go.RowKit Vpi
set_option maxRecDepth 100000
namespace Al
def rootP : PV := .sl [.sl [one, neg, nought], .sl [nought, one, neg]]
theorem basis : Pu VAl.rp 68 [.int .i64 2, .int .i64 2] (.tup [.p rootP, .p (.int .i64 0)]) := pu_closed (n := 1000) (by kernel_rfl)
theorem basis_call (w : World) : Calls Try.prog 68 #[.int .i64 2, .int .i64 2] w fun e w' => ∃ v G', e = .returned (.tuple #[v, .int .i64 0]) ∧ (∀ k, G' k → k < w'.heap.size) ∧ RepP w' G' rootP v ∧ Below w.heap.size w w' := by
  refine (call_pu VAl.sim (w := w) (G := fun _ => False) (fun _ h => h.elim) basis (vs := [.int .i64 2, .int .i64 2]) rfl ?_).mono ?_
  · intro k p u hk hu
    rcases k with _ | _ | k
    · simp only [List.getElem?_cons_zero, Option.some.injEq] at hk hu; subst hk; subst hu; exact .int _ _
    · simp only [List.getElem?_cons_succ, List.getElem?_cons_zero, Option.some.injEq] at hk hu; subst hk; subst hu; exact .int _ _
    · simp at hk
  rintro e w' ⟨v, G', rfl, hg, _, hr, hb⟩
  cases hr with
  | tup cs vs hl hk =>
    match vs, hl, hk with
    | [x, y], _, hk =>
      rw [repP_int (repC_p (hk 1 _ y rfl rfl))]
      exact ⟨x, G', rfl, hg, repC_p (hk 0 _ x rfl rfl), hb⟩
set_option maxHeartbeats 1000000 in
theorem alive (w : World) : Calls Try.prog 21 #[] w fun e w' => e = .returned (.bool true) ∧ Below w.heap.size w w' := by
  go_enter Try.func21, Try.ntmps21
  go_wp2_with (first
    | (go_at_call 68; refine (basis_call _).mono ?_; rintro e w1 ⟨v, G, rfl, hg, hr, hb1⟩)
    | (go_at_call 69; refine (textm _ hg hr).mono ?_; rintro e w2 ⟨rfl, hb2⟩))
  go_ret
  exact ⟨rfl, hb1.trans (hb2.mono hb1.size)⟩
end Al
end Go.Proofs.Ytdpdnplljonppaa

namespace Go.Proofs.Ytdpdnplljonppaa.Sm
open VKs (tws twm tM tz twi twj tww RL un urow)
open Gs (sumR)
open Gs (dI sumI rg)
open Hn (Wd SpE)
set_option linter.unusedSimpArgs false
set_option linter.unusedVariables false
set_option maxRecDepth 100000
def en (M : List (List Int)) (i j : Nat) : Int := (M.getD i []).getD j 0
variable {n N w i j s : Nat} {z : Int} {M : List (List Int)}
theorem rl_len (h : RL M N) (hi : i < M.length) : (M.getD i []).length = N := by
  refine h i _ ?_
  simp [List.getD, hi]
theorem en_set {r : List Int} (hi : i < M.length) {a c : Nat} : en (M.set i r) a c = if a = i then r.getD c 0 else en M a c := by
  unfold en
  by_cases h : a = i
  · subst h
    rw [if_pos rfl]
    simp [List.getD, hi]
  · rw [if_neg h]
    simp only [List.getD_eq_getElem?_getD]
    rw [List.getElem?_set_ne (Ne.symm h)]
theorem getD_add {r q : List Int} (h : r.length = q.length) {c : Nat} : (List.zipWith (· + ·) r q).getD c 0 = r.getD c 0 + q.getD c 0 := by
  simp only [List.getD_eq_getElem?_getD, List.getElem?_zipWith]
  by_cases hc : c < r.length
  · simp [hc, show c < q.length by omega]
  · simp [List.getElem?_eq_none (show r.length ≤ c by omega), List.getElem?_eq_none (show q.length ≤ c by omega)]
theorem getD_sub {r q : List Int} (h : r.length = q.length) {c : Nat} : (List.zipWith (· - ·) r q).getD c 0 = r.getD c 0 - q.getD c 0 := by
  simp only [List.getD_eq_getElem?_getD, List.getElem?_zipWith]
  by_cases hc : c < r.length
  · simp [hc, show c < q.length by omega]
  · simp [List.getElem?_eq_none (show r.length ≤ c by omega), List.getElem?_eq_none (show q.length ≤ c by omega)]
theorem getD_neg {r : List Int} {c : Nat} : (r.map (-1 * ·)).getD c 0 = - r.getD c 0 := by
  simp only [List.getD_eq_getElem?_getD, List.getElem?_map]
  cases r[c]? <;> simp
theorem tws_lin (hi : i < n) (hj : j < n) : ∃ (p q : Nat → Nat) (a b : Nat → Int), (∀ k, k < n → p k < n ∧ q k < n) ∧ ∀ (N : Nat) (M : List (List Int)), M.length = n → RL M N → ∀ k c, k < n → en (tws w i j M) k c = a k * en M (p k) c + b k * en M (q k) c := by
  by_cases h0 : w = 0
  · subst h0
    refine ⟨id, fun k => if k = i then j else k, fun _ => 1, fun k => if k = i then 1 else 0, fun k hk => ⟨hk, by simp only []; split <;> assumption⟩, fun N M hM hR k c hk => ?_⟩
    rw [VKs.tws_0, en_set (by omega), getD_add (by rw [rl_len hR (by omega), rl_len hR (by omega)])]
    by_cases h : k = i
    · subst h; simp [en]
    · simp [h]
  · by_cases h1 : w = 1
    · subst h1
      refine ⟨id, fun k => if k = i then j else k, fun _ => 1, fun k => if k = i then -1 else 0, fun k hk => ⟨hk, by simp only []; split <;> assumption⟩, fun N M hM hR k c hk => ?_⟩
      rw [VKs.tws_1, en_set (by omega), getD_sub (by rw [rl_len hR (by omega), rl_len hR (by omega)])]
      by_cases h : k = i
      · subst h; simp [en]; omega
      · simp [h]
    · by_cases h2 : w = 2
      · subst h2
        refine ⟨fun k => if k = j then i else if k = i then j else k, id, fun _ => 1, fun _ => 0, fun k hk => ⟨by simp only []; split; assumption; split <;> assumption, hk⟩, fun N M hM hR k c hk => ?_⟩
        rw [VKs.tws_2, en_set (by rw [List.length_set]; omega), en_set (by omega)]
        simp only [Int.one_mul, Int.zero_mul, Int.add_zero]
        split
        · rfl
        · split <;> rfl
      · refine ⟨id, id, fun k => if k = i then -1 else 1, fun _ => 0, fun k hk => ⟨hk, hk⟩, fun N M hM hR k c hk => ?_⟩
        have e3 : tws w i j M = M.set i ((M.getD i []).map (-1 * ·)) := by unfold tws; rw [if_neg h0, if_neg h1, if_neg h2]
        rw [e3, en_set (by omega), getD_neg]
        by_cases h : k = i
        · subst h; simp [en]
        · simp [h]
theorem twm_lin (h0 : 0 < n) : ∃ (p q : Nat → Nat) (a b : Nat → Int), (∀ k, k < n → p k < n ∧ q k < n) ∧ ∀ (N : Nat) (M : List (List Int)), M.length = n → RL M N → ∀ k c, k < n → en (twm n z M) k c = a k * en M (p k) c + b k * en M (q k) c := by
  unfold twm
  by_cases h1 : n = 1
  · simp only [if_pos h1]
    split
    · exact tws_lin (by omega) (by omega)
    · exact ⟨id, id, fun _ => 1, fun _ => 0, fun k hk => ⟨hk, hk⟩, fun N M _ _ k c _ => by simp⟩
  · simp only [if_neg h1]
    exact tws_lin (VKs.twi_lt h0) (VKs.twj_lt (by omega))
theorem sumI_lin {f g : Nat → Int} {a b : Int} : ∀ {n : Nat}, sumI (fun t => a * f t + b * g t) n = a * sumI f n + b * sumI g n
  | 0 => by simp [sumI]
  | n + 1 => by
    simp only [sumI]
    rw [sumI_lin]
    simp only [Int.mul_add]
    omega
theorem en_un (hi : i < n) {t : Nat} (ht : t < n) : en (un n) i t = if t = i then 1 else 0 := by
  unfold en
  simp only [List.getD_eq_getElem?_getD, VKs.un_get hi, Option.getD_some, VKs.urow_get ht]
theorem sumI_one {f : Nat → Int} : ∀ {n : Nat}, sumI (fun t => (if t = i then 1 else 0) * f t) n = if i < n then f i else 0
  | 0 => by simp [sumI]
  | n + 1 => by
    simp only [sumI]
    rw [sumI_one]
    rcases Nat.lt_trichotomy i n with h | h | h
    · rw [if_pos h, if_neg (by omega), if_pos (by omega)]; omega
    · subst h
      rw [if_neg (by omega), if_pos rfl, if_pos (by omega)]; omega
    · rw [if_neg (by omega), if_neg (by omega), if_neg (by omega)]; omega
theorem tM_mul (hn : M.length = n) (h0 : 0 < n) (hR : RL M N) : ∀ {s i c : Nat}, i < n → en (tM n z M s) i c = sumI (fun t => en (tM n z (un n) s) i t * en M t c) n
  | 0, i, c, hi => by
    show en M i c = sumI (fun t => en (un n) i t * en M t c) n
    rw [Gs.sumI_congr (g := fun t => (if t = i then 1 else 0) * en M t c) fun t ht => by rw [en_un hi ht], sumI_one, if_pos hi]
  | s + 1, i, c, hi => by
    obtain ⟨p, q, a, b, hpq, hl⟩ := twm_lin (n := n) (z := tz n z s) h0
    have e1 := hl N (tM n z M s) (by rw [VKs.tM_len, hn]) (VKs.tM_RL hn h0 hR) i c hi
    have e2 := fun t => hl n (tM n z (un n) s) (by rw [VKs.tM_len, VKs.un_len]) (VKs.tM_RL VKs.un_len h0 VKs.un_RL) i t hi
    show en (twm n (tz n z s) (tM n z M s)) i c = sumI (fun t => en (twm n (tz n z s) (tM n z (un n) s)) i t * en M t c) n
    rw [e1, tM_mul hn h0 hR (hpq i hi).1, tM_mul hn h0 hR (hpq i hi).2, ← sumI_lin]
    refine Gs.sumI_congr fun t _ => ?_
    rw [e2, Int.add_mul, Int.mul_assoc, Int.mul_assoc]
/-! ### the lattice -/
theorem tws_sp (hR : RL M N) (hi : i < M.length) (hj : j < M.length) (hne : w < 3 → i ≠ j) (hw : w < 4) : SpE M (tws w i j M) := by
  have hW : Wd N M := hR
  by_cases h0 : w = 0
  · subst h0
    have := Hn.addR_sp (q := 1) hW hi hj (hne (by omega))
    unfold Hn.addR at this
    rw [VKs.tws_0]
    rwa [show (M.getD j []).map (1 * ·) = M.getD j [] by simp] at this
  · by_cases h1 : w = 1
    · subst h1
      have := Hn.addR_sp (q := -1) hW hi hj (hne (by omega))
      unfold Hn.addR at this
      rw [VKs.tws_1]
      rwa [VKs.zip_neg] at this
    · by_cases h2 : w = 2
      · subst h2
        rw [VKs.tws_2]
        exact Hn.swR_sp hi hj
      · have e3 : tws w i j M = M.set i ((M.getD i []).map (-1 * ·)) := by unfold tws; rw [if_neg h0, if_neg h1, if_neg h2]
        rw [e3]
        exact Hn.tuR_sp hW hi
theorem twij_ne {n : Nat} {z : Int} : twi n z ≠ twj n z := by
  unfold twi twj
  split <;> omega
theorem twm_sp (hn : M.length = n) (h0 : 0 < n) (hR : RL M N) : SpE M (twm n z M) := by
  unfold twm
  by_cases h1 : n = 1
  · rw [if_pos h1]
    split
    · exact tws_sp hR (by omega) (by omega) (by omega) (by omega)
    · exact .refl
  · rw [if_neg h1]
    exact tws_sp hR (by rw [hn]; exact VKs.twi_lt h0) (by rw [hn]; exact VKs.twj_lt (by omega)) (fun _ => twij_ne) VKs.tww_lt
theorem tM_sp (hn : M.length = n) (h0 : 0 < n) (hR : RL M N) : ∀ {s : Nat}, SpE M (tM n z M s)
  | 0 => .refl
  | s + 1 => (tM_sp hn h0 hR).trans (twm_sp (by rw [VKs.tM_len, hn]) h0 (VKs.tM_RL hn h0 hR))
/-! ### the determinant -/
theorem dI_congr {f g : Nat → Nat → Int} (h : ∀ p q, p < n → q < n → f p q = g p q) : dI n f = dI n g := by
  unfold dI
  rw [Gs.det_congr (B := rg g) fun p q hp hq => by unfold Gs.rg; rw [h p q hp hq]]
theorem dI_put {g f : Nat → Nat → Int} {m i : Nat} {v : Nat → Int} (hi : i < m + 1) (hf : ∀ p q, p < m + 1 → q < m + 1 → f p q = if p = i then v q else g p q) :
    dI (m + 1) f = sumI (fun k => v k * Gs.cI m g i k) (m + 1) := by
  refine Gs.dI_of ?_
  rw [Gs.det_congr (B := Gs.put (rg g) i fun q => (v q : Rat)) fun p q hp hq => by
    unfold Gs.rg Gs.put
    rw [hf p q hp hq]
    split <;> rfl]
  rw [Gs.lap hi, Gs.sumI_cast]
  refine Gs.sumR_congr fun k _ => ?_
  rw [Rat.intCast_mul, Gs.cI_eq]
theorem tws_det (hR : RL M n) (hn : M.length = n) (hi : i < n) (hj : j < n) (hne : w < 3 → i ≠ j) : dI n (en (tws w i j M)) = dI n (en M) ∨ dI n (en (tws w i j M)) = - dI n (en M) := by
  obtain ⟨m, rfl⟩ : ∃ m, n = m + 1 := ⟨n - 1, by omega⟩
  have row := fun i j (hi : i < m + 1) (hj : j < m + 1) => Gs.adjI_row (g := en M) hi hj
  by_cases h0 : w = 0
  · subst h0
    refine .inl ?_
    rw [dI_put (g := en M) (v := fun c => en M i c + en M j c) hi fun p q hp hq => by
      rw [VKs.tws_0, en_set (by omega), getD_add (by rw [rl_len hR (by omega), rl_len hR (by omega)])]; rfl]
    rw [Gs.sumI_congr (g := fun k => 1 * (en M i k * Gs.cI m (en M) i k) + 1 * (en M j k * Gs.cI m (en M) i k)) fun k _ => by rw [Int.add_mul]; omega, sumI_lin, row i i hi hi, row i j hi hj, if_pos rfl, if_neg (hne (by omega))]
    omega
  · by_cases h1 : w = 1
    · subst h1
      refine .inl ?_
      rw [dI_put (g := en M) (v := fun c => en M i c - en M j c) hi fun p q hp hq => by
        rw [VKs.tws_1, en_set (by omega), getD_sub (by rw [rl_len hR (by omega), rl_len hR (by omega)])]; rfl]
      rw [Gs.sumI_congr (g := fun k => 1 * (en M i k * Gs.cI m (en M) i k) + (-1) * (en M j k * Gs.cI m (en M) i k)) fun k _ => by rw [Int.sub_mul]; omega, sumI_lin, row i i hi hi, row i j hi hj, if_pos rfl, if_neg (hne (by omega))]
      omega
    · by_cases h2 : w = 2
      · subst h2
        refine .inr ?_
        have hij := hne (by omega)
        rw [← Gs.dI_swp (g := en M) hi hj hij]
        refine dI_congr fun p q hp hq => ?_
        rw [VKs.tws_2, en_set (by rw [List.length_set]; omega), en_set (by omega)]
        unfold Gs.swp
        by_cases hpj : p = j
        · subst hpj
          rw [if_pos rfl, if_neg (Ne.symm hij), if_pos rfl]; rfl
        · rw [if_neg hpj]
          by_cases hpi : p = i
          · subst hpi
            rw [if_pos rfl, if_pos rfl]; rfl
          · rw [if_neg hpi, if_neg hpi, if_neg hpj]
      · refine .inr ?_
        have e3 : tws w i j M = M.set i ((M.getD i []).map (-1 * ·)) := by unfold tws; rw [if_neg h0, if_neg h1, if_neg h2]
        rw [e3, dI_put (g := en M) (v := fun c => - en M i c) hi fun p q hp hq => by rw [en_set (by omega), getD_neg]; rfl]
        rw [Gs.sumI_congr (g := fun k => (-1) * (en M i k * Gs.cI m (en M) i k) + 0 * (en M i k * Gs.cI m (en M) i k)) fun k _ => by rw [Int.neg_mul]; omega, sumI_lin, row i i hi hi, if_pos rfl]
        omega
theorem twm_det (hR : RL M n) (hn : M.length = n) (h0 : 0 < n) : dI n (en (twm n z M)) = dI n (en M) ∨ dI n (en (twm n z M)) = - dI n (en M) := by
  unfold twm
  by_cases h1 : n = 1
  · rw [if_pos h1]
    split
    · exact tws_det hR hn (by omega) (by omega) (by omega)
    · exact .inl rfl
  · rw [if_neg h1]
    exact tws_det hR hn (VKs.twi_lt h0) (VKs.twj_lt (by omega)) fun _ => twij_ne
theorem det_one : ∀ {n : Nat}, Gs.det n (fun p q => if q = p then 1 else 0) = 1
  | 0 => rfl
  | n + 1 => by
    have e := Gs.det_top (n := n) (v := fun q => if q = 0 then 1 else 0) (B := fun p q => if q = p + 1 then 1 else 0)
    rw [Gs.det_congr (B := Gs.top (fun q => if q = 0 then 1 else 0) fun p q => if q = p + 1 then 1 else 0) fun p q _ _ => by
      cases p <;> rfl]
    rw [e, Gs.sumR_congr (g := fun k => if k = 0 then 1 else 0) fun k hk => ?_]
    · exact Gs.sumR_at (f := fun _ => 1) (m := 0) (by omega)
    · by_cases h : k = 0
      · subst h
        rw [if_pos rfl]
        rw [Gs.det_congr (B := fun p q => if q = p then 1 else 0) fun p q _ _ => by
          rw [Gs.sk_zero]
          by_cases hq : q = p
          · rw [if_pos (by omega), if_pos hq]
          · rw [if_neg (by omega), if_neg hq]]
        rw [det_one]
        show (1 : Rat) * 1 * 1 = 1
        grind
      · rw [if_neg h]
        grind
theorem un_det : dI n (en (un n)) = 1 := by
  refine Gs.dI_of ?_
  rw [Gs.det_congr (B := fun p q => if q = p then 1 else 0) fun p q hp hq => by
    unfold Gs.rg
    rw [en_un hp hq]
    split <;> rfl]
  exact det_one
theorem tM_det (h0 : 0 < n) : ∀ {s : Nat}, dI n (en (tM n z (un n) s)) = 1 ∨ dI n (en (tM n z (un n) s)) = -1
  | 0 => .inl un_det
  | s + 1 => by
    have h := twm_det (z := tz n z s) (M := tM n z (un n) s) (VKs.tM_RL (s := s) VKs.un_len h0 VKs.un_RL) (by rw [VKs.tM_len, VKs.un_len]) h0
    show dI n (en (twm n (tz n z s) (tM n z (un n) s))) = 1 ∨ _
    rcases tM_det h0 (s := s) with h1 | h1 <;> rw [h1] at h
    · exact h
    · rcases h with h | h
      · exact .inr h
      · exact .inl h
end Go.Proofs.Ytdpdnplljonppaa.Sm

namespace Go.Proofs.Ytdpdnplljonppaa.Sm
open Go Vpi
open VBn hiding rp tab rp_ok all_ok mixed sim Big
open VKs (tM tz un RL RM BM ML lsM bitsM MatN TwR)
open Gs (dI sumI)
set_option maxRecDepth 100000
set_option linter.unusedSimpArgs false
set_option linter.unusedVariables false
theorem zm_zM {L : List (List Int)} {n N : Nat} (hn : L.length = n) (h : RL L N) : VKs.zm L = VDd.zM n N (en L) := by
  unfold VKs.zm VDd.zM
  apply List.ext_getElem?
  intro i
  rcases Nat.lt_or_ge i n with hi | hi
  · have h1 : L[i]? = some L[i] := by simp [hn, hi]
    simp only [List.getElem?_map, h1, List.getElem?_range hi, Option.map_some]
    congr 2
    have hl := h i _ h1
    have hg : L.getD i [] = L[i] := by simp [List.getD, hn, hi]
    unfold VKs.zr VDd.zF
    apply List.ext_getElem?
    intro j
    rcases Nat.lt_or_ge j N with hj | hj
    · have h2 : L[i][j]? = some (L[i][j]) := by simp [hl, hj]
      simp only [List.getElem?_map, h2, List.getElem?_range hj, Option.map_some]
      congr 2
      unfold en
      rw [hg]
      simp [List.getD, hl, hj]
    · rw [List.getElem?_eq_none (by simp [hl]; exact hj), List.getElem?_eq_none (by simp; exact hj)]
  · rw [List.getElem?_eq_none (by simp [hn]; exact hi), List.getElem?_eq_none (by simp; exact hi)]
theorem en_le {L : List (List Int)} {B : Nat} (h : BM L B) {i j : Nat} : (en L i j).natAbs ≤ B := by
  unfold en
  rw [List.getD_eq_getElem?_getD]
  cases hj : (L.getD i [])[j]? with
  | none => simp
  | some x =>
    rw [Option.getD_some]
    cases hi : L[i]? with
    | none => rw [List.getD_eq_getElem?_getD, hi] at hj; simp at hj
    | some r =>
      rw [List.getD_eq_getElem?_getD, hi, Option.getD_some] at hj
      exact h i r hi j x hj
theorem facts {b : List PV} (hb : MatN b) (z t : Int) :
    (∃ e : Int, e ≠ 0 ∧ Pu VKs.rp 9 [.sl b, .int .u64 z, .int .i64 t] (.tup [.p (.sl []), .p (.sl []), .p (.int .i64 e)])) ∨
    ∃ m u p : List PV, Pu VKs.rp 9 [.sl b, .int .u64 z, .int .i64 t] (.tup [.p (.sl m), .p (.sl u), .p (.int .i64 0)]) ∧ Pu VDd.rp 33 [.sl u, .sl b] (.tup [.p (.sl p), .p (.int .i64 0)]) ∧
      Pu VRs.rp 34 [.sl m, .sl b] (.tup [.p (.bool true), .p (.int .i64 0)]) ∧ Pu VDd.rp 35 [.sl u] (.tup [.p (.bool true), .p (.int .i64 0)]) ∧ Pu VRs.rp 36 [.sl p, .sl m] (.p (.bool true)) := by
  obtain ⟨nn, X, hR⟩ := hb.index
  have h59 := (p59 hR hb.1).lift VKs.base_le
  by_cases he : vE nn X b.length = 0
  · rw [he] at h59
    by_cases ht : t < 0 ∨ 256 < t
    · exact .inl ⟨1, by decide, VKs.a42 h59 ht⟩
    · obtain ⟨t, rfl⟩ : ∃ k : Nat, t = k := ⟨t.toNat, by omega⟩
      have ht : t ≤ 256 := by omega
      have hm0 : 0 < b.length := by
        rcases Nat.eq_zero_or_pos b.length with h0 | h0
        · exfalso
          have hs : shE nn X b.length = 41 := by
            rw [h0]
            unfold shE
            rw [if_neg, if_pos rfl]
            rintro (h | ⟨i, h, _⟩ | ⟨i, j, h, _⟩) <;> omega
          unfold vE at he
          rw [if_pos (by rw [hs]; decide), hs] at he
          cases he
        · exact h0
      obtain ⟨hs, hN0⟩ := VKs.vE_pos he hm0
      have hBs := MR.bs hR hs
      obtain ⟨hML, hRL, hbits, h0, h12, hN⟩ := VKs.MR.lists hR hs
      have hX : ∀ i j, i < b.length → j < nn 0 → en (lsM b.length (nn 0) X) i j = X i j := fun i j hi hj => VKs.lsM_en hi hj
      have hn : (lsM b.length (nn 0) X).length = b.length := VKs.lsM_len
      generalize lsM b.length (nn 0) X = M at *
      by_cases hbad : ∃ s, 1 ≤ s ∧ s ≤ t ∧ 256 < bitsM (tM b.length z M s) (nn 0)
      · have hR : TwR b.length (nn 0) z M t (.tup [.p (.sl []), .p (.sl []), .p (.int .i64 40)]) := ⟨fun _ => rfl, fun h => by
          obtain ⟨s, g1, g2, g3⟩ := hbad
          have := h s g1 g2
          omega⟩
        exact .inl ⟨40, by decide, VKs.p42 h59 hML hn h0 h12 hN hN0 hRL hbits ht hR⟩
      · have hgood : ∀ s, 1 ≤ s → s ≤ t → bitsM (tM b.length z M s) (nn 0) ≤ 256 := fun s g1 g2 => Nat.not_lt.1 fun g3 => hbad ⟨s, g1, g2, g3⟩
        have hTw : TwR b.length (nn 0) z M t (.tup [.p (.sl (VKs.zm (tM b.length z M t))), .p (.sl (VKs.zm (tM b.length z (un b.length) t))), .p (.int .i64 0)]) := ⟨fun h => absurd h hbad, fun _ => rfl⟩
        have hB0 : BM M (2 ^ 256) := VKs.BM_of_bits hRL hbits
        have hB1 : BM (tM b.length z M t) (2 ^ 256) := by
          refine VKs.BM_of_bits (VKs.tM_RL hn h0 hRL) ?_
          rcases Nat.eq_zero_or_pos t with rfl | hpos
          · exact hbits
          · exact hgood t hpos (Nat.le_refl _)
        have hRE : RL (tM b.length z M t) (nn 0) := VKs.tM_RL hn h0 hRL
        have hlE : (tM b.length z M t).length = b.length := by rw [VKs.tM_len, hn]
        have hRU : RL (tM b.length z (un b.length) t) b.length := VKs.tM_RL VKs.un_len h0 VKs.un_RL
        have hlU : (tM b.length z (un b.length) t).length = b.length := by rw [VKs.tM_len, VKs.un_len]
        have hBU : BM (tM b.length z (un b.length) t) (2 ^ t * 1) := VKs.tM_BM VKs.un_len h0 VKs.un_BM
        have hR1 : RM (tM b.length z M t) (nn 0) := RM.of hN hN0 hRE hB1 VKs.pw640.2.2
        have hmul := fun i c (hi : i < b.length) => tM_mul (z := z) (s := t) (c := c) hn h0 hRL hi
        have hsp := tM_sp (z := z) (s := t) hn h0 hRL
        have hdet := tM_det (z := z) (s := t) h0
        have hskU : ∀ i j, i < b.length → j < b.length → Sk 20 (en (tM b.length z (un b.length) t) i j) := fun i j _ _ => Nat.lt_of_le_of_lt (en_le hBU) (VKs.pw_mono ht)
        have k9 := VKs.p42 h59 hML hn h0 h12 hN hN0 hRL hbits ht hTw
        have eU := zm_zM hlU hRU
        have eE := zm_zM hlE hRE
        have kP := VDd.prod (A := en (tM b.length z (un b.length) t)) (X := X) (m := b.length) (e := 20) hBs rfl (by omega) (by decide) h0 (by omega) hskU
        rw [VDd.zM_congr (W := VDd.prM b.length (en (tM b.length z (un b.length) t)) X) (V := en (tM b.length z M t)) fun i c hi hc => by
          show sumI (fun k => en (tM b.length z (un b.length) t) i k * X k c) b.length = _
          rw [hmul i c hi]
          exact Gs.sumI_congr fun k hk => by rw [hX k c hk hc]] at kP
        rw [← eU, ← eE] at kP
        have kD := VDd.unim (e := 20) h0 h12 (by decide) (by decide) hskU hdet
        rw [← eU] at kD
        have sE : Pu VRs.rp 56 [.sl (VKs.zm (tM b.length z M t))] (.tup [.p (.int .i64 (tM b.length z M t).length), .p (.int .i64 (nn 0 : Nat)), .p (.int .i64 0)]) := by
          have := ((p93 hR1.mr (by rw [VKs.zm_len, hlE]; omega) (by rw [VKs.zm_len, hlE]; omega)).2 (fun ⟨i, h1, h2⟩ => h2 rfl)).lift VRs.base_le
          rw [VKs.zm_len] at this
          exact this
        have sB : Pu VRs.rp 56 [.sl b] (.tup [.p (.int .i64 M.length), .p (.int .i64 (nn 0 : Nat)), .p (.int .i64 0)]) := by
          rw [hn]
          obtain ⟨g1, g2, g3⟩ := shE_zero hs
          exact ((p93 hR (by omega) hb.1).2 g3).lift VRs.base_le
        have kS := VRs.same (a := VKs.zm (tM b.length z M t)) (b := b) (A := tM b.length z M t) (B := M) (VKs.ML.zm fun i r hr => ⟨(hR1.2.2 i r hr).1, by rw [(hR1.2.2 i r hr).2]; omega⟩) hML hRE hRL (by omega) (by omega) (by omega) (by omega) hN0 hN (fun i j => en_le hB1) (fun i j => en_le hB0) hsp.symm sE sB
        have kQ := VRs.eq36 (L := tM b.length z M t) (by omega) fun i r hr => ⟨by rw [(hR1.2.2 i r hr).2]; omega, (hR1.2.2 i r hr).1⟩
        exact .inr ⟨_, _, _, k9, kP, kS, kD, kQ⟩
  · exact .inl ⟨_, he, VKs.e42 h59 he⟩
end Go.Proofs.Ytdpdnplljonppaa.Sm

namespace Go.Proofs.Ytdpdnplljonppaa
open Go.RowKit Vpi
set_option maxRecDepth 100000
namespace Sm
open Al (rep_below lt_below)
theorem args2 {w : World} {G : Nat → Prop} {p q : PV} {u v : Value} (hp : RepP w G p u) (hq : RepP w G q v) : ∀ (k : Nat) x y, [p, q][k]? = some x → [u, v][k]? = some y → RepP w G x y := by
  intro k x y hk hu
  rcases k with _ | _ | k
  · simp only [List.getElem?_cons_zero, Option.some.injEq] at hk hu; subst hk; subst hu; exact hp
  · simp only [List.getElem?_cons_succ, List.getElem?_cons_zero, Option.some.injEq] at hk hu; subst hk; subst hu; exact hq
  · simp at hk
theorem args1 {w : World} {G : Nat → Prop} {p : PV} {u : Value} (hp : RepP w G p u) : ∀ (k : Nat) x y, [p][k]? = some x → [u][k]? = some y → RepP w G x y := by
  intro k x y hk hu
  rcases k with _ | k
  · simp only [List.getElem?_cons_zero, Option.some.injEq] at hk hu; subst hk; subst hu; exact hp
  · simp at hk
theorem args3 {w : World} {G : Nat → Prop} {p q r : PV} {u v x : Value} (hp : RepP w G p u) (hq : RepP w G q v) (hr : RepP w G r x) : ∀ (k : Nat) y z, [p, q, r][k]? = some y → [u, v, x][k]? = some z → RepP w G y z := by
  intro k y z hk hu
  rcases k with _ | _ | _ | k
  · simp only [List.getElem?_cons_zero, Option.some.injEq] at hk hu; subst hk; subst hu; exact hp
  · simp only [List.getElem?_cons_succ, List.getElem?_cons_zero, Option.some.injEq] at hk hu; subst hk; subst hu; exact hq
  · simp only [List.getElem?_cons_succ, List.getElem?_cons_zero, Option.some.injEq] at hk hu; subst hk; subst hu; exact hr
  · simp at hk
theorem call2 {rp : RProg} (sim : ∀ m, CallSim Try.prog (runF rp m)) {f : Nat} {ps : List PV} {vs : List Value} {x y : PV} (k : Pu rp f ps (.tup [.p x, .p y])) (w : World) {G : Nat → Prop} (hg : ∀ k, G k → k < w.heap.size) (hl : ps.length = vs.length) (hr : ∀ (k : Nat) p v, ps[k]? = some p → vs[k]? = some v → RepP w G p v) :
    Calls Try.prog f vs.toArray w fun e w' => ∃ u v G', e = .returned (.tuple #[u, v]) ∧ (∀ k, G' k → k < w'.heap.size) ∧ (∀ k, G k → G' k) ∧ RepP w' G' x u ∧ RepP w' G' y v ∧ Below w.heap.size w w' := by
  refine (call_pu sim (w := w) (G := G) hg k hl hr).mono ?_
  rintro e w' ⟨v, G', rfl, hg, hG, hr, hb⟩
  cases hr with
  | tup cs vs hl hk =>
    match vs, hl, hk with
    | [a, b], _, hk => exact ⟨a, b, G', rfl, hg, hG, repC_p (hk 0 _ a rfl rfl), repC_p (hk 1 _ b rfl rfl), hb⟩
theorem call3 {rp : RProg} (sim : ∀ m, CallSim Try.prog (runF rp m)) {f : Nat} {ps : List PV} {vs : List Value} {x y z : PV} (k : Pu rp f ps (.tup [.p x, .p y, .p z])) (w : World) {G : Nat → Prop} (hg : ∀ k, G k → k < w.heap.size) (hl : ps.length = vs.length) (hr : ∀ (k : Nat) p v, ps[k]? = some p → vs[k]? = some v → RepP w G p v) :
    Calls Try.prog f vs.toArray w fun e w' => ∃ u v t G', e = .returned (.tuple #[u, v, t]) ∧ (∀ k, G' k → k < w'.heap.size) ∧ (∀ k, G k → G' k) ∧ RepP w' G' x u ∧ RepP w' G' y v ∧ RepP w' G' z t ∧ Below w.heap.size w w' := by
  refine (call_pu sim (w := w) (G := G) hg k hl hr).mono ?_
  rintro e w' ⟨v, G', rfl, hg, hG, hr, hb⟩
  cases hr with
  | tup cs vs hl hk =>
    match vs, hl, hk with
    | [a, b, c], _, hk => exact ⟨a, b, c, G', rfl, hg, hG, repC_p (hk 0 _ a rfl rfl), repC_p (hk 1 _ b rfl rfl), repC_p (hk 2 _ c rfl rfl), hb⟩
theorem call0 {rp : RProg} (sim : ∀ m, CallSim Try.prog (runF rp m)) {f : Nat} {ps : List PV} {vs : List Value} {x : PV} (k : Pu rp f ps (.p x)) (w : World) {G : Nat → Prop} (hg : ∀ k, G k → k < w.heap.size) (hl : ps.length = vs.length) (hr : ∀ (k : Nat) p v, ps[k]? = some p → vs[k]? = some v → RepP w G p v) :
    Calls Try.prog f vs.toArray w fun e w' => ∃ u G', e = .returned u ∧ (∀ k, G' k → k < w'.heap.size) ∧ (∀ k, G k → G' k) ∧ RepP w' G' x u ∧ Below w.heap.size w w' := by
  refine (call_pu sim (w := w) (G := G) hg k hl hr).mono ?_
  rintro e w' ⟨v, G', rfl, hg, hG, hr, hb⟩
  exact ⟨v, G', rfl, hg, hG, repC_p hr, hb⟩
theorem repP_bool {w : World} {G : Nat → Prop} {b : Bool} {v : Value} (h : RepP w G (.bool b) v) : v = .bool b := by cases h; rfl
set_option maxHeartbeats 4000000 in
theorem law (w : World) {G : Nat → Prop} {b : List PV} {v : Value} (hg : ∀ k, G k → k < w.heap.size) (hv : RepP w G (.sl b) v) (hb : VKs.MatN b) (z t : Int) :
    Calls Try.prog 7 #[v, .int .u64 z, .int .i64 t] w fun e w' => e = .returned (.bool true) ∧ Below w.heap.size w w' := by
  rcases facts hb z t with ⟨x, hx, k9⟩ | ⟨m, u, p, k9, k33, k34, k35, k36⟩
  · have hx' : (x != 0) = true := by simp [hx]
    go_enter Try.func7, Try.ntmps7
    go_wp2_with (first
      | (go_at_call 21; refine (Al.alive _).mono ?_; rintro e w1 ⟨rfl, hb1⟩)
      | (go_at_call 9; refine (call3 VKs.sim k9 _ (lt_below hg hb1) rfl (vs := [v, .int .u64 z, .int .i64 t]) (args3 (rep_below hg hv hb1) (.int _ _) (.int _ _))).mono ?_; rintro e w2 ⟨vm, vu, ve, G', rfl, hg2, hG2, rm, ru, re, hb2⟩; obtain ⟨am, cm, rfl⟩ := repP_sl rm; obtain ⟨au, cu, rfl⟩ := repP_sl ru; obtain rfl := repP_int re))
    go_ret
    exact ⟨rfl, hb1.trans (hb2.mono hb1.size)⟩
  · go_enter Try.func7, Try.ntmps7
    go_wp2_with (first
      | (go_at_call 21; refine (Al.alive _).mono ?_; rintro e w1 ⟨rfl, hb1⟩)
      | (go_at_call 9; refine (call3 VKs.sim k9 _ (lt_below hg hb1) rfl (vs := [v, .int .u64 z, .int .i64 t]) (args3 (rep_below hg hv hb1) (.int _ _) (.int _ _))).mono ?_; rintro e w2 ⟨vm, vu, ve, G2, rfl, hg2, hG2, rm, ru, re, hb2⟩; have rv2 := RepP.mono (fun _ _ => rfl) hG2 (rep_below (lt_below hg hb1) (rep_below hg hv hb1) hb2); obtain rfl := repP_int re)
      | (go_at_call 33; refine (call2 VDd.sim k33 _ hg2 rfl (vs := [vu, v]) (args2 ru rv2)).mono ?_; rintro e w3 ⟨vp, vf, G3, rfl, hg3, hG3, rp, rf, hb3⟩; have rm3 := RepP.mono (fun _ _ => rfl) hG3 (rep_below hg2 rm hb3); have ru3 := RepP.mono (fun _ _ => rfl) hG3 (rep_below hg2 ru hb3); have rv3 := RepP.mono (fun _ _ => rfl) hG3 (rep_below hg2 rv2 hb3); obtain rfl := repP_int rf)
      | (go_at_call 34; refine (call2 VRs.sim k34 _ hg3 rfl (vs := [vm, v]) (args2 rm3 rv3)).mono ?_; rintro e w4 ⟨vi, vg, G4, rfl, hg4, hG4, ri, rg, hb4⟩; have rm4 := RepP.mono (fun _ _ => rfl) hG4 (rep_below hg3 rm3 hb4); have ru4 := RepP.mono (fun _ _ => rfl) hG4 (rep_below hg3 ru3 hb4); have rp4 := RepP.mono (fun _ _ => rfl) hG4 (rep_below hg3 rp hb4); obtain rfl := repP_int rg; obtain rfl := repP_bool ri)
      | (go_at_call 35; refine (call2 VDd.sim k35 _ hg4 rfl (vs := [vu]) (args1 ru4)).mono ?_; rintro e w5 ⟨vo, vh, G5, rfl, hg5, hG5, ro, rh, hb5⟩; have rm5 := RepP.mono (fun _ _ => rfl) hG5 (rep_below hg4 rm4 hb5); have rp5 := RepP.mono (fun _ _ => rfl) hG5 (rep_below hg4 rp4 hb5); obtain rfl := repP_int rh; obtain rfl := repP_bool ro)
      | (go_at_call 36; refine (call0 VRs.sim k36 _ hg5 rfl (vs := [vp, vm]) (args2 rp5 rm5)).mono ?_; rintro e w6 ⟨vs6, G6, rfl, hg6, hG6, rs, hb6⟩; obtain rfl := repP_bool rs))
    go_ret
    have c2 := hb1.trans (hb2.mono hb1.size)
    have c3 := c2.trans (hb3.mono c2.size)
    have c4 := c3.trans (hb4.mono c3.size)
    have c5 := c4.trans (hb5.mono c4.size)
    exact ⟨rfl, c5.trans (hb6.mono c5.size)⟩
end Sm
end Go.Proofs.Ytdpdnplljonppaa

namespace Go.Proofs.Ytdpdnplljonppaa.Rbulk
open Go
set_option linter.unusedVariables false
theorem one_le {H : Type} (d : DataW H) : 1 ≤ Rows.uptoBulk d := by
  cases d with
  | lit l => cases l <;> simp [Rows.uptoBulk]
  | _ => simp [Rows.uptoBulk]
theorem part_le {H : Type} {d : DataW H} {l : List (DataW H)} (h : d ∈ l) : Rows.uptoBulk d ≤ Rows.uptoBulkAll l := by
  induction l with
  | nil => cases h
  | cons x r ih =>
    simp only [Rows.uptoBulkAll]
    rcases List.mem_cons.1 h with rfl | h
    · omega
    · have := ih h; omega
theorem length_le {H : Type} (l : List (DataW H)) : l.length ≤ Rows.uptoBulkAll l := by
  induction l with
  | nil => simp [Rows.uptoBulkAll]
  | cons x r ih => have := one_le x; simp only [Rows.uptoBulkAll, List.length_cons]; omega
theorem mus {H : Type} (es sp : List (DataW H)) : es.length ≤ Rows.uptoBulk (.slice es sp) ∧ ∀ d ∈ es, Rows.uptoBulk d ≤ Rows.uptoBulk (.slice es sp) := by
  have h1 := length_le es
  simp only [Rows.uptoBulk]
  refine ⟨by omega, fun d hd => ?_⟩
  have := part_le hd
  omega
theorem mua {H : Type} (ps : List (DataW H)) : ∀ d ∈ ps, Rows.uptoBulk d ≤ Rows.uptoBulk (.agg ps) := by
  intro d hd
  have := part_le hd
  simp only [Rows.uptoBulk]
  omega
theorem each {H : Type} {l : List (DataW H)} (hk : Rows.uptoSmall H l = true) {d : DataW H} (h : d ∈ l) : Rows.uptoBulk d ≤ 1048576 :=
  Nat.le_trans (part_le h) (of_decide_eq_true hk)
end Go.Proofs.Ytdpdnplljonppaa.Rbulk
