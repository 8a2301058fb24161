/- CertNames: the walks round the panic that is caught. -/
import Derived.Test.YtiboahllkpociaaGreatVCnE
import Derived.Test.YtiboahllkpociaaGreatRows
import Derived.WalkKit
import Derived.WalkSpells
import Derived.WalkLawsBesides
import Derived.Defers
import Derived.Recover
import Derived.Laws.Pointers
namespace Go.Proofs.YtiboahllkpociaaGreat
open Go.RowKit

theorem below_alloc {w w' : World} {o : Obj} (h : Below (w.alloc o).heap.size (w.alloc o) w') : Below w.heap.size w w' :=
  have h' : Below w.heap.size w (w.alloc o) := (Below.refl w.heap.size w).alloc (Nat.le_refl _) o
  h'.trans (h.mono h'.size)

set_option maxHeartbeats 400000 in
theorem must_false (w : World) : Calls Tryz.prog 14 #[.bool false] w fun e w' => e = .panicked [{ v := .iface 22 (.int .i64 250), recovered := false }] ∧ w' = w := by
  go_enter Tryz.func14, Tryz.ntmps14
  go_wp2
  simp [bodyPost]

set_option maxHeartbeats 1000000 in
theorem proves_none (a : Option Addr) (cap : Nat) (w : World) : Calls Tryz.prog 9 #[.slice a 2 cap, .agg #[.slice none 0 0, .slice none 0 0, .slice none 0 0, .slice none 0 0]] w fun e w' => e = .panicked [{ v := .iface 22 (.int .i64 250), recovered := false }] ∧ Below w.heap.size w w' := by
  go_enter Tryz.func9, Tryz.ntmps9
  go_wp2_with (first | (go_at_call 13; refine (VCn.shape _).mono ?_; rintro e w' ⟨rfl, hb⟩) | (go_at_call 14; refine (must_false _).mono ?_; rintro e w' ⟨rfl, rfl⟩))
  exact ⟨rfl, rfl, below_alloc hb⟩


/-- the zero certificate -/
def cert0 : Value := .agg #[.slice none 0 0, .slice none 0 0, .slice none 0 0, .slice none 0 0]

set_option maxHeartbeats 1000000 in
theorem check1 (a : Option Addr) (cap p q : Nat) (w : World) (hp : w.cell? ⟨p, 0, none⟩ = some (.slice a 2 cap)) (h0 : w.cell? ⟨q, 0, none⟩ = some (.slice none 0 0)) (h1 : w.cell? ⟨q, 1, none⟩ = some (.slice none 0 0))
    (h2 : w.cell? ⟨q, 2, none⟩ = some (.slice none 0 0)) (h3 : w.cell? ⟨q, 3, none⟩ = some (.slice none 0 0)) :
    Calls Tryz.prog 8 #[.pointer (some ⟨p, 0, none⟩), .pointer (some ⟨q, 0, none⟩)] w fun e w' => e = .panicked [{ v := .iface 22 (.int .i64 250), recovered := false }] ∧ Below w.heap.size w w' := by
  go_enter Tryz.func8, Tryz.ntmps8
  go_wp2_with (go_at_call 9; refine (proves_none _ _ _).mono ?_; rintro e w' ⟨rfl, hb⟩)
  exact ⟨rfl, rfl, hb⟩


theorem assert22 (v : Value) (w : World) : (Instr.typeAssert (.iface 22 v) 20 22 false).run Tryz.prog w = .ok v w := by kernel_rfl

theorem catch_panicking (p : Addr) (x : Int) (n : Int) (older : List PanicEntry) (w : World) (hc : w.cell? p = some (.int .i64 x)) (hz : w.frozen? p = false) :
    CallsD Tryz.prog 12 #[.pointer (some p)] (.panicking ({ v := .iface 22 (.int .i64 n), recovered := false } :: older)) w fun e u' w' =>
      e = .returned (.tuple #[]) ∧ u' = .panicking ({ v := .iface 22 (.int .i64 n), recovered := true } :: older) ∧ w' = w.setCell p (.int .i64 n) := by
  refine callsD_of_wpS Tryz.func12 rfl fun c₀ cs hu => ?_
  apply wpS_seq
  apply wpS_region
  simp [wpOpsS, go_sem, recoverD, hu, Tryz.ntmps12, Exit.thenS]
  apply wpS_seq
  apply wpS_region
  simp [wpOpsS, go_sem, Exit.thenS]
  refine wpS_cond (t := true) (by simp [Act.eval, Array.replicate]) ?_
  simp only [if_true]
  apply wpS_region
  simp [wpOpsS, go_sem, assert22, hc, hz, bodyPostS, results, Tryz.results12]

set_option maxHeartbeats 1000000 in
theorem caught_it (a : Option Addr) (cap p q : Nat) (w : World) (hp : w.cell? ⟨p, 0, none⟩ = some (.slice a 2 cap)) (h0 : w.cell? ⟨q, 0, none⟩ = some (.slice none 0 0)) (h1 : w.cell? ⟨q, 1, none⟩ = some (.slice none 0 0))
    (h2 : w.cell? ⟨q, 2, none⟩ = some (.slice none 0 0)) (h3 : w.cell? ⟨q, 3, none⟩ = some (.slice none 0 0)) (lp : p < w.heap.size) (lq : q < w.heap.size) :
    Calls Tryz.prog 7 #[.func (.func 8) #[] #[.pointer (some ⟨p, 0, none⟩), .pointer (some ⟨q, 0, none⟩)]] w fun e w' => e = .returned (.int .i64 250) ∧ Below w.heap.size w w' := by
  have hmf : ∀ (fn : Fn) (first cap : Array Value) (w : World), (Instr.makeFunc fn first cap).run Tryz.prog w = .ok (.func fn first cap) w := fun _ _ _ _ => rfl
  go_enter_defers Tryz.func7, Tryz.ntmps7
  go_wp2_with (go_at_call 8; refine (check1 a cap p q _ ?_ ?_ ?_ ?_ ?_).mono ?_)
  · rw [World.cell?_alloc_lt (h := lp)]; exact hp
  · rw [World.cell?_alloc_lt (h := lq)]; exact h0
  · rw [World.cell?_alloc_lt (h := lq)]; exact h1
  · rw [World.cell?_alloc_lt (h := lq)]; exact h2
  · rw [World.cell?_alloc_lt (h := lq)]; exact h3
  rintro e w' ⟨rfl, hb⟩
  go_wp2
  have hlt : w.heap.size < (w.alloc (Obj.cells #[Value.int IntKind.i64 0] 22)).heap.size := by simp
  have hcell : w'.cell? ⟨w.heap.size, 0, none⟩ = some (.int .i64 0) := by rw [hb.cell hlt]; simp [go_sem]
  have hfr : w'.frozen? ⟨w.heap.size, 0, none⟩ = false := by rw [hb.frozen hlt]; simp [go_sem]
  refine leaves_cons (f := 12) (args := #[.pointer (some ⟨w.heap.size, 0, none⟩)]) (by simp) (by simp [go_sem]) ?_
  refine (catch_panicking ⟨w.heap.size, 0, none⟩ 0 250 [] _ hcell hfr).mono ?_
  rintro e u' w'' ⟨rfl, rfl, rfl⟩
  have hset : (w'.setCell ⟨w.heap.size, 0, none⟩ (.int .i64 250)).cell? ⟨w.heap.size, 0, none⟩ = some (.int .i64 250) := World.cell?_setCell_same _ _ _ hcell
  have hbel : Below w.heap.size w (w'.setCell ⟨w.heap.size, 0, none⟩ (.int .i64 250)) := (below_alloc hb).setCell (Nat.le_refl _) _
  simp [Leaves, settle, results, Tryz.results7, go_sem, hset, hbel]


set_option maxHeartbeats 1000000 in
theorem check_it (a : Option Addr) (cap : Nat) (w : World) {G : Nat → Prop} (hg : ∀ k, G k → k < w.heap.size) (hv : Vpi.RepP w G VCn.plainP (.slice a 2 cap)) :
    Calls Tryz.prog 4 #[.slice a 2 cap, .agg #[.slice none 0 0, .slice none 0 0, .slice none 0 0, .slice none 0 0]] w fun e w' => e = .returned (.int .i64 250) ∧ Below w.heap.size w w' := by
  have hmf : ∀ (fn : Fn) (first cap : Array Value) (w : World), (Instr.makeFunc fn first cap).run Tryz.prog w = .ok (.func fn first cap) w := fun _ _ _ _ => rfl
  go_enter Tryz.func4, Tryz.ntmps4
  go_wp2_with (go_at_call 6; refine (VCn.valid _ (G := G) ?_ ?_).mono ?_)
  · intro k hk; have := hg k hk; simp; omega
  · refine hv.mono (fun k hk => ?_) (fun _ h => h)
    rw [Below.heap_alloc _ _ _ (by have := hg k hk; simp; omega), Below.heap_alloc _ _ _ (hg k hk)]
  rintro e w' ⟨rfl, hb⟩
  have hsz := hb.size
  simp only [World.size_alloc] at hsz
  have c0 : w'.cell? ⟨w.heap.size, 0, none⟩ = some (.slice a 2 cap) := by rw [hb.cell (by simp; omega)]; simp [go_sem]
  have d0 : w'.cell? ⟨w.heap.size + 1, 0, none⟩ = some (.slice none 0 0) := by rw [hb.cell (by simp)]; simp [go_sem]
  have d1 : w'.cell? ⟨w.heap.size + 1, 1, none⟩ = some (.slice none 0 0) := by rw [hb.cell (by simp)]; simp [go_sem]
  have d2 : w'.cell? ⟨w.heap.size + 1, 2, none⟩ = some (.slice none 0 0) := by rw [hb.cell (by simp)]; simp [go_sem]
  have d3 : w'.cell? ⟨w.heap.size + 1, 3, none⟩ = some (.slice none 0 0) := by rw [hb.cell (by simp)]; simp [go_sem]
  have hbw : Below w.heap.size w w' := below_alloc (below_alloc hb)
  have lp : w.heap.size < w'.heap.size := by omega
  have lq : w.heap.size + 1 < w'.heap.size := by omega
  clear hb hsz
  go_wp2_with (go_at_call 7; refine (caught_it a cap w.heap.size (w.heap.size + 1) _ c0 d0 d1 d2 d3 lp lq).mono ?_; rintro e w2 ⟨rfl, hb2⟩)
  go_ret
  exact ⟨rfl, hbw.trans (hb2.mono hbw.size)⟩

set_option maxHeartbeats 1000000 in
theorem certNames_true (w : World) : Calls Tryz.prog 3 #[] w fun e w' => e = .returned (.bool true) ∧ Below w.heap.size w w' := by
  go_enter Tryz.func3, Tryz.ntmps3
  go_wp2_with (first | (go_at_call 5; refine (VCn.plain _).mono ?_; rintro e w1 ⟨a, cap, G, rfl, hg, hr, hb1⟩) | (go_at_call 4; refine (check_it a cap _ hg hr).mono ?_; rintro e w2 ⟨rfl, hb2⟩))
  go_ret
  exact ⟨rfl, hb1.trans (hb2.mono hb1.size)⟩

end Go.Proofs.YtiboahllkpociaaGreat
