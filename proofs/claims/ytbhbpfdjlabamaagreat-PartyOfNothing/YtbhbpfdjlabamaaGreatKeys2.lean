/-
  A key's public number: sync.Once, entered by one goroutine.
-/
import Derived.Test.YtbhbpfdjlabamaaGreatKeys
set_option linter.all false
set_option linter.unusedVariables false
set_option linter.unusedSimpArgs false
namespace Go.Proofs.YtbhbpfdjlabamaaGreat
open Go Go.Proofs
set_option maxRecDepth 100000
set_option maxHeartbeats 1600000
/-- '(*sync/atomic.Bool).Load'. -/
theorem k_load (a : Addr) (w : World) (m : Bool) (hc : w.cell? a = some (.int .u32 (b01 m))) :
    Calls Tryz.prog 262 #[.pointer (some a)] w fun e w' => e = .returned (.bool m) ∧ w' = w := by
  have hl := run_call_load (P := Tryz.prog) Tryz.func301 (by kernel_rfl) (by kernel_rfl) (by kernel_rfl) .u32 (by kernel_rfl) hc
  cases m
  · simp only [b01, cond_false] at hl
    go_enter Tryz.func262, Tryz.ntmps262
    go_wp2
    go_ret
    exact ⟨rfl, rfl⟩
  · simp only [b01, cond_true] at hl
    go_enter Tryz.func262, Tryz.ntmps262
    go_wp2
    go_ret
    exact ⟨rfl, rfl⟩
/-- What the public number is worked out by. -/
def PowC (O : Nat → Prop) (s y : Int) : Prop := ∀ w, (∀ k, O k → k < w.heap.size) → Calls Tryz.prog 176 #[.int .i64 4, .int .i64 s] w fun e w' => e = .returned (.int .i64 y) ∧ Keep O [] w w'
theorem k_199 {O : Nat → Prop} {s y : Int} (hF : PowC O s y) (b pb : Nat) (u : Int) (w : World) (hO : ∀ k, O k → k < w.heap.size) (hne : pb ≠ b) (hpb : w.heap[pb]? = some (.cells #[.pointer (some ⟨b, 0, none⟩)] 70 (0, 0))) (hb : w.heap[b]? = some (.cells (midK s 0 1 0 0 u) keyT (0, 0))) :
    Calls Tryz.prog 199 #[.pointer (some ⟨pb, 0, none⟩)] w fun e w' => e = .returned (.tuple #[]) ∧ (Keep O [b] w w' ∧ w'.heap[b]? = some (.cells (midK s 0 1 y 1 u) keyT (0, 0))) := by
  have c0 : w.drew.cell? ⟨pb, 0, none⟩ = some (.pointer (some ⟨b, 0, none⟩)) := cell_of (w := w.drew) hpb rfl
  have c1 : w.drew.cell? ⟨b, 0, none⟩ = some (.int .i64 s) := cell_of (w := w.drew) hb rfl
  go_enter Tryz.func199, Tryz.ntmps199
  go_wp2
  go_region_with (go_at_call 176; refine (hF w.drew hO).mono ?_; rintro e w' ⟨rfl, hk⟩; have hb1 := Keep.mid hk (o := .cells (midK s 0 1 0 0 u) keyT (0, 0)) hb (by simp) midK_no; have hp1 := Keep.mid hk (o := .cells #[.pointer (some ⟨b, 0, none⟩)] 70 (0, 0)) hpb (by simp) boxK_no; have d0 : w'.cell? ⟨b, 4, none⟩ = some (.int .i64 0) := cell_of hb1 rfl; have z0 : w'.frozen? ⟨b, 4, none⟩ = false := frozen_of hb1; have d1 : w'.cell? ⟨pb, 0, none⟩ = some (.pointer (some ⟨b, 0, none⟩)) := cell_of hp1 rfl)
  all_goals
    have h1 : (w'.setCell ⟨b, 4, none⟩ (.int .i64 y)).heap[b]? = some (.cells (midK s 0 1 y 0 u) keyT (0, 0)) := heap_setCell hb1
    have h2 : (w'.setCell ⟨b, 4, none⟩ (.int .i64 y)).heap[pb]? = some (.cells #[.pointer (some ⟨b, 0, none⟩)] 70 (0, 0)) := (heap_setCell_ne hne).trans hp1
    have e0 : (w'.setCell ⟨b, 4, none⟩ (.int .i64 y)).cell? ⟨pb, 0, none⟩ = some (.pointer (some ⟨b, 0, none⟩)) := cell_of h2 rfl
    have e1 : (w'.setCell ⟨b, 4, none⟩ (.int .i64 y)).cell? ⟨b, 5, none⟩ = some (.int .u32 0) := cell_of h1 rfl
    have e2 : (w'.setCell ⟨b, 4, none⟩ (.int .i64 y)).frozen? ⟨b, 5, none⟩ = false := frozen_of h1
    have hfin : Keep O [b] w ((w'.setCell ⟨b, 4, none⟩ (.int .i64 y)).drew.setCell ⟨b, 5, none⟩ (.int .u32 1)) ∧ ((w'.setCell ⟨b, 4, none⟩ (.int .i64 y)).drew.setCell ⟨b, 5, none⟩ (.int .u32 1)).heap[b]? = some (.cells (midK s 0 1 y 1 u) keyT (0, 0)) :=
      ⟨((hk.drewl.weaken (by simp)).trans (keep_setCell w' b 4 (.int .i64 y))).trans (Keep.drewl (keep_setCell (w'.setCell ⟨b, 4, none⟩ (.int .i64 y)).drew b 5 (.int .u32 1))), heap_setCell (w := (w'.setCell ⟨b, 4, none⟩ (.int .i64 y)).drew) h1⟩
    refine ‹∀ (a : Act) (w_1 : World), _ → _› _ _ ?_
    go_wp2_with (go_at_call 200; refine (k_store ⟨b, 5, none⟩ (.int .u32 0) _ e1 e2).mono ?_; rintro e w'' ⟨rfl, rfl⟩)
    go_end0
    exact ⟨rfl, hfin⟩
/-- '(*sync.Once).doSlow', the lock free, nothing done. -/
theorem k_263 {O : Nat → Prop} {s y : Int} (hF : PowC O s y) (b pb : Nat) (u : Int) (w : World) (hO : ∀ k, O k → k < w.heap.size) (hne : pb ≠ b) (hpb : w.heap[pb]? = some (.cells #[.pointer (some ⟨b, 0, none⟩)] 70 (0, 0))) (hb : w.heap[b]? = some (.cells (midK s 0 0 0 0 u) keyT (0, 0))) :
    Calls Tryz.prog 263 #[.pointer (some ⟨b, 1, none⟩), .func (.func 199) #[] #[.pointer (some ⟨pb, 0, none⟩)]] w fun e w' => e = .returned (.tuple #[]) ∧ (Keep O [b] w w' ∧ w'.heap[b]? = some (.cells (midK s 1 0 y 1 u) keyT (0, 0))) := by
  have hb1 : (w.setCell ⟨b, 2, none⟩ (.int .i32 1)).heap[b]? = some (.cells (midK s 0 1 0 0 u) keyT (0, 0)) := heap_setCell hb
  have hp1 : (w.setCell ⟨b, 2, none⟩ (.int .i32 1)).heap[pb]? = some (.cells #[.pointer (some ⟨b, 0, none⟩)] 70 (0, 0)) := (heap_setCell_ne hne).trans hpb
  have hO1 : ∀ k, O k → k < (w.setCell ⟨b, 2, none⟩ (.int .i32 1)).heap.size := by simpa [World.setCell] using hO
  have c2 : w.cell? ⟨b, 2, none⟩ = some (.int .i32 0) := cell_of hb rfl
  have z2 : w.frozen? ⟨b, 2, none⟩ = false := frozen_of hb
  have hnot : ∀ (x : Bool) (w : World), (Op.unary .not (.bool x)).run Tryz.prog w = .ok (.bool (!x)) w := fun _ _ => rfl
  go_enter_defers Tryz.func263, Tryz.ntmps263
  go_wp2_with (first | (go_at_call 140; refine (k_lock_free ⟨b, 2, none⟩ _ c2 z2).mono ?_; rintro e w' ⟨rfl, rfl⟩) | (go_at_call 262; refine (k_load ⟨b, 1, none⟩ _ false (cell_of hb1 rfl)).mono ?_; rintro e w' ⟨rfl, rfl⟩) | (go_at_call 199; refine (k_199 hF b pb u _ hO1 hne hp1 hb1).mono ?_; rintro e w' ⟨rfl, hk, hbb⟩))
  go_wp2
  refine leaves_cons (f := 200) (args := #[.pointer (some ⟨b, 1, none⟩), .bool true]) (by simp) (by simp [go_sem]) ?_
  refine (k_store_deferred ⟨b, 1, none⟩ (.int .u32 0) .returning _ (cell_of hbb rfl) (frozen_of hbb)).mono ?_
  rintro e u' w'' ⟨rfl, rfl, rfl⟩
  have h3 : (w'.drew.setCell ⟨b, 1, none⟩ (.int .u32 1)).heap[b]? = some (.cells (midK s 1 1 y 1 u) keyT (0, 0)) := heap_setCell (w := w'.drew) hbb
  refine leaves_cons (f := 141) (args := #[.pointer (some ⟨b, 2, none⟩)]) (by simp [settle]) (by simp [go_sem]) ?_
  refine (k_unlock_deferred ⟨b, 2, none⟩ _ _ (cell_of h3 rfl) (frozen_of h3)).mono ?_
  rintro e u' w'' ⟨rfl, rfl, rfl⟩
  have hfin : Keep O [b] w ((w'.drew.setCell ⟨b, 1, none⟩ (.int .u32 1)).setCell ⟨b, 2, none⟩ (.int .i32 0)) ∧ ((w'.drew.setCell ⟨b, 1, none⟩ (.int .u32 1)).setCell ⟨b, 2, none⟩ (.int .i32 0)).heap[b]? = some (.cells (midK s 1 0 y 1 u) keyT (0, 0)) :=
    ⟨(((keep_setCell w b 2 (.int .i32 1)).trans hk).trans (Keep.drewl (keep_setCell w'.drew b 1 (.int .u32 1)))).trans (keep_setCell (w'.drew.setCell ⟨b, 1, none⟩ (.int .u32 1)) b 2 (.int .i32 0)), heap_setCell h3⟩
  simpa [Leaves, settle, results, Tryz.results263] using hfin
/-- '(*sync.Once).Do', nothing done. -/
theorem k_198 {O : Nat → Prop} {s y : Int} (hF : PowC O s y) (b pb : Nat) (u : Int) (w : World) (hO : ∀ k, O k → k < w.heap.size) (hne : pb ≠ b) (hpb : w.heap[pb]? = some (.cells #[.pointer (some ⟨b, 0, none⟩)] 70 (0, 0))) (hb : w.heap[b]? = some (.cells (midK s 0 0 0 0 u) keyT (0, 0))) :
    Calls Tryz.prog 198 #[.pointer (some ⟨b, 1, none⟩), .func (.func 199) #[] #[.pointer (some ⟨pb, 0, none⟩)]] w fun e w' => e = .returned (.tuple #[]) ∧ (Keep O [b] w w' ∧ w'.heap[b]? = some (.cells (midK s 1 0 y 1 u) keyT (0, 0))) := by
  have hnot : ∀ (x : Bool) (w : World), (Op.unary .not (.bool x)).run Tryz.prog w = .ok (.bool (!x)) w := fun _ _ => rfl
  go_enter Tryz.func198, Tryz.ntmps198
  go_wp2_with (first | (go_at_call 262; refine (k_load ⟨b, 1, none⟩ _ false (cell_of hb rfl)).mono ?_; rintro e w' ⟨rfl, rfl⟩) | (go_at_call 263; refine (k_263 hF b pb u _ hO hne hpb hb).mono ?_; rintro e w' ⟨rfl, hk, hbb⟩))
  go_end0
  exact ⟨rfl, hk, hbb⟩
/-- '(*sync.Once).Do', done already. -/
theorem k_198d (a : Addr) (fv : Value) (w : World) (hc : w.cell? a = some (.int .u32 (b01 true))) :
    Calls Tryz.prog 198 #[.pointer (some a), fv] w fun e w' => e = .returned (.tuple #[]) ∧ w' = w := by
  have hnot : ∀ (x : Bool) (w : World), (Op.unary .not (.bool x)).run Tryz.prog w = .ok (.bool (!x)) w := fun _ _ => rfl
  go_enter Tryz.func198, Tryz.ntmps198
  go_wp2_with (go_at_call 262; refine (k_load a _ true hc).mono ?_; rintro e w' ⟨rfl, rfl⟩)
  go_end0
  exact ⟨rfl, rfl⟩
end Go.Proofs.YtbhbpfdjlabamaaGreat
