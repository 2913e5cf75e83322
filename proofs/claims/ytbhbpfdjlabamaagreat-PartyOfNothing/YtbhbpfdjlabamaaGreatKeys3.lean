/-
  A key's public number, asked for.
-/
import Derived.Test.YtbhbpfdjlabamaaGreatKeys2
set_option linter.all false
set_option linter.unusedVariables false
set_option linter.unusedSimpArgs false
namespace Go.Proofs.YtbhbpfdjlabamaaGreat
open Go Go.Proofs
set_option maxRecDepth 100000
set_option maxHeartbeats 1600000

theorem post_keep {w0 w' : World} {O0 : Nat → Prop} {v : Value} (h : Keep O0 [] w0 w') : PostE (RV v) w0 O0 [] (.returned v) w' :=
  ⟨v, [], [], [], rfl, ⟨rfl, rfl, rfl, rfl⟩, ⟨h, by simp, .nil, by simp, by simp⟩⟩
theorem heap_box {w : World} {v : Value} : (w.alloc (.cells #[v] 70)).heap[w.heap.size]? = some (.cells #[v] 70 (0, 0)) := heap_alloc_new w _
theorem heap_old {w : World} {o o' : Obj} {b : Nat} (h : w.heap[b]? = some o) : (w.alloc o').heap[b]? = some o := by rw [heap_alloc_old w o' b (lt_of_heap h)]; exact h

theorem k_pub0 (w0 : World) (O0 : Nat → Prop) (v0 : Option Addr) (k0 : (fa true mKey v0 none).p ⟨w0, O0, inL []⟩) : CallsP Tryz.prog 114 (List.toArray [.pointer v0]) w0 O0 [] (RV (.int .i64 0)) := by
  have hv : v0 = none := k0
  subst hv
  have hfin : PostE (RV (.int .i64 0)) w0 O0 [] (.returned (.int .i64 0)) (w0.alloc (.cells #[.pointer none] 70)) := post_keep (keep_alloc _ _)
  show Calls Tryz.prog 114 #[.pointer none] w0 _
  go_enter Tryz.func114, Tryz.ntmps114
  go_wp2
  go_ret
  exact hfin

theorem k_pub {O0 : Nat → Prop} {s y : Int} (hF : PowC O0 s y) (g : y = PUB s) (w0 : World) (hO : ∀ k, O0 k → k < w0.heap.size) (v0 : Option Addr) (k0 : (fa true mKey v0 (some s)).p ⟨w0, O0, inL []⟩) : CallsP Tryz.prog 114 (List.toArray [.pointer v0]) w0 O0 [] (RV (.int .i64 y)) := by
  obtain ⟨b, ob, hv, hnb, hh, m, u, rfl⟩ := k0
  subst hv
  subst g
  replace hh : w0.heap[b]? = some (.cells #[.int .i64 s, .int .u32 (b01 m), .int .i32 0, .int .u32 0, .int .i64 (bif m then PUB s else 0), .int .u32 (b01 m), .int .i64 u] keyT (0, 0)) := hh
  have hlt := lt_of_heap hh
  have hmf : ∀ (fn : Fn) (first cap : Array Value) (w : World), (Instr.makeFunc fn first cap).run Tryz.prog w = .ok (.func fn first cap) w := fun _ _ _ _ => rfl
  have hne : w0.heap.size ≠ b := by omega
  have hO1 : ∀ k, O0 k → k < (w0.alloc (.cells #[.pointer (some ⟨b, 0, none⟩)] 70)).heap.size := fun k hk => by have := hO k hk; simp; omega
  have hp1 : (w0.alloc (.cells #[.pointer (some ⟨b, 0, none⟩)] 70)).heap[w0.heap.size]? = some (.cells #[.pointer (some ⟨b, 0, none⟩)] 70 (0, 0)) := heap_box
  have hb1 := heap_old (o' := .cells #[.pointer (some ⟨b, 0, none⟩)] 70) hh
  cases m with
  | true =>
    have hfin : PostE (RV (.int .i64 (PUB s))) w0 O0 [] (.returned (.int .i64 (PUB s))) (w0.alloc (.cells #[.pointer (some ⟨b, 0, none⟩)] 70)) := post_keep (keep_alloc _ _)
    have c4 : (w0.alloc (.cells #[.pointer (some ⟨b, 0, none⟩)] 70)).cell? ⟨b, 4, none⟩ = some (.int .i64 (PUB s)) := cell_of hb1 rfl
    have cp : (w0.alloc (.cells #[.pointer (some ⟨b, 0, none⟩)] 70)).cell? ⟨w0.heap.size, 0, none⟩ = some (.pointer (some ⟨b, 0, none⟩)) := cell_of hp1 rfl
    show Calls Tryz.prog 114 #[.pointer (some ⟨b, 0, none⟩)] w0 _
    go_enter Tryz.func114, Tryz.ntmps114
    go_wp2_with (go_at_call 198; refine (k_198d ⟨b, 1, none⟩ _ _ (cell_of hb1 rfl)).mono ?_; rintro e w' ⟨rfl, rfl⟩)
    go_ret
    exact hfin
  | false =>
    show Calls Tryz.prog 114 #[.pointer (some ⟨b, 0, none⟩)] w0 _
    go_enter Tryz.func114, Tryz.ntmps114
    go_wp2_with (go_at_call 198; refine (k_198 hF b w0.heap.size u _ hO1 hne hp1 hb1).mono ?_; rintro e w' ⟨rfl, hk, hbb⟩; have hpp := Keep.mid hk hp1 (by simpa using hne) boxK_no; have c4 : w'.cell? ⟨b, 4, none⟩ = some (.int .i64 (PUB s)) := cell_of hbb rfl; have cp : w'.cell? ⟨w0.heap.size, 0, none⟩ = some (.pointer (some ⟨b, 0, none⟩)) := cell_of hpp rfl)
    go_ret
    exact (post_keep (Keep.key (((keep_alloc w0 _).weaken (by simp)).trans hk) hh ⟨false, u, rfl⟩ hbb ⟨true, u, rfl⟩ hnb) : PostE (RV (.int .i64 (PUB s))) w0 O0 [] (.returned (.int .i64 (PUB s))) w')
end Go.Proofs.YtbhbpfdjlabamaaGreat
