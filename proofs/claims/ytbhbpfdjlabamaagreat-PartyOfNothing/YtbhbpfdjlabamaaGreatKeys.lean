/-
  The keys: sync.Once, sync.Mutex and package atomic, entered by one goroutine, at the numbers of this program; what a use of a key leaves of memory.
-/
import Derived.Test.YtbhbpfdjlabamaaGreatTypes
import Derived.Tactics
import Derived.Tactics2
import Derived.Defers
import Derived.Laws.Pointers
import Derived.Laws.LoneSync
import Derived.RegionTactic
import Derived.RegionCalls
import Derived.Deep.RegionWith
import Derived.ChangeAlike
set_option linter.all false
set_option linter.unusedVariables false
set_option linter.unusedSimpArgs false
namespace Go.Proofs.YtbhbpfdjlabamaaGreat
open Go Go.Proofs

/-! ## Memory -/
theorem heap_setCell {w : World} {b o : Nat} {cs : Array Value} {T fr} {v : Value} (h : w.heap[b]? = some (.cells cs T fr)) : (w.setCell ⟨b, o, none⟩ v).heap[b]? = some (.cells (cs.setIfInBounds o v) T fr) := by
  have hlt : b < w.heap.size := (Array.getElem?_eq_some_iff.1 h).1
  have hv : w.heap[b] = .cells cs T fr := (Array.getElem?_eq_some_iff.1 h).2
  simp only [World.setCell]
  rw [Array.getElem?_eq_getElem (by simpa using hlt), Array.getElem_modify]
  simp [hv]
theorem heap_setCell_ne {w : World} {b k o : Nat} {v : Value} (h : k ≠ b) : (w.setCell ⟨b, o, none⟩ v).heap[k]? = w.heap[k]? := by
  simp [World.setCell, Array.getElem?_modify, Ne.symm h]
theorem keep_setCell {O : Nat → Prop} (w : World) (b o : Nat) (v : Value) : Keep O [b] w (w.setCell ⟨b, o, none⟩ v) :=
  ⟨rfl, rfl, rfl, by simp [World.setCell], fun k ob hk hb => ⟨ob, by rw [heap_setCell_ne (by simpa using hb)]; exact hk, .refl _, fun _ => rfl⟩⟩
theorem Keep.drewl {O M w w'} (h : Keep O M w.drew w') : Keep O M w w' := ⟨h.os, h.tape, h.output, h.size, h.block⟩
theorem Keep.weaken {O M M' w w'} (h : Keep O M w w') (hM : ∀ b ∈ M, b ∈ M') : Keep O M' w w' := ⟨h.os, h.tape, h.output, h.size, fun k o hk hn => h.block k o hk fun hm => hn (hM k hm)⟩
theorem Keep.key {O : Nat → Prop} {w w' : World} {b : Nat} {s : Int} {o o' : Obj} (h : Keep O [b] w w') (ho : w.heap[b]? = some o) (hk : KeyObj s o) (ho' : w'.heap[b]? = some o') (hk' : KeyObj s o') (hb : ¬ O b) : Keep O [] w w' :=
  ⟨h.os, h.tape, h.output, h.size, fun k ob hob _ => by
    by_cases hkb : k = b
    · subst hkb; rw [ho] at hob; cases hob; exact ⟨o', ho', .inr ⟨s, hk, hk'⟩, fun h => absurd h hb⟩
    · exact h.block k ob hob (by simpa using hkb)⟩
theorem cell_of {w : World} {b i : Nat} {cs : Array Value} {T fr} {v : Value} (h : w.heap[b]? = some (.cells cs T fr)) (hv : cs[i]? = some v) : w.cell? ⟨b, i, none⟩ = some v := by
  simp [World.cell?, h, hv]
theorem frozen_of {w : World} {b i : Nat} {cs : Array Value} {T} (h : w.heap[b]? = some (.cells cs T (0, 0))) : w.frozen? ⟨b, i, none⟩ = false := by
  simp [World.frozen?, h]
/-- A block of no key, or of a key in use, stays as it is. -/
theorem Keep.mid {O M w w'} {b : Nat} {o : Obj} (h : Keep O M w w') (ho : w.heap[b]? = some o) (hb : b ∉ M) (hk : ∀ s, ¬ KeyObj s o) : w'.heap[b]? = some o := by
  obtain ⟨o', h1, h2, _⟩ := h.block b o ho hb
  rcases h2 with rfl | ⟨s, hs, _⟩
  · exact h1
  · exact absurd hs (hk s)

/-- A key in use: its once is held. -/
abbrev midK (s d m y x u : Int) : Array Value := #[.int .i64 s, .int .u32 d, .int .i32 m, .int .u32 0, .int .i64 y, .int .u32 x, .int .i64 u]
theorem midK_no {s d y x u : Int} : ∀ s', ¬ KeyObj s' (.cells (midK s d 1 y x u) keyT (0, 0)) := by
  rintro s' ⟨m, u', h⟩; simp [midK] at h
theorem boxK_no {v : Value} : ∀ s', ¬ KeyObj s' (.cells #[v] 70 (0, 0)) := by
  rintro s' ⟨m, u', h⟩; simp at h

/-! ## Package sync -/
theorem k_disable (w : World) : (callFunc 268 #[]).run Tryz.prog w = .ok (.value (.tuple #[])) w := run_call_mark0 Tryz.func268 (by kernel_rfl) (by kernel_rfl) (by kernel_rfl) .disable (by kernel_rfl) w
theorem k_enable (w : World) : (callFunc 270 #[]).run Tryz.prog w = .ok (.value (.tuple #[])) w := run_call_mark0 Tryz.func270 (by kernel_rfl) (by kernel_rfl) (by kernel_rfl) .enable (by kernel_rfl) w
theorem k_acquire (a : Addr) (w : World) : (callFunc 271 #[.pointer (some a)]).run Tryz.prog w = .ok (.value (.tuple #[])) w := run_call_marked Tryz.func271 (by kernel_rfl) (by kernel_rfl) (by kernel_rfl) .acquire (by kernel_rfl) a w
theorem k_releaseMerge (a : Addr) (w : World) : (callFunc 273 #[.pointer (some a)]).run Tryz.prog w = .ok (.value (.tuple #[])) w := run_call_marked Tryz.func273 (by kernel_rfl) (by kernel_rfl) (by kernel_rfl) .releaseMerge (by kernel_rfl) a w

set_option maxRecDepth 100000
set_option maxHeartbeats 1600000
/-- '(*sync/atomic.Bool).Store(true)', deferred. -/
theorem k_store_deferred (a : Addr) (x : Value) (u : FrameMode) (w : World) (hc : w.cell? a = some x) (hz : w.frozen? a = false) :
    CallsD Tryz.prog 200 #[.pointer (some a), .bool true] u w fun e u' w' => u' = u ∧ (e = .returned (.tuple #[]) ∧ w' = w.drew.setCell a (.int .u32 1)) := by
  have hc' : w.drew.cell? a = some x := by go_simp
  have hz' : w.drew.frozen? a = false := by go_simp
  have hst := run_call_store (P := Tryz.prog) Tryz.func264 (by kernel_rfl) (by kernel_rfl) (by kernel_rfl) (by kernel_rfl) (k := .u32) (y := 1) hc' hz'
  go_enter_d Tryz.func200, Tryz.ntmps200
  go_wp2
  go_region_calls
  all_goals (go_end0; exact ⟨rfl, rfl⟩)
theorem k_store (a : Addr) (x : Value) (w : World) (hc : w.cell? a = some x) (hz : w.frozen? a = false) :
    Calls Tryz.prog 200 #[.pointer (some a), .bool true] w fun e w' => e = .returned (.tuple #[]) ∧ w' = w.drew.setCell a (.int .u32 1) := by
  have hc' : w.drew.cell? a = some x := by go_simp
  have hz' : w.drew.frozen? a = false := by go_simp
  have hst := run_call_store (P := Tryz.prog) Tryz.func264 (by kernel_rfl) (by kernel_rfl) (by kernel_rfl) (by kernel_rfl) (k := .u32) (y := 1) hc' hz'
  go_enter Tryz.func200, Tryz.ntmps200
  go_wp2
  go_region_calls
  all_goals (go_end0; exact ⟨rfl, rfl⟩)

/-- '(*sync.Mutex).Unlock', deferred, the lock held and nobody waiting. -/
theorem k_unlock_deferred (a : Addr) (u : FrameMode) (w : World) (hc : w.cell? a = some (.int .i32 1)) (hz : w.frozen? a = false) :
    CallsD Tryz.prog 141 #[.pointer (some a)] u w fun e u' w' => u' = u ∧ (e = .returned (.tuple #[]) ∧ w' = w.setCell a (.int .i32 0)) := by
  have hd := k_disable
  have he := k_enable
  have hr := k_releaseMerge
  have hadd := run_call_add (P := Tryz.prog) Tryz.func274 (by kernel_rfl) (by kernel_rfl) (by kernel_rfl) .i32 (by kernel_rfl) (y := -1) (s := 0) hc hz (by simp [go_sem]; rfl)
  have hcv := run_convert_to_unsafe (P := Tryz.prog) (src := 314) (dst := 318) Tryz.underlying314 Tryz.underlying318 (by kernel_rfl) hc
  go_enter_d Tryz.func141, Tryz.ntmps141
  go_wp2
  go_end0
  go_wp2
  go_end0
  exact ⟨rfl, rfl⟩

/-- '(*sync.Mutex).Lock', the lock free. -/
theorem k_lock_free (a : Addr) (w : World) (hc : w.cell? a = some (.int .i32 0)) (hz : w.frozen? a = false) :
    Calls Tryz.prog 140 #[.pointer (some a)] w fun e w' => e = .returned (.tuple #[]) ∧ w' = w.setCell a (.int .i32 1) := by
  have hd := k_disable
  have he := k_enable
  have ha := k_acquire
  have hcas := run_call_cas_hit (P := Tryz.prog) Tryz.func269 (by kernel_rfl) (by kernel_rfl) (by kernel_rfl) .i32 (by kernel_rfl) (y := 1) hc hz
  have hc' : (w.setCell a (.int .i32 1)).cell? a = some (.int .i32 1) := World.cell?_setCell_same w a _ hc
  have hcv := run_convert_to_unsafe (P := Tryz.prog) (src := 314) (dst := 318) Tryz.underlying314 Tryz.underlying318 (by kernel_rfl) hc'
  go_enter Tryz.func140, Tryz.ntmps140
  go_wp2
  first | go_end0 | (simp only [Exit.inBlock, Exit.then]; refine bodyPost_ret (results_none rfl _ _ _) rfl ?_) | refine bodyPost_ret (results_none rfl _ _ _) rfl ?_
  go_wp2
  go_end0
  exact ⟨rfl, rfl⟩

/-- '(*sync/atomic.Int64).Add(1)' on a key's count. -/
theorem F139_c (w0 : World) (O0 : Nat → Prop) (hO : ∀ k, O0 k → k < w0.heap.size) {v : Option Addr} {p : Option Int} {b : Nat} {s : Int} (hp : p = some s) (hv : v = some ⟨b, 0, none⟩) (k0 : (fa true mKey v p).p ⟨w0, O0, inL []⟩) :
    CallsP Tryz.prog 139 (List.toArray [pt b (0 + 6), .int .i64 1]) w0 O0 [] (RX (fun x : Int => .int .i64 x) (fun _ => []) (fun _ => [])) := by
  subst hp hv
  obtain ⟨b', ob, hb, hnb, hh, m, u, rfl⟩ := k0
  cases hb
  have hc : w0.cell? ⟨b, 0 + 6, none⟩ = some (.int .i64 u) := cell_of hh rfl
  have hz : w0.frozen? ⟨b, 0 + 6, none⟩ = false := frozen_of hh
  obtain ⟨s', hs'⟩ : ∃ s', (Op.intArith .add .i64 u 1).run Tryz.prog w0 = .ok (.int .i64 s') w0 := ⟨IntKind.i64.wrap (u + 1), by simp [go_sem]⟩
  have hadd := run_call_add (P := Tryz.prog) Tryz.func217 (by kernel_rfl) (by kernel_rfl) (by kernel_rfl) .i64 (by kernel_rfl) (y := 1) (s := s') hc hz hs'
  have hw : PostE (RX (fun x : Int => .int .i64 x) (fun _ => []) (fun _ => [])) w0 O0 [] (.returned (.int .i64 (s'))) (w0.setCell ⟨b, 0 + 6, none⟩ (.int .i64 (s'))) :=
    ⟨_, [], [], [], rfl, ⟨_, rfl, rfl, rfl, rfl⟩, ⟨(keep_setCell _ _ _ _).key hh ⟨m, u, rfl⟩ (heap_setCell hh) ⟨m, _, rfl⟩ hnb, by simp, .nil, by simp, by simp⟩⟩
  show Calls Tryz.prog 139 #[pt b (0 + 6), .int .i64 1] w0 _
  go_enter Tryz.func139, Tryz.ntmps139
  go_wp2
  go_ret
  exact hw
end Go.Proofs.YtbhbpfdjlabamaaGreat
