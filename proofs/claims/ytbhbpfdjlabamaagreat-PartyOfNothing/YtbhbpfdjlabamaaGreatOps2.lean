/-
  The rules of the walks: memory (new blocks, reads, stores), calls and returns.
-/
import Derived.Test.YtbhbpfdjlabamaaGreatOps1
import Derived.Laws.Tables
set_option linter.all false
set_option linter.unusedVariables false
set_option linter.unusedSimpArgs false
namespace Go.Proofs.YtbhbpfdjlabamaaGreat
open Go

/-! ## What memory does to a state -/
theorem Own.holds_of {x : Own} {w w' : World} (h : x.holds w) (hb : ∀ b, x.block = some b → w'.heap[b]? = w.heap[b]?) : x.holds w' := by
  cases x with
  | blk b T xs => exact ⟨by rw [hb b rfl]; exact h.1, h.2⟩
  | sli s T esz n xs =>
    obtain ⟨⟨h1, h2⟩, h3⟩ := h
    refine ⟨⟨h1, ?_⟩, h3⟩
    rcases h2 with h4 | ⟨b, cap, cells, ha, hbase, hh, r⟩
    · exact .inl h4
    · have hs : s.a = some ⟨b, 0, none⟩ := by simp only [Value.slice.injEq] at ha; exact ha.1
      exact .inr ⟨b, cap, cells, ha, hbase, by rw [hb b (by simp [Own.block, hs])]; exact hh, r⟩
  | opt v T xs => exact ⟨fun a ha => ⟨(h.1 a ha).1, by rw [hb a.block (by simp [Own.block, ha])]; exact (h.1 a ha).2⟩, h.2⟩

/-- Owned things have a block that holds cells of no key. -/
theorem Own.cells {x : Own} {w : World} (h : x.holds w) {b} (hb : x.block = some b) : ∃ cs T, w.heap[b]? = some (.cells cs T (0, 0)) ∧ T ≠ keyT := by
  cases x with
  | blk b' T xs => simp [Own.block] at hb; subst hb; exact ⟨_, T, h⟩
  | sli s T esz n xs =>
    obtain ⟨⟨h1, h2⟩, h3⟩ := h
    rcases h2 with ⟨h4, _⟩ | ⟨b', cap, cells, ha, hbase, hh, r⟩
    · simp only [Value.slice.injEq] at h4; simp [Own.block, h4.1] at hb
    · have hs : s.a = some ⟨b', 0, none⟩ := by simp only [Value.slice.injEq] at ha; exact ha.1
      simp [Own.block, hs] at hb; subst hb; exact ⟨_, T, hh, h3⟩
  | opt v T xs =>
    cases v with
    | none => simp [Own.block] at hb
    | some a => simp [Own.block] at hb; subst hb; exact ⟨_, T, (h.1 a rfl).2, h.2⟩

theorem Own.keep {x : Own} {w w' : World} {O M} (h : x.holds w) (hk : Keep O M w w') (hM : ∀ b, x.block = some b → b ∉ M) : x.holds w' :=
  Own.holds_of h fun b hb => by
    obtain ⟨cs, T, hh, hT⟩ := Own.cells h hb
    rw [hh, hk.cells hh (hM b hb) hT]

section
variable {n : Nat} {w0 : World} {O0 : Nat → Prop} {M : List Nat} {P : Program}
variable {Q : Exit → Act → World → Prop} {e : List (Nat × Value)} {L L' : List Own} {K : List SP}

theorem keep_alloc {O : Nat → Prop} (w : World) (o : Obj) : Keep O [] w (w.alloc o) := ⟨rfl, rfl, rfl, by simp, fun k ob hk _ => ⟨ob, by rw [heap_alloc_old w o k (lt_of_heap hk)]; exact hk, .refl _, fun _ => rfl⟩⟩
theorem keep_drew {O : Nat → Prop} (w : World) : Keep O [] w w.drew := ⟨rfl, rfl, rfl, Nat.le_refl _, fun _ ob hk _ => ⟨ob, hk, .refl _, fun _ => rfl⟩⟩
theorem keep_setRow {O : Nat → Prop} (w : World) (b : Nat) (cs : Array Value) : Keep O [b] w (w.setRow b cs) := ⟨rfl, rfl, rfl, by simp, fun k ob hk hb => ⟨ob, by rw [setRow_other w b k cs (by simpa using hb)]; exact hk, .refl _, fun _ => rfl⟩⟩

/-- A step that keeps all that is owned (but what is said anew), and what nobody owns. -/
theorem St.step {σ : GS} {w' : World} {O' : Nat → Prop} {M'} (hs : St w0 O0 M L K σ) (hk : Keep σ.O M' σ.w w') (hM' : ∀ b ∈ M', σ.A b)
    (hO : ∀ k, σ.O k → O' k) (hO' : ∀ k, O' k → σ.O k ∨ σ.w.heap.size ≤ k) (hlt : ∀ k, O' k → k < w'.heap.size)
    (own : ∀ x ∈ L', x.holds w' ∧ ∀ b, x.block = some b → O' b ∧ (σ.A b ∨ σ.w.heap.size ≤ b)) (ap : L'.Pairwise Own.apart) : St w0 O0 M L' K ⟨w', O', inL L'⟩ where
  keep := hs.keep.later hk hs.opre fun i hi => by
    obtain ⟨x, hx, hb⟩ := (hs.ours i).1 (hM' i hi)
    exact ((hs.own x hx).2 i hb).2.symm
  o0 := hs.o0
  opre := fun k h => hO k (hs.opre k h)
  olt := hlt
  own := fun x hx => ⟨(own x hx).1, fun b hb => ⟨((own x hx).2 b hb).1, by
    rcases ((own x hx).2 b hb).2 with h | h
    · obtain ⟨y, hy, hyb⟩ := (hs.ours b).1 h
      exact ((hs.own y hy).2 b hyb).2
    · exact .inl (Nat.le_trans hs.keep.size h)⟩⟩
  ours := fun _ => .rfl
  apart := ap
  kn := fun p hp => SP.adv (σ := σ) ⟨fun k o ho hA => ⟨(hk.block k o ho fun hm => by
        obtain ⟨x, hx, hb⟩ := (hs.ours k).1 (hM' k hm)
        exact hA ⟨hM' k hm, ((hs.own x hx).2 k hb).1⟩).imp fun _ h => ⟨h.1, h.2.1⟩, fun ⟨⟨x, hx, hb⟩, _⟩ => by
      rcases ((own x hx).2 k hb).2 with h | h
      · obtain ⟨y, hy, hyb⟩ := (hs.ours k).1 h
        exact hA ⟨h, ((hs.own y hy).2 k hyb).1⟩
      · have := lt_of_heap ho; omega⟩,
    fun k o ho hn => ⟨(hk.block k o ho fun hm => by
        obtain ⟨x, hx, hb⟩ := (hs.ours k).1 (hM' k hm)
        exact hn ((hs.own x hx).2 k hb).1).imp fun _ h => ⟨h.1, h.2.1⟩, fun h => (hO' k h).elim hn fun h => by have := lt_of_heap ho; omega⟩⟩ (hs.kn p hp)
theorem St.mine {σ : GS} (hs : St w0 O0 M L K σ) {x : Own} (hx : x ∈ L) {b} (hb : x.block = some b) : σ.A b := (hs.ours b).2 ⟨x, hx, hb⟩

theorem St.drew {σ : GS} (hs : St w0 O0 M L K σ) : St w0 O0 M L K ⟨σ.w.drew, σ.O, inL L⟩ :=
  hs.step (keep_drew _) (by simp) (fun _ h => h) (fun _ h => .inl h) hs.olt (fun x hx => ⟨Own.keep (hs.own x hx).1 (keep_drew (O := fun _ => False) _) (by simp), fun b hb => ⟨((hs.own x hx).2 b hb).1, .inl (hs.mine hx hb)⟩⟩) hs.apart

theorem St.alloc {σ : GS} (hs : St w0 O0 M L K σ) (xs : List Value) (T : TypeId) (hT : T ≠ keyT) :
    St w0 O0 M (.blk σ.w.heap.size T xs :: L) K ⟨σ.w.alloc (.cells xs.toArray T), fun k => σ.O k ∨ k = σ.w.heap.size, inL (.blk σ.w.heap.size T xs :: L)⟩ := by
  refine hs.step (keep_alloc _ _) (by simp) (fun _ h => .inl h) (fun k h => h.imp id (fun h => by omega)) (fun k h => ?_) (fun x hx => ?_) (List.pairwise_cons.2 ⟨fun x hx b hb hxb => ?_, hs.apart⟩)
  · rcases h with h | h
    · have := hs.olt k h; simp; omega
    · simp [h]
  · simp only [List.mem_cons] at hx
    rcases hx with rfl | hx
    · exact ⟨⟨heap_alloc_new _ _, hT⟩, fun b hb => by simp only [Own.block, Option.some.injEq] at hb; subst hb; exact ⟨.inr rfl, .inr (Nat.le_refl _)⟩⟩
    · obtain ⟨h1, h2⟩ := hs.own x hx
      exact ⟨Own.keep h1 (keep_alloc (O := fun _ => False) _ _) (by simp), fun b hb => ⟨.inl (h2 b hb).1, .inl (hs.mine hx hb)⟩⟩
  · simp only [Own.block, Option.some.injEq] at hb; subst hb
    have := hs.olt _ ((hs.own x hx).2 _ hxb).1
    omega

/-- A block's cells written anew. -/
theorem St.setRow {σ : GS} {b T xs xs'} (hs : St w0 O0 M L K σ) (hat : SetAt (.blk b T xs) (.blk b T xs') L L') :
    St w0 O0 M L' K ⟨σ.w.setRow b xs'.toArray, σ.O, inL L'⟩ := by
  obtain ⟨⟨hh, hT⟩, ho⟩ := hs.own _ hat.mem
  obtain ⟨hO, hloc⟩ := ho b rfl
  have hA : σ.A b := hs.mine hat.mem rfl
  refine hs.step (keep_setRow _ _ _) (by simp; exact hA) (fun _ h => h) (fun _ h => .inl h) (fun k h => by simp; exact hs.olt k h) (fun x hx => ?_) ?_
  · rcases hat.others Own.apart_symm hs.apart x hx with rfl | ⟨hx', hap⟩
    · exact ⟨⟨setRow_heap _ _ _ _ _ _ hh, hT⟩, fun b' hb' => by simp only [Own.block, Option.some.injEq] at hb'; subst hb'; exact ⟨hO, .inl hA⟩⟩
    · obtain ⟨h1, h2⟩ := hs.own x hx'
      exact ⟨Own.keep h1 (keep_setRow (O := fun _ => False) _ _ _) (fun b' hb' hm => by simp at hm; subst hm; exact hap _ rfl hb'), fun b' hb' => ⟨(h2 b' hb').1, .inl (hs.mine hx' hb')⟩⟩
  · exact hat.pairwise (fun z h c hc => h c hc) (fun z h c hc hc' => h c hc hc') hs.apart

/-! ## Kinds of variables -/
structure TyI (P : Program) (t : TypeId) (agg : Bool) (size : Nat) (zero : List Value) : Prop where
  size : (P.info? t).map (·.size) = some size
  zero : ((P.info? t).bind (·.zero)).map Value.cells = some zero.toArray
  und : (P.underlying t).map (fun d => match d with | .struct _ | .array _ _ => true | _ => false) = some agg

theorem TyI.run_size {t g s z} (h : TyI P t g s z) (w : World) : (sizeOf t).run P w = .ok s w := by
  cases hi : P.info? t with
  | none => exact absurd h.size (by simp [hi])
  | some i => have := h.size; simp [hi] at this; simp [sizeOf, typeInfo, hi, this]
theorem TyI.run_zero {t g s z} (h : TyI P t g s z) (w : World) : ∃ v, (zeroValue t).run P w = .ok v w ∧ v.cells = z.toArray := by
  have hz := h.zero
  cases hi : P.info? t with
  | none => simp [hi] at hz
  | some i =>
    cases hq : i.zero with
    | none => simp [hi, hq] at hz
    | some v => simp [hi, hq] at hz; exact ⟨v, by simp [zeroValue, typeInfo, hi, hq], hz⟩
theorem TyI.run_agg {t g s z} (h : TyI P t g s z) (w : World) : (isAgg t).run P w = .ok g w := by
  have hu := h.und
  cases hd : P.underlying t with
  | none => simp [hd] at hu
  | some d =>
    simp only [hd, Option.map_some, Option.some.injEq] at hu
    simp only [isAgg, Sem.run_bind, run_underlying hd, Result.andThen_ok]
    subst hu
    cases d <;> rfl

theorem cells_get {w : World} {b off : Nat} {xs ys : List Value} {T fr} (hh : w.heap[b]? = some (.cells xs.toArray T fr)) (hs : Sub xs off ys) : ∀ j v, ys[j]? = some v → w.cell? ((⟨b, off, none⟩ : Addr).add j) = some v := by
  intro j v hv
  rw [add_pt, cell_of_row w b _ _ T fr hh]
  simpa using hs.get j v hv

/-- A read out of cells that are known. -/
theorem run_load_agg {w : World} {b off : Nat} {xs ys : List Value} {T fr t s z} (hh : w.heap[b]? = some (.cells xs.toArray T fr)) (hs : Sub xs off ys) (ht : TyI P t true s z) (hl : ys.length = s) :
    (Instr.loadAt t (pt b off)).run P w = .ok (ag ys) w := by
  have := run_loadCells_list (P := P) w ⟨b, off, none⟩ ys (cells_get hh hs)
  rw [hl] at this
  simp [Instr.loadAt, Instr.sureAddr, loadVar, ht.run_agg, ht.run_size, this]
theorem run_load_one {w : World} {b off : Nat} {xs : List Value} {v : Value} {T fr t s z} (hh : w.heap[b]? = some (.cells xs.toArray T fr)) (hs : Sub xs off [v]) (ht : TyI P t false s z) :
    (Instr.loadAt t (pt b off)).run P w = .ok v w := by
  have := cells_get hh hs 0 v rfl
  rw [show ((⟨b, off, none⟩ : Addr).add 0) = ⟨b, off, none⟩ from rfl] at this
  simp [Instr.loadAt, Instr.sureAddr, loadVar, ht.run_agg, this]

/-- What a variable of a kind holds: its one cell, or all. -/
def valOf (agg : Bool) (ys : List Value) : Value := match agg with | true => ag ys | false => ys.headD undef
theorem run_load {w : World} {b off : Nat} {xs ys : List Value} {T fr t g s z} (hh : w.heap[b]? = some (.cells xs.toArray T fr)) (hs : Sub xs off ys) (ht : TyI P t g s z) (hl : ys.length = s) (h1 : g = false → s = 1) :
    (Instr.loadAt t (pt b off)).run P w = .ok (valOf g ys) w := by
  cases g with
  | true => exact run_load_agg hh hs ht hl
  | false =>
    match ys, hl.trans (h1 rfl) with
    | [v], _ => exact run_load_one hh hs ht

variable {o : Oper} {x y : Operand} {T t : TypeId} {s : Nat} {z : List Value}

theorem yv_lda {b off xs ys} (hT : TyI P t true s z) (ho : o.op = .load t x) (hx : evo e x = some (pt b off)) (hL : At (.blk b T xs) L) (hs : Sub xs off ys) (hl : ys.length = s) : Yv n P o e L K (ag ys) := fun a σ he hst => by
  simp only [execOp, ho, he.eval hx, Sem.run_bind, run_load_agg (hst.1 _ hL.mem).1 hs hT hl, Result.andThen_ok, Sem.run_pure]
theorem yv_ld1 {b off xs v} (hT : TyI P t false s z) (ho : o.op = .load t x) (hx : evo e x = some (pt b off)) (hL : At (.blk b T xs) L) (hs : Sub xs off [v]) : Yv n P o e L K v := fun a σ he hst => by
  simp only [execOp, ho, he.eval hx, Sem.run_bind, run_load_one (hst.1 _ hL.mem).1 hs hT, Result.andThen_ok, Sem.run_pure]

/-! ## Operations that change memory -/
variable {next : Act → World → Prop}

abbrev SJ (n : Nat) (w0 : World) (O0 : Nat → Prop) (M : List Nat) (P : Program) (o : Oper) (next : Act → World → Prop) (Q : Exit → Act → World → Prop) (e : List (Nat × Value)) (L : List Own) (K : List SP) : Prop := NJ n w0 O0 M (fun a w => o.wp P a w next Q) e L K

theorem wp_of_value {a : Act} {w w' : World} {v} (hy : (execOp a.eval o).run P w = .ok (.value v) w') (h : next (a.put o.dst v) w') : o.wp P a w next Q := by
  unfold Oper.wp; rw [hy]; exact h
theorem wp_of_skip {a : Act} {w w' : World} (hy : (execOp a.eval o).run P w = .ok .skip w') (h : next (a.put o.dst undef) w') : o.wp P a w next Q := by
  unfold Oper.wp; rw [hy]; exact h
theorem dstO_put {d v a} (hd : dstO n o = some (some d)) (he : EOk n e a) : EOk n ((d, v) :: e) (a.put o.dst v) := by
  obtain ⟨h1, h2⟩ := dstO_spec hd; rw [h1]; exact he.put (h2 d rfl)

variable {d : Nat}
theorem so_alloc (hT : TyI P t true s z) (hk : t ≠ keyT) (ho : o.op = .alloc t) (hd : dstO n o = some (some d)) (h : ∀ b, NJ n w0 O0 M next ((d, pt b 0) :: e) (.blk b t z :: L) K) : SJ n w0 O0 M P o next Q e L K := fun a σ he hs => by
  obtain ⟨v, hv, hc⟩ := hT.run_zero σ.w
  refine wp_of_value (w' := σ.w.alloc (.cells z.toArray t)) (v := pt σ.w.heap.size 0) ?_ (h σ.w.heap.size _ _ (dstO_put hd he) (hs.alloc z t hk))
  simp [execOp, ho, Instr.alloc, hv, newVar, newRow, hc]
theorem so_alloc1 (hT : TyI P t false s z) (hk : t ≠ keyT) (ho : o.op = .alloc t) (hd : dstO n o = some (some d)) (h : ∀ b, NJ n w0 O0 M next ((d, pt b 0) :: e) (.blk b t z :: L) K) : SJ n w0 O0 M P o next Q e L K := fun a σ he hs => by
  obtain ⟨v, hv, hc⟩ := hT.run_zero σ.w
  refine wp_of_value (w' := σ.w.alloc (.cells z.toArray t)) (v := pt σ.w.heap.size 0) ?_ (h σ.w.heap.size _ _ (dstO_put hd he) (hs.alloc z t hk))
  simp [execOp, ho, Instr.alloc, hv, newVar, newRow, hc]
theorem so_boxa {ys} (hk : t ≠ keyT) (ho : o.op = .box t x) (hx : evo e x = some (ag ys)) (hd : dstO n o = some (some d)) (h : ∀ b, NJ n w0 O0 M next ((d, pt b 0) :: e) (.blk b t ys :: L) K) : SJ n w0 O0 M P o next Q e L K := fun a σ he hs => by
  refine wp_of_value (w' := σ.w.alloc (.cells ys.toArray t)) (v := pt σ.w.heap.size 0) ?_ (h σ.w.heap.size _ _ (dstO_put hd he) (hs.alloc ys t hk))
  simp [execOp, ho, he.eval hx, Instr.box, newVar, newRow, Value.cells]
theorem so_box1 {v} (hk : t ≠ keyT) (ho : o.op = .box t x) (hx : evo e x = some v) (h1 : v.oneCell' = true) (hd : dstO n o = some (some d)) (h : ∀ b, NJ n w0 O0 M next ((d, pt b 0) :: e) (.blk b t [v] :: L) K) : SJ n w0 O0 M P o next Q e L K := fun a σ he hs => by
  refine wp_of_value (w' := σ.w.alloc (.cells [v].toArray t)) (v := pt σ.w.heap.size 0) ?_ (h σ.w.heap.size _ _ (dstO_put hd he) (hs.alloc [v] t hk))
  have : v.cells = #[v] := by cases v <;> first | rfl | simp [Value.oneCell'] at h1
  simp [execOp, ho, he.eval hx, Instr.box, newVar, newRow, this]

theorem run_store_cells {w : World} {b off : Nat} {xs ys xs' : List Value} {T} {v : Value} (hh : w.heap[b]? = some (.cells xs.toArray T (0, 0))) (hu : Upd xs off ys xs') (hv : v.cells = ys.toArray) (h1 : ∀ c ∈ ys, c.oneCell' = true)
    (hs : (sizeOf t).run P w = .ok ys.length w) : (Instr.storeAt t (pt b off) v).run P w = .ok () (w.setRow b xs'.toArray) := by
  obtain ⟨he, hle⟩ := hu.eq
  have := run_storeCells_at P b off T ys 0 xs.toArray w hh (by simpa using hle) h1
  simp only [Nat.add_zero] at this
  rw [he]
  simp [Instr.storeAt, Instr.sureAddr, storeVar, hs, hv, this]

theorem so_sta {b off xs ys xs'} (hT : TyI P t true s z) (ho : o.op = .store t x y) (hd : o.dst = none) (hx : evo e x = some (pt b off)) (hy : evo e y = some (ag ys)) (hu : Upd xs off ys xs') (hl : ys.length = s) (h1 : ∀ c ∈ ys, c.oneCell' = true)
    (hL : SetAt (.blk b T xs) (.blk b T xs') L L') (h : NJ n w0 O0 M next e L' K) : SJ n w0 O0 M P o next Q e L K := fun a σ he hs => by
  refine wp_of_skip (w' := σ.w.setRow b xs'.toArray) ?_ (by rw [hd]; exact h _ _ he (hs.setRow hL))
  have hst := run_store_cells (P := P) (t := t) (hs.own _ hL.mem).1.1 hu (v := ag ys) rfl h1 (by rw [hl]; exact hT.run_size _)
  simp only [execOp, ho, he.eval hx, he.eval hy, Sem.run_bind, hst, Result.andThen_ok, Sem.run_pure]
theorem so_st1 {b off xs v xs'} (hT : TyI P t false 1 z) (ho : o.op = .store t x y) (hd : o.dst = none) (hx : evo e x = some (pt b off)) (hy : evo e y = some v) (h1 : v.oneCell' = true) (hu : Upd xs off [v] xs')
    (hL : SetAt (.blk b T xs) (.blk b T xs') L L') (h : NJ n w0 O0 M next e L' K) : SJ n w0 O0 M P o next Q e L K := fun a σ he hs => by
  refine wp_of_skip (w' := σ.w.setRow b xs'.toArray) ?_ (by rw [hd]; exact h _ _ he (hs.setRow hL))
  have hc : v.cells = #[v] := by cases v <;> first | rfl | simp [Value.oneCell'] at h1
  have hst := run_store_cells (P := P) (t := t) (hs.own _ hL.mem).1.1 hu (v := v) (by simp [hc]) (by simpa using h1) (hT.run_size _)
  simp only [execOp, ho, he.eval hx, he.eval hy, Sem.run_bind, hst, Result.andThen_ok, Sem.run_pure]

/-! ## Calls -/
structure Post (w : World) (O : Nat → Prop) (M : List Nat) (Ln Li : List Own) (Kn : List SP) (w' : World) : Prop where
  keep : Keep O M w w'
  new : ∀ x ∈ Ln, x.holds w' ∧ ∀ b, x.block = some b → w.heap.size ≤ b
  apart : Ln.Pairwise Own.apart
  io : ∀ x ∈ Li, x.holds w'
  kn : ∀ p ∈ Kn, p.q = true ∧ p.r (fun k => ¬ (O k ∨ inL Ln k)) w'

def PostE (R : Value → List Own → List Own → List SP → Prop) (w : World) (O : Nat → Prop) (M : List Nat) (e : Ending) (w' : World) : Prop :=
  ∃ v Ln Li Kn, e = .returned v ∧ R v Ln Li Kn ∧ Post w O M Ln Li Kn w'
def CallsP (P : Program) (f : FuncId) (args : Array Value) (w : World) (O : Nat → Prop) (M : List Nat) (R : Value → List Own → List Own → List SP → Prop) : Prop :=
  Calls P f args w (PostE R w O M)
theorem CallsP.mono {f args w O M} {R R' : Value → List Own → List Own → List SP → Prop} (h : CallsP P f args w O M R) (hr : ∀ v Ln Li Kn, R v Ln Li Kn → R' v Ln Li Kn) : CallsP P f args w O M R' :=
  Calls.mono h fun _ _ ⟨v, Ln, Li, Kn, h1, h2, h3⟩ => ⟨v, Ln, Li, Kn, h1, hr _ _ _ _ h2, h3⟩
/-- A value alone is returned. -/
def RV (u : Value) (v : Value) (Ln Li : List Own) (Kn : List SP) : Prop := v = u ∧ Ln = [] ∧ Li = [] ∧ Kn = []

def argsIn (args : List Value) : List (Nat × Value) → Prop
  | [] => True
  | (t, v) :: e => args[t]? = some v ∧ argsIn args e
theorem argsIn.get {args : List Value} {e} (h : argsIn args e) : ∀ t v, fnd e t = some v → args[t]? = some v := by
  induction e with
  | nil => intro t v hv; cases hv
  | cons p e ih =>
    obtain ⟨k, u⟩ := p
    intro t v hv
    simp only [fnd, cond_eq_ite] at hv
    by_cases hk : k = t
    · subst hk; simp at hv; subst hv; exact h.1
    · simp [hk] at hv; exact ih h.2 t v hv

theorem calls_start {f fn c} {args : List Value} {R} (hf : P.funcs[f]? = some fn) (hb : fn.body = some c) (hn : fn.ntmps = n) (ha : Nat.ble args.length n = true) (he : argsIn args e)
    (hO : ∀ k, O0 k → k < w0.heap.size) (hL : ∀ x ∈ L, x.holds w0 ∧ ∀ b, x.block = some b → O0 b ∧ b ∈ M) (hap : L.Pairwise Own.apart) (hK : ∀ p ∈ K, p.p ⟨w0, O0, inL L⟩)
    (h : JC n w0 O0 M P c (bodyPost P fn (PostE R w0 O0 M)) e L K) : CallsP P f args.toArray w0 O0 M R := by
  refine calls_of_wp hf hb (h _ ⟨w0, O0, inL L⟩ ⟨?_, rfl, fun t v hv => ?_⟩ ⟨.refl _ _ _, hO, fun _ h => h, hO, fun x hx => ⟨(hL x hx).1, fun b hb => ⟨((hL x hx).2 b hb).1, .inr ((hL x hx).2 b hb).2⟩⟩, fun _ => .rfl, hap, hK⟩)
  · have : args.length ≤ n := by simpa using ha
    simp [hn]; omega
  · have := he.get t v hv
    have hlt : t < args.length := (List.getElem?_eq_some_iff.1 this).1
    rw [Array.getElem?_append_left (by simpa using hlt)]
    simpa using this

/-- Behind a call that writes nothing that was there. -/
theorem St.call {σ : GS} {w'} {Ln Kn} (hs : St w0 O0 M L K σ) (hp : Post σ.w σ.O [] Ln [] Kn w') :
    St w0 O0 M (Ln ++ L) (Kn ++ K) ⟨w', fun k => σ.O k ∨ inL Ln k, inL (Ln ++ L)⟩ := by
  have h1 : St w0 O0 M (Ln ++ L) K ⟨w', fun k => σ.O k ∨ inL Ln k, inL (Ln ++ L)⟩ := by
    refine hs.step hp.keep (by simp) (fun _ h => .inl h) (fun k h => h.imp id ?_) (fun k h => ?_) (fun x hx => ?_) ?_
    · rintro ⟨x, hx, hb⟩; exact (hp.new x hx).2 k hb
    · rcases h with h | ⟨x, hx, hb⟩
      · exact Nat.lt_of_lt_of_le (hs.olt k h) hp.keep.size
      · obtain ⟨cs, T, hh, _⟩ := Own.cells (hp.new x hx).1 hb; exact lt_of_heap hh
    · rcases List.mem_append.1 hx with hx | hx
      · obtain ⟨g1, g2⟩ := hp.new x hx
        exact ⟨g1, fun b hb => ⟨.inr ⟨x, hx, hb⟩, .inr (g2 b hb)⟩⟩
      · obtain ⟨g1, g2⟩ := hs.own x hx
        exact ⟨Own.keep g1 hp.keep (by simp), fun b hb => ⟨.inl (g2 b hb).1, .inl (hs.mine hx hb)⟩⟩
    · refine List.pairwise_append.2 ⟨hp.apart, hs.apart, fun x hx y hy b hb hb' => ?_⟩
      have := (hp.new x hx).2 b hb
      have := hs.olt b ((hs.own y hy).2 b hb').1
      omega
  refine { h1 with kn := fun p hp' => (List.mem_append.1 hp').elim (fun h => ?_) (h1.kn p) }
  obtain ⟨hq, hr⟩ := hp.kn p h
  unfold SP.p
  rw [hq]; exact hr

/-- Behind a call that writes one block that is ours. -/
theorem St.callm {σ : GS} {w'} {Ln Kn b y y'} (hs : St w0 O0 M L K σ) (hat : SetAt y y' L L') (hy : y.block = some b) (hy' : y'.block = some b) (hp : Post σ.w σ.O [b] Ln [y'] Kn w') :
    St w0 O0 M (Ln ++ L') (Kn ++ K) ⟨w', fun k => σ.O k ∨ inL Ln k, inL (Ln ++ L')⟩ := by
  have hAb := hs.mine hat.mem hy
  have h1 : St w0 O0 M (Ln ++ L') K ⟨w', fun k => σ.O k ∨ inL Ln k, inL (Ln ++ L')⟩ := by
    refine hs.step hp.keep (by simpa using hAb) (fun _ h => .inl h) (fun k h => h.imp id ?_) (fun k h => ?_) (fun x hx => ?_) ?_
    · rintro ⟨x, hx, hb⟩; exact (hp.new x hx).2 k hb
    · rcases h with h | ⟨x, hx, hb⟩
      · exact Nat.lt_of_lt_of_le (hs.olt k h) hp.keep.size
      · obtain ⟨cs, T, hh, _⟩ := Own.cells (hp.new x hx).1 hb; exact lt_of_heap hh
    · rcases List.mem_append.1 hx with hx | hx
      · obtain ⟨g1, g2⟩ := hp.new x hx
        exact ⟨g1, fun b hb => ⟨.inr ⟨x, hx, hb⟩, .inr (g2 b hb)⟩⟩
      · rcases hat.others Own.apart_symm hs.apart x hx with rfl | ⟨hx', hap⟩
        · refine ⟨hp.io _ (by simp), fun c hc => ?_⟩
          rw [hy'] at hc; cases hc
          exact ⟨.inl ((hs.own _ hat.mem).2 b hy).1, .inl hAb⟩
        · obtain ⟨g1, g2⟩ := hs.own x hx'
          exact ⟨Own.keep g1 hp.keep (fun c hc hm => by simp at hm; subst hm; exact hap c hy hc), fun c hc => ⟨.inl (g2 c hc).1, .inl (hs.mine hx' hc)⟩⟩
    · refine List.pairwise_append.2 ⟨hp.apart, hat.pairwise (fun z h c hc => h c (by rw [hy]; rw [hy'] at hc; exact hc)) (fun z h c hc hc' => h c hc (by rw [hy]; rw [hy'] at hc'; exact hc')) hs.apart, fun x hx z hz c hc hc' => ?_⟩
      have h2 := (hp.new x hx).2 c hc
      have h3 : σ.O c := by
        rcases hat.mem' z hz with rfl | hz
        · rw [hy'] at hc'; cases hc'; exact ((hs.own _ hat.mem).2 b hy).1
        · exact ((hs.own z hz).2 c hc').1
      have := hs.olt c h3
      omega
  refine { h1 with kn := fun p hp' => (List.mem_append.1 hp').elim (fun h => ?_) (h1.kn p) }
  obtain ⟨hq, hr⟩ := hp.kn p h
  unfold SP.p
  rw [hq]; exact hr

variable {f : FuncId} {cal : Operand} {argTys : Array TypeId} {ops : Array Operand}

def evs (e : List (Nat × Value)) : List Operand → Option (List Value)
  | [] => some []
  | x :: l => match evo e x, evs e l with | some v, some vs => some (v :: vs) | _, _ => none
theorem evs_eval {a l vs} (he : EOk n e a) (h : evs e l = some vs) : l.map a.eval = vs := by
  induction l generalizing vs with
  | nil => simp [evs] at h; subst h; rfl
  | cons x l ih =>
    unfold evs at h
    cases hx : evo e x with
    | none => simp [hx] at h
    | some v =>
      cases hl : evs e l with
      | none => simp [hx, hl] at h
      | some us => simp [hx, hl] at h; subst h; simp [he.eval hx, ih hl]

/-- A function that is walked, not one of the model's own. -/
def PlainF (P : Program) (f : FuncId) : Prop := ∃ fn, P.funcs[f]? = some fn ∧ (fn.name == "runtime.NumGoroutine") = false ∧ fn.body.isNone = false

theorem run_call_func {a : Act} {l : List Operand} {vs cs : List Value} (hf : PlainF P f) (ho : o.op = .call { callee := .value cal, args := l.toArray, argTypes := argTys }) (hcal : evo e cal = some (.func (.func f) #[] cs.toArray)) (he : EOk n e a) (hv : evs e l = some vs) (w : World) :
    (execOp a.eval o).run P w = .ok (.enter f (vs ++ cs).toArray) w := by
  obtain ⟨fn, h1, h2, h3⟩ := hf
  have hm : (l.toArray.map a.eval) = vs.toArray := by rw [← evs_eval he hv]; simp
  simp only [execOp, ho, resolve, he.eval hcal, Deferred.ofValue, Sem.run_bind, Sem.run_pure, Result.andThen_ok, invoke, callFunc, run_program, hm, h1, h2, h3, Array.empty_append]
  simp

theorem wp_of_call {a : Act} {w : World} {vs : Array Value} {R : Ending → World → Prop} (hy : (execOp a.eval o).run P w = .ok (.enter f vs) w) (hc : Calls P f vs w R) (h : ∀ e w', R e w' → ∃ v, e = .returned v ∧ next (a.put o.dst v) w') : o.wp P a w next Q := by
  unfold Oper.wp; rw [hy]
  refine Calls.mono hc fun e w' he => ?_
  obtain ⟨v, rfl, hn⟩ := h e w' he
  exact hn

theorem so_call {l vs cs R} (hf : PlainF P f) (ho : o.op = .call { callee := .value cal, args := l.toArray, argTypes := argTys }) (hcal : evo e cal = some (.func (.func f) #[] (List.toArray cs))) (hv : evs e l = some vs) (hd : dstO n o = some (some d))
    (hc : ∀ σ, St w0 O0 M L K σ → CallsP P f (vs ++ cs).toArray σ.w σ.O [] R) (h : ∀ v Ln Kn, R v Ln [] Kn → NJ n w0 O0 M next ((d, v) :: e) (Ln ++ L) (Kn ++ K)) (hR : ∀ v Ln Li Kn, R v Ln Li Kn → Li = []) : SJ n w0 O0 M P o next Q e L K := fun a σ he hs => by
  refine wp_of_call (run_call_func hf ho hcal he hv _) (hc σ hs) ?_
  rintro e' w' ⟨v, Ln, Li, Kn, rfl, hr, hp⟩
  cases hR _ _ _ _ hr
  exact ⟨v, rfl, h v Ln Kn hr _ _ (dstO_put hd he) (hs.call hp)⟩
/-- .. that writes one block. -/
theorem so_callm {l vs cs R b y} (hf : PlainF P f) (ho : o.op = .call { callee := .value cal, args := l.toArray, argTypes := argTys }) (hcal : evo e cal = some (.func (.func f) #[] (List.toArray cs))) (hv : evs e l = some vs) (hd : dstO n o = some (some d)) (hb : y.block = some b)
    (hc : ∀ σ, St w0 O0 M L K σ → CallsP P f (vs ++ cs).toArray σ.w σ.O [b] R) (h : ∀ v Ln Li Kn, R v Ln Li Kn → ∃ y' L', Li = [y'] ∧ y'.block = some b ∧ SetAt y y' L L' ∧ NJ n w0 O0 M next ((d, v) :: e) (Ln ++ L') (Kn ++ K)) : SJ n w0 O0 M P o next Q e L K := fun a σ he hs => by
  refine wp_of_call (run_call_func hf ho hcal he hv _) (hc σ hs) ?_
  rintro e' w' ⟨v, Ln, Li, Kn, rfl, hr, hp⟩
  obtain ⟨y', L', rfl, hy', hst, hn⟩ := h v Ln Li Kn hr
  exact ⟨v, rfl, hn _ _ (dstO_put hd he) (hs.callm hst hb hy' hp)⟩
/-- .. that returns a value alone. -/
theorem so_callv {l vs cs u} (hf : PlainF P f) (ho : o.op = .call { callee := .value cal, args := l.toArray, argTypes := argTys }) (hcal : evo e cal = some (.func (.func f) #[] (List.toArray cs))) (hv : evs e l = some vs) (hd : dstO n o = some (some d))
    (hc : ∀ σ, St w0 O0 M L K σ → CallsP P f (vs ++ cs).toArray σ.w σ.O [] (RV u)) (h : NJ n w0 O0 M next ((d, u) :: e) L K) : SJ n w0 O0 M P o next Q e L K :=
  so_call hf ho hcal hv hd hc (fun v Ln Kn ⟨h1, h2, _, h4⟩ => by subst h1 h2 h4; exact h) (fun _ _ _ _ h => h.2.2.1)

/-! ## Returns -/
def resV (a : Act) : ResultVar → Sem Value
  | .tmp t => pure (a.tmps.getD t undef)
  | .cell p t => do loadVar t (← asAddr (a.tmps.getD p undef))
def ResR (n : Nat) (w0 : World) (O0 : Nat → Prop) (M : List Nat) (P : Program) (rs : List ResultVar) (e : List (Nat × Value)) (L : List Own) (K : List SP) (vs : List Value) : Prop :=
  ∀ a σ, EOk n e a → St w0 O0 M L K σ → (rs.mapM (resV a)).run P σ.w = .ok vs σ.w

variable {vs : List Value} {rs : List ResultVar} {v : Value} {i : Nat}
theorem rr_nil : ResR n w0 O0 M P [] e L K [] := fun a σ _ _ => by simp
theorem rr_tmp (hx : fnd e i = some v) (h : ResR n w0 O0 M P rs e L K vs) : ResR n w0 O0 M P (.tmp i :: rs) e L K (v :: vs) := fun a σ he hs => by
  have h1 := h a σ he hs
  have h2 : a.tmps[i]?.getD undef = v := by simp [he.get i v hx]
  simp only [List.mapM_cons, resV, Sem.run_bind, Sem.run_pure, Result.andThen_ok, h1, Array.getD_eq_getD_getElem?, h2]
theorem rr_cella {b xs} (hT : TyI P t true s z) (hx : fnd e i = some (pt b 0)) (hL : At (.blk b T xs) L) (hl : xs.length = s) (h : ResR n w0 O0 M P rs e L K vs) : ResR n w0 O0 M P (.cell i t :: rs) e L K (ag xs :: vs) := fun a σ he hs => by
  have h1 := h a σ he hs
  have h2 : a.tmps[i]?.getD undef = pt b 0 := by simp [he.get i _ hx]
  have h3 := run_load_agg (P := P) (hs.own _ hL.mem).1.1 (Sub.refl xs) hT hl
  simp only [Instr.loadAt, Instr.sureAddr, Sem.run_bind, Sem.run_pure, Result.andThen_ok] at h3
  simp only [List.mapM_cons, resV, Sem.run_bind, Sem.run_pure, Result.andThen_ok, h1, Array.getD_eq_getD_getElem?, h2, asAddr, h3]
theorem rr_cell1 {b u} (hT : TyI P t false s z) (hx : fnd e i = some (pt b 0)) (hL : At (.blk b T [u]) L) (h : ResR n w0 O0 M P rs e L K vs) : ResR n w0 O0 M P (.cell i t :: rs) e L K (u :: vs) := fun a σ he hs => by
  have h1 := h a σ he hs
  have h2 : a.tmps[i]?.getD undef = pt b 0 := by simp [he.get i _ hx]
  have h3 := run_load_one (P := P) (hs.own _ hL.mem).1.1 (Sub.refl [u]) hT
  simp only [Instr.loadAt, Instr.sureAddr, Sem.run_bind, Sem.run_pure, Result.andThen_ok] at h3
  simp only [List.mapM_cons, resV, Sem.run_bind, Sem.run_pure, Result.andThen_ok, h1, Array.getD_eq_getD_getElem?, h2, asAddr, h3]

def retV : List Value → Value
  | [v] => v
  | vs => .tuple vs.toArray

theorem jx_ret {fn : Func} {R Ln Li Kn} (hrs : fn.results = rs.toArray) (hr : ResR n w0 O0 M P rs e L K vs) (hR : R (retV vs) Ln Li Kn) (hL : Picks (Ln ++ Li) L) (hK : Among Kn K) (hq : Kn.all (·.q) = true) (hM : ∀ b ∈ M, ∃ x ∈ Li, x.block = some b) :
    JX n w0 O0 M .ret (bodyPost P fn (PostE R w0 O0 M)) e L K := fun a σ he hs => by
  refine ⟨he.defs, retV vs, ?_, retV vs, Ln, Li, Kn, rfl, hR, ?_⟩
  · have h1 := hr a σ he hs
    have hf : results fn a.tmps = (do let vs ← fn.results.mapM (resV a); pure (if h : vs.size = 1 then vs[0] else .tuple vs)) := by
      unfold results
      congr 1
    rw [hf, hrs]
    simp only [Sem.run_bind]
    rw [Array.mapM_eq_mapM_toList]
    simp only [Sem.run_map]
    rw [h1]
    match vs with
    | [] => rfl
    | [v] => rfl
    | _ :: _ :: _ => rfl
  · have hap := hL.pairwise Own.apart_symm hs.apart
    rw [List.pairwise_append] at hap
    refine ⟨hs.keep, fun x hx => ⟨(hs.own x (hL.mem x (by simp [hx]))).1, fun b hb => ?_⟩, hap.1, fun x hx => (hs.own x (hL.mem x (by simp [hx]))).1, fun p hp => ?_⟩
    · rcases ((hs.own x (hL.mem x (by simp [hx]))).2 b hb).2 with h | h
      · exact h
      · obtain ⟨y, hy, hyb⟩ := hM b h
        exact absurd hyb (hap.2.2 x hx y hy b hb)
    · have h1 : p.q = true := (List.all_eq_true.1 hq) p hp
      refine ⟨h1, ?_⟩
      have h2 := hs.kn p (hK.mem p hp)
      unfold SP.p at h2
      rw [h1] at h2
      refine p.st _ _ _ _ (.same fun k hO => ?_) h2
      rintro (h | ⟨x, hx, hb⟩)
      · exact hO (hs.opre k h)
      · exact hO ((hs.own x (hL.mem x (by simp [hx]))).2 k hb).1

/-- A body that comes to its end. -/
theorem jx_fall {fn : Func} {R} (h : JX n w0 O0 M .ret (bodyPost P fn (PostE R w0 O0 M)) e L K) : JX n w0 O0 M .normal (bodyPost P fn (PostE R w0 O0 M)) e L K := h
end
end Go.Proofs.YtbhbpfdjlabamaaGreat
