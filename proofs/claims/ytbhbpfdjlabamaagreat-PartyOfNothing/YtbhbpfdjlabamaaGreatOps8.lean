/-
  The rules of the walks: equality of structs and arrays; arrays out of slices; copy; make; calls that write.
-/
import Derived.Test.YtbhbpfdjlabamaaGreatOps7
import Derived.ChangeKeysEq
set_option linter.all false
set_option linter.unusedVariables false
set_option linter.unusedSimpArgs false
namespace Go.Proofs.YtbhbpfdjlabamaaGreat
open Go

section
variable {P : Program} {t : TypeId}

theorem EqT.up {α : Type} [DecidableEq α] {C : Ty α} {D D' : Nat} {g : Bool} (h : EqT P t D C g) (hD : Nat.ble D D' = true) : EqT P t D' C g := fun d x y w hd => h d x y w (Nat.le_trans (by simpa using hD) hd)
theorem EqT.str (hu : P.underlying t = some .string) : EqT P t 1 tyS false := by
  intro d x y w hd
  obtain ⟨d, rfl⟩ : ∃ m, d = m + 1 := ⟨d - 1, by omega⟩
  simp only [valOf, tyS, List.headD_cons, Op.equalIn, Sem.run_bind, run_underlying hu, Result.andThen_ok, Sem.run_pure]
  congr 1
  rw [Bool.eq_iff_iff]
  rw [beq_toListBytes]
  obtain ⟨⟨a⟩⟩ := x
  obtain ⟨⟨b⟩⟩ := y
  simp [ByteArray.toList_eq]

theorem eqItems_run {α : Type} [DecidableEq α] {C : Ty α} {el D d s : Nat} {g : Bool} {zz : List Value} (hT : TyI P el g s zz) (hE : EqT P el D C g) (hs : C.size = s) (h1 : g = false → s = 1) (hd : D ≤ d) (w : World) (l m : List α) :
    ∀ (is : List Nat), (∀ i ∈ is, i < l.length ∧ i < m.length) → (Op.eqItems d el s (C.many l).toArray (C.many m).toArray is).run P w = .ok (is.all fun i => decide (l[i]? = m[i]?)) w := by
  intro is
  induction is with
  | nil => intro _; simp [Op.eqItems]
  | cons i is ih =>
    intro hi
    obtain ⟨hl, hm⟩ := hi i (by simp)
    have p1 := run_part (P := P) (w := w) hT (C.many_sub l i l[i] (by simp)) (by rw [C.len, hs]) h1
    have p2 := run_part (P := P) (w := w) hT (C.many_sub m i m[i] (by simp)) (by rw [C.len, hs]) h1
    rw [hs] at p1 p2
    simp only [Op.eqItems, Sem.run_bind, p1, p2, Result.andThen_ok, hE d l[i] m[i] w hd]
    by_cases he : l[i] = m[i]
    · simp only [he, decide_true, Bool.not_true, Bool.false_eq_true, if_false, List.all_cons]
      rw [ih fun j hj => hi j (by simp [hj])]
      simp [List.getElem?_eq_getElem hl, List.getElem?_eq_getElem hm, he]
    · simp [he, List.getElem?_eq_getElem hl, List.getElem?_eq_getElem hm]

theorem EqT.arr {α : Type} [DecidableEq α] {C : Ty α} {n el D s : Nat} {g : Bool} {zz : List Value} (hu : P.underlying t = some (.array n el)) (hT : TyI P el g s zz) (hE : EqT P el D C g) (hs : C.size = s) (h1 : g = false → s = 1) : EqT P t (D + 1) (Ty.arr n C) true := by
  intro d x y w hd
  obtain ⟨d, rfl⟩ : ∃ m, d = m + 1 := ⟨d - 1, by omega⟩
  have hsz := hT.size
  cases hi : P.info? el with
  | none => simp [hi] at hsz
  | some inf =>
    have hc : P.cellsOf el = s := by simp [hi] at hsz; simp [Program.cellsOf, hi, hsz]
    show (Op.equalIn (d + 1) t (.agg (C.many x.toList).toArray) (.agg (C.many y.toList).toArray)).run P w = _
    rw [run_equalIn_array w d _ _ hu hi, hc, eqItems_run hT hE hs h1 (by omega) w x.toList y.toList _ (by simp)]
    congr 1
    rw [Bool.eq_iff_iff]
    simp only [List.all_eq_true, List.mem_range, decide_eq_true_eq]
    constructor
    · intro h
      apply Vector.toList_inj.1
      apply List.ext_getElem?
      intro i
      by_cases hi : i < n
      · exact h i hi
      · rw [List.getElem?_eq_none (by simp; omega), List.getElem?_eq_none (by simp; omega)]
    · rintro rfl i _; rfl

/-- Two structs field by field. -/
inductive EqF (P : Program) (D : Nat) (xs ys : List Value) : List Field → Bool → Prop
  | nil : EqF P D xs ys [] true
  | cons {α : Type} [DecidableEq α] {C : Ty α} {f : Field} {fs : List Field} {off s : Nat} {g : Bool} {zz : List Value} {u v : α} {r : Bool} (ho : f.offset = off) (hn : (f.name == "_") = false) (hT : TyI P f.type g s zz) (hE : EqT P f.type D C g) (hx : Sub xs off (C.enc u)) (hy : Sub ys off (C.enc v)) (hs : C.size = s) (h1 : g = false → s = 1) (h : EqF P D xs ys fs r) : EqF P D xs ys (f :: fs) (decide (u = v) && r)
theorem EqF.run {D d : Nat} {xs ys : List Value} {fs : List Field} {r : Bool} (h : EqF P D xs ys fs r) (hd : D ≤ d) (w : World) : (Op.eqFields d xs.toArray ys.toArray fs).run P w = .ok r w := by
  induction h with
  | nil => simp [Op.eqFields]
  | @cons α _ C f fs off s g zz u v r ho hn hT hE hx hy hs h1 _ ih =>
    subst ho
    have hn' : f.name ≠ "_" := by simpa using hn
    have p1 := run_part (P := P) (w := w) hT hx (by rw [C.len, hs]) h1
    have p2 := run_part (P := P) (w := w) hT hy (by rw [C.len, hs]) h1
    simp only [Op.eqFields, ne_eq, hn', not_false_eq_true, if_true, Sem.run_bind, p1, p2, Result.andThen_ok, hE d u v w hd]
    by_cases he : u = v
    · simp only [he, decide_true, Bool.not_true, Bool.false_eq_true, if_false, Bool.true_and]; exact ih
    · simp [he]
theorem EqT.struct {α : Type} [DecidableEq α] {C : Ty α} {D : Nat} {fields : Array Field} (hu : P.underlying t = some (.struct fields)) (hst : P.stoodInHeld t = false) (h : ∀ x y : α, ∃ r, EqF P D (C.enc x) (C.enc y) fields.toList r ∧ r = decide (x = y)) : EqT P t (D + 1) C true := by
  intro d x y w hd
  obtain ⟨d, rfl⟩ : ∃ m, d = m + 1 := ⟨d - 1, by omega⟩
  obtain ⟨r, hr, rfl⟩ := h x y
  have hf : P.fieldsOf t = fields := by simp [Program.fieldsOf, hu]
  show (Op.equalIn (d + 1) t (.agg (C.enc x).toArray) (.agg (C.enc y).toArray)).run P w = _
  rw [run_equalIn_struct w d t _ _ (by rw [hf]; exact hu) hst, hf]
  exact hr.run (by omega) w

variable {n : Nat} {e : List (Nat × Value)} {L : List Own} {K : List SP} {o : Oper} {x y : Operand} {T T' : TypeId} {α : Type} {C : Ty α}

theorem yv_eqa [DecidableEq α] {D : Nat} {u v : α} (hE : EqT P T D C true) (hD : Nat.ble D 100 = true) (hG : P.eqGuardType P.depth T = false) (ho : o.op = .binOp .eql T x y T') (hx : evo e x = some (ag (C.enc u))) (hy : evo e y = some (ag (C.enc v))) : Yv n P o e L K (.bool (decide (u = v))) := fun a σ he _ => by
  have h1 : (Op.equal T (ag (C.enc u)) (ag (C.enc v))).run P σ.w = .ok (decide (u = v)) σ.w := hE _ u v σ.w (Nat.le_trans (by simpa using hD) (by decide))
  simp [execOp, ho, he.eval hx, he.eval hy, eqGuard, hG, binOp]
  rw [h1]; simp
theorem yv_nea [DecidableEq α] {D : Nat} {u v : α} (hE : EqT P T D C true) (hD : Nat.ble D 100 = true) (hG : P.eqGuardType P.depth T = false) (ho : o.op = .binOp .neq T x y T') (hx : evo e x = some (ag (C.enc u))) (hy : evo e y = some (ag (C.enc v))) : Yv n P o e L K (.bool (decide (u ≠ v))) := fun a σ he _ => by
  have h1 : (Op.equal T (ag (C.enc u)) (ag (C.enc v))).run P σ.w = .ok (decide (u = v)) σ.w := hE _ u v σ.w (Nat.le_trans (by simpa using hD) (by decide))
  simp [execOp, ho, he.eval hx, he.eval hy, eqGuard, hG, binOp]
  rw [h1]; by_cases h : u = v <;> simp [h]
theorem yv_eqb {u v : Bool} (hu : P.underlying T = some .bool) (ho : o.op = .binOp .eql T x y T') (hx : evo e x = some (.bool u)) (hy : evo e y = some (.bool v)) : Yv n P o e L K (.bool (decide (u = v))) := fun a σ he _ => by
  have h1 : (Op.equal T (.bool u) (.bool v)).run P σ.w = .ok (decide (u = v)) σ.w := (EqT.bool hu) _ u v σ.w (by decide)
  simp [execOp, ho, he.eval hx, he.eval hy, eqGuard, binOp, h1]
theorem yv_neb {u v : Bool} (hu : P.underlying T = some .bool) (ho : o.op = .binOp .neq T x y T') (hx : evo e x = some (.bool u)) (hy : evo e y = some (.bool v)) : Yv n P o e L K (.bool (decide (u ≠ v))) := fun a σ he _ => by
  have h1 : (Op.equal T (.bool u) (.bool v)).run P σ.w = .ok (decide (u = v)) σ.w := (EqT.bool hu) _ u v σ.w (by decide)
  simp [execOp, ho, he.eval hx, he.eval hy, eqGuard, binOp]
  rw [h1]; by_cases h : u = v <;> simp [h]

/-! ## Arrays out of slices -/
def vofl {α : Type} [Inhabited α] (n : Nat) (l : List α) : Vector α n := Vector.ofFn fun i => lat l (i.val : Int)
theorem vofl_list {α : Type} [Inhabited α] {n : Nat} {l : List α} (h : n ≤ l.length) : (vofl n l).toList = l.take n := by
  apply List.ext_getElem?
  intro i
  by_cases hi : i < n
  · have h1 : i < l.length := by omega
    simp [vofl, lat, List.getElem?_take, hi, List.getElem?_eq_getElem h1, List.getD]
  · rw [List.getElem?_eq_none (by simp; omega), List.getElem?_eq_none (by simp; omega)]
theorem sub_vofl [Inhabited α] {n : Nat} {l : List α} (h : (n : Int) ≤ (l.length : Int)) : Sub (C.many l) 0 ((Ty.arr n C).enc (vofl n l)) := by
  refine ⟨[], C.many (l.drop n), ?_, rfl⟩
  show C.many l = [] ++ C.many (vofl n l).toList ++ _
  rw [vofl_list (by omega), List.nil_append, ← C.many_append, List.take_append_drop]
theorem yv_s2a {s : Sl} {l : List α} {m el : Nat} (hu : P.underlying T = some (.array m el)) (ho : o.op = .sliceToArrayPointer T x) (hx : evo e x = some (sv s)) (hR : Rd (mRow C) s l L K) (hl : (m : Int) ≤ (l.length : Int)) : Yv n P o e L K (.pointer s.a) := fun a σ he hk => by
  have h1 := (hR σ hk).1
  simp only [execOp, ho, he.eval hx, Sem.run_bind, Instr.arrayAt, run_underlying hu, Result.andThen_ok]
  rw [if_neg (by omega)]
  simp

end

/-! ## make, copy -/
section
variable {n : Nat} {w0 : World} {O0 : Nat → Prop} {M : List Nat} {P : Program}
variable {Q : Exit → Act → World → Prop} {e : List (Nat × Value)} {L L' : List Own} {K : List SP}
variable {o : Oper} {x y z : Operand} {T t : TypeId} {d : Nat} {next : Act → World → Prop} {α : Type} {C : Ty α}

theorem many_made (z0 : α) (zv : Array Value) (hz : zv = (C.enc z0).toArray) (hp : 0 < C.size) (m : Nat) : (madeCells zv (m * C.size)).toList = C.many (List.replicate m z0) := by
  subst hz
  rw [← many_repl]
  apply List.ext_getElem?
  intro j
  by_cases hj : j < m * C.size
  · have key : ∀ (m j : Nat) (hj : j < m * C.size), ((List.replicate m (C.enc z0)).flatten)[j]? = (C.enc z0)[j % C.size]? := by
      intro m
      induction m with
      | zero => intro j hj; simp at hj
      | succ m ih =>
        intro j hj
        rw [List.replicate_succ, List.flatten_cons]
        by_cases hlt : j < C.size
        · rw [List.getElem?_append_left (by rw [C.len]; omega), Nat.mod_eq_of_lt hlt]
        · rw [List.getElem?_append_right (by rw [C.len]; omega), C.len, ih (j - C.size) (by rw [Nat.succ_mul] at hj; omega)]
          congr 1
          rw [← Nat.mod_eq_sub_mod (by omega)]
    rw [key m j hj]
    have hmod : j % C.size < (C.enc z0).length := by rw [C.len]; exact Nat.mod_lt _ hp
    have hmod' : j % (C.enc z0).length < (C.enc z0).length := by rw [C.len] at hmod ⊢; exact hmod
    have h2 : (C.enc z0)[j % C.size]? = some ((C.enc z0)[j % C.size]) := List.getElem?_eq_getElem hmod
    rw [h2]
    simp [madeCells, hj, C.len]
    rw [h2]; rfl
  · rw [List.getElem?_eq_none (by simp [madeCells]; omega), List.getElem?_eq_none (by simp [C.len]; omega)]

theorem so_make {bytes : Nat} {k k' : IntKind} {i : Int} {z0 : α} (hS : SI P t T C.size bytes) (hz : ((P.info? T).bind (·.zero)).map (·.cells) = some (C.enc z0).toArray) (ho : o.op = .makeSlice t x y) (hx : evo e x = some (.int k i)) (hy : evo e y = some (.int k' i)) (hd : dstO n o = some (some d)) (hi : 0 ≤ i ∧ i ≤ (LIM : Int))
    (h : ∀ s, NJ n w0 O0 M next ((d, sv s) :: e) (.sli s T C.size (List.replicate i.toNat z0).length (C.many (List.replicate i.toNat z0)) :: L) K) : SJ n w0 O0 M P o next Q e L K := fun a σ he hs => by
  obtain ⟨it, zv, hi1, hzz, hsize, hby, hzs⟩ := hS.get
  have hzc : zv.cells = (C.enc z0).toArray := by simp [hi1, hzz] at hz; exact hz
  obtain ⟨m, rfl⟩ : ∃ m : Nat, i = m := ⟨i.toNat, by omega⟩
  have hm : m ≤ LIM := by omega
  have hmb : it.bytes * m ≤ 281474976710656 := by
    have h1 := hS.small
    rw [hby]
    have := Nat.mul_le_mul h1 hm
    simp only [LIM] at this; omega
  have hmb' : (it.bytes : Int) * (m : Int) ≤ 281474976710656 := by
    have h : ((it.bytes * m : Nat) : Int) ≤ 281474976710656 := by omega
    rwa [Int.natCast_mul] at h
  have hr := run_make (P := P) σ.w t T it zv hS.und hi1 hzz k k' m m (by omega) (Int.le_refl _) hmb' (by simp only [LIM] at hm; omega)
  simp only [Int.toNat_natCast] at hr h
  rw [hsize] at hr
  have hcells : (madeCells zv.cells (m * C.size)) = (C.many (List.replicate m z0)).toArray := by
    rw [← many_made z0 zv.cells hzc hS.pos]
  rw [hcells] at hr
  have h1 := hs.alloc (C.many (List.replicate m z0)) T hS.key
  have hlen := C.many_len (List.replicate m z0)
  have hbl : ∀ k, inL (.blk σ.w.heap.size T (C.many (List.replicate m z0)) :: L) k ↔ inL (.sli ⟨some ⟨σ.w.heap.size, 0, none⟩, m, m⟩ T C.size (List.replicate m z0).length (C.many (List.replicate m z0)) :: L) k := fun k => by
    simp only [inL, List.mem_cons, exists_eq_or_imp, Own.block, Option.map_some]
  refine wp_of_value (v := sv ⟨some ⟨σ.w.heap.size, 0, none⟩, m, m⟩) (w' := σ.w.alloc (.cells (C.many (List.replicate m z0)).toArray T)) ?_ (h ⟨some ⟨σ.w.heap.size, 0, none⟩, m, m⟩ _ ⟨_, fun k => σ.O k ∨ k = σ.w.heap.size, _⟩ (dstO_put hd he) { h1 with own := fun x hx => ?_, apart := ?_, ours := fun k => (h1.ours k).trans (hbl k) })
  · simp only [execOp, ho, he.eval hx, he.eval hy, Sem.run_bind, hr, Result.andThen_ok, Sem.run_pure]
  · rcases List.mem_cons.1 hx with rfl | hx
    · refine ⟨⟨?_, hS.key⟩, fun b hb => by simp only [Own.block, Option.map_some, Option.some.injEq] at hb; subst hb; exact ⟨.inr rfl, .inl hs.keep.size⟩⟩
      have := World.ownsRow_lit (base := 0) (e := T) (size := C.size) σ.w (C.many (List.replicate m z0)).toArray m (Nat.zero_le _) (by simp only [LIM] at hm; simp only [maxLen]; omega) (by simp [hlen])
      simpa using this
    · exact h1.own x (by simp [hx])
  · have := List.pairwise_cons.1 h1.apart
    exact List.pairwise_cons.2 ⟨fun y hy b hb => this.1 y hy b (by simpa [Own.block] using hb), this.2⟩

/-- A row over an array's beginning. -/
def vcopy {α : Type} {n : Nat} (v : Vector α n) (l : List α) : Vector α n := ⟨(l.take n ++ v.toList.drop l.length).toArray, by simp; omega⟩
theorem vcopy_list {n : Nat} (v : Vector α n) (l : List α) : (vcopy v l).toList = l.take n ++ v.toList.drop l.length := by simp [vcopy, Vector.toList]

theorem so_copyb {b off p c k2 : Nat} {T2 Ta : TypeId} {xs xs' : List Value} {s : Sl} {m : Nat} {v : Vector α m} {l : List α} (hu : P.underlying t = some (.slice T)) (hsz : (P.info? T).map (·.size) = some 1) (hC : C.size = 1) (ho : o.op = .call { callee := .builtin .copy, args := #[x, y], argTypes := #[t, T2] }) (hx : evo e x = some (.slice (some ⟨b, p, none⟩) m c)) (hy : evo e y = some (sv s)) (hd : dstO n o = some (some d))
    (hR : Rd (mRow C) s l L K) (hS : Sub xs off ((Ty.arr m C).enc v)) (hp : p = off) (hU : Upd xs off ((Ty.arr m C).enc (vcopy v l)) xs') (hL : SetAt (.blk b Ta xs) (.blk b Ta xs') L L') (hk2 : min l.length m = k2) (h : NJ n w0 O0 M next ((d, .int .i64 (k2 : Int)) :: e) L' K) : SJ n w0 O0 M P o next Q e L K := fun a σ he hs => by
  subst hp hk2
  obtain ⟨hlen, hcap, h3⟩ := hR σ hs.hk
  have hown := (hs.own _ hL.mem).1
  have hv : ((Ty.arr m C).enc v) = C.many v.toList := rfl
  have hv' : ((Ty.arr m C).enc (vcopy v l)) = C.many (l.take m) ++ C.many (v.toList.drop l.length) := by
    show C.many _ = _
    rw [vcopy_list, C.many_append]
  have hlv : (C.many v.toList).length = m := by rw [C.many_len, hC]; simp
  have hU2 := hU.eq
  obtain ⟨q1, q2, hxs, hq1⟩ := hS
  rw [hv] at hxs
  have htk : xs.take p = q1 := by rw [hxs, ← hq1]; simp
  have hdr : xs.drop (p + m) = q2 := by rw [hxs]; exact List.drop_left' (by rw [List.length_append, hlv, hq1])
  have hnl : (C.many (l.take m)).length = min l.length m := by rw [C.many_len, hC]; simp [Nat.min_comm]
  have hxs' : xs' = xs.take p ++ C.many (l.take m) ++ xs.drop (p + (C.many (l.take m)).length) := by
    rw [hU2.1, hv', hnl]
    have h5 : p + (C.many (l.take m) ++ C.many (v.toList.drop l.length)).length = p + m := by
      rw [List.length_append, hnl, C.many_len, hC]; simp; omega
    rw [h5, hdr, hxs, ← hq1]
    have h6 : (q1 ++ C.many v.toList ++ q2).drop (q1.length + min l.length m) = C.many (v.toList.drop l.length) ++ q2 := by
      rw [List.append_assoc, ← List.drop_drop, List.drop_left, List.drop_append_of_le_length (by rw [hlv]; exact Nat.min_le_right _ _)]
      congr 1
      have h7 := many_cut C v.toList (min l.length m) m
      rw [hC, Nat.mul_one, Nat.mul_one] at h7
      rw [List.take_of_length_le (by simp), List.take_of_length_le (by rw [hlv]; exact Nat.le_refl _)] at h7
      rw [← h7]
      congr 1
      rcases Nat.le_total l.length m with h8 | h8
      · rw [Nat.min_eq_left h8]
      · rw [Nat.min_eq_right h8, List.drop_of_length_le (by simp), List.drop_of_length_le (by simp; omega)]
    rw [h6]
    simp
  have hop : ∀ v w', (Builtin.copy_ #[t, T2] o.type #[.slice (some ⟨b, p, none⟩) m c, sv s]).run P σ.w = .ok v w' → (execOp a.eval o).run P σ.w = .ok (.value v) w' := fun v w' hr => by
    simp only [execOp, ho, resolve, invoke, builtin, Sem.run_bind, Sem.run_pure, Result.andThen_ok, List.map_toArray, List.map_cons, List.map_nil, he.eval hx, he.eval hy, hr]
  refine wp_of_value (v := .int .i64 ((min l.length m : Nat) : Int)) (w' := σ.w.setRow b xs'.toArray) (hop _ _ ?_) (h _ _ (dstO_put hd he) (hs.setRow hL))
  rcases h3 with ⟨hn, hl0, hc0⟩ | ⟨b', off', cells, T', fr, ha, _, hh, _, hsub, _⟩
  · subst hl0
    have hsv : sv s = .slice none 0 0 := by simp only [sv, hn, hc0, hlen, List.length_nil]
    rw [hsv]
    have hr := run_copy_nil (P := P) σ.w t T2 o.type T ⟨b, p, none⟩ m c hu (by cases hq : P.info? T <;> simp [hq] at hsz ⊢)
    have hx0 : xs' = xs := by
      rw [hxs']; simp [Ty.many]
    rw [hx0]
    have hw : σ.w.setRow b xs.toArray = σ.w := setRow_self _ _ _ _ _ hown.1
    rw [hw]; simpa [goInt] using hr
  · have hsv : sv s = .slice (some ⟨b', off', none⟩) l.length s.cap := by simp only [sv, ha, hlen]
    rw [hsv]
    have hr := run_copy_row (P := P) σ.w t T2 o.type T b p m c ⟨b', off', none⟩ l.length s.cap xs.toArray Ta (C.many (l.take m)) hu hsz hown.1 (by rw [hnl]) (cells_get (by simpa using hh) (Sub.trans hsub (by
        refine ⟨[], C.many (l.drop m), ?_, rfl⟩
        rw [List.nil_append, ← C.many_append, List.take_append_drop]))) (by simp only [List.size_toArray]; rw [hnl, hxs, List.length_append, List.length_append, hlv, hq1]; have := Nat.min_le_right l.length m; omega) (C.many_one _)
    rw [hnl] at hr
    simp only [List.toList_toArray] at hr
    rw [hr, ← hnl, ← hxs', hnl]
    rfl
end
end Go.Proofs.YtbhbpfdjlabamaaGreat
