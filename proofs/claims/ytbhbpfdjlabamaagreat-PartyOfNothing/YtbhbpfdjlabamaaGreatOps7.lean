/-
  The rules of the walks: slices once more: rows of rows, cuts, elements read and written; strings; calls that hand back slices.
-/
import Derived.Test.YtbhbpfdjlabamaaGreatOps6
import Derived.Laws.BytesArg
import Derived.Laws.IdiomStrings
set_option linter.all false
set_option linter.unusedVariables false
set_option linter.unusedSimpArgs false
namespace Go.Proofs.YtbhbpfdjlabamaaGreat
open Go

/-- A list put ahead of another one. -/
inductive AppTo {α : Type} : List α → List α → List α → Prop
  | nil {l} : AppTo [] l l
  | cons {x a l m} : AppTo a l m → AppTo (x :: a) l (x :: m)
theorem AppTo.eq {α} {a l m : List α} (h : AppTo a l m) : m = a ++ l := by induction h <;> simp_all

def RX {X : Type} (V : X → Value) (LN : X → List Own) (KN : X → List SP) (v : Value) (Ln Li : List Own) (Kn : List SP) : Prop := ∃ x, v = V x ∧ Ln = LN x ∧ Li = [] ∧ Kn = KN x

/-! ## Lists -/
def cut {α : Type} (l : List α) (lo hi : Int) : List α := (l.take hi.toNat).drop lo.toNat
def lup {α : Type} (l : List α) (i : Int) (x : α) : List α := l.set i.toNat x
def imin (i j : Int) : Int := if j < i then j else i
def imax (i j : Int) : Int := if j > i then j else i
def sbytes (s : ByteArray) : List Int := s.data.toList.map fun b => (b.toNat : Int)
def bstr (l : List Int) : ByteArray := ⟨(l.map fun n => UInt8.ofNat n.toNat).toArray⟩

theorem many_sub' {α} [Inhabited α] (C : Ty α) (l : List α) (i : Int) (h : 0 ≤ i ∧ i < (l.length : Int)) : Sub (C.many l) (i.toNat * C.size) (C.enc (lat l i)) := by
  have hl : i.toNat < l.length := by omega
  exact C.many_sub l i.toNat (lat l i) (by simp only [lat, List.getD]; rw [List.getElem?_eq_getElem hl]; rfl)
theorem many_upd' {α} (C : Ty α) (l : List α) (i : Int) (x : α) (h : 0 ≤ i ∧ i < (l.length : Int)) : Upd (C.many l) (i.toNat * C.size) (C.enc x) (C.many (lup l i x)) :=
  C.many_upd l i.toNat x (by omega)
theorem many_repl {α} (C : Ty α) (m : Nat) (z : α) : (List.replicate m (C.enc z)).flatten = C.many (List.replicate m z) := by
  induction m with
  | zero => rfl
  | succ m ih => rw [List.replicate_succ, List.replicate_succ, List.flatten_cons, ih]; rfl

/-- A slice of a slice. -/
def slcut (s : Sl) (lo hi : Int) (esz : Nat) : Sl := ⟨if s.cap = lo.toNat then s.a else s.a.map (·.add (lo.toNat * esz)), hi.toNat - lo.toNat, s.cap - lo.toNat⟩
theorem sub_take {xs ys : List Value} {off a b : Nat} (h : Sub xs off ys) (hab : a ≤ b) (hb : b ≤ ys.length) : Sub xs (off + a) ((ys.take b).drop a) := by
  obtain ⟨p, q, rfl, rfl⟩ := h
  refine ⟨p ++ ys.take a, ys.drop b ++ q, ?_, by simp; omega⟩
  have h1 : ys = ys.take b ++ ys.drop b := (List.take_append_drop b ys).symm
  have h2 : ys.take b = (ys.take b).take a ++ (ys.take b).drop a := (List.take_append_drop a (ys.take b)).symm
  have h3 : (ys.take b).take a = ys.take a := by rw [List.take_take, Nat.min_eq_left hab]
  rw [h3] at h2
  simp only [List.append_assoc]
  congr 1
  rw [← List.append_assoc ((ys.take b).drop a), ← List.append_assoc (ys.take a), ← List.append_assoc (ys.take a), ← h2, h1.symm]
theorem many_cut {α} (C : Ty α) (l : List α) (a b : Nat) : C.many ((l.take b).drop a) = ((C.many l).take (b * C.size)).drop (a * C.size) := by
  have ht : ∀ (l : List α) (b : Nat), (C.many l).take (b * C.size) = C.many (l.take b) := by
    intro l
    induction l with
    | nil => intro b; simp [Ty.many]
    | cons x l ih =>
      intro b
      cases b with
      | zero => simp [Ty.many]
      | succ b =>
        have := ih b
        simp only [Ty.many, List.flatMap_cons, List.take_succ_cons] at *
        rw [← this, List.take_append, C.len]
        have h1 : (b + 1) * C.size - C.size = b * C.size := by rw [Nat.succ_mul]; omega
        rw [h1, List.take_of_length_le (by rw [C.len, Nat.succ_mul]; omega)]
  have hd : ∀ (l : List α) (a : Nat), (C.many l).drop (a * C.size) = C.many (l.drop a) := by
    intro l
    induction l with
    | nil => intro b; simp [Ty.many]
    | cons x l ih =>
      intro b
      cases b with
      | zero => simp [Ty.many]
      | succ b =>
        have := ih b
        simp only [Ty.many, List.flatMap_cons, List.drop_succ_cons] at *
        rw [← this, List.drop_append, C.len]
        have h1 : (b + 1) * C.size - C.size = b * C.size := by rw [Nat.succ_mul]; omega
        rw [h1, List.drop_of_length_le (by rw [C.len, Nat.succ_mul]; omega)]
        rfl
  rw [ht, hd]
theorem row_cut {α} (C : Ty α) {s : Sl} {l : List α} {lo hi : Int} {ok w} (h : RowR C ok w s l) (hb : 0 ≤ lo ∧ lo ≤ hi ∧ hi ≤ (l.length : Int)) : RowR C ok w (slcut s lo hi C.size) (cut l lo hi) := by
  obtain ⟨h1, h2, h3⟩ := h
  have hlen : (cut l lo hi).length = hi.toNat - lo.toNat := by simp only [cut, List.length_drop, List.length_take]; omega
  refine ⟨by simp only [slcut]; rw [hlen], by simp only [slcut]; omega, ?_⟩
  rcases h3 with ⟨ha, hl, hc⟩ | ⟨b, off, cells, T, fr, ha, hO, hh, hT, hsub, hle, hcap⟩
  · subst hl
    simp at hb
    left
    have : lo.toNat = 0 := by omega
    refine ⟨by simp [slcut, ha], by simp [cut], by simp [slcut, hc]⟩
  · right
    have hlc : lo.toNat ≤ s.cap := by omega
    by_cases hcl : s.cap = lo.toNat
    · have he : hi.toNat = lo.toNat := by omega
      refine ⟨b, off, cells, T, fr, by simp [slcut, hcl, ha], hO, hh, hT, ?_, by simp only [slcut]; omega, by simp only [slcut, hcl, Nat.sub_self, Nat.zero_mul]; omega⟩
      have : cut l lo hi = [] := by simp only [cut]; rw [List.drop_of_length_le]; simp; omega
      rw [this]
      exact ⟨cells.take off, cells.drop off, by simp [Ty.many], by simp; omega⟩
    · refine ⟨b, off + lo.toNat * C.size, cells, T, fr, by simp only [slcut, if_neg hcl, ha, Option.map_some]; rw [add_pt], hO, hh, hT, ?_, by simp only [slcut]; omega, ?_⟩
      · simp only [cut]
        rw [many_cut]
        exact sub_take hsub (Nat.mul_le_mul_right _ (by omega)) (by rw [C.many_len]; exact Nat.mul_le_mul_right _ (by omega))
      · have : lo.toNat * C.size + (s.cap - lo.toNat) * C.size = s.cap * C.size := by rw [← Nat.add_mul]; congr 1; omega
        simp only [slcut]; omega

section
variable {n : Nat} {w0 : World} {O0 : Nat → Prop} {M : List Nat} {P : Program}
variable {Q : Exit → Act → World → Prop} {e : List (Nat × Value)} {L L' : List Own} {K : List SP}
variable {o : Oper} {x y z : Operand} {T t : TypeId} {d : Nat} {next : Act → World → Prop} {α : Type} {C : Ty α}
variable {ρ : Type} {r : ρ}

theorem run_sliceBound {w : World} {k : IntKind} {i : Int} {m : Nat} {c : BoundsCode} (h : 0 ≤ i ∧ i ≤ (m : Int)) : (Instr.sliceBound (.int k i) m c).run P w = .ok i.toNat w := by
  simp [Instr.sliceBound, asIntOf, h]

/-- s[lo:hi], s[:hi], s[lo:]. -/
theorem run_slice {w : World} {sz : Nat} (hI : IS P t sz) {s : Sl} {lo hi : Option Value} {i j : Int} (hlo : (lo = none ∧ i = 0) ∨ ∃ k, lo = some (.int k i)) (hhi : (hi = none ∧ j = s.len) ∨ ∃ k, hi = some (.int k j)) (hb : 0 ≤ i ∧ i ≤ j ∧ j ≤ (s.cap : Int)) :
    (Instr.sliceAt t (sv s) lo hi none).run P w = .ok (sv (slcut s i j sz)) w := by
  obtain ⟨el, hu, hs⟩ := hI
  cases he : P.info? el with
  | none => simp [he] at hs
  | some inf =>
    simp [he] at hs
    have hj : ∀ c, (match hi with | some v => Instr.sliceBound v s.cap c | none => pure s.len : Sem Nat).run P w = .ok j.toNat w := by
      intro c
      rcases hhi with ⟨rfl, rfl⟩ | ⟨k, rfl⟩
      · simp
      · exact run_sliceBound ⟨by omega, hb.2.2⟩
    have hi' : ∀ c, (match lo with | some v => Instr.sliceBound v j.toNat c | none => pure 0 : Sem Nat).run P w = .ok i.toNat w := by
      intro c
      rcases hlo with ⟨rfl, rfl⟩ | ⟨k, rfl⟩
      · simp
      · exact run_sliceBound ⟨hb.1, by omega⟩
    have hbd : (Instr.sliceBounds true s.len s.cap lo hi none).run P w = .ok (i.toNat, j.toNat, s.cap) w := by
      have h1 := hj .sliceAcap
      have h2 := hi' .sliceB
      simp only [Instr.sliceBounds, Sem.run_bind, Sem.run_pure, Result.andThen_ok]
      rcases hhi with ⟨rfl, rfl⟩ | ⟨k, rfl⟩ <;> rcases hlo with ⟨rfl, rfl⟩ | ⟨k', rfl⟩ <;> simp_all
    simp only [Instr.sliceAt, Instr.slice, Sem.run_bind, run_underlying hu, Result.andThen_ok, hbd, sizeOf, typeInfo, run_program, he, Sem.run_pure, hs, slcut]

theorem yv_sl {sz : Nat} (hI : IS P t sz) {s : Sl} {lo hi : Option Operand} {i j : Int} (ho : o.op = .slice t x lo hi none) (hx : evo e x = some (sv s)) (hlo : (lo = none ∧ i = 0) ∨ ∃ q k, lo = some q ∧ evo e q = some (.int k i)) (hhi : (hi = none ∧ j = s.len) ∨ ∃ q k, hi = some q ∧ evo e q = some (.int k j)) (hb : 0 ≤ i ∧ i ≤ j ∧ j ≤ (s.cap : Int)) :
    Yv n P o e L K (sv (slcut s i j sz)) := fun a σ he _ => by
  have := run_slice (P := P) (w := σ.w) hI (s := s) (lo := lo.map a.eval) (hi := hi.map a.eval) (i := i) (j := j)
    (by rcases hlo with ⟨rfl, rfl⟩ | ⟨q, k, rfl, hq⟩; exact .inl ⟨rfl, rfl⟩; exact .inr ⟨k, by simp [he.eval hq]⟩)
    (by rcases hhi with ⟨rfl, rfl⟩ | ⟨q, k, rfl, hq⟩; exact .inl ⟨rfl, rfl⟩; exact .inr ⟨k, by simp [he.eval hq]⟩) hb
  simp only [execOp, ho, he.eval hx, Sem.run_bind, Option.map_none, this, Result.andThen_ok, Sem.run_pure]
/-- .. of a slice that is read. -/
theorem yv_slk {sz : Nat} (hI : IS P t sz) {s : Sl} {l : List α} {lo hi : Option Operand} {i j : Int} (ho : o.op = .slice t x lo hi none) (hx : evo e x = some (sv s)) (hR : Rd (mRow C) s l L K) (hlo : (lo = none ∧ i = 0) ∨ ∃ q k, lo = some q ∧ evo e q = some (.int k i)) (hhi : (hi = none ∧ j = l.length) ∨ ∃ q k, hi = some q ∧ evo e q = some (.int k j)) (hb : 0 ≤ i ∧ i ≤ j ∧ j ≤ (l.length : Int)) :
    Yv n P o e L K (sv (slcut s i j sz)) := fun a σ he hk => by
  have hp := hR σ hk
  have h1 : s.len = l.length := hp.1
  have h2 : s.len ≤ s.cap := by
    rcases hp.2.2 with ⟨_, h, _⟩ | ⟨_, _, _, _, _, _, _, _, _, _, h, _⟩
    · rw [h1, h]; exact Nat.zero_le _
    · exact h
  exact yv_sl (n := n) (L := L) (K := K) hI ho hx hlo (by rw [h1]; exact hhi) ⟨hb.1, hb.2.1, by omega⟩ a σ he hk

/-- A slice of a frozen array: all, or from lo to hi. -/
theorem run_slice_arr {w : World} {len sz b off : Nat} (hI : IA P t len sz) {lo hi : Option Value} {i j : Int} (hlo : (lo = none ∧ i = 0) ∨ ∃ k, lo = some (.int k i)) (hhi : (hi = none ∧ j = len) ∨ ∃ k, hi = some (.int k j)) (hb : 0 ≤ i ∧ i ≤ j ∧ j ≤ (len : Int)) :
    (Instr.sliceAt t (pt b off) lo hi none).run P w = .ok (sv (slcut ⟨some ⟨b, off, none⟩, len, len⟩ i j sz)) w := by
  obtain ⟨el, hu, hs⟩ := hI
  cases he : P.info? el with
  | none => simp [he] at hs
  | some inf =>
    simp [he] at hs
    have hbd : (Instr.sliceBounds false len len lo hi none).run P w = .ok (i.toNat, j.toNat, len) w := by
      simp only [Instr.sliceBounds, Sem.run_bind, Sem.run_pure, Result.andThen_ok]
      rcases hhi with ⟨rfl, rfl⟩ | ⟨k, rfl⟩ <;> rcases hlo with ⟨rfl, rfl⟩ | ⟨k', rfl⟩ <;> simp [run_sliceBound, *] <;> (try (rw [run_sliceBound ⟨by omega, by omega⟩])) <;> (try simp) <;> (try (rw [run_sliceBound ⟨by omega, by omega⟩])) <;> (try simp)
    simp only [Instr.sliceAt, Sem.run_bind, run_underlying hu, Result.andThen_ok, Instr.sureAddr, hbd, sizeOf, typeInfo, run_program, he, Sem.run_pure, hs, slcut, Option.map_some]
    by_cases hc : len = i.toNat
    · simp [hc]
    · simp [hc]

/-- A part of a block that is an array, as a slice. -/
theorem rq_arr {q : Lv} {len : Nat} {C : Ty α} {b off : Nat} {xs : List Value} {v : Vector α len} (h : Rq q mBl b xs L K) (hs : Sub xs off ((Ty.arr len C).enc v)) (hm : len ≤ 1000) : Rq q (mRow C) ⟨some ⟨b, off, none⟩, len, len⟩ v.toList L K := fun σ hk => by
  obtain ⟨T, fr, hO, hh, hT⟩ := h σ hk
  have hl := hs.le
  rw [Ty.len] at hl
  exact ⟨by simp, by simp [maxLen]; omega, .inr ⟨b, off, xs, T, fr, rfl, hO, hh, hT, hs, Nat.le_refl _, hl⟩⟩
theorem rq_cut {q : Lv} {s : Sl} {l : List α} {lo hi : Int} (h : Rq q (mRow C) s l L K) (hb : 0 ≤ lo ∧ lo ≤ hi ∧ hi ≤ (l.length : Int)) : Rq q (mRow C) (slcut s lo hi C.size) (cut l lo hi) L K := fun σ hk => row_cut C (h σ hk) hb
theorem rq_alcut {q : Lv} {β : Type} {m : MR α β} {l : List α} {k : List β} {i j : Int} (h : Rq q (mAl m) l k L K) : Rq q (mAl m) (cut l i j) (cut k i j) L K := fun σ hk => by
  obtain ⟨g1, g2⟩ := h σ hk
  refine ⟨by simp [cut, g1], fun q u v hu hv => ?_⟩
  simp only [cut, List.getElem?_drop, List.getElem?_take] at hu hv
  split at hu
  · rw [if_pos ‹_›] at hv; exact g2 _ u v hu hv
  · cases hu
theorem yv_sla {len sz b off : Nat} (hI : IA P t len sz) {lo hi : Option Operand} {i j : Int} (ho : o.op = .slice t x lo hi none) (hx : evo e x = some (pt b off)) (hlo : (lo = none ∧ i = 0) ∨ ∃ q k, lo = some q ∧ evo e q = some (.int k i)) (hhi : (hi = none ∧ j = len) ∨ ∃ q k, hi = some q ∧ evo e q = some (.int k j)) (hb : 0 ≤ i ∧ i ≤ j ∧ j ≤ (len : Int)) :
    Yv n P o e L K (sv (slcut ⟨some ⟨b, off, none⟩, len, len⟩ i j sz)) := fun a σ he _ => by
  have := run_slice_arr (P := P) (w := σ.w) hI (b := b) (off := off) (lo := lo.map a.eval) (hi := hi.map a.eval) (i := i) (j := j)
    (by rcases hlo with ⟨rfl, rfl⟩ | ⟨q, k, rfl, hq⟩; exact .inl ⟨rfl, rfl⟩; exact .inr ⟨k, by simp [he.eval hq]⟩)
    (by rcases hhi with ⟨rfl, rfl⟩ | ⟨q, k, rfl, hq⟩; exact .inl ⟨rfl, rfl⟩; exact .inr ⟨k, by simp [he.eval hq]⟩) hb
  simp only [execOp, ho, he.eval hx, Sem.run_bind, Option.map_none, this, Result.andThen_ok, Sem.run_pure]

/-! ## Elements of one's own slices -/
theorem own_at {w : World} {s : Sl} {T : TypeId} {esz m b : Nat} {xs : List Value} (h : (Own.sli s T esz m xs).holds w) (ha : s.a = some ⟨b, 0, none⟩) : ∃ cells, w.heap[b]? = some (.cells (List.toArray cells) T (0, 0)) ∧ s.len = m ∧ Sub cells 0 xs ∧ m ≤ s.cap ∧ cells.length = s.cap * esz ∧ s.cap ≤ maxLen := by
  obtain ⟨⟨_, h2⟩, _⟩ := h
  rcases h2 with ⟨h4, _⟩ | ⟨b', cap, cells, hv, _, hh, hle, hm, hsz, htk⟩
  · simp only [Value.slice.injEq] at h4; rw [h4.1] at ha; cases ha
  · simp only [Value.slice.injEq] at hv
    rw [ha] at hv; simp only [Option.some.injEq, Addr.mk.injEq, and_true] at hv
    obtain ⟨rfl, rfl, rfl⟩ := hv
    exact ⟨cells.toList, by simpa using hh, rfl, take_sub htk, hle, by simpa using hsz, hm⟩
/-- A store into one's own slice. -/
theorem St.setSli {σ : GS} {s : Sl} {T : TypeId} {esz m b p : Nat} {xs xs' ys : List Value} (hs : St w0 O0 M L K σ) (hat : SetAt (.sli s T esz m xs) (.sli s T esz m xs') L L') (ha : s.a = some ⟨b, 0, none⟩) (hu : Upd xs p ys xs') :
    ∃ cells cells', σ.w.heap[b]? = some (.cells (List.toArray cells) T (0, 0)) ∧ Upd cells p ys cells' ∧ St w0 O0 M L' K ⟨σ.w.setRow b cells'.toArray, σ.O, inL L'⟩ := by
  obtain ⟨hx, ho⟩ := hs.own _ hat.mem
  obtain ⟨cells, hh, hlen, hsub, hle, hsz, hmax⟩ := own_at hx ha
  obtain ⟨hO, hloc⟩ := ho b (by simp [Own.block, ha])
  obtain ⟨⟨hxl, _⟩, hT⟩ := hx
  have hcells : ∃ pad, cells = xs ++ pad := by obtain ⟨q, c, rfl, hq⟩ := hsub; exact ⟨c, by rw [List.eq_nil_of_length_eq_zero hq]; simp⟩
  obtain ⟨pad, rfl⟩ := hcells
  have hupd : Upd (xs ++ pad) p ys (xs' ++ pad) := by
    obtain ⟨q1, q2, q3, rfl, h1, h2, rfl⟩ := hu
    exact ⟨q1, q2, q3 ++ pad, by simp, h1, h2, by simp⟩
  refine ⟨xs ++ pad, xs' ++ pad, hh, hupd, ?_⟩
  have hA : σ.A b := hs.mine hat.mem (by simp [Own.block, ha])
  refine hs.step (keep_setRow _ _ _) (by simp; exact hA) (fun _ h => h) (fun _ h => .inl h) (fun k h => by simp; exact hs.olt k h) (fun y hy => ?_) ?_
  · rcases hat.others Own.apart_symm hs.apart y hy with rfl | ⟨hy', hap⟩
    · refine ⟨⟨⟨by rw [hu.length]; exact hxl, .inr ⟨b, s.cap, (xs' ++ pad).toArray, by simp only [sv, ha, hlen], Nat.zero_le _, setRow_heap _ _ _ _ _ _ hh, hle, hmax, by simp [hu.length] at hsz ⊢; exact hsz, ?_⟩⟩, hT⟩, fun b' hb' => ⟨(ho b' hb').1, .inl (hs.mine hat.mem hb')⟩⟩
      have h3 : m * esz = xs'.length := by rw [hu.length]; exact hxl.symm
      rw [h3]; simp
    · obtain ⟨h1, h2⟩ := hs.own y hy'
      exact ⟨Own.keep h1 (keep_setRow (O := fun _ => False) _ _ _) (fun b' hb' hm => by simp at hm; subst hm; exact hap _ (by simp [Own.block, ha]) hb'), fun b' hb' => ⟨(h2 b' hb').1, .inl (hs.mine hy' hb')⟩⟩
  · exact hat.pairwise (fun z h c hc => h c hc) (fun z h c hc hc' => h c hc hc') hs.apart
theorem so_sto1 {s : Sl} {T : TypeId} {esz m b p : Nat} {xs xs' : List Value} {v : Value} {zs : List Value} (hT : TyI P t false 1 zs) (ho : o.op = .store t x y) (hd : o.dst = none) (hx : evo e x = some (pt b p)) (hy : evo e y = some v) (h1 : v.oneCell' = true) (ha : s.a = some ⟨b, 0, none⟩) (hu : Upd xs p [v] xs')
    (hL : SetAt (.sli s T esz m xs) (.sli s T esz m xs') L L') (h : NJ n w0 O0 M next e L' K) : SJ n w0 O0 M P o next Q e L K := fun a σ he hs => by
  obtain ⟨cells, cells', hh, hupd, hst⟩ := hs.setSli hL ha hu
  refine wp_of_skip (w' := σ.w.setRow b cells'.toArray) ?_ (by rw [hd]; exact h _ _ he hst)
  have hc : v.cells = #[v] := by cases v <;> first | rfl | simp [Value.oneCell'] at h1
  have := run_store_cells (P := P) (t := t) hh hupd (v := v) (by simp [hc]) (by simpa using h1) (hT.run_size _)
  simp only [execOp, ho, he.eval hx, he.eval hy, Sem.run_bind, this, Result.andThen_ok, Sem.run_pure]
theorem so_stoa {s : Sl} {T : TypeId} {esz m b p sz : Nat} {xs xs' ys : List Value} {zs : List Value} (hT : TyI P t true sz zs) (ho : o.op = .store t x y) (hd : o.dst = none) (hx : evo e x = some (pt b p)) (hy : evo e y = some (ag ys)) (hl : ys.length = sz) (h1 : ∀ c ∈ ys, c.oneCell' = true) (ha : s.a = some ⟨b, 0, none⟩) (hu : Upd xs p ys xs')
    (hL : SetAt (.sli s T esz m xs) (.sli s T esz m xs') L L') (h : NJ n w0 O0 M next e L' K) : SJ n w0 O0 M P o next Q e L K := fun a σ he hs => by
  obtain ⟨cells, cells', hh, hupd, hst⟩ := hs.setSli hL ha hu
  refine wp_of_skip (w' := σ.w.setRow b cells'.toArray) ?_ (by rw [hd]; exact h _ _ he hst)
  have := run_store_cells (P := P) (t := t) hh hupd (v := ag ys) rfl h1 (by rw [hl]; exact hT.run_size _)
  simp only [execOp, ho, he.eval hx, he.eval hy, Sem.run_bind, this, Result.andThen_ok, Sem.run_pure]

/-! ## Under names -/
variable {F : List α → Option ρ}
theorem so_appL {bytes : Nat} {s s2 : Sl} {m : Nat} {l l2 : List α} (hh : Let (l ++ l2) F = some r) (hS : SI P t T C.size bytes) (ho : o.op = .call { callee := .builtin .append, args := #[x, y], argTypes := #[t, t] }) (hx : evo e x = some (sv s)) (hy : evo e y = some (sv s2)) (hd : dstO n o = some (some d))
    (hD : DelAt (.sli s T C.size m (C.many l)) L L') (hK : Rd (mRow C) s2 l2 L K) (hm : l.length = m) (hlim : (l ++ l2).length ≤ LIM) (h : ∀ s' l', F l' = some r → NJ n w0 O0 M next ((d, sv s') :: e) (.sli s' T C.size l'.length (C.many l') :: L') K) : SJ n w0 O0 M P o next Q e L K :=
  so_app hS ho hx hy hd hD hK hm hlim fun s' => h s' _ hh
/-- .. of handles. -/
theorem so_appV {β : Type} {m : MR α β} {q : Bool} {bytes : Nat} {s s2 : Sl} {vs vs2 : List α} {l l2 : List β} (hS : SI P t T C.size bytes) (ho : o.op = .call { callee := .builtin .append, args := #[x, y], argTypes := #[t, t] }) (hx : evo e x = some (sv s)) (hy : evo e y = some (sv s2)) (hd : dstO n o = some (some d))
    (hD : DelAt (.sli s T C.size vs.length (C.many vs)) L L') (hR : Rd (mRow C) s2 vs2 L K) (hA : Rq (.of q) (mAl m) vs l L K) (hA2 : Rq (.of q) (mAl m) vs2 l2 L K) (hlim : (l ++ l2).length ≤ LIM) (h : ∀ s' vs', NJ n w0 O0 M next ((d, sv s') :: e) (.sli s' T C.size vs'.length (C.many vs') :: L') (fa q (mAl m) vs' (l ++ l2) :: K)) : SJ n w0 O0 M P o next Q e L K := fun a σ he hs => by
  have h1 := hA σ hs.hk
  have h2 := hA2 σ hs.hk
  have hl : (vs ++ vs2).length ≤ LIM := by simp only [List.length_append] at hlim ⊢; rw [h1.1, h2.1]; exact hlim
  have h3 := rq_ala hA hA2
  have hs' : St w0 O0 M L (fa q (mAl m) (vs ++ vs2) (l ++ l2) :: K) σ := { hs with kn := fun q' hq => by rcases List.mem_cons.1 hq with rfl | hq; (have h4 := h3 σ hs.hk; rw [Lv.of_ok] at h4; exact h4); exact hs.kn q' hq }
  have hR' : Rd (mRow C) s2 vs2 L (fa q (mAl m) (vs ++ vs2) (l ++ l2) :: K) := fun σ hk => hR σ ⟨hk.1, fun p hp => hk.2 p (by simp [hp])⟩
  exact so_app (K := fa q (mAl m) (vs ++ vs2) (l ++ l2) :: K) hS ho hx hy hd hD hR' rfl hl (fun s' => h s' _) a σ he hs'
theorem so_bslL {bytes m : Nat} {ps : List (Nat × Operand)} {vs : List (Nat × Value)} {z0 : α} {l : List α} (hS : SI P t T C.size bytes) (hz : ((P.info? T).bind (·.zero)).map (·.cells) = some (C.enc z0).toArray) (ho : o.op = .buildSlice t m ps.toArray) (hv : evp e ps = some vs) (hd : dstO n o = some (some d))
    (hm : l.length = m) (hsm : m ≤ 16) (hcs : C.size ≤ 1000) (hf : Fills (fun i => some (i * C.size, C.size)) vs (C.many (List.replicate m z0)) (C.many l)) (h : ∀ s, NJ n w0 O0 M next ((d, sv s) :: e) (.sli s T C.size l.length (C.many l) :: L) K) : SJ n w0 O0 M P o next Q e L K :=
  so_bsl hS hz (C.len z0) ho hv hd hm hsm hcs (by rw [many_repl]; exact hf) fun s => by rw [← hm]; exact h s

instance : Inhabited Sl := ⟨⟨none, 0, 0⟩⟩

/-! ## Strings -/
theorem many_tyI (k : IntKind) (l : List Int) : (tyI k).many l = l.map (Value.int k) := by
  induction l with
  | nil => rfl
  | cons y l ih => simp only [Ty.many, tyI, List.flatMap_cons, List.map_cons] at *; rw [ih]; rfl
theorem yv_b2s {s : Sl} {l : List Int} {t2 e2 : TypeId} (hu1 : P.underlying t = some (.slice e2)) (hu2 : P.underlying e2 = some (.int .u8)) (hu3 : P.underlying t2 = some .string) (ho : o.op = .convert t t2 x) (hx : evo e x = some (sv s)) (hR : Rd (mRow (tyI .u8)) s l L K) : Yv n P o e L K (.string (bstr l)) := fun a σ he hk => by
  obtain ⟨h1, _, h3⟩ := hR σ hk
  have key : (convert t t2 (sv s)).run P σ.w = .ok (.string (bstr l)) σ.w := by
    obtain ⟨sa, sl, sc⟩ := s
    rcases h3 with ⟨ha, hl, hc⟩ | ⟨b, off, cells, T, fr, ha, _, hh, _, hsub, _⟩
    · subst hl; simp only at ha; subst ha
      rw [sv, run_convert_bytes_nil σ.w t e2 hu1 hu2 _ _ _ hu3]; rfl
    · simp only at ha h1; subst ha
      refine run_convert_bytes_arg σ.w t e2 hu1 hu2 b off sl sc l h1.symm (fun i hi => ?_) _ hu3
      have hc := cells_get (w := σ.w) (by simpa using hh) hsub i (.int .u8 (l.getD i 0)) ?_
      · rwa [add_pt] at hc
      · rw [many_tyI, List.getElem?_map]
        have hil : i < l.length := by omega
        simp [List.getD, List.getElem?_eq_getElem hil]
  simp only [execOp, ho, he.eval hx, Sem.run_bind, key, Result.andThen_ok, Sem.run_pure]
theorem so_s2b {s : ByteArray} {t2 e2 : TypeId} (hu1 : P.underlying t = some .string) (hu2 : P.underlying t2 = some (.slice e2)) (hu3 : P.underlying e2 = some (.int .u8)) (he2 : e2 ≠ keyT) (ho : o.op = .convert t t2 x) (hx : evo e x = some (.string s)) (hd : dstO n o = some (some d)) (hlim : s.size ≤ LIM)
    (h : ∀ s', NJ n w0 O0 M next ((d, sv s') :: e) L (fa true (mRow (tyI .u8)) s' (sbytes s) :: K)) : SJ n w0 O0 M P o next Q e L K := fun a σ he hs => by
  have hcv := run_bytes_of_string (P := P) σ.w t t2 e2 s hu1 hu2 hu3
  generalize hcap : grownCap σ.w s.size 0 e2 = cap at hcv
  have hge : s.size ≤ cap := by rw [← hcap]; exact grownCap_ge _ _ _ _
  have hmx : cap ≤ maxLen := by rw [← hcap]; exact grownCap_le_maxLen _ _ _ _ (by simp only [LIM] at hlim; simp only [maxLen]; omega)
  generalize hob : (Obj.cells (bytesRow s cap) e2 ((bytesRow s cap).size, (bytesRow s cap).size + 1)) = ob at hcv
  have hk : Keep σ.O [] σ.w (σ.w.drew.alloc ob) := (keep_drew _).trans (keep_alloc _ _)
  have hst : St w0 O0 M L K ⟨σ.w.drew.alloc ob, σ.O, inL L⟩ := hs.step hk (by simp) (fun _ h => h) (fun _ h => .inl h) (fun k hk' => Nat.lt_of_lt_of_le (hs.olt k hk') hk.size) (fun x hx => ⟨Own.keep (hs.own x hx).1 hk (by simp), fun b hb => ⟨((hs.own x hx).2 b hb).1, .inl (hs.mine hx hb)⟩⟩) hs.apart
  refine wp_of_value (w' := σ.w.drew.alloc ob) (v := sv ⟨some ⟨σ.w.heap.size, 0, none⟩, s.size, cap⟩) ?_ (h _ _ ⟨σ.w.drew.alloc ob, σ.O, inL L⟩ (dstO_put hd he) { hst with kn := fun p hp => ?_ })
  · simp only [execOp, ho, he.eval hx, Sem.run_bind, hcv, Result.andThen_ok, Sem.run_pure]
  · rcases List.mem_cons.1 hp with rfl | hp
    · refine ⟨by rw [sbytes, List.length_map, Array.length_toList]; rfl, hmx, .inr ⟨σ.w.heap.size, 0, (bytesRow s cap).toList, e2, ((bytesRow s cap).size, (bytesRow s cap).size + 1), rfl, fun hO => ?_, ?_, he2, ⟨[], List.replicate (cap - s.size) (.int .u8 0), ?_, rfl⟩, hge, ?_⟩⟩
      · have := hs.olt _ hO; omega
      · rw [← hob]; simpa using heap_alloc_new σ.w.drew (Obj.cells (bytesRow s cap) e2 ((bytesRow s cap).size, (bytesRow s cap).size + 1))
      · rw [many_tyI]; simp [bytesRow, sbytes]
      · have h1 : (bytesRow s cap).toList.length = cap := by
          simp only [bytesRow, Array.toList_append, List.length_append, Array.length_toList, Array.size_map, Array.size_replicate]
          have : s.data.size = s.size := rfl
          omega
        rw [h1]; show 0 + cap * 1 ≤ cap; omega
    · exact hst.kn p hp
theorem yv_min {i j : Int} {k : IntKind} {tys} (ho : o.op = .call { callee := .builtin .min, args := #[x, y], argTypes := tys }) (hx : evo e x = some (.int k i)) (hy : evo e y = some (.int k j)) : Yv n P o e L K (.int k (imin i j)) := fun a σ he _ => by
  simp [execOp, ho, resolve, invoke, builtin, Builtin.min_, Builtin.min2, he.eval hx, he.eval hy, imin]
theorem yv_max {i j : Int} {k : IntKind} {tys} (ho : o.op = .call { callee := .builtin .max, args := #[x, y], argTypes := tys }) (hx : evo e x = some (.int k i)) (hy : evo e y = some (.int k j)) : Yv n P o e L K (.int k (imax i j)) := fun a σ he _ => by
  simp [execOp, ho, resolve, invoke, builtin, Builtin.max_, Builtin.max2, he.eval hx, he.eval hy, imax]
theorem yv_eqs {u v : ByteArray} {T' : TypeId} (ho : o.op = .binOp .eql T x y T') (hx : evo e x = some (.string u)) (hy : evo e y = some (.string v)) : Yv n P o e L K (.bool (decide (u.toList = v.toList))) := fun a σ he _ => by
  simp [execOp, ho, he.eval hx, he.eval hy, eqGuard, binOp, Op.stringOp]
  by_cases h : u.toList = v.toList <;> simp [h]
theorem yv_nes {u v : ByteArray} {T' : TypeId} (ho : o.op = .binOp .neq T x y T') (hx : evo e x = some (.string u)) (hy : evo e y = some (.string v)) : Yv n P o e L K (.bool (decide (u.toList ≠ v.toList))) := fun a σ he _ => by
  simp [execOp, ho, he.eval hx, he.eval hy, eqGuard, binOp, Op.stringOp]
  by_cases h : u.toList = v.toList <;> simp [h]

/-! ## Calls that hand back what lies in memory -/
variable {f : FuncId} {cal : Operand} {argTys : Array TypeId}
theorem so_callx {X : Type} {V : X → Value} {LN : X → List Own} {KN : X → List SP} {L2 : X → List Own} {K2 : X → List SP} {l vs cs} (hf : PlainF P f) (ho : o.op = .call { callee := .value cal, args := l.toArray, argTypes := argTys }) (hcal : evo e cal = some (.func (.func f) #[] (List.toArray cs))) (hv : evs e l = some vs) (hd : dstO n o = some (some d))
    (hc : ∀ σ, St w0 O0 M L K σ → CallsP P f (vs ++ cs).toArray σ.w σ.O [] (RX V LN KN)) (hL : ∀ u, AppTo (LN u) L (L2 u)) (hK : ∀ u, AppTo (KN u) K (K2 u)) (h : ∀ u, NJ n w0 O0 M next ((d, V u) :: e) (L2 u) (K2 u)) : SJ n w0 O0 M P o next Q e L K :=
  so_call hf ho hcal hv hd hc (fun v Ln Kn ⟨u, h1, h2, _, h4⟩ => by subst h1 h2 h4; have := h u; rwa [(hL u).eq, (hK u).eq] at this) (fun _ _ _ _ ⟨_, _, _, h, _⟩ => h)
end
end Go.Proofs.YtbhbpfdjlabamaaGreat
