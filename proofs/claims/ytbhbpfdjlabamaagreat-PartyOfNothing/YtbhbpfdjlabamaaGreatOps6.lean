/-
  The rules of the walks: structs and arrays as values: built, looked into, compared.
-/
import Derived.Test.YtbhbpfdjlabamaaGreatOps5
set_option linter.all false
set_option linter.unusedVariables false
set_option linter.unusedSimpArgs false
namespace Go.Proofs.YtbhbpfdjlabamaaGreat
open Go

theorem sub_head {a b : List Value} : Sub (a ++ b) 0 a := ⟨[], b, by simp, rfl⟩
theorem sub_tail {a b c : List Value} {k off m : Nat} (h : Sub b off c) (hl : a.length = k) (hm : k + off = m) : Sub (a ++ b) m c := by
  obtain ⟨p, q, rfl, rfl⟩ := h; subst hm; exact ⟨a ++ p, q, by simp, by simp [hl]⟩
theorem upd_head {a a' b : List Value} (hl : a.length = a'.length) : Upd (a ++ b) 0 a' (a' ++ b) := ⟨[], a, b, by simp, rfl, hl, by simp⟩
theorem upd_tail {a b c b' : List Value} {k off m : Nat} (h : Upd b off c b') (hl : a.length = k) (hm : k + off = m) : Upd (a ++ b) m c (a ++ b') := by
  obtain ⟨p, q, s, rfl, rfl, h1, rfl⟩ := h; subst hm; exact ⟨a ++ p, q, s, by simp, by simp [hl], h1, by simp⟩

/-- How a struct or an array is built: its zero cells, its places. -/
def BI (P : Program) (t : TypeId) (place : Nat → Option (Nat × Nat)) (zs : List Value) : Prop :=
  ∀ (w : World) (ps : List (Nat × Value)) (xs : List Value), Fills place ps zs xs → (Instr.build t ps.toArray).run P w = .ok (ag xs) w

section
variable {P : Program} {t : TypeId} {zs : List Value}
theorem BI.struct {fields : Array Field} {places : List (Nat × Nat)} (hu : P.underlying t = some (.struct fields)) (hz : ((P.info? t).bind (·.zero)).map Value.cells = some zs.toArray)
    (hp : fields.toList.mapM (fun f => (P.info? f.type).map fun i => (f.offset, i.size)) = some places) : BI P t (places[·]?) zs := by
  intro w ps xs h
  have hf := fill_of h
  cases hi : P.info? t with
  | none => simp [hi] at hz
  | some it =>
    cases hq : it.zero with
    | none => simp [hi, hq] at hz
    | some z =>
      simp [hi, hq] at hz
      refine run_build w t ps.toArray xs.toArray ?_
      unfold Program.built
      simp only [hi, hu, hq, hp, hz]
      simpa using hf
theorem BI.array {len el s : Nat} (hu : P.underlying t = some (.array len el)) (hz : ((P.info? t).bind (·.zero)).map Value.cells = some zs.toArray) (hs : (P.info? el).map (·.size) = some s) : BI P t (fun i => some (i * s, s)) zs := by
  intro w ps xs h
  have hf := fill_of h
  cases hi : P.info? t with
  | none => simp [hi] at hz
  | some it =>
    cases hq : it.zero with
    | none => simp [hi, hq] at hz
    | some z =>
      simp [hi, hq] at hz
      cases hie : P.info? el with
      | none => simp [hie] at hs
      | some ie =>
        simp [hie] at hs
        refine run_build w t ps.toArray xs.toArray ?_
        unfold Program.built
        simp only [hi, hu, hq, hz, hie, hs]
        simpa using hf

variable {n : Nat} {e : List (Nat × Value)} {L : List Own} {K : List SP} {o : Oper} {x y : Operand} {T : TypeId} {α : Type} {C : Ty α}

theorem yv_build {place : Nat → Option (Nat × Nat)} {ps : List (Nat × Operand)} {vs : List (Nat × Value)} {xs : List Value} (hB : BI P t place zs) (ho : o.op = .build t ps.toArray) (hv : evp e ps = some vs) (hf : Fills place vs zs xs) : Yv n P o e L K (ag xs) := fun a σ he _ => by
  have hev := evp_eval he hv
  have hmap : (ps.toArray.map fun (p : Nat × Operand) => (p.1, a.eval p.2)) = vs.toArray := by rw [← hev]; simp
  simp only [execOp, ho, Sem.run_bind]
  rw [show (ps.toArray.map fun x => match x with | (i, x) => (i, a.eval x)) = vs.toArray from hmap, hB σ.w vs xs hf]
  rfl

/-- A part of a value. -/
theorem run_part {w : World} {off s : Nat} {g : Bool} {xs ys zz : List Value} (hT : TyI P t g s zz) (hs : Sub xs off ys) (hl : ys.length = s) (h1 : g = false → s = 1) : (part t xs.toArray off).run P w = .ok (valOf g ys) w := by
  obtain ⟨a, c, rfl, rfl⟩ := hs
  cases g with
  | true =>
    simp only [part, Sem.run_bind, hT.run_agg, Result.andThen_ok, if_true, hT.run_size, Sem.run_pure, valOf]
    congr 2
    apply Array.ext'
    simp [← hl]
  | false =>
    match ys, hl.trans (h1 rfl) with
    | [v], _ => simp [part, hT.run_agg, valOf]
theorem yv_field {off s fi : Nat} {g : Bool} {fields : Array Field} {fd : Field} {xs ys zz : List Value} (hu : P.underlying T = some (.struct fields)) (hfd : fields[fi]? = some fd) (hoff : fd.offset = off) (hT : TyI P fd.type g s zz) (ho : o.op = .field T x fi) (hx : evo e x = some (ag xs)) (hs : Sub xs off ys) (hl : ys.length = s) (h1 : g = false → s = 1) : Yv n P o e L K (valOf g ys) := fun a σ he _ => by
  subst hoff
  simp only [execOp, ho, he.eval hx, Sem.run_bind, Instr.field, run_underlying hu, Result.andThen_ok, hfd, asAgg, Sem.run_pure, run_part hT hs hl h1]
theorem yv_index {len el s : Nat} {g : Bool} {k : IntKind} {i : Int} {xs ys zz : List Value} (hu : P.underlying T = some (.array len el)) (hT : TyI P el g s zz) (ho : o.op = .index T x y) (hx : evo e x = some (ag xs)) (hy : evo e y = some (.int k i)) (hi : 0 ≤ i ∧ i < (len : Int)) (hs : Sub xs (i.toNat * s) ys) (hl : ys.length = s) (h1 : g = false → s = 1) : Yv n P o e L K (valOf g ys) := fun a σ he _ => by
  simp only [execOp, ho, he.eval hx, he.eval hy, Sem.run_bind, Instr.index, asIntOf, run_underlying hu, Result.andThen_ok, Sem.run_pure, hi, and_self, if_true, hT.run_size, run_part hT hs hl h1]

/-! ## Equal? -/
/-- Two values of kind t are told to be one just where the data are. -/
def EqT (P : Program) (t : TypeId) (D : Nat) {α : Type} [DecidableEq α] (C : Ty α) (g : Bool) : Prop := ∀ (d : Nat) (x y : α) (w : World), D ≤ d → (Op.equalIn d t (valOf g (C.enc x)) (valOf g (C.enc y))).run P w = .ok (decide (x = y)) w

theorem EqT.int {k : IntKind} (hu : P.underlying t = some (.int k)) : EqT P t 1 (tyI k) false := by
  intro d x y w hd
  obtain ⟨d, rfl⟩ : ∃ m, d = m + 1 := ⟨d - 1, by omega⟩
  simp only [valOf, tyI, List.headD_cons, Op.equalIn, Sem.run_bind, run_underlying hu, Result.andThen_ok, if_true, Sem.run_pure]
  first | rfl | (congr 1)
theorem EqT.bool (hu : P.underlying t = some .bool) : EqT P t 1 tyB false := by
  intro d x y w hd
  obtain ⟨d, rfl⟩ : ∃ m, d = m + 1 := ⟨d - 1, by omega⟩
  simp only [valOf, tyB, List.headD_cons, Op.equalIn, Sem.run_bind, run_underlying hu, Result.andThen_ok, Sem.run_pure]
  congr 1
end

/-! ## Short names -/
section
variable {α : Type} {x y a b c d f g i j k m n : α} {l : List α}
theorem at0 : At x (x :: l) := .z
theorem at1 : At x (a :: x :: l) := .s .z
theorem at2 : At x (a :: b :: x :: l) := .s (.s .z)
theorem at3 : At x (a :: b :: c :: x :: l) := .s (.s (.s .z))
theorem at4 : At x (a :: b :: c :: d :: x :: l) := .s (.s (.s (.s .z)))
theorem at5 : At x (a :: b :: c :: d :: f :: x :: l) := .s (.s (.s (.s (.s .z))))
theorem at6 : At x (a :: b :: c :: d :: f :: g :: x :: l) := .s at5
theorem at7 : At x (a :: b :: c :: d :: f :: g :: i :: x :: l) := .s at6
theorem at8 : At x (a :: b :: c :: d :: f :: g :: i :: j :: x :: l) := .s at7
theorem at9 : At x (a :: b :: c :: d :: f :: g :: i :: j :: k :: x :: l) := .s at8
theorem se0 : SetAt x y (x :: l) (y :: l) := .z
theorem se1 : SetAt x y (a :: x :: l) (a :: y :: l) := .s .z
theorem se2 : SetAt x y (a :: b :: x :: l) (a :: b :: y :: l) := .s (.s .z)
theorem se3 : SetAt x y (a :: b :: c :: x :: l) (a :: b :: c :: y :: l) := .s (.s (.s .z))
theorem se4 : SetAt x y (a :: b :: c :: d :: x :: l) (a :: b :: c :: d :: y :: l) := .s (.s (.s (.s .z)))
theorem se5 : SetAt x y (a :: b :: c :: d :: f :: x :: l) (a :: b :: c :: d :: f :: y :: l) := .s se4
theorem se6 : SetAt x y (a :: b :: c :: d :: f :: g :: x :: l) (a :: b :: c :: d :: f :: g :: y :: l) := .s se5
theorem se7 : SetAt x y (a :: b :: c :: d :: f :: g :: i :: x :: l) (a :: b :: c :: d :: f :: g :: i :: y :: l) := .s se6
theorem se8 : SetAt x y (a :: b :: c :: d :: f :: g :: i :: j :: x :: l) (a :: b :: c :: d :: f :: g :: i :: j :: y :: l) := .s se7
theorem se9 : SetAt x y (a :: b :: c :: d :: f :: g :: i :: j :: k :: x :: l) (a :: b :: c :: d :: f :: g :: i :: j :: k :: y :: l) := .s se8
theorem de0 : DelAt x (x :: l) l := .z
theorem de1 : DelAt x (a :: x :: l) (a :: l) := .s .z
theorem de2 : DelAt x (a :: b :: x :: l) (a :: b :: l) := .s (.s .z)
theorem de3 : DelAt x (a :: b :: c :: x :: l) (a :: b :: c :: l) := .s (.s (.s .z))
theorem de4 : DelAt x (a :: b :: c :: d :: x :: l) (a :: b :: c :: d :: l) := .s (.s (.s (.s .z)))
theorem de5 : DelAt x (a :: b :: c :: d :: f :: x :: l) (a :: b :: c :: d :: f :: l) := .s de4
theorem de6 : DelAt x (a :: b :: c :: d :: f :: g :: x :: l) (a :: b :: c :: d :: f :: g :: l) := .s de5
theorem de7 : DelAt x (a :: b :: c :: d :: f :: g :: i :: x :: l) (a :: b :: c :: d :: f :: g :: i :: l) := .s de6
theorem de8 : DelAt x (a :: b :: c :: d :: f :: g :: i :: j :: x :: l) (a :: b :: c :: d :: f :: g :: i :: j :: l) := .s de7
theorem de9 : DelAt x (a :: b :: c :: d :: f :: g :: i :: j :: k :: x :: l) (a :: b :: c :: d :: f :: g :: i :: j :: k :: l) := .s de8
end

section
variable {n : Nat} {w0 : World} {O0 : Nat → Prop} {M : List Nat} {P : Program}
variable {Q : Exit → Act → World → Prop} {e : List (Nat × Value)} {L : List Own} {K : List SP}
variable {o : Oper} {x y : Operand} {T t : TypeId} {s : Nat} {z : List Value} {next : Act → World → Prop} {d : Nat} {v : Value}
variable {β ρ : Type} {D : Ty β} {u : β} {F : β → Option ρ} {r : ρ} {L' : β → List Own}

/-- An operation that only computes, in its turn. -/
theorem so_val (hd : dstO n o = some (some d)) (hy : Yv n P o e L K v) (h : NJ n w0 O0 M next ((d, v) :: e) L K) : SJ n w0 O0 M P o next Q e L K := fun a σ he hs =>
  wp_of_yields (hy a σ he hs.hk) (h _ σ (dstO_put hd he) hs)

/-- Stores, what stands there then under a name. -/
theorem so_staL {b off xs ys} (hh : Let u F = some r) (hT : TyI P t true s z) (ho : o.op = .store t x y) (hd : o.dst = none) (hx : evo e x = some (pt b off)) (hy : evo e y = some (ag ys)) (hu : Upd xs off ys (D.enc u)) (hl : ys.length = s) (h1 : ∀ c ∈ ys, c.oneCell' = true)
    (hL : ∀ w, SetAt (.blk b T xs) (.blk b T (D.enc w)) L (L' w)) (h : ∀ w, F w = some r → NJ n w0 O0 M next e (L' w) K) : SJ n w0 O0 M P o next Q e L K := so_sta hT ho hd hx hy hu hl h1 (hL u) (h u hh)
theorem so_st1L {b off xs} (hh : Let u F = some r) (hT : TyI P t false 1 z) (ho : o.op = .store t x y) (hd : o.dst = none) (hx : evo e x = some (pt b off)) (hy : evo e y = some v) (h1 : v.oneCell' = true) (hu : Upd xs off [v] (D.enc u))
    (hL : ∀ w, SetAt (.blk b T xs) (.blk b T (D.enc w)) L (L' w)) (h : ∀ w, F w = some r → NJ n w0 O0 M next e (L' w) K) : SJ n w0 O0 M P o next Q e L K := so_st1 hT ho hd hx hy h1 hu (hL u) (h u hh)
end
end Go.Proofs.YtbhbpfdjlabamaaGreat
