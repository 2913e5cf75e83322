/-
  The rules of the walks: code, regions in the order of the text, operations that only compute.
-/
import Derived.Test.YtbhbpfdjlabamaaGreatBase
import Derived.Laws.Entries
set_option linter.all false
set_option linter.unusedVariables false
set_option linter.unusedSimpArgs false
namespace Go.Proofs.YtbhbpfdjlabamaaGreat
open Go

section
variable {n : Nat} {w0 : World} {O0 : Nat → Prop} {M : List Nat} {P : Program}

/-! ## Code -/
abbrev JC (n : Nat) (w0 : World) (O0 : Nat → Prop) (M : List Nat) (P : Program) (c : Code) (Q : Exit → Act → World → Prop) (e : List (Nat × Value)) (L : List Own) (K : List SP) : Prop := NJ n w0 O0 M (fun a w => c.wp P Q a w) e L K
abbrev JX (n : Nat) (w0 : World) (O0 : Nat → Prop) (M : List Nat) (x : Exit) (Q : Exit → Act → World → Prop) (e : List (Nat × Value)) (L : List Own) (K : List SP) : Prop := NJ n w0 O0 M (fun a w => Q x a w) e L K
abbrev JL (n : Nat) (w0 : World) (O0 : Nat → Prop) (M : List Nat) (P : Program) (ops : Array Oper) (Q : Exit → Act → World → Prop) (l : List Oper) (e : List (Nat × Value)) (L : List Own) (K : List SP) : Prop := NJ n w0 O0 M (fun a w => wpList P ops Q l a w) e L K

variable {Q : Exit → Act → World → Prop} {e : List (Nat × Value)} {L : List Own} {K : List SP}

theorem jc_skip (h : JX n w0 O0 M .normal Q e L K) : JC n w0 O0 M P .skip Q e L K := fun a σ he hs => wp_skip (h a σ he hs)
theorem jc_ret (h : JX n w0 O0 M .ret Q e L K) : JC n w0 O0 M P .ret Q e L K := fun a σ he hs => wp_ret (h a σ he hs)
theorem jc_exit {id} (h : JX n w0 O0 M (.exit id) Q e L K) : JC n w0 O0 M P (.exit id) Q e L K := fun a σ he hs => wp_exit (h a σ he hs)
theorem jc_seq {x y : Code} (h : JC n w0 O0 M P x (Exit.then (y.wp P Q) Q) e L K) : JC n w0 O0 M P (.seq x y) Q e L K := fun a σ he hs => wp_seq (h a σ he hs)
theorem jc_block {id c} (h : JC n w0 O0 M P c (Exit.inBlock id Q) e L K) : JC n w0 O0 M P (.block id c) Q e L K := fun a σ he hs => wp_block (h a σ he hs)
theorem jc_t {c x y} (hc : evo e c = some (.bool true)) (h : JC n w0 O0 M P x Q e L K) : JC n w0 O0 M P (.cond c x y) Q e L K := fun a σ he hs => wp_cond_true (he.eval hc) (h a σ he hs)
theorem jc_f {c x y} (hc : evo e c = some (.bool false)) (h : JC n w0 O0 M P y Q e L K) : JC n w0 O0 M P (.cond c x y) Q e L K := fun a σ he hs => wp_cond_false (he.eval hc) (h a σ he hs)
theorem jc_reg {id l} (h : JL n w0 O0 M P l.toArray Q l e L K) : JC n w0 O0 M P (.region id l.toArray false) Q e L K := fun a σ he hs => wp_region_lit (h a σ he hs)
theorem jl_nil {ops} (h : JX n w0 O0 M .normal Q e L K) : JL n w0 O0 M P ops Q [] e L K := fun a σ he hs => wpList_nil (h a σ he hs)
theorem jx_then {y : Code} {Q'} (h : JC n w0 O0 M P y Q' e L K) : JX n w0 O0 M .normal (Exit.then (y.wp P Q') Q) e L K := h
theorem jx_then_n {N} (h : NJ n w0 O0 M N e L K) : JX n w0 O0 M .normal (Exit.then N Q) e L K := h
theorem jx_blk {id} (h : JX n w0 O0 M .normal Q e L K) : JX n w0 O0 M .normal (Exit.inBlock id Q) e L K := h
theorem jx_hit {id} (h : JX n w0 O0 M .normal Q e L K) : JX n w0 O0 M (.exit id) (Exit.inBlock id Q) e L K := fun a σ he hs => by
  show Exit.inBlock id Q (.exit id) a σ.w
  simp only [Exit.inBlock, if_true]; exact h a σ he hs
theorem jx_miss {id id'} (hne : Nat.beq id' id = false) (h : JX n w0 O0 M (.exit id') Q e L K) : JX n w0 O0 M (.exit id') (Exit.inBlock id Q) e L K := fun a σ he hs => by
  show Exit.inBlock id Q (.exit id') a σ.w
  have : id' ≠ id := by intro h; subst h; simp at hne
  simp only [Exit.inBlock, this, if_false]; exact h a σ he hs
theorem jx_te {N id} (h : JX n w0 O0 M (.exit id) Q e L K) : JX n w0 O0 M (.exit id) (Exit.then N Q) e L K := h
theorem jx_tr {N} (h : JX n w0 O0 M .ret Q e L K) : JX n w0 O0 M .ret (Exit.then N Q) e L K := h
theorem jx_br {id} (h : JX n w0 O0 M .ret Q e L K) : JX n w0 O0 M .ret (Exit.inBlock id Q) e L K := h
theorem jx_abs {x Q'} (hQ : Q' = Q) (h : JX n w0 O0 M x Q e L K) : JX n w0 O0 M x Q' e L K := hQ ▸ h

/-! ## Loops -/
def LW (P : Program) (c : Code) (Q : Exit → Act → World → Prop) (a : Act) (w : World) : Prop :=
  ∀ (b : Frame) (k : List Item) (cs : List Frame), ∃ x a' w', Q x a' w' ∧ Arrives P (lone (b.at a (.code c :: .inLoop c :: k)) cs w) b k cs x a' w'

theorem lw_loop {c a w} (h : LW P c Q a w) : (Code.loop c).wp P Q a w := by
  intro b k cs
  obtain ⟨x, a', w', hq, harr⟩ := h b k cs
  exact ⟨x, a', w', hq, .of_steps (.one step_loop) harr⟩

theorem lw_round {c a w} (h : c.wp P (Exit.then (LW P c Q) Q) a w) : LW P c Q a w := by
  intro b k cs
  obtain ⟨e, a₁, w₁, hq, harr⟩ := h b (.inLoop c :: k) cs
  cases e with
  | normal =>
    obtain ⟨e₂, a₂, w₂, hq₂, harr₂⟩ := (hq : LW P c Q a₁ w₁) b k cs
    exact ⟨e₂, a₂, w₂, hq₂, .of_steps (Steps.trans harr (.one step_inLoop)) harr₂⟩
  | exit id => exact ⟨_, a₁, w₁, hq, .pass (x := .inLoop c) rfl (fun _ _ => .inl (by simp)) harr⟩
  | goto l => exact ⟨_, a₁, w₁, hq, .pass (x := .inLoop c) rfl (fun _ _ => .inl (by simp)) harr⟩
  | ret => exact ⟨_, a₁, w₁, hq, .pass (x := .inLoop c) rfl (fun _ _ => .inl (by simp)) harr⟩
  | panic ch => exact ⟨_, a₁, w₁, hq, .pass (x := .inLoop c) rfl (fun _ _ => .inl (by simp)) harr⟩
  | outgrown => exact ⟨_, a₁, w₁, hq, .pass (x := .inLoop c) rfl (fun _ _ => .inl (by simp)) harr⟩

abbrev JW (n : Nat) (w0 : World) (O0 : Nat → Prop) (M : List Nat) (P : Program) (c : Code) (Q : Exit → Act → World → Prop) (e : List (Nat × Value)) (L : List Own) (K : List SP) : Prop := NJ n w0 O0 M (fun a w => LW P c Q a w) e L K

/-- At a loop: its body and what follows it under names. -/
theorem jc_loop {c} (h : ∀ B Q', B = c → Q' = Q → JW n w0 O0 M P B Q' e L K) : JC n w0 O0 M P (.loop c) Q e L K := fun a σ he hs => lw_loop (h c Q rfl rfl a σ he hs)
theorem jw_round {B c} (hB : B = c) (h : JC n w0 O0 M P c (Exit.then (LW P B Q) Q) e L K) : JW n w0 O0 M P B Q e L K := fun a σ he hs => by subst hB; exact lw_round (h a σ he hs)
theorem jx_again {B Q'} (h : JW n w0 O0 M P B Q' e L K) : JX n w0 O0 M .normal (Exit.then (LW P B Q') Q) e L K := h
/-- At a sequence: what follows under a name. -/
theorem jc_seq_n {x y : Code} (h : ∀ N, N = y.wp P Q → JC n w0 O0 M P x (Exit.then N Q) e L K) : JC n w0 O0 M P (.seq x y) Q e L K := fun a σ he hs => wp_seq (h _ rfl a σ he hs)
theorem nj_abs {N} {y : Code} (hN : N = y.wp P Q) (h : JC n w0 O0 M P y Q e L K) : NJ n w0 O0 M N e L K := hN ▸ h

/-- From a state with more slots, more facts, the same things owned in another order. -/
inductive Picks {α : Type} : List α → List α → Prop
  | nil {l} : Picks [] l
  | cons {x l' l m} : DelAt x l l' → Picks m l' → Picks (x :: m) l
theorem Picks.mem {α} {m l : List α} (h : Picks m l) : ∀ x ∈ m, x ∈ l := by
  induction h with
  | nil => simp
  | cons hd _ ih => intro x hx; simp at hx; rcases hx with rfl | hx; exact hd.mem; exact hd.sub _ (ih _ hx)
theorem Picks.pairwise {α} {R : α → α → Prop} (sym : ∀ a b, R a b → R b a) {m l : List α} (h : Picks m l) (hp : l.Pairwise R) : m.Pairwise R := by
  induction h with
  | nil => exact List.Pairwise.nil
  | cons hd hm ih => exact List.pairwise_cons.2 ⟨fun z hz => hd.others sym hp z (hm.mem z hz), ih (hp.sublist hd.sublist)⟩
/-- Facts that are among others. -/
inductive Among {α : Type} : List α → List α → Prop
  | nil {l} : Among [] l
  | cons {x l m} : At x l → Among m l → Among (x :: m) l
theorem Among.mem {α} {m l : List α} (h : Among m l) : ∀ x ∈ m, x ∈ l := by
  induction h with
  | nil => simp
  | cons hd _ ih => intro x hx; simp at hx; rcases hx with rfl | hx; exact hd.mem; exact ih _ hx

/-- Each slot of e' holds the same in e. -/
def slotsIn (e : List (Nat × Value)) : List (Nat × Value) → Prop
  | [] => True
  | (t, v) :: e' => fnd e t = some v ∧ slotsIn e e'
theorem slotsIn.get {e e'} (h : slotsIn e e') : ∀ t v, fnd e' t = some v → fnd e t = some v := by
  induction e' with
  | nil => intro t v hv; cases hv
  | cons p e' ih =>
    obtain ⟨k, u⟩ := p
    intro t v hv
    simp only [fnd, cond_eq_ite] at hv
    by_cases hk : k = t
    · subst hk; simp at hv; subst hv; exact h.1
    · simp [hk] at hv; exact ih h.2 t v hv
theorem EOk.weak {e e' a} (h : EOk n e a) (hs : slotsIn e e') : EOk n e' a := ⟨h.size, h.defs, fun t v hv => h.get t v (hs.get t v hv)⟩

/-- Less is owned: what is not owned any more is not written any more. -/
theorem St.weak {σ : GS} {L' K'} (hs : St w0 O0 M L K σ) (hL : Picks L' L) (hK : Among K' K) : St w0 O0 M L' K' ⟨σ.w, σ.O, inL L'⟩ where
  keep := hs.keep
  o0 := hs.o0
  opre := hs.opre
  olt := hs.olt
  own := fun x hx => hs.own x (hL.mem x hx)
  ours := fun _ => .rfl
  apart := hL.pairwise Own.apart_symm hs.apart
  kn := fun p hp => SP.adv (σ := σ) ⟨.same fun k hA ⟨⟨x, hx, hb⟩, hO⟩ => hA ⟨(hs.ours k).2 ⟨x, hL.mem x hx, hb⟩, hO⟩, .same fun _ h => h⟩ (hs.kn p (hK.mem p hp))
theorem nj_weak {N} {e' L' K'} (h : NJ n w0 O0 M N e' L' K') (he : slotsIn e e') (hL : Picks L' L) (hK : Among K' K) : NJ n w0 O0 M N e L K :=
  fun a σ hea hs => h a ⟨σ.w, σ.O, inL L'⟩ (hea.weak he) (hs.weak hL hK)

/-! ## Regions in the order of the text -/
/-- Its slot, if it has one: 'some none': it has none. -/
def dstO (n : Nat) (o : Oper) : Option (Option Nat) :=
  match o.dst with
  | none => some none
  | some d => match Nat.blt d n with | true => some (some d) | false => none
theorem dstO_spec {o r} (h : dstO n o = some r) : o.dst = r ∧ ∀ d, r = some d → Nat.blt d n = true := by
  unfold dstO at h
  cases hd : o.dst with
  | none => simp [hd] at h; subst h; simp
  | some d =>
    simp only [hd] at h
    cases hb : Nat.blt d n <;> simp only [hb] at h
    · cases h
    · simp only [Option.some.injEq] at h; subst h; exact ⟨rfl, fun d' h' => by simp only [Option.some.injEq] at h'; subst h'; exact hb⟩
/-- What a guard says: none: nothing is known. -/
def wantB (ops : Array Oper) (e : List (Nat × Value)) (o : Oper) : Option Bool :=
  match o.guard with
  | none => some true
  | some (j, b) => match (ops[j]?).bind (·.dst) with
    | some d => match fnd e d with
      | some (.bool c) => match c, b with | true, true => some true | false, false => some true | true, false => some false | false, true => some false
      | some (.tuple _) => some false
      | _ => none
    | none => none
theorem wantB_spec {ops : Array Oper} {e o t} (h : wantB ops e o = some t) {a : Act} (he : EOk n e a) : Region.wanted o (yielded ops a.tmps) = t := by
  unfold wantB at h
  unfold Region.wanted
  cases hg : o.guard with
  | none => simp only [hg, Option.some.injEq] at h; subst h; rfl
  | some p =>
    obtain ⟨j, b⟩ := p
    simp only [hg] at h
    cases hd : (ops[j]?).bind (·.dst) with
    | none => simp [hd] at h
    | some d =>
      simp only [hd] at h
      cases hf : fnd e d with
      | none => simp [hf] at h
      | some v =>
        simp only [hf] at h
        have hv := he.get d v hf
        cases v <;> try (simp at h; done)
        case bool c =>
          have : yielded ops a.tmps j = some c := by simp [yielded, hd, hv]
          simp only [this]
          cases c <;> cases b <;> simp at h ⊢ <;> exact h
        case tuple c =>
          have : yielded ops a.tmps j = none := by simp [yielded, hd, hv]
          simp only [this]
          simp at h ⊢; exact h
/-- The slot of an operation that is carried out. -/
def dstW (ops : Array Oper) (e : List (Nat × Value)) (n : Nat) (o : Oper) : Option (Option Nat) := match wantB ops e o with | some true => dstO n o | _ => none
theorem dstW_spec {ops : Array Oper} {e o r} (h : dstW ops e n o = some r) {a : Act} (he : EOk n e a) :
    Region.wanted o (yielded ops a.tmps) = true ∧ o.dst = r ∧ ∀ d, r = some d → Nat.blt d n = true := by
  unfold dstW at h
  cases hw : wantB ops e o with
  | none => simp [hw] at h
  | some t => cases t <;> simp only [hw] at h; cases h; exact ⟨wantB_spec hw he, dstO_spec h⟩
/-- An operation whose guard says no. -/
def skipW (ops : Array Oper) (e : List (Nat × Value)) (n : Nat) (o : Oper) : Option (Option Nat) := match wantB ops e o with | some false => dstO n o | _ => none
theorem skipW_spec {ops : Array Oper} {e o r} (h : skipW ops e n o = some r) {a : Act} (he : EOk n e a) :
    Region.wanted o (yielded ops a.tmps) = false ∧ o.dst = r ∧ ∀ d, r = some d → Nat.blt d n = true := by
  unfold skipW at h
  cases hw : wantB ops e o with
  | none => simp [hw] at h
  | some t => cases t <;> simp only [hw] at h; exact ⟨wantB_spec hw he, dstO_spec h⟩; cases h

variable {ops : Array Oper} {rest : List Oper} {o : Oper} {d : Nat}

theorem sq {r} (hw : dstW ops e n o = some r) (h : NJ n w0 O0 M (fun a w => o.wp P a w (wpList P ops Q rest) Q) e L K) : JL n w0 O0 M P ops Q (o :: rest) e L K := fun a σ he hs => by
  show wpList P ops Q (o :: rest) a σ.w
  unfold wpList
  rw [if_pos (dstW_spec hw he).1]
  exact .inl (h a σ he hs)

theorem sq_skip (hw : skipW ops e n o = some (some d)) (h : JL n w0 O0 M P ops Q rest ((d, undef) :: e) L K) : JL n w0 O0 M P ops Q (o :: rest) e L K := fun a σ he hs => by
  show wpList P ops Q (o :: rest) a σ.w
  obtain ⟨h1, h2, h3⟩ := skipW_spec hw he
  unfold wpList
  rw [if_neg (by simp [h1]), h2]
  exact h _ σ (he.put (h3 d rfl)) hs
theorem sq_skip0 (hw : skipW ops e n o = some none) (h : JL n w0 O0 M P ops Q rest e L K) : JL n w0 O0 M P ops Q (o :: rest) e L K := fun a σ he hs => by
  show wpList P ops Q (o :: rest) a σ.w
  obtain ⟨h1, h2, h3⟩ := skipW_spec hw he
  unfold wpList
  rw [if_neg (by simp [h1]), h2]
  exact h _ σ he hs

/-- What is known of memory at a moment. -/
def HK (L : List Own) (K : List SP) (σ : GS) : Prop := (∀ x ∈ L, x.holds σ.w) ∧ ∀ p ∈ K, p.p σ
theorem St.hk {σ} (h : St w0 O0 M L K σ) : HK L K σ := ⟨fun x hx => (h.own x hx).1, h.kn⟩
/-- The operation yields v, and leaves memory as it is. -/
def Yv (n : Nat) (P : Program) (o : Oper) (e : List (Nat × Value)) (L : List Own) (K : List SP) (v : Value) : Prop :=
  ∀ a σ, EOk n e a → HK L K σ → (execOp a.eval o).run P σ.w = .ok (.value v) σ.w

theorem wp_of_yields {a : Act} {w : World} {v} {next : Act → World → Prop} (hy : (execOp a.eval o).run P w = .ok (.value v) w) (h : next (a.put o.dst v) w) : o.wp P a w next Q := by
  unfold Oper.wp; rw [hy]; exact h

theorem sqv {v} (hw : dstW ops e n o = some (some d)) (hy : Yv n P o e L K v) (h : JL n w0 O0 M P ops Q rest ((d, v) :: e) L K) : JL n w0 O0 M P ops Q (o :: rest) e L K :=
  sq hw fun a σ he hs => wp_of_yields (hy a σ he hs.hk) (by
    obtain ⟨_, h2, h3⟩ := dstW_spec hw he
    rw [h2]; exact h _ σ (he.put (h3 d rfl)) hs)

/-- The same, and the value under a name. -/
theorem sqi {k : IntKind} {v : Int} {ρ : Type} {F : Int → Option ρ} {r : ρ} (h : Let v F = some r) (hw : dstW ops e n o = some (some d)) (hy : Yv n P o e L K (.int k v)) (hk : ∀ x, F x = some r → JL n w0 O0 M P ops Q rest ((d, .int k x) :: e) L K) : JL n w0 O0 M P ops Q (o :: rest) e L K := sqv hw hy (hk v h)
theorem sqb {v : Bool} {ρ : Type} {F : Bool → Option ρ} {r : ρ} (h : Let v F = some r) (hw : dstW ops e n o = some (some d)) (hy : Yv n P o e L K (.bool v)) (hk : ∀ x, F x = some r → JL n w0 O0 M P ops Q rest ((d, .bool x) :: e) L K) : JL n w0 O0 M P ops Q (o :: rest) e L K := sqv hw hy (hk v h)
theorem sqg {α : Type} {C : Ty α} {v : α} {ρ : Type} {F : α → Option ρ} {r : ρ} (h : Let v F = some r) (hw : dstW ops e n o = some (some d)) (hy : Yv n P o e L K (ag (C.enc v))) (hk : ∀ x, F x = some r → JL n w0 O0 M P ops Q rest ((d, ag (C.enc x)) :: e) L K) : JL n w0 O0 M P ops Q (o :: rest) e L K := sqv hw hy (hk v h)

/-! ## Operations that compute -/
section
variable {x y c : Operand} {u v : Value} {T T' : TypeId} {k : IntKind} {i j : Int}

theorem yv_move (ho : o.op = .move x) (hx : evo e x = some v) : Yv n P o e L K v := fun a σ he _ => by simp [execOp, ho, he.eval hx]
theorem yv_assign (ho : o.op = .assign x) (hx : evo e x = some v) : Yv n P o e L K v := fun a σ he _ => by simp [execOp, ho, he.eval hx]
theorem yv_pick_t (ho : o.op = .pick c x y) (hc : evo e c = some (.bool true)) (hx : evo e x = some v) : Yv n P o e L K v := fun a σ he _ => by simp [execOp, ho, he.eval hx, he.eval hc, asBool]
theorem yv_pick_f (ho : o.op = .pick c x y) (hc : evo e c = some (.bool false)) (hy : evo e y = some v) : Yv n P o e L K v := fun a σ he _ => by simp [execOp, ho, he.eval hy, he.eval hc, asBool]

def iadd (k : IntKind) (i j : Int) : Int := k.wrap (i + j)
def isub (k : IntKind) (i j : Int) : Int := k.wrap (i - j)
def imul (k : IntKind) (i j : Int) : Int := k.wrap (i * j)
def iquo (k : IntKind) (i j : Int) : Int := k.wrap (i.tdiv j)
def irem (i j : Int) : Int := i.tmod j
def iand (k : IntKind) (i j : Int) : Int := bits .and k i j
def ior (k : IntKind) (i j : Int) : Int := bits .or k i j
def ixor (k : IntKind) (i j : Int) : Int := bits .xor k i j
def iclr (k : IntKind) (i j : Int) : Int := bits .andNot k i j
def ishl (k : IntKind) (i j : Int) : Int := k.wrap (i * 2 ^ (min j.toNat k.bits))
def ishr (k : IntKind) (i j : Int) : Int := i.fdiv (2 ^ (min j.toNat k.bits))
def icon (k : IntKind) (i : Int) : Int := k.wrap i
def inot (k : IntKind) (i : Int) : Int := bits .xor k (if k.signed then -1 else k.max) i

theorem yv_add (ho : o.op = .binOp .add T x y T') (hx : evo e x = some (.int k i)) (hy : evo e y = some (.int k j)) : Yv n P o e L K (.int k (iadd k i j)) := fun a σ he _ => by simp [execOp, ho, he.eval hx, he.eval hy, eqGuard, binOp, Op.intArith, iadd]
theorem yv_sub (ho : o.op = .binOp .sub T x y T') (hx : evo e x = some (.int k i)) (hy : evo e y = some (.int k j)) : Yv n P o e L K (.int k (isub k i j)) := fun a σ he _ => by simp [execOp, ho, he.eval hx, he.eval hy, eqGuard, binOp, Op.intArith, isub]
theorem yv_mul (ho : o.op = .binOp .mul T x y T') (hx : evo e x = some (.int k i)) (hy : evo e y = some (.int k j)) : Yv n P o e L K (.int k (imul k i j)) := fun a σ he _ => by simp [execOp, ho, he.eval hx, he.eval hy, eqGuard, binOp, Op.intArith, imul]
theorem yv_quo (ho : o.op = .binOp .quo T x y T') (hx : evo e x = some (.int k i)) (hy : evo e y = some (.int k j)) (h0 : j ≠ 0) : Yv n P o e L K (.int k (iquo k i j)) := fun a σ he _ => by simp [execOp, ho, he.eval hx, he.eval hy, eqGuard, binOp, Op.intDiv, iquo, h0]
theorem yv_rem (ho : o.op = .binOp .rem T x y T') (hx : evo e x = some (.int k i)) (hy : evo e y = some (.int k j)) (h0 : j ≠ 0) : Yv n P o e L K (.int k (irem i j)) := fun a σ he _ => by simp [execOp, ho, he.eval hx, he.eval hy, eqGuard, binOp, Op.intDiv, irem, h0]
theorem yv_and (ho : o.op = .binOp .and T x y T') (hx : evo e x = some (.int k i)) (hy : evo e y = some (.int k j)) : Yv n P o e L K (.int k (iand k i j)) := fun a σ he _ => by simp [execOp, ho, he.eval hx, he.eval hy, eqGuard, binOp, intBits_and, iand]
theorem yv_or (ho : o.op = .binOp .or T x y T') (hx : evo e x = some (.int k i)) (hy : evo e y = some (.int k j)) : Yv n P o e L K (.int k (ior k i j)) := fun a σ he _ => by simp [execOp, ho, he.eval hx, he.eval hy, eqGuard, binOp, intBits_or, ior]
theorem yv_xor (ho : o.op = .binOp .xor T x y T') (hx : evo e x = some (.int k i)) (hy : evo e y = some (.int k j)) : Yv n P o e L K (.int k (ixor k i j)) := fun a σ he _ => by simp [execOp, ho, he.eval hx, he.eval hy, eqGuard, binOp, intBits_xor, ixor]
theorem yv_clr (ho : o.op = .binOp .andNot T x y T') (hx : evo e x = some (.int k i)) (hy : evo e y = some (.int k j)) : Yv n P o e L K (.int k (iclr k i j)) := fun a σ he _ => by simp [execOp, ho, he.eval hx, he.eval hy, eqGuard, binOp, intBits_andNot, iclr]
theorem yv_shl {k' : IntKind} (ho : o.op = .binOp .shl T x y T') (hx : evo e x = some (.int k i)) (hy : evo e y = some (.int k' j)) (h0 : 0 ≤ j) : Yv n P o e L K (.int k (ishl k i j)) := fun a σ he _ => by simp [execOp, ho, he.eval hx, he.eval hy, eqGuard, binOp, Op.shift, Int.not_lt.2 h0, ishl]
theorem yv_shr {k' : IntKind} (ho : o.op = .binOp .shr T x y T') (hx : evo e x = some (.int k i)) (hy : evo e y = some (.int k' j)) (h0 : 0 ≤ j) : Yv n P o e L K (.int k (ishr k i j)) := fun a σ he _ => by simp [execOp, ho, he.eval hx, he.eval hy, eqGuard, binOp, Op.shift, Int.not_lt.2 h0, ishr]
theorem yv_eql (ho : o.op = .binOp .eql T x y T') (hx : evo e x = some (.int k i)) (hy : evo e y = some (.int k j)) : Yv n P o e L K (.bool (decide (i = j))) := fun a σ he _ => by
  simp [execOp, ho, he.eval hx, he.eval hy, eqGuard, binOp, Op.intCmp]
  rfl
theorem yv_neq (ho : o.op = .binOp .neq T x y T') (hx : evo e x = some (.int k i)) (hy : evo e y = some (.int k j)) : Yv n P o e L K (.bool (decide (i ≠ j))) := fun a σ he _ => by
  simp [execOp, ho, he.eval hx, he.eval hy, eqGuard, binOp, Op.intCmp]
  by_cases h : i = j <;> simp [h]
theorem yv_lss (ho : o.op = .binOp .lss T x y T') (hx : evo e x = some (.int k i)) (hy : evo e y = some (.int k j)) : Yv n P o e L K (.bool (decide (i < j))) := fun a σ he _ => by simp [execOp, ho, he.eval hx, he.eval hy, eqGuard, binOp, Op.intCmp]
theorem yv_leq (ho : o.op = .binOp .leq T x y T') (hx : evo e x = some (.int k i)) (hy : evo e y = some (.int k j)) : Yv n P o e L K (.bool (decide (i ≤ j))) := fun a σ he _ => by simp [execOp, ho, he.eval hx, he.eval hy, eqGuard, binOp, Op.intCmp]
theorem yv_gtr (ho : o.op = .binOp .gtr T x y T') (hx : evo e x = some (.int k i)) (hy : evo e y = some (.int k j)) : Yv n P o e L K (.bool (decide (j < i))) := fun a σ he _ => by simp [execOp, ho, he.eval hx, he.eval hy, eqGuard, binOp, Op.intCmp]
theorem yv_geq (ho : o.op = .binOp .geq T x y T') (hx : evo e x = some (.int k i)) (hy : evo e y = some (.int k j)) : Yv n P o e L K (.bool (decide (j ≤ i))) := fun a σ he _ => by simp [execOp, ho, he.eval hx, he.eval hy, eqGuard, binOp, Op.intCmp]
theorem yv_not {p : Bool} (ho : o.op = .unOp .not T x) (hx : evo e x = some (.bool p)) : Yv n P o e L K (.bool (!p)) := fun a σ he _ => by simp [execOp, ho, he.eval hx, Op.unary]
theorem yv_inot (ho : o.op = .unOp .xor T x) (hx : evo e x = some (.int k i)) : Yv n P o e L K (.int k (inot k i)) := fun a σ he _ => by simp [execOp, ho, he.eval hx, Op.unary, intBits_xor, inot]
theorem yv_neg (ho : o.op = .unOp .neg T x) (hx : evo e x = some (.int k i)) : Yv n P o e L K (.int k (isub k 0 i)) := fun a σ he _ => by simp [execOp, ho, he.eval hx, Op.unary, Op.intArith, isub]
theorem yv_con {k' : IntKind} (ho : o.op = .convert T T' x) (hs : (P.underlying T).isSome = true) (ht : P.underlying T' = some (.int k)) (hx : evo e x = some (.int k' i)) : Yv n P o e L K (.int k (icon k i)) := fun a σ he _ => by
  obtain ⟨t, hs⟩ := Option.isSome_iff_exists.1 hs
  simp [execOp, ho, he.eval hx, convert, run_underlying hs, run_underlying ht, Conv.intToInt, icon]
theorem yv_nil {p : Addr} (ho : o.op = .nilCheck x) (hx : evo e x = some (.pointer (some p))) : Yv n P o e L K (.pointer (some p)) := fun a σ he _ => by simp [execOp, ho, he.eval hx]
theorem yv_ext {vs : Array Value} {m : Nat} (ho : o.op = .extract x m) (hx : evo e x = some (.tuple vs)) (hv : vs[m]? = some v) : Yv n P o e L K v := fun a σ he _ => by simp [execOp, ho, he.eval hx, Instr.extract, hv]
theorem yv_fn {f : FuncId} (ho : o.op = .makeFunc (.func f) #[] #[]) : Yv n P o e L K (.func (.func f) #[] #[]) := fun a σ he _ => by simp [execOp, ho, Instr.makeFunc]
theorem yv_fn1 {f : FuncId} (ho : o.op = .makeFunc (.func f) #[] #[x]) (hx : evo e x = some v) : Yv n P o e L K (.func (.func f) #[] #[v]) := fun a σ he _ => by simp [execOp, ho, Instr.makeFunc, he.eval hx]

/-- Which field lies where. -/
def FA (P : Program) (s : TypeId) (f off : Nat) : Prop := ∀ (w : World) (b o : Nat), (Instr.fieldAt s (.pointer (some ⟨b, o, none⟩)) f).run P w = .ok (pt b (o + off)) w
theorem add_pt (b o m : Nat) : (⟨b, o, none⟩ : Addr).add m = ⟨b, o + m, none⟩ := by unfold Addr.add; split <;> simp_all
theorem FA.mk {s f off fields fd} (hu : P.underlying s = some (.struct fields)) (hf : fields[f]? = some fd) (ho : fd.offset = off) (hz : ∃ m, (P.info? fd.type).map (·.size) = some (m + 1)) : FA P s f off := by
  intro w b o
  obtain ⟨m, hm⟩ := hz
  cases hi : P.info? fd.type with
  | none => simp [hi] at hm
  | some i =>
    simp [hi] at hm
    simp [Instr.fieldAt, run_underlying hu, hf, Instr.sureAddr, fieldPlace, sizeOf, typeInfo, hi, hm, add_pt, ho]
theorem yv_fa {f off b p : Nat} (hF : FA P T f off) (ho : o.op = .fieldAddr T x f) (hx : evo e x = some (pt b p)) : Yv n P o e L K (pt b (p + off)) := fun a σ he _ => by
  simp only [execOp, ho, he.eval hx, Sem.run_bind]; rw [hF]; rfl

/-- An array's elements. -/
def IA (P : Program) (t : TypeId) (len sz : Nat) : Prop := ∃ el, P.underlying t = some (.array len el) ∧ (P.info? el).map (·.size) = some sz
theorem IA.run {t len sz} (h : IA P t len sz) (w : World) (b o : Nat) (hi : 0 ≤ i ∧ i < (len : Int)) : (Instr.indexAt t (pt b o) (.int k i)).run P w = .ok (pt b (o + i.toNat * sz)) w := by
  obtain ⟨el, hu, hs⟩ := h
  cases he : P.info? el with
  | none => simp [he] at hs
  | some inf =>
    simp [he] at hs
    simp [Instr.indexAt, run_underlying hu, asIntOf, Instr.sureAddr, hi, sizeOf, typeInfo, he, hs, add_pt]
theorem yv_ia {len sz b p : Nat} (hI : IA P T len sz) (ho : o.op = .indexAddr T x y) (hx : evo e x = some (pt b p)) (hy : evo e y = some (.int k i)) (hi : 0 ≤ i ∧ i < (len : Int)) : Yv n P o e L K (pt b (p + i.toNat * sz)) := fun a σ he _ => by
  simp [execOp, ho, he.eval hx, he.eval hy, hI.run _ b p hi]

end
end
end Go.Proofs.YtbhbpfdjlabamaaGreat
