/-
  The logic of the walks: a frame as a list of slots, memory as a list of owned blocks and a list of lasting facts. Nothing of the program is named here but the number of one type (a key), by which blocks of that type may go on.
-/
import Derived.OrdersHeld
import Derived.Tactics
import Derived.Laws.Rows
import Derived.Laws.CopyRow
import Derived.Laws.AppendOwn
import Derived.Laws.OwnMore
import Derived.Laws.MakeOwn
set_option linter.all false
set_option linter.unusedVariables false
set_option linter.unusedSimpArgs false
namespace Go.Proofs.YtbhbpfdjlabamaaGreat
open Go

/-! ## Slots -/

def fnd : List (Nat × Value) → Nat → Option Value
  | [], _ => none
  | (k, v) :: e, t => bif Nat.beq k t then some v else fnd e t

def evo (e : List (Nat × Value)) : Operand → Option Value
  | .tmp t => fnd e t
  | .const v => some v
  | .global g => some (.pointer (some ⟨g, 0, none⟩))
  | .func f => some (.func (.func f) #[] #[])

structure EOk (n : Nat) (e : List (Nat × Value)) (a : Act) : Prop where
  size : a.tmps.size = n
  defs : a.defers = []
  get : ∀ t v, fnd e t = some v → a.tmps[t]? = some v

theorem EOk.eval {n e a x v} (h : EOk n e a) (hx : evo e x = some v) : a.eval x = v := by
  cases x with
  | tmp t => simp only [evo] at hx; simp [Act.eval, h.get t v hx]
  | const c => simp [evo] at hx; simp [Act.eval, hx]
  | global g => simp [evo] at hx; simp [Act.eval, hx]
  | func f => simp [evo] at hx; simp [Act.eval, hx]

theorem EOk.put {n e a d v} (h : EOk n e a) (hd : Nat.blt d n = true) : EOk n ((d, v) :: e) (a.put (some d) v) := by
  have hd' : d < n := by simpa using hd
  refine ⟨by simp [Act.put, h.size], h.defs, fun t u ht => ?_⟩
  simp only [fnd, cond_eq_ite] at ht
  by_cases hk : d = t
  · subst hk; simp at ht; subst ht; simp [Act.put, h.size, hd']
  · simp [hk] at ht
    simp only [Act.put]
    rw [Array.getElem?_setIfInBounds_ne hk]
    exact h.get t u ht

theorem EOk.put_none {n e a v} (h : EOk n e a) : EOk n e (a.put none v) := h

/-! ## Memory -/

def keyT : TypeId := 267
/-- What a key's public number is. -/
def pbm : Nat → Nat → Nat → Nat
  | 0, _, _ => 1
  | k + 1, b, e => bif Nat.beq (e % 2) 1 then b * pbm k (b * b % 2147483579) (e / 2) % 2147483579 else pbm k (b * b % 2147483579) (e / 2)
def PUB (s : Int) : Int := ((pbm 31 4 s.toNat : Nat) : Int)
def b01 (b : Bool) : Int := bif b then 1 else 0
def KeyObj (s : Int) (o : Obj) : Prop :=
  ∃ (m : Bool) (u : Int), o = .cells #[.int .i64 s, .int .u32 (b01 m), .int .i32 0, .int .u32 0, .int .i64 (bif m then PUB s else 0), .int .u32 (b01 m), .int .i64 u] keyT (0, 0)

def SameO (a b : Obj) : Prop := b = a ∨ ∃ s, KeyObj s a ∧ KeyObj s b

theorem SameO.refl (a : Obj) : SameO a a := .inl rfl
theorem KeyObj.inj {s s' o} (h : KeyObj s o) (h' : KeyObj s' o) : s = s' := by
  obtain ⟨m, u, rfl⟩ := h; obtain ⟨m', u', h'⟩ := h'; simp at h'; exact h'.1
theorem SameO.trans {a b c : Obj} (h : SameO a b) (h' : SameO b c) : SameO a c := by
  rcases h with rfl | ⟨s, ha, hb⟩
  · exact h'
  · rcases h' with rfl | ⟨s', hb', hc⟩
    · exact .inr ⟨s, ha, hb⟩
    · exact .inr ⟨s, ha, (hb.inj hb') ▸ hc⟩
theorem SameO.cells {cs T fr o} (h : SameO (.cells cs T fr) o) (hT : T ≠ keyT) : o = .cells cs T fr := by
  rcases h with rfl | ⟨s, ⟨m, u, ha⟩, _⟩
  · rfl
  · simp at ha; exact absurd ha.2.1 hT
theorem SameO.key {s a b} (h : SameO a b) (ha : KeyObj s a) : KeyObj s b := by
  rcases h with rfl | ⟨s', ha', hb⟩
  · exact ha
  · exact (ha.inj ha') ▸ hb

/-- All blocks but those of M are as they were (a key that is nobody's may have been used). -/
structure Keep (O : Nat → Prop) (M : List Nat) (w w' : World) : Prop where
  os : w'.os = w.os
  tape : w'.tape = w.tape
  output : w'.output = w.output
  size : w.heap.size ≤ w'.heap.size
  block : ∀ k o, w.heap[k]? = some o → k ∉ M → ∃ o', w'.heap[k]? = some o' ∧ SameO o o' ∧ (O k → o' = o)

theorem Keep.refl (O : Nat → Prop) (M : List Nat) (w : World) : Keep O M w w := ⟨rfl, rfl, rfl, Nat.le_refl _, fun _ o h _ => ⟨o, h, .refl _, fun _ => rfl⟩⟩
theorem Keep.trans {O M a b c} (h : Keep O M a b) (k : Keep O M b c) : Keep O M a c :=
  ⟨k.os.trans h.os, k.tape.trans h.tape, k.output.trans h.output, Nat.le_trans h.size k.size, fun i o hi hM =>
    let ⟨o', h', s, e⟩ := h.block i o hi hM; let ⟨o'', h'', s', e'⟩ := k.block i o' h' hM; ⟨o'', h'', s.trans s', fun hO => (e' hO).trans (e hO)⟩⟩
theorem lt_of_heap {w : World} {k o} (h : w.heap[k]? = some o) : k < w.heap.size := (Array.getElem?_eq_some_iff.1 h).1
/-- What was kept but for blocks that were not there before. -/
theorem Keep.later {O O' M M' a b c} (h : Keep O M a b) (k : Keep O' M' b c) (hO : ∀ i, O i → O' i) (hM : ∀ i ∈ M', i ∈ M ∨ a.heap.size ≤ i) : Keep O M a c :=
  ⟨k.os.trans h.os, k.tape.trans h.tape, k.output.trans h.output, Nat.le_trans h.size k.size, fun i o hi hi' =>
    let ⟨o', h', s, e⟩ := h.block i o hi hi'
    let ⟨o'', h'', s', e'⟩ := k.block i o' h' (fun hm => by rcases hM i hm with hm | hm; exact hi' hm; have := lt_of_heap hi; omega)
    ⟨o'', h'', s.trans s', fun hi => (e' (hO i hi)).trans (e hi)⟩⟩
theorem Keep.cells {O M w w' b cs T fr} (h : Keep O M w w') (hb : w.heap[b]? = some (.cells cs T fr)) (hM : b ∉ M) (hT : T ≠ keyT) : w'.heap[b]? = some (.cells cs T fr) := by
  obtain ⟨o, ho, s, _⟩ := h.block b _ hb hM; rw [ho, s.cells hT]

/-- A moment: memory; the blocks that are anybody's to write; those that are ours. -/
structure GS where
  w : World
  O : Nat → Prop
  A : Nat → Prop

/-- What may be looked at is as it was, and may still be looked at. -/
def Tr (ok : Nat → Prop) (w : World) (ok' : Nat → Prop) (w' : World) : Prop := ∀ k o, w.heap[k]? = some o → ok k → (∃ o', w'.heap[k]? = some o' ∧ SameO o o') ∧ ok' k
theorem Tr.same {ok ok' : Nat → Prop} {w : World} (h : ∀ k, ok k → ok' k) : Tr ok w ok' w := fun k o ho hk => ⟨⟨o, ho, .refl _⟩, h k hk⟩
theorem Tr.trans {ok ok' ok'' w w' w''} (h : Tr ok w ok' w') (k : Tr ok' w' ok'' w'') : Tr ok w ok'' w'' := fun i o hi hok =>
  let ⟨⟨o', h', s⟩, hok'⟩ := h i o hi hok; let ⟨⟨o'', h'', s'⟩, hok''⟩ := k i o' h' hok'; ⟨⟨o'', h'', s.trans s'⟩, hok''⟩
theorem Tr.cells {ok ok' w w' b cs T fr} (h : Tr ok w ok' w') (hb : w.heap[b]? = some (.cells cs T fr)) (hok : ok b) (hT : T ≠ keyT) : w'.heap[b]? = some (.cells cs T fr) ∧ ok' b := by
  obtain ⟨⟨o, ho, s⟩, hO'⟩ := h b _ hb hok; exact ⟨by rw [ho, s.cells hT], hO'⟩

/-- Blocks that are not ours are as they were, and do not become ours; so those that are nobody's. -/
structure Adv (σ σ' : GS) : Prop where
  ours : Tr (fun k => ¬ (σ.A k ∧ σ.O k)) σ.w (fun k => ¬ (σ'.A k ∧ σ'.O k)) σ'.w
  all : Tr (fun k => ¬ σ.O k) σ.w (fun k => ¬ σ'.O k) σ'.w

/-- A lasting fact: strong ones speak of what is nobody's, the others of what is not ours. -/
structure SP where
  q : Bool
  r : (Nat → Prop) → World → Prop
  st : ∀ ok ok' w w', Tr ok w ok' w' → r ok w → r ok' w'
def okq (q : Bool) (σ : GS) (k : Nat) : Prop := match q with | true => ¬ σ.O k | false => ¬ (σ.A k ∧ σ.O k)
def SP.p (s : SP) (σ : GS) : Prop := s.r (okq s.q σ) σ.w
theorem SP.adv {s : SP} {σ σ' : GS} (h : Adv σ σ') (hp : s.p σ) : s.p σ' := by
  obtain ⟨q, r, st⟩ := s
  cases q with
  | true => exact st _ _ _ _ h.all hp
  | false => exact st _ _ _ _ h.ours hp

/-- What a handle stands for, in memory. -/
structure MR (α β : Type) where
  rel : (Nat → Prop) → World → α → β → Prop
  st : ∀ {ok ok' w w'} x y, Tr ok w ok' w' → rel ok w x y → rel ok' w' x y
theorem MR.mono {α β} (m : MR α β) {ok ok' : Nat → Prop} {w x y} (h : ∀ k, ok k → ok' k) (hr : m.rel ok w x y) : m.rel ok' w x y := m.st x y (Tr.same h) hr
def fa {α β : Type} (q : Bool) (m : MR α β) (x : α) (y : β) : SP := ⟨q, fun ok w => m.rel ok w x y, fun _ _ _ _ h hr => m.st x y h hr⟩

structure Sl where
  a : Option Addr
  len : Nat
  cap : Nat
abbrev sv (s : Sl) : Value := .slice s.a s.len s.cap
abbrev ag (xs : List Value) : Value := .agg xs.toArray
abbrev pt (b off : Nat) : Value := .pointer (some ⟨b, off, none⟩)

/-- What is owned: a block, cell by cell; a slice (nil, or from the head of a block of its own on); a block, or none. -/
inductive Own where
  | blk (b : Nat) (T : TypeId) (xs : List Value)
  | sli (s : Sl) (T : TypeId) (esz n : Nat) (xs : List Value)
  | opt (v : Option Addr) (T : TypeId) (xs : List Value)

def Own.block : Own → Option Nat
  | .blk b _ _ => some b
  | .sli s _ _ _ _ => s.a.map (·.block)
  | .opt v _ _ => v.map (·.block)

def Own.holds : Own → World → Prop
  | .blk b T xs, w => w.heap[b]? = some (.cells xs.toArray T (0, 0)) ∧ T ≠ keyT
  | .sli s T esz n xs, w => w.ownsRow 0 T esz (sv s) n xs ∧ T ≠ keyT
  | .opt v T xs, w => (∀ a, v = some a → a = ⟨a.block, 0, none⟩ ∧ w.heap[a.block]? = some (.cells xs.toArray T (0, 0))) ∧ T ≠ keyT

/-- Two owned things lie apart. -/
def Own.apart (x y : Own) : Prop := ∀ b, x.block = some b → y.block ≠ some b

/-- The blocks of what is owned. -/
def inL (L : List Own) (k : Nat) : Prop := ∃ x ∈ L, x.block = some k

structure St (w0 : World) (O0 : Nat → Prop) (M : List Nat) (L : List Own) (K : List SP) (σ : GS) : Prop where
  keep : Keep O0 M w0 σ.w
  o0 : ∀ k, O0 k → k < w0.heap.size
  opre : ∀ k, O0 k → σ.O k
  olt : ∀ k, σ.O k → k < σ.w.heap.size
  own : ∀ x ∈ L, x.holds σ.w ∧ ∀ b, x.block = some b → σ.O b ∧ (w0.heap.size ≤ b ∨ b ∈ M)
  ours : ∀ k, σ.A k ↔ inL L k
  apart : L.Pairwise Own.apart
  kn : ∀ p ∈ K, p.p σ

/-- The judgement. -/
def NJ (n : Nat) (w0 : World) (O0 : Nat → Prop) (M : List Nat) (next : Act → World → Prop) (e : List (Nat × Value)) (L : List Own) (K : List SP) : Prop :=
  ∀ a σ, EOk n e a → St w0 O0 M L K σ → next a σ.w

/-! ## Combinators of the pure functions -/
def Let {α ρ : Type} (v : α) (f : α → ρ) : ρ := f v
def Br {ρ : Type} (c : Bool) (A B : Option ρ) : Option ρ := match c with | true => A | false => B
def Gd {ρ : Type} (c : Prop) [Decidable c] (A : Option ρ) : Option ρ := if c then A else none
def Bd {α ρ : Type} (m : Option α) (f : α → Option ρ) : Option ρ := match m with | some x => f x | none => none
def Mo {α ρ : Type} (m : Option α) (A : Option ρ) (f : α → Option ρ) : Option ρ := match m with | some x => f x | none => A

theorem letE {α ρ : Type} {v : α} {f : α → Option ρ} {r : Option ρ} (h : Let v f = r) : f v = r := h
theorem gdE {ρ : Type} {c : Prop} [Decidable c] {A : Option ρ} {r : ρ} (h : Gd c A = some r) : c ∧ A = some r := by
  unfold Gd at h; split at h
  · exact ⟨‹_›, h⟩
  · cases h
theorem bdE {α ρ : Type} {m : Option α} {f : α → Option ρ} {r : ρ} (h : Bd m f = some r) : ∃ x, m = some x ∧ f x = some r := by
  cases m with
  | none => cases h
  | some x => exact ⟨x, rfl, h⟩
theorem brT {ρ : Type} {A B : Option ρ} {r} (h : Br true A B = r) : A = r := h
theorem brF {ρ : Type} {A B : Option ρ} {r} (h : Br false A B = r) : B = r := h
def FUEL : Nat := 18446744073709551616
theorem FUEL_succ : ∃ k, FUEL = k + 1 := ⟨18446744073709551615, rfl⟩

/-! ## Places in lists -/
inductive At {α : Type} (x : α) : List α → Prop
  | z {l} : At x (x :: l)
  | s {y l} : At x l → At x (y :: l)
theorem At.mem {α} {x : α} {l} (h : At x l) : x ∈ l := by induction h <;> simp_all
/-- L with x at one place is L' with y there. -/
inductive SetAt {α : Type} (x y : α) : List α → List α → Prop
  | z {l} : SetAt x y (x :: l) (y :: l)
  | s {u l l'} : SetAt x y l l' → SetAt x y (u :: l) (u :: l')
/-- L without the x at one place. -/
inductive DelAt {α : Type} (x : α) : List α → List α → Prop
  | z {l} : DelAt x (x :: l) l
  | s {u l l'} : DelAt x l l' → DelAt x (u :: l) (u :: l')
theorem SetAt.mem {α} {x y : α} {l l'} (h : SetAt x y l l') : x ∈ l := by induction h <;> simp_all
theorem SetAt.mem' {α} {x y : α} {l l'} (h : SetAt x y l l') : ∀ z ∈ l', z = y ∨ z ∈ l := by
  induction h with
  | z => intro z hz; simp at hz; rcases hz with rfl | h <;> simp_all
  | s _ ih => intro z hz; simp at hz; rcases hz with rfl | h; simp; rcases ih z h with h | h <;> simp_all
theorem DelAt.mem {α} {x : α} {l l'} (h : DelAt x l l') : x ∈ l := by induction h <;> simp_all
theorem DelAt.sub {α} {x : α} {l l'} (h : DelAt x l l') : ∀ z ∈ l', z ∈ l := by
  induction h with
  | z => intro z hz; simp [hz]
  | s _ ih => intro z hz; simp at hz; rcases hz with rfl | h; simp; exact List.mem_cons_of_mem _ (ih z h)
theorem DelAt.sublist {α} {x : α} {l l'} (h : DelAt x l l') : l'.Sublist l := by
  induction h with
  | z => exact List.sublist_cons_self _ _
  | s _ ih => exact ih.cons_cons _

theorem DelAt.split {α} {x : α} {l l'} (h : DelAt x l l') : ∀ z ∈ l, z = x ∨ z ∈ l' := by
  induction h with
  | z => intro z hz; simpa using hz
  | s _ ih =>
    intro z hz
    rcases List.mem_cons.1 hz with rfl | hz
    · exact .inr (by simp)
    · rcases ih z hz with h | h
      · exact .inl h
      · exact .inr (by simp [h])
/-- Where x may be made y without harm to a symmetric relation. -/
theorem SetAt.pairwise {α} {x y : α} {R : α → α → Prop} {l l'} (h : SetAt x y l l') (h1 : ∀ z, R x z → R y z) (h2 : ∀ z, R z x → R z y) (hp : l.Pairwise R) : l'.Pairwise R := by
  induction h with
  | z => rw [List.pairwise_cons] at hp ⊢; exact ⟨fun z hz => h1 z (hp.1 z hz), hp.2⟩
  | s hs ih =>
    rw [List.pairwise_cons] at hp ⊢
    refine ⟨fun z hz => ?_, ih hp.2⟩
    rcases hs.mem' z hz with rfl | h
    · exact h2 _ (hp.1 _ hs.mem)
    · exact hp.1 z h
/-- The one that stands at the place is apart from all others. -/
theorem SetAt.others {α} {x y : α} {R : α → α → Prop} (sym : ∀ a b, R a b → R b a) {l l'} (h : SetAt x y l l') (hp : l.Pairwise R) : ∀ z ∈ l', z = y ∨ (z ∈ l ∧ R x z) := by
  induction h with
  | z => intro z hz; simp at hz; rw [List.pairwise_cons] at hp; rcases hz with rfl | h; simp; exact .inr ⟨by simp [h], hp.1 z h⟩
  | s hs ih =>
    intro z hz
    rw [List.pairwise_cons] at hp
    simp at hz
    rcases hz with rfl | h
    · exact .inr ⟨by simp, sym _ _ (hp.1 _ hs.mem)⟩
    · rcases ih hp.2 z h with h | ⟨h, hr⟩
      · exact .inl h
      · exact .inr ⟨by simp [h], hr⟩
theorem DelAt.others {α} {x : α} {R : α → α → Prop} (sym : ∀ a b, R a b → R b a) {l l'} (h : DelAt x l l') (hp : l.Pairwise R) : ∀ z ∈ l', R x z := by
  induction h with
  | z => intro z hz; rw [List.pairwise_cons] at hp; exact hp.1 z hz
  | s hs ih =>
    intro z hz
    rw [List.pairwise_cons] at hp
    simp at hz
    rcases hz with rfl | h
    · exact sym _ _ (hp.1 _ hs.mem)
    · exact ih hp.2 z h
theorem Own.apart_symm (x y : Own) (h : x.apart y) : y.apart x := fun b hy hx => h b hx hy

/-! ## Parts of a row of cells -/
def Sub (xs : List Value) (off : Nat) (ys : List Value) : Prop := ∃ a c, xs = a ++ ys ++ c ∧ a.length = off
/-- xs with ys for what stands at off is xs'. -/
def Upd (xs : List Value) (off : Nat) (ys : List Value) (xs' : List Value) : Prop := ∃ a b c, xs = a ++ b ++ c ∧ a.length = off ∧ b.length = ys.length ∧ xs' = a ++ ys ++ c

theorem Sub.refl (xs : List Value) : Sub xs 0 xs := ⟨[], [], by simp, rfl⟩
theorem Sub.trans {xs ys zs i j} (h : Sub xs i ys) (k : Sub ys j zs) : Sub xs (i + j) zs := by
  obtain ⟨a, c, rfl, rfl⟩ := h; obtain ⟨b, d, rfl, rfl⟩ := k
  exact ⟨a ++ b, d ++ c, by simp, by simp⟩
theorem Upd.refl {xs ys : List Value} (h : xs.length = ys.length) : Upd xs 0 ys ys := ⟨[], xs, [], by simp, rfl, h, by simp⟩
theorem Upd.comp {xs ys xs' zs ys' i j} (h : Sub xs i ys) (k : Upd ys j zs ys') (u : Upd xs i ys' xs') : Upd xs (i + j) zs xs' := by
  obtain ⟨a, c, rfl, rfl⟩ := h; obtain ⟨b, d, f, rfl, rfl, hl, rfl⟩ := k
  obtain ⟨a', b', c', h1, h2, h3, rfl⟩ := u
  have e1 := List.append_inj (s₁ := a) (s₂ := a') (t₁ := (b ++ d ++ f) ++ c) (t₂ := b' ++ c') (by simpa using h1) h2.symm
  obtain ⟨rfl, e2⟩ := e1
  have e3 := List.append_inj (s₁ := b ++ d ++ f) (s₂ := b') e2 (by rw [h3]; simp [hl])
  obtain ⟨rfl, rfl⟩ := e3
  exact ⟨a ++ b, d, f ++ c, by simp, by simp, hl, by simp⟩
theorem Upd.length {xs off ys xs'} (h : Upd xs off ys xs') : xs'.length = xs.length := by
  obtain ⟨a, b, c, rfl, _, hl, rfl⟩ := h; simp [hl]
theorem Sub.get {xs off ys} (h : Sub xs off ys) : ∀ j v, ys[j]? = some v → xs[off + j]? = some v := by
  obtain ⟨a, c, rfl, rfl⟩ := h
  intro j v hv
  have hj : j < ys.length := by
    rcases Nat.lt_or_ge j ys.length with h | h
    · exact h
    · simp [List.getElem?_eq_none h] at hv
  rw [List.append_assoc, List.getElem?_append_right (by omega)]
  simp [List.getElem?_append_left hj, hv]
theorem Sub.le {xs off ys} (h : Sub xs off ys) : off + ys.length ≤ xs.length := by obtain ⟨a, c, rfl, rfl⟩ := h; simp
theorem Upd.eq {xs off ys xs'} (h : Upd xs off ys xs') : xs' = xs.take off ++ ys ++ xs.drop (off + ys.length) ∧ off + ys.length ≤ xs.length := by
  obtain ⟨a, b, c, rfl, rfl, hl, rfl⟩ := h
  have h1 : (a ++ b ++ c).take a.length = a := by simp
  have h2 : (a ++ b ++ c).drop (a.length + ys.length) = c := by rw [← hl]; simp [← List.drop_drop]
  rw [h1, h2]; exact ⟨rfl, by simp [← hl]⟩

/-! ## Kinds of data -/
structure Ty (α : Type) where
  size : Nat
  enc : α → List Value
  len : ∀ x, (enc x).length = size
  one : ∀ x, ∀ v ∈ enc x, v.oneCell' = true

def tyI (k : IntKind) : Ty Int := ⟨1, fun x => [.int k x], fun _ => rfl, by simp [Value.oneCell']⟩
def tyB : Ty Bool := ⟨1, fun x => [.bool x], fun _ => rfl, by simp [Value.oneCell']⟩
def tyS : Ty ByteArray := ⟨1, fun x => [.string x], fun _ => rfl, by simp [Value.oneCell']⟩
def tySl : Ty Sl := ⟨1, fun x => [sv x], fun _ => rfl, by simp [Value.oneCell']⟩
def tyP : Ty (Option Addr) := ⟨1, fun x => [.pointer x], fun _ => rfl, by simp [Value.oneCell']⟩

/-- A row of data, one behind the other. -/
def Ty.many {α : Type} (C : Ty α) (l : List α) : List Value := l.flatMap C.enc
theorem Ty.many_len {α} (C : Ty α) (l : List α) : (C.many l).length = l.length * C.size := by
  induction l with
  | nil => simp [Ty.many]
  | cons x l ih => simp only [Ty.many, List.flatMap_cons, List.length_append, List.length_cons] at *; rw [C.len, ih, Nat.succ_mul]; omega
theorem Ty.many_one {α} (C : Ty α) (l : List α) : ∀ v ∈ C.many l, v.oneCell' = true := by
  intro v hv; simp only [Ty.many, List.mem_flatMap] at hv; obtain ⟨x, _, hx⟩ := hv; exact C.one x v hx
theorem Ty.many_append {α} (C : Ty α) (l m : List α) : C.many (l ++ m) = C.many l ++ C.many m := by simp [Ty.many]
theorem Ty.many_sub {α} (C : Ty α) (l : List α) (i : Nat) (x : α) (h : l[i]? = some x) : Sub (C.many l) (i * C.size) (C.enc x) := by
  have hi : i < l.length := (List.getElem?_eq_some_iff.1 h).1
  have hx : l[i] = x := (List.getElem?_eq_some_iff.1 h).2
  refine ⟨C.many (l.take i), C.many (l.drop (i + 1)), ?_, by rw [C.many_len]; simp [Nat.min_eq_left (Nat.le_of_lt (by assumption : i < l.length))]⟩
  have : C.enc x = C.many [x] := by simp [Ty.many]
  rw [this, ← C.many_append, ← C.many_append, ← hx]
  congr 1
  rw [List.append_assoc, List.singleton_append, List.getElem_cons_drop, List.take_append_drop]
theorem Ty.many_upd {α} (C : Ty α) (l : List α) (i : Nat) (x : α) (h : i < l.length) : Upd (C.many l) (i * C.size) (C.enc x) (C.many (l.set i x)) := by
  refine ⟨C.many (l.take i), C.enc l[i], C.many (l.drop (i + 1)), ?_, by rw [C.many_len]; simp [Nat.min_eq_left (Nat.le_of_lt (by assumption : i < l.length))], by rw [C.len, C.len], ?_⟩
  · have : C.enc l[i] = C.many [l[i]] := by simp [Ty.many]
    rw [this, ← C.many_append, ← C.many_append]
    congr 1
    rw [List.append_assoc, List.singleton_append, List.getElem_cons_drop, List.take_append_drop]
  · have : C.enc x = C.many [x] := by simp [Ty.many]
    rw [this, ← C.many_append, ← C.many_append, List.set_eq_take_append_cons_drop, if_pos h]
    simp

/-- An array. -/
def Ty.arr {α : Type} (n : Nat) (C : Ty α) : Ty (Vector α n) :=
  ⟨n * C.size, fun v => C.many v.toList, fun v => by rw [C.many_len]; simp, fun v => C.many_one _⟩

def Vector.at' {α n} [Inhabited α] (v : Vector α n) (i : Int) : α := v.toList.getD i.toNat default
def Vector.up' {α n} (v : Vector α n) (i : Int) (x : α) : Vector α n := v.setIfInBounds i.toNat x
abbrev vat {α n} [Inhabited α] (v : Vector α n) (i : Int) : α := Vector.at' v i
abbrev vup {α n} (v : Vector α n) (i : Int) (x : α) : Vector α n := Vector.up' v i x
def lat {α : Type} [Inhabited α] (l : List α) (i : Int) : α := l.getD i.toNat default

theorem arr_sub {α n} [Inhabited α] (C : Ty α) (v : Vector α n) (i : Int) (h : 0 ≤ i ∧ i < (n : Int)) : Sub ((Ty.arr n C).enc v) (i.toNat * C.size) (C.enc (vat v i)) := by
  have hl : i.toNat < v.toList.length := by simp; omega
  exact C.many_sub v.toList i.toNat (vat v i) (by simp only [vat, Vector.at', List.getD]; rw [List.getElem?_eq_getElem hl]; rfl)
theorem arr_upd {α n} (C : Ty α) (v : Vector α n) (i : Int) (x : α) (h : 0 ≤ i ∧ i < (n : Int)) : Upd ((Ty.arr n C).enc v) (i.toNat * C.size) (C.enc x) ((Ty.arr n C).enc (vup v i x)) := by
  have hl : i.toNat < v.toList.length := by simp; omega
  have := C.many_upd v.toList i.toNat x hl
  simp only [Ty.arr, vup, Vector.up']
  rwa [Vector.toList_setIfInBounds]

end Go.Proofs.YtbhbpfdjlabamaaGreat
