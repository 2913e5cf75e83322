/-
  The rules of the walks: a statement whose order Go leaves open. What only computes or reads is taken first; what changes memory comes in its turn.
-/
import Derived.Test.YtbhbpfdjlabamaaGreatOps2
import Derived.Deep.RegionHeld3
set_option linter.all false
set_option linter.unusedVariables false
set_option linter.unusedSimpArgs false
namespace Go.Proofs.YtbhbpfdjlabamaaGreat
open Go

section
variable {P : Program} {ops : Array Oper} {Q : Exit → Act → World → Prop} {md : Region.Mode} {S : Array Bool → World → Prop}

/-- Whatever order is picked from here on, and S (of what has come up) holds behind every operation. -/
def wpAnyG (P : Program) (md : Region.Mode) (ops : Array Oper) (Q : Exit → Act → World → Prop) (S : Array Bool → World → Prop) : Nat → Array Bool → Act → World → Prop
  | 0, listed, a, w => Region.ready md ops listed = [] ∧ Q .normal a w
  | fuel + 1, listed, a, w =>
    (Region.ready md ops listed = [] → Q .normal a w) ∧
    ∀ i ∈ Region.ready md ops listed, wpOp P ops Q i (fun a' w' => S (listed.setIfInBounds i true) w' ∧ wpAnyG P md ops Q S fuel (listed.setIfInBounds i true) a' w') a w

theorem wpAny_of_G : ∀ (fuel : Nat) (listed : Array Bool) (a : Act) (w : World), wpAnyG P md ops Q S fuel listed a w → wpAny P md ops Q fuel listed a w
  | 0, _, _, _, h => h
  | fuel + 1, _, _, _, h => ⟨h.1, fun i hi => wpOp_mono (fun a' w' h' => wpAny_of_G fuel _ a' w' h'.2) (h.2 i hi)⟩

/-- What has come up has all behind it that it waits for. -/
def ClosedG (md : Region.Mode) (ops : Array Oper) (listed : Array Bool) : Prop :=
  ∀ j oj, ops[j]? = some oj → listed.getD j true = true → ∀ e ∈ oj.after, Region.binds md e = true → listed.getD e.on false = true
theorem ClosedG.set {listed i} (h : ClosedG md ops listed) (hi : i ∈ Region.ready md ops listed) : ClosedG md ops (listed.setIfInBounds i true) := by
  intro j oj hj hl e he hb
  by_cases hji : i = j
  · subst hji
    obtain ⟨_, o', ho', hall⟩ := mem_ready.1 hi
    rw [hj] at ho'; cases ho'
    exact getD_set_true (hall e he hb)
  · rw [getD_set_ne true hji] at hl
    exact getD_set_true (h j oj hj hl e he hb)

/-- The worlds at which operation i may come up. -/
def UpAt (md : Region.Mode) (ops : Array Oper) (S : Array Bool → World → Prop) (i : Nat) (w : World) : Prop := ∃ listed, ClosedG md ops listed ∧ listed.getD i true = false ∧ S listed w

theorem wpAnyG_first {i : Nat} {oi : Oper} {v : Value} (hi : ops[i]? = some oi) (hsel : ∀ (j : Nat) (o : Oper) cs b, ops[j]? = some o → o.op ≠ .select cs b)
    (hQ : ∀ c a w, Q (.panic c) (a.put oi.dst v) w → Q (.panic c) a w) (hS1 : ∀ l w, S l w → S (l.setIfInBounds i true) w) (hS2 : ∀ l w, S (l.setIfInBounds i true) w → S l w) :
    ∀ (fuel : Nat) (listed : Array Bool) (a : Act) (w : World),
      (∀ j oj, ops[j]? = some oj → j ≠ i → listed.getD j true = false → (∀ e ∈ oj.after, Region.binds md e = true → e.on ≠ i) → oi.apart ops oj = true) →
      ClosedG md ops listed → i ∈ Region.ready md ops listed → YieldsIf P ops (UpAt md ops S i) oi v a → S listed w →
      wpAnyG P md ops Q S fuel (listed.setIfInBounds i true) (a.put oi.dst v) w → wpAnyG P md ops Q S (fuel + 1) listed a w := by
  intro fuel
  induction fuel with
  | zero =>
    intro listed a w _ hcl hr hy hS H
    refine ⟨fun h => (by rw [h] at hr; cases hr), fun j hj => ?_⟩
    by_cases hji : j = i
    · subst hji; exact hy.wpOp hi ⟨listed, hcl, (mem_ready.1 hr).1, hS⟩ ⟨hS1 _ _ hS, H⟩
    · have := ready_mono hj hji
      rw [H.1] at this
      cases this
  | succ fuel ih =>
    intro listed a w hfree hcl hr hy hS H
    refine ⟨fun h => (by rw [h] at hr; cases hr), fun j hj => ?_⟩
    by_cases hji : j = i
    · subst hji; exact hy.wpOp hi ⟨listed, hcl, (mem_ready.1 hr).1, hS⟩ ⟨hS1 _ _ hS, H⟩
    · have h1 := H.2 j (ready_mono hj hji)
      obtain ⟨hjun, oj, hoj, hall⟩ := mem_ready.1 hj
      have hnot : ∀ e ∈ oj.after, Region.binds md e = true → e.on ≠ i := fun e he hb heq => by
        have h1 := hall e he hb
        have h0 := (mem_ready.1 hr).1
        rw [heq] at h1
        rcases Nat.lt_or_ge i listed.size with h' | h'
        · simp [h'] at h0 h1; rw [h0] at h1; cases h1
        · simp [Array.getElem?_eq_none h'] at h1
      have h2 := wpOp_putIf hoj (hfree j oj hoj hji hjun hnot) (fun cs b => hsel i oi cs b hi) (fun cs b => hsel j oj cs b hoj) hQ hy h1
      have hfree' : ∀ k ok, ops[k]? = some ok → k ≠ i → (listed.setIfInBounds j true).getD k true = false →
          (∀ e ∈ ok.after, Region.binds md e = true → e.on ≠ i) → oi.apart ops ok = true := fun k ok hk hki hun hno => by
        refine hfree k ok hk hki ?_ hno
        by_cases hjk : j = k
        · subst hjk; exact hjun
        · rw [getD_set_ne true hjk] at hun; exact hun
      refine wpOp_mono (fun a' w' h3 => ?_) h2
      obtain ⟨hy', hs', h4⟩ := h3
      rw [Array.setIfInBounds_comm _ _ (Ne.symm hji)] at hs' h4
      have hs'' := hS2 _ _ hs'
      exact ⟨hs'', ih (listed.setIfInBounds j true) a' w' hfree' (hcl.set hj) (ready_mono hr (Ne.symm hji)) hy' hs'' h4⟩

end

section
variable {n : Nat} {w0 : World} {O0 : Nat → Prop} {M : List Nat} {P : Program} {ops : Array Oper}
variable {Q : Exit → Act → World → Prop} {e : List (Nat × Value)} {L : List Own} {K : List SP}
variable {Ls : List (List Nat × Own)} {Ks : List SP} {listed : Array Bool} {fuel : Nat}

/-- Of the things of Ls those hold that no operation that has come up turns; the facts of Ks hold. -/
def SF (Ls : List (List Nat × Own)) (Ks : List SP) (listed : Array Bool) (w : World) : Prop :=
  ∃ O A, (∀ x ∈ Ls, (x.1.all fun j => !listed.getD j false) = true → x.2.holds w) ∧ ∀ p ∈ Ks, p.p ⟨w, O, A⟩

abbrev JG (n : Nat) (w0 : World) (O0 : Nat → Prop) (M : List Nat) (P : Program) (ops : Array Oper) (Q : Exit → Act → World → Prop) (Ls : List (List Nat × Own)) (Ks : List SP) (fuel : Nat) (listed : Array Bool) (e : List (Nat × Value)) (L : List Own) (K : List SP) : Prop :=
  NJ n w0 O0 M (fun a w => SF Ls Ks listed w → wpAnyG P .any ops (NoPanic Q) (SF Ls Ks) fuel listed a w) e L K

theorem jc_regd {id k : Nat} {l : List Oper} (hm : P.follows .mixedOrders = true) (hk : l.length = k) (Ls : List (List Nat × Own)) (Ks : List SP) (hL : Among (Ls.map (·.2)) L) (hK : Among Ks K)
    (h : JG n w0 O0 M P l.toArray Q Ls Ks k (Array.replicate k false) e L K) : JC n w0 O0 M P (.region id l.toArray true) Q e L K := fun a σ he hs => by
  refine wp_region_noPanic (wp_region_any hm ?_)
  have hs' := hs.drew
  have := h a _ he hs' ⟨σ.O, _, fun x hx _ => (hs'.own _ (hL.mem _ (List.mem_map.2 ⟨x, hx, rfl⟩))).1, fun p hp => hs'.kn p (hK.mem p hp)⟩
  simp only [List.size_toArray, hk]
  exact wpAny_of_G _ _ _ _ this

def closedB (ops : Array Oper) (listed : Array Bool) : Bool :=
  (List.range ops.size).all fun j => !listed.getD j true || ((ops[j]?).map fun o => o.after.all fun e => !Region.binds .any e || listed.getD e.on false).getD true
theorem closedB_spec (h : closedB ops listed = true) : ClosedG .any ops listed := by
  intro j oj hj hl e he hb
  have hlt : j < ops.size := (Array.getElem?_eq_some_iff.1 hj).1
  have := (List.all_eq_true.1 h) j (List.mem_range.2 hlt)
  simp only [hl, Bool.not_true, Bool.false_or, hj, Option.map_some, Option.getD_some, Array.all_eq_true_iff_forall_mem] at this
  have := this e he
  simpa [hb] using this

def takeB (ops : Array Oper) (Ls : List (List Nat × Own)) (listed : Array Bool) (i : Nat) : Bool :=
  Region.noSelect ops && Region.free .any ops listed i && (Region.ready .any ops listed).contains i && closedB ops listed && Ls.all fun x => !x.1.contains i

/-- All that turn a thing wait for operation i. -/
def waitB (ops : Array Oper) (i : Nat) (mods : List Nat) : Bool := mods.all fun j => ((ops[j]?).map fun o => o.after.toList.any fun e => Region.binds .any e && e.on == i).getD false

theorem SF.set {i w} (hn : (Ls.all fun x => !x.1.contains i) = true) : SF Ls Ks (listed.setIfInBounds i true) w ↔ SF Ls Ks listed w := by
  have key : ∀ x ∈ Ls, (x.1.all fun j => !(listed.setIfInBounds i true).getD j false) = (x.1.all fun j => !listed.getD j false) := by
    intro x hx
    have hxi := (List.all_eq_true.1 hn) x hx
    rw [Bool.eq_iff_iff, List.all_eq_true, List.all_eq_true]
    refine forall_congr' fun j => forall_congr' fun hj => ?_
    have : i ≠ j := by rintro rfl; simp [hj] at hxi
    rw [getD_set_ne false this]
  constructor
  · rintro ⟨O, A, h1, h2⟩; exact ⟨O, A, fun x hx hm => h1 x hx (by rw [key x hx]; exact hm), h2⟩
  · rintro ⟨O, A, h1, h2⟩; exact ⟨O, A, fun x hx hm => h1 x hx (by rw [← key x hx]; exact hm), h2⟩

/-- The things that a read at operation i leans on. -/
inductive Leans (ops : Array Oper) (i : Nat) (Ls : List (List Nat × Own)) : List Own → Prop
  | nil : Leans ops i Ls []
  | cons {m x l} : At (m, x) Ls → waitB ops i m = true → Leans ops i Ls l → Leans ops i Ls (x :: l)
theorem Leans.holds {i l w} (h : Leans ops i Ls l) {listed : Array Bool} (hc : ClosedG .any ops listed) (hu : listed.getD i true = false) (hs : SF Ls Ks listed w) : ∀ x ∈ l, x.holds w := by
  obtain ⟨O, A, h1, _⟩ := hs
  induction h with
  | nil => simp
  | cons hat hw _ ih =>
    intro y hy
    simp only [List.mem_cons] at hy
    rcases hy with rfl | hy
    · refine h1 _ hat.mem (List.all_eq_true.2 fun j hj => ?_)
      have hwj := (List.all_eq_true.1 hw) j hj
      cases ho : ops[j]? with
      | none => simp [ho] at hwj
      | some oj =>
        simp only [ho, Option.map_some, Option.getD_some, List.any_eq_true, Bool.and_eq_true, beq_iff_eq, Array.mem_toList_iff] at hwj
        obtain ⟨ed, hed, hb, hon⟩ := hwj
        cases hl : listed.getD j false with
        | false => rfl
        | true =>
          have h2 : listed.getD j true = true := by
            rcases Nat.lt_or_ge j listed.size with h' | h'
            · simp [h'] at hl ⊢; exact hl
            · simp [Array.getElem?_eq_none h'] at hl
          have h3 := hc j oj ho h2 ed hed hb
          rw [hon] at h3
          rcases Nat.lt_or_ge i listed.size with h' | h'
          · simp [h'] at hu h3; rw [hu] at h3; cases h3
          · simp [Array.getElem?_eq_none h'] at h3
    · exact ih y hy

variable {i d : Nat} {oi : Oper} {v : Value} {Lx : List Own} {Kx : List SP}

theorem tk_core (hi : ops[i]? = some oi) (ht : takeB ops Ls listed i = true) {dst} (hd : oi.dst = dst) (hy : ∀ a, EOk n e a → YieldsIf P ops (UpAt .any ops (SF Ls Ks) i) oi v a)
    {e'} (he' : ∀ a, EOk n e a → EOk n e' (a.put dst v)) (h : JG n w0 O0 M P ops Q Ls Ks fuel (listed.setIfInBounds i true) e' L K) : JG n w0 O0 M P ops Q Ls Ks (fuel + 1) listed e L K := fun a σ he hs hsf => by
  simp only [takeB, Bool.and_eq_true] at ht
  obtain ⟨⟨⟨⟨h1, h2⟩, h3⟩, h4⟩, h5⟩ := ht
  refine wpAnyG_first hi (Region.noSelect_spec h1) (fun _ _ _ h => h) (fun l w h => (SF.set h5).2 h) (fun l w h => (SF.set h5).1 h) fuel listed a σ.w (Region.free_spec hi h2) (closedB_spec h4) (by simpa using h3) (hy a he) hsf ?_
  rw [hd]
  exact h _ σ (he' a he) hs ((SF.set h5).2 hsf)

/-- Taken first: it computes, or reads what nobody turns ahead of it. -/
theorem tk (hi : ops[i]? = some oi) (ht : takeB ops Ls listed i = true) (hd : dstW ops e n oi = some (some d)) (hy : Yv n P oi e Lx Kx v) (hl : Leans ops i Ls Lx) (hk : Among Kx Ks)
    (h : JG n w0 O0 M P ops Q Ls Ks fuel (listed.setIfInBounds i true) ((d, v) :: e) L K) : JG n w0 O0 M P ops Q Ls Ks (fuel + 1) listed e L K := by
  refine fun a σ he => tk_core hi ht (dstW_spec hd he).2.1 (fun _ he => .inl ⟨(dstW_spec hd he).1, fun w hw => ?_⟩) (fun _ he => he.put ((dstW_spec hd he).2.2 d rfl)) h a σ he
  obtain ⟨l, hc, hu, hsf⟩ := hw
  have hx := hl.holds hc hu hsf
  obtain ⟨O, A, _, hO⟩ := hsf
  exact hy _ ⟨w, O, A⟩ he ⟨hx, fun p hp => hO p (hk.mem p hp)⟩
theorem tki {k : IntKind} {u : Int} {ρ : Type} {F : Int → Option ρ} {r : ρ} (hh : Let u F = some r) (hi : ops[i]? = some oi) (ht : takeB ops Ls listed i = true) (hd : dstW ops e n oi = some (some d)) (hy : Yv n P oi e Lx Kx (.int k u)) (hl : Leans ops i Ls Lx) (hk : Among Kx Ks)
    (h : ∀ x, F x = some r → JG n w0 O0 M P ops Q Ls Ks fuel (listed.setIfInBounds i true) ((d, .int k x) :: e) L K) : JG n w0 O0 M P ops Q Ls Ks (fuel + 1) listed e L K := tk hi ht hd hy hl hk (h u hh)
theorem tkb {u : Bool} {ρ : Type} {F : Bool → Option ρ} {r : ρ} (hh : Let u F = some r) (hi : ops[i]? = some oi) (ht : takeB ops Ls listed i = true) (hd : dstW ops e n oi = some (some d)) (hy : Yv n P oi e Lx Kx (.bool u)) (hl : Leans ops i Ls Lx) (hk : Among Kx Ks)
    (h : ∀ x, F x = some r → JG n w0 O0 M P ops Q Ls Ks fuel (listed.setIfInBounds i true) ((d, .bool x) :: e) L K) : JG n w0 O0 M P ops Q Ls Ks (fuel + 1) listed e L K := tk hi ht hd hy hl hk (h u hh)
theorem tkg {α : Type} {C : Ty α} {u : α} {ρ : Type} {F : α → Option ρ} {r : ρ} (hh : Let u F = some r) (hi : ops[i]? = some oi) (ht : takeB ops Ls listed i = true) (hd : dstW ops e n oi = some (some d)) (hy : Yv n P oi e Lx Kx (ag (C.enc u))) (hl : Leans ops i Ls Lx) (hk : Among Kx Ks)
    (h : ∀ x, F x = some r → JG n w0 O0 M P ops Q Ls Ks fuel (listed.setIfInBounds i true) ((d, ag (C.enc x)) :: e) L K) : JG n w0 O0 M P ops Q Ls Ks (fuel + 1) listed e L K := tk hi ht hd hy hl hk (h u hh)
theorem tk_skip (hi : ops[i]? = some oi) (ht : takeB ops Ls listed i = true) (hd : skipW ops e n oi = some (some d))
    (h : JG n w0 O0 M P ops Q Ls Ks fuel (listed.setIfInBounds i true) ((d, undef) :: e) L K) : JG n w0 O0 M P ops Q Ls Ks (fuel + 1) listed e L K :=
  fun a σ he => tk_core hi ht (skipW_spec hd he).2.1 (fun _ he => .inr ⟨(skipW_spec hd he).1, rfl⟩) (fun _ he => he.put ((skipW_spec hd he).2.2 d rfl)) h a σ he

/-- The goal behind an operation that changes memory. -/
abbrev NG (n : Nat) (w0 : World) (O0 : Nat → Prop) (M : List Nat) (P : Program) (ops : Array Oper) (Q : Exit → Act → World → Prop) (Ls : List (List Nat × Own)) (Ks : List SP) (fuel : Nat) (listed : Array Bool) (e : List (Nat × Value)) (L : List Own) (K : List SP) : Prop :=
  NJ n w0 O0 M (fun a w => SF Ls Ks listed w ∧ wpAnyG P .any ops (NoPanic Q) (SF Ls Ks) fuel listed a w) e L K
/-- One operation in its turn. -/
def G1 (n : Nat) (w0 : World) (O0 : Nat → Prop) (M : List Nat) (P : Program) (ops : Array Oper) (Q : Exit → Act → World → Prop) (Ls : List (List Nat × Own)) (Ks : List SP) (fuel : Nat) (listed : Array Bool) (e : List (Nat × Value)) (L : List Own) (K : List SP) (i : Nat) : Prop :=
  NJ n w0 O0 M (fun a w => wpOp P ops (NoPanic Q) i (fun a' w' => SF Ls Ks (listed.setIfInBounds i true) w' ∧ wpAnyG P .any ops (NoPanic Q) (SF Ls Ks) fuel (listed.setIfInBounds i true) a' w') a w) e L K
theorem gst {r} (hi : ops[i]? = some oi) (hd : dstW ops e n oi = some r)
    (h : SJ n w0 O0 M P oi (fun a w => SF Ls Ks (listed.setIfInBounds i true) w ∧ wpAnyG P .any ops (NoPanic Q) (SF Ls Ks) fuel (listed.setIfInBounds i true) a w) (NoPanic Q) e L K) : G1 n w0 O0 M P ops Q Ls Ks fuel listed e L K i := fun a σ he hs => by
  show wpOp P ops (NoPanic Q) i _ a σ.w
  unfold wpOp
  simp only [hi, (dstW_spec hd he).1, if_true]
  exact .inl (h a σ he hs)
inductive AllG (p : Nat → Prop) : List Nat → Prop
  | nil : AllG p []
  | cons {i l} : p i → AllG p l → AllG p (i :: l)
theorem AllG.all {p : Nat → Prop} {l} (h : AllG p l) : ∀ i ∈ l, p i := by
  induction h with
  | nil => simp
  | cons h _ ih => intro i hi; simp at hi; rcases hi with rfl | hi; exact h; exact ih i hi
theorem jg_ready {rs} (hr : Region.ready .any ops listed = rs) (hne : rs ≠ []) (h : AllG (G1 n w0 O0 M P ops Q Ls Ks fuel listed e L K) rs) : JG n w0 O0 M P ops Q Ls Ks (fuel + 1) listed e L K :=
  fun a σ he hs _ => ⟨fun h0 => absurd (hr ▸ h0) hne, fun i hi => h.all i (hr ▸ hi) a σ he hs⟩
theorem jg_one {i : Nat} (hr : Region.ready .any ops listed = [i]) (h : G1 n w0 O0 M P ops Q Ls Ks fuel listed e L K i) : JG n w0 O0 M P ops Q Ls Ks (fuel + 1) listed e L K := jg_ready hr (by simp) (.cons h .nil)
def stay (Ls : List (List Nat × Own)) (listed : Array Bool) : List Own := match Ls with
  | [] => []
  | x :: l => match (x.1.all fun j => !listed.getD j false) with | true => x.2 :: stay l listed | false => stay l listed
theorem mem_stay {x} (hx : x ∈ Ls) (hm : (x.1.all fun j => !listed.getD j false) = true) : x.2 ∈ stay Ls listed := by
  induction Ls with
  | nil => cases hx
  | cons y l ih =>
    unfold stay
    rcases List.mem_cons.1 hx with rfl | h
    · simp only [hm]; simp
    · cases (y.1.all fun j => !listed.getD j false) <;> simp only [] <;> simp [ih h]
theorem ng (hL : Among (stay Ls listed) L) (hK : Among Ks K) (h : JG n w0 O0 M P ops Q Ls Ks fuel listed e L K) : NG n w0 O0 M P ops Q Ls Ks fuel listed e L K := fun a σ he hs =>
  have hsf : SF Ls Ks listed σ.w := ⟨σ.O, σ.A, fun _ hx hm => (hs.own _ (hL.mem _ (mem_stay hx hm))).1, fun p hp => hs.kn p (hK.mem p hp)⟩
  ⟨hsf, h a σ he hs hsf⟩
theorem jg_nil (hr : Region.ready .any ops listed = []) (h : JX n w0 O0 M .normal Q e L K) : JG n w0 O0 M P ops Q Ls Ks fuel listed e L K := fun a σ he hs _ => by
  cases fuel with
  | zero => exact ⟨hr, h a σ he hs⟩
  | succ k => exact ⟨fun _ => h a σ he hs, by rw [hr]; simp⟩

end
end Go.Proofs.YtbhbpfdjlabamaaGreat
