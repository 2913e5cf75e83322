/-
  The rules of the walks: what handles stand for (slices, pointers, keys), reads through them, what is frozen.
-/
import Derived.Test.YtbhbpfdjlabamaaGreatOps3
import Derived.Laws.Strings
set_option linter.all false
set_option linter.unusedVariables false
set_option linter.unusedSimpArgs false
namespace Go.Proofs.YtbhbpfdjlabamaaGreat
open Go

/-! ## What handles stand for -/
/-- The slice s reads as the row l. -/
def RowR {α : Type} (C : Ty α) (ok : Nat → Prop) (w : World) (s : Sl) (l : List α) : Prop :=
  s.len = l.length ∧ s.cap ≤ maxLen ∧ ((s.a = none ∧ l = [] ∧ s.cap = 0) ∨ ∃ b off cells T fr, s.a = some ⟨b, off, none⟩ ∧ ok b ∧ w.heap[b]? = some (.cells (List.toArray cells) T fr) ∧ T ≠ keyT ∧ Sub cells off (C.many l) ∧ s.len ≤ s.cap ∧ off + s.cap * C.size ≤ cells.length)
def mRow {α : Type} (C : Ty α) : MR Sl (List α) where
  rel := RowR C
  st := by
    rintro ok ok' w w' s l h ⟨h1, h2, h3⟩
    refine ⟨h1, h2, h3.imp id ?_⟩
    rintro ⟨b, off, cells, T, fr, ha, hO, hh, hT, r⟩
    obtain ⟨hh', hO'⟩ := h.cells hh hO hT
    exact ⟨b, off, cells, T, fr, ha, hO', hh', hT, r⟩
/-- A block that reads as cells xs. -/
def mBl : MR Nat (List Value) where
  rel ok w b xs := ∃ T fr, ok b ∧ w.heap[b]? = some (.cells xs.toArray T fr) ∧ T ≠ keyT
  st := by
    rintro ok ok' w w' b xs h ⟨T, fr, hO, hh, hT⟩
    obtain ⟨hh', hO'⟩ := h.cells hh hO hT
    exact ⟨T, fr, hO', hh', hT⟩
/-- A key with a secret. -/
def mKey1 : MR (Option Addr) Int where
  rel ok w v s := ∃ b ob, v = some ⟨b, 0, none⟩ ∧ ok b ∧ w.heap[b]? = some ob ∧ KeyObj s ob
  st := by
    rintro ok ok' w w' v s h ⟨b, ob, hv, hO, hh, hk⟩
    obtain ⟨⟨o', hh', s'⟩, hO'⟩ := h b ob hh hO
    exact ⟨b, o', hv, hO', hh', s'.key hk⟩
def mKey : MR (Option Addr) (Option Int) where
  rel ok w v p := match p with | none => v = none | some s => mKey1.rel ok w v s
  st := by
    intro ok ok' w w' v p h hr
    cases p with
    | none => exact hr
    | some s => exact mKey1.st v s h hr
def mEq (α : Type) : MR α α := ⟨fun _ _ x y => x = y, fun _ _ _ h => h⟩
/-- Rows of handles, each with what it stands for. -/
def mAl {α β : Type} (m : MR α β) : MR (List α) (List β) where
  rel ok w l k := l.length = k.length ∧ ∀ (i : Nat) (x : α) (y : β), l[i]? = some x → k[i]? = some y → m.rel ok w x y
  st := by
    rintro ok ok' w w' l k h ⟨h1, h2⟩
    exact ⟨h1, fun i x y hx hy => m.st x y h (h2 i x y hx hy)⟩
/-- A slice of handles. -/
def mSl {α β : Type} (C : Ty α) (m : MR α β) : MR Sl (List β) where
  rel ok w s l := ∃ vs, RowR C ok w s vs ∧ (mAl m).rel ok w vs l
  st := by
    rintro ok ok' w w' s l h ⟨vs, h1, h2⟩
    exact ⟨vs, (mRow C).st s vs h h1, (mAl m).st vs l h h2⟩
/-- A pointer to a block of its own. -/
def mPt {α β : Type} (C : Ty α) (m : MR α β) : MR (Option Addr) (Option β) where
  rel ok w v p := match p with | none => v = none | some x => ∃ b u, v = some ⟨b, 0, none⟩ ∧ mBl.rel ok w b (C.enc u) ∧ m.rel ok w u x
  st := by
    intro ok ok' w w' v p h hr
    cases p with
    | none => exact hr
    | some x =>
      obtain ⟨b, u, hv, h1, h2⟩ := hr
      exact ⟨b, u, hv, mBl.st b _ h h1, m.st u x h h2⟩

/-- All blocks that may be written and were handed in are still owned. -/
def InOut (M : List Nat) (L : List Own) : Prop := ∀ m ∈ M, inL L m
theorem inout0 {L} : InOut [] L := fun _ h => by cases h

/-- How much is asked: 'any': it can be read; 'ours no': and it is not ours; 'nobody's'. -/
inductive Lv where | any | w | s
def Lv.ok (q : Lv) (σ : GS) (k : Nat) : Prop := match q with | .any => True | .w => ¬ (σ.A k ∧ σ.O k) | .s => ¬ σ.O k
def Lv.of : Bool → Lv | true => .s | false => .w
theorem Lv.of_ok {q σ} : (Lv.of q).ok σ = okq q σ := by cases q <;> rfl

section
variable {n : Nat} {w0 : World} {O0 : Nat → Prop} {M : List Nat} {P : Program}
variable {Q : Exit → Act → World → Prop} {e : List (Nat × Value)} {L L' : List Own} {K : List SP}
variable {o : Oper} {x y z : Operand} {T t : TypeId} {d : Nat} {next : Act → World → Prop} {α β : Type} {C : Ty α} {m : MR α β}

/-- v stands for p, as far as L and K tell. -/
def Rq (q : Lv) (m : MR α β) (v : α) (p : β) (L : List Own) (K : List SP) : Prop := ∀ σ, HK L K σ → m.rel (q.ok σ) σ.w v p
abbrev Rd (m : MR α β) (v : α) (p : β) (L : List Own) (K : List SP) : Prop := Rq .any m v p L K

theorem Rq.any {q v p} (h : Rq q m v p L K) : Rd m v p L K := fun σ hk => m.mono (fun _ _ => trivial) (h σ hk)
theorem rd_f {q v p} (h : At (fa q m v p) K) : Rd m v p L K := fun σ hk => m.mono (fun _ _ => trivial) (hk.2 _ h.mem)
theorem rq_f {q v p} (h : At (fa q m v p) K) : Rq (.of q) m v p L K := fun σ hk => by rw [Lv.of_ok]; exact hk.2 _ h.mem
theorem rs_f {v p} (h : At (fa true m v p) K) : Rq .s m v p L K := rq_f h
theorem rw_f {v p} (h : At (fa false m v p) K) : Rq .w m v p L K := rq_f h

theorem Rq.sw {v p} (h : Rq .s m v p L K) : Rq .w m v p L K := fun σ hk => m.mono (fun _ hO h => hO h.2) (h σ hk)
theorem rw_s {v p} (h : At (fa true m v p) K) : Rq .w m v p L K := (rs_f h).sw
theorem take_sub {cells : List Value} {m xs} (h : cells.take m = xs) : Sub cells 0 xs := ⟨[], cells.drop m, by rw [← h]; simp, rfl⟩
theorem own_row {s : Sl} {T : TypeId} {esz k : Nat} {l : List α} (hC : C.size = esz) (hl : l.length = k) {w : World} {ok : Nat → Prop} (hx : (Own.sli s T esz k (C.many l)).holds w) (hO : ∀ b, (Own.sli s T esz k (C.many l)).block = some b → ok b) : RowR C ok w s l := by
  obtain ⟨⟨h1, h2⟩, hT⟩ := hx
  rcases h2 with ⟨h4, h5⟩ | ⟨b, cap, cells, ha, _, hh, hle, hm, hsz, htk⟩
  · simp only [Value.slice.injEq] at h4
    refine ⟨by rw [h4.2.1, hl, h5], by rw [h4.2.2]; simp [maxLen], .inl ⟨h4.1, ?_, h4.2.2⟩⟩
    rw [h5] at hl; exact List.eq_nil_of_length_eq_zero hl
  · simp only [Value.slice.injEq] at ha
    refine ⟨by rw [ha.2.1, hl], by rw [ha.2.2]; exact hm, .inr ⟨b, 0, cells.toList, T, (0, 0), ha.1, hO b (by simp [Own.block, ha.1]), by simpa using hh, hT, take_sub htk, by rw [ha.2.1, ha.2.2]; exact hle, by rw [ha.2.2, hC]; simp [hsz]⟩⟩
theorem rd_o {s : Sl} {T : TypeId} {l : List α} (h : At (.sli s T C.size l.length (C.many l)) L) : Rd (mRow C) s l L K := fun σ hk => own_row rfl rfl (hk.1 _ h.mem) fun _ _ => trivial
theorem rd_bl {b T xs} (h : At (.blk b T xs) L) : Rd mBl b xs L K := fun σ hk => let ⟨h1, h2⟩ := hk.1 _ h.mem; ⟨T, (0, 0), trivial, h1, h2⟩
theorem rq_nil {q} : Rq q (mRow C) ⟨none, 0, 0⟩ [] L K := fun σ _ => ⟨rfl, by simp [maxLen], .inl ⟨rfl, rfl, rfl⟩⟩
theorem rq_eq {q} {v : α} : Rq q (mEq α) v v L K := fun _ _ => rfl
theorem rq_al0 {q} : Rq q (mAl m) [] [] L K := fun σ _ => ⟨rfl, fun i x y h => by simp at h⟩
theorem rq_alc {q v p vs ps} (h : Rq q m v p L K) (hs : Rq q (mAl m) vs ps L K) : Rq q (mAl m) (v :: vs) (p :: ps) L K := fun σ hk => by
  obtain ⟨g1, g2⟩ := hs σ hk
  refine ⟨by simp [g1], fun i u v hu hv => ?_⟩
  cases i with
  | zero => simp at hu hv; subst hu hv; exact h σ hk
  | succ i => simp at hu hv; exact g2 i u v hu hv
theorem rq_ala {q} {l l2 : List α} {k k2 : List β} (h : Rq q (mAl m) l k L K) (h2 : Rq q (mAl m) l2 k2 L K) : Rq q (mAl m) (l ++ l2) (k ++ k2) L K := fun σ hk => by
  obtain ⟨g1, g2⟩ := h σ hk
  obtain ⟨g3, g4⟩ := h2 σ hk
  refine ⟨by simp [g1, g3], fun i u v hu hv => ?_⟩
  by_cases hi : i < l.length
  · rw [List.getElem?_append_left hi] at hu; rw [List.getElem?_append_left (by rw [← g1]; exact hi)] at hv
    exact g2 i u v hu hv
  · rw [List.getElem?_append_right (by omega)] at hu; rw [List.getElem?_append_right (by rw [← g1]; omega)] at hv
    rw [← g1] at hv
    exact g4 _ u v hu hv
theorem rq_alat {q} [Inhabited α] [Inhabited β] {l : List α} {k : List β} {i : Int} (h : Rq q (mAl m) l k L K) (hi : 0 ≤ i ∧ i < (k.length : Int)) : Rq q m (lat l i) (lat k i) L K := fun σ hk => by
  obtain ⟨g1, g2⟩ := h σ hk
  have h1 : i.toNat < k.length := by omega
  have h2 : i.toNat < l.length := by rw [g1]; exact h1
  refine g2 i.toNat _ _ (by simp only [lat, List.getD]; rw [List.getElem?_eq_getElem h2]; rfl) (by simp only [lat, List.getD]; rw [List.getElem?_eq_getElem h1]; rfl)
theorem rq_sl {q s vs l} (h : Rq q (mRow C) s vs L K) (h2 : Rq q (mAl m) vs l L K) : Rq q (mSl C m) s l L K := fun σ hk => ⟨vs, h σ hk, h2 σ hk⟩
theorem rq_pt {q b u p} (h : Rq q mBl b (C.enc u) L K) (h2 : Rq q m u p L K) : Rq q (mPt C m) (some ⟨b, 0, none⟩) (some p) L K := fun σ hk => ⟨b, u, rfl, h σ hk, h2 σ hk⟩
theorem rq_pt0 {q} : Rq q (mPt C m) none none L K := fun _ _ => rfl
theorem rq_key {q v s} (h : Rq q mKey1 v s L K) : Rq q mKey v (some s) L K := h
theorem rq_key0 {q} : Rq q mKey none none L K := fun _ _ => rfl

/-! ## Facts out of facts -/
theorem nj_k {N} {p : SP} (hp : ∀ σ, HK L K σ → p.p σ) (h : NJ n w0 O0 M N e L (p :: K)) : NJ n w0 O0 M N e L K := fun a σ he hs =>
  h a σ he { hs with kn := fun q hq => by rcases List.mem_cons.1 hq with rfl | hq; exact hp σ hs.hk; exact hs.kn q hq }
theorem nj_s {N v p} (hp : Rq .s m v p L K) (h : NJ n w0 O0 M N e L (fa true m v p :: K)) : NJ n w0 O0 M N e L K := nj_k (p := fa true m v p) (fun σ hk => hp σ hk) h
theorem nj_w {N v p} (hp : Rq .w m v p L K) (h : NJ n w0 O0 M N e L (fa false m v p :: K)) : NJ n w0 O0 M N e L K := nj_k (p := fa false m v p) (fun σ hk => hp σ hk) h
/-- Facts of which is told that they are there. -/
theorem nj_ex {N} {ι : Type} {ps : ι → List SP} {φ : ι → Prop} (h0 : ∀ σ, HK L K σ → ∃ i, φ i ∧ ∀ q ∈ ps i, q.p σ) (h : ∀ i, φ i → NJ n w0 O0 M N e L (ps i ++ K)) : NJ n w0 O0 M N e L K := fun a σ he hs => by
  obtain ⟨i, hφ, hq⟩ := h0 σ hs.hk
  exact h i hφ a σ he { hs with kn := fun q hq' => (List.mem_append.1 hq').elim (hq q) (hs.kn q) }
theorem nj_xsl {N} {q s l} (hK : At (fa q (mSl C m) s l) K) (h : ∀ vs, NJ n w0 O0 M N e L (fa q (mRow C) s vs :: fa q (mAl m) vs l :: K)) : NJ n w0 O0 M N e L K :=
  nj_ex (ps := fun vs => [fa q (mRow C) s vs, fa q (mAl m) vs l]) (φ := fun _ => True) (fun σ hk => let ⟨vs, h1, h2⟩ := hk.2 _ hK.mem; ⟨vs, trivial, fun p hp => by simp at hp; rcases hp with rfl | rfl; exact h1; exact h2⟩) fun vs _ => h vs
theorem nj_xpt {N} {q v p} (hK : At (fa q (mPt C m) v (some p)) K) (h : ∀ b u, v = some ⟨b, 0, none⟩ → NJ n w0 O0 M N e L (fa q mBl b (C.enc u) :: fa q m u p :: K)) : NJ n w0 O0 M N e L K :=
  nj_ex (ι := Nat × α) (ps := fun i => [fa q mBl i.1 (C.enc i.2), fa q m i.2 p]) (φ := fun i => v = some ⟨i.1, 0, none⟩) (fun σ hk => let ⟨b, u, hv, h1, h2⟩ := hk.2 _ hK.mem; ⟨(b, u), hv, fun p hp => by simp at hp; rcases hp with rfl | rfl; exact h1; exact h2⟩) fun i hv => h i.1 i.2 hv
theorem nj_xpe {N} {q v} {C : Ty α} {p : α} (hK : At (fa q (mPt C (mEq α)) v (some p)) K) (h : ∀ b, v = some ⟨b, 0, none⟩ → NJ n w0 O0 M N e L (fa q mBl b (C.enc p) :: K)) : NJ n w0 O0 M N e L K :=
  nj_ex (ps := fun b => [fa q mBl b (C.enc p)]) (φ := fun b => v = some ⟨b, 0, none⟩) (fun σ hk => let ⟨b, u, hv, h1, h2⟩ := hk.2 _ hK.mem; ⟨b, hv, fun q hp => by simp at hp; cases hp; cases h2; exact h1⟩) fun i hv => h i hv
theorem nj_xp0 {N} {q v} (hK : At (fa q (mPt C m) v none) K) (h : v = none → NJ n w0 O0 M N e L K) : NJ n w0 O0 M N e L K := fun a σ he hs => h (hs.kn _ hK.mem) a σ he hs
theorem nj_xk0 {N} {q v} (hK : At (fa q mKey v none) K) (h : v = none → NJ n w0 O0 M N e L K) : NJ n w0 O0 M N e L K := fun a σ he hs => h (hs.kn _ hK.mem) a σ he hs
theorem nj_xk {N} {q v s} (hK : At (fa q mKey v (some s)) K) (h : ∀ b, v = some ⟨b, 0, none⟩ → NJ n w0 O0 M N e L K) : NJ n w0 O0 M N e L K := fun a σ he hs =>
  let ⟨b, _, hv, _⟩ := hs.kn _ hK.mem; h b hv a σ he hs
theorem nj_xat {N} [Inhabited α] [Inhabited β] {q} {vs : List α} {l : List β} {i : Int} (hK : At (fa q (mAl m) vs l) K) (hi : 0 ≤ i ∧ i < (l.length : Int)) (h : NJ n w0 O0 M N e L (fa q m (lat vs i) (lat l i) :: K)) : NJ n w0 O0 M N e L K :=
  nj_k (fun σ hk => by have := rq_alat (L := L) (rq_f (L := L) hK) hi σ hk; rwa [Lv.of_ok] at this) h

/-! ## What is owned given away -/
/-- A nil slice is anybody's. -/
theorem nj_nil {N} (T : TypeId) (C : Ty α) (hT : Nat.beq T keyT = false) (h : NJ n w0 O0 M N e (.sli ⟨none, 0, 0⟩ T C.size ([] : List α).length (C.many []) :: L) K) : NJ n w0 O0 M N e L K := fun a σ he hs => by
  have hT' : T ≠ keyT := by rintro rfl; simp at hT
  have hb : ∀ k, inL (.sli ⟨none, 0, 0⟩ T C.size ([] : List α).length (C.many []) :: L) k ↔ inL L k := fun k => by
    constructor
    · rintro ⟨x, hx, hb⟩
      rcases List.mem_cons.1 hx with rfl | hx
      · simp [Own.block] at hb
      · exact ⟨x, hx, hb⟩
    · rintro ⟨x, hx, hb⟩; exact ⟨x, List.mem_cons_of_mem _ hx, hb⟩
  exact h a σ he { hs with
    own := fun x hx => by
      rcases List.mem_cons.1 hx with rfl | hx
      · exact ⟨⟨World.ownsRow_nil _ _ _ _, hT'⟩, fun b hb => by simp [Own.block] at hb⟩
      · exact hs.own x hx
    ours := fun k => (hs.ours k).trans (hb k).symm
    apart := List.pairwise_cons.2 ⟨fun x _ b hb => by simp [Own.block] at hb, hs.apart⟩ }

theorem freeze_st {σ : GS} {x : Own} {p : SP} (hd : DelAt x L L') (hM : InOut M L') (hp : x.holds σ.w → ∀ O A, (∀ b, x.block = some b → ¬ O b ∧ ¬ A b) → p.p ⟨σ.w, O, A⟩) (hs : St w0 O0 M L K σ) : St w0 O0 M L' (p :: K) ⟨σ.w, fun k => σ.O k ∧ x.block ≠ some k, inL L'⟩ := by
  obtain ⟨hx, hxo⟩ := hs.own x hd.mem
  have hoth := hd.others Own.apart_symm hs.apart
  have hadv : Adv σ ⟨σ.w, fun k => σ.O k ∧ x.block ≠ some k, inL L'⟩ := ⟨.same fun k hA ⟨⟨y, hy, hb⟩, hO⟩ => hA ⟨(hs.ours k).2 ⟨y, hd.sub y hy, hb⟩, hO.1⟩, .same fun k hO h => hO h.1⟩
  refine ⟨hs.keep, hs.o0, fun k hk => ⟨hs.opre k hk, fun hb => ?_⟩, fun k hk => hs.olt k hk.1, fun y hy => ⟨(hs.own y (hd.sub y hy)).1, fun b hb => ⟨⟨((hs.own y (hd.sub y hy)).2 b hb).1, fun hxb => hoth y hy b hxb hb⟩, ((hs.own y (hd.sub y hy)).2 b hb).2⟩⟩, fun _ => .rfl, hs.apart.sublist hd.sublist, fun q hq => ?_⟩
  · rcases (hxo k hb).2 with h | h
    · have := hs.o0 k hk; omega
    · obtain ⟨y, hy, hyb⟩ := hM k h
      exact hoth y hy k hb hyb
  · rcases List.mem_cons.1 hq with rfl | hq
    · exact hp hx _ _ fun b hb => ⟨fun h => h.2 hb, fun ⟨y, hy, hyb⟩ => hoth y hy b hb hyb⟩
    · exact SP.adv hadv (hs.kn q hq)

/-- A slice of one's own is written no more. -/
theorem nj_frz {N} {s : Sl} {T : TypeId} {l : List α} (hM : InOut M L') (hd : DelAt (.sli s T C.size l.length (C.many l)) L L') (h : NJ n w0 O0 M N e L' (fa true (mRow C) s l :: K)) : NJ n w0 O0 M N e L K := fun a σ he hs =>
  h a ⟨σ.w, _, inL L'⟩ he (freeze_st hd hM (fun hx O A hb => own_row rfl rfl hx fun b h => (hb b h).1) hs)
theorem nj_frzb {N} {b : Nat} {T : TypeId} {xs : List Value} (hM : InOut M L') (hd : DelAt (.blk b T xs) L L') (h : NJ n w0 O0 M N e L' (fa true mBl b xs :: K)) : NJ n w0 O0 M N e L K := fun a σ he hs =>
  h a ⟨σ.w, _, inL L'⟩ he (freeze_st hd hM (fun hx O A hb => ⟨T, (0, 0), (hb b rfl).1, hx.1, hx.2⟩) hs)

/-! ## Reads -/
def isSl (P : Program) (t : TypeId) : Prop := (P.underlying t).map (fun d => match d with | .slice _ => true | _ => false) = some true
theorem isSl.get {t} (h : isSl P t) : ∃ T, P.underlying t = some (.slice T) := by
  unfold isSl at h
  cases hd : P.underlying t with
  | none => simp [hd] at h
  | some td =>
    simp only [hd, Option.map_some, Option.some.injEq] at h
    cases td <;> simp at h
    exact ⟨_, rfl⟩
theorem yv_len {s : Sl} {l : List α} {u} (hu : isSl P t) (ho : o.op = .call { callee := .builtin .len, args := #[x], argTypes := #[t] }) (hx : evo e x = some (sv s)) (hR : Rd (mRow C) s l L K) (hl : (l.length : Int) = u) : Yv n P o e L K (.int .i64 u) := fun a σ he hk => by
  have h1 := (hR σ hk).1
  obtain ⟨T, hd⟩ := hu.get
  simp [execOp, ho, resolve, invoke, builtin, Builtin.len_, he.eval hx, run_underlying hd, goInt, ← hl, h1]
theorem yv_lenx {s : Sl} {l : List β} {u} (hu : isSl P t) (ho : o.op = .call { callee := .builtin .len, args := #[x], argTypes := #[t] }) (hx : evo e x = some (sv s)) (hR : Rd (mSl C m) s l L K) (hl : (l.length : Int) = u) : Yv n P o e L K (.int .i64 u) := fun a σ he hk => by
  obtain ⟨vs, h1, h2, _⟩ := hR σ hk
  have h1 := h1.1
  rw [h2] at h1
  obtain ⟨T, hd⟩ := hu.get
  simp [execOp, ho, resolve, invoke, builtin, Builtin.len_, he.eval hx, run_underlying hd, goInt, ← hl, h1]
theorem yv_lens {s : ByteArray} {u} (hu : P.underlying t = some .string) (ho : o.op = .call { callee := .builtin .len, args := #[x], argTypes := #[t] }) (hx : evo e x = some (.string s)) (hl : (s.size : Int) = u) : Yv n P o e L K (.int .i64 u) := fun a σ he _ => by
  simp [execOp, ho, resolve, invoke, builtin, Builtin.len_, he.eval hx, run_underlying hu, goInt, hl]
theorem yv_lena {m : Nat} {T : TypeId} {v} (hu : P.underlying t = some (.array m T)) (ho : o.op = .call { callee := .builtin .len, args := #[x], argTypes := #[t] }) (hx : evo e x = some v) : Yv n P o e L K (.int .i64 (m : Int)) := fun a σ he _ => by
  simp [execOp, ho, resolve, invoke, builtin, Builtin.len_, he.eval hx, run_underlying hu, goInt]

/-- Where a slice that is not empty begins. -/
theorem nj_open {N} {s : Sl} {l : List α} {i : Int} (hR : Rd (mRow C) s l L K) (hi : 0 ≤ i ∧ i < (l.length : Int)) (h : ∀ b off, s.a = some ⟨b, off, none⟩ → NJ n w0 O0 M N e L K) : NJ n w0 O0 M N e L K := fun a σ he hs => by
  rcases (hR σ hs.hk).2.2 with ⟨_, h2, _⟩ | ⟨b, off, _, _, _, ha, _⟩
  · subst h2; simp at hi; omega
  · exact h b off ha a σ he hs
theorem nj_openo {N} {s : Sl} {T : TypeId} {l : List α} {i : Int} (hL : At (.sli s T C.size l.length (C.many l)) L) (hi : 0 ≤ i ∧ i < (l.length : Int)) (h : ∀ b, s.a = some ⟨b, 0, none⟩ → NJ n w0 O0 M N e L K) : NJ n w0 O0 M N e L K := fun a σ he hs => by
  obtain ⟨⟨_, h2⟩, _⟩ := (hs.own _ hL.mem).1
  rcases h2 with ⟨h4, h5⟩ | ⟨b, cap, cells, ha, _⟩
  · rw [h5] at hi; simp at hi; omega
  · simp only [Value.slice.injEq] at ha; exact h b ha.1 a σ he hs

/-- Elements of a slice. -/
def IS (P : Program) (t : TypeId) (sz : Nat) : Prop := ∃ el, P.underlying t = some (.slice el) ∧ (P.info? el).map (·.size) = some sz
theorem IS.run {t sz} (h : IS P t sz) (w : World) (b o len cap : Nat) {k : IntKind} {i : Int} (hi : 0 ≤ i ∧ i < (len : Int)) : (Instr.indexAt t (.slice (some ⟨b, o, none⟩) len cap) (.int k i)).run P w = .ok (pt b (o + i.toNat * sz)) w := by
  obtain ⟨el, hu, hs⟩ := h
  cases he : P.info? el with
  | none => simp [he] at hs
  | some inf =>
    simp [he] at hs
    simp [Instr.indexAt, run_underlying hu, asIntOf, hi, sizeOf, typeInfo, he, hs, add_pt]
theorem yv_is {sz b off : Nat} {s : Sl} {l : List α} {k : IntKind} {i : Int} (hI : IS P t sz) (ho : o.op = .indexAddr t x y) (hx : evo e x = some (sv s)) (hy : evo e y = some (.int k i)) (ha : s.a = some ⟨b, off, none⟩) (hR : Rd (mRow C) s l L K) (hi : 0 ≤ i ∧ i < (l.length : Int)) : Yv n P o e L K (pt b (off + i.toNat * sz)) := fun a σ he hk => by
  have h1 := (hR σ hk).1
  obtain ⟨sa, sl, sc⟩ := s
  simp only at ha h1; subst ha
  simp only [execOp, ho, he.eval hx, he.eval hy, Sem.run_bind, hI.run σ.w b off sl sc (k := k) (by rw [h1]; exact hi), Result.andThen_ok, Sem.run_pure]

/-- A read through a slice's element, or a part of it. -/
theorem yv_lds {sz b off p o2 : Nat} {g : Bool} {s : Sl} {l : List α} {ys zs} (hT : TyI P t g sz zs) (ho : o.op = .load t x) (hx : evo e x = some (pt b p)) (ha : s.a = some ⟨b, off, none⟩) (hR : Rd (mRow C) s l L K) (hs : Sub (C.many l) o2 ys) (hp : p = off + o2) (hl : ys.length = sz) (h1 : g = false → sz = 1) : Yv n P o e L K (valOf g ys) := fun a σ he hk => by
  obtain ⟨_, _, h3⟩ := hR σ hk
  rcases h3 with ⟨hn, _⟩ | ⟨b', off', cells, T, fr, ha', _, hh, _, hsub, _⟩
  · rw [hn] at ha; cases ha
  · rw [ha] at ha'; simp only [Option.some.injEq, Addr.mk.injEq, and_true] at ha'
    obtain ⟨rfl, rfl⟩ := ha'
    have := run_load (P := P) (t := t) (by simpa using hh) (hsub.trans hs) hT hl h1
    subst hp
    simp only [execOp, ho, he.eval hx, Sem.run_bind, this, Result.andThen_ok, Sem.run_pure]
/-- A read of a block. -/
theorem yv_ldb {b p sz : Nat} {g : Bool} {xs ys zs} (hT : TyI P t g sz zs) (ho : o.op = .load t x) (hx : evo e x = some (pt b p)) (hR : Rd mBl b xs L K) (hs : Sub xs p ys) (hl : ys.length = sz) (h1 : g = false → sz = 1) : Yv n P o e L K (valOf g ys) := fun a σ he hk => by
  obtain ⟨T, fr, _, hh, _⟩ := hR σ hk
  have := run_load (P := P) (t := t) hh hs hT hl h1
  simp only [execOp, ho, he.eval hx, Sem.run_bind, this, Result.andThen_ok, Sem.run_pure]

/-! ## nil? -/
def isPt (P : Program) (t : TypeId) : Prop := (P.underlying t).map (fun d => match d with | .pointer _ => true | _ => false) = some true
theorem isPt.get {t} (h : isPt P t) : ∃ T, P.underlying t = some (.pointer T) := by
  unfold isPt at h
  cases hd : P.underlying t with
  | none => simp [hd] at h
  | some td =>
    simp only [hd, Option.map_some, Option.some.injEq] at h
    cases td <;> simp at h
    exact ⟨_, rfl⟩
theorem run_eq_pt {w : World} {T : TypeId} (hT : isPt P T) (v : Option Addr) : (Op.equal T (.pointer v) (.pointer none)).run P w = .ok v.isNone w ∧ (Op.equal T (.pointer none) (.pointer v)).run P w = .ok v.isNone w := by
  obtain ⟨T2, hu⟩ := hT.get
  obtain ⟨d, hd⟩ : ∃ d, Op.maxDepth = d + 1 := ⟨Op.maxDepth - 1, rfl⟩
  simp only [Op.equal, hd, Op.equalIn, Sem.run_bind, run_underlying hu, Result.andThen_ok]
  cases v <;> simp
theorem run_eq_sl {w : World} {T : TypeId} (hT : isSl P T) (s : Sl) {l k : Nat} : (Op.equal T (sv s) (.slice none l k)).run P w = .ok s.a.isNone w ∧ (Op.equal T (.slice none l k) (sv s)).run P w = .ok s.a.isNone w := by
  obtain ⟨T2, hu⟩ := hT.get
  obtain ⟨a, sl, sc⟩ := s
  obtain ⟨d, hd⟩ : ∃ d, Op.maxDepth = d + 1 := ⟨Op.maxDepth - 1, rfl⟩
  simp only [Op.equal, hd, Op.equalIn, Sem.run_bind, run_underlying hu, Result.andThen_ok]
  cases a <;> simp
theorem yv_pn {v : Option Addr} {u : Bool} {T' : TypeId} (hT : isPt P T) (ho : o.op = .binOp .eql T x y T') (hx : evo e x = some (.pointer v)) (hy : evo e y = some (.pointer none)) (hv : v.isNone = u) : Yv n P o e L K (.bool u) := fun a σ he _ => by
  subst hv
  simp [execOp, ho, he.eval hx, he.eval hy, eqGuard, binOp, run_eq_pt hT]
theorem yv_pnn {v : Option Addr} {u : Bool} {T' : TypeId} (hT : isPt P T) (ho : o.op = .binOp .neq T x y T') (hx : evo e x = some (.pointer v)) (hy : evo e y = some (.pointer none)) (hv : v.isNone = u) : Yv n P o e L K (.bool (!u)) := fun a σ he _ => by
  subst hv
  simp [execOp, ho, he.eval hx, he.eval hy, eqGuard, binOp, run_eq_pt hT]
theorem yv_sn {s : Sl} {u : Bool} {k l : Nat} {T' : TypeId} (hT : isSl P T) (ho : o.op = .binOp .eql T x y T') (hx : evo e x = some (sv s)) (hy : evo e y = some (.slice none k l)) (hv : s.a.isNone = u) : Yv n P o e L K (.bool u) := fun a σ he _ => by
  subst hv
  simp [execOp, ho, he.eval hx, he.eval hy, eqGuard, binOp, run_eq_sl hT]
theorem yv_snn {s : Sl} {u : Bool} {k l : Nat} {T' : TypeId} (hT : isSl P T) (ho : o.op = .binOp .neq T x y T') (hx : evo e x = some (sv s)) (hy : evo e y = some (.slice none k l)) (hv : s.a.isNone = u) : Yv n P o e L K (.bool (!u)) := fun a σ he _ => by
  subst hv
  simp [execOp, ho, he.eval hx, he.eval hy, eqGuard, binOp, run_eq_sl hT]
theorem none_of_pt {q σ v} {p : Option β} (h : (fa q (mPt C m) v p).p σ) : v.isNone = p.isNone := by
  cases p with
  | none => have : v = none := h; rw [this]; rfl
  | some x => obtain ⟨b, u, hv, _⟩ := h; rw [hv]; rfl
theorem nj_pn {N} {q v} {p : Option β} (hK : At (fa q (mPt C m) v p) K) (h : v.isNone = p.isNone → NJ n w0 O0 M N e L K) : NJ n w0 O0 M N e L K := fun a σ he hs => h (none_of_pt (hs.kn _ hK.mem)) a σ he hs
theorem nj_kn {N} {q v} {p : Option Int} (hK : At (fa q mKey v p) K) (h : v.isNone = p.isNone → NJ n w0 O0 M N e L K) : NJ n w0 O0 M N e L K := fun a σ he hs => h (by
  have := hs.kn _ hK.mem
  cases p with
  | none => have : v = none := this; rw [this]; rfl
  | some x => obtain ⟨b, u, hv, _⟩ := this; rw [hv]; rfl) a σ he hs
end
end Go.Proofs.YtbhbpfdjlabamaaGreat
