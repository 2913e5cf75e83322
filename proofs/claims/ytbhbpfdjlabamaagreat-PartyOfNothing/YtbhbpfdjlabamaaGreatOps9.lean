/-
  The rules of the walks, in the shape in which they are printed.
-/
import Derived.Test.YtbhbpfdjlabamaaGreatOps8
set_option linter.all false
set_option linter.unusedVariables false
set_option linter.unusedSimpArgs false
namespace Go.Proofs.YtbhbpfdjlabamaaGreat
open Go

theorem letX {α ρ : Type} {v : α} {f : α → Option ρ} {r : Option ρ} (h : Let v f = r) : ∃ x, v = x ∧ f x = r := ⟨v, rfl, h⟩
theorem brE {ρ : Type} {c : Bool} {A B : Option ρ} {r} (h : Br c A B = r) : (c = false ∧ B = r) ∨ (c = true ∧ A = r) := by
  cases c
  · exact .inl ⟨rfl, h⟩
  · exact .inr ⟨rfl, h⟩
theorem moE {α ρ : Type} {m : Option α} {A : Option ρ} {f : α → Option ρ} {r} (h : Mo m A f = r) : (m = none ∧ A = r) ∨ ∃ x, m = some x ∧ f x = r := by
  cases m with
  | none => exact .inl ⟨rfl, h⟩
  | some x => exact .inr ⟨x, rfl, h⟩
theorem inout1 {b T xs L} (h : At (.blk b T xs) L) : InOut [b] L := fun m hm => by simp at hm; subst hm; exact ⟨_, h.mem, rfl⟩
theorem aln {p : SP → Prop} : ∀ q ∈ ([] : List SP), p q := fun q h => by simp at h
theorem alc {p : SP → Prop} {x : SP} {l : List SP} (h : p x) (hl : ∀ q ∈ l, p q) : ∀ q ∈ x :: l, p q := fun q hq => by rcases List.mem_cons.1 hq with rfl | hq; exact h; exact hl q hq
theorem many_subx {α} [Inhabited α] {l : List α} {i : Int} {x : α} (h : x = lat l i) (C : Ty α) (hi : 0 ≤ i ∧ i < (l.length : Int)) : Sub (C.many l) (i.toNat * C.size) (C.enc x) := h ▸ many_sub' C l i hi

section
variable {n : Nat} {w0 : World} {O0 : Nat → Prop} {M : List Nat} {P : Program}
variable {Q : Exit → Act → World → Prop} {e : List (Nat × Value)} {L L' : List Own} {K : List SP}
variable {o : Oper} {x y z : Operand} {T t : TypeId} {d : Nat} {next : Act → World → Prop} {α β : Type} {C : Ty α} {m : MR α β}

theorem yxi {k : IntKind} {u v : Int} (h : u = v) (hy : Yv n P o e L K (.int k u)) : Yv n P o e L K (.int k v) := h ▸ hy
theorem yxb {u v : Bool} (h : u = v) (hy : Yv n P o e L K (.bool u)) : Yv n P o e L K (.bool v) := h ▸ hy
theorem yxs {u v : ByteArray} (h : u = v) (hy : Yv n P o e L K (.string u)) : Yv n P o e L K (.string v) := h ▸ hy
theorem yxg {u v : α} (h : u = v) (hy : Yv n P o e L K (ag (C.enc u))) : Yv n P o e L K (ag (C.enc v)) := h ▸ hy
theorem yv_nilp {v : Option Addr} {p : Addr} (ho : o.op = .nilCheck x) (hx : evo e x = some (.pointer v)) (hv : v = some p) : Yv n P o e L K (.pointer (some p)) := yv_nil ho (by rw [hx, hv])
theorem yv_sla1 {len sz b off : Nat} (hI : IA P t len sz) (ho : o.op = .slice t x none none none) (hx : evo e x = some (pt b off)) : Yv n P o e L K (sv ⟨some ⟨b, off, none⟩, len, len⟩) := by
  have := yv_sla (n := n) (L := L) (K := K) hI (lo := none) (hi := none) (i := 0) (j := len) ho hx (.inl ⟨rfl, rfl⟩) (.inl ⟨rfl, rfl⟩) ⟨Int.le_refl _, by omega, by omega⟩
  have h2 : slcut ⟨some ⟨b, off, none⟩, len, len⟩ 0 (len : Int) sz = ⟨some ⟨b, off, none⟩, len, len⟩ := by
    simp only [slcut, Int.toNat_zero, Nat.zero_mul, Option.map_some, Nat.sub_zero, Int.toNat_natCast]
    rw [add_pt]; simp
  rwa [h2] at this

theorem nj_xpeX {N} {q v} {C : Ty α} {p : Option α} {u : α} (hK : At (fa q (mPt C (mEq α)) v p) K) (hp : p = some u) (h : ∀ b, v = some ⟨b, 0, none⟩ → NJ n w0 O0 M N e L (fa q mBl b (C.enc u) :: K)) : NJ n w0 O0 M N e L K := by
  subst hp; exact nj_xpe hK h
theorem nj_xptX {N} {q v} {p : Option β} {u : β} (hK : At (fa q (mPt C m) v p) K) (hp : p = some u) (h : ∀ b c, v = some ⟨b, 0, none⟩ → NJ n w0 O0 M N e L (fa q mBl b (C.enc c) :: fa q m c u :: K)) : NJ n w0 O0 M N e L K := by
  subst hp; exact nj_xpt hK h
theorem nj_pn0 {N} {q v} {p : Option β} (hK : At (fa q (mPt C m) v p) K) (hp : p = none) (h : v.isNone = true → NJ n w0 O0 M N e L K) : NJ n w0 O0 M N e L K := nj_pn hK fun hv => h (by rw [hv, hp]; rfl)
theorem nj_pn1 {N} {q v} {p : Option β} {u} (hK : At (fa q (mPt C m) v p) K) (hp : p = some u) (h : v.isNone = false → NJ n w0 O0 M N e L K) : NJ n w0 O0 M N e L K := nj_pn hK fun hv => h (by rw [hv, hp]; rfl)
theorem nj_kn0 {N} {q v} {p : Option Int} (hK : At (fa q mKey v p) K) (hp : p = none) (h : v.isNone = true → NJ n w0 O0 M N e L K) : NJ n w0 O0 M N e L K := nj_kn hK fun hv => h (by rw [hv, hp]; rfl)
theorem nj_kn1 {N} {q v} {p : Option Int} {u} (hK : At (fa q mKey v p) K) (hp : p = some u) (h : v.isNone = false → NJ n w0 O0 M N e L K) : NJ n w0 O0 M N e L K := nj_kn hK fun hv => h (by rw [hv, hp]; rfl)
theorem nj_all {N} {q} {vs : List α} {l : List β} (hR : Rq q (mAl m) vs l L K) (h : vs.length = l.length → NJ n w0 O0 M N e L K) : NJ n w0 O0 M N e L K := fun a σ he hs => h (hR σ hs.hk).1 a σ he hs
theorem nj_elt {N} [Inhabited α] [Inhabited β] {vs : List α} {l : List β} {i : Int} {u : β} (hR : Rq .s (mAl m) vs l L K) (hi : 0 ≤ i ∧ i < (l.length : Int)) (hu : lat l i = u) (h : ∀ x, x = lat vs i → NJ n w0 O0 M N e L (fa true m x u :: K)) : NJ n w0 O0 M N e L K := by
  subst hu; exact nj_s (rq_alat hR hi) (h _ rfl)
theorem nj_eltw {N} [Inhabited α] [Inhabited β] {vs : List α} {l : List β} {i : Int} {u : β} (hR : Rq .w (mAl m) vs l L K) (hi : 0 ≤ i ∧ i < (l.length : Int)) (hu : lat l i = u) (h : ∀ x, x = lat vs i → NJ n w0 O0 M N e L (fa false m x u :: K)) : NJ n w0 O0 M N e L K := by
  subst hu; exact nj_w (rq_alat hR hi) (h _ rfl)

variable {s : Nat} {zs : List Value} {D : Ty β} {u u' : β} {v : Value}
theorem so_staX {b off xs ys} (hh : u = u') (hT : TyI P t true s zs) (ho : o.op = .store t x y) (hd : o.dst = none) (hx : evo e x = some (pt b off)) (hy : evo e y = some (ag ys)) (hu : Upd xs off ys (D.enc u)) (hl : ys.length = s) (h1 : ∀ c ∈ ys, c.oneCell' = true)
    (hL : SetAt (.blk b T xs) (.blk b T (D.enc u')) L L') (h : NJ n w0 O0 M next e L' K) : SJ n w0 O0 M P o next Q e L K := by
  subst hh; exact so_sta hT ho hd hx hy hu hl h1 hL h
theorem so_st1X {b off xs} (hh : u = u') (hT : TyI P t false 1 zs) (ho : o.op = .store t x y) (hd : o.dst = none) (hx : evo e x = some (pt b off)) (hy : evo e y = some v) (h1 : v.oneCell' = true) (hu : Upd xs off [v] (D.enc u))
    (hL : SetAt (.blk b T xs) (.blk b T (D.enc u')) L L') (h : NJ n w0 O0 M next e L' K) : SJ n w0 O0 M P o next Q e L K := by
  subst hh; exact so_st1 hT ho hd hx hy h1 hu hL h
theorem so_sto1L {s : Sl} {b : Nat} {l l' : List α} {i : Int} {w : α} (hh : lup l i w = l') (hT : TyI P t false 1 zs) (ho : o.op = .store t x y) (hd : o.dst = none) (hx : evo e x = some (pt b (0 + i.toNat * C.size))) (hy : evo e y = some v) (h1 : v.oneCell' = true) (hv : C.enc w = [v]) (ha : s.a = some ⟨b, 0, none⟩) (hi : 0 ≤ i ∧ i < (l.length : Int))
    (hL : SetAt (.sli s T C.size l.length (C.many l)) (.sli s T C.size l'.length (C.many l')) L L') (h : NJ n w0 O0 M next e L' K) : SJ n w0 O0 M P o next Q e L K := by
  subst hh
  have hlen : (lup l i w).length = l.length := by simp [lup]
  rw [hlen] at hL
  have hu := many_upd' C l i w hi
  rw [hv] at hu
  rw [Nat.zero_add] at hx
  exact so_sto1 hT ho hd hx hy h1 ha hu hL h
theorem so_makeX {bytes : Nat} {k k' : IntKind} {i : Int} {z0 : α} {l : List α} (hh : List.replicate i.toNat z0 = l) (hS : SI P t T C.size bytes) (hz : ((P.info? T).bind (·.zero)).map (·.cells) = some (C.enc z0).toArray) (ho : o.op = .makeSlice t x y) (hx : evo e x = some (.int k i)) (hy : evo e y = some (.int k' i)) (hd : dstO n o = some (some d)) (hi : 0 ≤ i ∧ i ≤ (LIM : Int))
    (h : ∀ s, NJ n w0 O0 M next ((d, sv s) :: e) (.sli s T C.size l.length (C.many l) :: L) K) : SJ n w0 O0 M P o next Q e L K := by
  subst hh; exact so_make hS hz ho hx hy hd hi h
theorem so_appX {bytes : Nat} {s s2 : Sl} {m : Nat} {l l2 l' : List α} (hh : l ++ l2 = l') (hS : SI P t T C.size bytes) (ho : o.op = .call { callee := .builtin .append, args := #[x, y], argTypes := #[t, t] }) (hx : evo e x = some (sv s)) (hy : evo e y = some (sv s2)) (hd : dstO n o = some (some d))
    (hD : DelAt (.sli s T C.size m (C.many l)) L L') (hK : Rd (mRow C) s2 l2 L K) (hm : l.length = m) (hlim : l'.length ≤ LIM) (h : ∀ s', NJ n w0 O0 M next ((d, sv s') :: e) (.sli s' T C.size l'.length (C.many l') :: L') K) : SJ n w0 O0 M P o next Q e L K := by
  subst hh; exact so_app hS ho hx hy hd hD hK hm hlim h
theorem so_appVX {q : Bool} {bytes : Nat} {s s2 : Sl} {vs vs2 : List α} {l l2 l' : List β} (hh : l ++ l2 = l') (hS : SI P t T C.size bytes) (ho : o.op = .call { callee := .builtin .append, args := #[x, y], argTypes := #[t, t] }) (hx : evo e x = some (sv s)) (hy : evo e y = some (sv s2)) (hd : dstO n o = some (some d))
    (hD : DelAt (.sli s T C.size vs.length (C.many vs)) L L') (hR : Rd (mRow C) s2 vs2 L K) (hA : Rq (.of q) (mAl m) vs l L K) (hA2 : Rq (.of q) (mAl m) vs2 l2 L K) (hlim : l'.length ≤ LIM) (h : ∀ s' vs', NJ n w0 O0 M next ((d, sv s') :: e) (.sli s' T C.size vs'.length (C.many vs') :: L') (fa q (mAl m) vs' l' :: K)) : SJ n w0 O0 M P o next Q e L K := by
  subst hh; exact so_appV hS ho hx hy hd hD hR hA hA2 hlim h
theorem so_copyX {b off p c : Nat} {T2 Ta : TypeId} {k2 : Int} {xs : List Value} {s : Sl} {m : Nat} {v : Vector α m} {l : List α} (hk2 : ((min l.length m : Nat) : Int) = k2) (hh : u = u') (hu : P.underlying t = some (.slice T)) (hsz : (P.info? T).map (·.size) = some 1) (hC : C.size = 1) (ho : o.op = .call { callee := .builtin .copy, args := #[x, y], argTypes := #[t, T2] }) (hx : evo e x = some (.slice (some ⟨b, p, none⟩) m c)) (hy : evo e y = some (sv s)) (hd : dstO n o = some (some d))
    (hR : Rd (mRow C) s l L K) (hS : Sub xs off ((Ty.arr m C).enc v)) (hp : p = off) (hU : Upd xs off ((Ty.arr m C).enc (vcopy v l)) (D.enc u)) (hL : SetAt (.blk b Ta xs) (.blk b Ta (D.enc u')) L L') (h : NJ n w0 O0 M next ((d, .int .i64 k2) :: e) L' K) : SJ n w0 O0 M P o next Q e L K := by
  subst hh hk2; exact so_copyb hu hsz hC ho hx hy hd hR hS hp hU hL rfl h

/-- More is kept in view from here on. -/
theorem wpAnyG_mono {md : Region.Mode} {ops : Array Oper} {S S' : Array Bool → World → Prop} (hS : ∀ l w, S' l w → S l w) : ∀ (fuel : Nat) (listed : Array Bool) (a : Act) (w : World), wpAnyG P md ops Q S' fuel listed a w → wpAnyG P md ops Q S fuel listed a w
  | 0, _, _, _, h => h
  | fuel + 1, _, _, _, h => ⟨h.1, fun i hi => wpOp_mono (fun a' w' h' => ⟨hS _ _ h'.1, wpAnyG_mono hS fuel _ a' w' h'.2⟩) (h.2 i hi)⟩
theorem jg_reb {ops : Array Oper} {Ls Ls' : List (List Nat × Own)} {Ks Ks' : List SP} {fuel listed} (hL : Among (stay Ls' listed) L) (hK : Among Ks' K) (h1 : Among Ls Ls') (h2 : Among Ks Ks') (h : JG n w0 O0 M P ops Q Ls' Ks' fuel listed e L K) : JG n w0 O0 M P ops Q Ls Ks fuel listed e L K := fun a σ he hs _ =>
  wpAnyG_mono (fun _ _ ⟨O, A, g1, g2⟩ => ⟨O, A, fun x hx => g1 x (h1.mem x hx), fun p hp => g2 p (h2.mem p hp)⟩) _ _ _ _
    (h a σ he hs ⟨σ.O, σ.A, fun _ hx hm => (hs.own _ (hL.mem _ (mem_stay hx hm))).1, fun p hp => hs.kn p (hK.mem p hp)⟩)

/-- A region's goal under a name. -/
theorem jg_nm {ops : Array Oper} {Ls : List (List Nat × Own)} {Ks : List SP} {fuel listed} (h : ∀ J : Nat → Array Bool → List (Nat × Value) → List Own → List SP → Prop, (∀ fuel listed e L K, JG n w0 O0 M P ops Q Ls Ks fuel listed e L K → J fuel listed e L K) →
    (∀ fuel listed e L K, J fuel listed e L K → JG n w0 O0 M P ops Q Ls Ks fuel listed e L K) → J fuel listed e L K) : JG n w0 O0 M P ops Q Ls Ks fuel listed e L K := h _ (fun _ _ _ _ _ h => h) (fun _ _ _ _ _ h => h)
theorem jg_ls {ops : Array Oper} {Ls : List (List Nat × Own)} {Ks : List SP} {fuel listed listed'} (hl : listed = listed') (h : JG n w0 O0 M P ops Q Ls Ks fuel listed' e L K) : JG n w0 O0 M P ops Q Ls Ks fuel listed e L K := hl ▸ h

/-! ## What is handed to a callee -/
theorem cw0 {v : α} {p : β} (h : Rd m v p L K) {σ : GS} (hs : St w0 O0 M L K σ) : (fa false m v p).p ⟨σ.w, σ.O, inL []⟩ := m.mono (fun k _ ⟨⟨_, h, _⟩, _⟩ => by simp at h) (h σ hs.hk)
theorem cs0 {v : α} {p : β} {A} (h : Rq .s m v p L K) {σ : GS} (hs : St w0 O0 M L K σ) : (fa true m v p).p ⟨σ.w, σ.O, A⟩ := h σ hs.hk
theorem cwb {v : α} {p : β} {b T xs} (h : Rq .w m v p L K) {σ : GS} (hs : St w0 O0 M L K σ) (hL : At (.blk b T xs) L) : (fa false m v p).p ⟨σ.w, σ.O, inL [.blk b T xs]⟩ :=
  m.mono (fun k hk ⟨⟨y, hy, hb⟩, hO⟩ => by simp at hy; subst hy; exact hk ⟨hs.mine hL.mem hb, hO⟩) (h σ hs.hk)
theorem cm0 {σ : GS} (hs : St w0 O0 M L K σ) {b T xs} (hL : At (.blk b T xs) L) : (Own.blk b T xs).holds σ.w ∧ σ.O b := ⟨(hs.own _ hL.mem).1, ((hs.own _ hL.mem).2 b rfl).1⟩
theorem io_hL {b T xs} {w : World} {O : Nat → Prop} (h : (Own.blk b T xs).holds w ∧ O b) : ∀ x ∈ [Own.blk b T xs], x.holds w ∧ ∀ c, x.block = some c → O c ∧ c ∈ [b] := fun x hx => by
  simp at hx; subst hx; exact ⟨h.1, fun c hc => by simp [Own.block] at hc; subst hc; exact ⟨h.2, by simp⟩⟩
theorem io1 {b T xs} : ∀ c ∈ [b], ∃ x ∈ [Own.blk b T xs], x.block = some c := fun c hc => by simp at hc; subst hc; exact ⟨Own.blk c T xs, by simp, rfl⟩

def RXM {X : Type} (V : X → Value) (LN : X → List Own) (LI : X → Own) (KN : X → List SP) (v : Value) (Ln Li : List Own) (Kn : List SP) : Prop := ∃ x, v = V x ∧ Ln = LN x ∧ Li = [LI x] ∧ Kn = KN x
theorem so_callmx {f : FuncId} {cal : Operand} {argTys : Array TypeId} {X : Type} {V : X → Value} {LN : X → List Own} {LI : X → Own} {KN : X → List SP} {L1 L2 : X → List Own} {K2 : X → List SP} {l vs cs b y0} (hf : PlainF P f) (ho : o.op = .call { callee := .value cal, args := l.toArray, argTypes := argTys }) (hcal : evo e cal = some (.func (.func f) #[] (List.toArray cs))) (hv : evs e l = some vs) (hd : dstO n o = some (some d)) (hb : Own.block y0 = some b)
    (hc : ∀ σ, St w0 O0 M L K σ → CallsP P f (vs ++ cs).toArray σ.w σ.O [b] (RXM V LN LI KN)) (hS : ∀ u, SetAt y0 (LI u) L (L1 u)) (hI : ∀ u, (LI u).block = some b) (hL : ∀ u, AppTo (LN u) (L1 u) (L2 u)) (hK : ∀ u, AppTo (KN u) K (K2 u)) (h : ∀ u, NJ n w0 O0 M next ((d, V u) :: e) (L2 u) (K2 u)) : SJ n w0 O0 M P o next Q e L K :=
  so_callm hf ho hcal hv hd hb hc fun v Ln Li Kn ⟨u, h1, h2, h3, h4⟩ => by
    subst h1 h2 h3 h4; have := h u; rw [(hL u).eq, (hK u).eq] at this; exact ⟨LI u, L1 u, rfl, hI u, hS u, this⟩
end
end Go.Proofs.YtbhbpfdjlabamaaGreat
