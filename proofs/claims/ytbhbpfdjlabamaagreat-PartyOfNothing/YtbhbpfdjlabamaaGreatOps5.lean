/-
  The rules of the walks: append, literals of slices, cuts of slices.
-/
import Derived.Test.YtbhbpfdjlabamaaGreatOps4
set_option linter.all false
set_option linter.unusedVariables false
set_option linter.unusedSimpArgs false
namespace Go.Proofs.YtbhbpfdjlabamaaGreat
open Go

/-- A kind of slices: its elements' kind. -/
structure SI (P : Program) (t T : TypeId) (sz by' : Nat) : Prop where
  und : P.underlying t = some (.slice T)
  size : (P.info? T).map (·.size) = some sz
  bytes : (P.info? T).map (·.bytes) = some by'
  zero : ((P.info? T).bind (·.zero)).map (·.cells.size) = some sz
  pos : 0 < sz
  small : by' ≤ 4096
  key : T ≠ keyT

/-- No slice grows beyond. -/
def LIM : Nat := 4294967296

theorem SI.get {P : Program} {t T s b} (h : SI P t T s b) : ∃ i z, P.info? T = some i ∧ i.zero = some z ∧ i.size = s ∧ i.bytes = b ∧ z.cells.size = s := by
  cases hi : P.info? T with
  | none => exact absurd h.size (by simp [hi])
  | some i =>
    cases hz : i.zero with
    | none => exact absurd h.zero (by simp [hi, hz])
    | some z =>
      have h1 := h.size; have h2 := h.bytes; have h3 := h.zero
      simp [hi] at h1 h2; simp [hi, hz] at h3
      exact ⟨i, z, rfl, hz, h1, h2, h3⟩

section
variable {P : Program}

theorem run_app {w : World} {t T size bytes : Nat} (hS : SI P t T size bytes) (ty : TypeId) {s : Sl} {n : Nat} {xs : List Value} (hown : w.ownsRow 0 T size (sv s) n xs)
    {a : Addr} {m c : Nat} {news : List Value} (hl : news.length = m * size) (hnews : ∀ j u, news[j]? = some u → w.cell? (a.add j) = some u) (h1 : ∀ u ∈ news, u.oneCell' = true) (hlim : n + m ≤ LIM) :
    ∃ s' w', (Builtin.append_ #[t, t] ty #[sv s, .slice (some a) m c]).run P w = .ok (sv s') w' ∧ w'.ownsRow 0 T size (sv s') (n + m) (xs ++ news) ∧ w.grownBy w' (s.a.map (·.block)) ∧
      (s'.a = s.a ∨ s'.a = some ⟨w.heap.size, 0, none⟩) ∧ (∀ b, s'.a = some b → b.block < w'.heap.size) := by
  obtain ⟨i, z, hi, hz, hsize, hby, hzs⟩ := hS.get
  have ht := hS.und
  subst hsize
  have hsmall : n + m ≤ 9223372036854775807 := by simp only [LIM] at hlim; omega
  have hml : n + m ≤ maxLen := by simp only [LIM] at hlim; simp only [maxLen]; omega
  have hbytes : (n + m) * i.bytes ≤ 140737488355328 := by
    have := Nat.mul_le_mul hlim (by rw [hby]; exact hS.small : i.bytes ≤ 4096)
    simp only [LIM] at this; omega
  have hlen : (xs ++ news).length = (n + m) * i.size := by rw [List.length_append, hown.1, hl, Nat.add_mul]
  have grown : ∀ (old : Nat), old < n + m → ∀ (row : Option Nat),
      (w.drew.alloc (.cells (xs.toArray ++ news.toArray ++ Builtin.zeroCells z.cells (grownCap w (n + m) old T - (n + m))) T)).ownsRow 0 T i.size
        (.slice (some ⟨w.heap.size, 0, none⟩) (n + m) (grownCap w (n + m) old T)) (n + m) (xs ++ news) ∧
      w.grownBy (w.drew.alloc (.cells (xs.toArray ++ news.toArray ++ Builtin.zeroCells z.cells (grownCap w (n + m) old T - (n + m))) T)) row := by
    intro old ho row
    have hge := grownCap_ge w (n + m) old T
    have hcm : grownCap w (n + m) old T ≤ maxLen := grownCap_le_maxLen w (n + m) old T hml
    refine ⟨⟨hlen, .inr ⟨w.heap.size, _, _, rfl, Nat.zero_le _, heap_alloc_new w.drew _, hge, hcm, ?_, ?_⟩⟩, ⟨rfl, rfl, rfl, by simp, fun k hk _ => heap_alloc_old w.drew _ k hk⟩⟩
    · simp only [Array.size_append, List.size_toArray, size_zeroCells, hzs, hown.1, hl, ← Nat.add_mul]
      congr 1
      omega
    · simp only [Array.toList_append, List.append_assoc]
      rw [← List.append_assoc, ← hlen]
      exact List.take_left
  rcases hown.2 with ⟨hv, rfl⟩ | ⟨g, cap, cur, hv, hbg, hg, hnc, hcm, hcs, htake⟩
  · have hx : xs = [] := List.eq_nil_of_length_eq_zero (by simpa using hown.1)
    subst hx
    have hsa : s.a = none := by simp only [Value.slice.injEq] at hv; exact hv.1
    by_cases hm : m = 0
    · subst hm
      have hn : news = [] := List.eq_nil_of_length_eq_zero (by simpa using hl)
      subst hn
      refine ⟨s, w, ?_, by rw [hv]; exact World.ownsRow_nil w 0 T i.size, ⟨rfl, rfl, rfl, Nat.le_refl _, fun _ _ _ => rfl⟩, .inl rfl, fun b hb => by rw [hsa] at hb; cases hb⟩
      rw [hv]
      simp [Builtin.append_, run_underlying ht, sizeOf, typeInfo, hi, Builtin.lenOf, Builtin.firstCells, loadCells, loadCellsFrom]
    · have hr := run_append_nil (P := P) w t ty T i z ht hi hz a m c news hl hnews (by omega) (by omega) (by have hb := hbytes; simp only [Nat.zero_add] at hb; omega)
      have hgr := grown 0 (by omega) (s.a.map (·.block))
      rw [← hv] at hr
      simp only [Nat.zero_add, List.nil_append, Array.empty_append] at hgr ⊢
      exact ⟨⟨some ⟨w.heap.size, 0, none⟩, m, grownCap w m 0 T⟩, _, hr, hgr.1, hgr.2, .inr rfl, fun b hb => by simp only [Option.some.injEq] at hb; subst hb; simp⟩
  · have hsa : s.a = some ⟨g, 0, none⟩ := by simp only [Value.slice.injEq] at hv; exact hv.1
    by_cases hroom : n + m ≤ cap
    · have hfit : n * i.size + news.length ≤ cur.size := by rw [hl, hcs, ← Nat.add_mul]; exact Nat.mul_le_mul_right _ hroom
      have hr := run_append_room (P := P) w t ty T i ht hi g n cap cur hg a m c news hl hnews h1 hroom hfit
      rw [← hv] at hr
      refine ⟨⟨some ⟨g, 0, none⟩, n + m, cap⟩, _, hr, ⟨hlen, .inr ⟨g, cap, _, rfl, hbg, setRow_heap w g cur _ T _ hg, hroom, hcm, ?_, ?_⟩⟩, ⟨rfl, rfl, rfl, by simp, fun k _ hk => setRow_other w g k _ (fun e => hk (by simp [hsa, e]))⟩, .inl hsa.symm, fun b hb => by simp only [Option.some.injEq] at hb; subst hb; simp; exact lt_of_heap hg⟩
      · simp only [List.size_toArray, List.length_append, List.length_take, List.length_drop, Array.length_toList]
        omega
      · rw [htake, ← hlen]
        exact List.take_left
    · have hown' := hown
      rw [hv] at hown'
      have holds : ∀ j u, xs[j]? = some u → w.cell? ((⟨g, 0, none⟩ : Addr).add j) = some u := hown'.cells (g := g) rfl
      have hr := run_append_grow (P := P) w t ty T i z ht hi hz ⟨g, 0, none⟩ n cap xs hown.1 holds a m c news hl hnews (by omega) (by omega) (growslice_fits (by omega) hbytes)
      rw [← hv] at hr
      have hgr := grown cap (by omega) (s.a.map (·.block))
      exact ⟨⟨some ⟨w.heap.size, 0, none⟩, n + m, grownCap w (n + m) cap T⟩, _, hr, hgr.1, hgr.2, .inr rfl, fun b hb => by simp only [Option.some.injEq] at hb; subst hb; simp⟩

theorem run_app_none {w : World} {t T size bytes : Nat} (hS : SI P t T size bytes) (ty : TypeId) {s : Sl} {n : Nat} {xs : List Value} (hown : w.ownsRow 0 T size (sv s) n xs) :
    (Builtin.append_ #[t, t] ty #[sv s, .slice none 0 0]).run P w = .ok (sv s) w := by
  obtain ⟨i, z, hi, hz, hsize, hby, hzs⟩ := hS.get
  exact run_append_owned_none (P := P) (w := w) 0 t ty T i size hS.und hi (sv s) n xs hown
end

section
variable {n : Nat} {w0 : World} {O0 : Nat → Prop} {M : List Nat} {P : Program}
variable {Q : Exit → Act → World → Prop} {e : List (Nat × Value)} {L L' : List Own} {K : List SP}
variable {o : Oper} {x y z : Operand} {T t : TypeId} {d : Nat} {next : Act → World → Prop} {α : Type} {C : Ty α}

theorem keep_grown {O : Nat → Prop} {w w' : World} {row : Option Nat} (h : w.grownBy w' row) : Keep O row.toList w w' :=
  ⟨h.os, h.tape, h.output, h.size, fun k ob hk hr => ⟨ob, by rw [h.block k (lt_of_heap hk) (fun e => hr (by rw [← e]; simp))]; exact hk, .refl _, fun _ => rfl⟩⟩

/-- Behind a growth of an owned slice. -/
theorem St.grow {σ : GS} {s s' : Sl} {w' : World} {esz m m' : Nat} {xs xs' : List Value} (hs : St w0 O0 M L K σ) (hD : DelAt (.sli s T esz m xs) L L') (hg : σ.w.grownBy w' (s.a.map (·.block)))
    (hown : w'.ownsRow 0 T esz (sv s') m' xs') (hT : T ≠ keyT) (hblk : s'.a = s.a ∨ s'.a = some ⟨σ.w.heap.size, 0, none⟩) (hlt : ∀ b, s'.a = some b → b.block < w'.heap.size) :
    St w0 O0 M (.sli s' T esz m' xs' :: L') K ⟨w', fun k => σ.O k ∨ (s'.a.map (·.block)) = some k, inL (.sli s' T esz m' xs' :: L')⟩ := by
  obtain ⟨hx, hxo⟩ := hs.own _ hD.mem
  have hoth := hD.others Own.apart_symm hs.apart
  have hold : ∀ k, s.a.map (·.block) = some k → σ.O k ∧ σ.A k := fun k hk => ⟨(hxo k hk).1, hs.mine hD.mem hk⟩
  refine hs.step (keep_grown hg) (fun b hb => ?_) (fun _ h => .inl h) (fun k h => ?_) (fun k h => ?_) (fun y hy => ?_) (List.pairwise_cons.2 ⟨fun y hy b hb hyb => ?_, hs.apart.sublist hD.sublist⟩)
  · exact (hold b (by simpa [Option.mem_toList] using hb)).2
  · rcases h with h | h
    · exact .inl h
    · rcases hblk with hb | hb
      · rw [hb] at h; exact .inl (hold k h).1
      · rw [hb] at h; simp at h; exact .inr (by omega)
  · rcases h with h | h
    · exact Nat.lt_of_lt_of_le (hs.olt k h) hg.size
    · cases ha : s'.a with
      | none => simp [ha] at h
      | some a => simp [ha] at h; subst h; exact hlt a ha
  · rcases List.mem_cons.1 hy with rfl | hy
    · refine ⟨⟨hown, hT⟩, fun b hb => ⟨.inr hb, ?_⟩⟩
      simp only [Own.block] at hb
      rcases hblk with h | h
      · rw [h] at hb; exact .inl (hold b hb).2
      · rw [h] at hb; simp at hb; subst hb; exact .inr (Nat.le_refl _)
    · obtain ⟨g1, g2⟩ := hs.own y (hD.sub y hy)
      refine ⟨Own.keep g1 (keep_grown (O := fun _ => False) hg) (fun b hb hm => ?_), fun b hb => ⟨.inl (g2 b hb).1, .inl (hs.mine (hD.sub y hy) hb)⟩⟩
      exact hoth y hy b (by simpa [Option.mem_toList, Own.block] using hm) hb
  · simp only [Own.block] at hb
    obtain ⟨g1, g2⟩ := hs.own y (hD.sub y hy)
    rcases hblk with h | h
    · rw [h] at hb; exact hoth y hy b hb hyb
    · rw [h] at hb; simp at hb; subst hb
      have := hs.olt _ (g2 _ hyb).1
      omega

theorem so_app {bytes : Nat} {s s2 : Sl} {m : Nat} {l l2 : List α} (hS : SI P t T C.size bytes) (ho : o.op = .call { callee := .builtin .append, args := #[x, y], argTypes := #[t, t] }) (hx : evo e x = some (sv s)) (hy : evo e y = some (sv s2)) (hd : dstO n o = some (some d))
    (hD : DelAt (.sli s T C.size m (C.many l)) L L') (hK : Rd (mRow C) s2 l2 L K) (hm : l.length = m) (hlim : (l ++ l2).length ≤ LIM) (h : ∀ s', NJ n w0 O0 M next ((d, sv s') :: e) (.sli s' T C.size (l ++ l2).length (C.many (l ++ l2)) :: L') K) : SJ n w0 O0 M P o next Q e L K := fun a σ he hs => by
  obtain ⟨⟨hown, hT⟩, hxo⟩ := hs.own _ hD.mem
  obtain ⟨hlen, hcap, h3⟩ := hK σ hs.hk
  subst hm
  have hop : ∀ v w', (Builtin.append_ #[t, t] o.type #[sv s, sv s2]).run P σ.w = .ok v w' → (execOp a.eval o).run P σ.w = .ok (.value v) w' := fun v w' hr => by
    simp only [execOp, ho, resolve, invoke, builtin, Sem.run_bind, Sem.run_pure, Result.andThen_ok, List.map_toArray, List.map_cons, List.map_nil, he.eval hx, he.eval hy, hr]
  rcases h3 with ⟨hn, hl0, hc0⟩ | ⟨b, off, cells, T', fr, ha, _, hh, _, hsub, _⟩
  · subst hl0
    have hsv : sv s2 = .slice none 0 0 := by simp only [sv, hn, hc0, hlen, List.length_nil]
    have hr := run_app_none hS o.type hown
    rw [← hsv] at hr
    refine wp_of_value (hop _ _ hr) (h s _ ⟨σ.w, fun k => σ.O k ∨ s.a.map (·.block) = some k, inL (.sli s T C.size l.length (C.many l) :: L')⟩ (dstO_put hd he) ?_)
    have := hs.grow (s' := s) (w' := σ.w) (m' := l.length) (xs' := C.many l) hD ⟨rfl, rfl, rfl, Nat.le_refl _, fun _ _ _ => rfl⟩ hown hT (.inl rfl) (fun b hb => hs.olt _ (hxo _ (by simp [Own.block, hb])).1)
    simpa using this
  · have hsv : sv s2 = .slice (some ⟨b, off, none⟩) l2.length s2.cap := by simp only [sv, ha, hlen]
    obtain ⟨s', w', hr, hown', hg, hblk, hlt⟩ := run_app hS o.type hown (a := ⟨b, off, none⟩) (m := l2.length) (c := s2.cap) (news := C.many l2) (C.many_len l2) (cells_get (by simpa using hh) hsub) (C.many_one l2) (by simpa using hlim)
    rw [← hsv] at hr
    refine wp_of_value (hop _ _ hr) (h s' _ ⟨w', fun k => σ.O k ∨ s'.a.map (·.block) = some k, inL (.sli s' T C.size (l.length + l2.length) (C.many l ++ C.many l2) :: L')⟩ (dstO_put hd he) ?_)
    have := hs.grow hD hg hown' hT hblk hlt
    rw [C.many_append, List.length_append]
    exact this

/-! ## Literals of slices -/
/-- What is written over a row, part by part. -/
def Fills (place : Nat → Option (Nat × Nat)) : List (Nat × Value) → List Value → List Value → Prop
  | [], xs, xs' => xs' = xs
  | (i, v) :: ps, xs, xs' => ∃ off ys zs, place i = some (off, ys.length) ∧ v.cells = ys.toArray ∧ Upd xs off ys zs ∧ Fills place ps zs xs'

theorem fills_nil {place : Nat → Option (Nat × Nat)} {xs : List Value} : Fills place [] xs xs := rfl
theorem fills_cons {place : Nat → Option (Nat × Nat)} {i off sz : Nat} {v : Value} {ps : List (Nat × Value)} {xs ys zs xs' : List Value} (hp : place i = some (off, sz)) (hu : Upd xs off ys zs) (hv : v.cells = ys.toArray) (hl : ys.length = sz) (h : Fills place ps zs xs') : Fills place ((i, v) :: ps) xs xs' := ⟨off, ys, zs, by rw [hp, hl], hv, hu, h⟩

theorem foldl_set (ys : List Value) (off : Nat) : ∀ (j : Nat) (cs : List Value), off + j + ys.length ≤ cs.length →
    ((ys.zipIdx j).foldl (fun cs (c : Value × Nat) => cs.setIfInBounds (off + c.2) c.1) cs.toArray) = (cs.take (off + j) ++ ys ++ cs.drop (off + j + ys.length)).toArray := by
  induction ys with
  | nil => intro j cs _; simp
  | cons y ys ih =>
    intro j cs hle
    simp only [List.zipIdx_cons, List.foldl_cons, List.length_cons] at hle ⊢
    have hs : cs.toArray.setIfInBounds (off + j) y = (cs.set (off + j) y).toArray := by simp
    rw [hs, ih (j + 1) (cs.set (off + j) y) (by simp; omega)]
    congr 1
    have := list_seg_step cs (off + j) y ys (by omega)
    rw [show off + (j + 1) = off + j + 1 from rfl, this]

theorem fill_of {place : Nat → Option (Nat × Nat)} : ∀ {ps : List (Nat × Value)} {xs xs' : List Value}, Fills place ps xs xs' → Instr.fill place xs.toArray ps = some xs'.toArray
  | [], xs, xs', h => by simp [Fills] at h; subst h; rfl
  | (i, v) :: ps, xs, xs', h => by
    obtain ⟨off, ys, zs, hp, hv, hu, hf⟩ := h
    obtain ⟨he, hle⟩ := hu.eq
    have ih := fill_of hf
    simp only [Instr.fill, hp, hv, List.size_toArray]
    rw [if_neg (by simp; omega)]
    have := foldl_set ys off 0 xs (by simpa using hle)
    simp only [Nat.add_zero] at this
    rw [← ih, he]
    congr 1
    rw [← this]
    simp

/-- Values for operands. -/
def evp (e : List (Nat × Value)) : List (Nat × Operand) → Option (List (Nat × Value))
  | [] => some []
  | (i, x) :: l => match evo e x, evp e l with | some v, some vs => some ((i, v) :: vs) | _, _ => none
theorem evp_eval {a : Act} {l vs} (he : EOk n e a) (h : evp e l = some vs) : l.map (fun p => (p.1, a.eval p.2)) = vs := by
  induction l generalizing vs with
  | nil => simp [evp] at h; subst h; rfl
  | cons p l ih =>
    obtain ⟨i, x⟩ := p
    unfold evp at h
    cases hx : evo e x with
    | none => simp [hx] at h
    | some v =>
      cases hl : evp e l with
      | none => simp [hx, hl] at h
      | some us => simp [hx, hl] at h; subst h; simp [he.eval hx, ih hl]

/-- A slice of single elements, in a block of its own. -/
theorem so_bsl {bytes m : Nat} {ps : List (Nat × Operand)} {vs : List (Nat × Value)} {zs : List Value} {l : List α} (hS : SI P t T C.size bytes) (hz : ((P.info? T).bind (·.zero)).map (·.cells) = some zs.toArray) (hzl : zs.length = C.size) (ho : o.op = .buildSlice t m ps.toArray) (hv : evp e ps = some vs) (hd : dstO n o = some (some d))
    (hm : l.length = m) (hsm : m ≤ 16) (hcs : C.size ≤ 1000) (hf : Fills (fun i => some (i * C.size, C.size)) vs ((List.replicate m zs).flatten) (C.many l)) (h : ∀ s, NJ n w0 O0 M next ((d, sv s) :: e) (.sli s T C.size m (C.many l) :: L) K) : SJ n w0 O0 M P o next Q e L K := fun a σ he hs => by
  obtain ⟨i, z, hi, hzz, hsize, hby, hzs⟩ := hS.get
  have hzc : z.cells = zs.toArray := by simp [hi, hzz] at hz; exact hz
  have hev := evp_eval he hv
  have hrow : 0 < m → ((Array.range (m * C.size)).map fun j => z.cells[j % z.cells.size]!) = ((List.replicate m zs).flatten).toArray := by
    intro hm0
    apply Array.ext
    · simp [hzl]
    · intro j h1 h2
      have hj : j < m * C.size := by simpa using h1
      simp only [Array.getElem_map, Array.getElem_range, hzc, List.size_toArray, hzl]
      have hmod : j % C.size < zs.length := by rw [hzl]; exact Nat.mod_lt _ hS.pos
      have key : ∀ (m j : Nat) (hj : j < m * C.size), ((List.replicate m zs).flatten)[j]? = zs[j % C.size]? := by
        intro m
        induction m with
        | zero => intro j hj; simp at hj
        | succ m ih =>
          intro j hj
          rw [List.replicate_succ, List.flatten_cons]
          by_cases hlt : j < C.size
          · rw [List.getElem?_append_left (by omega), Nat.mod_eq_of_lt hlt]
          · rw [List.getElem?_append_right (by omega), hzl, ih (j - C.size) (by rw [Nat.succ_mul] at hj; omega)]
            congr 1
            rw [← Nat.mod_eq_sub_mod (by omega)]
      have h3 := key m j hj
      have h4 : j < ((List.replicate m zs).flatten).length := by simpa using h2
      rw [List.getElem?_eq_getElem h4, List.getElem?_eq_getElem hmod] at h3
      have h5 : zs.toArray[j % C.size]! = zs[j % C.size] := by simp [hmod]
      rw [h5]
      exact (Option.some.inj h3).symm
  have hr : (Instr.buildSlice t m vs.toArray).run P σ.w = .ok (.slice (some ⟨σ.w.heap.size, 0, none⟩) m m) (σ.w.alloc (.cells (C.many l).toArray T)) := by
    have hsz : ¬ (m * C.size > 2 ^ 24) := by
      have := Nat.mul_le_mul hsm hcs; omega
    have hfill := fill_of hf
    have hs1 : (sizeOf T).run P σ.w = .ok C.size σ.w := by simp [sizeOf, typeInfo, hi, hsize]
    have hz1 : (zeroValue T).run P σ.w = .ok z σ.w := by simp [zeroValue, typeInfo, hi, hzz]
    rcases Nat.eq_zero_or_pos m with h0 | hp
    · subst h0
      have e1 : ((Array.range (0 * C.size)).map fun j => (#[] : Array Value)[j % 0]!) = ((List.replicate 0 zs).flatten).toArray := by simp
      simp only [Instr.buildSlice, Sem.run_bind, run_underlying hS.und, Result.andThen_ok, hs1]
      rw [if_neg hsz]
      simp only [Sem.run_bind, Sem.run_pure, Result.andThen_ok, Nat.zero_mul, if_true]
      simp only [Nat.zero_mul] at e1
      have e2 : Instr.fill (fun i => some (i * C.size, C.size)) ((Array.range 0).map fun j => (#[] : Array Value)[j % (#[] : Array Value).size]!) vs.toArray.toList = some (C.many l).toArray := by
        have e0 : Array.range 0 = #[] := by apply Array.ext <;> simp
        rw [← hfill, e0]; simp
      simp only [e2]
      simp [newRow]
    · have h0 : m * C.size ≠ 0 := by have := Nat.mul_pos hp hS.pos; omega
      simp only [Instr.buildSlice, Sem.run_bind, run_underlying hS.und, Result.andThen_ok, hs1]
      rw [if_neg hsz]
      simp only [Sem.run_bind, Sem.run_pure, Result.andThen_ok, h0, if_false, hz1]
      have e2 : Instr.fill (fun i => some (i * C.size, C.size)) ((Array.range (m * C.size)).map fun j => z.cells[j % z.cells.size]!) vs.toArray.toList = some (C.many l).toArray := by
        rw [hrow hp]; exact hfill
      simp only [e2]
      simp [newRow]
  have hmap : (ps.toArray.map fun (p : Nat × Operand) => (p.1, a.eval p.2)) = vs.toArray := by rw [← hev]; simp
  refine wp_of_value (v := sv ⟨some ⟨σ.w.heap.size, 0, none⟩, m, m⟩) (w' := σ.w.alloc (.cells (C.many l).toArray T)) ?_ (h ⟨some ⟨σ.w.heap.size, 0, none⟩, m, m⟩ _ ⟨_, fun k => σ.O k ∨ k = σ.w.heap.size, inL (.blk σ.w.heap.size T (C.many l) :: L)⟩ (dstO_put hd he) ?_)
  · simp only [execOp, ho, Sem.run_bind]
    rw [show (ps.toArray.map fun x => match x with | (i, x) => (i, a.eval x)) = vs.toArray from hmap, hr]
    rfl
  · have h1 := hs.alloc (C.many l) T hS.key
    have hlen := C.many_len l
    have hbl : ∀ k, inL (.blk σ.w.heap.size T (C.many l) :: L) k ↔ inL (.sli ⟨some ⟨σ.w.heap.size, 0, none⟩, m, m⟩ T C.size m (C.many l) :: L) k := fun k => by
      simp only [inL, List.mem_cons, exists_eq_or_imp, Own.block, Option.map_some]
    refine { h1 with own := fun x hx => ?_, apart := ?_, ours := fun k => (h1.ours k).trans (hbl k) }
    · rcases List.mem_cons.1 hx with rfl | hx
      · refine ⟨⟨?_, hS.key⟩, fun b hb => by simp only [Own.block, Option.map_some, Option.some.injEq] at hb; subst hb; exact ⟨.inr rfl, .inl hs.keep.size⟩⟩
        have := World.ownsRow_lit (base := 0) (e := T) (size := C.size) σ.w (C.many l).toArray m (Nat.zero_le _) (by simp [maxLen]; omega) (by simp [hlen, hm])
        simpa using this
      · exact h1.own x (by simp [hx])
    · have := List.pairwise_cons.1 h1.apart
      exact List.pairwise_cons.2 ⟨fun y hy b hb => this.1 y hy b (by simpa [Own.block] using hb), this.2⟩
end
end Go.Proofs.YtbhbpfdjlabamaaGreat
