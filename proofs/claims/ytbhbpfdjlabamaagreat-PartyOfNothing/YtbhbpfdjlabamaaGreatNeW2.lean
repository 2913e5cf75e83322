/-
  The walks of what curia law 5 reaches, part 2: each function of the program computes what its twin of the text Pure says.
-/
import Derived.Test.YtbhbpfdjlabamaaGreatNeW1
set_option linter.all false
set_option linter.unusedVariables false
set_option linter.unusedSimpArgs false
namespace Go.Proofs.YtbhbpfdjlabamaaGreat
open Go Go.Proofs
set_option maxRecDepth 4000
set_option maxHeartbeats 1000000

theorem F250_c {p0 : STree} {r : (Vector Int 32)} (h : F250 p0 = some r) (w0 : World) (O0 : Nat → Prop) (hO : ∀ k, O0 k → k < w0.heap.size) :
  CallsP Tryz.prog 250 (List.toArray [ag (tySTree.enc p0)]) w0 O0 [] (RV (ag ((Ty.arr 32 (tyI .u8)).enc r))) := by
 unfold F250 at h
 refine calls_start (e := [(0, ag (tySTree.enc p0))]) (L := []) (K := []) Tryz.func250 rfl rfl rfl ⟨rfl, trivial⟩ hO (by simp) .nil aln ?_
 refine jc_seq ?_
 refine jc_reg ?_
 refine sq rfl (so_boxa (by decide) rfl rfl rfl fun b1 => ?_)
 refine sq rfl (so_alloc ti25 (by decide) rfl rfl fun b2 => ?_)
 refine jl_nil ?_
 refine jx_then ?_
 refine jc_seq ?_
 refine jc_reg ?_
 refine sqv rfl (yv_assign rfl rfl) ?_
 refine jl_nil ?_
 refine jx_then ?_
 refine jc_seq ?_
 refine jc_seq ?_
 refine jc_reg ?_
 refine sqv rfl (yv_fa fa61_0 rfl rfl) ?_
 obtain ⟨x3, hx3, h⟩ := letX h
 refine sqv rfl (yxg (C := (Ty.arr 8 tySLeaf)) hx3 (yv_ldb ti58 rfl rfl (rd_bl at1) ((Sub.refl _).trans (STree.s0 p0)) (Ty.len _ _) (by simp))) ?_
 refine sqv rfl (yv_move rfl rfl) ?_
 refine jl_nil ?_
 refine jx_then ?_
 refine jc_block ?_
 refine nj_nil 97 tySl rfl ?_
 refine nj_s (m := mAl (mRow (tyI .u8))) (v := ([] : List Sl)) (p := []) rq_al0 ?_
 refine jc_loop ?_
 intro B0 Q0 hB0 hQ0
 have key0 : ∀ (k0 : Nat) (j179 : (List (List Int))) (j181 : Int) (z178 : Sl) (w180 : (List Sl)), F250_l0 x3 p0 k0 j179 j181 = some r → JW 37 w0 O0 [] Tryz.prog B0 Q0 [(1, pt b1 0), (2, pt b2 0), (3, sv z178), (9, ag ((Ty.arr 8 tySLeaf).enc x3)), (10, .int .i64 j181)] [.blk b2 25 ((Ty.arr 32 (tyI .u8)).enc (Vector.replicate 32 (0 : Int))), .blk b1 61 (tySTree.enc p0), .sli z178 97 tySl.size (w180).length (tySl.many w180)] [fa true (mAl (mRow (tyI .u8))) w180 j179] := by
  intro k0
  induction k0 with
  | zero => intro j179 j181 z178 w180 h; cases h
  | succ k0 ih0 =>
   intro j179 j181 z178 w180 h
   unfold F250_l0 at h
   refine jw_round hB0 ?_
   refine jc_seq ?_
   refine jc_reg ?_
   obtain ⟨x182, hx182, h⟩ := letX h
   refine sqv rfl (yxb hx182 (yv_lss rfl rfl rfl)) ?_
   refine jl_nil ?_
   refine jx_then ?_
   refine jc_seq ?_
   rcases x182 with _ | _
   ·
    replace h := brF h
    refine jc_f rfl ?_
    refine jc_exit ?_
    refine jx_te ?_
    refine jx_te ?_
    refine jx_abs hQ0 ?_
    refine jx_hit ?_
    refine jx_then ?_
    refine jc_seq ?_
    refine jc_seq ?_
    refine jc_reg ?_
    refine sqv rfl (yv_fa fa61_1 rfl rfl) ?_
    obtain ⟨x215, hx215, h⟩ := letX h
    refine sqv rfl (yxg (C := (Ty.arr 15 (tyI .i64))) hx215 (yv_ldb ti59 rfl rfl (rd_bl at1) ((Sub.refl _).trans (STree.s1 p0)) (Ty.len _ _) (by simp))) ?_
    refine sqv rfl (yv_move rfl rfl) ?_
    refine jl_nil ?_
    refine jx_then ?_
    refine jc_block ?_
    refine jc_loop ?_
    intro B1 Q1 hB1 hQ1
    have key1 : ∀ (k1 : Nat) (j341 : (List (List Int))) (j343 : Int) (z340 : Sl) (w342 : (List Sl)), F250_l1 x215 k1 j341 j343 = some r → JW 37 w0 O0 [] Tryz.prog B1 Q1 [(2, pt b2 0), (3, sv z340), (24, ag ((Ty.arr 15 (tyI .i64)).enc x215)), (25, .int .i64 j343)] [.blk b2 25 ((Ty.arr 32 (tyI .u8)).enc (Vector.replicate 32 (0 : Int))), .sli z340 97 tySl.size (w342).length (tySl.many w342)] [fa true (mAl (mRow (tyI .u8))) w342 j341] := by
     intro k1
     induction k1 with
     | zero => intro j341 j343 z340 w342 h; cases h
     | succ k1 ih1 =>
      intro j341 j343 z340 w342 h
      unfold F250_l1 at h
      refine jw_round hB1 ?_
      refine jc_seq ?_
      refine jc_reg ?_
      obtain ⟨x344, hx344, h⟩ := letX h
      refine sqv rfl (yxb hx344 (yv_lss rfl rfl rfl)) ?_
      refine jl_nil ?_
      refine jx_then ?_
      refine jc_seq ?_
      rcases x344 with _ | _
      ·
       replace h := brF h
       refine jc_f rfl ?_
       refine jc_exit ?_
       refine jx_te ?_
       refine jx_te ?_
       refine jx_abs hQ1 ?_
       refine jx_hit ?_
       refine jx_then ?_
       refine jc_seq ?_
       refine jc_reg ?_
       refine sqv rfl (yv_build bi25 rfl rfl fills_nil) ?_
       refine sqv rfl (yv_move rfl rfl) ?_
       obtain ⟨y367, hy367, h⟩ := bdE h
       refine sq rfl (so_callv pf83 rfl rfl rfl rfl (fun σ hs => F83_c hy367 σ.w σ.O hs.olt z340 (cw0 (rq_sl (rd_o at1) (rd_f at0)) hs)) ?_)
       refine sq rfl (so_sta ti25 rfl rfl rfl rfl (Upd.refl (by simp [Ty.len])) (Ty.len _ _) (Ty.one _ _) (xs' := (Ty.arr 32 (tyI .u8)).enc y367) se0 ?_)
       refine jl_nil ?_
       refine jx_then ?_
       refine jc_ret ?_
       cases h
       exact jx_ret rfl (rr_cella ti25 rfl at0 (Ty.len _ _) rr_nil) ⟨rfl, rfl, rfl, rfl⟩ .nil .nil rfl (by simp)
      ·
       replace h := brT h
       refine jc_t rfl ?_
       refine jc_skip ?_
       refine jx_then ?_
       refine jc_seq ?_
       refine jc_block ?_
       refine jc_seq ?_
       refine jc_reg ?_
       obtain ⟨g357, h⟩ := gdE h
       obtain ⟨x358, hx358, h⟩ := letX h
       refine sqv rfl (yxi hx358 (yv_index (g := false) (ys := (tyI .i64).enc (vat x215 j343)) Tryz.underlying59 ti3 rfl rfl rfl g357 (arr_sub (tyI .i64) _ _ g357) (Ty.len _ _) (fun _ => rfl))) ?_
       refine sqv rfl (yv_assign rfl rfl) ?_
       refine jl_nil ?_
       refine jx_then ?_
       refine jc_reg ?_
       refine sqv rfl (yv_move rfl rfl) ?_
       refine sqv rfl (yv_move rfl rfl) ?_
       obtain ⟨y359, hy359, h⟩ := bdE h
       refine sq rfl (so_callx pf169 rfl rfl rfl rfl (fun σ hs => F169_c hy359 σ.w σ.O hs.olt) (fun _ => (.cons .nil)) (fun _ => .nil) (fun r360 => ?_))
       refine sq rfl (so_bslL (C := tySl) (l := ([r360] : List Sl)) si34 sz34 rfl rfl rfl rfl (by decide) (by decide) (fills_cons rfl (many_upd' tySl _ (0 : Int) r360 (by simp [lup])) rfl (Ty.len tySl r360) fills_nil) fun s361 => ?_)
       refine nj_frz inout0 de1 ?_
       refine nj_s (m := mAl (mRow (tyI .u8))) (v := ([r360] : List Sl)) (p := ([y359] : (List (List Int)))) (rq_alc (rs_f at0) rq_al0) ?_
       obtain ⟨l362, hl362, h⟩ := letX h
       obtain ⟨g363, h⟩ := gdE h
       refine sq rfl (so_appVX (q := true) (C := tySl) hl362 si34 rfl rfl rfl rfl de2 (rd_o at0) (rs_f at2) (rs_f at0) g363 fun s364 w365 => ?_)
       refine sqv rfl (yv_assign rfl rfl) ?_
       refine jl_nil ?_
       refine jx_blk ?_
       refine jx_then ?_
       refine jc_reg ?_
       obtain ⟨x366, hx366, h⟩ := letX h
       refine sqv rfl (yxi hx366 (yv_add rfl rfl rfl)) ?_
       refine sqv rfl (yv_move rfl rfl) ?_
       refine jl_nil ?_
       refine jx_again ?_
       exact nj_weak (ih1 l362 x366 s364 w365 h) ⟨rfl, rfl, rfl, rfl, trivial⟩ (.cons de2 (.cons de0 .nil)) (.cons at0 .nil)
    exact nj_weak (key1 FUEL j179 0 z178 w180 h) ⟨rfl, rfl, rfl, rfl, trivial⟩ (.cons de0 (.cons de1 .nil)) (.cons at0 .nil)
   ·
    replace h := brT h
    refine jc_t rfl ?_
    refine jc_skip ?_
    refine jx_then ?_
    refine jc_seq ?_
    refine jc_block ?_
    refine jc_seq ?_
    refine jc_reg ?_
    obtain ⟨g200, h⟩ := gdE h
    obtain ⟨x201, hx201, h⟩ := letX h
    refine sqv rfl (yxg (C := tySLeaf) hx201 (yv_index (g := true) (ys := tySLeaf.enc (vat x3 j181)) Tryz.underlying58 ti51 rfl rfl rfl g200 (arr_sub tySLeaf _ _ g200) (Ty.len _ _) (by simp))) ?_
    refine sq rfl (so_alloc ti51 (by decide) rfl rfl fun b202 => ?_)
    refine sq rfl (so_sta ti51 rfl rfl rfl rfl (Upd.refl (by simp [Ty.len])) (Ty.len _ _) (Ty.one _ _) (xs' := tySLeaf.enc x201) se0 ?_)
    refine jl_nil ?_
    refine jx_then ?_
    refine jc_regd (k := 10) hmix rfl [([], .blk b202 51 (tySLeaf.enc x201))] [] (.cons at0 .nil) .nil ?_
    refine tk (i := 0) rfl (by kernel_rfl) rfl (yv_move rfl rfl) .nil .nil ?_
    refine tk (i := 1) rfl (by kernel_rfl) rfl (yv_fa fa51_0 rfl rfl) .nil .nil ?_
    obtain ⟨x203, hx203, h⟩ := letX h
    refine tk (i := 2) rfl (by kernel_rfl) rfl (yxi hx203 (yv_ldb ti3 rfl rfl (rd_bl at0) ((Sub.refl _).trans (SLeaf.s0 x201)) (Ty.len _ _) (fun _ => rfl))) (.cons at0 (by kernel_rfl) .nil) .nil ?_
    refine tk (i := 4) rfl (by kernel_rfl) rfl (yv_fa fa51_1 rfl rfl) .nil .nil ?_
    obtain ⟨x204, hx204, h⟩ := letX h
    refine tk (i := 5) rfl (by kernel_rfl) rfl (yxi hx204 (yv_ldb ti3 rfl rfl (rd_bl at0) ((Sub.refl _).trans (SLeaf.s1 x201)) (Ty.len _ _) (fun _ => rfl))) (.cons at0 (by kernel_rfl) .nil) .nil ?_
    obtain ⟨y205, hy205, h⟩ := bdE h
    refine jg_one (i := 3) (by kernel_rfl) (gst rfl rfl (so_callx pf169 rfl rfl rfl rfl (fun σ hs => F169_c hy205 σ.w σ.O hs.olt) (fun _ => (.cons .nil)) (fun _ => .nil) (fun r206 => ?_)))
    refine ng (.cons at1 .nil) .nil ?_
    obtain ⟨y207, hy207, h⟩ := bdE h
    refine jg_one (i := 6) (by kernel_rfl) (gst rfl rfl (so_callx pf169 rfl rfl rfl rfl (fun σ hs => F169_c hy207 σ.w σ.O hs.olt) (fun _ => (.cons .nil)) (fun _ => .nil) (fun r208 => ?_)))
    refine ng (.cons at2 .nil) .nil ?_
    refine jg_one (i := 7) (by kernel_rfl) (gst rfl rfl (so_bslL (C := tySl) (l := ([r206, r208] : List Sl)) si34 sz34 rfl rfl rfl rfl (by decide) (by decide) (fills_cons rfl (many_upd' tySl _ (0 : Int) r206 (by simp [lup])) rfl (Ty.len tySl r206) (fills_cons rfl (many_upd' tySl _ (1 : Int) r208 (by simp [lup])) rfl (Ty.len tySl r208) fills_nil)) fun s209 => ?_))
    refine ng (.cons at3 .nil) .nil ?_
    refine nj_frz inout0 de2 ?_
    refine nj_frz inout0 de1 ?_
    refine nj_s (m := mAl (mRow (tyI .u8))) (v := ([r206, r208] : List Sl)) (p := ([y205, y207] : (List (List Int)))) (rq_alc (rs_f at1) (rq_alc (rs_f at0) rq_al0)) ?_
    obtain ⟨l210, hl210, h⟩ := letX h
    obtain ⟨g211, h⟩ := gdE h
    refine jg_one (i := 8) (by kernel_rfl) (gst rfl rfl (so_appVX (q := true) (C := tySl) hl210 si34 rfl rfl rfl rfl de4 (rd_o at0) (rs_f at3) (rs_f at0) g211 fun s212 w213 => ?_))
    refine ng (.cons at2 .nil) .nil ?_
    refine tk (i := 9) rfl (by kernel_rfl) rfl (yv_assign rfl rfl) .nil .nil ?_
    refine jg_nil (by kernel_rfl) ?_
    refine jx_blk ?_
    refine jx_then ?_
    refine jc_reg ?_
    obtain ⟨x214, hx214, h⟩ := letX h
    refine sqv rfl (yxi hx214 (yv_add rfl rfl rfl)) ?_
    refine sqv rfl (yv_move rfl rfl) ?_
    refine jl_nil ?_
    refine jx_again ?_
    exact nj_weak (ih0 l210 x214 s212 w213 h) ⟨rfl, rfl, rfl, rfl, rfl, trivial⟩ (.cons de3 (.cons de3 (.cons de0 .nil))) (.cons at0 .nil)
 exact nj_weak (key0 FUEL [] 0 (⟨none, 0, 0⟩ : Sl) ([] : List Sl) h) ⟨rfl, rfl, rfl, rfl, rfl, trivial⟩ (.cons de1 (.cons de1 (.cons de0 .nil))) (.cons at0 .nil)
theorem F171_c {p0 : SView} {r : (Vector Int 32)} (h : F171 p0 = some r) (w0 : World) (O0 : Nat → Prop) (hO : ∀ k, O0 k → k < w0.heap.size) :
  CallsP Tryz.prog 171 (List.toArray [ag (tySView.enc p0)]) w0 O0 [] (RV (ag ((Ty.arr 32 (tyI .u8)).enc r))) := by
 unfold F171 at h
 refine calls_start (e := [(0, ag (tySView.enc p0))]) (L := []) (K := []) Tryz.func171 rfl rfl rfl ⟨rfl, trivial⟩ hO (by simp) .nil aln ?_
 refine jc_seq ?_
 refine jc_reg ?_
 refine sq rfl (so_boxa (by decide) rfl rfl rfl fun b1 => ?_)
 refine sq rfl (so_alloc ti25 (by decide) rfl rfl fun b2 => ?_)
 refine jl_nil ?_
 refine jx_then ?_
 refine jc_seq ?_
 refine jc_reg ?_
 refine sqv rfl (yv_assign rfl rfl) ?_
 refine jl_nil ?_
 refine jx_then ?_
 refine jc_seq ?_
 refine jc_seq ?_
 refine jc_reg ?_
 refine sqv rfl (yv_fa fa64_2 rfl rfl) ?_
 obtain ⟨x3, hx3, h⟩ := letX h
 refine sqv rfl (yxg (C := (Ty.arr 8 tyB)) hx3 (yv_ldb ti62 rfl rfl (rd_bl at1) ((Sub.refl _).trans (SView.s2 p0)) (Ty.len _ _) (by simp))) ?_
 refine sqv rfl (yv_move rfl rfl) ?_
 refine jl_nil ?_
 refine jx_then ?_
 refine jc_block ?_
 refine nj_nil 5 (tyI .u8) rfl ?_
 refine jc_loop ?_
 intro B0 Q0 hB0 hQ0
 have key0 : ∀ (k0 : Nat) (j86 : (List Int)) (j87 : Int) (z85 : Sl), F171_l0 x3 p0 k0 j86 j87 = some r → JW 34 w0 O0 [] Tryz.prog B0 Q0 [(1, pt b1 0), (2, pt b2 0), (3, sv z85), (9, ag ((Ty.arr 8 tyB).enc x3)), (10, .int .i64 j87)] [.blk b2 25 ((Ty.arr 32 (tyI .u8)).enc (Vector.replicate 32 (0 : Int))), .blk b1 64 (tySView.enc p0), .sli z85 5 (tyI .u8).size (j86).length ((tyI .u8).many j86)] [] := by
  intro k0
  induction k0 with
  | zero => intro j86 j87 z85 h; cases h
  | succ k0 ih0 =>
   intro j86 j87 z85 h
   unfold F171_l0 at h
   refine jw_round hB0 ?_
   refine jc_seq ?_
   refine jc_reg ?_
   obtain ⟨x88, hx88, h⟩ := letX h
   refine sqv rfl (yxb hx88 (yv_lss rfl rfl rfl)) ?_
   refine jl_nil ?_
   refine jx_then ?_
   refine jc_seq ?_
   rcases x88 with _ | _
   ·
    replace h := brF h
    refine jc_f rfl ?_
    refine jc_exit ?_
    refine jx_te ?_
    refine jx_te ?_
    refine jx_abs hQ0 ?_
    refine jx_hit ?_
    refine jx_then ?_
    refine jc_seq ?_
    refine jc_reg ?_
    refine sqv rfl (yv_fa fa64_1 rfl rfl) ?_
    obtain ⟨x103, hx103, h⟩ := letX h
    refine sqv rfl (yxg (C := tySTree) hx103 (yv_ldb ti61 rfl rfl (rd_bl at1) ((Sub.refl _).trans (SView.s1 p0)) (Ty.len _ _) (by simp))) ?_
    obtain ⟨y104, hy104, h⟩ := bdE h
    refine sq rfl (so_callv pf250 rfl rfl rfl rfl (fun σ hs => F250_c hy104 σ.w σ.O hs.olt) ?_)
    refine sq rfl (so_alloc ti25 (by decide) rfl rfl fun b105 => ?_)
    refine sq rfl (so_sta ti25 rfl rfl rfl rfl (Upd.refl (by simp [Ty.len])) (Ty.len _ _) (Ty.one _ _) (xs' := (Ty.arr 32 (tyI .u8)).enc y104) se0 ?_)
    refine jl_nil ?_
    refine jx_then ?_
    refine jc_seq ?_
    refine jc_regd (k := 13) hmix rfl [([], .blk b1 64 (tySView.enc p0))] [] (.cons at2 .nil) .nil ?_
    refine tk (i := 0) rfl (by kernel_rfl) rfl (yv_fa fa64_4 rfl rfl) .nil .nil ?_
    obtain ⟨x106, hx106, h⟩ := letX h
    refine tk (i := 1) rfl (by kernel_rfl) rfl (yxg (C := (Ty.arr 32 (tyI .u8))) hx106 (yv_ldb ti25 rfl rfl (rd_bl at0) ((Sub.refl _).trans (SView.s4 p0)) (Ty.len _ _) (by simp))) (.cons at0 (by kernel_rfl) .nil) .nil ?_
    refine tk (i := 2) rfl (by kernel_rfl) rfl (yv_fa fa64_0 rfl rfl) .nil .nil ?_
    obtain ⟨x107, hx107, h⟩ := letX h
    refine tk (i := 3) rfl (by kernel_rfl) rfl (yxi hx107 (yv_ldb ti3 rfl rfl (rd_bl at0) ((Sub.refl _).trans (SView.s0 p0)) (Ty.len _ _) (fun _ => rfl))) (.cons at0 (by kernel_rfl) .nil) .nil ?_
    refine tk (i := 5) rfl (by kernel_rfl) rfl (yv_fa fa64_3 rfl rfl) .nil .nil ?_
    obtain ⟨x108, hx108, h⟩ := letX h
    refine tk (i := 6) rfl (by kernel_rfl) rfl (yxi hx108 (yv_ldb ti3 rfl rfl (rd_bl at0) ((Sub.refl _).trans (SView.s3 p0)) (Ty.len _ _) (fun _ => rfl))) (.cons at0 (by kernel_rfl) .nil) .nil ?_
    refine tk (i := 8) rfl (by kernel_rfl) rfl (yv_move rfl rfl) .nil .nil ?_
    refine tk (i := 9) rfl (by kernel_rfl) rfl (yv_sla1 ia25 rfl rfl) .nil .nil ?_
    obtain ⟨y109, hy109, h⟩ := bdE h
    refine jg_one (i := 4) (by kernel_rfl) (gst rfl rfl (so_callx pf169 rfl rfl rfl rfl (fun σ hs => F169_c hy109 σ.w σ.O hs.olt) (fun _ => (.cons .nil)) (fun _ => .nil) (fun r110 => ?_)))
    refine ng (.cons at3 .nil) .nil ?_
    obtain ⟨y111, hy111, h⟩ := bdE h
    refine jg_one (i := 7) (by kernel_rfl) (gst rfl rfl (so_callx pf169 rfl rfl rfl rfl (fun σ hs => F169_c hy111 σ.w σ.O hs.olt) (fun _ => (.cons .nil)) (fun _ => .nil) (fun r112 => ?_)))
    refine ng (.cons at4 .nil) .nil ?_
    refine jg_one (i := 10) (by kernel_rfl) (gst rfl rfl (so_bslL (C := tySl) (l := ([r110, r112, z85, (⟨some ⟨b105, 0, none⟩, 32, 32⟩ : Sl)] : List Sl)) si34 sz34 rfl rfl rfl rfl (by decide) (by decide) (fills_cons rfl (many_upd' tySl _ (0 : Int) r110 (by simp [lup])) rfl (Ty.len tySl r110) (fills_cons rfl (many_upd' tySl _ (1 : Int) r112 (by simp [lup])) rfl (Ty.len tySl r112) (fills_cons rfl (many_upd' tySl _ (2 : Int) z85 (by simp [lup])) rfl (Ty.len tySl z85) (fills_cons rfl (many_upd' tySl _ (3 : Int) (⟨some ⟨b105, 0, none⟩, 32, 32⟩ : Sl) (by simp [lup])) rfl (Ty.len tySl (⟨some ⟨b105, 0, none⟩, 32, 32⟩ : Sl)) fills_nil)))) fun s113 => ?_))
    refine ng (.cons at5 .nil) .nil ?_
    obtain ⟨y114, hy114, h⟩ := bdE h
    refine jg_one (i := 11) (by kernel_rfl) (gst rfl rfl (so_callv pf83 rfl rfl rfl rfl (fun σ hs => F83_c hy114 σ.w σ.O hs.olt s113 (cw0 (rq_sl (rd_o at0) (rq_alc (rd_o at2) (rq_alc (rd_o at1) (rq_alc (rd_o at6) (rq_alc (rq_arr (rd_bl at3) (Sub.refl _) (by decide)) rq_al0))))) hs)) ?_))
    refine ng (.cons at5 .nil) .nil ?_
    refine jg_one (i := 12) (by kernel_rfl) (gst rfl rfl (so_sta ti25 rfl rfl rfl rfl (Upd.refl (by simp [Ty.len])) (Ty.len _ _) (Ty.one _ _) (xs' := (Ty.arr 32 (tyI .u8)).enc y114) se4 ?_))
    refine ng (.cons at5 .nil) .nil ?_
    refine jg_nil (by kernel_rfl) ?_
    refine jx_then ?_
    refine jc_ret ?_
    cases h
    exact jx_ret rfl (rr_cella ti25 rfl at4 (Ty.len _ _) rr_nil) ⟨rfl, rfl, rfl, rfl⟩ .nil .nil rfl (by simp)
   ·
    replace h := brT h
    refine jc_t rfl ?_
    refine jc_skip ?_
    refine jx_then ?_
    refine jc_seq ?_
    refine jc_block ?_
    refine jc_seq ?_
    refine jc_reg ?_
    obtain ⟨g97, h⟩ := gdE h
    obtain ⟨x98, hx98, h⟩ := letX h
    refine sqv rfl (yxb hx98 (yv_index (g := false) (ys := tyB.enc (vat x3 j87)) Tryz.underlying62 ti4 rfl rfl rfl g97 (arr_sub tyB _ _ g97) (Ty.len _ _) (fun _ => rfl))) ?_
    refine sqv rfl (yv_assign rfl rfl) ?_
    refine jl_nil ?_
    refine jx_then ?_
    refine jc_seq ?_
    refine jc_reg ?_
    refine sqv rfl (yv_assign rfl rfl) ?_
    refine jl_nil ?_
    refine jx_then ?_
    refine jc_seq ?_
    refine jc_seq ?_
    refine jc_reg ?_
    refine sqv rfl (yv_move rfl rfl) ?_
    refine jl_nil ?_
    refine jx_then ?_
    refine jc_then_n ?_
    intro N0 hN0
    have hj0 : ∀ (j101 : Int), F171_j0 j86 j87 (F171_l0 x3 p0 k0) j101 = some r → NJ 34 w0 O0 [] N0 [(1, pt b1 0), (2, pt b2 0), (3, sv z85), (6, .int .u8 j101), (9, ag ((Ty.arr 8 tyB).enc x3)), (10, .int .i64 j87)] [.blk b2 25 ((Ty.arr 32 (tyI .u8)).enc (Vector.replicate 32 (0 : Int))), .blk b1 64 (tySView.enc p0), .sli z85 5 (tyI .u8).size (j86).length ((tyI .u8).many j86)] [] := by
     intro j101 h
     unfold F171_j0 at h
     refine nj_abs hN0 ?_
     refine jc_reg ?_
     refine sqv rfl (yv_move rfl rfl) ?_
     refine sqv rfl (yv_move rfl rfl) ?_
     refine sq rfl (so_bslL (C := (tyI .u8)) (l := ([j101] : (List Int))) si97 sz97 rfl rfl rfl rfl (by decide) (by decide) (fills_cons rfl (many_upd' (tyI .u8) _ (0 : Int) j101 (by simp [lup])) rfl (Ty.len (tyI .u8) j101) fills_nil) fun s1_102 => ?_)
     obtain ⟨l2_102, hl2_102, h⟩ := letX h
     obtain ⟨g3_102, h⟩ := gdE h
     refine sq rfl (so_appX (C := (tyI .u8)) hl2_102 si97 rfl rfl rfl rfl de3 (rd_o at0) rfl g3_102 fun s4_102 => ?_)
     refine sqv rfl (yv_assign rfl rfl) ?_
     refine jl_nil ?_
     refine jx_blk ?_
     refine jx_then ?_
     refine jc_reg ?_
     obtain ⟨x5_102, hx5_102, h⟩ := letX h
     refine sqv rfl (yxi hx5_102 (yv_add rfl rfl rfl)) ?_
     refine sqv rfl (yv_move rfl rfl) ?_
     refine jl_nil ?_
     refine jx_again ?_
     exact nj_weak (ih0 l2_102 x5_102 s4_102 h) ⟨rfl, rfl, rfl, rfl, rfl, trivial⟩ (.cons de2 (.cons de2 (.cons de0 .nil))) .nil
    rcases x98 with _ | _
    ·
     replace h := brF h
     refine jc_f rfl ?_
     refine jc_skip ?_
     refine jx_then_n ?_
     exact nj_weak (hj0 0 h) ⟨rfl, rfl, rfl, rfl, rfl, rfl, trivial⟩ (.cons de0 (.cons de0 (.cons de0 .nil))) .nil
    ·
     replace h := brT h
     refine jc_t rfl ?_
     refine jc_reg ?_
     refine sqv rfl (yv_assign rfl rfl) ?_
     refine jl_nil ?_
     refine jx_then_n ?_
     exact nj_weak (hj0 1 h) ⟨rfl, rfl, rfl, rfl, rfl, rfl, trivial⟩ (.cons de0 (.cons de0 (.cons de0 .nil))) .nil
 exact nj_weak (key0 FUEL [] 0 (⟨none, 0, 0⟩ : Sl) h) ⟨rfl, rfl, rfl, rfl, rfl, trivial⟩ (.cons de1 (.cons de1 (.cons de0 .nil))) .nil
theorem F237_c {p0 : (List SOp)} {r : (List Int)} (h : F237 p0 = some r) (w0 : World) (O0 : Nat → Prop) (hO : ∀ k, O0 k → k < w0.heap.size) (v0 : Sl) (k0 : (fa false (mRow tySOp) v0 p0).p ⟨w0, O0, inL []⟩) :
  CallsP Tryz.prog 237 (List.toArray [sv v0]) w0 O0 [] (RX (fun x : Sl => sv x) (fun x => [.sli x 5 (tyI .u8).size (r).length ((tyI .u8).many r)]) (fun x => [])) := by
 unfold F237 at h
 refine calls_start (e := [(0, sv v0)]) (L := []) (K := [fa false (mRow tySOp) v0 p0]) Tryz.func237 rfl rfl rfl ⟨rfl, trivial⟩ hO (by simp) .nil (alc k0 aln) ?_
 refine jc_seq ?_
 refine jc_reg ?_
 refine sqv rfl (yv_assign rfl rfl) ?_
 refine jl_nil ?_
 refine jx_then ?_
 refine jc_seq ?_
 refine jc_reg ?_
 refine sqv rfl (yv_assign rfl rfl) ?_
 refine jl_nil ?_
 refine jx_then ?_
 refine jc_seq ?_
 refine jc_seq ?_
 refine jc_reg ?_
 refine sqv rfl (yv_move rfl rfl) ?_
 obtain ⟨x1, hx1, h⟩ := letX h
 refine sqv rfl (yv_len isl31 rfl rfl (rd_f at0) hx1) ?_
 refine sqv rfl (yv_move rfl rfl) ?_
 refine jl_nil ?_
 refine jx_then ?_
 refine jc_block ?_
 refine nj_nil 5 (tyI .u8) rfl ?_
 refine jc_loop ?_
 intro B0 Q0 hB0 hQ0
 have key0 : ∀ (k0 : Nat) (j340 : (List Int)) (j341 : Int) (z339 : Sl), F237_l0 x1 p0 k0 j340 j341 = some r → JW 39 w0 O0 [] Tryz.prog B0 Q0 [(2, sv (⟨none, 0, 0⟩ : Sl)), (3, sv z339), (8, sv v0), (9, .int .i64 x1), (10, .int .i64 j341)] [.sli z339 5 (tyI .u8).size (j340).length ((tyI .u8).many j340)] [fa false (mRow tySOp) v0 p0] := by
  intro k0
  induction k0 with
  | zero => intro j340 j341 z339 h; cases h
  | succ k0 ih0 =>
   intro j340 j341 z339 h
   unfold F237_l0 at h
   refine jw_round hB0 ?_
   refine jc_seq ?_
   refine jc_reg ?_
   obtain ⟨x342, hx342, h⟩ := letX h
   refine sqv rfl (yxb hx342 (yv_lss rfl rfl rfl)) ?_
   refine jl_nil ?_
   refine jx_then ?_
   refine jc_seq ?_
   rcases x342 with _ | _
   ·
    replace h := brF h
    refine jc_f rfl ?_
    refine jc_exit ?_
    refine jx_te ?_
    refine jx_te ?_
    refine jx_abs hQ0 ?_
    refine jx_hit ?_
    refine jx_then ?_
    refine jc_seq ?_
    refine jc_reg ?_
    refine sqv rfl (yv_move rfl rfl) ?_
    refine sqv rfl (yv_assign rfl rfl) ?_
    refine jl_nil ?_
    refine jx_then ?_
    refine jc_ret ?_
    cases h
    exact jx_ret rfl (rr_tmp rfl rr_nil) ⟨(z339), rfl, rfl, rfl, rfl⟩ (.cons de0 .nil) .nil rfl (by simp)
   ·
    replace h := brT h
    refine jc_t rfl ?_
    refine jc_skip ?_
    refine jx_then ?_
    refine jc_seq ?_
    refine jc_block ?_
    refine jc_seq ?_
    refine jc_reg ?_
    obtain ⟨g427, h⟩ := gdE h
    refine nj_open (rd_f at0) g427 fun b428 o429 ha_b428 => ?_
    refine sqv rfl (yv_is is31 rfl rfl rfl ha_b428 (rd_f at0) g427) ?_
    obtain ⟨x430, hx430, h⟩ := letX h
    refine sqv rfl (yxg (C := tySOp) hx430 (yv_lds ti54 rfl rfl ha_b428 (rd_f at0) (many_sub' tySOp p0 j341 g427) rfl (Ty.len _ _) (by simp))) ?_
    refine sq rfl (so_alloc ti54 (by decide) rfl rfl fun b431 => ?_)
    refine sq rfl (so_sta ti54 rfl rfl rfl rfl (Upd.refl (by simp [Ty.len])) (Ty.len _ _) (Ty.one _ _) (xs' := tySOp.enc x430) se0 ?_)
    refine jl_nil ?_
    refine jx_then ?_
    refine jc_seq ?_
    refine jc_reg ?_
    refine sqv rfl (yv_fa fa54_0 rfl rfl) ?_
    obtain ⟨x432, hx432, h⟩ := letX h
    refine sqv rfl (yxi hx432 (yv_ldb ti3 rfl rfl (rd_bl at0) ((Sub.refl _).trans (SOp.s0 x430)) (Ty.len _ _) (fun _ => rfl))) ?_
    refine sqv rfl (yv_fa fa54_1 rfl rfl) ?_
    obtain ⟨x433, hx433, h⟩ := letX h
    refine sqv rfl (yxi hx433 (yv_ldb ti3 rfl rfl (rd_bl at0) ((Sub.refl _).trans (SOp.s1 x430)) (Ty.len _ _) (fun _ => rfl))) ?_
    refine sqv rfl (yv_fa fa54_2 rfl rfl) ?_
    obtain ⟨x434, hx434, h⟩ := letX h
    refine sqv rfl (yxi hx434 (yv_ldb ti3 rfl rfl (rd_bl at0) ((Sub.refl _).trans (SOp.s2 x430)) (Ty.len _ _) (fun _ => rfl))) ?_
    refine sqv rfl (yv_fa fa54_3 rfl rfl) ?_
    refine sqv rfl (yv_fa fa51_0 rfl rfl) ?_
    obtain ⟨x435, hx435, h⟩ := letX h
    refine sqv rfl (yxi hx435 (yv_ldb ti3 rfl rfl (rd_bl at0) (((Sub.refl _).trans (SOp.s3 x430)).trans (SLeaf.s0 x430.Leaf)) (Ty.len _ _) (fun _ => rfl))) ?_
    refine sqv rfl (yv_fa fa54_3 rfl rfl) ?_
    refine sqv rfl (yv_fa fa51_1 rfl rfl) ?_
    obtain ⟨x436, hx436, h⟩ := letX h
    refine sqv rfl (yxi hx436 (yv_ldb ti3 rfl rfl (rd_bl at0) (((Sub.refl _).trans (SOp.s3 x430)).trans (SLeaf.s1 x430.Leaf)) (Ty.len _ _) (fun _ => rfl))) ?_
    refine sq rfl (so_bslL (C := (tyI .i64)) (l := ([x432, x433, x434, x435, x436] : (List Int))) si258 sz258 rfl rfl rfl rfl (by decide) (by decide) (fills_cons rfl (many_upd' (tyI .i64) _ (0 : Int) x432 (by simp [lup])) rfl (Ty.len (tyI .i64) x432) (fills_cons rfl (many_upd' (tyI .i64) _ (1 : Int) x433 (by simp [lup])) rfl (Ty.len (tyI .i64) x433) (fills_cons rfl (many_upd' (tyI .i64) _ (2 : Int) x434 (by simp [lup])) rfl (Ty.len (tyI .i64) x434) (fills_cons rfl (many_upd' (tyI .i64) _ (3 : Int) x435 (by simp [lup])) rfl (Ty.len (tyI .i64) x435) (fills_cons rfl (many_upd' (tyI .i64) _ (4 : Int) x436 (by simp [lup])) rfl (Ty.len (tyI .i64) x436) fills_nil))))) fun s437 => ?_)
    obtain ⟨x438, hx438, h⟩ := letX h
    refine sqv rfl (yv_len isl258 rfl rfl (rd_o at0) hx438) ?_
    refine sqv rfl (yv_move rfl rfl) ?_
    refine jl_nil ?_
    refine jx_then ?_
    refine jc_block ?_
    refine jc_loop ?_
    intro B1 Q1 hB1 hQ1
    have key1 : ∀ (k1 : Nat) (j485 : (List Int)) (j486 : Int) (z484 : Sl), F237_l1 x438 x432 x433 x434 x435 x436 j341 (F237_l0 x1 p0 k0) k1 j485 j486 = some r → JW 39 w0 O0 [] Tryz.prog B1 Q1 [(2, sv (⟨none, 0, 0⟩ : Sl)), (3, sv z484), (8, sv v0), (9, .int .i64 x1), (10, .int .i64 j341), (26, sv s437), (27, .int .i64 x438), (28, .int .i64 j486)] [.sli z484 5 (tyI .u8).size (j485).length ((tyI .u8).many j485), .sli s437 3 (tyI .i64).size (([x432, x433, x434, x435, x436] : (List Int))).length ((tyI .i64).many ([x432, x433, x434, x435, x436] : (List Int)))] [fa false (mRow tySOp) v0 p0] := by
     intro k1
     induction k1 with
     | zero => intro j485 j486 z484 h; cases h
     | succ k1 ih1 =>
      intro j485 j486 z484 h
      unfold F237_l1 at h
      refine jw_round hB1 ?_
      refine jc_seq ?_
      refine jc_reg ?_
      obtain ⟨x487, hx487, h⟩ := letX h
      refine sqv rfl (yxb hx487 (yv_lss rfl rfl rfl)) ?_
      refine jl_nil ?_
      refine jx_then ?_
      refine jc_seq ?_
      rcases x487 with _ | _
      ·
       replace h := brF h
       refine jc_f rfl ?_
       refine jc_exit ?_
       refine jx_te ?_
       refine jx_te ?_
       refine jx_abs hQ1 ?_
       refine jx_hit ?_
       refine jx_blk ?_
       refine jx_then ?_
       refine jc_reg ?_
       obtain ⟨x508, hx508, h⟩ := letX h
       refine sqv rfl (yxi hx508 (yv_add rfl rfl rfl)) ?_
       refine sqv rfl (yv_move rfl rfl) ?_
       refine jl_nil ?_
       refine jx_again ?_
       exact nj_weak (ih0 j485 x508 z484 h) ⟨rfl, rfl, rfl, rfl, rfl, trivial⟩ (.cons de0 .nil) (.cons at0 .nil)
      ·
       replace h := brT h
       refine jc_t rfl ?_
       refine jc_skip ?_
       refine jx_then ?_
       refine jc_seq ?_
       refine jc_block ?_
       refine jc_seq ?_
       refine jc_reg ?_
       obtain ⟨g499, h⟩ := gdE h
       refine nj_openo at1 g499 fun b500 ha_b500 => ?_
       refine sqv rfl (yv_is is258 rfl rfl rfl ha_b500 (rd_o at1) g499) ?_
       obtain ⟨x501, hx501, h⟩ := letX h
       refine sqv rfl (yxi hx501 (yv_lds ti3 rfl rfl ha_b500 (rd_o at1) (many_sub' (tyI .i64) ([x432, x433, x434, x435, x436] : (List Int)) j486 g499) rfl (Ty.len _ _) (fun _ => rfl))) ?_
       refine sqv rfl (yv_assign rfl rfl) ?_
       refine jl_nil ?_
       refine jx_then ?_
       refine jc_reg ?_
       refine sqv rfl (yv_move rfl rfl) ?_
       refine sqv rfl (yv_move rfl rfl) ?_
       obtain ⟨y502, hy502, h⟩ := bdE h
       refine sq rfl (so_callx pf169 rfl rfl rfl rfl (fun σ hs => F169_c hy502 σ.w σ.O hs.olt) (fun _ => (.cons .nil)) (fun _ => .nil) (fun r503 => ?_))
       obtain ⟨l504, hl504, h⟩ := letX h
       obtain ⟨g505, h⟩ := gdE h
       refine sq rfl (so_appX (C := (tyI .u8)) hl504 si97 rfl rfl rfl rfl de1 (rd_o at0) rfl g505 fun s506 => ?_)
       refine sqv rfl (yv_assign rfl rfl) ?_
       refine jl_nil ?_
       refine jx_blk ?_
       refine jx_then ?_
       refine jc_reg ?_
       obtain ⟨x507, hx507, h⟩ := letX h
       refine sqv rfl (yxi hx507 (yv_add rfl rfl rfl)) ?_
       refine sqv rfl (yv_move rfl rfl) ?_
       refine jl_nil ?_
       refine jx_again ?_
       exact nj_weak (ih1 l504 x507 s506 h) ⟨rfl, rfl, rfl, rfl, rfl, rfl, rfl, rfl, trivial⟩ (.cons de0 (.cons de1 .nil)) (.cons at0 .nil)
    exact nj_weak (key1 FUEL j340 0 z339 h) ⟨rfl, rfl, rfl, rfl, rfl, rfl, rfl, rfl, trivial⟩ (.cons de2 (.cons de0 .nil)) (.cons at0 .nil)
 exact nj_weak (key0 FUEL [] 0 (⟨none, 0, 0⟩ : Sl) h) ⟨rfl, rfl, rfl, rfl, rfl, trivial⟩ (.cons de0 .nil) (.cons at0 .nil)
theorem F155_c {p0 : SView} {p1 : Int} {p2 : (List SOp)} {r : (Vector Int 32)} (h : F155 p0 p1 p2 = some r) (w0 : World) (O0 : Nat → Prop) (hO : ∀ k, O0 k → k < w0.heap.size) (v2 : Sl) (k0 : (fa false (mRow tySOp) v2 p2).p ⟨w0, O0, inL []⟩) :
  CallsP Tryz.prog 155 (List.toArray [ag (tySView.enc p0), .int .i64 p1, sv v2]) w0 O0 [] (RV (ag ((Ty.arr 32 (tyI .u8)).enc r))) := by
 unfold F155 at h
 refine calls_start (e := [(0, ag (tySView.enc p0)), (1, .int .i64 p1), (2, sv v2)]) (L := []) (K := [fa false (mRow tySOp) v2 p2]) Tryz.func155 rfl rfl rfl ⟨rfl, rfl, rfl, trivial⟩ hO (by simp) .nil (alc k0 aln) ?_
 refine jc_seq ?_
 refine jc_reg ?_
 refine sq rfl (so_boxa (by decide) rfl rfl rfl fun b1 => ?_)
 refine sq rfl (so_alloc ti25 (by decide) rfl rfl fun b2 => ?_)
 refine jl_nil ?_
 refine jx_then ?_
 refine jc_seq ?_
 refine jc_reg ?_
 refine sqv rfl (yv_ldb ti64 rfl rfl (rd_bl at1) (Sub.refl _) (Ty.len _ _) (by simp)) ?_
 obtain ⟨y3, hy3, h⟩ := bdE h
 refine sq rfl (so_callv pf171 rfl rfl rfl rfl (fun σ hs => F171_c hy3 σ.w σ.O hs.olt) ?_)
 refine sqv rfl (yv_move rfl rfl) ?_
 obtain ⟨y4, hy4, h⟩ := bdE h
 refine sq rfl (so_callx pf169 rfl rfl rfl rfl (fun σ hs => F169_c hy4 σ.w σ.O hs.olt) (fun _ => (.cons .nil)) (fun _ => .nil) (fun r5 => ?_))
 refine sqv rfl (yv_move rfl rfl) ?_
 obtain ⟨y6, hy6, h⟩ := bdE h
 refine sq rfl (so_callx pf237 rfl rfl rfl rfl (fun σ hs => F237_c hy6 σ.w σ.O hs.olt v2 (cw0 (rd_f at0) hs)) (fun _ => (.cons .nil)) (fun _ => .nil) (fun r7 => ?_))
 refine sq rfl (so_bslL (C := tySl) (l := ([r5, r7] : List Sl)) si34 sz34 rfl rfl rfl rfl (by decide) (by decide) (fills_cons rfl (many_upd' tySl _ (0 : Int) r5 (by simp [lup])) rfl (Ty.len tySl r5) (fills_cons rfl (many_upd' tySl _ (1 : Int) r7 (by simp [lup])) rfl (Ty.len tySl r7) fills_nil)) fun s8 => ?_)
 obtain ⟨y9, hy9, h⟩ := bdE h
 refine sq rfl (so_callv pf83 rfl rfl rfl rfl (fun σ hs => F83_c hy9 σ.w σ.O hs.olt s8 (cw0 (rq_sl (rd_o at0) (rq_alc (rd_o at2) (rq_alc (rd_o at1) rq_al0))) hs)) ?_)
 refine sq rfl (so_sta ti25 rfl rfl rfl rfl (Upd.refl (by simp [Ty.len])) (Ty.len _ _) (Ty.one _ _) (xs' := (Ty.arr 32 (tyI .u8)).enc y9) se3 ?_)
 refine jl_nil ?_
 refine jx_then ?_
 refine jc_ret ?_
 cases h
 exact jx_ret rfl (rr_cella ti25 rfl at3 (Ty.len _ _) rr_nil) ⟨rfl, rfl, rfl, rfl⟩ .nil .nil rfl (by simp)
theorem F156_c {p0 : SView} {p1 : Int} {r : Bool} (h : F156 p0 p1 = some r) (w0 : World) (O0 : Nat → Prop) (hO : ∀ k, O0 k → k < w0.heap.size) :
  CallsP Tryz.prog 156 (List.toArray [ag (tySView.enc p0), .int .i64 p1]) w0 O0 [] (RV (.bool r)) := by
 unfold F156 at h
 refine calls_start (e := [(0, ag (tySView.enc p0)), (1, .int .i64 p1)]) (L := []) (K := []) Tryz.func156 rfl rfl rfl ⟨rfl, rfl, trivial⟩ hO (by simp) .nil aln ?_
 refine jc_seq ?_
 refine jc_reg ?_
 refine sq rfl (so_boxa (by decide) rfl rfl rfl fun b1 => ?_)
 refine sqv rfl (yv_assign rfl rfl) ?_
 refine jl_nil ?_
 refine jx_then ?_
 refine jc_seq ?_
 refine jc_reg ?_
 refine sqv rfl (yv_move rfl rfl) ?_
 obtain ⟨x2, hx2, h⟩ := letX h
 refine sqv rfl (yxb hx2 (yv_geq rfl rfl rfl)) ?_
 refine sqv rfl (yv_move rfl rfl) ?_
 rcases x2 with _ | _
 ·
  replace h := brF h
  refine sq_skip rfl ?_
  refine sq_skip rfl ?_
  refine sqv rfl (yv_pick_f rfl rfl rfl) ?_
  refine sqv rfl (yv_move rfl rfl) ?_
  refine sq_skip rfl ?_
  refine sq_skip rfl ?_
  refine sq_skip rfl ?_
  refine sq_skip rfl ?_
  refine sqv rfl (yv_pick_f rfl rfl rfl) ?_
  refine sqv rfl (yv_assign rfl rfl) ?_
  refine jl_nil ?_
  refine jx_then ?_
  refine jc_ret ?_
  cases h
  exact jx_ret rfl (rr_tmp rfl rr_nil) ⟨rfl, rfl, rfl, rfl⟩ .nil .nil rfl (by simp)
 ·
  replace h := brT h
  refine sqv rfl (yv_move rfl rfl) ?_
  obtain ⟨x3, hx3, h⟩ := letX h
  refine sqv rfl (yxb hx3 (yv_lss rfl rfl rfl)) ?_
  refine sqv rfl (yv_pick_t rfl rfl rfl) ?_
  refine sqv rfl (yv_move rfl rfl) ?_
  rcases x3 with _ | _
  ·
   replace h := brF h
   refine sq_skip rfl ?_
   refine sq_skip rfl ?_
   refine sq_skip rfl ?_
   refine sq_skip rfl ?_
   refine sqv rfl (yv_pick_f rfl rfl rfl) ?_
   refine sqv rfl (yv_assign rfl rfl) ?_
   refine jl_nil ?_
   refine jx_then ?_
   refine jc_ret ?_
   cases h
   exact jx_ret rfl (rr_tmp rfl rr_nil) ⟨rfl, rfl, rfl, rfl⟩ .nil .nil rfl (by simp)
  ·
   replace h := brT h
   refine sqv rfl (yv_move rfl rfl) ?_
   refine sqv rfl (yv_fa fa64_2 rfl rfl) ?_
   obtain ⟨g4, h⟩ := gdE h
   refine sqv rfl (yv_ia ia62 rfl rfl rfl g4) ?_
   obtain ⟨x5, hx5, h⟩ := letX h
   refine sqv rfl (yxb hx5 (yv_ldb ti4 rfl rfl (rd_bl at0) (((Sub.refl _).trans (SView.s2 p0)).trans (arr_sub tyB p0.Admins p1 g4)) (Ty.len _ _) (fun _ => rfl))) ?_
   refine sqv rfl (yv_pick_t rfl rfl rfl) ?_
   refine sqv rfl (yv_assign rfl rfl) ?_
   refine jl_nil ?_
   refine jx_then ?_
   refine jc_ret ?_
   cases h
   exact jx_ret rfl (rr_tmp rfl rr_nil) ⟨rfl, rfl, rfl, rfl⟩ .nil .nil rfl (by simp)
theorem F238_c {p0 : Int} {r : Bool} (h : F238 p0 = some r) (w0 : World) (O0 : Nat → Prop) (hO : ∀ k, O0 k → k < w0.heap.size) :
  CallsP Tryz.prog 238 (List.toArray [.int .i64 p0]) w0 O0 [] (RV (.bool r)) := by
 unfold F238 at h
 refine calls_start (e := [(0, .int .i64 p0)]) (L := []) (K := []) Tryz.func238 rfl rfl rfl ⟨rfl, trivial⟩ hO (by simp) .nil aln ?_
 refine jc_seq ?_
 refine jc_reg ?_
 refine sqv rfl (yv_assign rfl rfl) ?_
 refine jl_nil ?_
 refine jx_then ?_
 refine jc_seq ?_
 refine jc_reg ?_
 refine sqv rfl (yv_move rfl rfl) ?_
 obtain ⟨x1, hx1, h⟩ := letX h
 refine sqv rfl (yxb hx1 (yv_geq rfl rfl rfl)) ?_
 refine sqv rfl (yv_move rfl rfl) ?_
 rcases x1 with _ | _
 ·
  replace h := brF h
  refine sq_skip rfl ?_
  refine sq_skip rfl ?_
  refine sqv rfl (yv_pick_f rfl rfl rfl) ?_
  refine sqv rfl (yv_assign rfl rfl) ?_
  refine jl_nil ?_
  refine jx_then ?_
  refine jc_ret ?_
  cases h
  exact jx_ret rfl (rr_tmp rfl rr_nil) ⟨rfl, rfl, rfl, rfl⟩ .nil .nil rfl (by simp)
 ·
  replace h := brT h
  refine sqv rfl (yv_move rfl rfl) ?_
  obtain ⟨x2, hx2, h⟩ := letX h
  refine sqv rfl (yxb hx2 (yv_lss rfl rfl rfl)) ?_
  refine sqv rfl (yv_pick_t rfl rfl rfl) ?_
  refine sqv rfl (yv_assign rfl rfl) ?_
  refine jl_nil ?_
  refine jx_then ?_
  refine jc_ret ?_
  cases h
  exact jx_ret rfl (rr_tmp rfl rr_nil) ⟨rfl, rfl, rfl, rfl⟩ .nil .nil rfl (by simp)
theorem F174_c {p0 : Int} {r : (List Int)} (h : F174 p0 = some r) (w0 : World) (O0 : Nat → Prop) (hO : ∀ k, O0 k → k < w0.heap.size) :
  CallsP Tryz.prog 174 (List.toArray [.int .i64 p0]) w0 O0 [] (RX (fun x : Sl => sv x) (fun x => [.sli x 5 (tyI .u8).size (r).length ((tyI .u8).many r)]) (fun x => [])) := by
 unfold F174 at h
 refine calls_start (e := [(0, .int .i64 p0)]) (L := []) (K := []) Tryz.func174 rfl rfl rfl ⟨rfl, trivial⟩ hO (by simp) .nil aln ?_
 refine jc_seq ?_
 refine jc_reg ?_
 refine sqv rfl (yv_assign rfl rfl) ?_
 refine jl_nil ?_
 refine jx_then ?_
 refine jc_seq ?_
 refine jc_reg ?_
 refine sqv rfl (yv_move rfl rfl) ?_
 obtain ⟨x1, hx1, h⟩ := letX h
 refine sqv rfl (yxi hx1 (yv_shr rfl rfl rfl (by decide))) ?_
 obtain ⟨x2, hx2, h⟩ := letX h
 refine sqv rfl (yxi hx2 (yv_con rfl (by rw [Tryz.underlying3]; rfl) Tryz.underlying5 rfl)) ?_
 refine sqv rfl (yv_move rfl rfl) ?_
 obtain ⟨x3, hx3, h⟩ := letX h
 refine sqv rfl (yxi hx3 (yv_shr rfl rfl rfl (by decide))) ?_
 obtain ⟨x4, hx4, h⟩ := letX h
 refine sqv rfl (yxi hx4 (yv_con rfl (by rw [Tryz.underlying3]; rfl) Tryz.underlying5 rfl)) ?_
 refine sqv rfl (yv_move rfl rfl) ?_
 obtain ⟨x5, hx5, h⟩ := letX h
 refine sqv rfl (yxi hx5 (yv_shr rfl rfl rfl (by decide))) ?_
 obtain ⟨x6, hx6, h⟩ := letX h
 refine sqv rfl (yxi hx6 (yv_con rfl (by rw [Tryz.underlying3]; rfl) Tryz.underlying5 rfl)) ?_
 refine sqv rfl (yv_move rfl rfl) ?_
 obtain ⟨x7, hx7, h⟩ := letX h
 refine sqv rfl (yxi hx7 (yv_con rfl (by rw [Tryz.underlying3]; rfl) Tryz.underlying5 rfl)) ?_
 refine sq rfl (so_bslL (C := (tyI .u8)) (l := ([x2, x4, x6, x7] : (List Int))) si97 sz97 rfl rfl rfl rfl (by decide) (by decide) (fills_cons rfl (many_upd' (tyI .u8) _ (0 : Int) x2 (by simp [lup])) rfl (Ty.len (tyI .u8) x2) (fills_cons rfl (many_upd' (tyI .u8) _ (1 : Int) x4 (by simp [lup])) rfl (Ty.len (tyI .u8) x4) (fills_cons rfl (many_upd' (tyI .u8) _ (2 : Int) x6 (by simp [lup])) rfl (Ty.len (tyI .u8) x6) (fills_cons rfl (many_upd' (tyI .u8) _ (3 : Int) x7 (by simp [lup])) rfl (Ty.len (tyI .u8) x7) fills_nil)))) fun s8 => ?_)
 refine sqv rfl (yv_assign rfl rfl) ?_
 refine jl_nil ?_
 refine jx_then ?_
 refine jc_ret ?_
 cases h
 exact jx_ret rfl (rr_tmp rfl rr_nil) ⟨(s8), rfl, rfl, rfl, rfl⟩ (.cons de0 .nil) .nil rfl (by simp)
theorem F252_c {p0 : (Vector Int 32)} {r : Int} (h : F252 p0 = some r) (w0 : World) (O0 : Nat → Prop) (hO : ∀ k, O0 k → k < w0.heap.size) :
  CallsP Tryz.prog 252 (List.toArray [ag ((Ty.arr 32 (tyI .u8)).enc p0)]) w0 O0 [] (RV (.int .i64 r)) := by
 unfold F252 at h
 refine calls_start (e := [(0, ag ((Ty.arr 32 (tyI .u8)).enc p0))]) (L := []) (K := []) Tryz.func252 rfl rfl rfl ⟨rfl, trivial⟩ hO (by simp) .nil aln ?_
 refine jc_seq ?_
 refine jc_reg ?_
 refine sq rfl (so_boxa (by decide) rfl rfl rfl fun b1 => ?_)
 refine sqv rfl (yv_assign rfl rfl) ?_
 refine jl_nil ?_
 refine jx_then ?_
 refine jc_seq ?_
 refine jc_reg ?_
 refine sqv rfl (yv_ldb ti25 rfl rfl (rd_bl at0) (Sub.refl _) (Ty.len _ _) (by simp)) ?_
 obtain ⟨y2, hy2, h⟩ := bdE h
 refine sq rfl (so_callv pf251 rfl rfl rfl rfl (fun σ hs => F251_c hy2 σ.w σ.O hs.olt) ?_)
 refine sqv rfl (yv_assign rfl rfl) ?_
 refine jl_nil ?_
 refine jx_then ?_
 refine jc_ret ?_
 cases h
 exact jx_ret rfl (rr_tmp rfl rr_nil) ⟨rfl, rfl, rfl, rfl⟩ .nil .nil rfl (by simp)
theorem F175_c {p0 : Int} {p1 : Int} {p2 : (List Int)} {r : Int} (h : F175 p0 p1 p2 = some r) (w0 : World) (O0 : Nat → Prop) (hO : ∀ k, O0 k → k < w0.heap.size) (v2 : Sl) (k0 : (fa false (mRow (tyI .u8)) v2 p2).p ⟨w0, O0, inL []⟩) :
  CallsP Tryz.prog 175 (List.toArray [.int .i64 p0, .int .i64 p1, sv v2]) w0 O0 [] (RV (.int .i64 r)) := by
 unfold F175 at h
 refine calls_start (e := [(0, .int .i64 p0), (1, .int .i64 p1), (2, sv v2)]) (L := []) (K := [fa false (mRow (tyI .u8)) v2 p2]) Tryz.func175 rfl rfl rfl ⟨rfl, rfl, rfl, trivial⟩ hO (by simp) .nil (alc k0 aln) ?_
 refine jc_seq ?_
 refine jc_reg ?_
 refine sqv rfl (yv_assign rfl rfl) ?_
 refine jl_nil ?_
 refine jx_then ?_
 refine jc_seq ?_
 refine jc_reg ?_
 refine sqv rfl (yv_build bi25 rfl rfl fills_nil) ?_
 refine sqv rfl (yv_move rfl rfl) ?_
 obtain ⟨y1, hy1, h⟩ := bdE h
 refine sq rfl (so_callx pf174 rfl rfl rfl rfl (fun σ hs => F174_c hy1 σ.w σ.O hs.olt) (fun _ => (.cons .nil)) (fun _ => .nil) (fun r2 => ?_))
 refine sqv rfl (yv_move rfl rfl) ?_
 obtain ⟨y3, hy3, h⟩ := bdE h
 refine sq rfl (so_callx pf174 rfl rfl rfl rfl (fun σ hs => F174_c hy3 σ.w σ.O hs.olt) (fun _ => (.cons .nil)) (fun _ => .nil) (fun r4 => ?_))
 refine sqv rfl (yv_move rfl rfl) ?_
 refine sq rfl (so_bslL (C := tySl) (l := ([r2, r4, v2] : List Sl)) si34 sz34 rfl rfl rfl rfl (by decide) (by decide) (fills_cons rfl (many_upd' tySl _ (0 : Int) r2 (by simp [lup])) rfl (Ty.len tySl r2) (fills_cons rfl (many_upd' tySl _ (1 : Int) r4 (by simp [lup])) rfl (Ty.len tySl r4) (fills_cons rfl (many_upd' tySl _ (2 : Int) v2 (by simp [lup])) rfl (Ty.len tySl v2) fills_nil))) fun s5 => ?_)
 obtain ⟨y6, hy6, h⟩ := bdE h
 refine sq rfl (so_callv pf83 rfl rfl rfl rfl (fun σ hs => F83_c hy6 σ.w σ.O hs.olt s5 (cw0 (rq_sl (rd_o at0) (rq_alc (rd_o at2) (rq_alc (rd_o at1) (rq_alc (rd_f at0) rq_al0)))) hs)) ?_)
 obtain ⟨y7, hy7, h⟩ := bdE h
 refine sq rfl (so_callv pf252 rfl rfl rfl rfl (fun σ hs => F252_c hy7 σ.w σ.O hs.olt) ?_)
 refine sqv rfl (yv_assign rfl rfl) ?_
 refine jl_nil ?_
 refine jx_then ?_
 refine jc_ret ?_
 cases h
 exact jx_ret rfl (rr_tmp rfl rr_nil) ⟨rfl, rfl, rfl, rfl⟩ .nil .nil rfl (by simp)
theorem F157_c {p0 : Int} {p1 : (List Int)} {p2 : SSig} {r : Bool} (h : F157 p0 p1 p2 = some r) (w0 : World) (O0 : Nat → Prop) (hO : ∀ k, O0 k → k < w0.heap.size) (v1 : Sl) (k0 : (fa false (mRow (tyI .u8)) v1 p1).p ⟨w0, O0, inL []⟩) :
  CallsP Tryz.prog 157 (List.toArray [.int .i64 p0, sv v1, ag (tySSig.enc p2)]) w0 O0 [] (RV (.bool r)) := by
 unfold F157 at h
 refine calls_start (e := [(0, .int .i64 p0), (1, sv v1), (2, ag (tySSig.enc p2))]) (L := []) (K := [fa false (mRow (tyI .u8)) v1 p1]) Tryz.func157 rfl rfl rfl ⟨rfl, rfl, rfl, trivial⟩ hO (by simp) .nil (alc k0 aln) ?_
 refine jc_seq ?_
 refine jc_reg ?_
 refine sq rfl (so_boxa (by decide) rfl rfl rfl fun b1 => ?_)
 refine sqv rfl (yv_assign rfl rfl) ?_
 refine jl_nil ?_
 refine jx_then ?_
 refine jc_seq ?_
 refine jc_seq_n ?_
 intro N0 hN0
 have hj0 : ∀ (j13 : Bool), F157_j0 p2 p0 p1 j13 = some r → NJ 39 w0 O0 [] N0 [(0, .int .i64 p0), (1, sv v1), (5, pt b1 0), (6, .bool false), (22, .bool j13)] [.blk b1 36 (tySSig.enc p2)] [fa false (mRow (tyI .u8)) v1 p1] := by
  intro j13 h
  unfold F157_j0 at h
  refine nj_abs hN0 ?_
  rcases j13 with _ | _
  ·
   replace h := brF h
   refine jc_f rfl ?_
   refine jc_skip ?_
   refine jx_then ?_
   refine jc_seq ?_
   refine jc_regd (k := 10) hmix rfl [([], .blk b1 36 (tySSig.enc p2))] [] (.cons at0 .nil) .nil ?_
   refine tk (i := 0) rfl (by kernel_rfl) rfl (yv_fa fa36_1 rfl rfl) .nil .nil ?_
   obtain ⟨x3_14, hx3_14, h⟩ := letX h
   refine tk (i := 1) rfl (by kernel_rfl) rfl (yxi hx3_14 (yv_ldb ti3 rfl rfl (rd_bl at0) ((Sub.refl _).trans (SSig.s1 p2)) (Ty.len _ _) (fun _ => rfl))) (.cons at0 (by kernel_rfl) .nil) .nil ?_
   refine tk (i := 3) rfl (by kernel_rfl) rfl (yv_move rfl rfl) .nil .nil ?_
   refine tk (i := 4) rfl (by kernel_rfl) rfl (yv_fa fa36_0 rfl rfl) .nil .nil ?_
   obtain ⟨x4_14, hx4_14, h⟩ := letX h
   refine tk (i := 5) rfl (by kernel_rfl) rfl (yxi hx4_14 (yv_ldb ti3 rfl rfl (rd_bl at0) ((Sub.refl _).trans (SSig.s0 p2)) (Ty.len _ _) (fun _ => rfl))) (.cons at0 (by kernel_rfl) .nil) .nil ?_
   obtain ⟨x5_14, hx5_14, h⟩ := letX h
   refine tk (i := 6) rfl (by kernel_rfl) rfl (yxi hx5_14 (yv_sub rfl rfl rfl)) .nil .nil ?_
   obtain ⟨y6_14, hy6_14, h⟩ := bdE h
   refine jg_one (i := 2) (by kernel_rfl) (gst rfl rfl (so_callv pf176 rfl rfl rfl rfl (fun σ hs => F176_c hy6_14 σ.w σ.O hs.olt) ?_))
   refine ng (.cons at0 .nil) .nil ?_
   obtain ⟨y7_14, hy7_14, h⟩ := bdE h
   refine jg_one (i := 7) (by kernel_rfl) (gst rfl rfl (so_callv pf176 rfl rfl rfl rfl (fun σ hs => F176_c hy7_14 σ.w σ.O hs.olt) ?_))
   refine ng (.cons at0 .nil) .nil ?_
   obtain ⟨y8_14, hy8_14, h⟩ := bdE h
   refine jg_one (i := 8) (by kernel_rfl) (gst rfl rfl (so_callv pf239 rfl rfl rfl rfl (fun σ hs => F239_c hy8_14 σ.w σ.O hs.olt) ?_))
   refine ng (.cons at0 .nil) .nil ?_
   refine tk (i := 9) rfl (by kernel_rfl) rfl (yv_assign rfl rfl) .nil .nil ?_
   refine jg_nil (by kernel_rfl) ?_
   refine jx_then ?_
   refine jc_seq ?_
   refine jc_regd (k := 8) hmix rfl [([], .blk b1 36 (tySSig.enc p2))] [] (.cons at0 .nil) .nil ?_
   refine tk (i := 0) rfl (by kernel_rfl) rfl (yv_fa fa36_0 rfl rfl) .nil .nil ?_
   obtain ⟨x9_14, hx9_14, h⟩ := letX h
   refine tk (i := 1) rfl (by kernel_rfl) rfl (yxi hx9_14 (yv_ldb ti3 rfl rfl (rd_bl at0) ((Sub.refl _).trans (SSig.s0 p2)) (Ty.len _ _) (fun _ => rfl))) (.cons at0 (by kernel_rfl) .nil) .nil ?_
   refine tk (i := 2) rfl (by kernel_rfl) rfl (yv_move rfl rfl) .nil .nil ?_
   refine tk (i := 3) rfl (by kernel_rfl) rfl (yv_move rfl rfl) .nil .nil ?_
   refine tk (i := 4) rfl (by kernel_rfl) rfl (yv_move rfl rfl) .nil .nil ?_
   obtain ⟨y10_14, hy10_14, h⟩ := bdE h
   refine jg_one (i := 5) (by kernel_rfl) (gst rfl rfl (so_callv pf175 rfl rfl rfl rfl (fun σ hs => F175_c hy10_14 σ.w σ.O hs.olt v1 (cw0 (rd_f at0) hs)) ?_))
   refine ng (.cons at0 .nil) .nil ?_
   obtain ⟨x11_14, hx11_14, h⟩ := letX h
   refine tk (i := 6) rfl (by kernel_rfl) rfl (yxb hx11_14 (yv_eql rfl rfl rfl)) .nil .nil ?_
   refine tk (i := 7) rfl (by kernel_rfl) rfl (yv_assign rfl rfl) .nil .nil ?_
   refine jg_nil (by kernel_rfl) ?_
   refine jx_then ?_
   refine jc_ret ?_
   cases h
   exact jx_ret rfl (rr_tmp rfl rr_nil) ⟨rfl, rfl, rfl, rfl⟩ .nil .nil rfl (by simp)
  ·
   replace h := brT h
   refine jc_t rfl ?_
   refine jc_seq ?_
   refine jc_reg ?_
   refine sqv rfl (yv_assign rfl rfl) ?_
   refine jl_nil ?_
   refine jx_then ?_
   refine jc_ret ?_
   refine jx_tr ?_
   cases h
   exact jx_ret rfl (rr_tmp rfl rr_nil) ⟨rfl, rfl, rfl, rfl⟩ .nil .nil rfl (by simp)
 refine jc_reg ?_
 refine sqv rfl (yv_move rfl rfl) ?_
 obtain ⟨y2, hy2, h⟩ := bdE h
 refine sq rfl (so_callv pf201 rfl rfl rfl rfl (fun σ hs => F201_c hy2 σ.w σ.O hs.olt) ?_)
 obtain ⟨x3, hx3, h⟩ := letX h
 refine sqv rfl (yxb hx3 (yv_not rfl rfl)) ?_
 refine sqv rfl (yv_move rfl rfl) ?_
 rcases x3 with _ | _
 ·
  replace h := brF h
  refine sqv rfl (yv_fa fa36_0 rfl rfl) ?_
  obtain ⟨x5, hx5, h⟩ := letX h
  refine sqv rfl (yxi hx5 (yv_ldb ti3 rfl rfl (rd_bl at0) ((Sub.refl _).trans (SSig.s0 p2)) (Ty.len _ _) (fun _ => rfl))) ?_
  obtain ⟨y6, hy6, h⟩ := bdE h
  refine sq rfl (so_callv pf238 rfl rfl rfl rfl (fun σ hs => F238_c hy6 σ.w σ.O hs.olt) ?_)
  obtain ⟨x7, hx7, h⟩ := letX h
  refine sqv rfl (yxb hx7 (yv_not rfl rfl)) ?_
  refine sqv rfl (yv_pick_f rfl rfl rfl) ?_
  refine sqv rfl (yv_move rfl rfl) ?_
  rcases x7 with _ | _
  ·
   replace h := brF h
   refine sqv rfl (yv_fa fa36_1 rfl rfl) ?_
   obtain ⟨x9, hx9, h⟩ := letX h
   refine sqv rfl (yxi hx9 (yv_ldb ti3 rfl rfl (rd_bl at0) ((Sub.refl _).trans (SSig.s1 p2)) (Ty.len _ _) (fun _ => rfl))) ?_
   obtain ⟨y10, hy10, h⟩ := bdE h
   refine sq rfl (so_callv pf238 rfl rfl rfl rfl (fun σ hs => F238_c hy10 σ.w σ.O hs.olt) ?_)
   obtain ⟨x11, hx11, h⟩ := letX h
   refine sqv rfl (yxb hx11 (yv_not rfl rfl)) ?_
   refine sqv rfl (yv_pick_f rfl rfl rfl) ?_
   refine jl_nil ?_
   refine jx_then_n ?_
   exact nj_weak (hj0 x11 h) ⟨rfl, rfl, rfl, rfl, rfl, trivial⟩ (.cons de0 .nil) (.cons at0 .nil)
  ·
   replace h := brT h
   refine sq_skip rfl ?_
   refine sq_skip rfl ?_
   refine sq_skip rfl ?_
   refine sq_skip rfl ?_
   refine sqv rfl (yv_pick_t rfl rfl rfl) ?_
   refine jl_nil ?_
   refine jx_then_n ?_
   exact nj_weak (hj0 true h) ⟨rfl, rfl, rfl, rfl, rfl, trivial⟩ (.cons de0 .nil) (.cons at0 .nil)
 ·
  replace h := brT h
  refine sq_skip rfl ?_
  refine sq_skip rfl ?_
  refine sq_skip rfl ?_
  refine sq_skip rfl ?_
  refine sqv rfl (yv_pick_t rfl rfl rfl) ?_
  refine sqv rfl (yv_move rfl rfl) ?_
  refine sq_skip rfl ?_
  refine sq_skip rfl ?_
  refine sq_skip rfl ?_
  refine sq_skip rfl ?_
  refine sqv rfl (yv_pick_t rfl rfl rfl) ?_
  refine jl_nil ?_
  refine jx_then_n ?_
  exact nj_weak (hj0 true h) ⟨rfl, rfl, rfl, rfl, rfl, trivial⟩ (.cons de0 .nil) (.cons at0 .nil)
theorem F87_c {p0 : SView} {p1 : Int} {p2 : (List SOp)} {p3 : (List SVote)} {r : Int} (h : F87 p0 p1 p2 p3 = some r) (w0 : World) (O0 : Nat → Prop) (hO : ∀ k, O0 k → k < w0.heap.size) (v2 : Sl) (v3 : Sl) (k0 : (fa false (mRow tySOp) v2 p2).p ⟨w0, O0, inL []⟩) (k1 : (fa false (mRow tySVote) v3 p3).p ⟨w0, O0, inL []⟩) :
  CallsP Tryz.prog 87 (List.toArray [ag (tySView.enc p0), .int .i64 p1, sv v2, sv v3]) w0 O0 [] (RV (.int .i64 r)) := by
 unfold F87 at h
 refine calls_start (e := [(0, ag (tySView.enc p0)), (1, .int .i64 p1), (2, sv v2), (3, sv v3)]) (L := []) (K := [fa false (mRow tySOp) v2 p2, fa false (mRow tySVote) v3 p3]) Tryz.func87 rfl rfl rfl ⟨rfl, rfl, rfl, rfl, trivial⟩ hO (by simp) .nil (alc k0 (alc k1 aln)) ?_
 refine jc_seq ?_
 refine jc_reg ?_
 refine sq rfl (so_boxa (by decide) rfl rfl rfl fun b1 => ?_)
 refine sqv rfl (yv_assign rfl rfl) ?_
 refine jl_nil ?_
 refine jx_then ?_
 refine jc_seq ?_
 refine jc_seq_n ?_
 intro N0 hN0
 have hj0 : ∀ (j8 : Bool), F87_j0 p2 p0 p1 p3 j8 = some r → NJ 83 w0 O0 [] N0 [(1, .int .i64 p1), (2, sv v2), (3, sv v3), (4, pt b1 0), (8, .int .i64 0), (24, .bool j8)] [.blk b1 64 (tySView.enc p0)] [fa false (mRow tySOp) v2 p2, fa false (mRow tySVote) v3 p3] := by
  intro j8 h
  unfold F87_j0 at h
  refine nj_abs hN0 ?_
  rcases j8 with _ | _
  ·
   replace h := brF h
   refine jc_f rfl ?_
   refine jc_skip ?_
   refine jx_then ?_
   refine jc_seq ?_
   refine jc_seq ?_
   refine jc_reg ?_
   refine sqv rfl (yv_move rfl rfl) ?_
   obtain ⟨x3_9, hx3_9, h⟩ := letX h
   refine sqv rfl (yv_len isl31 rfl rfl (rd_f at0) hx3_9) ?_
   obtain ⟨x4_9, hx4_9, h⟩ := letX h
   refine sqv rfl (yxb hx4_9 (yv_eql rfl rfl rfl)) ?_
   refine jl_nil ?_
   refine jx_then ?_
   rcases x4_9 with _ | _
   ·
    replace h := brF h
    refine jc_f rfl ?_
    refine jc_skip ?_
    refine jx_then ?_
    refine jc_seq ?_
    refine jc_seq ?_
    refine jc_reg ?_
    refine sqv rfl (yv_ldb ti64 rfl rfl (rd_bl at0) (Sub.refl _) (Ty.len _ _) (by simp)) ?_
    refine sqv rfl (yv_move rfl rfl) ?_
    refine sqv rfl (yv_move rfl rfl) ?_
    obtain ⟨y7_9, hy7_9, h⟩ := bdE h
    refine sq rfl (so_callv pf88 rfl rfl rfl rfl (fun σ hs => F88_c hy7_9 σ.w σ.O hs.olt v2 (cw0 (rd_f at0) hs)) ?_)
    refine sqv rfl (yv_move rfl rfl) ?_
    refine sqv rfl (yv_ext rfl rfl rfl) ?_
    refine sqv rfl (yv_ext rfl rfl rfl) ?_
    refine sqv rfl (yv_ext rfl rfl rfl) ?_
    refine sqv rfl (yv_ext rfl rfl rfl) ?_
    refine sq rfl (so_alloc ti64 (by decide) rfl rfl fun b8_9 => ?_)
    refine sq rfl (so_alloc ti62 (by decide) rfl rfl fun b9_9 => ?_)
    refine sq rfl (so_alloc ti62 (by decide) rfl rfl fun b10_9 => ?_)
    refine sq rfl (so_sta ti64 rfl rfl rfl rfl (Upd.refl (by simp [Ty.len])) (Ty.len _ _) (Ty.one _ _) (xs' := tySView.enc y7_9.1) se2 ?_)
    refine sq rfl (so_sta ti62 rfl rfl rfl rfl (Upd.refl (by simp [Ty.len])) (Ty.len _ _) (Ty.one _ _) (xs' := (Ty.arr 8 tyB).enc y7_9.2.1) se1 ?_)
    refine sq rfl (so_sta ti62 rfl rfl rfl rfl (Upd.refl (by simp [Ty.len])) (Ty.len _ _) (Ty.one _ _) (xs' := (Ty.arr 8 tyB).enc y7_9.2.2.1) se0 ?_)
    refine sqv rfl (yv_assign rfl rfl) ?_
    refine jl_nil ?_
    refine jx_then ?_
    refine jc_seq ?_
    refine jc_reg ?_
    refine sqv rfl (yv_move rfl rfl) ?_
    obtain ⟨x11_9, hx11_9, h⟩ := letX h
    refine sqv rfl (yxb hx11_9 (yv_neq rfl rfl rfl)) ?_
    refine jl_nil ?_
    refine jx_then ?_
    rcases x11_9 with _ | _
    ·
     replace h := brF h
     refine jc_f rfl ?_
     refine jc_skip ?_
     refine jx_then ?_
     refine jc_seq ?_
     refine jc_reg ?_
     refine sqv rfl (yv_ldb ti64 rfl rfl (rd_bl at3) (Sub.refl _) (Ty.len _ _) (by simp)) ?_
     refine sqv rfl (yv_move rfl rfl) ?_
     refine sqv rfl (yv_move rfl rfl) ?_
     obtain ⟨y14_9, hy14_9, h⟩ := bdE h
     refine sq rfl (so_callv pf155 rfl rfl rfl rfl (fun σ hs => F155_c hy14_9 σ.w σ.O hs.olt v2 (cw0 (rd_f at0) hs)) ?_)
     refine sq rfl (so_alloc ti25 (by decide) rfl rfl fun b15_9 => ?_)
     refine sq rfl (so_sta ti25 rfl rfl rfl rfl (Upd.refl (by simp [Ty.len])) (Ty.len _ _) (Ty.one _ _) (xs' := (Ty.arr 32 (tyI .u8)).enc y14_9) se0 ?_)
     refine jl_nil ?_
     refine jx_then ?_
     refine jc_seq ?_
     refine jc_reg ?_
     refine sqv rfl (yv_assign rfl rfl) ?_
     refine jl_nil ?_
     refine jx_then ?_
     refine jc_seq ?_
     refine jc_seq ?_
     refine jc_reg ?_
     refine sqv rfl (yv_move rfl rfl) ?_
     obtain ⟨x16_9, hx16_9, h⟩ := letX h
     refine sqv rfl (yv_len isl32 rfl rfl (rd_f at1) hx16_9) ?_
     refine sqv rfl (yv_move rfl rfl) ?_
     refine jl_nil ?_
     refine jx_then ?_
     refine jc_block ?_
     refine jc_loop ?_
     intro B0 Q0 hB0 hQ0
     have key0 : ∀ (k0 : Nat) (j269_9 : Int) (j270_9 : Int), F87_l0 x16_9 p3 p0 y14_9 k0 j269_9 j270_9 = some r → JW 83 w0 O0 [] Tryz.prog B0 Q0 [(3, sv v3), (4, pt b1 0), (8, .int .i64 0), (13, pt b15_9 0), (14, .int .i64 j269_9), (44, sv v3), (45, .int .i64 x16_9), (46, .int .i64 j270_9)] [.blk b15_9 25 ((Ty.arr 32 (tyI .u8)).enc y14_9), .blk b1 64 (tySView.enc p0)] [fa false (mRow tySVote) v3 p3] := by
      intro k0
      induction k0 with
      | zero => intro j269_9 j270_9 h; cases h
      | succ k0 ih0 =>
       intro j269_9 j270_9 h
       unfold F87_l0 at h
       refine jw_round hB0 ?_
       refine jc_seq ?_
       refine jc_reg ?_
       obtain ⟨x271_9, hx271_9, h⟩ := letX h
       refine sqv rfl (yxb hx271_9 (yv_lss rfl rfl rfl)) ?_
       refine jl_nil ?_
       refine jx_then ?_
       refine jc_seq ?_
       rcases x271_9 with _ | _
       ·
        replace h := brF h
        refine jc_f rfl ?_
        refine jc_exit ?_
        refine jx_te ?_
        refine jx_te ?_
        refine jx_abs hQ0 ?_
        refine jx_hit ?_
        refine jx_then ?_
        refine jc_seq ?_
        refine jc_seq ?_
        refine jc_reg ?_
        refine sqv rfl (yv_move rfl rfl) ?_
        obtain ⟨x320_9, hx320_9, h⟩ := letX h
        refine sqv rfl (yv_len isl32 rfl rfl (rd_f at0) hx320_9) ?_
        refine sqv rfl (yv_fa fa64_3 rfl rfl) ?_
        obtain ⟨x321_9, hx321_9, h⟩ := letX h
        refine sqv rfl (yxi hx321_9 (yv_ldb ti3 rfl rfl (rd_bl at1) ((Sub.refl _).trans (SView.s3 p0)) (Ty.len _ _) (fun _ => rfl))) ?_
        obtain ⟨x322_9, hx322_9, h⟩ := letX h
        refine sqv rfl (yxb hx322_9 (yv_lss rfl rfl rfl)) ?_
        refine jl_nil ?_
        refine jx_then ?_
        rcases x322_9 with _ | _
        ·
         replace h := brF h
         refine jc_f rfl ?_
         refine jc_skip ?_
         refine jx_then ?_
         refine jc_seq ?_
         refine jc_reg ?_
         refine sqv rfl (yv_assign rfl rfl) ?_
         refine jl_nil ?_
         refine jx_then ?_
         refine jc_ret ?_
         cases h
         exact jx_ret rfl (rr_tmp rfl rr_nil) ⟨rfl, rfl, rfl, rfl⟩ .nil .nil rfl (by simp)
        ·
         replace h := brT h
         refine jc_t rfl ?_
         refine jc_seq ?_
         refine jc_reg ?_
         refine sqv rfl (yv_assign rfl rfl) ?_
         refine jl_nil ?_
         refine jx_then ?_
         refine jc_ret ?_
         refine jx_tr ?_
         cases h
         exact jx_ret rfl (rr_tmp rfl rr_nil) ⟨rfl, rfl, rfl, rfl⟩ .nil .nil rfl (by simp)
       ·
        replace h := brT h
        refine jc_t rfl ?_
        refine jc_skip ?_
        refine jx_then ?_
        refine jc_seq ?_
        refine jc_block ?_
        refine jc_seq ?_
        refine jc_reg ?_
        obtain ⟨g297_9, h⟩ := gdE h
        refine nj_open (rd_f at0) g297_9 fun b298_9 o299_9 ha_b298_9 => ?_
        refine sqv rfl (yv_is is32 rfl rfl rfl ha_b298_9 (rd_f at0) g297_9) ?_
        obtain ⟨x300_9, hx300_9, h⟩ := letX h
        refine sqv rfl (yxg (C := tySVote) hx300_9 (yv_lds ti182 rfl rfl ha_b298_9 (rd_f at0) (many_sub' tySVote p3 j270_9 g297_9) rfl (Ty.len _ _) (by simp))) ?_
        refine sq rfl (so_alloc ti182 (by decide) rfl rfl fun b301_9 => ?_)
        refine sq rfl (so_sta ti182 rfl rfl rfl rfl (Upd.refl (by simp [Ty.len])) (Ty.len _ _) (Ty.one _ _) (xs' := tySVote.enc x300_9) se0 ?_)
        refine jl_nil ?_
        refine jx_then ?_
        refine jc_seq ?_
        refine jc_block ?_
        refine jc_seq_n ?_
        intro N1 hN1
        have hj1 : ∀ (j318_9 : Bool), F87_j1 x300_9 p0 y14_9 j270_9 (F87_l0 x16_9 p3 p0 y14_9 k0) j318_9 = some r → NJ 83 w0 O0 [] N1 [(3, sv v3), (4, pt b1 0), (8, .int .i64 0), (13, pt b15_9 0), (14, .int .i64 j269_9), (16, pt b301_9 0), (44, sv v3), (45, .int .i64 x16_9), (46, .int .i64 j270_9), (50, .bool j318_9)] [.blk b301_9 182 (tySVote.enc x300_9), .blk b15_9 25 ((Ty.arr 32 (tyI .u8)).enc y14_9), .blk b1 64 (tySView.enc p0)] [fa false (mRow tySVote) v3 p3] := by
         intro j318_9 h
         unfold F87_j1 at h
         refine nj_abs hN1 ?_
         rcases j318_9 with _ | _
         ·
          replace h := brF h
          refine jc_f rfl ?_
          refine jc_seq ?_
          refine jc_regd (k := 13) hmix rfl [([], .blk b301_9 182 (tySVote.enc x300_9)), ([], .blk b1 64 (tySView.enc p0))] [] (.cons at0 (.cons at2 .nil)) .nil ?_
          refine tk (i := 0) rfl (by kernel_rfl) rfl (yv_fa fa182_0 rfl rfl) .nil .nil ?_
          obtain ⟨x1_9_319, hx1_9_319, h⟩ := letX h
          refine tk (i := 1) rfl (by kernel_rfl) rfl (yxi hx1_9_319 (yv_ldb ti3 rfl rfl (rd_bl at0) ((Sub.refl _).trans (SVote.s0 x300_9)) (Ty.len _ _) (fun _ => rfl))) (.cons at0 (by kernel_rfl) .nil) .nil ?_
          refine tk (i := 2) rfl (by kernel_rfl) rfl (yv_fa fa64_1 rfl rfl) .nil .nil ?_
          refine tk (i := 3) rfl (by kernel_rfl) rfl (yv_fa fa61_0 rfl rfl) .nil .nil ?_
          obtain ⟨g2_9_319, h⟩ := gdE h
          refine tk (i := 4) rfl (by kernel_rfl) rfl (yv_ia ia58 rfl rfl rfl g2_9_319) .nil .nil ?_
          refine tk (i := 5) rfl (by kernel_rfl) rfl (yv_fa fa51_0 rfl rfl) .nil .nil ?_
          obtain ⟨x3_9_319, hx3_9_319, h⟩ := letX h
          refine tk (i := 6) rfl (by kernel_rfl) rfl (yxi hx3_9_319 (yv_ldb ti3 rfl rfl (rd_bl at0) (((((Sub.refl _).trans (SView.s1 p0)).trans (STree.s0 p0.Tree)).trans (arr_sub tySLeaf p0.Tree.Leaves x1_9_319 g2_9_319)).trans (SLeaf.s0 (vat p0.Tree.Leaves x1_9_319))) (Ty.len _ _) (fun _ => rfl))) (.cons at1 (by kernel_rfl) .nil) .nil ?_
          refine tk (i := 7) rfl (by kernel_rfl) rfl (yv_sla1 ia25 rfl rfl) .nil .nil ?_
          refine tk (i := 8) rfl (by kernel_rfl) rfl (yv_fa fa182_1 rfl rfl) .nil .nil ?_
          obtain ⟨x4_9_319, hx4_9_319, h⟩ := letX h
          refine tk (i := 9) rfl (by kernel_rfl) rfl (yxg (C := tySSig) hx4_9_319 (yv_ldb ti36 rfl rfl (rd_bl at0) ((Sub.refl _).trans (SVote.s1 x300_9)) (Ty.len _ _) (by simp))) (.cons at0 (by kernel_rfl) .nil) .nil ?_
          obtain ⟨y5_9_319, hy5_9_319, h⟩ := bdE h
          refine jg_one (i := 10) (by kernel_rfl) (gst rfl rfl (so_callv pf157 rfl rfl rfl rfl (fun σ hs => F157_c hy5_9_319 σ.w σ.O hs.olt (⟨some ⟨b15_9, 0, none⟩, 32, 32⟩ : Sl) (cw0 (rq_arr (rd_bl at1) (Sub.refl _) (by decide)) hs)) ?_))
          refine ng (.cons at0 (.cons at2 .nil)) .nil ?_
          obtain ⟨x6_9_319, hx6_9_319, h⟩ := letX h
          refine tk (i := 11) rfl (by kernel_rfl) rfl (yxb hx6_9_319 (yv_not rfl rfl)) .nil .nil ?_
          refine tk (i := 12) rfl (by kernel_rfl) rfl (yv_assign rfl rfl) .nil .nil ?_
          refine jg_nil (by kernel_rfl) ?_
          refine jx_then ?_
          rcases x6_9_319 with _ | _
          ·
           replace h := brF h
           refine jc_f rfl ?_
           refine jc_skip ?_
           refine jx_blk ?_
           refine jx_then ?_
           refine jc_reg ?_
           refine sqv rfl (yv_fa fa182_0 rfl rfl) ?_
           obtain ⟨x7_9_319, hx7_9_319, h⟩ := letX h
           refine sqv rfl (yxi hx7_9_319 (yv_ldb ti3 rfl rfl (rd_bl at0) ((Sub.refl _).trans (SVote.s0 x300_9)) (Ty.len _ _) (fun _ => rfl))) ?_
           refine sqv rfl (yv_assign rfl rfl) ?_
           refine jl_nil ?_
           refine jx_blk ?_
           refine jx_then ?_
           refine jc_reg ?_
           obtain ⟨x8_9_319, hx8_9_319, h⟩ := letX h
           refine sqv rfl (yxi hx8_9_319 (yv_add rfl rfl rfl)) ?_
           refine sqv rfl (yv_move rfl rfl) ?_
           refine jl_nil ?_
           refine jx_again ?_
           exact nj_weak (ih0 x7_9_319 x8_9_319 h) ⟨rfl, rfl, rfl, rfl, rfl, rfl, rfl, rfl, trivial⟩ (.cons de1 (.cons de1 .nil)) (.cons at0 .nil)
          ·
           replace h := brT h
           refine jc_t rfl ?_
           refine jc_seq ?_
           refine jc_reg ?_
           refine sqv rfl (yv_assign rfl rfl) ?_
           refine jl_nil ?_
           refine jx_then ?_
           refine jc_ret ?_
           refine jx_br ?_
           refine jx_tr ?_
           refine jx_br ?_
           refine jx_tr ?_
           refine jx_tr ?_
           refine jx_abs hQ0 ?_
           refine jx_br ?_
           refine jx_tr ?_
           cases h
           exact jx_ret rfl (rr_tmp rfl rr_nil) ⟨rfl, rfl, rfl, rfl⟩ .nil .nil rfl (by simp)
         ·
          replace h := brT h
          refine jc_t rfl ?_
          refine jc_seq ?_
          refine jc_reg ?_
          refine sqv rfl (yv_assign rfl rfl) ?_
          refine jl_nil ?_
          refine jx_then ?_
          refine jc_ret ?_
          refine jx_br ?_
          refine jx_tr ?_
          refine jx_br ?_
          refine jx_tr ?_
          refine jx_tr ?_
          refine jx_abs hQ0 ?_
          refine jx_br ?_
          refine jx_tr ?_
          cases h
          exact jx_ret rfl (rr_tmp rfl rr_nil) ⟨rfl, rfl, rfl, rfl⟩ .nil .nil rfl (by simp)
        refine jc_reg ?_
        refine sqv rfl (yv_ldb ti64 rfl rfl (rd_bl at2) (Sub.refl _) (Ty.len _ _) (by simp)) ?_
        refine sqv rfl (yv_fa fa182_0 rfl rfl) ?_
        obtain ⟨x311_9, hx311_9, h⟩ := letX h
        refine sqv rfl (yxi hx311_9 (yv_ldb ti3 rfl rfl (rd_bl at0) ((Sub.refl _).trans (SVote.s0 x300_9)) (Ty.len _ _) (fun _ => rfl))) ?_
        obtain ⟨y312_9, hy312_9, h⟩ := bdE h
        refine sq rfl (so_callv pf156 rfl rfl rfl rfl (fun σ hs => F156_c hy312_9 σ.w σ.O hs.olt) ?_)
        obtain ⟨x313_9, hx313_9, h⟩ := letX h
        refine sqv rfl (yxb hx313_9 (yv_not rfl rfl)) ?_
        refine sqv rfl (yv_move rfl rfl) ?_
        rcases x313_9 with _ | _
        ·
         replace h := brF h
         refine sqv rfl (yv_fa fa182_0 rfl rfl) ?_
         obtain ⟨x315_9, hx315_9, h⟩ := letX h
         refine sqv rfl (yxi hx315_9 (yv_ldb ti3 rfl rfl (rd_bl at0) ((Sub.refl _).trans (SVote.s0 x300_9)) (Ty.len _ _) (fun _ => rfl))) ?_
         refine sqv rfl (yv_move rfl rfl) ?_
         obtain ⟨x316_9, hx316_9, h⟩ := letX h
         refine sqv rfl (yxb hx316_9 (yv_leq rfl rfl rfl)) ?_
         refine sqv rfl (yv_pick_f rfl rfl rfl) ?_
         refine sqv rfl (yv_assign rfl rfl) ?_
         refine jl_nil ?_
         refine jx_then_n ?_
         exact nj_weak (hj1 x316_9 h) ⟨rfl, rfl, rfl, rfl, rfl, rfl, rfl, rfl, rfl, rfl, trivial⟩ (.cons de0 (.cons de0 (.cons de0 .nil))) (.cons at0 .nil)
        ·
         replace h := brT h
         refine sq_skip rfl ?_
         refine sq_skip rfl ?_
         refine sq_skip rfl ?_
         refine sq_skip rfl ?_
         refine sqv rfl (yv_pick_t rfl rfl rfl) ?_
         refine sqv rfl (yv_assign rfl rfl) ?_
         refine jl_nil ?_
         refine jx_then_n ?_
         exact nj_weak (hj1 true h) ⟨rfl, rfl, rfl, rfl, rfl, rfl, rfl, rfl, rfl, rfl, trivial⟩ (.cons de0 (.cons de0 (.cons de0 .nil))) (.cons at0 .nil)
     exact nj_weak (key0 FUEL (-1) 0 h) ⟨rfl, rfl, rfl, rfl, rfl, rfl, rfl, rfl, trivial⟩ (.cons de0 (.cons de3 .nil)) (.cons at1 .nil)
    ·
     replace h := brT h
     refine jc_t rfl ?_
     refine jc_seq ?_
     refine jc_reg ?_
     refine sqv rfl (yv_move rfl rfl) ?_
     refine sqv rfl (yv_assign rfl rfl) ?_
     refine jl_nil ?_
     refine jx_then ?_
     refine jc_ret ?_
     refine jx_tr ?_
     cases h
     exact jx_ret rfl (rr_tmp rfl rr_nil) ⟨rfl, rfl, rfl, rfl⟩ .nil .nil rfl (by simp)
   ·
    replace h := brT h
    refine jc_t rfl ?_
    refine jc_seq ?_
    refine jc_reg ?_
    refine sqv rfl (yv_assign rfl rfl) ?_
    refine jl_nil ?_
    refine jx_then ?_
    refine jc_ret ?_
    refine jx_tr ?_
    cases h
    exact jx_ret rfl (rr_tmp rfl rr_nil) ⟨rfl, rfl, rfl, rfl⟩ .nil .nil rfl (by simp)
  ·
   replace h := brT h
   refine jc_t rfl ?_
   refine jc_seq ?_
   refine jc_reg ?_
   refine sqv rfl (yv_assign rfl rfl) ?_
   refine jl_nil ?_
   refine jx_then ?_
   refine jc_ret ?_
   refine jx_tr ?_
   cases h
   exact jx_ret rfl (rr_tmp rfl rr_nil) ⟨rfl, rfl, rfl, rfl⟩ .nil .nil rfl (by simp)
 refine jc_reg ?_
 refine sqv rfl (yv_move rfl rfl) ?_
 obtain ⟨x2, hx2, h⟩ := letX h
 refine sqv rfl (yv_len isl31 rfl rfl (rd_f at0) hx2) ?_
 obtain ⟨x3, hx3, h⟩ := letX h
 refine sqv rfl (yxb hx3 (yv_eql rfl rfl rfl)) ?_
 refine sqv rfl (yv_move rfl rfl) ?_
 rcases x3 with _ | _
 ·
  replace h := brF h
  refine sq_skip rfl ?_
  refine sq_skip rfl ?_
  refine sq_skip rfl ?_
  refine sqv rfl (yv_pick_f rfl rfl rfl) ?_
  refine jl_nil ?_
  refine jx_then_n ?_
  exact nj_weak (hj0 false h) ⟨rfl, rfl, rfl, rfl, rfl, rfl, trivial⟩ (.cons de0 .nil) (.cons at0 (.cons at1 .nil))
 ·
  replace h := brT h
  refine sqv rfl (yv_move rfl rfl) ?_
  obtain ⟨x4, hx4, h⟩ := letX h
  refine sqv rfl (yv_len isl32 rfl rfl (rd_f at1) hx4) ?_
  obtain ⟨x5, hx5, h⟩ := letX h
  refine sqv rfl (yxb hx5 (yv_gtr rfl rfl rfl)) ?_
  refine sqv rfl (yv_pick_t rfl rfl rfl) ?_
  refine jl_nil ?_
  refine jx_then_n ?_
  exact nj_weak (hj0 x5 h) ⟨rfl, rfl, rfl, rfl, rfl, rfl, trivial⟩ (.cons de0 .nil) (.cons at0 (.cons at1 .nil))
theorem F45_c {p0 : (Option SpartyParty)} {r : (Option SpartyParty)} (h : F45 p0 = some r) (w0 : World) (O0 : Nat → Prop) (hO : ∀ k, O0 k → k < w0.heap.size) (v0 : (Option Addr)) (k0 : (fa true (mPt tyVpartyParty mSpartyParty) v0 p0).p ⟨w0, O0, inL []⟩) :
  CallsP Tryz.prog 45 (List.toArray [.pointer v0]) w0 O0 [] (RX (fun x : (Option Addr) × VpartyParty => .pointer x.1) (fun x => [.opt x.1 143 (tyVpartyParty.enc x.2)]) (fun x => [fa true (mOp mSpartyParty) x.2 r, fa true (mIsS SpartyParty) x.1 r])) := by
 unfold F45 at h
 refine calls_start (e := [(0, .pointer v0)]) (L := []) (K := [fa true (mPt tyVpartyParty mSpartyParty) v0 p0]) Tryz.func45 rfl rfl rfl ⟨rfl, trivial⟩ hO (by simp) .nil (alc k0 aln) ?_
 refine jc_seq ?_
 refine jc_reg ?_
 refine sqv rfl (yv_assign rfl rfl) ?_
 refine jl_nil ?_
 refine jx_then ?_
 refine jc_seq ?_
 refine jc_seq ?_
 refine jc_reg ?_
 refine sqv rfl (yv_move rfl rfl) ?_
 rcases moE h with ⟨hm_x1, h⟩ | ⟨x1, hm_x1, h⟩
 ·
  skip
  refine nj_pn0 at0 hm_x1 fun hn_n2 => ?_
  refine sqv rfl (yv_pn ipt22 rfl rfl rfl hn_n2) ?_
  refine jl_nil ?_
  refine jx_then ?_
  refine jc_t rfl ?_
  refine jc_seq ?_
  refine jc_reg ?_
  refine sqv rfl (yv_assign rfl rfl) ?_
  refine jl_nil ?_
  refine jx_then ?_
  refine jc_ret ?_
  refine jx_tr ?_
  refine nj_noopt 143 tyVpartyParty VpartyParty.zero mSpartyParty rfl ?_
  cases h
  exact jx_ret rfl (rr_tmp rfl rr_nil) ⟨((none : Option Addr), VpartyParty.zero), rfl, rfl, rfl, rfl⟩ (.cons de0 .nil) (.cons at1 (.cons at0 .nil)) rfl (by simp)
 ·
  skip
  refine nj_pn1 at0 hm_x1 fun hn_n4 => ?_
  refine sqv rfl (yv_pn ipt22 rfl rfl rfl hn_n4) ?_
  refine jl_nil ?_
  refine jx_then ?_
  refine jc_f rfl ?_
  refine jc_skip ?_
  refine jx_then ?_
  refine jc_seq ?_
  refine jc_reg ?_
  refine sqv rfl (yv_move rfl rfl) ?_
  refine nj_xptX at0 hm_x1 fun b6 u7_ hv_b6 => ?_
  refine nj_xSpartyParty at1 fun u7_2 hu7 => ?_
  subst hu7
  refine sqv rfl (yv_nilp rfl rfl hv_b6) ?_
  refine sqv rfl (yv_ldb ti143 rfl rfl (rd_f at1) (Sub.refl _) (Ty.len _ _) (by simp)) ?_
  refine sq rfl (so_alloc ti143 (by decide) rfl rfl fun b8 => ?_)
  refine sq rfl (so_sta ti143 rfl rfl rfl rfl (Upd.refl (xs := (tyVpartyParty.enc (⟨SView.zero, (0 : Int), (none : Option Addr), (Vector.replicate 32 (0 : Int)), (Vector.replicate 3 false), (Vector.replicate 3 (Vector.replicate 32 (0 : Int))), (Vector.replicate 32 (0 : Int)), (Vector.replicate 32 (0 : Int))⟩ : VpartyParty))) (ys := (tyVpartyParty.enc (⟨x1.v, x1.leaf, u7_2, x1.own, x1.has', x1.nodes, x1.epoch, x1.init'⟩ : VpartyParty))) (by simp only [Ty.len])) (Ty.len _ _) (Ty.one _ _) (xs' := tyVpartyParty.enc (⟨x1.v, x1.leaf, u7_2, x1.own, x1.has', x1.nodes, x1.epoch, x1.init'⟩ : VpartyParty)) se0 ?_)
  refine jl_nil ?_
  refine jx_then ?_
  refine jc_seq ?_
  refine jc_reg ?_
  refine sqv rfl (yv_assign rfl rfl) ?_
  refine jl_nil ?_
  refine jx_then ?_
  refine jc_ret ?_
  refine nj_toopt (C := tyVpartyParty) (m := mSpartyParty) (q := (⟨x1.v, x1.leaf, x1.signer, x1.own, x1.has', x1.nodes, x1.epoch, x1.init'⟩ : SpartyParty)) de0 (rq_SpartyParty (rs_f at0)) ?_
  cases h
  exact jx_ret rfl (rr_tmp rfl rr_nil) ⟨((some ⟨b8, 0, none⟩), (⟨x1.v, x1.leaf, u7_2, x1.own, x1.has', x1.nodes, x1.epoch, x1.init'⟩ : VpartyParty)), rfl, rfl, rfl, rfl⟩ (.cons de0 .nil) (.cons at1 (.cons at0 .nil)) rfl (by simp)
theorem F206_c {p0 : (Vector Int 32)} {r : (Vector Int 32)} (h : F206 p0 = some r) (w0 : World) (O0 : Nat → Prop) (hO : ∀ k, O0 k → k < w0.heap.size) :
  CallsP Tryz.prog 206 (List.toArray [ag ((Ty.arr 32 (tyI .u8)).enc p0)]) w0 O0 [] (RV (ag ((Ty.arr 32 (tyI .u8)).enc r))) := by
 unfold F206 at h
 refine calls_start (e := [(0, ag ((Ty.arr 32 (tyI .u8)).enc p0))]) (L := []) (K := []) Tryz.func206 rfl rfl rfl ⟨rfl, trivial⟩ hO (by simp) .nil aln ?_
 refine jc_seq ?_
 refine jc_reg ?_
 refine sq rfl (so_boxa (by decide) rfl rfl rfl fun b1 => ?_)
 refine sq rfl (so_alloc ti25 (by decide) rfl rfl fun b2 => ?_)
 refine jl_nil ?_
 refine jx_then ?_
 refine jc_seq ?_
 refine jc_reg ?_
 refine sqv rfl (yv_ldb ti25 rfl rfl (rd_bl at1) (Sub.refl _) (Ty.len _ _) (by simp)) ?_
 obtain ⟨y3, hy3, h⟩ := bdE h
 refine sq rfl (so_callv pf83 rfl rfl rfl rfl (fun σ hs => F83_c hy3 σ.w σ.O hs.olt (⟨none, 0, 0⟩ : Sl) (cw0 (rq_sl rq_nil rq_al0) hs)) ?_)
 refine sq rfl (so_sta ti25 rfl rfl rfl rfl (Upd.refl (by simp [Ty.len])) (Ty.len _ _) (Ty.one _ _) (xs' := (Ty.arr 32 (tyI .u8)).enc y3) se0 ?_)
 refine jl_nil ?_
 refine jx_then ?_
 refine jc_ret ?_
 cases h
 exact jx_ret rfl (rr_cella ti25 rfl at0 (Ty.len _ _) rr_nil) ⟨rfl, rfl, rfl, rfl⟩ .nil .nil rfl (by simp)
theorem F165_c {p0 : (Vector Int 32)} {r : (Vector (Vector Int 32) 3) × (Vector Int 32)} (h : F165 p0 = some r) (w0 : World) (O0 : Nat → Prop) (hO : ∀ k, O0 k → k < w0.heap.size) :
  CallsP Tryz.prog 165 (List.toArray [ag ((Ty.arr 32 (tyI .u8)).enc p0)]) w0 O0 [] (RV (.tuple #[ag ((Ty.arr 3 (Ty.arr 32 (tyI .u8))).enc r.1), ag ((Ty.arr 32 (tyI .u8)).enc r.2)])) := by
 unfold F165 at h
 refine calls_start (e := [(0, ag ((Ty.arr 32 (tyI .u8)).enc p0))]) (L := []) (K := []) Tryz.func165 rfl rfl rfl ⟨rfl, trivial⟩ hO (by simp) .nil aln ?_
 refine jc_seq ?_
 refine jc_reg ?_
 refine sq rfl (so_boxa (by decide) rfl rfl rfl fun b1 => ?_)
 refine sq rfl (so_alloc ti141 (by decide) rfl rfl fun b2 => ?_)
 refine sq rfl (so_alloc ti25 (by decide) rfl rfl fun b3 => ?_)
 refine jl_nil ?_
 refine jx_then ?_
 refine jc_seq ?_
 refine jc_reg ?_
 refine sq rfl (so_alloc ti141 (by decide) rfl rfl fun b4 => ?_)
 refine jl_nil ?_
 refine jx_then ?_
 refine jc_seq ?_
 refine jc_seq ?_
 refine jc_reg ?_
 refine sqv rfl (yv_move rfl rfl) ?_
 refine jl_nil ?_
 refine jx_then ?_
 refine jc_block ?_
 refine jc_loop ?_
 intro B0 Q0 hB0 hQ0
 have key0 : ∀ (k0 : Nat) (j66 : Int) (j67 : (Vector (Vector Int 32) 3)) (j68 : (Vector Int 32)), F165_l0 k0 j66 j67 j68 = some r → JW 18 w0 O0 [] Tryz.prog B0 Q0 [(1, pt b1 0), (2, pt b2 0), (3, pt b3 0), (4, pt b4 0), (6, .int .i64 j66)] [.blk b4 141 ((Ty.arr 3 (Ty.arr 32 (tyI .u8))).enc j67), .blk b3 25 ((Ty.arr 32 (tyI .u8)).enc (Vector.replicate 32 (0 : Int))), .blk b2 141 ((Ty.arr 3 (Ty.arr 32 (tyI .u8))).enc (Vector.replicate 3 (Vector.replicate 32 (0 : Int)))), .blk b1 25 ((Ty.arr 32 (tyI .u8)).enc j68)] [] := by
  intro k0
  induction k0 with
  | zero => intro j66 j67 j68 h; cases h
  | succ k0 ih0 =>
   intro j66 j67 j68 h
   unfold F165_l0 at h
   refine jw_round hB0 ?_
   refine jc_seq ?_
   refine jc_reg ?_
   obtain ⟨x69, hx69, h⟩ := letX h
   refine sqv rfl (yxb hx69 (yv_lss rfl rfl rfl)) ?_
   refine jl_nil ?_
   refine jx_then ?_
   refine jc_seq ?_
   rcases x69 with _ | _
   ·
    replace h := brF h
    refine jc_f rfl ?_
    refine jc_exit ?_
    refine jx_te ?_
    refine jx_te ?_
    refine jx_abs hQ0 ?_
    refine jx_hit ?_
    refine jx_then ?_
    refine jc_seq ?_
    refine jc_regd (k := 5) hmix rfl [([], .blk b4 141 ((Ty.arr 3 (Ty.arr 32 (tyI .u8))).enc j67)), ([], .blk b1 25 ((Ty.arr 32 (tyI .u8)).enc j68))] [] (.cons at0 (.cons at3 .nil)) .nil ?_
    refine tk (i := 0) rfl (by kernel_rfl) rfl (yv_ldb ti141 rfl rfl (rd_bl at0) (Sub.refl _) (Ty.len _ _) (by simp)) (.cons at0 (by kernel_rfl) .nil) .nil ?_
    refine tk (i := 1) rfl (by kernel_rfl) rfl (yv_ldb ti25 rfl rfl (rd_bl at0) (Sub.refl _) (Ty.len _ _) (by simp)) (.cons at1 (by kernel_rfl) .nil) .nil ?_
    obtain ⟨y80, hy80, h⟩ := bdE h
    refine jg_one (i := 2) (by kernel_rfl) (gst rfl rfl (so_callv pf206 rfl rfl rfl rfl (fun σ hs => F206_c hy80 σ.w σ.O hs.olt) ?_))
    refine ng (.cons at0 (.cons at3 .nil)) .nil ?_
    refine jg_one (i := 3) (by kernel_rfl) (gst rfl rfl (so_sta ti141 rfl rfl rfl rfl (Upd.refl (by simp [Ty.len])) (Ty.len _ _) (Ty.one _ _) (xs' := (Ty.arr 3 (Ty.arr 32 (tyI .u8))).enc j67) se2 ?_))
    refine ng (.cons at0 (.cons at3 .nil)) .nil ?_
    refine jg_one (i := 4) (by kernel_rfl) (gst rfl rfl (so_sta ti25 rfl rfl rfl rfl (Upd.refl (by simp [Ty.len])) (Ty.len _ _) (Ty.one _ _) (xs' := (Ty.arr 32 (tyI .u8)).enc y80) se1 ?_))
    refine ng (.cons at0 (.cons at3 .nil)) .nil ?_
    refine jg_nil (by kernel_rfl) ?_
    refine jx_then ?_
    refine jc_ret ?_
    cases h
    exact jx_ret rfl (rr_cella ti141 rfl at2 (Ty.len _ _) (rr_cella ti25 rfl at1 (Ty.len _ _) rr_nil)) ⟨rfl, rfl, rfl, rfl⟩ .nil .nil rfl (by simp)
   ·
    replace h := brT h
    refine jc_t rfl ?_
    refine jc_skip ?_
    refine jx_then ?_
    refine jc_seq ?_
    refine jc_block ?_
    refine jc_seq ?_
    refine jc_reg ?_
    refine sqv rfl (yv_move rfl rfl) ?_
    refine sqv rfl (yv_assign rfl rfl) ?_
    refine jl_nil ?_
    refine jx_then ?_
    refine jc_seq ?_
    refine jc_reg ?_
    refine sqv rfl (yv_ldb ti25 rfl rfl (rd_bl at3) (Sub.refl _) (Ty.len _ _) (by simp)) ?_
    obtain ⟨y76, hy76, h⟩ := bdE h
    refine sq rfl (so_callv pf206 rfl rfl rfl rfl (fun σ hs => F206_c hy76 σ.w σ.O hs.olt) ?_)
    refine sq rfl (so_sta ti25 rfl rfl rfl rfl (Upd.refl (by simp [Ty.len])) (Ty.len _ _) (Ty.one _ _) (xs' := (Ty.arr 32 (tyI .u8)).enc y76) se3 ?_)
    refine jl_nil ?_
    refine jx_then ?_
    refine jc_reg ?_
    refine sqv rfl (yv_move rfl rfl) ?_
    refine sqv rfl (yv_ldb ti25 rfl rfl (rd_bl at3) (Sub.refl _) (Ty.len _ _) (by simp)) ?_
    obtain ⟨g77, h⟩ := gdE h
    refine sqv rfl (yv_ia ia141 rfl rfl rfl g77) ?_
    obtain ⟨c78, hc78, h⟩ := letX h
    refine sq rfl (so_staX (D := (Ty.arr 3 (Ty.arr 32 (tyI .u8)))) hc78 ti25 rfl rfl rfl rfl (Upd.comp (Sub.refl _) (arr_upd (Ty.arr 32 (tyI .u8)) j67 j66 y76 g77) (Upd.refl (by simp [Ty.len]))) (Ty.len _ _) (Ty.one _ _) se0 ?_)
    refine jl_nil ?_
    refine jx_blk ?_
    refine jx_then ?_
    refine jc_reg ?_
    obtain ⟨x79, hx79, h⟩ := letX h
    refine sqv rfl (yxi hx79 (yv_add rfl rfl rfl)) ?_
    refine sqv rfl (yv_move rfl rfl) ?_
    refine jl_nil ?_
    refine jx_again ?_
    exact nj_weak (ih0 x79 c78 y76 h) ⟨rfl, rfl, rfl, rfl, rfl, trivial⟩ (.cons de0 (.cons de0 (.cons de0 (.cons de0 .nil)))) .nil
 exact nj_weak (key0 FUEL 0 (Vector.replicate 3 (Vector.replicate 32 (0 : Int))) p0 h) ⟨rfl, rfl, rfl, rfl, rfl, trivial⟩ (.cons de0 (.cons de0 (.cons de0 (.cons de0 .nil)))) .nil
theorem F89_c {p0 : SpartyParty} {p1 : (Vector Int 32)} {p2 : SCommit} {r : (Vector Int 32) × SpartyParty × SCommit} (h : F89 p0 p1 p2 = some r) (w0 : World) (O0 : Nat → Prop) (hO : ∀ k, O0 k → k < w0.heap.size) (bp0 : Nat) (v0_2 : (Option Addr)) (bp2 : Nat) (v2_2 : Sl) (v2_3 : Sl) (v2_6 : Sl) (k0 : (fa true mKey v0_2 p0.signer).p ⟨w0, O0, inL [.blk bp0 143 (tyVpartyParty.enc (⟨p0.v, p0.leaf, v0_2, p0.own, p0.has', p0.nodes, p0.epoch, p0.init'⟩ : VpartyParty)), .blk bp2 38 (tyVCommit.enc (⟨p2.Epoch, p2.From, v2_2, v2_3, p2.Seal, p2.Path, v2_6, p2.Tag, p2.Sig⟩ : VCommit))]⟩) (k1 : (fa true (mRow tySOp) v2_2 p2.Ops).p ⟨w0, O0, inL [.blk bp0 143 (tyVpartyParty.enc (⟨p0.v, p0.leaf, v0_2, p0.own, p0.has', p0.nodes, p0.epoch, p0.init'⟩ : VpartyParty)), .blk bp2 38 (tyVCommit.enc (⟨p2.Epoch, p2.From, v2_2, v2_3, p2.Seal, p2.Path, v2_6, p2.Tag, p2.Sig⟩ : VCommit))]⟩) (k2 : (fa true (mRow tySVote) v2_3 p2.Votes).p ⟨w0, O0, inL [.blk bp0 143 (tyVpartyParty.enc (⟨p0.v, p0.leaf, v0_2, p0.own, p0.has', p0.nodes, p0.epoch, p0.init'⟩ : VpartyParty)), .blk bp2 38 (tyVCommit.enc (⟨p2.Epoch, p2.From, v2_2, v2_3, p2.Seal, p2.Path, v2_6, p2.Tag, p2.Sig⟩ : VCommit))]⟩) (k3 : (fa true (mSl tySl (mRow (tyI .u8))) v2_6 p2.Boxes).p ⟨w0, O0, inL [.blk bp0 143 (tyVpartyParty.enc (⟨p0.v, p0.leaf, v0_2, p0.own, p0.has', p0.nodes, p0.epoch, p0.init'⟩ : VpartyParty)), .blk bp2 38 (tyVCommit.enc (⟨p2.Epoch, p2.From, v2_2, v2_3, p2.Seal, p2.Path, v2_6, p2.Tag, p2.Sig⟩ : VCommit))]⟩) (hio : (Own.blk bp0 143 (tyVpartyParty.enc (⟨p0.v, p0.leaf, v0_2, p0.own, p0.has', p0.nodes, p0.epoch, p0.init'⟩ : VpartyParty))).holds w0 ∧ O0 bp0) (hio1 : (Own.blk bp2 38 (tyVCommit.enc (⟨p2.Epoch, p2.From, v2_2, v2_3, p2.Seal, p2.Path, v2_6, p2.Tag, p2.Sig⟩ : VCommit))).holds w0 ∧ O0 bp2) (hne : bp0 ≠ bp2) :
  CallsP Tryz.prog 89 (List.toArray [pt bp0 0, ag ((Ty.arr 32 (tyI .u8)).enc p1), pt bp2 0]) w0 O0 [bp0, bp2] (RXM2 (fun x : (Option Addr) × Sl × Sl × Sl => ag ((Ty.arr 32 (tyI .u8)).enc r.1)) (fun x => []) (fun x => .blk bp0 143 (tyVpartyParty.enc (⟨r.2.1.v, r.2.1.leaf, x.1, r.2.1.own, r.2.1.has', r.2.1.nodes, r.2.1.epoch, r.2.1.init'⟩ : VpartyParty))) (fun x => .blk bp2 38 (tyVCommit.enc (⟨r.2.2.Epoch, r.2.2.From, x.2.1, x.2.2.1, r.2.2.Seal, r.2.2.Path, x.2.2.2, r.2.2.Tag, r.2.2.Sig⟩ : VCommit))) (fun x => [fa true mKey x.1 r.2.1.signer, fa true (mRow tySOp) x.2.1 r.2.2.Ops, fa true (mRow tySVote) x.2.2.1 r.2.2.Votes, fa true (mSl tySl (mRow (tyI .u8))) x.2.2.2 r.2.2.Boxes])) := by
 unfold F89 at h
 refine calls_start (e := [(0, pt bp0 0), (1, ag ((Ty.arr 32 (tyI .u8)).enc p1)), (2, pt bp2 0)]) (L := [.blk bp0 143 (tyVpartyParty.enc (⟨p0.v, p0.leaf, v0_2, p0.own, p0.has', p0.nodes, p0.epoch, p0.init'⟩ : VpartyParty)), .blk bp2 38 (tyVCommit.enc (⟨p2.Epoch, p2.From, v2_2, v2_3, p2.Seal, p2.Path, v2_6, p2.Tag, p2.Sig⟩ : VCommit))]) (K := [fa true mKey v0_2 p0.signer, fa true (mRow tySOp) v2_2 p2.Ops, fa true (mRow tySVote) v2_3 p2.Votes, fa true (mSl tySl (mRow (tyI .u8))) v2_6 p2.Boxes]) Tryz.func89 rfl rfl rfl ⟨rfl, rfl, rfl, trivial⟩ hO (io_hL2 hio hio1) (pw2 hne) (alc k0 (alc k1 (alc k2 (alc k3 aln)))) ?_
 refine jc_seq ?_
 refine jc_reg ?_
 refine sq rfl (so_boxa (by decide) rfl rfl rfl fun b1 => ?_)
 refine sq rfl (so_alloc ti25 (by decide) rfl rfl fun b2 => ?_)
 refine jl_nil ?_
 refine jx_then ?_
 refine jc_seq ?_
 refine jc_reg ?_
 refine sqv rfl (yv_move rfl rfl) ?_
 refine sqv rfl (yv_ldb ti25 rfl rfl (rd_bl at1) (Sub.refl _) (Ty.len _ _) (by simp)) ?_
 obtain ⟨y3, hy3, h⟩ := bdE h
 refine sq rfl (so_callv pf83 rfl rfl rfl rfl (fun σ hs => F83_c hy3 σ.w σ.O hs.olt (⟨none, 0, 0⟩ : Sl) (cw0 (rq_sl rq_nil rq_al0) hs)) ?_)
 refine sqv rfl (yv_nil rfl rfl) ?_
 refine sqv rfl (yv_fa fa143_3 rfl rfl) ?_
 refine sq rfl (so_sta ti25 rfl rfl rfl rfl (Upd.comp (Sub.refl _) (VpartyParty.u3 (⟨p0.v, p0.leaf, v0_2, p0.own, p0.has', p0.nodes, p0.epoch, p0.init'⟩ : VpartyParty) y3) (Upd.refl (by simp [Ty.len]))) (Ty.len _ _) (Ty.one _ _) (xs' := tyVpartyParty.enc (⟨p0.v, p0.leaf, v0_2, y3, p0.has', p0.nodes, p0.epoch, p0.init'⟩ : VpartyParty)) se2 ?_)
 refine jl_nil ?_
 refine jx_then ?_
 refine jc_seq ?_
 refine jc_reg ?_
 refine sqv rfl (yv_move rfl rfl) ?_
 refine sqv rfl (yv_nil rfl rfl) ?_
 refine sqv rfl (yv_fa fa143_3 rfl rfl) ?_
 refine sqv rfl (yv_ldb ti25 rfl rfl (rd_bl at2) ((Sub.refl _).trans (VpartyParty.s3 (⟨p0.v, p0.leaf, v0_2, y3, p0.has', p0.nodes, p0.epoch, p0.init'⟩ : VpartyParty))) (Ty.len _ _) (by simp)) ?_
 obtain ⟨y4, hy4, h⟩ := bdE h
 refine sq rfl (so_callv pf165 rfl rfl rfl rfl (fun σ hs => F165_c hy4 σ.w σ.O hs.olt) ?_)
 refine sqv rfl (yv_move rfl rfl) ?_
 refine sqv rfl (yv_ext rfl rfl rfl) ?_
 refine sqv rfl (yv_ext rfl rfl rfl) ?_
 refine sq rfl (so_alloc ti141 (by decide) rfl rfl fun b5 => ?_)
 refine sq rfl (so_alloc ti25 (by decide) rfl rfl fun b6 => ?_)
 refine sq rfl (so_sta ti141 rfl rfl rfl rfl (Upd.refl (by simp [Ty.len])) (Ty.len _ _) (Ty.one _ _) (xs' := (Ty.arr 3 (Ty.arr 32 (tyI .u8))).enc y4.1) se1 ?_)
 refine sq rfl (so_sta ti25 rfl rfl rfl rfl (Upd.refl (by simp [Ty.len])) (Ty.len _ _) (Ty.one _ _) (xs' := (Ty.arr 32 (tyI .u8)).enc y4.2) se0 ?_)
 refine jl_nil ?_
 refine jx_then ?_
 refine jc_seq ?_
 refine jc_reg ?_
 refine sqv rfl (yv_move rfl rfl) ?_
 obtain ⟨x7, hx7, h⟩ := letX h
 refine sqv rfl (yxg (C := (Ty.arr 3 (Ty.arr 32 (tyI .u8)))) hx7 (yv_ldb ti141 rfl rfl (rd_bl at1) (Sub.refl _) (Ty.len _ _) (by simp))) ?_
 refine sqv rfl (yv_nil rfl rfl) ?_
 refine sqv rfl (yv_fa fa143_5 rfl rfl) ?_
 refine sq rfl (so_sta ti141 rfl rfl rfl rfl (Upd.comp (Sub.refl _) (VpartyParty.u5 (⟨p0.v, p0.leaf, v0_2, y3, p0.has', p0.nodes, p0.epoch, p0.init'⟩ : VpartyParty) x7) (Upd.refl (by simp [Ty.len]))) (Ty.len _ _) (Ty.one _ _) (xs' := tyVpartyParty.enc (⟨p0.v, p0.leaf, v0_2, y3, p0.has', x7, p0.epoch, p0.init'⟩ : VpartyParty)) se4 ?_)
 refine jl_nil ?_
 refine jx_then ?_
 refine jc_seq ?_
 refine jc_reg ?_
 refine sqv rfl (yv_move rfl rfl) ?_
 obtain ⟨x8, hx8, h⟩ := letX h
 refine sqv rfl (yxg (C := (Ty.arr 3 tyB)) hx8 (yv_build bi140 rfl rfl (fills_cons rfl (arr_upd tyB (Vector.replicate 3 false) (0 : Int) true (by decide)) rfl (Ty.len tyB true) (fills_cons rfl (arr_upd tyB (vup (Vector.replicate 3 false) (0 : Int) true) (1 : Int) true (by decide)) rfl (Ty.len tyB true) (fills_cons rfl (arr_upd tyB (vup (vup (Vector.replicate 3 false) (0 : Int) true) (1 : Int) true) (2 : Int) true (by decide)) rfl (Ty.len tyB true) fills_nil))))) ?_
 refine sqv rfl (yv_nil rfl rfl) ?_
 refine sqv rfl (yv_fa fa143_4 rfl rfl) ?_
 refine sq rfl (so_sta ti140 rfl rfl rfl rfl (Upd.comp (Sub.refl _) (VpartyParty.u4 (⟨p0.v, p0.leaf, v0_2, y3, p0.has', x7, p0.epoch, p0.init'⟩ : VpartyParty) x8) (Upd.refl (by simp [Ty.len]))) (Ty.len _ _) (Ty.one _ _) (xs' := tyVpartyParty.enc (⟨p0.v, p0.leaf, v0_2, y3, x8, x7, p0.epoch, p0.init'⟩ : VpartyParty)) se4 ?_)
 refine jl_nil ?_
 refine jx_then ?_
 refine jc_seq ?_
 refine jc_reg ?_
 refine sqv rfl (yv_move rfl rfl) ?_
 refine sqv rfl (yv_move rfl rfl) ?_
 refine sqv rfl (yv_nil rfl rfl) ?_
 refine sqv rfl (yv_fa fa143_3 rfl rfl) ?_
 refine sqv rfl (yv_ldb ti25 rfl rfl (rd_bl at4) ((Sub.refl _).trans (VpartyParty.s3 (⟨p0.v, p0.leaf, v0_2, y3, x8, x7, p0.epoch, p0.init'⟩ : VpartyParty))) (Ty.len _ _) (by simp)) ?_
 obtain ⟨y9, hy9, h⟩ := bdE h
 refine sq rfl (so_callx pf129 rfl rfl rfl rfl (fun σ hs => F129_c hy9 σ.w σ.O hs.olt) (fun _ => .nil) (fun _ => (.cons .nil)) (fun r10 => ?_))
 obtain ⟨y11, hy11, h⟩ := bdE h
 refine sq rfl (so_callv pf114 rfl rfl rfl rfl (fun σ hs => F114_c hy11 σ.w σ.O hs.olt r10 (cs0 (rs_f at0) hs)) ?_)
 refine sqv rfl (yv_nil rfl rfl) ?_
 refine sqv rfl (yv_fa fa38_4 rfl rfl) ?_
 refine sq rfl (so_st1 ti3 rfl rfl rfl rfl rfl (Upd.comp (Sub.refl _) (VCommit.u4 (⟨p2.Epoch, p2.From, v2_2, v2_3, p2.Seal, p2.Path, v2_6, p2.Tag, p2.Sig⟩ : VCommit) y11) (Upd.refl (by simp [Ty.len]))) (xs' := tyVCommit.enc (⟨p2.Epoch, p2.From, v2_2, v2_3, y11, p2.Path, v2_6, p2.Tag, p2.Sig⟩ : VCommit)) se5 ?_)
 refine jl_nil ?_
 refine jx_then ?_
 refine jc_seq ?_
 refine jc_seq ?_
 refine jc_reg ?_
 obtain ⟨x12, hx12, h⟩ := letX h
 refine sqv rfl (yxg (C := (Ty.arr 3 (Ty.arr 32 (tyI .u8)))) hx12 (yv_ldb ti141 rfl rfl (rd_bl at1) (Sub.refl _) (Ty.len _ _) (by simp))) ?_
 refine sqv rfl (yv_move rfl rfl) ?_
 refine jl_nil ?_
 refine jx_then ?_
 refine jc_block ?_
 refine jc_loop ?_
 intro B0 Q0 hB0 hQ0
 have key0 : ∀ (k0 : Nat) (j53 : Int) (j54 : (Vector Int 3)), F89_l0 x12 y4 p0 y3 x8 x7 p2 y11 k0 j53 j54 = some r → JW 56 w0 O0 [bp0, bp2] Tryz.prog B0 Q0 [(2, pt bp2 0), (6, pt b2 0), (8, pt b6 0), (41, ag ((Ty.arr 3 (Ty.arr 32 (tyI .u8))).enc x12)), (42, .int .i64 j53)] [.blk b6 25 ((Ty.arr 32 (tyI .u8)).enc y4.2), .blk b2 25 ((Ty.arr 32 (tyI .u8)).enc (Vector.replicate 32 (0 : Int))), .blk bp0 143 (tyVpartyParty.enc (⟨p0.v, p0.leaf, v0_2, y3, x8, x7, p0.epoch, p0.init'⟩ : VpartyParty)), .blk bp2 38 (tyVCommit.enc (⟨p2.Epoch, p2.From, v2_2, v2_3, y11, j54, v2_6, p2.Tag, p2.Sig⟩ : VCommit))] [fa true mKey v0_2 p0.signer, fa true (mRow tySOp) v2_2 p2.Ops, fa true (mRow tySVote) v2_3 p2.Votes, fa true (mSl tySl (mRow (tyI .u8))) v2_6 p2.Boxes] := by
  intro k0
  induction k0 with
  | zero => intro j53 j54 h; cases h
  | succ k0 ih0 =>
   intro j53 j54 h
   unfold F89_l0 at h
   refine jw_round hB0 ?_
   refine jc_seq ?_
   refine jc_reg ?_
   obtain ⟨x55, hx55, h⟩ := letX h
   refine sqv rfl (yxb hx55 (yv_lss rfl rfl rfl)) ?_
   refine jl_nil ?_
   refine jx_then ?_
   refine jc_seq ?_
   rcases x55 with _ | _
   ·
    replace h := brF h
    refine jc_f rfl ?_
    refine jc_exit ?_
    refine jx_te ?_
    refine jx_te ?_
    refine jx_abs hQ0 ?_
    refine jx_hit ?_
    refine jx_then ?_
    refine jc_seq ?_
    refine jc_reg ?_
    obtain ⟨x76, hx76, h⟩ := letX h
    refine sqv rfl (yxg (C := (Ty.arr 32 (tyI .u8))) hx76 (yv_ldb ti25 rfl rfl (rd_bl at0) (Sub.refl _) (Ty.len _ _) (by simp))) ?_
    refine sq rfl (so_sta ti25 rfl rfl rfl rfl (Upd.refl (by simp [Ty.len])) (Ty.len _ _) (Ty.one _ _) (xs' := (Ty.arr 32 (tyI .u8)).enc x76) se1 ?_)
    refine jl_nil ?_
    refine jx_then ?_
    refine jc_ret ?_
    cases h
    exact jx_ret rfl (rr_cella ti25 rfl at1 (Ty.len _ _) rr_nil) ⟨(v0_2, v2_2, v2_3, v2_6), rfl, rfl, rfl, rfl⟩ (.cons de2 (.cons de2 .nil)) (.cons at0 (.cons at1 (.cons at2 (.cons at3 .nil)))) rfl (io2)
   ·
    replace h := brT h
    refine jc_t rfl ?_
    refine jc_skip ?_
    refine jx_then ?_
    refine jc_seq ?_
    refine jc_block ?_
    refine jc_seq ?_
    refine jc_reg ?_
    refine sqv rfl (yv_move rfl rfl) ?_
    obtain ⟨g67, h⟩ := gdE h
    obtain ⟨x68, hx68, h⟩ := letX h
    refine sqv rfl (yxg (C := (Ty.arr 32 (tyI .u8))) hx68 (yv_index (g := true) (ys := (Ty.arr 32 (tyI .u8)).enc (vat x12 j53)) Tryz.underlying141 ti25 rfl rfl rfl g67 (arr_sub (Ty.arr 32 (tyI .u8)) _ _ g67) (Ty.len _ _) (by simp))) ?_
    refine sq rfl (so_alloc ti25 (by decide) rfl rfl fun b69 => ?_)
    refine sqv rfl (yv_assign rfl rfl) ?_
    refine sq rfl (so_sta ti25 rfl rfl rfl rfl (Upd.refl (by simp [Ty.len])) (Ty.len _ _) (Ty.one _ _) (xs' := (Ty.arr 32 (tyI .u8)).enc x68) se0 ?_)
    refine jl_nil ?_
    refine jx_then ?_
    refine jc_regd (k := 9) hmix rfl [([], .blk b69 25 ((Ty.arr 32 (tyI .u8)).enc x68))] [] (.cons at0 .nil) .nil ?_
    refine tk (i := 0) rfl (by kernel_rfl) rfl (yv_move rfl rfl) .nil .nil ?_
    refine tk (i := 1) rfl (by kernel_rfl) rfl (yv_move rfl rfl) .nil .nil ?_
    refine tk (i := 2) rfl (by kernel_rfl) rfl (yv_ldb ti25 rfl rfl (rd_bl at0) (Sub.refl _) (Ty.len _ _) (by simp)) (.cons at0 (by kernel_rfl) .nil) .nil ?_
    refine tk (i := 5) rfl (by kernel_rfl) rfl (yv_nil rfl rfl) .nil .nil ?_
    refine tk (i := 6) rfl (by kernel_rfl) rfl (yv_fa fa38_5 rfl rfl) .nil .nil ?_
    obtain ⟨y70, hy70, h⟩ := bdE h
    refine jg_one (i := 3) (by kernel_rfl) (gst rfl rfl (so_callx pf129 rfl rfl rfl rfl (fun σ hs => F129_c hy70 σ.w σ.O hs.olt) (fun _ => .nil) (fun _ => (.cons .nil)) (fun r71 => ?_)))
    refine ng (.cons at0 .nil) .nil ?_
    obtain ⟨y72, hy72, h⟩ := bdE h
    refine jg_one (i := 4) (by kernel_rfl) (gst rfl rfl (so_callv pf114 rfl rfl rfl rfl (fun σ hs => F114_c hy72 σ.w σ.O hs.olt r71 (cs0 (rs_f at0) hs)) ?_))
    refine ng (.cons at0 .nil) .nil ?_
    obtain ⟨g73, h⟩ := gdE h
    refine tk (i := 7) rfl (by kernel_rfl) rfl (yv_ia ia33 rfl rfl rfl g73) .nil .nil ?_
    obtain ⟨c74, hc74, h⟩ := letX h
    have hu_c74 := Upd.to (Upd.comp ((Sub.refl _).trans (VCommit.s5 (⟨p2.Epoch, p2.From, v2_2, v2_3, y11, j54, v2_6, p2.Tag, p2.Sig⟩ : VCommit))) (arr_upd (tyI .i64) j54 j53 y72 g73) (Upd.comp (Sub.refl _) (VCommit.u5 (⟨p2.Epoch, p2.From, v2_2, v2_3, y11, j54, v2_6, p2.Tag, p2.Sig⟩ : VCommit) (vup j54 j53 y72)) (Upd.refl (by simp [Ty.len])))) (congrArg (fun q_ => (tyVCommit.enc (⟨p2.Epoch, p2.From, v2_2, v2_3, y11, q_, v2_6, p2.Tag, p2.Sig⟩ : VCommit))) hc74)
    refine jg_one (i := 8) (by kernel_rfl) (gst rfl rfl (so_st1 ti3 rfl rfl rfl rfl rfl hu_c74 (xs' := tyVCommit.enc (⟨p2.Epoch, p2.From, v2_2, v2_3, y11, c74, v2_6, p2.Tag, p2.Sig⟩ : VCommit)) se4 ?_))
    refine ng (.cons at0 .nil) .nil ?_
    refine jg_nil (by kernel_rfl) ?_
    refine jx_blk ?_
    refine jx_then ?_
    refine jc_reg ?_
    obtain ⟨x75, hx75, h⟩ := letX h
    refine sqv rfl (yxi hx75 (yv_add rfl rfl rfl)) ?_
    refine sqv rfl (yv_move rfl rfl) ?_
    refine jl_nil ?_
    refine jx_again ?_
    exact nj_weak (ih0 x75 c74 h) ⟨rfl, rfl, rfl, rfl, rfl, trivial⟩ (.cons de1 (.cons de1 (.cons de1 (.cons de1 .nil)))) (.cons at1 (.cons at2 (.cons at3 (.cons at4 .nil))))
 exact nj_weak (key0 FUEL 0 p2.Path h) ⟨rfl, rfl, rfl, rfl, rfl, trivial⟩ (.cons de0 (.cons de1 (.cons de2 (.cons de2 .nil)))) (.cons at1 (.cons at2 (.cons at3 (.cons at4 .nil))))
theorem F90_c {p0 : SView} {p1 : SCommit} {r : SView} (h : F90 p0 p1 = some r) (w0 : World) (O0 : Nat → Prop) (hO : ∀ k, O0 k → k < w0.heap.size) (v1_2 : Sl) (v1_3 : Sl) (v1_6 : Sl) (k0 : (fa false (mRow tySOp) v1_2 p1.Ops).p ⟨w0, O0, inL []⟩) (k1 : (fa false (mRow tySVote) v1_3 p1.Votes).p ⟨w0, O0, inL []⟩) (k2 : (fa false (mSl tySl (mRow (tyI .u8))) v1_6 p1.Boxes).p ⟨w0, O0, inL []⟩) :
  CallsP Tryz.prog 90 (List.toArray [ag (tySView.enc p0), ag (tyVCommit.enc (⟨p1.Epoch, p1.From, v1_2, v1_3, p1.Seal, p1.Path, v1_6, p1.Tag, p1.Sig⟩ : VCommit))]) w0 O0 [] (RV (ag (tySView.enc r))) := by
 unfold F90 at h
 refine calls_start (e := [(0, ag (tySView.enc p0)), (1, ag (tyVCommit.enc (⟨p1.Epoch, p1.From, v1_2, v1_3, p1.Seal, p1.Path, v1_6, p1.Tag, p1.Sig⟩ : VCommit)))]) (L := []) (K := [fa false (mRow tySOp) v1_2 p1.Ops, fa false (mRow tySVote) v1_3 p1.Votes, fa false (mSl tySl (mRow (tyI .u8))) v1_6 p1.Boxes]) Tryz.func90 rfl rfl rfl ⟨rfl, rfl, trivial⟩ hO (by simp) .nil (alc k0 (alc k1 (alc k2 aln))) ?_
 refine jc_seq ?_
 refine jc_reg ?_
 refine sq rfl (so_boxa (by decide) rfl rfl rfl fun b1 => ?_)
 refine sq rfl (so_boxa (by decide) rfl rfl rfl fun b2 => ?_)
 refine sq rfl (so_alloc ti64 (by decide) rfl rfl fun b3 => ?_)
 refine jl_nil ?_
 refine jx_then ?_
 refine jc_seq ?_
 refine jc_reg ?_
 refine sqv rfl (yv_fa fa64_0 rfl rfl) ?_
 obtain ⟨x4, hx4, h⟩ := letX h
 refine sqv rfl (yxi hx4 (yv_ldb ti3 rfl rfl (rd_bl at2) ((Sub.refl _).trans (SView.s0 p0)) (Ty.len _ _) (fun _ => rfl))) ?_
 obtain ⟨x5, hx5, h⟩ := letX h
 refine sqv rfl (yxi hx5 (yv_add rfl rfl rfl)) ?_
 refine sqv rfl (yv_fa fa64_0 rfl rfl) ?_
 obtain ⟨c6, hc6, h⟩ := letX h
 refine sq rfl (so_st1X (D := tySView) hc6 ti3 rfl rfl rfl rfl rfl (Upd.comp (Sub.refl _) (SView.u0 p0 x5) (Upd.refl (by simp [Ty.len]))) se2 ?_)
 refine jl_nil ?_
 refine jx_then ?_
 refine jc_seq ?_
 refine jc_reg ?_
 refine sqv rfl (yv_fa fa38_1 rfl rfl) ?_
 obtain ⟨x7, hx7, h⟩ := letX h
 refine sqv rfl (yxi hx7 (yv_ldb ti3 rfl rfl (rd_bl at1) ((Sub.refl _).trans (VCommit.s1 (⟨p1.Epoch, p1.From, v1_2, v1_3, p1.Seal, p1.Path, v1_6, p1.Tag, p1.Sig⟩ : VCommit))) (Ty.len _ _) (fun _ => rfl))) ?_
 refine sqv rfl (yv_fa fa38_4 rfl rfl) ?_
 obtain ⟨x8, hx8, h⟩ := letX h
 refine sqv rfl (yxi hx8 (yv_ldb ti3 rfl rfl (rd_bl at1) ((Sub.refl _).trans (VCommit.s4 (⟨p1.Epoch, p1.From, v1_2, v1_3, p1.Seal, p1.Path, v1_6, p1.Tag, p1.Sig⟩ : VCommit))) (Ty.len _ _) (fun _ => rfl))) ?_
 refine sqv rfl (yv_fa fa64_1 rfl rfl) ?_
 refine sqv rfl (yv_fa fa61_0 rfl rfl) ?_
 obtain ⟨g9, h⟩ := gdE h
 refine sqv rfl (yv_ia ia58 rfl rfl rfl g9) ?_
 refine sqv rfl (yv_fa fa51_1 rfl rfl) ?_
 obtain ⟨c10, hc10, h⟩ := letX h
 refine sq rfl (so_st1X (D := tySView) hc10 ti3 rfl rfl rfl rfl rfl (Upd.comp ((((Sub.refl _).trans (SView.s1 c6)).trans (STree.s0 c6.Tree)).trans (arr_sub tySLeaf c6.Tree.Leaves x7 g9)) (SLeaf.u1 (vat c6.Tree.Leaves x7) x8) (Upd.comp (((Sub.refl _).trans (SView.s1 c6)).trans (STree.s0 c6.Tree)) (arr_upd tySLeaf c6.Tree.Leaves x7 ({ (vat c6.Tree.Leaves x7) with Seal := x8 }) g9) (Upd.comp ((Sub.refl _).trans (SView.s1 c6)) (STree.u0 c6.Tree (vup c6.Tree.Leaves x7 ({ (vat c6.Tree.Leaves x7) with Seal := x8 }))) (Upd.comp (Sub.refl _) (SView.u1 c6 ({ c6.Tree with Leaves := (vup c6.Tree.Leaves x7 ({ (vat c6.Tree.Leaves x7) with Seal := x8 })) })) (Upd.refl (by simp [Ty.len])))))) se2 ?_)
 refine jl_nil ?_
 refine jx_then ?_
 refine jc_seq ?_
 refine jc_seq ?_
 refine jc_reg ?_
 refine sqv rfl (yv_fa fa38_1 rfl rfl) ?_
 obtain ⟨x11, hx11, h⟩ := letX h
 refine sqv rfl (yxi hx11 (yv_ldb ti3 rfl rfl (rd_bl at1) ((Sub.refl _).trans (VCommit.s1 (⟨p1.Epoch, p1.From, v1_2, v1_3, p1.Seal, p1.Path, v1_6, p1.Tag, p1.Sig⟩ : VCommit))) (Ty.len _ _) (fun _ => rfl))) ?_
 obtain ⟨y12, hy12, h⟩ := bdE h
 refine sq rfl (so_callv pf166 rfl rfl rfl rfl (fun σ hs => F166_c hy12 σ.w σ.O hs.olt) ?_)
 refine sqv rfl (yv_move rfl rfl) ?_
 refine jl_nil ?_
 refine jx_then ?_
 refine jc_block ?_
 refine jc_loop ?_
 intro B0 Q0 hB0 hQ0
 have key0 : ∀ (k0 : Nat) (j45 : Int) (j46 : SView), F90_l0 y12 p1 k0 j45 j46 = some r → JW 36 w0 O0 [] Tryz.prog B0 Q0 [(2, pt b1 0), (3, pt b2 0), (4, pt b3 0), (21, ag ((Ty.arr 3 (tyI .i64)).enc y12)), (22, .int .i64 j45)] [.blk b3 64 (tySView.enc SView.zero), .blk b2 38 (tyVCommit.enc (⟨p1.Epoch, p1.From, v1_2, v1_3, p1.Seal, p1.Path, v1_6, p1.Tag, p1.Sig⟩ : VCommit)), .blk b1 64 (tySView.enc j46)] [fa false (mRow tySOp) v1_2 p1.Ops, fa false (mRow tySVote) v1_3 p1.Votes, fa false (mSl tySl (mRow (tyI .u8))) v1_6 p1.Boxes] := by
  intro k0
  induction k0 with
  | zero => intro j45 j46 h; cases h
  | succ k0 ih0 =>
   intro j45 j46 h
   unfold F90_l0 at h
   refine jw_round hB0 ?_
   refine jc_seq ?_
   refine jc_reg ?_
   obtain ⟨x47, hx47, h⟩ := letX h
   refine sqv rfl (yxb hx47 (yv_lss rfl rfl rfl)) ?_
   refine jl_nil ?_
   refine jx_then ?_
   refine jc_seq ?_
   rcases x47 with _ | _
   ·
    replace h := brF h
    refine jc_f rfl ?_
    refine jc_exit ?_
    refine jx_te ?_
    refine jx_te ?_
    refine jx_abs hQ0 ?_
    refine jx_hit ?_
    refine jx_then ?_
    refine jc_seq ?_
    refine jc_reg ?_
    refine sqv rfl (yv_ldb ti64 rfl rfl (rd_bl at2) (Sub.refl _) (Ty.len _ _) (by simp)) ?_
    refine sq rfl (so_sta ti64 rfl rfl rfl rfl (Upd.refl (by simp [Ty.len])) (Ty.len _ _) (Ty.one _ _) (xs' := tySView.enc j46) se0 ?_)
    refine jl_nil ?_
    refine jx_then ?_
    refine jc_ret ?_
    cases h
    exact jx_ret rfl (rr_cella ti64 rfl at0 (Ty.len _ _) rr_nil) ⟨rfl, rfl, rfl, rfl⟩ .nil .nil rfl (by simp)
   ·
    replace h := brT h
    refine jc_t rfl ?_
    refine jc_skip ?_
    refine jx_then ?_
    refine jc_seq ?_
    refine jc_block ?_
    refine jc_seq ?_
    refine jc_reg ?_
    refine sqv rfl (yv_move rfl rfl) ?_
    obtain ⟨g57, h⟩ := gdE h
    obtain ⟨x58, hx58, h⟩ := letX h
    refine sqv rfl (yxi hx58 (yv_index (g := false) (ys := (tyI .i64).enc (vat y12 j45)) Tryz.underlying33 ti3 rfl rfl rfl g57 (arr_sub (tyI .i64) _ _ g57) (Ty.len _ _) (fun _ => rfl))) ?_
    refine sqv rfl (yv_assign rfl rfl) ?_
    refine sqv rfl (yv_assign rfl rfl) ?_
    refine jl_nil ?_
    refine jx_then ?_
    refine jc_reg ?_
    refine sqv rfl (yv_move rfl rfl) ?_
    refine sqv rfl (yv_move rfl rfl) ?_
    refine sqv rfl (yv_fa fa38_5 rfl rfl) ?_
    obtain ⟨g59, h⟩ := gdE h
    refine sqv rfl (yv_ia ia33 rfl rfl rfl g59) ?_
    obtain ⟨x60, hx60, h⟩ := letX h
    refine sqv rfl (yxi hx60 (yv_ldb ti3 rfl rfl (rd_bl at1) (((Sub.refl _).trans (VCommit.s5 (⟨p1.Epoch, p1.From, v1_2, v1_3, p1.Seal, p1.Path, v1_6, p1.Tag, p1.Sig⟩ : VCommit))).trans (arr_sub (tyI .i64) p1.Path j45 g59)) (Ty.len _ _) (fun _ => rfl))) ?_
    refine sqv rfl (yv_fa fa64_1 rfl rfl) ?_
    refine sqv rfl (yv_fa fa61_1 rfl rfl) ?_
    obtain ⟨g61, h⟩ := gdE h
    refine sqv rfl (yv_ia ia59 rfl rfl rfl g61) ?_
    obtain ⟨c62, hc62, h⟩ := letX h
    refine sq rfl (so_st1X (D := tySView) hc62 ti3 rfl rfl rfl rfl rfl (Upd.comp (((Sub.refl _).trans (SView.s1 j46)).trans (STree.s1 j46.Tree)) (arr_upd (tyI .i64) j46.Tree.Nodes x58 x60 g61) (Upd.comp ((Sub.refl _).trans (SView.s1 j46)) (STree.u1 j46.Tree (vup j46.Tree.Nodes x58 x60)) (Upd.comp (Sub.refl _) (SView.u1 j46 ({ j46.Tree with Nodes := (vup j46.Tree.Nodes x58 x60) })) (Upd.refl (by simp [Ty.len]))))) se2 ?_)
    refine jl_nil ?_
    refine jx_blk ?_
    refine jx_then ?_
    refine jc_reg ?_
    obtain ⟨x63, hx63, h⟩ := letX h
    refine sqv rfl (yxi hx63 (yv_add rfl rfl rfl)) ?_
    refine sqv rfl (yv_move rfl rfl) ?_
    refine jl_nil ?_
    refine jx_again ?_
    exact nj_weak (ih0 x63 c62 h) ⟨rfl, rfl, rfl, rfl, rfl, trivial⟩ (.cons de0 (.cons de0 (.cons de0 .nil))) (.cons at0 (.cons at1 (.cons at2 .nil)))
 exact nj_weak (key0 FUEL 0 c10 h) ⟨rfl, rfl, rfl, rfl, rfl, trivial⟩ (.cons de0 (.cons de0 (.cons de0 .nil))) (.cons at0 (.cons at1 (.cons at2 .nil)))
theorem F202_c {p0 : Int} {r : (Vector Int 3)} (h : F202 p0 = some r) (w0 : World) (O0 : Nat → Prop) (hO : ∀ k, O0 k → k < w0.heap.size) :
  CallsP Tryz.prog 202 (List.toArray [.int .i64 p0]) w0 O0 [] (RV (ag ((Ty.arr 3 (tyI .i64)).enc r))) := by
 unfold F202 at h
 refine calls_start (e := [(0, .int .i64 p0)]) (L := []) (K := []) Tryz.func202 rfl rfl rfl ⟨rfl, trivial⟩ hO (by simp) .nil aln ?_
 refine jc_seq ?_
 refine jc_reg ?_
 refine sq rfl (so_alloc ti33 (by decide) rfl rfl fun b1 => ?_)
 refine jl_nil ?_
 refine jx_then ?_
 refine jc_seq ?_
 refine jc_reg ?_
 refine sq rfl (so_alloc ti33 (by decide) rfl rfl fun b2 => ?_)
 refine jl_nil ?_
 refine jx_then ?_
 refine jc_seq ?_
 refine jc_seq ?_
 refine jc_reg ?_
 refine sqv rfl (yv_move rfl rfl) ?_
 refine jl_nil ?_
 refine jx_then ?_
 refine jc_block ?_
 refine jc_loop ?_
 intro B0 Q0 hB0 hQ0
 have key0 : ∀ (k0 : Nat) (j31 : Int) (j32 : (Vector Int 3)), F202_l0 p0 k0 j31 j32 = some r → JW 20 w0 O0 [] Tryz.prog B0 Q0 [(0, .int .i64 p0), (2, pt b1 0), (3, pt b2 0), (5, .int .i64 j31)] [.blk b2 33 ((Ty.arr 3 (tyI .i64)).enc j32), .blk b1 33 ((Ty.arr 3 (tyI .i64)).enc (Vector.replicate 3 (0 : Int)))] [] := by
  intro k0
  induction k0 with
  | zero => intro j31 j32 h; cases h
  | succ k0 ih0 =>
   intro j31 j32 h
   unfold F202_l0 at h
   refine jw_round hB0 ?_
   refine jc_seq ?_
   refine jc_reg ?_
   obtain ⟨x33, hx33, h⟩ := letX h
   refine sqv rfl (yxb hx33 (yv_lss rfl rfl rfl)) ?_
   refine jl_nil ?_
   refine jx_then ?_
   refine jc_seq ?_
   rcases x33 with _ | _
   ·
    replace h := brF h
    refine jc_f rfl ?_
    refine jc_exit ?_
    refine jx_te ?_
    refine jx_te ?_
    refine jx_abs hQ0 ?_
    refine jx_hit ?_
    refine jx_then ?_
    refine jc_seq ?_
    refine jc_reg ?_
    refine sqv rfl (yv_ldb ti33 rfl rfl (rd_bl at0) (Sub.refl _) (Ty.len _ _) (by simp)) ?_
    refine sq rfl (so_sta ti33 rfl rfl rfl rfl (Upd.refl (by simp [Ty.len])) (Ty.len _ _) (Ty.one _ _) (xs' := (Ty.arr 3 (tyI .i64)).enc j32) se1 ?_)
    refine jl_nil ?_
    refine jx_then ?_
    refine jc_ret ?_
    cases h
    exact jx_ret rfl (rr_cella ti33 rfl at1 (Ty.len _ _) rr_nil) ⟨rfl, rfl, rfl, rfl⟩ .nil .nil rfl (by simp)
   ·
    replace h := brT h
    refine jc_t rfl ?_
    refine jc_skip ?_
    refine jx_then ?_
    refine jc_seq_n ?_
    intro N0 hN0
    have hj0 : ∀ (j45 : (Vector Int 3)), F202_j0 j31 (F202_l0 p0 k0) j45 = some r → NJ 20 w0 O0 [] N0 [(0, .int .i64 p0), (2, pt b1 0), (3, pt b2 0), (5, .int .i64 j31)] [.blk b2 33 ((Ty.arr 3 (tyI .i64)).enc j45), .blk b1 33 ((Ty.arr 3 (tyI .i64)).enc (Vector.replicate 3 (0 : Int)))] [] := by
     intro j45 h
     unfold F202_j0 at h
     refine nj_abs hN0 ?_
     refine jc_reg ?_
     obtain ⟨x1_46, hx1_46, h⟩ := letX h
     refine sqv rfl (yxi hx1_46 (yv_add rfl rfl rfl)) ?_
     refine sqv rfl (yv_move rfl rfl) ?_
     refine jl_nil ?_
     refine jx_again ?_
     exact nj_weak (ih0 x1_46 j45 h) ⟨rfl, rfl, rfl, rfl, trivial⟩ (.cons de0 (.cons de0 .nil)) .nil
    refine jc_block ?_
    refine jc_seq ?_
    refine jc_reg ?_
    refine sqv rfl (yv_move rfl rfl) ?_
    refine sqv rfl (yv_assign rfl rfl) ?_
    refine jl_nil ?_
    refine jx_then ?_
    refine jc_seq ?_
    refine jc_reg ?_
    refine sqv rfl (yv_move rfl rfl) ?_
    obtain ⟨y36, hy36, h⟩ := bdE h
    refine sq rfl (so_callv pf245 rfl rfl rfl rfl (fun σ hs => F245_c hy36 σ.w σ.O hs.olt) ?_)
    refine jl_nil ?_
    refine jx_then ?_
    rcases y36 with _ | _
    ·
     replace h := brF h
     refine jc_f rfl ?_
     refine jc_skip ?_
     refine jx_blk ?_
     refine jx_then_n ?_
     exact nj_weak (hj0 j32 h) ⟨rfl, rfl, rfl, rfl, trivial⟩ (.cons de0 (.cons de0 .nil)) .nil
    ·
     replace h := brT h
     refine jc_t rfl ?_
     refine jc_reg ?_
     refine sqv rfl (yv_move rfl rfl) ?_
     refine sqv rfl (yv_move rfl rfl) ?_
     refine sqv rfl (yv_move rfl rfl) ?_
     obtain ⟨g37, h⟩ := gdE h
     obtain ⟨x38, hx38, h⟩ := letX h
     refine sqv rfl (yxi hx38 (yv_shl rfl rfl rfl g37)) ?_
     obtain ⟨x39, hx39, h⟩ := letX h
     refine sqv rfl (yxi hx39 (yv_xor rfl rfl rfl)) ?_
     refine sqv rfl (yv_move rfl rfl) ?_
     obtain ⟨y40, hy40, h⟩ := bdE h
     refine sq rfl (so_callv pf246 rfl rfl rfl rfl (fun σ hs => F246_c hy40 σ.w σ.O hs.olt) ?_)
     obtain ⟨g41, h⟩ := gdE h
     refine sqv rfl (yv_ia ia33 rfl rfl rfl g41) ?_
     obtain ⟨c42, hc42, h⟩ := letX h
     refine sq rfl (so_st1X (D := (Ty.arr 3 (tyI .i64))) hc42 ti3 rfl rfl rfl rfl rfl (Upd.comp (Sub.refl _) (arr_upd (tyI .i64) j32 j31 y40 g41) (Upd.refl (by simp [Ty.len]))) se0 ?_)
     refine jl_nil ?_
     refine jx_blk ?_
     refine jx_then_n ?_
     exact nj_weak (hj0 c42 h) ⟨rfl, rfl, rfl, rfl, trivial⟩ (.cons de0 (.cons de0 .nil)) .nil
 exact nj_weak (key0 FUEL 0 (Vector.replicate 3 (0 : Int)) h) ⟨rfl, rfl, rfl, rfl, trivial⟩ (.cons de0 (.cons de0 .nil)) .nil
theorem F248_c {p0 : Int} {r : Bool} (h : F248 p0 = some r) (w0 : World) (O0 : Nat → Prop) (hO : ∀ k, O0 k → k < w0.heap.size) :
  CallsP Tryz.prog 248 (List.toArray [.int .i64 p0]) w0 O0 [] (RV (.bool r)) := by
 unfold F248 at h
 refine calls_start (e := [(0, .int .i64 p0)]) (L := []) (K := []) Tryz.func248 rfl rfl rfl ⟨rfl, trivial⟩ hO (by simp) .nil aln ?_
 refine jc_seq ?_
 refine jc_reg ?_
 refine sqv rfl (yv_assign rfl rfl) ?_
 refine jl_nil ?_
 refine jx_then ?_
 refine jc_seq ?_
 refine jc_reg ?_
 refine sqv rfl (yv_move rfl rfl) ?_
 obtain ⟨x1, hx1, h⟩ := letX h
 refine sqv rfl (yxb hx1 (yv_geq rfl rfl rfl)) ?_
 refine sqv rfl (yv_move rfl rfl) ?_
 rcases x1 with _ | _
 ·
  replace h := brF h
  refine sq_skip rfl ?_
  refine sq_skip rfl ?_
  refine sqv rfl (yv_pick_f rfl rfl rfl) ?_
  refine sqv rfl (yv_assign rfl rfl) ?_
  refine jl_nil ?_
  refine jx_then ?_
  refine jc_ret ?_
  cases h
  exact jx_ret rfl (rr_tmp rfl rr_nil) ⟨rfl, rfl, rfl, rfl⟩ .nil .nil rfl (by simp)
 ·
  replace h := brT h
  refine sqv rfl (yv_move rfl rfl) ?_
  obtain ⟨x2, hx2, h⟩ := letX h
  refine sqv rfl (yxb hx2 (yv_lss rfl rfl rfl)) ?_
  refine sqv rfl (yv_pick_t rfl rfl rfl) ?_
  refine sqv rfl (yv_assign rfl rfl) ?_
  refine jl_nil ?_
  refine jx_then ?_
  refine jc_ret ?_
  cases h
  exact jx_ret rfl (rr_tmp rfl rr_nil) ⟨rfl, rfl, rfl, rfl⟩ .nil .nil rfl (by simp)
theorem F168_c {p0 : STree} {p1 : Int} {r : Int} (h : F168 p0 p1 = some r) (w0 : World) (O0 : Nat → Prop) (hO : ∀ k, O0 k → k < w0.heap.size) :
  CallsP Tryz.prog 168 (List.toArray [ag (tySTree.enc p0), .int .i64 p1]) w0 O0 [] (RV (.int .i64 r)) := by
 unfold F168 at h
 refine calls_start (e := [(0, ag (tySTree.enc p0)), (1, .int .i64 p1)]) (L := []) (K := []) Tryz.func168 rfl rfl rfl ⟨rfl, rfl, trivial⟩ hO (by simp) .nil aln ?_
 refine jc_seq ?_
 refine jc_reg ?_
 refine sq rfl (so_boxa (by decide) rfl rfl rfl fun b1 => ?_)
 refine sqv rfl (yv_assign rfl rfl) ?_
 refine jl_nil ?_
 refine jx_then ?_
 refine jc_seq ?_
 refine jc_block ?_
 refine jc_seq ?_
 refine jc_reg ?_
 refine sqv rfl (yv_move rfl rfl) ?_
 obtain ⟨y12, hy12, h⟩ := bdE h
 refine sq rfl (so_callv pf248 rfl rfl rfl rfl (fun σ hs => F248_c hy12 σ.w σ.O hs.olt) ?_)
 obtain ⟨x13, hx13, h⟩ := letX h
 refine sqv rfl (yxb hx13 (yv_not rfl rfl)) ?_
 refine sqv rfl (yv_assign rfl rfl) ?_
 refine jl_nil ?_
 refine jx_then ?_
 rcases x13 with _ | _
 ·
  replace h := brF h
  refine jc_f rfl ?_
  refine jc_seq ?_
  refine jc_reg ?_
  refine sqv rfl (yv_move rfl rfl) ?_
  obtain ⟨x14, hx14, h⟩ := letX h
  refine sqv rfl (yxi hx14 (yv_rem rfl rfl rfl (by decide))) ?_
  obtain ⟨x15, hx15, h⟩ := letX h
  refine sqv rfl (yxb hx15 (yv_eql rfl rfl rfl)) ?_
  refine sqv rfl (yv_assign rfl rfl) ?_
  refine jl_nil ?_
  refine jx_then ?_
  rcases x15 with _ | _
  ·
   replace h := brF h
   refine jc_f rfl ?_
   refine jc_skip ?_
   refine jx_blk ?_
   refine jx_then ?_
   refine jc_seq ?_
   refine jc_reg ?_
   refine sqv rfl (yv_move rfl rfl) ?_
   refine sqv rfl (yv_fa fa61_1 rfl rfl) ?_
   obtain ⟨g19, h⟩ := gdE h
   refine sqv rfl (yv_ia ia59 rfl rfl rfl g19) ?_
   obtain ⟨x20, hx20, h⟩ := letX h
   refine sqv rfl (yxi hx20 (yv_ldb ti3 rfl rfl (rd_bl at0) (((Sub.refl _).trans (STree.s1 p0)).trans (arr_sub (tyI .i64) p0.Nodes p1 g19)) (Ty.len _ _) (fun _ => rfl))) ?_
   refine sqv rfl (yv_assign rfl rfl) ?_
   refine jl_nil ?_
   refine jx_then ?_
   refine jc_ret ?_
   cases h
   exact jx_ret rfl (rr_tmp rfl rr_nil) ⟨rfl, rfl, rfl, rfl⟩ .nil .nil rfl (by simp)
  ·
   replace h := brT h
   refine jc_t rfl ?_
   refine jc_seq ?_
   refine jc_reg ?_
   refine sqv rfl (yv_move rfl rfl) ?_
   obtain ⟨x16, hx16, h⟩ := letX h
   refine sqv rfl (yxi hx16 (yv_quo rfl rfl rfl (by decide))) ?_
   refine sqv rfl (yv_fa fa61_0 rfl rfl) ?_
   obtain ⟨g17, h⟩ := gdE h
   refine sqv rfl (yv_ia ia58 rfl rfl rfl g17) ?_
   refine sqv rfl (yv_fa fa51_1 rfl rfl) ?_
   obtain ⟨x18, hx18, h⟩ := letX h
   refine sqv rfl (yxi hx18 (yv_ldb ti3 rfl rfl (rd_bl at0) ((((Sub.refl _).trans (STree.s0 p0)).trans (arr_sub tySLeaf p0.Leaves x16 g17)).trans (SLeaf.s1 (vat p0.Leaves x16))) (Ty.len _ _) (fun _ => rfl))) ?_
   refine sqv rfl (yv_assign rfl rfl) ?_
   refine jl_nil ?_
   refine jx_then ?_
   refine jc_ret ?_
   refine jx_br ?_
   refine jx_tr ?_
   cases h
   exact jx_ret rfl (rr_tmp rfl rr_nil) ⟨rfl, rfl, rfl, rfl⟩ .nil .nil rfl (by simp)
 ·
  replace h := brT h
  refine jc_t rfl ?_
  refine jc_seq ?_
  refine jc_reg ?_
  refine sqv rfl (yv_assign rfl rfl) ?_
  refine jl_nil ?_
  refine jx_then ?_
  refine jc_ret ?_
  refine jx_br ?_
  refine jx_tr ?_
  cases h
  exact jx_ret rfl (rr_tmp rfl rr_nil) ⟨rfl, rfl, rfl, rfl⟩ .nil .nil rfl (by simp)
theorem F266_c {p0 : Int} {r : Int} (h : F266 p0 = some r) (w0 : World) (O0 : Nat → Prop) (hO : ∀ k, O0 k → k < w0.heap.size) :
  CallsP Tryz.prog 266 (List.toArray [.int .i64 p0]) w0 O0 [] (RV (.int .i64 r)) := by
 unfold F266 at h
 refine calls_start (e := [(0, .int .i64 p0)]) (L := []) (K := []) Tryz.func266 rfl rfl rfl ⟨rfl, trivial⟩ hO (by simp) .nil aln ?_
 refine jc_seq ?_
 refine jc_reg ?_
 refine sqv rfl (yv_assign rfl rfl) ?_
 refine jl_nil ?_
 refine jx_then ?_
 refine jc_seq ?_
 refine jc_reg ?_
 refine sqv rfl (yv_assign rfl rfl) ?_
 refine jl_nil ?_
 refine jx_then ?_
 refine jc_seq ?_
 refine jc_seq ?_
 refine jc_reg ?_
 refine sqv rfl (yv_assign rfl rfl) ?_
 refine jl_nil ?_
 refine jx_then ?_
 refine jc_block ?_
 refine jc_loop ?_
 intro B0 Q0 hB0 hQ0
 have key0 : ∀ (k0 : Nat) (j15 : Int) (j16 : Int), F266_l0 p0 k0 j15 j16 = some r → JW 13 w0 O0 [] Tryz.prog B0 Q0 [(0, .int .i64 p0), (2, .int .i64 0), (3, .int .i64 j15), (4, .int .i64 j16)] [] [] := by
  intro k0
  induction k0 with
  | zero => intro j15 j16 h; cases h
  | succ k0 ih0 =>
   intro j15 j16 h
   unfold F266_l0 at h
   refine jw_round hB0 ?_
   refine jc_seq ?_
   refine jc_seq ?_
   refine jc_reg ?_
   refine sqv rfl (yv_move rfl rfl) ?_
   refine sqv rfl (yv_move rfl rfl) ?_
   obtain ⟨x17, hx17, h⟩ := letX h
   refine sqv rfl (yxi hx17 (yv_and rfl rfl rfl)) ?_
   obtain ⟨x18, hx18, h⟩ := letX h
   refine sqv rfl (yxb hx18 (yv_neq rfl rfl rfl)) ?_
   refine jl_nil ?_
   refine jx_then ?_
   rcases x18 with _ | _
   ·
    replace h := brF h
    refine jc_f rfl ?_
    refine jc_exit ?_
    refine jx_te ?_
    refine jx_te ?_
    refine jx_abs hQ0 ?_
    refine jx_hit ?_
    refine jx_then ?_
    refine jc_seq ?_
    refine jc_reg ?_
    refine sqv rfl (yv_move rfl rfl) ?_
    refine sqv rfl (yv_assign rfl rfl) ?_
    refine jl_nil ?_
    refine jx_then ?_
    refine jc_ret ?_
    cases h
    exact jx_ret rfl (rr_tmp rfl rr_nil) ⟨rfl, rfl, rfl, rfl⟩ .nil .nil rfl (by simp)
   ·
    replace h := brT h
    refine jc_t rfl ?_
    refine jc_skip ?_
    refine jx_then ?_
    refine jc_seq ?_
    refine jc_block ?_
    refine jc_reg ?_
    refine sqv rfl (yv_move rfl rfl) ?_
    refine sqv rfl (yv_assign rfl rfl) ?_
    refine jl_nil ?_
    refine jx_blk ?_
    refine jx_then ?_
    refine jc_reg ?_
    refine sqv rfl (yv_move rfl rfl) ?_
    obtain ⟨x22, hx22, h⟩ := letX h
    refine sqv rfl (yxi hx22 (yv_shl rfl rfl rfl (by decide))) ?_
    refine sqv rfl (yv_assign rfl rfl) ?_
    refine jl_nil ?_
    refine jx_again ?_
    exact nj_weak (ih0 j16 x22 h) ⟨rfl, rfl, rfl, rfl, trivial⟩ .nil .nil
 exact nj_weak (key0 FUEL 0 1 h) ⟨rfl, rfl, rfl, rfl, trivial⟩ .nil .nil
theorem F203_rc : ∀ (k : Nat) {p0 : STree} {p1 : Int} {r : (List Int)} (h : F203_r k p0 p1 = some r) (w0 : World) (O0 : Nat → Prop) (hO : ∀ k, O0 k → k < w0.heap.size), CallsP Tryz.prog 203 (List.toArray [ag (tySTree.enc p0), .int .i64 p1]) w0 O0 [] (RX (fun x : Sl => sv x) (fun x => [.sli x 3 (tyI .i64).size (r).length ((tyI .i64).many r)]) (fun x => [])) := by
 intro k
 induction k with
 | zero => intro _ _ r h; cases h
 | succ k ih0 =>
 intro p0 p1 r h w0 O0 hO
 have ih := @ih0
 unfold F203_r at h
 refine calls_start (e := [(0, ag (tySTree.enc p0)), (1, .int .i64 p1)]) (L := []) (K := []) Tryz.func203 rfl rfl rfl ⟨rfl, rfl, trivial⟩ hO (by simp) .nil aln ?_
 refine jc_seq ?_
 refine jc_reg ?_
 refine sq rfl (so_boxa (by decide) rfl rfl rfl fun b1 => ?_)
 refine sqv rfl (yv_assign rfl rfl) ?_
 refine jl_nil ?_
 refine jx_then ?_
 refine jc_seq ?_
 refine jc_block ?_
 refine jc_seq ?_
 refine jc_reg ?_
 refine sqv rfl (yv_move rfl rfl) ?_
 obtain ⟨y13, hy13, h⟩ := bdE h
 refine sq rfl (so_callv pf248 rfl rfl rfl rfl (fun σ hs => F248_c hy13 σ.w σ.O hs.olt) ?_)
 obtain ⟨x14, hx14, h⟩ := letX h
 refine sqv rfl (yxb hx14 (yv_not rfl rfl)) ?_
 refine sqv rfl (yv_assign rfl rfl) ?_
 refine jl_nil ?_
 refine jx_then ?_
 rcases x14 with _ | _
 ·
  replace h := brF h
  refine jc_f rfl ?_
  refine jc_seq ?_
  refine jc_reg ?_
  refine sqv rfl (yv_ldb ti61 rfl rfl (rd_bl at0) (Sub.refl _) (Ty.len _ _) (by simp)) ?_
  refine sqv rfl (yv_move rfl rfl) ?_
  obtain ⟨y15, hy15, h⟩ := bdE h
  refine sq rfl (so_callv pf168 rfl rfl rfl rfl (fun σ hs => F168_c hy15 σ.w σ.O hs.olt) ?_)
  obtain ⟨x16, hx16, h⟩ := letX h
  refine sqv rfl (yxb hx16 (yv_neq rfl rfl rfl)) ?_
  refine sqv rfl (yv_assign rfl rfl) ?_
  refine jl_nil ?_
  refine jx_then ?_
  rcases x16 with _ | _
  ·
   replace h := brF h
   refine jc_f rfl ?_
   refine jc_seq ?_
   refine jc_reg ?_
   refine sqv rfl (yv_move rfl rfl) ?_
   obtain ⟨y18, hy18, h⟩ := bdE h
   refine sq rfl (so_callv pf266 rfl rfl rfl rfl (fun σ hs => F266_c hy18 σ.w σ.O hs.olt) ?_)
   obtain ⟨x19, hx19, h⟩ := letX h
   refine sqv rfl (yxb hx19 (yv_eql rfl rfl rfl)) ?_
   refine sqv rfl (yv_assign rfl rfl) ?_
   refine jl_nil ?_
   refine jx_then ?_
   rcases x19 with _ | _
   ·
    replace h := brF h
    refine jc_f rfl ?_
    refine jc_skip ?_
    refine jx_blk ?_
    refine jx_then ?_
    refine jc_seq ?_
    refine jc_regd (k := 14) hmix rfl [([], .blk b1 61 (tySTree.enc p0))] [] (.cons at0 .nil) .nil ?_
    refine tk (i := 0) rfl (by kernel_rfl) rfl (yv_ldb ti61 rfl rfl (rd_bl at0) (Sub.refl _) (Ty.len _ _) (by simp)) (.cons at0 (by kernel_rfl) .nil) .nil ?_
    refine tk (i := 1) rfl (by kernel_rfl) rfl (yv_move rfl rfl) .nil .nil ?_
    refine tk (i := 2) rfl (by kernel_rfl) rfl (yv_move rfl rfl) .nil .nil ?_
    refine tk (i := 6) rfl (by kernel_rfl) rfl (yv_ldb ti61 rfl rfl (rd_bl at0) (Sub.refl _) (Ty.len _ _) (by simp)) (.cons at0 (by kernel_rfl) .nil) .nil ?_
    refine tk (i := 7) rfl (by kernel_rfl) rfl (yv_move rfl rfl) .nil .nil ?_
    refine tk (i := 8) rfl (by kernel_rfl) rfl (yv_move rfl rfl) .nil .nil ?_
    obtain ⟨y20, hy20, h⟩ := bdE h
    refine jg_one (i := 3) (by kernel_rfl) (gst rfl rfl (so_callv pf266 rfl rfl rfl rfl (fun σ hs => F266_c hy20 σ.w σ.O hs.olt) ?_))
    refine ng (.cons at0 .nil) .nil ?_
    obtain ⟨x21, hx21, h⟩ := letX h
    refine tk (i := 4) rfl (by kernel_rfl) rfl (yxi hx21 (yv_sub rfl rfl rfl)) .nil .nil ?_
    obtain ⟨y22, hy22, h⟩ := bdE h
    refine jg_one (i := 5) (by kernel_rfl) (gst rfl rfl (so_callx pf203 rfl rfl rfl rfl (fun σ hs => ih hy22 σ.w σ.O hs.olt) (fun _ => (.cons .nil)) (fun _ => .nil) (fun r23 => ?_)))
    refine ng (.cons at1 .nil) .nil ?_
    obtain ⟨y24, hy24, h⟩ := bdE h
    refine jg_one (i := 9) (by kernel_rfl) (gst rfl rfl (so_callv pf266 rfl rfl rfl rfl (fun σ hs => F266_c hy24 σ.w σ.O hs.olt) ?_))
    refine ng (.cons at1 .nil) .nil ?_
    obtain ⟨x25, hx25, h⟩ := letX h
    refine tk (i := 10) rfl (by kernel_rfl) rfl (yxi hx25 (yv_add rfl rfl rfl)) .nil .nil ?_
    obtain ⟨y26, hy26, h⟩ := bdE h
    refine jg_one (i := 11) (by kernel_rfl) (gst rfl rfl (so_callx pf203 rfl rfl rfl rfl (fun σ hs => ih hy26 σ.w σ.O hs.olt) (fun _ => (.cons .nil)) (fun _ => .nil) (fun r27 => ?_)))
    refine ng (.cons at2 .nil) .nil ?_
    obtain ⟨l28, hl28, h⟩ := letX h
    obtain ⟨g29, h⟩ := gdE h
    refine jg_one (i := 12) (by kernel_rfl) (gst rfl rfl (so_appX (C := (tyI .i64)) hl28 si258 rfl rfl rfl rfl de1 (rd_o at0) rfl g29 fun s30 => ?_))
    refine ng (.cons at2 .nil) .nil ?_
    refine tk (i := 13) rfl (by kernel_rfl) rfl (yv_assign rfl rfl) .nil .nil ?_
    refine jg_nil (by kernel_rfl) ?_
    refine jx_then ?_
    refine jc_ret ?_
    cases h
    exact jx_ret rfl (rr_tmp rfl rr_nil) ⟨(s30), rfl, rfl, rfl, rfl⟩ (.cons de0 .nil) .nil rfl (by simp)
   ·
    replace h := brT h
    refine jc_t rfl ?_
    refine jc_seq ?_
    refine jc_reg ?_
    refine sqv rfl (yv_assign rfl rfl) ?_
    refine jl_nil ?_
    refine jx_then ?_
    refine jc_ret ?_
    refine jx_br ?_
    refine jx_tr ?_
    refine nj_nil 3 (tyI .i64) rfl ?_
    cases h
    exact jx_ret rfl (rr_tmp rfl rr_nil) ⟨((⟨none, 0, 0⟩ : Sl)), rfl, rfl, rfl, rfl⟩ (.cons de0 .nil) .nil rfl (by simp)
  ·
   replace h := brT h
   refine jc_t rfl ?_
   refine jc_seq ?_
   refine jc_reg ?_
   refine sqv rfl (yv_move rfl rfl) ?_
   refine sq rfl (so_bslL (C := (tyI .i64)) (l := ([p1] : (List Int))) si258 sz258 rfl rfl rfl rfl (by decide) (by decide) (fills_cons rfl (many_upd' (tyI .i64) _ (0 : Int) p1 (by simp [lup])) rfl (Ty.len (tyI .i64) p1) fills_nil) fun s17 => ?_)
   refine sqv rfl (yv_assign rfl rfl) ?_
   refine jl_nil ?_
   refine jx_then ?_
   refine jc_ret ?_
   refine jx_br ?_
   refine jx_tr ?_
   cases h
   exact jx_ret rfl (rr_tmp rfl rr_nil) ⟨(s17), rfl, rfl, rfl, rfl⟩ (.cons de0 .nil) .nil rfl (by simp)
 ·
  replace h := brT h
  refine jc_t rfl ?_
  refine jc_seq ?_
  refine jc_reg ?_
  refine sqv rfl (yv_assign rfl rfl) ?_
  refine jl_nil ?_
  refine jx_then ?_
  refine jc_ret ?_
  refine jx_br ?_
  refine jx_tr ?_
  refine nj_nil 3 (tyI .i64) rfl ?_
  cases h
  exact jx_ret rfl (rr_tmp rfl rr_nil) ⟨((⟨none, 0, 0⟩ : Sl)), rfl, rfl, rfl, rfl⟩ (.cons de0 .nil) .nil rfl (by simp)
theorem F203_c {p0 : STree} {p1 : Int} {r : (List Int)} (h : F203 p0 p1 = some r) (w0 : World) (O0 : Nat → Prop) (hO : ∀ k, O0 k → k < w0.heap.size) :
  CallsP Tryz.prog 203 (List.toArray [ag (tySTree.enc p0), .int .i64 p1]) w0 O0 [] (RX (fun x : Sl => sv x) (fun x => [.sli x 3 (tyI .i64).size (r).length ((tyI .i64).many r)]) (fun x => [])) :=
 F203_rc FUEL h w0 O0 hO
theorem F118_c {p0 : STree} {p1 : Int} {p2 : (Vector Bool 8)} {r : (List (Vector Int 2))} (h : F118 p0 p1 p2 = some r) (w0 : World) (O0 : Nat → Prop) (hO : ∀ k, O0 k → k < w0.heap.size) :
  CallsP Tryz.prog 118 (List.toArray [ag (tySTree.enc p0), .int .i64 p1, ag ((Ty.arr 8 tyB).enc p2)]) w0 O0 [] (RX (fun x : Sl => sv x) (fun x => [.sli x 173 (Ty.arr 2 (tyI .i64)).size (r).length ((Ty.arr 2 (tyI .i64)).many r)]) (fun x => [])) := by
 unfold F118 at h
 refine calls_start (e := [(0, ag (tySTree.enc p0)), (1, .int .i64 p1), (2, ag ((Ty.arr 8 tyB).enc p2))]) (L := []) (K := []) Tryz.func118 rfl rfl rfl ⟨rfl, rfl, rfl, trivial⟩ hO (by simp) .nil aln ?_
 refine jc_seq ?_
 refine jc_reg ?_
 refine sq rfl (so_boxa (by decide) rfl rfl rfl fun b1 => ?_)
 refine sq rfl (so_boxa (by decide) rfl rfl rfl fun b2 => ?_)
 refine sqv rfl (yv_assign rfl rfl) ?_
 refine jl_nil ?_
 refine jx_then ?_
 refine jc_seq ?_
 refine jc_seq_n ?_
 intro N0 hN0
 have hj0 : ∀ (j7 : Bool), F118_j0 p1 p0 p2 j7 = some r → NJ 51 w0 O0 [] N0 [(1, .int .i64 p1), (3, pt b1 0), (5, pt b2 0), (6, sv (⟨none, 0, 0⟩ : Sl)), (17, .bool j7)] [.blk b2 62 ((Ty.arr 8 tyB).enc p2), .blk b1 61 (tySTree.enc p0)] [] := by
  intro j7 h
  unfold F118_j0 at h
  refine nj_abs hN0 ?_
  rcases j7 with _ | _
  ·
   replace h := brF h
   refine jc_f rfl ?_
   refine jc_skip ?_
   refine jx_then ?_
   refine jc_seq ?_
   refine jc_reg ?_
   refine sqv rfl (yv_assign rfl rfl) ?_
   refine jl_nil ?_
   refine jx_then ?_
   refine jc_seq ?_
   refine jc_seq ?_
   refine jc_reg ?_
   refine sqv rfl (yv_move rfl rfl) ?_
   obtain ⟨y3_8, hy3_8, h⟩ := bdE h
   refine sq rfl (so_callv pf202 rfl rfl rfl rfl (fun σ hs => F202_c hy3_8 σ.w σ.O hs.olt) ?_)
   refine sqv rfl (yv_move rfl rfl) ?_
   refine jl_nil ?_
   refine jx_then ?_
   refine jc_block ?_
   refine nj_nil 173 (Ty.arr 2 (tyI .i64)) rfl ?_
   refine jc_loop ?_
   intro B0 Q0 hB0 hQ0
   have key0 : ∀ (k0 : Nat) (j288_8 : (List (Vector Int 2))) (j289_8 : Int) (z287_8 : Sl), F118_l0 y3_8 p0 p2 k0 j288_8 j289_8 = some r → JW 51 w0 O0 [] Tryz.prog B0 Q0 [(3, pt b1 0), (5, pt b2 0), (6, sv (⟨none, 0, 0⟩ : Sl)), (7, sv z287_8), (19, ag ((Ty.arr 3 (tyI .i64)).enc y3_8)), (20, .int .i64 j289_8)] [.blk b2 62 ((Ty.arr 8 tyB).enc p2), .blk b1 61 (tySTree.enc p0), .sli z287_8 173 (Ty.arr 2 (tyI .i64)).size (j288_8).length ((Ty.arr 2 (tyI .i64)).many j288_8)] [] := by
    intro k0
    induction k0 with
    | zero => intro j288_8 j289_8 z287_8 h; cases h
    | succ k0 ih0 =>
     intro j288_8 j289_8 z287_8 h
     unfold F118_l0 at h
     refine jw_round hB0 ?_
     refine jc_seq ?_
     refine jc_reg ?_
     obtain ⟨x290_8, hx290_8, h⟩ := letX h
     refine sqv rfl (yxb hx290_8 (yv_lss rfl rfl rfl)) ?_
     refine jl_nil ?_
     refine jx_then ?_
     refine jc_seq ?_
     rcases x290_8 with _ | _
     ·
      replace h := brF h
      refine jc_f rfl ?_
      refine jc_exit ?_
      refine jx_te ?_
      refine jx_te ?_
      refine jx_abs hQ0 ?_
      refine jx_hit ?_
      refine jx_then ?_
      refine jc_seq ?_
      refine jc_reg ?_
      refine sqv rfl (yv_move rfl rfl) ?_
      refine sqv rfl (yv_assign rfl rfl) ?_
      refine jl_nil ?_
      refine jx_then ?_
      refine jc_ret ?_
      cases h
      exact jx_ret rfl (rr_tmp rfl rr_nil) ⟨(z287_8), rfl, rfl, rfl, rfl⟩ (.cons de2 .nil) .nil rfl (by simp)
     ·
      replace h := brT h
      refine jc_t rfl ?_
      refine jc_skip ?_
      refine jx_then ?_
      refine jc_seq ?_
      refine jc_block ?_
      refine jc_seq ?_
      refine jc_reg ?_
      refine sqv rfl (yv_move rfl rfl) ?_
      obtain ⟨g362_8, h⟩ := gdE h
      obtain ⟨x363_8, hx363_8, h⟩ := letX h
      refine sqv rfl (yxi hx363_8 (yv_index (g := false) (ys := (tyI .i64).enc (vat y3_8 j289_8)) Tryz.underlying33 ti3 rfl rfl rfl g362_8 (arr_sub (tyI .i64) _ _ g362_8) (Ty.len _ _) (fun _ => rfl))) ?_
      refine sqv rfl (yv_assign rfl rfl) ?_
      refine sqv rfl (yv_assign rfl rfl) ?_
      refine jl_nil ?_
      refine jx_then ?_
      refine jc_seq ?_
      refine jc_reg ?_
      refine sqv rfl (yv_ldb ti61 rfl rfl (rd_bl at1) (Sub.refl _) (Ty.len _ _) (by simp)) ?_
      refine sqv rfl (yv_move rfl rfl) ?_
      obtain ⟨y364_8, hy364_8, h⟩ := bdE h
      refine sq rfl (so_callx pf203 rfl rfl rfl rfl (fun σ hs => F203_c hy364_8 σ.w σ.O hs.olt) (fun _ => (.cons .nil)) (fun _ => .nil) (fun r365_8 => ?_))
      obtain ⟨x366_8, hx366_8, h⟩ := letX h
      refine sqv rfl (yv_len isl258 rfl rfl (rd_o at0) hx366_8) ?_
      refine sqv rfl (yv_move rfl rfl) ?_
      refine jl_nil ?_
      refine jx_then ?_
      refine jc_block ?_
      refine jc_loop ?_
      intro B1 Q1 hB1 hQ1
      have key1 : ∀ (k1 : Nat) (j409_8 : (List (Vector Int 2))) (j410_8 : Int) (z408_8 : Sl), F118_l1 x366_8 y364_8 j289_8 p2 (F118_l0 y3_8 p0 p2 k0) k1 j409_8 j410_8 = some r → JW 51 w0 O0 [] Tryz.prog B1 Q1 [(3, pt b1 0), (5, pt b2 0), (6, sv (⟨none, 0, 0⟩ : Sl)), (7, sv z408_8), (8, .int .i64 j289_8), (19, ag ((Ty.arr 3 (tyI .i64)).enc y3_8)), (20, .int .i64 j289_8), (26, sv r365_8), (27, .int .i64 x366_8), (28, .int .i64 j410_8)] [.blk b2 62 ((Ty.arr 8 tyB).enc p2), .blk b1 61 (tySTree.enc p0), .sli z408_8 173 (Ty.arr 2 (tyI .i64)).size (j409_8).length ((Ty.arr 2 (tyI .i64)).many j409_8), .sli r365_8 3 (tyI .i64).size (y364_8).length ((tyI .i64).many y364_8)] [] := by
       intro k1
       induction k1 with
       | zero => intro j409_8 j410_8 z408_8 h; cases h
       | succ k1 ih1 =>
        intro j409_8 j410_8 z408_8 h
        unfold F118_l1 at h
        refine jw_round hB1 ?_
        refine jc_seq ?_
        refine jc_reg ?_
        obtain ⟨x411_8, hx411_8, h⟩ := letX h
        refine sqv rfl (yxb hx411_8 (yv_lss rfl rfl rfl)) ?_
        refine jl_nil ?_
        refine jx_then ?_
        refine jc_seq ?_
        rcases x411_8 with _ | _
        ·
         replace h := brF h
         refine jc_f rfl ?_
         refine jc_exit ?_
         refine jx_te ?_
         refine jx_te ?_
         refine jx_abs hQ1 ?_
         refine jx_hit ?_
         refine jx_blk ?_
         refine jx_then ?_
         refine jc_reg ?_
         obtain ⟨x430_8, hx430_8, h⟩ := letX h
         refine sqv rfl (yxi hx430_8 (yv_add rfl rfl rfl)) ?_
         refine sqv rfl (yv_move rfl rfl) ?_
         refine jl_nil ?_
         refine jx_again ?_
         exact nj_weak (ih0 j409_8 x430_8 z408_8 h) ⟨rfl, rfl, rfl, rfl, rfl, rfl, trivial⟩ (.cons de0 (.cons de0 (.cons de0 .nil))) .nil
        ·
         replace h := brT h
         refine jc_t rfl ?_
         refine jc_skip ?_
         refine jx_then ?_
         refine jc_seq_n ?_
         intro N1 hN1
         have hj1 : ∀ (j428_8 : (List (Vector Int 2))) (z427_8 : Sl), F118_j1 j410_8 (F118_l1 x366_8 y364_8 j289_8 p2 (F118_l0 y3_8 p0 p2 k0) k1) j428_8 = some r → NJ 51 w0 O0 [] N1 [(3, pt b1 0), (5, pt b2 0), (6, sv (⟨none, 0, 0⟩ : Sl)), (7, sv z427_8), (8, .int .i64 j289_8), (19, ag ((Ty.arr 3 (tyI .i64)).enc y3_8)), (20, .int .i64 j289_8), (26, sv r365_8), (27, .int .i64 x366_8), (28, .int .i64 j410_8)] [.blk b2 62 ((Ty.arr 8 tyB).enc p2), .blk b1 61 (tySTree.enc p0), .sli z427_8 173 (Ty.arr 2 (tyI .i64)).size (j428_8).length ((Ty.arr 2 (tyI .i64)).many j428_8), .sli r365_8 3 (tyI .i64).size (y364_8).length ((tyI .i64).many y364_8)] [] := by
          intro j428_8 z427_8 h
          unfold F118_j1 at h
          refine nj_abs hN1 ?_
          refine jc_reg ?_
          obtain ⟨x1_8_429, hx1_8_429, h⟩ := letX h
          refine sqv rfl (yxi hx1_8_429 (yv_add rfl rfl rfl)) ?_
          refine sqv rfl (yv_move rfl rfl) ?_
          refine jl_nil ?_
          refine jx_again ?_
          exact nj_weak (ih1 j428_8 x1_8_429 z427_8 h) ⟨rfl, rfl, rfl, rfl, rfl, rfl, rfl, rfl, rfl, rfl, trivial⟩ (.cons de0 (.cons de0 (.cons de0 (.cons de0 .nil)))) .nil
         refine jc_block ?_
         refine jc_seq ?_
         refine jc_reg ?_
         obtain ⟨g414_8, h⟩ := gdE h
         refine nj_openo at3 g414_8 fun b415_8 ha_b415_8 => ?_
         refine sqv rfl (yv_is is258 rfl rfl rfl ha_b415_8 (rd_o at3) g414_8) ?_
         obtain ⟨x416_8, hx416_8, h⟩ := letX h
         refine sqv rfl (yxi hx416_8 (yv_lds ti3 rfl rfl ha_b415_8 (rd_o at3) (many_sub' (tyI .i64) y364_8 j410_8 g414_8) rfl (Ty.len _ _) (fun _ => rfl))) ?_
         refine sqv rfl (yv_assign rfl rfl) ?_
         refine jl_nil ?_
         refine jx_then ?_
         refine jc_seq_n ?_
         intro N2 hN2
         have hj2 : ∀ (j425_8 : Bool), F118_j2 j289_8 x416_8 j409_8 j410_8 (F118_l1 x366_8 y364_8 j289_8 p2 (F118_l0 y3_8 p0 p2 k0) k1) j425_8 = some r → NJ 51 w0 O0 [] N2 [(3, pt b1 0), (5, pt b2 0), (6, sv (⟨none, 0, 0⟩ : Sl)), (7, sv z408_8), (8, .int .i64 j289_8), (11, .int .i64 x416_8), (19, ag ((Ty.arr 3 (tyI .i64)).enc y3_8)), (20, .int .i64 j289_8), (26, sv r365_8), (27, .int .i64 x366_8), (28, .int .i64 j410_8), (41, .bool j425_8)] [.blk b2 62 ((Ty.arr 8 tyB).enc p2), .blk b1 61 (tySTree.enc p0), .sli z408_8 173 (Ty.arr 2 (tyI .i64)).size (j409_8).length ((Ty.arr 2 (tyI .i64)).many j409_8), .sli r365_8 3 (tyI .i64).size (y364_8).length ((tyI .i64).many y364_8)] [] := by
          intro j425_8 h
          unfold F118_j2 at h
          refine nj_abs hN2 ?_
          rcases j425_8 with _ | _
          ·
           replace h := brF h
           refine jc_f rfl ?_
           refine jc_skip ?_
           refine jx_blk ?_
           refine jx_then_n ?_
           exact nj_weak (hj1 j409_8 z408_8 h) ⟨rfl, rfl, rfl, rfl, rfl, rfl, rfl, rfl, rfl, rfl, trivial⟩ (.cons de0 (.cons de0 (.cons de0 (.cons de0 .nil)))) .nil
          ·
           replace h := brT h
           refine jc_t rfl ?_
           refine jc_reg ?_
           refine sqv rfl (yv_move rfl rfl) ?_
           refine sqv rfl (yv_move rfl rfl) ?_
           refine sqv rfl (yv_move rfl rfl) ?_
           obtain ⟨x1_8_426, hx1_8_426, h⟩ := letX h
           refine sqv rfl (yxg (C := (Ty.arr 2 (tyI .i64))) hx1_8_426 (yv_build bi173 rfl rfl (fills_cons rfl (arr_upd (tyI .i64) (Vector.replicate 2 (0 : Int)) (0 : Int) j289_8 (by decide)) rfl (Ty.len (tyI .i64) j289_8) (fills_cons rfl (arr_upd (tyI .i64) (vup (Vector.replicate 2 (0 : Int)) (0 : Int) j289_8) (1 : Int) x416_8 (by decide)) rfl (Ty.len (tyI .i64) x416_8) fills_nil)))) ?_
           refine sq rfl (so_bslL (C := (Ty.arr 2 (tyI .i64))) (l := ([x1_8_426] : (List (Vector Int 2)))) si168 sz168 rfl rfl rfl rfl (by decide) (by decide) (fills_cons rfl (many_upd' (Ty.arr 2 (tyI .i64)) _ (0 : Int) x1_8_426 (by simp [lup])) rfl (Ty.len (Ty.arr 2 (tyI .i64)) x1_8_426) fills_nil) fun s2_8_426 => ?_)
           obtain ⟨l3_8_426, hl3_8_426, h⟩ := letX h
           obtain ⟨g4_8_426, h⟩ := gdE h
           refine sq rfl (so_appX (C := (Ty.arr 2 (tyI .i64))) hl3_8_426 si168 rfl rfl rfl rfl de3 (rd_o at0) rfl g4_8_426 fun s5_8_426 => ?_)
           refine sqv rfl (yv_assign rfl rfl) ?_
           refine jl_nil ?_
           refine jx_blk ?_
           refine jx_then_n ?_
           exact nj_weak (hj1 l3_8_426 s5_8_426 h) ⟨rfl, rfl, rfl, rfl, rfl, rfl, rfl, rfl, rfl, rfl, trivial⟩ (.cons de2 (.cons de2 (.cons de0 (.cons de1 .nil)))) .nil
         refine jc_reg ?_
         refine sqv rfl (yv_move rfl rfl) ?_
         obtain ⟨x417_8, hx417_8, h⟩ := letX h
         refine sqv rfl (yxi hx417_8 (yv_rem rfl rfl rfl (by decide))) ?_
         obtain ⟨x418_8, hx418_8, h⟩ := letX h
         refine sqv rfl (yxb hx418_8 (yv_neq rfl rfl rfl)) ?_
         refine sqv rfl (yv_move rfl rfl) ?_
         rcases x418_8 with _ | _
         ·
          replace h := brF h
          refine sqv rfl (yv_move rfl rfl) ?_
          obtain ⟨x420_8, hx420_8, h⟩ := letX h
          refine sqv rfl (yxi hx420_8 (yv_quo rfl rfl rfl (by decide))) ?_
          obtain ⟨g421_8, h⟩ := gdE h
          refine sqv rfl (yv_ia ia62 rfl rfl rfl g421_8) ?_
          obtain ⟨x422_8, hx422_8, h⟩ := letX h
          refine sqv rfl (yxb hx422_8 (yv_ldb ti4 rfl rfl (rd_bl at0) ((Sub.refl _).trans (arr_sub tyB p2 x420_8 g421_8)) (Ty.len _ _) (fun _ => rfl))) ?_
          obtain ⟨x423_8, hx423_8, h⟩ := letX h
          refine sqv rfl (yxb hx423_8 (yv_not rfl rfl)) ?_
          refine sqv rfl (yv_pick_f rfl rfl rfl) ?_
          refine jl_nil ?_
          refine jx_then_n ?_
          exact nj_weak (hj2 x423_8 h) ⟨rfl, rfl, rfl, rfl, rfl, rfl, rfl, rfl, rfl, rfl, rfl, rfl, trivial⟩ (.cons de0 (.cons de0 (.cons de0 (.cons de0 .nil)))) .nil
         ·
          replace h := brT h
          refine sq_skip rfl ?_
          refine sq_skip rfl ?_
          refine sq_skip rfl ?_
          refine sq_skip rfl ?_
          refine sq_skip rfl ?_
          refine sqv rfl (yv_pick_t rfl rfl rfl) ?_
          refine jl_nil ?_
          refine jx_then_n ?_
          exact nj_weak (hj2 true h) ⟨rfl, rfl, rfl, rfl, rfl, rfl, rfl, rfl, rfl, rfl, rfl, rfl, trivial⟩ (.cons de0 (.cons de0 (.cons de0 (.cons de0 .nil)))) .nil
      exact nj_weak (key1 FUEL j288_8 0 z287_8 h) ⟨rfl, rfl, rfl, rfl, rfl, rfl, rfl, rfl, rfl, rfl, trivial⟩ (.cons de1 (.cons de1 (.cons de1 (.cons de0 .nil)))) .nil
   exact nj_weak (key0 FUEL [] 0 (⟨none, 0, 0⟩ : Sl) h) ⟨rfl, rfl, rfl, rfl, rfl, rfl, trivial⟩ (.cons de1 (.cons de1 (.cons de0 .nil))) .nil
  ·
   replace h := brT h
   refine jc_t rfl ?_
   refine jc_seq ?_
   refine jc_reg ?_
   refine sqv rfl (yv_assign rfl rfl) ?_
   refine jl_nil ?_
   refine jx_then ?_
   refine jc_ret ?_
   refine jx_tr ?_
   refine nj_nil 173 (Ty.arr 2 (tyI .i64)) rfl ?_
   cases h
   exact jx_ret rfl (rr_tmp rfl rr_nil) ⟨((⟨none, 0, 0⟩ : Sl)), rfl, rfl, rfl, rfl⟩ (.cons de0 .nil) .nil rfl (by simp)
 refine jc_reg ?_
 refine sqv rfl (yv_move rfl rfl) ?_
 obtain ⟨x3, hx3, h⟩ := letX h
 refine sqv rfl (yxb hx3 (yv_lss rfl rfl rfl)) ?_
 refine sqv rfl (yv_move rfl rfl) ?_
 rcases x3 with _ | _
 ·
  replace h := brF h
  refine sqv rfl (yv_move rfl rfl) ?_
  obtain ⟨x5, hx5, h⟩ := letX h
  refine sqv rfl (yxb hx5 (yv_geq rfl rfl rfl)) ?_
  refine sqv rfl (yv_pick_f rfl rfl rfl) ?_
  refine jl_nil ?_
  refine jx_then_n ?_
  exact nj_weak (hj0 x5 h) ⟨rfl, rfl, rfl, rfl, rfl, trivial⟩ (.cons de0 (.cons de0 .nil)) .nil
 ·
  replace h := brT h
  refine sq_skip rfl ?_
  refine sq_skip rfl ?_
  refine sqv rfl (yv_pick_t rfl rfl rfl) ?_
  refine jl_nil ?_
  refine jx_then_n ?_
  exact nj_weak (hj0 true h) ⟨rfl, rfl, rfl, rfl, rfl, trivial⟩ (.cons de0 (.cons de0 .nil)) .nil
theorem F210_c {p0 : (Option Int)} {p1 : Int} {r : (Vector Int 32) × Bool} (h : F210 p0 p1 = some r) (w0 : World) (O0 : Nat → Prop) (hO : ∀ k, O0 k → k < w0.heap.size) (v0 : (Option Addr)) (k0 : (fa true mKey v0 p0).p ⟨w0, O0, inL []⟩) :
  CallsP Tryz.prog 210 (List.toArray [.pointer v0, .int .i64 p1]) w0 O0 [] (RV (.tuple #[ag ((Ty.arr 32 (tyI .u8)).enc r.1), .bool r.2])) := by
 unfold F210 at h
 refine calls_start (e := [(0, .pointer v0), (1, .int .i64 p1)]) (L := []) (K := [fa true mKey v0 p0]) Tryz.func210 rfl rfl rfl ⟨rfl, rfl, trivial⟩ hO (by simp) .nil (alc k0 aln) ?_
 refine jc_seq ?_
 refine jc_reg ?_
 refine sq rfl (so_alloc ti25 (by decide) rfl rfl fun b1 => ?_)
 refine sqv rfl (yv_assign rfl rfl) ?_
 refine jl_nil ?_
 refine jx_then ?_
 refine jc_seq ?_
 refine jc_seq_n ?_
 intro N0 hN0
 have hj0 : ∀ (j9 : Bool), F210_j0 p0 p1 j9 = some r → NJ 28 w0 O0 [] N0 [(0, .pointer v0), (1, .int .i64 p1), (4, pt b1 0), (5, .bool false), (12, .bool j9)] [.blk b1 25 ((Ty.arr 32 (tyI .u8)).enc (Vector.replicate 32 (0 : Int)))] [fa true mKey v0 p0] := by
  intro j9 h
  unfold F210_j0 at h
  refine nj_abs hN0 ?_
  rcases j9 with _ | _
  ·
   replace h := brF h
   refine jc_f rfl ?_
   refine jc_skip ?_
   refine jx_then ?_
   refine jc_seq ?_
   refine jc_reg ?_
   refine sqv rfl (yv_move rfl rfl) ?_
   rcases moE h with ⟨hm_x3_10, h⟩ | ⟨x3_10, hm_x3_10, h⟩
   ·
    skip
    obtain ⟨hno, h⟩ := gdE h
    exact hno.elim
   ·
    skip
    refine nj_xkX at0 hm_x3_10 fun b4_10 hv_b4_10 => ?_
    refine sqv rfl (yv_nilp rfl rfl hv_b4_10) ?_
    refine sqv rfl (yv_fa fa267_4 rfl rfl) ?_
    refine sq rfl (so_callx pf139 rfl rfl rfl rfl (fun σ hs => F139_c σ.w σ.O hs.olt hm_x3_10 hv_b4_10 (cs0 (rs_f at0) hs)) (fun _ => .nil) (fun _ => .nil) (fun r5_10 => ?_))
    refine jl_nil ?_
    refine jx_then ?_
    refine jc_seq ?_
    refine jc_reg ?_
    refine sqv rfl (yv_build bi25 rfl rfl fills_nil) ?_
    refine sqv rfl (yv_move rfl rfl) ?_
    refine sqv rfl (yv_move rfl rfl) ?_
    refine sqv rfl (yv_nilp rfl rfl hv_b4_10) ?_
    refine sqv rfl (yv_fa fa267_0 rfl rfl) ?_
    refine sqv rfl (yv_ldk ti3 rfl rfl (rd_f at0) hm_x3_10 hv_b4_10) ?_
    obtain ⟨y6_10, hy6_10, h⟩ := bdE h
    refine sq rfl (so_callv pf176 rfl rfl rfl rfl (fun σ hs => F176_c hy6_10 σ.w σ.O hs.olt) ?_)
    obtain ⟨y7_10, hy7_10, h⟩ := bdE h
    refine sq rfl (so_callx pf174 rfl rfl rfl rfl (fun σ hs => F174_c hy7_10 σ.w σ.O hs.olt) (fun _ => (.cons .nil)) (fun _ => .nil) (fun r8_10 => ?_))
    refine sq rfl (so_bslL (C := tySl) (l := ([r8_10] : List Sl)) si34 sz34 rfl rfl rfl rfl (by decide) (by decide) (fills_cons rfl (many_upd' tySl _ (0 : Int) r8_10 (by simp [lup])) rfl (Ty.len tySl r8_10) fills_nil) fun s9_10 => ?_)
    obtain ⟨y10_10, hy10_10, h⟩ := bdE h
    refine sq rfl (so_callv pf83 rfl rfl rfl rfl (fun σ hs => F83_c hy10_10 σ.w σ.O hs.olt s9_10 (cw0 (rq_sl (rd_o at0) (rq_alc (rd_o at1) rq_al0)) hs)) ?_)
    refine sq rfl (so_sta ti25 rfl rfl rfl rfl (Upd.refl (by simp [Ty.len])) (Ty.len _ _) (Ty.one _ _) (xs' := (Ty.arr 32 (tyI .u8)).enc y10_10) se2 ?_)
    refine sqv rfl (yv_assign rfl rfl) ?_
    refine jl_nil ?_
    refine jx_then ?_
    refine jc_ret ?_
    cases h
    exact jx_ret rfl (rr_cella ti25 rfl at2 (Ty.len _ _) (rr_tmp rfl rr_nil)) ⟨rfl, rfl, rfl, rfl⟩ .nil .nil rfl (by simp)
  ·
   replace h := brT h
   refine jc_t rfl ?_
   refine jc_seq ?_
   refine jc_reg ?_
   refine sqv rfl (yv_build bi25 rfl rfl fills_nil) ?_
   refine sq rfl (so_sta ti25 rfl rfl rfl rfl (Upd.refl (by simp [Ty.len])) (Ty.len _ _) (Ty.one _ _) (xs' := (Ty.arr 32 (tyI .u8)).enc (Vector.replicate 32 (0 : Int))) se0 ?_)
   refine sqv rfl (yv_assign rfl rfl) ?_
   refine jl_nil ?_
   refine jx_then ?_
   refine jc_ret ?_
   refine jx_tr ?_
   cases h
   exact jx_ret rfl (rr_cella ti25 rfl at0 (Ty.len _ _) (rr_tmp rfl rr_nil)) ⟨rfl, rfl, rfl, rfl⟩ .nil .nil rfl (by simp)
 refine jc_reg ?_
 refine sqv rfl (yv_move rfl rfl) ?_
 rcases moE h with ⟨hm_x2, h⟩ | ⟨x2, hm_x2, h⟩
 ·
  skip
  refine nj_kn0 at0 hm_x2 fun hn_n3 => ?_
  refine sqv rfl (yv_pn ipt70 rfl rfl rfl hn_n3) ?_
  refine sqv rfl (yv_move rfl rfl) ?_
  refine sq_skip rfl ?_
  refine sq_skip rfl ?_
  refine sq_skip rfl ?_
  refine sqv rfl (yv_pick_t rfl rfl rfl) ?_
  refine jl_nil ?_
  refine jx_then_n ?_
  exact nj_weak (hj0 true h) ⟨rfl, rfl, rfl, rfl, rfl, trivial⟩ (.cons de0 .nil) (.cons at0 .nil)
 ·
  skip
  refine nj_kn1 at0 hm_x2 fun hn_n5 => ?_
  refine sqv rfl (yv_pn ipt70 rfl rfl rfl hn_n5) ?_
  refine sqv rfl (yv_move rfl rfl) ?_
  refine sqv rfl (yv_move rfl rfl) ?_
  obtain ⟨y6, hy6, h⟩ := bdE h
  refine sq rfl (so_callv pf201 rfl rfl rfl rfl (fun σ hs => F201_c hy6 σ.w σ.O hs.olt) ?_)
  obtain ⟨x7, hx7, h⟩ := letX h
  refine sqv rfl (yxb hx7 (yv_not rfl rfl)) ?_
  refine sqv rfl (yv_pick_f rfl rfl rfl) ?_
  refine jl_nil ?_
  refine jx_then_n ?_
  exact nj_weak (hj0 x7 h) ⟨rfl, rfl, rfl, rfl, rfl, trivial⟩ (.cons de0 .nil) (.cons at0 .nil)
theorem F267_c {p0 : (List Int)} {r : (List Int)} (h : F267 p0 = some r) (w0 : World) (O0 : Nat → Prop) (hO : ∀ k, O0 k → k < w0.heap.size) (v0 : Sl) (k0 : (fa false (mRow (tyI .u8)) v0 p0).p ⟨w0, O0, inL []⟩) :
  CallsP Tryz.prog 267 (List.toArray [sv v0]) w0 O0 [] (RX (fun x : Sl => sv x) (fun x => [.sli x 5 (tyI .u8).size (r).length ((tyI .u8).many r)]) (fun x => [])) := by
 unfold F267 at h
 refine calls_start (e := [(0, sv v0)]) (L := []) (K := [fa false (mRow (tyI .u8)) v0 p0]) Tryz.func267 rfl rfl rfl ⟨rfl, trivial⟩ hO (by simp) .nil (alc k0 aln) ?_
 refine jc_seq ?_
 refine jc_reg ?_
 refine sqv rfl (yv_assign rfl rfl) ?_
 refine jl_nil ?_
 refine jx_then ?_
 refine jc_seq ?_
 refine jc_seq ?_
 refine jc_reg ?_
 refine sqv rfl (yv_move rfl rfl) ?_
 rcases hz_z1 : (v0).a with _ | ad_z1
 ·
  refine nj_nilrow (rd_f at0) hz_z1 fun hp => ?_
  subst hp
  replace h : some ([]) = some r := by first | exact h | simpa [Let, Gd, LIM] using h
  refine sqv rfl (yv_sn isl97 rfl rfl rfl (by rw [hz_z1])) ?_
  refine jl_nil ?_
  refine jx_then ?_
  refine jc_t rfl ?_
  refine jc_seq ?_
  refine jc_reg ?_
  refine sqv rfl (yv_assign rfl rfl) ?_
  refine jl_nil ?_
  refine jx_then ?_
  refine jc_ret ?_
  refine jx_tr ?_
  refine nj_nil 5 (tyI .u8) rfl ?_
  cases h
  exact jx_ret rfl (rr_tmp rfl rr_nil) ⟨((⟨none, 0, 0⟩ : Sl)), rfl, rfl, rfl, rfl⟩ (.cons de0 .nil) .nil rfl (by simp)
 ·
  skip
  refine sqv rfl (yv_sn isl97 rfl rfl rfl (by rw [hz_z1])) ?_
  refine jl_nil ?_
  refine jx_then ?_
  refine jc_f rfl ?_
  refine jc_skip ?_
  refine jx_then ?_
  refine jc_seq ?_
  refine jc_reg ?_
  refine sq rfl (so_bslL (C := (tyI .u8)) (l := ([] : (List Int))) si97 sz97 rfl rfl rfl rfl (by decide) (by decide) fills_nil fun s4 => ?_)
  refine sqv rfl (yv_move rfl rfl) ?_
  obtain ⟨l5, hl5, h⟩ := letX h
  obtain ⟨g6, h⟩ := gdE h
  refine sq rfl (so_appX (C := (tyI .u8)) hl5 si97 rfl rfl rfl rfl de0 (rd_f at0) rfl g6 fun s7 => ?_)
  refine sqv rfl (yv_assign rfl rfl) ?_
  refine jl_nil ?_
  refine jx_then ?_
  refine jc_ret ?_
  cases h
  exact jx_ret rfl (rr_tmp rfl rr_nil) ⟨(s7), rfl, rfl, rfl, rfl⟩ (.cons de0 .nil) .nil rfl (by simp)
theorem F214_c {p0 : (Vector Int 32)} {p1 : (List Int)} {r : (List Int)} (h : F214 p0 p1 = some r) (w0 : World) (O0 : Nat → Prop) (hO : ∀ k, O0 k → k < w0.heap.size) (v1 : Sl) (k0 : (fa false (mRow (tyI .u8)) v1 p1).p ⟨w0, O0, inL []⟩) :
  CallsP Tryz.prog 214 (List.toArray [ag ((Ty.arr 32 (tyI .u8)).enc p0), sv v1]) w0 O0 [] (RX (fun x : Sl => sv x) (fun x => [.sli x 5 (tyI .u8).size (r).length ((tyI .u8).many r)]) (fun x => [])) := by
 unfold F214 at h
 refine calls_start (e := [(0, ag ((Ty.arr 32 (tyI .u8)).enc p0)), (1, sv v1)]) (L := []) (K := [fa false (mRow (tyI .u8)) v1 p1]) Tryz.func214 rfl rfl rfl ⟨rfl, rfl, trivial⟩ hO (by simp) .nil (alc k0 aln) ?_
 refine jc_seq ?_
 refine jc_reg ?_
 refine sq rfl (so_boxa (by decide) rfl rfl rfl fun b1 => ?_)
 refine sqv rfl (yv_assign rfl rfl) ?_
 refine jl_nil ?_
 refine jx_then ?_
 refine jc_seq ?_
 refine jc_reg ?_
 refine sqv rfl (yv_move rfl rfl) ?_
 obtain ⟨y2, hy2, h⟩ := bdE h
 refine sq rfl (so_callx pf267 rfl rfl rfl rfl (fun σ hs => F267_c hy2 σ.w σ.O hs.olt v1 (cw0 (rd_f at0) hs)) (fun _ => (.cons .nil)) (fun _ => .nil) (fun r3 => ?_))
 refine sqv rfl (yv_assign rfl rfl) ?_
 refine jl_nil ?_
 refine jx_then ?_
 refine jc_seq ?_
 refine jc_seq ?_
 refine jc_reg ?_
 refine sqv rfl (yv_assign rfl rfl) ?_
 refine jl_nil ?_
 refine jx_then ?_
 refine jc_block ?_
 refine jc_loop ?_
 intro B0 Q0 hB0 hQ0
 have key0 : ∀ (k0 : Nat) (j426 : (List Int)) (j427 : Int) (z425 : Sl), F214_l0 p0 k0 j426 j427 = some r → JW 50 w0 O0 [] Tryz.prog B0 Q0 [(1, sv z425), (2, pt b1 0), (4, sv (⟨none, 0, 0⟩ : Sl)), (5, .int .i64 j427)] [.blk b1 25 ((Ty.arr 32 (tyI .u8)).enc p0), .sli z425 5 (tyI .u8).size (j426).length ((tyI .u8).many j426)] [] := by
  intro k0
  induction k0 with
  | zero => intro j426 j427 z425 h; cases h
  | succ k0 ih0 =>
   intro j426 j427 z425 h
   unfold F214_l0 at h
   refine jw_round hB0 ?_
   refine jc_seq ?_
   refine jc_seq ?_
   refine jc_reg ?_
   refine sqv rfl (yv_move rfl rfl) ?_
   obtain ⟨x428, hx428, h⟩ := letX h
   refine sqv rfl (yxi hx428 (yv_mul rfl rfl rfl)) ?_
   refine sqv rfl (yv_move rfl rfl) ?_
   obtain ⟨x429, hx429, h⟩ := letX h
   refine sqv rfl (yv_len isl97 rfl rfl (rd_o at1) hx429) ?_
   obtain ⟨x430, hx430, h⟩ := letX h
   refine sqv rfl (yxb hx430 (yv_lss rfl rfl rfl)) ?_
   refine jl_nil ?_
   refine jx_then ?_
   rcases x430 with _ | _
   ·
    replace h := brF h
    refine jc_f rfl ?_
    refine jc_exit ?_
    refine jx_te ?_
    refine jx_te ?_
    refine jx_abs hQ0 ?_
    refine jx_hit ?_
    refine jx_then ?_
    refine jc_seq ?_
    refine jc_reg ?_
    refine sqv rfl (yv_move rfl rfl) ?_
    refine sqv rfl (yv_assign rfl rfl) ?_
    refine jl_nil ?_
    refine jx_then ?_
    refine jc_ret ?_
    cases h
    exact jx_ret rfl (rr_tmp rfl rr_nil) ⟨(z425), rfl, rfl, rfl, rfl⟩ (.cons de1 .nil) .nil rfl (by simp)
   ·
    replace h := brT h
    refine jc_t rfl ?_
    refine jc_skip ?_
    refine jx_then ?_
    refine jc_seq ?_
    refine jc_block ?_
    refine jc_seq ?_
    obtain ⟨y1_537, hy1_537, h⟩ := bdE h
    obtain ⟨y1_539, hy1_539, h⟩ := bdE h
    refine jc_regd (k := 7) hmix rfl [] [] .nil .nil ?_
    refine jg_reb (Ls' := [([], .blk b1 25 ((Ty.arr 32 (tyI .u8)).enc p0))]) (Ks' := []) (.cons at0 .nil) .nil .nil .nil ?_
    refine tk (i := 0) rfl (by kernel_rfl) rfl (yv_ldb ti25 rfl rfl (rd_bl at0) (Sub.refl _) (Ty.len _ _) (by simp)) (.cons at0 (by kernel_rfl) .nil) .nil ?_
    refine tk (i := 1) rfl (by kernel_rfl) rfl (yv_move rfl rfl) .nil .nil ?_
    refine jg_nm2 ?_
    intro J5_543 hJ5_543_1 hJ5_543_2
    have hs5_543_8 : ∀ (b1_540 : Nat) (s1_538 : Sl) (r1_537 : Sl), J5_543 [([], .blk b1 25 ((Ty.arr 32 (tyI .u8)).enc p0))] [] 0 #[true, true, true, true, true, true, true] [(1, sv z425), (2, pt b1 0), (4, sv (⟨none, 0, 0⟩ : Sl)), (5, .int .i64 j427), (6, pt b1_540 0)] [.blk b1_540 25 ((Ty.arr 32 (tyI .u8)).enc y1_539), .sli s1_538 97 tySl.size (([r1_537] : List Sl)).length (tySl.many ([r1_537] : List Sl)), .sli r1_537 5 (tyI .u8).size (y1_537).length ((tyI .u8).many y1_537), .blk b1 25 ((Ty.arr 32 (tyI .u8)).enc p0), .sli z425 5 (tyI .u8).size (j426).length ((tyI .u8).many j426)] [] := by
     intro b1_540 s1_538 r1_537
     refine hJ5_543_1 _ _ _ _ _ _ _ ?_
     refine jg_nil (by kernel_rfl) ?_
     refine jx_then ?_
     refine jc_seq ?_
     refine jc_reg ?_
     refine sqv rfl (yv_move rfl rfl) ?_
     refine sqv rfl (yv_move rfl rfl) ?_
     obtain ⟨x544, hx544, h⟩ := letX h
     refine sqv rfl (yxi hx544 (yv_mul rfl rfl rfl)) ?_
     refine sqv rfl (yv_move rfl rfl) ?_
     obtain ⟨x545, hx545, h⟩ := letX h
     refine sqv rfl (yxi hx545 (yv_add rfl rfl rfl)) ?_
     obtain ⟨x546, hx546, h⟩ := letX h
     refine sqv rfl (yxi hx546 (yv_mul rfl rfl rfl)) ?_
     refine sqv rfl (yv_move rfl rfl) ?_
     obtain ⟨x547, hx547, h⟩ := letX h
     refine sqv rfl (yv_len isl97 rfl rfl (rd_o at4) hx547) ?_
     obtain ⟨x548, hx548, h⟩ := letX h
     refine sqv rfl (yxi hx548 (yv_min rfl rfl rfl)) ?_
     obtain ⟨g549, h⟩ := gdE h
     refine sqv rfl (yv_slk is97 rfl rfl (rd_o at4) (.inr ⟨_, _, rfl, rfl⟩) (.inr ⟨_, _, rfl, rfl⟩) g549) ?_
     obtain ⟨x550, hx550, h⟩ := letX h
     refine sqv rfl (yv_len isl97 rfl rfl (rq_cut (rd_o at4) g549) hx550) ?_
     refine sqv rfl (yv_move rfl rfl) ?_
     refine jl_nil ?_
     refine jx_then ?_
     refine jc_block ?_
     refine jc_loop ?_
     intro B1 Q1 hB1 hQ1
     have key1 : ∀ (k1 : Nat) (j607 : (List Int)) (j608 : Int) (z606 : Sl), F214_l1 x550 j427 y1_539 (F214_l0 p0 k0) k1 j607 j608 = some r → JW 50 w0 O0 [] Tryz.prog B1 Q1 [(1, sv z606), (2, pt b1 0), (4, sv (⟨none, 0, 0⟩ : Sl)), (5, .int .i64 j427), (6, pt b1_540 0), (32, .int .i64 x550), (33, .int .i64 j608)] [.blk b1_540 25 ((Ty.arr 32 (tyI .u8)).enc y1_539), .blk b1 25 ((Ty.arr 32 (tyI .u8)).enc p0), .sli z606 5 (tyI .u8).size (j607).length ((tyI .u8).many j607)] [] := by
      intro k1
      induction k1 with
      | zero => intro j607 j608 z606 h; cases h
      | succ k1 ih1 =>
       intro j607 j608 z606 h
       unfold F214_l1 at h
       refine jw_round hB1 ?_
       refine jc_seq ?_
       refine jc_reg ?_
       obtain ⟨x609, hx609, h⟩ := letX h
       refine sqv rfl (yxb hx609 (yv_lss rfl rfl rfl)) ?_
       refine jl_nil ?_
       refine jx_then ?_
       refine jc_seq ?_
       rcases x609 with _ | _
       ·
        replace h := brF h
        refine jc_f rfl ?_
        refine jc_exit ?_
        refine jx_te ?_
        refine jx_te ?_
        refine jx_abs hQ1 ?_
        refine jx_hit ?_
        refine jx_blk ?_
        refine jx_then ?_
        refine jc_reg ?_
        refine sqv rfl (yv_move rfl rfl) ?_
        obtain ⟨x636, hx636, h⟩ := letX h
        refine sqv rfl (yxi hx636 (yv_add rfl rfl rfl)) ?_
        refine sqv rfl (yv_assign rfl rfl) ?_
        refine jl_nil ?_
        refine jx_again ?_
        exact nj_weak (ih0 j607 x636 z606 h) ⟨rfl, rfl, rfl, rfl, trivial⟩ (.cons de1 (.cons de1 .nil)) .nil
       ·
        replace h := brT h
        refine jc_t rfl ?_
        refine jc_skip ?_
        refine jx_then ?_
        refine jc_seq ?_
        refine jc_block ?_
        refine jc_seq ?_
        refine jc_reg ?_
        refine sqv rfl (yv_move rfl rfl) ?_
        refine sqv rfl (yv_assign rfl rfl) ?_
        refine jl_nil ?_
        refine jx_then ?_
        refine jc_regd (k := 13) hmix rfl [([12], .sli z606 5 (tyI .u8).size (j607).length ((tyI .u8).many j607)), ([], .blk b1_540 25 ((Ty.arr 32 (tyI .u8)).enc y1_539))] [] (.cons at2 (.cons at0 .nil)) .nil ?_
        refine tk (i := 0) rfl (by kernel_rfl) rfl (yv_move rfl rfl) .nil .nil ?_
        refine tk (i := 1) rfl (by kernel_rfl) rfl (yv_move rfl rfl) .nil .nil ?_
        obtain ⟨x624, hx624, h⟩ := letX h
        refine tk (i := 2) rfl (by kernel_rfl) rfl (yxi hx624 (yv_mul rfl rfl rfl)) .nil .nil ?_
        refine tk (i := 3) rfl (by kernel_rfl) rfl (yv_move rfl rfl) .nil .nil ?_
        obtain ⟨x625, hx625, h⟩ := letX h
        refine tk (i := 4) rfl (by kernel_rfl) rfl (yxi hx625 (yv_add rfl rfl rfl)) .nil .nil ?_
        obtain ⟨g626, h⟩ := gdE h
        refine nj_openo at2 g626 fun b627 ha_b627 => ?_
        refine tk (i := 5) rfl (by kernel_rfl) rfl (yv_is is97 rfl rfl rfl ha_b627 (rd_o at0) g626) (.cons at0 (by kernel_rfl) .nil) .nil ?_
        obtain ⟨x628, hx628, h⟩ := letX h
        refine tk (i := 6) rfl (by kernel_rfl) rfl (yxi hx628 (yv_lds ti5 rfl rfl ha_b627 (rd_o at0) (many_sub' (tyI .u8) j607 x625 g626) rfl (Ty.len _ _) (fun _ => rfl))) (.cons at0 (by kernel_rfl) .nil) .nil ?_
        refine tk (i := 7) rfl (by kernel_rfl) rfl (yv_move rfl rfl) .nil .nil ?_
        obtain ⟨g629, h⟩ := gdE h
        refine tk (i := 8) rfl (by kernel_rfl) rfl (yv_ia ia25 rfl rfl rfl g629) .nil .nil ?_
        obtain ⟨x630, hx630, h⟩ := letX h
        refine tk (i := 9) rfl (by kernel_rfl) rfl (yxi hx630 (yv_ldb ti5 rfl rfl (rd_bl at0) ((Sub.refl _).trans (arr_sub (tyI .u8) y1_539 j608 g629)) (Ty.len _ _) (fun _ => rfl))) (.cons at1 (by kernel_rfl) .nil) .nil ?_
        obtain ⟨x631, hx631, h⟩ := letX h
        refine tk (i := 10) rfl (by kernel_rfl) rfl (yxi hx631 (yv_xor rfl rfl rfl)) .nil .nil ?_
        obtain ⟨g632, h⟩ := gdE h
        refine nj_openo at2 g632 fun b633 ha_b633 => ?_
        refine tk (i := 11) rfl (by kernel_rfl) rfl (yv_is is97 rfl rfl rfl ha_b633 (rd_o at0) g632) (.cons at0 (by kernel_rfl) .nil) .nil ?_
        obtain ⟨l634, hl634, h⟩ := letX h
        refine jg_one (i := 12) (by kernel_rfl) (gst rfl rfl (so_sto1L hl634 ti5 rfl rfl rfl rfl rfl rfl ha_b633 g632 se2 ?_))
        refine ng (.cons at0 .nil) .nil ?_
        refine jg_nil (by kernel_rfl) ?_
        refine jx_blk ?_
        refine jx_then ?_
        refine jc_reg ?_
        obtain ⟨x635, hx635, h⟩ := letX h
        refine sqv rfl (yxi hx635 (yv_add rfl rfl rfl)) ?_
        refine sqv rfl (yv_move rfl rfl) ?_
        refine jl_nil ?_
        refine jx_again ?_
        exact nj_weak (ih1 l634 x635 z606 h) ⟨rfl, rfl, rfl, rfl, rfl, rfl, rfl, trivial⟩ (.cons de0 (.cons de0 (.cons de0 .nil))) .nil
     exact nj_weak (key1 FUEL j426 0 z425 h) ⟨rfl, rfl, rfl, rfl, rfl, rfl, rfl, trivial⟩ (.cons de0 (.cons de2 (.cons de2 .nil))) .nil
    have hs5_543_7 : ∀ (b1_540 : Nat) (s1_538 : Sl) (r1_537 : Sl), J5_543 [([], .blk b1 25 ((Ty.arr 32 (tyI .u8)).enc p0))] [] 1 #[true, true, true, true, true, true, false] [(1, sv z425), (2, pt b1 0), (4, sv (⟨none, 0, 0⟩ : Sl)), (5, .int .i64 j427), (6, pt b1_540 0), (21, ag ((Ty.arr 32 (tyI .u8)).enc y1_539))] [.blk b1_540 25 ((Ty.arr 32 (tyI .u8)).enc (Vector.replicate 32 (0 : Int))), .sli s1_538 97 tySl.size (([r1_537] : List Sl)).length (tySl.many ([r1_537] : List Sl)), .sli r1_537 5 (tyI .u8).size (y1_537).length ((tyI .u8).many y1_537), .blk b1 25 ((Ty.arr 32 (tyI .u8)).enc p0), .sli z425 5 (tyI .u8).size (j426).length ((tyI .u8).many j426)] [] := by
     intro b1_540 s1_538 r1_537
     refine hJ5_543_1 _ _ _ _ _ _ _ ?_
     refine jg_ready (rs := [6]) (by kernel_rfl) (by simp) (.cons ?_ .nil)
     ·
      refine gst rfl rfl (so_sta ti25 rfl rfl rfl rfl (Upd.refl (by simp [Ty.len])) (Ty.len _ _) (Ty.one _ _) (xs' := (Ty.arr 32 (tyI .u8)).enc y1_539) se0 ?_)
      refine ng (.cons at3 .nil) .nil ?_
      refine jg_ls (listed' := #[true, true, true, true, true, true, true]) (by kernel_rfl) ?_
      exact nj_weak (hJ5_543_2 _ _ _ _ _ _ _ (hs5_543_8 b1_540 s1_538 r1_537)) ⟨rfl, rfl, rfl, rfl, rfl, trivial⟩ (.cons de0 (.cons de0 (.cons de0 (.cons de0 (.cons de0 .nil))))) .nil
    have hs5_543_6 : ∀ (b1_540 : Nat) (s1_538 : Sl) (r1_537 : Sl), J5_543 [([], .blk b1 25 ((Ty.arr 32 (tyI .u8)).enc p0))] [] 2 #[true, true, true, true, false, true, false] [(1, sv z425), (2, pt b1 0), (4, sv (⟨none, 0, 0⟩ : Sl)), (5, .int .i64 j427), (6, pt b1_540 0), (17, ag ((Ty.arr 32 (tyI .u8)).enc p0)), (20, sv s1_538)] [.blk b1_540 25 ((Ty.arr 32 (tyI .u8)).enc (Vector.replicate 32 (0 : Int))), .sli s1_538 97 tySl.size (([r1_537] : List Sl)).length (tySl.many ([r1_537] : List Sl)), .sli r1_537 5 (tyI .u8).size (y1_537).length ((tyI .u8).many y1_537), .blk b1 25 ((Ty.arr 32 (tyI .u8)).enc p0), .sli z425 5 (tyI .u8).size (j426).length ((tyI .u8).many j426)] [] := by
     intro b1_540 s1_538 r1_537
     refine hJ5_543_1 _ _ _ _ _ _ _ ?_
     refine jg_ready (rs := [4]) (by kernel_rfl) (by simp) (.cons ?_ .nil)
     ·
      refine gst rfl rfl (so_callv pf83 rfl rfl rfl rfl (fun σ hs => F83_c hy1_539 σ.w σ.O hs.olt s1_538 (cw0 (rq_sl (rd_o at1) (rq_alc (rd_o at2) rq_al0)) hs)) ?_)
      refine ng (.cons at3 .nil) .nil ?_
      refine jg_ls (listed' := #[true, true, true, true, true, true, false]) (by kernel_rfl) ?_
      exact nj_weak (hJ5_543_2 _ _ _ _ _ _ _ (hs5_543_7 b1_540 s1_538 r1_537)) ⟨rfl, rfl, rfl, rfl, rfl, rfl, trivial⟩ (.cons de0 (.cons de0 (.cons de0 (.cons de0 (.cons de0 .nil))))) .nil
    have hs5_543_5 : ∀ (s1_538 : Sl) (r1_537 : Sl), J5_543 [([], .blk b1 25 ((Ty.arr 32 (tyI .u8)).enc p0))] [] 2 #[true, true, true, true, true, false, false] [(1, sv z425), (2, pt b1 0), (4, sv (⟨none, 0, 0⟩ : Sl)), (5, .int .i64 j427), (21, ag ((Ty.arr 32 (tyI .u8)).enc y1_539))] [.sli s1_538 97 tySl.size (([r1_537] : List Sl)).length (tySl.many ([r1_537] : List Sl)), .sli r1_537 5 (tyI .u8).size (y1_537).length ((tyI .u8).many y1_537), .blk b1 25 ((Ty.arr 32 (tyI .u8)).enc p0), .sli z425 5 (tyI .u8).size (j426).length ((tyI .u8).many j426)] [] := by
     intro s1_538 r1_537
     refine hJ5_543_1 _ _ _ _ _ _ _ ?_
     refine jg_ready (rs := [5]) (by kernel_rfl) (by simp) (.cons ?_ .nil)
     ·
      refine gst rfl rfl (so_alloc ti25 (by decide) rfl rfl fun b1_540 => ?_)
      refine ng (.cons at3 .nil) .nil ?_
      refine jg_ls (listed' := #[true, true, true, true, true, true, false]) (by kernel_rfl) ?_
      exact nj_weak (hJ5_543_2 _ _ _ _ _ _ _ (hs5_543_7 b1_540 s1_538 r1_537)) ⟨rfl, rfl, rfl, rfl, rfl, rfl, trivial⟩ (.cons de0 (.cons de0 (.cons de0 (.cons de0 (.cons de0 .nil))))) .nil
    have hs5_543_4 : ∀ (b1_540 : Nat) (r1_537 : Sl), J5_543 [([], .blk b1 25 ((Ty.arr 32 (tyI .u8)).enc p0))] [] 3 #[true, true, true, false, false, true, false] [(1, sv z425), (2, pt b1 0), (4, sv (⟨none, 0, 0⟩ : Sl)), (5, .int .i64 j427), (6, pt b1_540 0), (17, ag ((Ty.arr 32 (tyI .u8)).enc p0)), (19, sv r1_537)] [.blk b1_540 25 ((Ty.arr 32 (tyI .u8)).enc (Vector.replicate 32 (0 : Int))), .sli r1_537 5 (tyI .u8).size (y1_537).length ((tyI .u8).many y1_537), .blk b1 25 ((Ty.arr 32 (tyI .u8)).enc p0), .sli z425 5 (tyI .u8).size (j426).length ((tyI .u8).many j426)] [] := by
     intro b1_540 r1_537
     refine hJ5_543_1 _ _ _ _ _ _ _ ?_
     refine jg_ready (rs := [3]) (by kernel_rfl) (by simp) (.cons ?_ .nil)
     ·
      refine gst rfl rfl (so_bslL (C := tySl) (l := ([r1_537] : List Sl)) si34 sz34 rfl rfl rfl rfl (by decide) (by decide) (fills_cons rfl (many_upd' tySl _ (0 : Int) r1_537 (by simp [lup])) rfl (Ty.len tySl r1_537) fills_nil) fun s1_538 => ?_)
      refine ng (.cons at3 .nil) .nil ?_
      refine jg_ls (listed' := #[true, true, true, true, false, true, false]) (by kernel_rfl) ?_
      exact nj_weak (hJ5_543_2 _ _ _ _ _ _ _ (hs5_543_6 b1_540 s1_538 r1_537)) ⟨rfl, rfl, rfl, rfl, rfl, rfl, rfl, trivial⟩ (.cons de1 (.cons de0 (.cons de0 (.cons de0 (.cons de0 .nil))))) .nil
    have hs5_543_3 : ∀ (s1_538 : Sl) (r1_537 : Sl), J5_543 [([], .blk b1 25 ((Ty.arr 32 (tyI .u8)).enc p0))] [] 3 #[true, true, true, true, false, false, false] [(1, sv z425), (2, pt b1 0), (4, sv (⟨none, 0, 0⟩ : Sl)), (5, .int .i64 j427), (17, ag ((Ty.arr 32 (tyI .u8)).enc p0)), (20, sv s1_538)] [.sli s1_538 97 tySl.size (([r1_537] : List Sl)).length (tySl.many ([r1_537] : List Sl)), .sli r1_537 5 (tyI .u8).size (y1_537).length ((tyI .u8).many y1_537), .blk b1 25 ((Ty.arr 32 (tyI .u8)).enc p0), .sli z425 5 (tyI .u8).size (j426).length ((tyI .u8).many j426)] [] := by
     intro s1_538 r1_537
     refine hJ5_543_1 _ _ _ _ _ _ _ ?_
     refine jg_ready (rs := [4, 5]) (by kernel_rfl) (by simp) (.cons ?_ (.cons ?_ .nil))
     ·
      refine gst rfl rfl (so_callv pf83 rfl rfl rfl rfl (fun σ hs => F83_c hy1_539 σ.w σ.O hs.olt s1_538 (cw0 (rq_sl (rd_o at0) (rq_alc (rd_o at1) rq_al0)) hs)) ?_)
      refine ng (.cons at2 .nil) .nil ?_
      refine jg_ls (listed' := #[true, true, true, true, true, false, false]) (by kernel_rfl) ?_
      exact nj_weak (hJ5_543_2 _ _ _ _ _ _ _ (hs5_543_5 s1_538 r1_537)) ⟨rfl, rfl, rfl, rfl, rfl, trivial⟩ (.cons de0 (.cons de0 (.cons de0 (.cons de0 .nil)))) .nil
     ·
      refine gst rfl rfl (so_alloc ti25 (by decide) rfl rfl fun b1_540 => ?_)
      refine ng (.cons at3 .nil) .nil ?_
      refine jg_ls (listed' := #[true, true, true, true, false, true, false]) (by kernel_rfl) ?_
      exact nj_weak (hJ5_543_2 _ _ _ _ _ _ _ (hs5_543_6 b1_540 s1_538 r1_537)) ⟨rfl, rfl, rfl, rfl, rfl, rfl, rfl, trivial⟩ (.cons de0 (.cons de0 (.cons de0 (.cons de0 (.cons de0 .nil))))) .nil
    have hs5_543_2 : ∀ (b1_540 : Nat), J5_543 [([], .blk b1 25 ((Ty.arr 32 (tyI .u8)).enc p0))] [] 4 #[true, true, false, false, false, true, false] [(1, sv z425), (2, pt b1 0), (4, sv (⟨none, 0, 0⟩ : Sl)), (5, .int .i64 j427), (6, pt b1_540 0), (17, ag ((Ty.arr 32 (tyI .u8)).enc p0)), (18, .int .i64 j427)] [.blk b1_540 25 ((Ty.arr 32 (tyI .u8)).enc (Vector.replicate 32 (0 : Int))), .blk b1 25 ((Ty.arr 32 (tyI .u8)).enc p0), .sli z425 5 (tyI .u8).size (j426).length ((tyI .u8).many j426)] [] := by
     intro b1_540
     refine hJ5_543_1 _ _ _ _ _ _ _ ?_
     refine jg_ready (rs := [2]) (by kernel_rfl) (by simp) (.cons ?_ .nil)
     ·
      refine gst rfl rfl (so_callx pf174 rfl rfl rfl rfl (fun σ hs => F174_c hy1_537 σ.w σ.O hs.olt) (fun _ => (.cons .nil)) (fun _ => .nil) (fun r1_537 => ?_))
      refine ng (.cons at2 .nil) .nil ?_
      refine jg_ls (listed' := #[true, true, true, false, false, true, false]) (by kernel_rfl) ?_
      exact nj_weak (hJ5_543_2 _ _ _ _ _ _ _ (hs5_543_4 b1_540 r1_537)) ⟨rfl, rfl, rfl, rfl, rfl, rfl, rfl, trivial⟩ (.cons de1 (.cons de0 (.cons de0 (.cons de0 .nil)))) .nil
    have hs5_543_1 : ∀ (r1_537 : Sl), J5_543 [([], .blk b1 25 ((Ty.arr 32 (tyI .u8)).enc p0))] [] 4 #[true, true, true, false, false, false, false] [(1, sv z425), (2, pt b1 0), (4, sv (⟨none, 0, 0⟩ : Sl)), (5, .int .i64 j427), (17, ag ((Ty.arr 32 (tyI .u8)).enc p0)), (19, sv r1_537)] [.sli r1_537 5 (tyI .u8).size (y1_537).length ((tyI .u8).many y1_537), .blk b1 25 ((Ty.arr 32 (tyI .u8)).enc p0), .sli z425 5 (tyI .u8).size (j426).length ((tyI .u8).many j426)] [] := by
     intro r1_537
     refine hJ5_543_1 _ _ _ _ _ _ _ ?_
     refine jg_ready (rs := [3, 5]) (by kernel_rfl) (by simp) (.cons ?_ (.cons ?_ .nil))
     ·
      refine gst rfl rfl (so_bslL (C := tySl) (l := ([r1_537] : List Sl)) si34 sz34 rfl rfl rfl rfl (by decide) (by decide) (fills_cons rfl (many_upd' tySl _ (0 : Int) r1_537 (by simp [lup])) rfl (Ty.len tySl r1_537) fills_nil) fun s1_538 => ?_)
      refine ng (.cons at2 .nil) .nil ?_
      refine jg_ls (listed' := #[true, true, true, true, false, false, false]) (by kernel_rfl) ?_
      exact nj_weak (hJ5_543_2 _ _ _ _ _ _ _ (hs5_543_3 s1_538 r1_537)) ⟨rfl, rfl, rfl, rfl, rfl, rfl, trivial⟩ (.cons de0 (.cons de0 (.cons de0 (.cons de0 .nil)))) .nil
     ·
      refine gst rfl rfl (so_alloc ti25 (by decide) rfl rfl fun b1_540 => ?_)
      refine ng (.cons at2 .nil) .nil ?_
      refine jg_ls (listed' := #[true, true, true, false, false, true, false]) (by kernel_rfl) ?_
      exact nj_weak (hJ5_543_2 _ _ _ _ _ _ _ (hs5_543_4 b1_540 r1_537)) ⟨rfl, rfl, rfl, rfl, rfl, rfl, rfl, trivial⟩ (.cons de0 (.cons de0 (.cons de0 (.cons de0 .nil)))) .nil
    refine hJ5_543_1 _ _ _ _ _ _ _ ?_
    refine jg_ready (rs := [2, 5]) (by kernel_rfl) (by simp) (.cons ?_ (.cons ?_ .nil))
    ·
     refine gst rfl rfl (so_callx pf174 rfl rfl rfl rfl (fun σ hs => F174_c hy1_537 σ.w σ.O hs.olt) (fun _ => (.cons .nil)) (fun _ => .nil) (fun r1_537 => ?_))
     refine ng (.cons at1 .nil) .nil ?_
     refine jg_ls (listed' := #[true, true, true, false, false, false, false]) (by kernel_rfl) ?_
     exact nj_weak (hJ5_543_2 _ _ _ _ _ _ _ (hs5_543_1 r1_537)) ⟨rfl, rfl, rfl, rfl, rfl, rfl, trivial⟩ (.cons de0 (.cons de0 (.cons de0 .nil))) .nil
    ·
     refine gst rfl rfl (so_alloc ti25 (by decide) rfl rfl fun b1_540 => ?_)
     refine ng (.cons at1 .nil) .nil ?_
     refine jg_ls (listed' := #[true, true, false, false, false, true, false]) (by kernel_rfl) ?_
     exact nj_weak (hJ5_543_2 _ _ _ _ _ _ _ (hs5_543_2 b1_540)) ⟨rfl, rfl, rfl, rfl, rfl, rfl, rfl, trivial⟩ (.cons de0 (.cons de0 (.cons de0 .nil))) .nil
 exact nj_weak (key0 FUEL y2 0 r3 h) ⟨rfl, rfl, rfl, rfl, trivial⟩ (.cons de1 (.cons de0 .nil)) .nil
theorem F213_c {p0 : (Vector Int 32)} {p1 : (List Int)} {p2 : (List Int)} {r : (List Int)} (h : F213 p0 p1 p2 = some r) (w0 : World) (O0 : Nat → Prop) (hO : ∀ k, O0 k → k < w0.heap.size) (v1 : Sl) (v2 : Sl) (k0 : (fa false (mRow (tyI .u8)) v1 p1).p ⟨w0, O0, inL []⟩) (k1 : (fa false (mRow (tyI .u8)) v2 p2).p ⟨w0, O0, inL []⟩) :
  CallsP Tryz.prog 213 (List.toArray [ag ((Ty.arr 32 (tyI .u8)).enc p0), sv v1, sv v2]) w0 O0 [] (RX (fun x : Sl => sv x) (fun x => []) (fun x => [fa true (mRow (tyI .u8)) x r])) := by
 unfold F213 at h
 refine calls_start (e := [(0, ag ((Ty.arr 32 (tyI .u8)).enc p0)), (1, sv v1), (2, sv v2)]) (L := []) (K := [fa false (mRow (tyI .u8)) v1 p1, fa false (mRow (tyI .u8)) v2 p2]) Tryz.func213 rfl rfl rfl ⟨rfl, rfl, rfl, trivial⟩ hO (by simp) .nil (alc k0 (alc k1 aln)) ?_
 refine jc_seq ?_
 refine jc_reg ?_
 refine sq rfl (so_boxa (by decide) rfl rfl rfl fun b1 => ?_)
 refine sqv rfl (yv_assign rfl rfl) ?_
 refine jl_nil ?_
 refine jx_then ?_
 refine jc_seq ?_
 refine jc_reg ?_
 refine sqv rfl (yv_ldb ti25 rfl rfl (rd_bl at0) (Sub.refl _) (Ty.len _ _) (by simp)) ?_
 refine sqv rfl (yv_move rfl rfl) ?_
 refine sqv rfl (yv_move rfl rfl) ?_
 refine sq rfl (so_bslL (C := tySl) (l := ([v1, v2] : List Sl)) si34 sz34 rfl rfl rfl rfl (by decide) (by decide) (fills_cons rfl (many_upd' tySl _ (0 : Int) v1 (by simp [lup])) rfl (Ty.len tySl v1) (fills_cons rfl (many_upd' tySl _ (1 : Int) v2 (by simp [lup])) rfl (Ty.len tySl v2) fills_nil)) fun s2 => ?_)
 obtain ⟨y3, hy3, h⟩ := bdE h
 refine sq rfl (so_callv pf83 rfl rfl rfl rfl (fun σ hs => F83_c hy3 σ.w σ.O hs.olt s2 (cw0 (rq_sl (rd_o at0) (rq_alc (rd_f at0) (rq_alc (rd_f at1) rq_al0))) hs)) ?_)
 refine sq rfl (so_alloc ti25 (by decide) rfl rfl fun b4 => ?_)
 refine sq rfl (so_sta ti25 rfl rfl rfl rfl (Upd.refl (by simp [Ty.len])) (Ty.len _ _) (Ty.one _ _) (xs' := (Ty.arr 32 (tyI .u8)).enc y3) se0 ?_)
 refine jl_nil ?_
 refine jx_then ?_
 refine jc_seq ?_
 refine jc_reg ?_
 refine sqv rfl (yv_sla ia25 rfl rfl (.inl ⟨rfl, rfl⟩) (.inr ⟨_, _, rfl, rfl⟩) (by decide)) ?_
 refine sqv rfl (yv_assign rfl rfl) ?_
 refine jl_nil ?_
 refine jx_then ?_
 refine jc_ret ?_
 refine nj_frzb inout0 de0 ?_
 refine nj_s (m := (mRow (tyI .u8))) (v := (⟨some ⟨b4, 0, none⟩, 32, 32⟩ : Sl)) (p := y3.toList) (rq_arr (rs_f at0) (Sub.refl _) (by decide)) ?_
 refine nj_s (m := (mRow (tyI .u8))) (v := (slcut (⟨some ⟨b4, 0, none⟩, 32, 32⟩ : Sl) (0 : Int) (8 : Int) 1)) (p := (cut y3.toList (0 : Int) (8 : Int))) (rq_cut (rs_f at0) (by simp)) ?_
 cases h
 exact jx_ret rfl (rr_tmp rfl rr_nil) ⟨((slcut (⟨some ⟨b4, 0, none⟩, 32, 32⟩ : Sl) (0 : Int) (8 : Int) 1)), rfl, rfl, rfl, rfl⟩ .nil (.cons at0 .nil) rfl (by simp)
theorem F299_c {p1 : Int} {r : List Int} (h : F299 p1 = some r) (w0 : World) (O0 : Nat → Prop) (hO : ∀ k, O0 k → k < w0.heap.size) :
  CallsP Tryz.prog 299 (List.toArray [sv (⟨none, 0, 0⟩ : Sl), .int .i64 p1]) w0 O0 [] (RX (fun x : Sl => sv x) (fun x => [.sli x 5 (tyI .u8).size r.length ((tyI .u8).many r)]) (fun _ => [])) := by
 unfold F299 at h
 obtain ⟨⟨g1, g2⟩, h⟩ := gdE h
 cases h
 have e1 : isub .i64 p1 (isub .i64 0 0) = p1 := by
  simp only [LIM] at g2
  simp [isub, IntKind.wrap, IntKind.bits, IntKind.signed]
  omega
 refine calls_start (e := [(0, sv (⟨none, 0, 0⟩ : Sl)), (1, .int .i64 p1)]) (L := []) (K := []) Tryz.func299 rfl rfl rfl ⟨rfl, rfl, trivial⟩ hO (by simp) .nil aln ?_
 refine jc_seq ?_
 refine jc_reg ?_
 refine sqv rfl (yv_assign rfl rfl) ?_
 refine jl_nil ?_
 refine jx_then ?_
 refine jc_seq ?_
 refine jc_seq ?_
 refine jc_reg ?_
 refine sqv rfl (yv_move rfl rfl) ?_
 refine sqv rfl (yxb (v := false) (by simpa using g1) (yv_lss rfl rfl rfl)) ?_
 refine jl_nil ?_
 refine jx_then ?_
 refine jc_f rfl ?_
 refine jc_skip ?_
 refine jx_then ?_
 refine jc_seq ?_
 refine jc_seq ?_
 refine jc_reg ?_
 refine sqv rfl (yv_move rfl rfl) ?_
 refine sqv rfl (yv_move rfl rfl) ?_
 refine sqv rfl (yv_cap0 isl97 rfl rfl) ?_
 refine sqv rfl (yv_move rfl rfl) ?_
 refine sqv rfl (yv_len isl97 rfl rfl (rq_nil (C := tyI .u8)) rfl) ?_
 refine sqv rfl (yv_sub rfl rfl rfl) ?_
 refine sqv rfl (yxi e1 (yv_sub rfl rfl rfl)) ?_
 refine sqv rfl (yv_assign rfl rfl) ?_
 refine jl_nil ?_
 refine jx_then ?_
 refine jc_seq ?_
 refine jc_reg ?_
 refine sqv rfl (yv_move rfl rfl) ?_
 rcases Int.lt_or_eq_of_le g1 with hp | hp
 ·
  refine sqv rfl (yxb (v := true) (by simpa using hp) (yv_gtr rfl rfl rfl)) ?_
  refine jl_nil ?_
  refine jx_then ?_
  refine jc_t rfl ?_
  refine jc_reg ?_
  refine sqv rfl (yv_move rfl rfl) ?_
  refine sqv rfl (yv_move rfl rfl) ?_
  refine sqv rfl (yv_cap0 isl97 rfl rfl) ?_
  refine sqv rfl (yv_sl is97 rfl rfl (.inl ⟨rfl, rfl⟩) (.inr ⟨_, _, rfl, rfl⟩) ⟨Int.le_refl _, Int.le_refl _, Int.le_refl _⟩) ?_
  refine sqv rfl (yv_move rfl rfl) ?_
  refine sq rfl (so_appz (C := tyI .u8) si97 Tryz.underlying3 rfl rfl rfl rfl ⟨hp, g2⟩ fun s => ?_)
  refine sqv rfl (yv_move rfl rfl) ?_
  refine sqv rfl (yv_len isl97 rfl rfl (rq_nil (C := tyI .u8)) rfl) ?_
  refine sqv rfl (yv_sl is97 rfl rfl (.inl ⟨rfl, rfl⟩) (.inr ⟨_, _, rfl, rfl⟩) ⟨Int.le_refl _, Int.le_refl _, Int.natCast_nonneg _⟩) ?_
  refine sqv rfl (yv_assign rfl rfl) ?_
  refine jl_nil ?_
  refine jx_then ?_
  refine jc_seq ?_
  refine jc_reg ?_
  refine sqv rfl (yv_move rfl rfl) ?_
  refine sqv rfl (yv_assign rfl rfl) ?_
  refine jl_nil ?_
  refine jx_then ?_
  refine jc_ret ?_
  exact jx_ret rfl (rr_tmp rfl (rr_nil)) ⟨slcut s 0 0 1, rfl, rfl, rfl, rfl⟩ (.cons de0 .nil) .nil rfl (by simp)
 ·
  refine sqv rfl (yxb (v := false) (by simp [← hp]) (yv_gtr rfl rfl rfl)) ?_
  refine jl_nil ?_
  refine jx_then ?_
  refine jc_f rfl ?_
  refine jc_skip ?_
  refine jx_then ?_
  refine jc_seq ?_
  refine jc_reg ?_
  refine sqv rfl (yv_move rfl rfl) ?_
  refine sqv rfl (yv_assign rfl rfl) ?_
  refine jl_nil ?_
  refine jx_then ?_
  refine jc_ret ?_
  refine nj_nil 5 (tyI .u8) rfl ?_
  exact jx_ret rfl (rr_tmp rfl (rr_nil)) ⟨(⟨none, 0, 0⟩ : Sl), rfl, rfl, rfl, rfl⟩ (.cons de0 .nil) .nil rfl (by simp)
theorem F247_c {p0 : (List (List Int))} {r : (List Int)} (h : F247 p0 = some r) (w0 : World) (O0 : Nat → Prop) (hO : ∀ k, O0 k → k < w0.heap.size) (v0 : Sl) (k0 : (fa false (mSl tySl (mRow (tyI .u8))) v0 p0).p ⟨w0, O0, inL []⟩) :
  CallsP Tryz.prog 247 (List.toArray [sv v0]) w0 O0 [] (RX (fun x : Sl => sv x) (fun x => [.sli x 5 (tyI .u8).size (r).length ((tyI .u8).many r)]) (fun x => [])) := by
 unfold F247 at h
 refine calls_start (e := [(0, sv v0)]) (L := []) (K := [fa false (mSl tySl (mRow (tyI .u8))) v0 p0]) Tryz.func247 rfl rfl rfl ⟨rfl, trivial⟩ hO (by simp) .nil (alc k0 aln) ?_
 refine jc_seq ?_
 refine jc_reg ?_
 refine sqv rfl (yv_assign rfl rfl) ?_
 refine jl_nil ?_
 refine jx_then ?_
 refine jc_seq ?_
 refine jc_reg ?_
 refine sqv rfl (yv_assign rfl rfl) ?_
 refine jl_nil ?_
 refine jx_then ?_
 refine jc_seq ?_
 refine jc_seq ?_
 refine jc_reg ?_
 refine sqv rfl (yv_move rfl rfl) ?_
 obtain ⟨x1, hx1, h⟩ := letX h
 refine sqv rfl (yv_lenx isl34 rfl rfl (rd_f at0) hx1) ?_
 refine sqv rfl (yv_move rfl rfl) ?_
 refine jl_nil ?_
 refine jx_then ?_
 refine jc_block ?_
 refine jc_loop ?_
 intro B0 Q0 hB0 hQ0
 have key0 : ∀ (k0 : Nat) (j134 : Int) (j135 : Int), F247_l0 x1 p0 k0 j134 j135 = some r → JW 36 w0 O0 [] Tryz.prog B0 Q0 [(0, sv v0), (2, sv (⟨none, 0, 0⟩ : Sl)), (3, .int .i64 j134), (9, sv v0), (10, .int .i64 x1), (11, .int .i64 j135)] [] [fa false (mSl tySl (mRow (tyI .u8))) v0 p0] := by
  intro k0
  induction k0 with
  | zero => intro j134 j135 h; cases h
  | succ k0 ih0 =>
   intro j134 j135 h
   unfold F247_l0 at h
   refine jw_round hB0 ?_
   refine jc_seq ?_
   refine jc_reg ?_
   obtain ⟨x136, hx136, h⟩ := letX h
   refine sqv rfl (yxb hx136 (yv_lss rfl rfl rfl)) ?_
   refine jl_nil ?_
   refine jx_then ?_
   refine jc_seq ?_
   rcases x136 with _ | _
   ·
    replace h := brF h
    refine jc_f rfl ?_
    refine jc_exit ?_
    refine jx_te ?_
    refine jx_te ?_
    refine jx_abs hQ0 ?_
    refine jx_hit ?_
    refine jx_then ?_
    refine jc_seq ?_
    refine jc_reg ?_
    refine sqv rfl (yv_move rfl rfl) ?_
    obtain ⟨y161, hy161, h⟩ := bdE h
    refine sq rfl (so_callx pf299 rfl rfl rfl rfl (fun σ hs => F299_c hy161 σ.w σ.O hs.olt) (fun _ => (.cons .nil)) (fun _ => .nil) (fun r162 => ?_))
    refine sqv rfl (yv_assign rfl rfl) ?_
    refine jl_nil ?_
    refine jx_then ?_
    refine jc_seq ?_
    refine jc_seq ?_
    refine jc_reg ?_
    refine sqv rfl (yv_move rfl rfl) ?_
    obtain ⟨x163, hx163, h⟩ := letX h
    refine sqv rfl (yv_lenx isl34 rfl rfl (rd_f at0) hx163) ?_
    refine sqv rfl (yv_move rfl rfl) ?_
    refine jl_nil ?_
    refine jx_then ?_
    refine jc_block ?_
    refine jc_loop ?_
    intro B1 Q1 hB1 hQ1
    have key1 : ∀ (k1 : Nat) (j218 : (List Int)) (j219 : Int) (z217 : Sl), F247_l1 x163 p0 k1 j218 j219 = some r → JW 36 w0 O0 [] Tryz.prog B1 Q1 [(2, sv (⟨none, 0, 0⟩ : Sl)), (6, sv z217), (25, sv v0), (26, .int .i64 x163), (27, .int .i64 j219)] [.sli z217 5 (tyI .u8).size (j218).length ((tyI .u8).many j218)] [fa false (mSl tySl (mRow (tyI .u8))) v0 p0] := by
     intro k1
     induction k1 with
     | zero => intro j218 j219 z217 h; cases h
     | succ k1 ih1 =>
      intro j218 j219 z217 h
      unfold F247_l1 at h
      refine jw_round hB1 ?_
      refine jc_seq ?_
      refine jc_reg ?_
      obtain ⟨x220, hx220, h⟩ := letX h
      refine sqv rfl (yxb hx220 (yv_lss rfl rfl rfl)) ?_
      refine jl_nil ?_
      refine jx_then ?_
      refine jc_seq ?_
      rcases x220 with _ | _
      ·
       replace h := brF h
       refine jc_f rfl ?_
       refine jc_exit ?_
       refine jx_te ?_
       refine jx_te ?_
       refine jx_abs hQ1 ?_
       refine jx_hit ?_
       refine jx_then ?_
       refine jc_seq ?_
       refine jc_reg ?_
       refine sqv rfl (yv_move rfl rfl) ?_
       refine sqv rfl (yv_assign rfl rfl) ?_
       refine jl_nil ?_
       refine jx_then ?_
       refine jc_ret ?_
       cases h
       exact jx_ret rfl (rr_tmp rfl rr_nil) ⟨(z217), rfl, rfl, rfl, rfl⟩ (.cons de0 .nil) .nil rfl (by simp)
      ·
       replace h := brT h
       refine jc_t rfl ?_
       refine jc_skip ?_
       refine jx_then ?_
       refine jc_seq ?_
       refine jc_block ?_
       refine jc_seq ?_
       refine jc_reg ?_
       obtain ⟨g234, h⟩ := gdE h
       refine nj_xsl at0 fun w235 => ?_
       refine nj_all (rd_f at1) fun hl_g237 => ?_
       have g237 : 0 ≤ j219 ∧ j219 < (w235.length : Int) := by rw [hl_g237]; exact g234
       refine nj_open (rd_f at0) g237 fun b236 o238 ha_b236 => ?_
       refine sqv rfl (yv_is is34 rfl rfl rfl ha_b236 (rd_f at0) g237) ?_
       obtain ⟨y239, hy239, h⟩ := letX h
       refine nj_eltw (rw_f at1) g234 hy239 fun u240 hx_u240 => ?_
       refine sqv rfl (yv_lds ti97 rfl rfl ha_b236 (rd_f at1) (many_subx hx_u240 tySl g237) rfl (Ty.len _ _) (fun _ => rfl)) ?_
       refine sqv rfl (yv_assign rfl rfl) ?_
       refine jl_nil ?_
       refine jx_then ?_
       refine jc_reg ?_
       refine sqv rfl (yv_move rfl rfl) ?_
       refine sqv rfl (yv_move rfl rfl) ?_
       obtain ⟨l241, hl241, h⟩ := letX h
       obtain ⟨g242, h⟩ := gdE h
       refine sq rfl (so_appX (C := (tyI .u8)) hl241 si97 rfl rfl rfl rfl de0 (rd_f at0) rfl g242 fun s243 => ?_)
       refine sqv rfl (yv_assign rfl rfl) ?_
       refine jl_nil ?_
       refine jx_blk ?_
       refine jx_then ?_
       refine jc_reg ?_
       obtain ⟨x244, hx244, h⟩ := letX h
       refine sqv rfl (yxi hx244 (yv_add rfl rfl rfl)) ?_
       refine sqv rfl (yv_move rfl rfl) ?_
       refine jl_nil ?_
       refine jx_again ?_
       exact nj_weak (ih1 l241 x244 s243 h) ⟨rfl, rfl, rfl, rfl, rfl, trivial⟩ (.cons de0 .nil) (.cons at3 .nil)
    exact nj_weak (key1 FUEL y161 0 r162 h) ⟨rfl, rfl, rfl, rfl, rfl, trivial⟩ (.cons de0 .nil) (.cons at0 .nil)
   ·
    replace h := brT h
    refine jc_t rfl ?_
    refine jc_skip ?_
    refine jx_then ?_
    refine jc_seq ?_
    refine jc_block ?_
    refine jc_seq ?_
    refine jc_reg ?_
    obtain ⟨g150, h⟩ := gdE h
    refine nj_xsl at0 fun w151 => ?_
    refine nj_all (rd_f at1) fun hl_g153 => ?_
    have g153 : 0 ≤ j135 ∧ j135 < (w151.length : Int) := by rw [hl_g153]; exact g150
    refine nj_open (rd_f at0) g153 fun b152 o154 ha_b152 => ?_
    refine sqv rfl (yv_is is34 rfl rfl rfl ha_b152 (rd_f at0) g153) ?_
    obtain ⟨y155, hy155, h⟩ := letX h
    refine nj_eltw (rw_f at1) g150 hy155 fun u156 hx_u156 => ?_
    refine sqv rfl (yv_lds ti97 rfl rfl ha_b152 (rd_f at1) (many_subx hx_u156 tySl g153) rfl (Ty.len _ _) (fun _ => rfl)) ?_
    refine sqv rfl (yv_assign rfl rfl) ?_
    refine jl_nil ?_
    refine jx_then ?_
    refine jc_seq ?_
    refine jc_reg ?_
    refine sqv rfl (yv_move rfl rfl) ?_
    refine sqv rfl (yv_move rfl rfl) ?_
    obtain ⟨x157, hx157, h⟩ := letX h
    refine sqv rfl (yv_len isl97 rfl rfl (rd_f at0) hx157) ?_
    obtain ⟨x158, hx158, h⟩ := letX h
    refine sqv rfl (yxi hx158 (yv_add rfl rfl rfl)) ?_
    refine sqv rfl (yv_assign rfl rfl) ?_
    refine jl_nil ?_
    refine jx_then ?_
    refine jc_seq ?_
    refine jc_reg ?_
    refine sqv rfl (yv_move rfl rfl) ?_
    obtain ⟨x159, hx159, h⟩ := letX h
    refine sqv rfl (yxb hx159 (yv_lss rfl rfl rfl)) ?_
    refine jl_nil ?_
    refine jx_then ?_
    rcases x159 with _ | _
    ·
     replace h := brF h
     refine jc_f rfl ?_
     refine jc_skip ?_
     refine jx_blk ?_
     refine jx_then ?_
     refine jc_reg ?_
     obtain ⟨x160, hx160, h⟩ := letX h
     refine sqv rfl (yxi hx160 (yv_add rfl rfl rfl)) ?_
     refine sqv rfl (yv_move rfl rfl) ?_
     refine jl_nil ?_
     refine jx_again ?_
     exact nj_weak (ih0 x158 x160 h) ⟨rfl, rfl, rfl, rfl, rfl, rfl, trivial⟩ .nil (.cons at3 .nil)
    ·
     replace h := brT h
     refine jc_t rfl ?_
     refine jc_reg ?_
     obtain ⟨hno, h⟩ := gdE h
     exact hno.elim
 exact nj_weak (key0 FUEL 0 0 h) ⟨rfl, rfl, rfl, rfl, rfl, rfl, trivial⟩ .nil (.cons at0 .nil)
theorem F167_c {p0 : Int} {p1 : (Vector Int 32)} {p2 : (List Int)} {r : (List Int) × Int} (h : F167 p0 p1 p2 = some r) (w0 : World) (O0 : Nat → Prop) (hO : ∀ k, O0 k → k < w0.heap.size) (v2 : Sl) (k0 : (fa false (mRow (tyI .u8)) v2 p2).p ⟨w0, O0, inL []⟩) :
  CallsP Tryz.prog 167 (List.toArray [.int .i64 p0, ag ((Ty.arr 32 (tyI .u8)).enc p1), sv v2]) w0 O0 [] (RX (fun x : Sl => .tuple #[sv x, .int .i64 r.2]) (fun x => [.sli x 5 (tyI .u8).size (r.1).length ((tyI .u8).many r.1)]) (fun x => [])) := by
 unfold F167 at h
 refine calls_start (e := [(0, .int .i64 p0), (1, ag ((Ty.arr 32 (tyI .u8)).enc p1)), (2, sv v2)]) (L := []) (K := [fa false (mRow (tyI .u8)) v2 p2]) Tryz.func167 rfl rfl rfl ⟨rfl, rfl, rfl, trivial⟩ hO (by simp) .nil (alc k0 aln) ?_
 refine jc_seq ?_
 refine jc_reg ?_
 refine sq rfl (so_boxa (by decide) rfl rfl rfl fun b1 => ?_)
 refine sqv rfl (yv_assign rfl rfl) ?_
 refine sqv rfl (yv_assign rfl rfl) ?_
 refine jl_nil ?_
 refine jx_then ?_
 refine jc_seq ?_
 refine jc_reg ?_
 refine sqv rfl (yv_ldb ti25 rfl rfl (rd_bl at0) (Sub.refl _) (Ty.len _ _) (by simp)) ?_
 obtain ⟨y2, hy2, h⟩ := bdE h
 refine sq rfl (so_callx pf152 rfl rfl rfl rfl (fun σ hs => F152_c hy2 σ.w σ.O hs.olt) (fun _ => .nil) (fun _ => (.cons .nil)) (fun r3 => ?_))
 refine sqv rfl (yv_assign rfl rfl) ?_
 refine jl_nil ?_
 refine jx_then ?_
 refine jc_seq ?_
 refine jc_reg ?_
 refine sqv rfl (yv_move rfl rfl) ?_
 refine sqv rfl (yv_move rfl rfl) ?_
 obtain ⟨y4, hy4, h⟩ := bdE h
 refine sq rfl (so_callv pf210 rfl rfl rfl rfl (fun σ hs => F210_c hy4 σ.w σ.O hs.olt r3 (cs0 (rs_f at0) hs)) ?_)
 refine sqv rfl (yv_move rfl rfl) ?_
 refine sqv rfl (yv_ext rfl rfl rfl) ?_
 refine sqv rfl (yv_ext rfl rfl rfl) ?_
 refine sq rfl (so_alloc ti25 (by decide) rfl rfl fun b5 => ?_)
 refine sq rfl (so_sta ti25 rfl rfl rfl rfl (Upd.refl (by simp [Ty.len])) (Ty.len _ _) (Ty.one _ _) (xs' := (Ty.arr 32 (tyI .u8)).enc y4.1) se0 ?_)
 refine sqv rfl (yv_assign rfl rfl) ?_
 refine jl_nil ?_
 refine jx_then ?_
 refine jc_seq ?_
 refine jc_seq_n ?_
 intro N0 hN0
 have hj0 : ∀ (j11 : Bool), F167_j0 y4 y2 p2 j11 = some r → NJ 42 w0 O0 [] N0 [(2, sv v2), (6, sv (⟨none, 0, 0⟩ : Sl)), (7, .int .i64 0), (8, .pointer r3), (9, pt b5 0), (27, .bool j11)] [.blk b5 25 ((Ty.arr 32 (tyI .u8)).enc y4.1)] [fa false (mRow (tyI .u8)) v2 p2, fa true mKey r3 y2] := by
  intro j11 h
  unfold F167_j0 at h
  refine nj_abs hN0 ?_
  rcases j11 with _ | _
  ·
   replace h := brF h
   refine jc_f rfl ?_
   refine jc_skip ?_
   refine jx_then ?_
   refine jc_seq ?_
   refine jc_regd (k := 8) hmix rfl [([], .blk b5 25 ((Ty.arr 32 (tyI .u8)).enc y4.1))] [] (.cons at0 .nil) .nil ?_
   refine tk (i := 0) rfl (by kernel_rfl) rfl (yv_move rfl rfl) .nil .nil ?_
   obtain ⟨x3_12, hx3_12, h⟩ := letX h
   refine tk (i := 3) rfl (by kernel_rfl) rfl (yxg (C := (Ty.arr 32 (tyI .u8))) hx3_12 (yv_ldb ti25 rfl rfl (rd_bl at0) (Sub.refl _) (Ty.len _ _) (by simp))) (.cons at0 (by kernel_rfl) .nil) .nil ?_
   refine tk (i := 4) rfl (by kernel_rfl) rfl (yv_move rfl rfl) .nil .nil ?_
   obtain ⟨y4_12, hy4_12, h⟩ := bdE h
   refine jg_one (i := 1) (by kernel_rfl) (gst rfl rfl (so_callv pf114 rfl rfl rfl rfl (fun σ hs => F114_c hy4_12 σ.w σ.O hs.olt r3 (cs0 (rs_f at1) hs)) ?_))
   refine ng (.cons at0 .nil) .nil ?_
   obtain ⟨y5_12, hy5_12, h⟩ := bdE h
   refine jg_one (i := 2) (by kernel_rfl) (gst rfl rfl (so_callx pf174 rfl rfl rfl rfl (fun σ hs => F174_c hy5_12 σ.w σ.O hs.olt) (fun _ => (.cons .nil)) (fun _ => .nil) (fun r6_12 => ?_)))
   refine ng (.cons at1 .nil) .nil ?_
   obtain ⟨y7_12, hy7_12, h⟩ := bdE h
   refine jg_one (i := 5) (by kernel_rfl) (gst rfl rfl (so_callx pf214 rfl rfl rfl rfl (fun σ hs => F214_c hy7_12 σ.w σ.O hs.olt v2 (cw0 (rd_f at0) hs)) (fun _ => (.cons .nil)) (fun _ => .nil) (fun r8_12 => ?_)))
   refine ng (.cons at2 .nil) .nil ?_
   refine tk (i := 6) rfl (by kernel_rfl) rfl (yv_assign rfl rfl) .nil .nil ?_
   refine tk (i := 7) rfl (by kernel_rfl) rfl (yv_assign rfl rfl) .nil .nil ?_
   refine jg_nil (by kernel_rfl) ?_
   refine jx_then ?_
   refine jc_seq ?_
   refine jc_reg ?_
   refine sqv rfl (yv_move rfl rfl) ?_
   obtain ⟨x9_12, hx9_12, h⟩ := letX h
   refine sqv rfl (yxg (C := (Ty.arr 32 (tyI .u8))) hx9_12 (yv_ldb ti25 rfl rfl (rd_bl at2) (Sub.refl _) (Ty.len _ _) (by simp))) ?_
   refine sqv rfl (yv_move rfl rfl) ?_
   refine sqv rfl (yv_move rfl rfl) ?_
   obtain ⟨y10_12, hy10_12, h⟩ := bdE h
   refine sq rfl (so_callx pf213 rfl rfl rfl rfl (fun σ hs => F213_c hy10_12 σ.w σ.O hs.olt r6_12 r8_12 (cw0 (rd_o at1) hs) (cw0 (rd_o at0) hs)) (fun _ => .nil) (fun _ => (.cons .nil)) (fun r11_12 => ?_))
   refine sqv rfl (yv_move rfl rfl) ?_
   refine sq rfl (so_bslL (C := tySl) (l := ([r6_12, r11_12, r8_12] : List Sl)) si34 sz34 rfl rfl rfl rfl (by decide) (by decide) (fills_cons rfl (many_upd' tySl _ (0 : Int) r6_12 (by simp [lup])) rfl (Ty.len tySl r6_12) (fills_cons rfl (many_upd' tySl _ (1 : Int) r11_12 (by simp [lup])) rfl (Ty.len tySl r11_12) (fills_cons rfl (many_upd' tySl _ (2 : Int) r8_12 (by simp [lup])) rfl (Ty.len tySl r8_12) fills_nil))) fun s12_12 => ?_)
   obtain ⟨y13_12, hy13_12, h⟩ := bdE h
   refine sq rfl (so_callx pf247 rfl rfl rfl rfl (fun σ hs => F247_c hy13_12 σ.w σ.O hs.olt s12_12 (cw0 (rq_sl (rd_o at0) (rq_alc (rd_o at2) (rq_alc (rd_f at0) (rq_alc (rd_o at1) rq_al0)))) hs)) (fun _ => (.cons .nil)) (fun _ => .nil) (fun r14_12 => ?_))
   refine sqv rfl (yv_assign rfl rfl) ?_
   refine sqv rfl (yv_assign rfl rfl) ?_
   refine jl_nil ?_
   refine jx_then ?_
   refine jc_ret ?_
   cases h
   exact jx_ret rfl (rr_tmp rfl (rr_tmp rfl rr_nil)) ⟨(r14_12), rfl, rfl, rfl, rfl⟩ (.cons de0 .nil) .nil rfl (by simp)
  ·
   replace h := brT h
   refine jc_t rfl ?_
   refine jc_seq ?_
   refine jc_reg ?_
   refine sqv rfl (yv_assign rfl rfl) ?_
   refine sqv rfl (yv_assign rfl rfl) ?_
   refine jl_nil ?_
   refine jx_then ?_
   refine jc_ret ?_
   refine jx_tr ?_
   refine nj_nil 5 (tyI .u8) rfl ?_
   cases h
   exact jx_ret rfl (rr_tmp rfl (rr_tmp rfl rr_nil)) ⟨((⟨none, 0, 0⟩ : Sl)), rfl, rfl, rfl, rfl⟩ (.cons de0 .nil) .nil rfl (by simp)
 refine jc_reg ?_
 refine sqv rfl (yv_move rfl rfl) ?_
 obtain ⟨x6, hx6, h⟩ := letX h
 refine sqv rfl (yxb hx6 (yv_not rfl rfl)) ?_
 refine sqv rfl (yv_move rfl rfl) ?_
 rcases x6 with _ | _
 ·
  replace h := brF h
  refine sqv rfl (yv_move rfl rfl) ?_
  obtain ⟨x8, hx8, h⟩ := letX h
  refine sqv rfl (yv_len isl97 rfl rfl (rd_f at1) hx8) ?_
  obtain ⟨x9, hx9, h⟩ := letX h
  refine sqv rfl (yxb hx9 (yv_gtr rfl rfl rfl)) ?_
  refine sqv rfl (yv_pick_f rfl rfl rfl) ?_
  refine jl_nil ?_
  refine jx_then_n ?_
  exact nj_weak (hj0 x9 h) ⟨rfl, rfl, rfl, rfl, rfl, rfl, trivial⟩ (.cons de0 .nil) (.cons at1 (.cons at0 .nil))
 ·
  replace h := brT h
  refine sq_skip rfl ?_
  refine sq_skip rfl ?_
  refine sq_skip rfl ?_
  refine sqv rfl (yv_pick_t rfl rfl rfl) ?_
  refine jl_nil ?_
  refine jx_then_n ?_
  exact nj_weak (hj0 true h) ⟨rfl, rfl, rfl, rfl, rfl, rfl, trivial⟩ (.cons de0 .nil) (.cons at1 (.cons at0 .nil))
theorem F91_c {p0 : (Option SpartyParty)} {p1 : SView} {p2 : (Vector Bool 8)} {p3 : (Vector Int 32)} {r : (List (List Int)) × Int} (h : F91 p0 p1 p2 p3 = some r) (w0 : World) (O0 : Nat → Prop) (hO : ∀ k, O0 k → k < w0.heap.size) (v0 : (Option Addr)) (k0 : (fa false (mPt tyVpartyParty mSpartyParty) v0 p0).p ⟨w0, O0, inL []⟩) :
  CallsP Tryz.prog 91 (List.toArray [.pointer v0, ag (tySView.enc p1), ag ((Ty.arr 8 tyB).enc p2), ag ((Ty.arr 32 (tyI .u8)).enc p3)]) w0 O0 [] (RX (fun x : Sl × (List Sl) => .tuple #[sv x.1, .int .i64 r.2]) (fun x => [.sli x.1 97 tySl.size (x.2).length (tySl.many x.2)]) (fun x => [fa true (mAl (mRow (tyI .u8))) x.2 r.1])) := by
 unfold F91 at h
 refine calls_start (e := [(0, .pointer v0), (1, ag (tySView.enc p1)), (2, ag ((Ty.arr 8 tyB).enc p2)), (3, ag ((Ty.arr 32 (tyI .u8)).enc p3))]) (L := []) (K := [fa false (mPt tyVpartyParty mSpartyParty) v0 p0]) Tryz.func91 rfl rfl rfl ⟨rfl, rfl, rfl, rfl, trivial⟩ hO (by simp) .nil (alc k0 aln) ?_
 refine jc_seq ?_
 refine jc_reg ?_
 refine sq rfl (so_boxa (by decide) rfl rfl rfl fun b1 => ?_)
 refine sq rfl (so_boxa (by decide) rfl rfl rfl fun b2 => ?_)
 refine sq rfl (so_boxa (by decide) rfl rfl rfl fun b3 => ?_)
 refine sqv rfl (yv_assign rfl rfl) ?_
 refine sqv rfl (yv_assign rfl rfl) ?_
 refine jl_nil ?_
 refine jx_then ?_
 refine jc_seq ?_
 refine jc_reg ?_
 refine sqv rfl (yv_assign rfl rfl) ?_
 refine jl_nil ?_
 refine jx_then ?_
 refine jc_seq ?_
 refine jc_seq ?_
 refine jc_regd (k := 10) hmix rfl [([], .blk b1 64 (tySView.enc p1)), ([], .blk b2 62 ((Ty.arr 8 tyB).enc p2))] [] (.cons at2 (.cons at1 .nil)) .nil ?_
 refine tk (i := 0) rfl (by kernel_rfl) rfl (yv_fa fa64_1 rfl rfl) .nil .nil ?_
 obtain ⟨x4, hx4, h⟩ := letX h
 refine tk (i := 1) rfl (by kernel_rfl) rfl (yxg (C := tySTree) hx4 (yv_ldb ti61 rfl rfl (rd_bl at0) ((Sub.refl _).trans (SView.s1 p1)) (Ty.len _ _) (by simp))) (.cons at0 (by kernel_rfl) .nil) .nil ?_
 refine tk (i := 2) rfl (by kernel_rfl) rfl (yv_move rfl rfl) .nil .nil ?_
 rcases moE h with ⟨hm_x5, h⟩ | ⟨x5, hm_x5, h⟩
 ·
  skip
  obtain ⟨hno, h⟩ := gdE h
  exact hno.elim
 ·
  skip
  refine nj_xptX at0 hm_x5 fun b6 u7_ hv_b6 => ?_
  refine nj_xSpartyParty at1 fun u7_2 hu7 => ?_
  subst hu7
  refine tk (i := 3) rfl (by kernel_rfl) rfl (yv_nilp rfl rfl hv_b6) .nil .nil ?_
  refine tk (i := 4) rfl (by kernel_rfl) rfl (yv_fa fa143_1 rfl rfl) .nil .nil ?_
  obtain ⟨x8, hx8, h⟩ := letX h
  refine jg_reb (Ls' := [([], .blk b1 64 (tySView.enc p1)), ([], .blk b2 62 ((Ty.arr 8 tyB).enc p2))]) (Ks' := [fa false mBl b6 (tyVpartyParty.enc (⟨x5.v, x5.leaf, u7_2, x5.own, x5.has', x5.nodes, x5.epoch, x5.init'⟩ : VpartyParty))]) (.cons at2 (.cons at1 .nil)) (.cons at1 .nil) (.cons at0 (.cons at1 .nil)) .nil ?_
  refine tk (i := 5) rfl (by kernel_rfl) rfl (yxi hx8 (yv_ldb ti3 rfl rfl (rd_f at0) ((Sub.refl _).trans (VpartyParty.s1 (⟨x5.v, x5.leaf, u7_2, x5.own, x5.has', x5.nodes, x5.epoch, x5.init'⟩ : VpartyParty))) (Ty.len _ _) (fun _ => rfl))) .nil (.cons at0 .nil) ?_
  refine tk (i := 6) rfl (by kernel_rfl) rfl (yv_ldb ti62 rfl rfl (rd_bl at0) (Sub.refl _) (Ty.len _ _) (by simp)) (.cons at1 (by kernel_rfl) .nil) .nil ?_
  refine tk (i := 9) rfl (by kernel_rfl) rfl (yv_move rfl rfl) .nil .nil ?_
  obtain ⟨y9, hy9, h⟩ := bdE h
  refine jg_one (i := 7) (by kernel_rfl) (gst rfl rfl (so_callx pf118 rfl rfl rfl rfl (fun σ hs => F118_c hy9 σ.w σ.O hs.olt) (fun _ => (.cons .nil)) (fun _ => .nil) (fun r10 => ?_)))
  refine ng (.cons at3 (.cons at2 .nil)) (.cons at1 .nil) ?_
  obtain ⟨x11, hx11, h⟩ := letX h
  refine jg_reb (Ls' := [([], .sli r10 173 (Ty.arr 2 (tyI .i64)).size (y9).length ((Ty.arr 2 (tyI .i64)).many y9)), ([], .blk b1 64 (tySView.enc p1)), ([], .blk b2 62 ((Ty.arr 8 tyB).enc p2))]) (Ks' := [fa false mBl b6 (tyVpartyParty.enc (⟨x5.v, x5.leaf, u7_2, x5.own, x5.has', x5.nodes, x5.epoch, x5.init'⟩ : VpartyParty))]) (.cons at0 (.cons at3 (.cons at2 .nil))) (.cons at1 .nil) (.cons at1 (.cons at2 .nil)) (.cons at0 .nil) ?_
  refine tk (i := 8) rfl (by kernel_rfl) rfl (yv_len isl168 rfl rfl (rd_o at0) hx11) (.cons at0 (by kernel_rfl) .nil) .nil ?_
  refine jg_nil (by kernel_rfl) ?_
  refine jx_then ?_
  refine jc_block ?_
  refine nj_nil 97 tySl rfl ?_
  refine nj_s (m := mAl (mRow (tyI .u8))) (v := ([] : List Sl)) (p := []) rq_al0 ?_
  refine jc_loop ?_
  intro B0 Q0 hB0 hQ0
  have key0 : ∀ (k0 : Nat) (j307 : (List (List Int))) (j309 : Int) (z306 : Sl) (w308 : (List Sl)), F91_l0 x11 y9 p1 p3 x5 k0 j307 j309 = some r → JW 59 w0 O0 [] Tryz.prog B0 Q0 [(0, .pointer v0), (5, pt b1 0), (7, pt b3 0), (8, sv (⟨none, 0, 0⟩ : Sl)), (9, .int .i64 0), (10, sv z306), (22, sv r10), (23, .int .i64 x11), (24, .int .i64 j309)] [.blk b3 25 ((Ty.arr 32 (tyI .u8)).enc p3), .blk b1 64 (tySView.enc p1), .sli z306 97 tySl.size (w308).length (tySl.many w308), .sli r10 173 (Ty.arr 2 (tyI .i64)).size (y9).length ((Ty.arr 2 (tyI .i64)).many y9)] [fa false (mPt tyVpartyParty mSpartyParty) v0 p0, fa true (mAl (mRow (tyI .u8))) w308 j307] := by
   intro k0
   induction k0 with
   | zero => intro j307 j309 z306 w308 h; cases h
   | succ k0 ih0 =>
    intro j307 j309 z306 w308 h
    unfold F91_l0 at h
    refine jw_round hB0 ?_
    refine jc_seq ?_
    refine jc_reg ?_
    obtain ⟨x310, hx310, h⟩ := letX h
    refine sqv rfl (yxb hx310 (yv_lss rfl rfl rfl)) ?_
    refine jl_nil ?_
    refine jx_then ?_
    refine jc_seq ?_
    rcases x310 with _ | _
    ·
     replace h := brF h
     refine jc_f rfl ?_
     refine jc_exit ?_
     refine jx_te ?_
     refine jx_te ?_
     refine jx_abs hQ0 ?_
     refine jx_hit ?_
     refine jx_then ?_
     refine jc_seq ?_
     refine jc_reg ?_
     refine sqv rfl (yv_move rfl rfl) ?_
     refine sqv rfl (yv_assign rfl rfl) ?_
     refine sqv rfl (yv_assign rfl rfl) ?_
     refine jl_nil ?_
     refine jx_then ?_
     refine jc_ret ?_
     cases h
     exact jx_ret rfl (rr_tmp rfl (rr_tmp rfl rr_nil)) ⟨(z306, w308), rfl, rfl, rfl, rfl⟩ (.cons de2 .nil) (.cons at1 .nil) rfl (by simp)
    ·
     replace h := brT h
     refine jc_t rfl ?_
     refine jc_skip ?_
     refine jx_then ?_
     refine jc_seq ?_
     refine jc_block ?_
     refine jc_seq ?_
     refine jc_reg ?_
     refine sqv rfl (yv_move rfl rfl) ?_
     obtain ⟨g340, h⟩ := gdE h
     refine nj_openo at3 g340 fun b341 ha_b341 => ?_
     refine sqv rfl (yv_is is168 rfl rfl rfl ha_b341 (rd_o at3) g340) ?_
     obtain ⟨x342, hx342, h⟩ := letX h
     refine sqv rfl (yxg (C := (Ty.arr 2 (tyI .i64))) hx342 (yv_lds ti173 rfl rfl ha_b341 (rd_o at3) (many_sub' (Ty.arr 2 (tyI .i64)) y9 j309 g340) rfl (Ty.len _ _) (by simp))) ?_
     refine sq rfl (so_alloc ti173 (by decide) rfl rfl fun b343 => ?_)
     refine sqv rfl (yv_assign rfl rfl) ?_
     refine sq rfl (so_sta ti173 rfl rfl rfl rfl (Upd.refl (by simp [Ty.len])) (Ty.len _ _) (Ty.one _ _) (xs' := (Ty.arr 2 (tyI .i64)).enc x342) se0 ?_)
     refine jl_nil ?_
     refine jx_then ?_
     refine jc_seq ?_
     refine jc_regd (k := 23) hmix rfl [([], .blk b1 64 (tySView.enc p1)), ([], .blk b343 173 ((Ty.arr 2 (tyI .i64)).enc x342)), ([], .blk b3 25 ((Ty.arr 32 (tyI .u8)).enc p3))] [] (.cons at2 (.cons at0 (.cons at1 .nil))) .nil ?_
     refine tk (i := 0) rfl (by kernel_rfl) rfl (yv_fa fa64_1 rfl rfl) .nil .nil ?_
     obtain ⟨x344, hx344, h⟩ := letX h
     refine tk (i := 1) rfl (by kernel_rfl) rfl (yxg (C := tySTree) hx344 (yv_ldb ti61 rfl rfl (rd_bl at0) ((Sub.refl _).trans (SView.s1 p1)) (Ty.len _ _) (by simp))) (.cons at0 (by kernel_rfl) .nil) .nil ?_
     refine tk (i := 2) rfl (by kernel_rfl) rfl (yv_ia ia173 rfl rfl rfl (by decide)) .nil .nil ?_
     obtain ⟨x345, hx345, h⟩ := letX h
     refine tk (i := 3) rfl (by kernel_rfl) rfl (yxi hx345 (yv_ldb ti3 rfl rfl (rd_bl at0) ((Sub.refl _).trans (arr_sub (tyI .i64) x342 (1 : Int) (by decide))) (Ty.len _ _) (fun _ => rfl))) (.cons at1 (by kernel_rfl) .nil) .nil ?_
     refine tk (i := 5) rfl (by kernel_rfl) rfl (yv_ldb ti25 rfl rfl (rd_bl at0) (Sub.refl _) (Ty.len _ _) (by simp)) (.cons at2 (by kernel_rfl) .nil) .nil ?_
     refine tk (i := 6) rfl (by kernel_rfl) rfl (yv_move rfl rfl) .nil .nil ?_
     refine tk (i := 10) rfl (by kernel_rfl) rfl (yv_move rfl rfl) .nil .nil ?_
     refine tk (i := 11) rfl (by kernel_rfl) rfl (yv_ia ia173 rfl rfl rfl (by decide)) .nil .nil ?_
     obtain ⟨x346, hx346, h⟩ := letX h
     refine tk (i := 12) rfl (by kernel_rfl) rfl (yxi hx346 (yv_ldb ti3 rfl rfl (rd_bl at0) ((Sub.refl _).trans (arr_sub (tyI .i64) x342 (0 : Int) (by decide))) (Ty.len _ _) (fun _ => rfl))) (.cons at1 (by kernel_rfl) .nil) .nil ?_
     refine nj_xptX at0 hm_x5 fun b347 u348_ hv_b347 => ?_
     refine nj_xSpartyParty at1 fun u348_2 hu348 => ?_
     subst hu348
     refine tk (i := 13) rfl (by kernel_rfl) rfl (yv_nilp rfl rfl hv_b347) .nil .nil ?_
     refine tk (i := 14) rfl (by kernel_rfl) rfl (yv_fa fa143_5 rfl rfl) .nil .nil ?_
     obtain ⟨g349, h⟩ := gdE h
     refine tk (i := 15) rfl (by kernel_rfl) rfl (yv_ia ia141 rfl rfl rfl g349) .nil .nil ?_
     refine tk (i := 16) rfl (by kernel_rfl) rfl (yv_sla1 ia25 rfl rfl) .nil .nil ?_
     obtain ⟨y350, hy350, h⟩ := bdE h
     refine jg_one (i := 4) (by kernel_rfl) (gst rfl rfl (so_callv pf168 rfl rfl rfl rfl (fun σ hs => F168_c hy350 σ.w σ.O hs.olt) ?_))
     refine ng (.cons at2 (.cons at0 (.cons at1 .nil))) .nil ?_
     obtain ⟨y351, hy351, h⟩ := bdE h
     refine jg_one (i := 7) (by kernel_rfl) (gst rfl rfl (so_callx pf169 rfl rfl rfl rfl (fun σ hs => F169_c hy351 σ.w σ.O hs.olt) (fun _ => (.cons .nil)) (fun _ => .nil) (fun r352 => ?_)))
     refine ng (.cons at3 (.cons at1 (.cons at2 .nil))) .nil ?_
     refine jg_one (i := 8) (by kernel_rfl) (gst rfl rfl (so_bslL (C := tySl) (l := ([r352] : List Sl)) si34 sz34 rfl rfl rfl rfl (by decide) (by decide) (fills_cons rfl (many_upd' tySl _ (0 : Int) r352 (by simp [lup])) rfl (Ty.len tySl r352) fills_nil) fun s353 => ?_))
     refine ng (.cons at4 (.cons at2 (.cons at3 .nil))) .nil ?_
     obtain ⟨y354, hy354, h⟩ := bdE h
     refine jg_one (i := 9) (by kernel_rfl) (gst rfl rfl (so_callv pf83 rfl rfl rfl rfl (fun σ hs => F83_c hy354 σ.w σ.O hs.olt s353 (cw0 (rq_sl (rd_o at0) (rq_alc (rd_o at1) rq_al0)) hs)) ?_))
     refine ng (.cons at4 (.cons at2 (.cons at3 .nil))) .nil ?_
     obtain ⟨y355, hy355, h⟩ := bdE h
     refine jg_one (i := 17) (by kernel_rfl) (gst rfl rfl (so_callx pf167 rfl rfl rfl rfl (fun σ hs => F167_c hy355 σ.w σ.O hs.olt (⟨some ⟨b347, ((0 + 110) + x346.toNat * 32), none⟩, 32, 32⟩ : Sl) (cw0 (rq_arr (rd_f at1) (((Sub.refl _).trans (VpartyParty.s5 (⟨x5.v, x5.leaf, u348_2, x5.own, x5.has', x5.nodes, x5.epoch, x5.init'⟩ : VpartyParty))).trans (arr_sub (Ty.arr 32 (tyI .u8)) x5.nodes x346 g349)) (by decide)) hs)) (fun _ => (.cons .nil)) (fun _ => .nil) (fun r356 => ?_)))
     refine ng (.cons at5 (.cons at3 (.cons at4 .nil))) .nil ?_
     refine tk (i := 18) rfl (by kernel_rfl) rfl (yv_move rfl rfl) .nil .nil ?_
     refine tk (i := 19) rfl (by kernel_rfl) rfl (yv_ext rfl rfl rfl) .nil .nil ?_
     refine tk (i := 20) rfl (by kernel_rfl) rfl (yv_ext rfl rfl rfl) .nil .nil ?_
     refine tk (i := 21) rfl (by kernel_rfl) rfl (yv_assign rfl rfl) .nil .nil ?_
     refine tk (i := 22) rfl (by kernel_rfl) rfl (yv_assign rfl rfl) .nil .nil ?_
     refine jg_nil (by kernel_rfl) ?_
     refine jx_then ?_
     refine jc_seq ?_
     refine jc_seq ?_
     refine jc_reg ?_
     refine sqv rfl (yv_move rfl rfl) ?_
     obtain ⟨x357, hx357, h⟩ := letX h
     refine sqv rfl (yxb hx357 (yv_neq rfl rfl rfl)) ?_
     refine jl_nil ?_
     refine jx_then ?_
     rcases x357 with _ | _
     ·
      replace h := brF h
      refine jc_f rfl ?_
      refine jc_skip ?_
      refine jx_then ?_
      refine jc_reg ?_
      refine sqv rfl (yv_move rfl rfl) ?_
      refine sqv rfl (yv_move rfl rfl) ?_
      refine sq rfl (so_bslL (C := tySl) (l := ([r356] : List Sl)) si34 sz34 rfl rfl rfl rfl (by decide) (by decide) (fills_cons rfl (many_upd' tySl _ (0 : Int) r356 (by simp [lup])) rfl (Ty.len tySl r356) fills_nil) fun s360 => ?_)
      refine nj_frz inout0 de1 ?_
      refine nj_s (m := mAl (mRow (tyI .u8))) (v := ([r356] : List Sl)) (p := ([y355.1] : (List (List Int)))) (rq_alc (rs_f at0) rq_al0) ?_
      obtain ⟨l361, hl361, h⟩ := letX h
      obtain ⟨g362, h⟩ := gdE h
      refine sq rfl (so_appVX (q := true) (C := tySl) hl361 si34 rfl rfl rfl rfl de6 (rd_o at0) (rs_f at6) (rs_f at0) g362 fun s363 w364 => ?_)
      refine sqv rfl (yv_assign rfl rfl) ?_
      refine jl_nil ?_
      refine jx_blk ?_
      refine jx_then ?_
      refine jc_reg ?_
      obtain ⟨x365, hx365, h⟩ := letX h
      refine sqv rfl (yxi hx365 (yv_add rfl rfl rfl)) ?_
      refine sqv rfl (yv_move rfl rfl) ?_
      refine jl_nil ?_
      refine jx_again ?_
      exact nj_weak (ih0 l361 x365 s363 w364 h) ⟨rfl, rfl, rfl, rfl, rfl, rfl, rfl, rfl, rfl, trivial⟩ (.cons de5 (.cons de5 (.cons de0 (.cons de4 .nil)))) (.cons at6 (.cons at0 .nil))
     ·
      replace h := brT h
      refine jc_t rfl ?_
      refine jc_seq ?_
      refine jc_reg ?_
      refine sqv rfl (yv_move rfl rfl) ?_
      refine sqv rfl (yv_assign rfl rfl) ?_
      refine sqv rfl (yv_assign rfl rfl) ?_
      refine jl_nil ?_
      refine jx_then ?_
      refine jc_ret ?_
      refine jx_tr ?_
      refine jx_br ?_
      refine jx_tr ?_
      refine jx_tr ?_
      refine jx_abs hQ0 ?_
      refine jx_br ?_
      refine jx_tr ?_
      refine nj_nil 97 tySl rfl ?_
      refine nj_s (m := mAl (mRow (tyI .u8))) (v := ([] : List Sl)) (p := []) rq_al0 ?_
      cases h
      exact jx_ret rfl (rr_tmp rfl (rr_tmp rfl rr_nil)) ⟨((⟨none, 0, 0⟩ : Sl), ([] : List Sl)), rfl, rfl, rfl, rfl⟩ (.cons de0 .nil) (.cons at0 .nil) rfl (by simp)
  exact nj_weak (key0 FUEL [] 0 (⟨none, 0, 0⟩ : Sl) ([] : List Sl) h) ⟨rfl, rfl, rfl, rfl, rfl, rfl, rfl, rfl, rfl, trivial⟩ (.cons de2 (.cons de3 (.cons de0 (.cons de0 .nil)))) (.cons at4 (.cons at0 .nil))
theorem F249_c {p0 : (List Int)} {r : (List Int)} (h : F249 p0 = some r) (w0 : World) (O0 : Nat → Prop) (hO : ∀ k, O0 k → k < w0.heap.size) (v0 : Sl) (k0 : (fa false (mRow (tyI .i64)) v0 p0).p ⟨w0, O0, inL []⟩) :
  CallsP Tryz.prog 249 (List.toArray [sv v0]) w0 O0 [] (RX (fun x : Sl => sv x) (fun x => [.sli x 5 (tyI .u8).size (r).length ((tyI .u8).many r)]) (fun x => [])) := by
 unfold F249 at h
 refine calls_start (e := [(0, sv v0)]) (L := []) (K := [fa false (mRow (tyI .i64)) v0 p0]) Tryz.func249 rfl rfl rfl ⟨rfl, trivial⟩ hO (by simp) .nil (alc k0 aln) ?_
 refine jc_seq ?_
 refine jc_reg ?_
 refine sqv rfl (yv_assign rfl rfl) ?_
 refine jl_nil ?_
 refine jx_then ?_
 refine jc_seq ?_
 refine jc_reg ?_
 refine sqv rfl (yv_assign rfl rfl) ?_
 refine jl_nil ?_
 refine jx_then ?_
 refine jc_seq ?_
 refine jc_seq ?_
 refine jc_reg ?_
 refine sqv rfl (yv_move rfl rfl) ?_
 obtain ⟨x1, hx1, h⟩ := letX h
 refine sqv rfl (yv_len isl258 rfl rfl (rd_f at0) hx1) ?_
 refine sqv rfl (yv_move rfl rfl) ?_
 refine jl_nil ?_
 refine jx_then ?_
 refine jc_block ?_
 refine nj_nil 5 (tyI .u8) rfl ?_
 refine jc_loop ?_
 intro B0 Q0 hB0 hQ0
 have key0 : ∀ (k0 : Nat) (j52 : (List Int)) (j53 : Int) (z51 : Sl), F249_l0 x1 p0 k0 j52 j53 = some r → JW 18 w0 O0 [] Tryz.prog B0 Q0 [(2, sv (⟨none, 0, 0⟩ : Sl)), (3, sv z51), (6, sv v0), (7, .int .i64 x1), (8, .int .i64 j53)] [.sli z51 5 (tyI .u8).size (j52).length ((tyI .u8).many j52)] [fa false (mRow (tyI .i64)) v0 p0] := by
  intro k0
  induction k0 with
  | zero => intro j52 j53 z51 h; cases h
  | succ k0 ih0 =>
   intro j52 j53 z51 h
   unfold F249_l0 at h
   refine jw_round hB0 ?_
   refine jc_seq ?_
   refine jc_reg ?_
   obtain ⟨x54, hx54, h⟩ := letX h
   refine sqv rfl (yxb hx54 (yv_lss rfl rfl rfl)) ?_
   refine jl_nil ?_
   refine jx_then ?_
   refine jc_seq ?_
   rcases x54 with _ | _
   ·
    replace h := brF h
    refine jc_f rfl ?_
    refine jc_exit ?_
    refine jx_te ?_
    refine jx_te ?_
    refine jx_abs hQ0 ?_
    refine jx_hit ?_
    refine jx_then ?_
    refine jc_seq ?_
    refine jc_reg ?_
    refine sqv rfl (yv_move rfl rfl) ?_
    refine sqv rfl (yv_assign rfl rfl) ?_
    refine jl_nil ?_
    refine jx_then ?_
    refine jc_ret ?_
    cases h
    exact jx_ret rfl (rr_tmp rfl rr_nil) ⟨(z51), rfl, rfl, rfl, rfl⟩ (.cons de0 .nil) .nil rfl (by simp)
   ·
    replace h := brT h
    refine jc_t rfl ?_
    refine jc_skip ?_
    refine jx_then ?_
    refine jc_seq ?_
    refine jc_block ?_
    refine jc_seq ?_
    refine jc_reg ?_
    obtain ⟨g67, h⟩ := gdE h
    refine nj_open (rd_f at0) g67 fun b68 o69 ha_b68 => ?_
    refine sqv rfl (yv_is is258 rfl rfl rfl ha_b68 (rd_f at0) g67) ?_
    obtain ⟨x70, hx70, h⟩ := letX h
    refine sqv rfl (yxi hx70 (yv_lds ti3 rfl rfl ha_b68 (rd_f at0) (many_sub' (tyI .i64) p0 j53 g67) rfl (Ty.len _ _) (fun _ => rfl))) ?_
    refine sqv rfl (yv_assign rfl rfl) ?_
    refine jl_nil ?_
    refine jx_then ?_
    refine jc_reg ?_
    refine sqv rfl (yv_move rfl rfl) ?_
    refine sqv rfl (yv_move rfl rfl) ?_
    obtain ⟨y71, hy71, h⟩ := bdE h
    refine sq rfl (so_callx pf169 rfl rfl rfl rfl (fun σ hs => F169_c hy71 σ.w σ.O hs.olt) (fun _ => (.cons .nil)) (fun _ => .nil) (fun r72 => ?_))
    obtain ⟨l73, hl73, h⟩ := letX h
    obtain ⟨g74, h⟩ := gdE h
    refine sq rfl (so_appX (C := (tyI .u8)) hl73 si97 rfl rfl rfl rfl de1 (rd_o at0) rfl g74 fun s75 => ?_)
    refine sqv rfl (yv_assign rfl rfl) ?_
    refine jl_nil ?_
    refine jx_blk ?_
    refine jx_then ?_
    refine jc_reg ?_
    obtain ⟨x76, hx76, h⟩ := letX h
    refine sqv rfl (yxi hx76 (yv_add rfl rfl rfl)) ?_
    refine sqv rfl (yv_move rfl rfl) ?_
    refine jl_nil ?_
    refine jx_again ?_
    exact nj_weak (ih0 l73 x76 s75 h) ⟨rfl, rfl, rfl, rfl, rfl, trivial⟩ (.cons de0 .nil) (.cons at0 .nil)
 exact nj_weak (key0 FUEL [] 0 (⟨none, 0, 0⟩ : Sl) h) ⟨rfl, rfl, rfl, rfl, rfl, trivial⟩ (.cons de0 .nil) (.cons at0 .nil)
end Go.Proofs.YtbhbpfdjlabamaaGreat
