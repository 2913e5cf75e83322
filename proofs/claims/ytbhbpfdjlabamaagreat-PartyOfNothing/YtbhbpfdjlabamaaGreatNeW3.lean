/-
  The walks of what curia law 5 reaches, part 3: each function of the program computes what its twin of the text Pure says.
-/
import Derived.Test.YtbhbpfdjlabamaaGreatNeW2
set_option linter.all false
set_option linter.unusedVariables false
set_option linter.unusedSimpArgs false
namespace Go.Proofs.YtbhbpfdjlabamaaGreat
open Go Go.Proofs
set_option maxRecDepth 4000
set_option maxHeartbeats 1000000

theorem F170_c {p0 : SCommit} {r : (List Int)} (h : F170 p0 = some r) (w0 : World) (O0 : Nat → Prop) (hO : ∀ k, O0 k → k < w0.heap.size) (v0_2 : Sl) (v0_3 : Sl) (v0_6 : Sl) (k0 : (fa false (mRow tySOp) v0_2 p0.Ops).p ⟨w0, O0, inL []⟩) (k1 : (fa false (mRow tySVote) v0_3 p0.Votes).p ⟨w0, O0, inL []⟩) (k2 : (fa false (mSl tySl (mRow (tyI .u8))) v0_6 p0.Boxes).p ⟨w0, O0, inL []⟩) :
  CallsP Tryz.prog 170 (List.toArray [ag (tyVCommit.enc (⟨p0.Epoch, p0.From, v0_2, v0_3, p0.Seal, p0.Path, v0_6, p0.Tag, p0.Sig⟩ : VCommit))]) w0 O0 [] (RX (fun x : Sl => sv x) (fun x => [.sli x 5 (tyI .u8).size (r).length ((tyI .u8).many r)]) (fun x => [])) := by
 unfold F170 at h
 refine calls_start (e := [(0, ag (tyVCommit.enc (⟨p0.Epoch, p0.From, v0_2, v0_3, p0.Seal, p0.Path, v0_6, p0.Tag, p0.Sig⟩ : VCommit)))]) (L := []) (K := [fa false (mRow tySOp) v0_2 p0.Ops, fa false (mRow tySVote) v0_3 p0.Votes, fa false (mSl tySl (mRow (tyI .u8))) v0_6 p0.Boxes]) Tryz.func170 rfl rfl rfl ⟨rfl, trivial⟩ hO (by simp) .nil (alc k0 (alc k1 (alc k2 aln))) ?_
 refine jc_seq ?_
 refine jc_reg ?_
 refine sq rfl (so_boxa (by decide) rfl rfl rfl fun b1 => ?_)
 refine sqv rfl (yv_assign rfl rfl) ?_
 refine jl_nil ?_
 refine jx_then ?_
 refine jc_seq ?_
 obtain ⟨x1_3, hx1_3, h⟩ := letX h
 obtain ⟨x1_5, hx1_5, h⟩ := letX h
 obtain ⟨x1_8, hx1_8, h⟩ := letX h
 obtain ⟨y1_10, hy1_10, h⟩ := bdE h
 obtain ⟨y1_13, hy1_13, h⟩ := bdE h
 obtain ⟨x1_16, hx1_16, h⟩ := letX h
 obtain ⟨y1_18, hy1_18, h⟩ := bdE h
 obtain ⟨y1_20, hy1_20, h⟩ := bdE h
 refine jc_regd (k := 20) hmix rfl [] [] .nil .nil ?_
 refine tk (i := 0) rfl (by kernel_rfl) rfl (yv_fa fa38_0 rfl rfl) .nil .nil ?_
 refine jg_reb (Ls' := [([], .blk b1 38 (tyVCommit.enc (⟨p0.Epoch, p0.From, v0_2, v0_3, p0.Seal, p0.Path, v0_6, p0.Tag, p0.Sig⟩ : VCommit)))]) (Ks' := []) (.cons at0 .nil) .nil .nil .nil ?_
 refine tk (i := 1) rfl (by kernel_rfl) rfl (yxi hx1_3 (yv_ldb ti3 rfl rfl (rd_bl at0) ((Sub.refl _).trans (VCommit.s0 (⟨p0.Epoch, p0.From, v0_2, v0_3, p0.Seal, p0.Path, v0_6, p0.Tag, p0.Sig⟩ : VCommit))) (Ty.len _ _) (fun _ => rfl))) (.cons at0 (by kernel_rfl) .nil) .nil ?_
 refine tk (i := 2) rfl (by kernel_rfl) rfl (yv_fa fa38_1 rfl rfl) .nil .nil ?_
 refine tk (i := 3) rfl (by kernel_rfl) rfl (yxi hx1_5 (yv_ldb ti3 rfl rfl (rd_bl at0) ((Sub.refl _).trans (VCommit.s1 (⟨p0.Epoch, p0.From, v0_2, v0_3, p0.Seal, p0.Path, v0_6, p0.Tag, p0.Sig⟩ : VCommit))) (Ty.len _ _) (fun _ => rfl))) (.cons at0 (by kernel_rfl) .nil) .nil ?_
 refine tk (i := 4) rfl (by kernel_rfl) rfl (yv_fa fa38_2 rfl rfl) .nil .nil ?_
 refine tk (i := 5) rfl (by kernel_rfl) rfl (yv_ldb ti31 rfl rfl (rd_bl at0) ((Sub.refl _).trans (VCommit.s2 (⟨p0.Epoch, p0.From, v0_2, v0_3, p0.Seal, p0.Path, v0_6, p0.Tag, p0.Sig⟩ : VCommit))) (Ty.len _ _) (fun _ => rfl)) (.cons at0 (by kernel_rfl) .nil) .nil ?_
 refine jg_reb (Ls' := [([], .blk b1 38 (tyVCommit.enc (⟨p0.Epoch, p0.From, v0_2, v0_3, p0.Seal, p0.Path, v0_6, p0.Tag, p0.Sig⟩ : VCommit)))]) (Ks' := [fa false (mRow tySOp) v0_2 p0.Ops]) (.cons at0 .nil) (.cons at0 .nil) (.cons at0 .nil) .nil ?_
 refine tk (i := 6) rfl (by kernel_rfl) rfl (yv_len isl31 rfl rfl (rd_f at0) hx1_8) .nil (.cons at0 .nil) ?_
 refine tk (i := 9) rfl (by kernel_rfl) rfl (yv_fa fa38_2 rfl rfl) .nil .nil ?_
 refine tk (i := 10) rfl (by kernel_rfl) rfl (yv_ldb ti31 rfl rfl (rd_bl at0) ((Sub.refl _).trans (VCommit.s2 (⟨p0.Epoch, p0.From, v0_2, v0_3, p0.Seal, p0.Path, v0_6, p0.Tag, p0.Sig⟩ : VCommit))) (Ty.len _ _) (fun _ => rfl)) (.cons at0 (by kernel_rfl) .nil) .nil ?_
 refine tk (i := 12) rfl (by kernel_rfl) rfl (yv_fa fa38_3 rfl rfl) .nil .nil ?_
 refine tk (i := 13) rfl (by kernel_rfl) rfl (yv_ldb ti32 rfl rfl (rd_bl at0) ((Sub.refl _).trans (VCommit.s3 (⟨p0.Epoch, p0.From, v0_2, v0_3, p0.Seal, p0.Path, v0_6, p0.Tag, p0.Sig⟩ : VCommit))) (Ty.len _ _) (fun _ => rfl)) (.cons at0 (by kernel_rfl) .nil) .nil ?_
 refine jg_reb (Ls' := [([], .blk b1 38 (tyVCommit.enc (⟨p0.Epoch, p0.From, v0_2, v0_3, p0.Seal, p0.Path, v0_6, p0.Tag, p0.Sig⟩ : VCommit)))]) (Ks' := [fa false (mRow tySVote) v0_3 p0.Votes, fa false (mRow tySOp) v0_2 p0.Ops]) (.cons at0 .nil) (.cons at1 (.cons at0 .nil)) (.cons at0 .nil) (.cons at1 .nil) ?_
 refine tk (i := 14) rfl (by kernel_rfl) rfl (yv_len isl32 rfl rfl (rd_f at0) hx1_16) .nil (.cons at0 .nil) ?_
 refine jg_nm2 ?_
 intro J1_23 hJ1_23_1 hJ1_23_2
 have hs1_23_10 : ∀ (r1_20 : Sl) (s1_19 : Sl) (r1_10 : Sl) (r1_13 : Sl) (r1_18 : Sl) (s1_17 : Sl) (s1_9 : Sl), J1_23 [([], .blk b1 38 (tyVCommit.enc (⟨p0.Epoch, p0.From, v0_2, v0_3, p0.Seal, p0.Path, v0_6, p0.Tag, p0.Sig⟩ : VCommit)))] [fa false (mRow tySVote) v0_3 p0.Votes, fa false (mRow tySOp) v0_2 p0.Ops] 1 #[true, true, true, true, true, true, true, true, true, true, true, true, true, true, true, true, true, true, true, false] [(1, pt b1 0), (2, sv (⟨none, 0, 0⟩ : Sl)), (26, sv r1_20)] [.sli r1_20 5 (tyI .u8).size (y1_20).length ((tyI .u8).many y1_20), .sli s1_19 97 tySl.size (([r1_10, r1_13, r1_18] : List Sl)).length (tySl.many ([r1_10, r1_13, r1_18] : List Sl)), .sli r1_18 5 (tyI .u8).size (y1_18).length ((tyI .u8).many y1_18), .sli s1_17 3 (tyI .i64).size (([x1_16] : (List Int))).length ((tyI .i64).many ([x1_16] : (List Int))), .sli r1_13 5 (tyI .u8).size (y1_13).length ((tyI .u8).many y1_13), .sli r1_10 5 (tyI .u8).size (y1_10).length ((tyI .u8).many y1_10), .sli s1_9 3 (tyI .i64).size (([x1_3, x1_5, x1_8] : (List Int))).length ((tyI .i64).many ([x1_3, x1_5, x1_8] : (List Int))), .blk b1 38 (tyVCommit.enc (⟨p0.Epoch, p0.From, v0_2, v0_3, p0.Seal, p0.Path, v0_6, p0.Tag, p0.Sig⟩ : VCommit))] [fa false (mRow tySOp) v0_2 p0.Ops, fa false (mRow tySVote) v0_3 p0.Votes, fa false (mSl tySl (mRow (tyI .u8))) v0_6 p0.Boxes] := by
  intro r1_20 s1_19 r1_10 r1_13 r1_18 s1_17 s1_9
  refine hJ1_23_1 _ _ _ _ _ _ _ ?_
  refine tk (i := 19) rfl (by kernel_rfl) rfl (yv_assign rfl rfl) .nil .nil ?_
  refine jg_nil (by kernel_rfl) ?_
  refine jx_then ?_
  refine jc_seq ?_
  refine jc_seq ?_
  refine jc_reg ?_
  refine sqv rfl (yv_fa fa38_3 rfl rfl) ?_
  refine sqv rfl (yv_ldb ti32 rfl rfl (rd_bl at7) ((Sub.refl _).trans (VCommit.s3 (⟨p0.Epoch, p0.From, v0_2, v0_3, p0.Seal, p0.Path, v0_6, p0.Tag, p0.Sig⟩ : VCommit))) (Ty.len _ _) (fun _ => rfl)) ?_
  obtain ⟨x24, hx24, h⟩ := letX h
  refine sqv rfl (yv_len isl32 rfl rfl (rd_f at1) hx24) ?_
  refine sqv rfl (yv_move rfl rfl) ?_
  refine jl_nil ?_
  refine jx_then ?_
  refine jc_block ?_
  refine jc_loop ?_
  intro B0 Q0 hB0 hQ0
  have key0 : ∀ (k0 : Nat) (j201 : (List Int)) (j202 : Int) (z200 : Sl), F170_l0 x24 p0 k0 j201 j202 = some r → JW 82 w0 O0 [] Tryz.prog B0 Q0 [(1, pt b1 0), (2, sv (⟨none, 0, 0⟩ : Sl)), (3, sv z200), (28, sv v0_3), (29, .int .i64 x24), (30, .int .i64 j202)] [.blk b1 38 (tyVCommit.enc (⟨p0.Epoch, p0.From, v0_2, v0_3, p0.Seal, p0.Path, v0_6, p0.Tag, p0.Sig⟩ : VCommit)), .sli z200 5 (tyI .u8).size (j201).length ((tyI .u8).many j201)] [fa false (mRow tySVote) v0_3 p0.Votes, fa false (mRow tySOp) v0_2 p0.Ops, fa false (mSl tySl (mRow (tyI .u8))) v0_6 p0.Boxes] := by
   intro k0
   induction k0 with
   | zero => intro j201 j202 z200 h; cases h
   | succ k0 ih0 =>
    intro j201 j202 z200 h
    unfold F170_l0 at h
    refine jw_round hB0 ?_
    refine jc_seq ?_
    refine jc_reg ?_
    obtain ⟨x203, hx203, h⟩ := letX h
    refine sqv rfl (yxb hx203 (yv_lss rfl rfl rfl)) ?_
    refine jl_nil ?_
    refine jx_then ?_
    refine jc_seq ?_
    rcases x203 with _ | _
    ·
     replace h := brF h
     refine jc_f rfl ?_
     refine jc_exit ?_
     refine jx_te ?_
     refine jx_te ?_
     refine jx_abs hQ0 ?_
     refine jx_hit ?_
     refine jx_then ?_
     refine jc_seq ?_
     refine jc_reg ?_
     refine sqv rfl (yv_move rfl rfl) ?_
     refine sqv rfl (yv_fa fa38_4 rfl rfl) ?_
     obtain ⟨x236, hx236, h⟩ := letX h
     refine sqv rfl (yxi hx236 (yv_ldb ti3 rfl rfl (rd_bl at0) ((Sub.refl _).trans (VCommit.s4 (⟨p0.Epoch, p0.From, v0_2, v0_3, p0.Seal, p0.Path, v0_6, p0.Tag, p0.Sig⟩ : VCommit))) (Ty.len _ _) (fun _ => rfl))) ?_
     refine sqv rfl (yv_fa fa38_5 rfl rfl) ?_
     refine sqv rfl (yv_ia ia33 rfl rfl rfl (by decide)) ?_
     obtain ⟨x237, hx237, h⟩ := letX h
     refine sqv rfl (yxi hx237 (yv_ldb ti3 rfl rfl (rd_bl at0) (((Sub.refl _).trans (VCommit.s5 (⟨p0.Epoch, p0.From, v0_2, v0_3, p0.Seal, p0.Path, v0_6, p0.Tag, p0.Sig⟩ : VCommit))).trans (arr_sub (tyI .i64) p0.Path (0 : Int) (by decide))) (Ty.len _ _) (fun _ => rfl))) ?_
     refine sqv rfl (yv_fa fa38_5 rfl rfl) ?_
     refine sqv rfl (yv_ia ia33 rfl rfl rfl (by decide)) ?_
     obtain ⟨x238, hx238, h⟩ := letX h
     refine sqv rfl (yxi hx238 (yv_ldb ti3 rfl rfl (rd_bl at0) (((Sub.refl _).trans (VCommit.s5 (⟨p0.Epoch, p0.From, v0_2, v0_3, p0.Seal, p0.Path, v0_6, p0.Tag, p0.Sig⟩ : VCommit))).trans (arr_sub (tyI .i64) p0.Path (1 : Int) (by decide))) (Ty.len _ _) (fun _ => rfl))) ?_
     refine sqv rfl (yv_fa fa38_5 rfl rfl) ?_
     refine sqv rfl (yv_ia ia33 rfl rfl rfl (by decide)) ?_
     obtain ⟨x239, hx239, h⟩ := letX h
     refine sqv rfl (yxi hx239 (yv_ldb ti3 rfl rfl (rd_bl at0) (((Sub.refl _).trans (VCommit.s5 (⟨p0.Epoch, p0.From, v0_2, v0_3, p0.Seal, p0.Path, v0_6, p0.Tag, p0.Sig⟩ : VCommit))).trans (arr_sub (tyI .i64) p0.Path (2 : Int) (by decide))) (Ty.len _ _) (fun _ => rfl))) ?_
     refine sqv rfl (yv_fa fa38_6 rfl rfl) ?_
     refine sqv rfl (yv_ldb ti34 rfl rfl (rd_bl at0) ((Sub.refl _).trans (VCommit.s6 (⟨p0.Epoch, p0.From, v0_2, v0_3, p0.Seal, p0.Path, v0_6, p0.Tag, p0.Sig⟩ : VCommit))) (Ty.len _ _) (fun _ => rfl)) ?_
     obtain ⟨x240, hx240, h⟩ := letX h
     refine sqv rfl (yv_lenx isl34 rfl rfl (rd_f at2) hx240) ?_
     refine sq rfl (so_bslL (C := (tyI .i64)) (l := ([x236, x237, x238, x239, x240] : (List Int))) si258 sz258 rfl rfl rfl rfl (by decide) (by decide) (fills_cons rfl (many_upd' (tyI .i64) _ (0 : Int) x236 (by simp [lup])) rfl (Ty.len (tyI .i64) x236) (fills_cons rfl (many_upd' (tyI .i64) _ (1 : Int) x237 (by simp [lup])) rfl (Ty.len (tyI .i64) x237) (fills_cons rfl (many_upd' (tyI .i64) _ (2 : Int) x238 (by simp [lup])) rfl (Ty.len (tyI .i64) x238) (fills_cons rfl (many_upd' (tyI .i64) _ (3 : Int) x239 (by simp [lup])) rfl (Ty.len (tyI .i64) x239) (fills_cons rfl (many_upd' (tyI .i64) _ (4 : Int) x240 (by simp [lup])) rfl (Ty.len (tyI .i64) x240) fills_nil))))) fun s241 => ?_)
     obtain ⟨y242, hy242, h⟩ := bdE h
     refine sq rfl (so_callx pf249 rfl rfl rfl rfl (fun σ hs => F249_c hy242 σ.w σ.O hs.olt s241 (cw0 (rd_o at0) hs)) (fun _ => (.cons .nil)) (fun _ => .nil) (fun r243 => ?_))
     obtain ⟨l244, hl244, h⟩ := letX h
     obtain ⟨g245, h⟩ := gdE h
     refine sq rfl (so_appX (C := (tyI .u8)) hl244 si97 rfl rfl rfl rfl de3 (rd_o at0) rfl g245 fun s246 => ?_)
     refine sqv rfl (yv_assign rfl rfl) ?_
     refine jl_nil ?_
     refine jx_then ?_
     refine jc_seq ?_
     refine jc_seq ?_
     refine jc_reg ?_
     refine sqv rfl (yv_fa fa38_6 rfl rfl) ?_
     refine sqv rfl (yv_ldb ti34 rfl rfl (rd_bl at3) ((Sub.refl _).trans (VCommit.s6 (⟨p0.Epoch, p0.From, v0_2, v0_3, p0.Seal, p0.Path, v0_6, p0.Tag, p0.Sig⟩ : VCommit))) (Ty.len _ _) (fun _ => rfl)) ?_
     obtain ⟨x247, hx247, h⟩ := letX h
     refine sqv rfl (yv_lenx isl34 rfl rfl (rd_f at2) hx247) ?_
     refine sqv rfl (yv_move rfl rfl) ?_
     refine jl_nil ?_
     refine jx_then ?_
     refine jc_block ?_
     refine jc_loop ?_
     intro B1 Q1 hB1 hQ1
     have key1 : ∀ (k1 : Nat) (j330 : (List Int)) (j331 : Int) (z329 : Sl), F170_l1 x247 p0 k1 j330 j331 = some r → JW 82 w0 O0 [] Tryz.prog B1 Q1 [(2, sv (⟨none, 0, 0⟩ : Sl)), (3, sv z329), (66, sv v0_6), (67, .int .i64 x247), (68, .int .i64 j331)] [.sli z329 5 (tyI .u8).size (j330).length ((tyI .u8).many j330)] [fa false (mSl tySl (mRow (tyI .u8))) v0_6 p0.Boxes] := by
      intro k1
      induction k1 with
      | zero => intro j330 j331 z329 h; cases h
      | succ k1 ih1 =>
       intro j330 j331 z329 h
       unfold F170_l1 at h
       refine jw_round hB1 ?_
       refine jc_seq ?_
       refine jc_reg ?_
       obtain ⟨x332, hx332, h⟩ := letX h
       refine sqv rfl (yxb hx332 (yv_lss rfl rfl rfl)) ?_
       refine jl_nil ?_
       refine jx_then ?_
       refine jc_seq ?_
       rcases x332 with _ | _
       ·
        replace h := brF h
        refine jc_f rfl ?_
        refine jc_exit ?_
        refine jx_te ?_
        refine jx_te ?_
        refine jx_abs hQ1 ?_
        refine jx_hit ?_
        refine jx_then ?_
        refine jc_seq ?_
        refine jc_reg ?_
        refine sqv rfl (yv_move rfl rfl) ?_
        refine sqv rfl (yv_assign rfl rfl) ?_
        refine jl_nil ?_
        refine jx_then ?_
        refine jc_ret ?_
        cases h
        exact jx_ret rfl (rr_tmp rfl rr_nil) ⟨(z329), rfl, rfl, rfl, rfl⟩ (.cons de0 .nil) .nil rfl (by simp)
       ·
        replace h := brT h
        refine jc_t rfl ?_
        refine jc_skip ?_
        refine jx_then ?_
        refine jc_seq ?_
        refine jc_block ?_
        refine jc_seq ?_
        refine jc_reg ?_
        obtain ⟨g353, h⟩ := gdE h
        refine nj_xsl at0 fun w354 => ?_
        refine nj_all (rd_f at1) fun hl_g356 => ?_
        have g356 : 0 ≤ j331 ∧ j331 < (w354.length : Int) := by rw [hl_g356]; exact g353
        refine nj_open (rd_f at0) g356 fun b355 o357 ha_b355 => ?_
        refine sqv rfl (yv_is is34 rfl rfl rfl ha_b355 (rd_f at0) g356) ?_
        obtain ⟨y358, hy358, h⟩ := letX h
        refine nj_eltw (rw_f at1) g353 hy358 fun u359 hx_u359 => ?_
        refine sqv rfl (yv_lds ti97 rfl rfl ha_b355 (rd_f at1) (many_subx hx_u359 tySl g356) rfl (Ty.len _ _) (fun _ => rfl)) ?_
        refine sqv rfl (yv_assign rfl rfl) ?_
        refine jl_nil ?_
        refine jx_then ?_
        refine jc_reg ?_
        refine sqv rfl (yv_move rfl rfl) ?_
        refine sqv rfl (yv_move rfl rfl) ?_
        obtain ⟨x360, hx360, h⟩ := letX h
        refine sqv rfl (yv_len isl97 rfl rfl (rd_f at0) hx360) ?_
        refine sq rfl (so_bslL (C := (tyI .i64)) (l := ([x360] : (List Int))) si258 sz258 rfl rfl rfl rfl (by decide) (by decide) (fills_cons rfl (many_upd' (tyI .i64) _ (0 : Int) x360 (by simp [lup])) rfl (Ty.len (tyI .i64) x360) fills_nil) fun s361 => ?_)
        obtain ⟨y362, hy362, h⟩ := bdE h
        refine sq rfl (so_callx pf249 rfl rfl rfl rfl (fun σ hs => F249_c hy362 σ.w σ.O hs.olt s361 (cw0 (rd_o at0) hs)) (fun _ => (.cons .nil)) (fun _ => .nil) (fun r363 => ?_))
        obtain ⟨l364, hl364, h⟩ := letX h
        obtain ⟨g365, h⟩ := gdE h
        refine sq rfl (so_appX (C := (tyI .u8)) hl364 si97 rfl rfl rfl rfl de2 (rd_o at0) rfl g365 fun s366 => ?_)
        refine sqv rfl (yv_move rfl rfl) ?_
        obtain ⟨l367, hl367, h⟩ := letX h
        obtain ⟨g368, h⟩ := gdE h
        refine sq rfl (so_appX (C := (tyI .u8)) hl367 si97 rfl rfl rfl rfl de0 (rd_f at0) rfl g368 fun s369 => ?_)
        refine sqv rfl (yv_assign rfl rfl) ?_
        refine jl_nil ?_
        refine jx_blk ?_
        refine jx_then ?_
        refine jc_reg ?_
        obtain ⟨x370, hx370, h⟩ := letX h
        refine sqv rfl (yxi hx370 (yv_add rfl rfl rfl)) ?_
        refine sqv rfl (yv_move rfl rfl) ?_
        refine jl_nil ?_
        refine jx_again ?_
        exact nj_weak (ih1 l367 x370 s369 h) ⟨rfl, rfl, rfl, rfl, rfl, trivial⟩ (.cons de0 .nil) (.cons at3 .nil)
     exact nj_weak (key1 FUEL l244 0 s246 h) ⟨rfl, rfl, rfl, rfl, rfl, trivial⟩ (.cons de0 .nil) (.cons at2 .nil)
    ·
     replace h := brT h
     refine jc_t rfl ?_
     refine jc_skip ?_
     refine jx_then ?_
     refine jc_seq ?_
     refine jc_block ?_
     refine jc_seq ?_
     refine jc_reg ?_
     obtain ⟨g221, h⟩ := gdE h
     refine nj_open (rd_f at0) g221 fun b222 o223 ha_b222 => ?_
     refine sqv rfl (yv_is is32 rfl rfl rfl ha_b222 (rd_f at0) g221) ?_
     obtain ⟨x224, hx224, h⟩ := letX h
     refine sqv rfl (yxg (C := tySVote) hx224 (yv_lds ti182 rfl rfl ha_b222 (rd_f at0) (many_sub' tySVote p0.Votes j202 g221) rfl (Ty.len _ _) (by simp))) ?_
     refine sq rfl (so_alloc ti182 (by decide) rfl rfl fun b225 => ?_)
     refine sq rfl (so_sta ti182 rfl rfl rfl rfl (Upd.refl (by simp [Ty.len])) (Ty.len _ _) (Ty.one _ _) (xs' := tySVote.enc x224) se0 ?_)
     refine jl_nil ?_
     refine jx_then ?_
     refine jc_reg ?_
     refine sqv rfl (yv_move rfl rfl) ?_
     refine sqv rfl (yv_fa fa182_0 rfl rfl) ?_
     obtain ⟨x226, hx226, h⟩ := letX h
     refine sqv rfl (yxi hx226 (yv_ldb ti3 rfl rfl (rd_bl at0) ((Sub.refl _).trans (SVote.s0 x224)) (Ty.len _ _) (fun _ => rfl))) ?_
     refine sqv rfl (yv_fa fa182_1 rfl rfl) ?_
     refine sqv rfl (yv_fa fa36_0 rfl rfl) ?_
     obtain ⟨x227, hx227, h⟩ := letX h
     refine sqv rfl (yxi hx227 (yv_ldb ti3 rfl rfl (rd_bl at0) (((Sub.refl _).trans (SVote.s1 x224)).trans (SSig.s0 x224.Sig)) (Ty.len _ _) (fun _ => rfl))) ?_
     refine sqv rfl (yv_fa fa182_1 rfl rfl) ?_
     refine sqv rfl (yv_fa fa36_1 rfl rfl) ?_
     obtain ⟨x228, hx228, h⟩ := letX h
     refine sqv rfl (yxi hx228 (yv_ldb ti3 rfl rfl (rd_bl at0) (((Sub.refl _).trans (SVote.s1 x224)).trans (SSig.s1 x224.Sig)) (Ty.len _ _) (fun _ => rfl))) ?_
     refine sq rfl (so_bslL (C := (tyI .i64)) (l := ([x226, x227, x228] : (List Int))) si258 sz258 rfl rfl rfl rfl (by decide) (by decide) (fills_cons rfl (many_upd' (tyI .i64) _ (0 : Int) x226 (by simp [lup])) rfl (Ty.len (tyI .i64) x226) (fills_cons rfl (many_upd' (tyI .i64) _ (1 : Int) x227 (by simp [lup])) rfl (Ty.len (tyI .i64) x227) (fills_cons rfl (many_upd' (tyI .i64) _ (2 : Int) x228 (by simp [lup])) rfl (Ty.len (tyI .i64) x228) fills_nil))) fun s229 => ?_)
     obtain ⟨y230, hy230, h⟩ := bdE h
     refine sq rfl (so_callx pf249 rfl rfl rfl rfl (fun σ hs => F249_c hy230 σ.w σ.O hs.olt s229 (cw0 (rd_o at0) hs)) (fun _ => (.cons .nil)) (fun _ => .nil) (fun r231 => ?_))
     obtain ⟨l232, hl232, h⟩ := letX h
     obtain ⟨g233, h⟩ := gdE h
     refine sq rfl (so_appX (C := (tyI .u8)) hl232 si97 rfl rfl rfl rfl de4 (rd_o at0) rfl g233 fun s234 => ?_)
     refine sqv rfl (yv_assign rfl rfl) ?_
     refine jl_nil ?_
     refine jx_blk ?_
     refine jx_then ?_
     refine jc_reg ?_
     obtain ⟨x235, hx235, h⟩ := letX h
     refine sqv rfl (yxi hx235 (yv_add rfl rfl rfl)) ?_
     refine sqv rfl (yv_move rfl rfl) ?_
     refine jl_nil ?_
     refine jx_again ?_
     exact nj_weak (ih0 l232 x235 s234 h) ⟨rfl, rfl, rfl, rfl, rfl, rfl, trivial⟩ (.cons de4 (.cons de0 .nil)) (.cons at0 (.cons at1 (.cons at2 .nil)))
  exact nj_weak (key0 FUEL y1_20 0 r1_20 h) ⟨rfl, rfl, rfl, rfl, rfl, rfl, trivial⟩ (.cons de7 (.cons de0 .nil)) (.cons at1 (.cons at0 (.cons at2 .nil)))
 have hs1_23_9 : ∀ (s1_19 : Sl) (r1_10 : Sl) (r1_13 : Sl) (r1_18 : Sl) (s1_17 : Sl) (s1_9 : Sl), J1_23 [([], .blk b1 38 (tyVCommit.enc (⟨p0.Epoch, p0.From, v0_2, v0_3, p0.Seal, p0.Path, v0_6, p0.Tag, p0.Sig⟩ : VCommit)))] [fa false (mRow tySVote) v0_3 p0.Votes, fa false (mRow tySOp) v0_2 p0.Ops] 2 #[true, true, true, true, true, true, true, true, true, true, true, true, true, true, true, true, true, true, false, false] [(1, pt b1 0), (2, sv (⟨none, 0, 0⟩ : Sl)), (25, sv s1_19)] [.sli s1_19 97 tySl.size (([r1_10, r1_13, r1_18] : List Sl)).length (tySl.many ([r1_10, r1_13, r1_18] : List Sl)), .sli r1_18 5 (tyI .u8).size (y1_18).length ((tyI .u8).many y1_18), .sli s1_17 3 (tyI .i64).size (([x1_16] : (List Int))).length ((tyI .i64).many ([x1_16] : (List Int))), .sli r1_13 5 (tyI .u8).size (y1_13).length ((tyI .u8).many y1_13), .sli r1_10 5 (tyI .u8).size (y1_10).length ((tyI .u8).many y1_10), .sli s1_9 3 (tyI .i64).size (([x1_3, x1_5, x1_8] : (List Int))).length ((tyI .i64).many ([x1_3, x1_5, x1_8] : (List Int))), .blk b1 38 (tyVCommit.enc (⟨p0.Epoch, p0.From, v0_2, v0_3, p0.Seal, p0.Path, v0_6, p0.Tag, p0.Sig⟩ : VCommit))] [fa false (mRow tySOp) v0_2 p0.Ops, fa false (mRow tySVote) v0_3 p0.Votes, fa false (mSl tySl (mRow (tyI .u8))) v0_6 p0.Boxes] := by
  intro s1_19 r1_10 r1_13 r1_18 s1_17 s1_9
  refine hJ1_23_1 _ _ _ _ _ _ _ ?_
  refine jg_ready (rs := [18]) (by kernel_rfl) (by simp) (.cons ?_ .nil)
  ·
   refine gst rfl rfl (so_callx pf247 rfl rfl rfl rfl (fun σ hs => F247_c hy1_20 σ.w σ.O hs.olt s1_19 (cw0 (rq_sl (rd_o at0) (rq_alc (rd_o at4) (rq_alc (rd_o at3) (rq_alc (rd_o at1) rq_al0)))) hs)) (fun _ => (.cons .nil)) (fun _ => .nil) (fun r1_20 => ?_))
   refine ng (.cons at7 .nil) (.cons at1 (.cons at0 .nil)) ?_
   refine jg_ls (listed' := #[true, true, true, true, true, true, true, true, true, true, true, true, true, true, true, true, true, true, true, false]) (by kernel_rfl) ?_
   exact nj_weak (hJ1_23_2 _ _ _ _ _ _ _ (hs1_23_10 r1_20 s1_19 r1_10 r1_13 r1_18 s1_17 s1_9)) ⟨rfl, rfl, rfl, trivial⟩ (.cons de0 (.cons de0 (.cons de0 (.cons de0 (.cons de0 (.cons de0 (.cons de0 (.cons de0 .nil)))))))) (.cons at0 (.cons at1 (.cons at2 .nil)))
 have hs1_23_8 : ∀ (r1_10 : Sl) (r1_13 : Sl) (r1_18 : Sl) (s1_17 : Sl) (s1_9 : Sl), J1_23 [([], .blk b1 38 (tyVCommit.enc (⟨p0.Epoch, p0.From, v0_2, v0_3, p0.Seal, p0.Path, v0_6, p0.Tag, p0.Sig⟩ : VCommit)))] [fa false (mRow tySVote) v0_3 p0.Votes, fa false (mRow tySOp) v0_2 p0.Ops] 3 #[true, true, true, true, true, true, true, true, true, true, true, true, true, true, true, true, true, false, false, false] [(1, pt b1 0), (2, sv (⟨none, 0, 0⟩ : Sl)), (16, sv r1_10), (19, sv r1_13), (24, sv r1_18)] [.sli r1_18 5 (tyI .u8).size (y1_18).length ((tyI .u8).many y1_18), .sli s1_17 3 (tyI .i64).size (([x1_16] : (List Int))).length ((tyI .i64).many ([x1_16] : (List Int))), .sli r1_13 5 (tyI .u8).size (y1_13).length ((tyI .u8).many y1_13), .sli r1_10 5 (tyI .u8).size (y1_10).length ((tyI .u8).many y1_10), .sli s1_9 3 (tyI .i64).size (([x1_3, x1_5, x1_8] : (List Int))).length ((tyI .i64).many ([x1_3, x1_5, x1_8] : (List Int))), .blk b1 38 (tyVCommit.enc (⟨p0.Epoch, p0.From, v0_2, v0_3, p0.Seal, p0.Path, v0_6, p0.Tag, p0.Sig⟩ : VCommit))] [fa false (mRow tySOp) v0_2 p0.Ops, fa false (mRow tySVote) v0_3 p0.Votes, fa false (mSl tySl (mRow (tyI .u8))) v0_6 p0.Boxes] := by
  intro r1_10 r1_13 r1_18 s1_17 s1_9
  refine hJ1_23_1 _ _ _ _ _ _ _ ?_
  refine jg_ready (rs := [17]) (by kernel_rfl) (by simp) (.cons ?_ .nil)
  ·
   refine gst rfl rfl (so_bslL (C := tySl) (l := ([r1_10, r1_13, r1_18] : List Sl)) si34 sz34 rfl rfl rfl rfl (by decide) (by decide) (fills_cons rfl (many_upd' tySl _ (0 : Int) r1_10 (by simp [lup])) rfl (Ty.len tySl r1_10) (fills_cons rfl (many_upd' tySl _ (1 : Int) r1_13 (by simp [lup])) rfl (Ty.len tySl r1_13) (fills_cons rfl (many_upd' tySl _ (2 : Int) r1_18 (by simp [lup])) rfl (Ty.len tySl r1_18) fills_nil))) fun s1_19 => ?_)
   refine ng (.cons at6 .nil) (.cons at1 (.cons at0 .nil)) ?_
   refine jg_ls (listed' := #[true, true, true, true, true, true, true, true, true, true, true, true, true, true, true, true, true, true, false, false]) (by kernel_rfl) ?_
   exact nj_weak (hJ1_23_2 _ _ _ _ _ _ _ (hs1_23_9 s1_19 r1_10 r1_13 r1_18 s1_17 s1_9)) ⟨rfl, rfl, rfl, trivial⟩ (.cons de0 (.cons de0 (.cons de0 (.cons de0 (.cons de0 (.cons de0 (.cons de0 .nil))))))) (.cons at0 (.cons at1 (.cons at2 .nil)))
 have hs1_23_7 : ∀ (r1_10 : Sl) (r1_13 : Sl) (s1_17 : Sl) (s1_9 : Sl), J1_23 [([], .blk b1 38 (tyVCommit.enc (⟨p0.Epoch, p0.From, v0_2, v0_3, p0.Seal, p0.Path, v0_6, p0.Tag, p0.Sig⟩ : VCommit)))] [fa false (mRow tySVote) v0_3 p0.Votes, fa false (mRow tySOp) v0_2 p0.Ops] 4 #[true, true, true, true, true, true, true, true, true, true, true, true, true, true, true, true, false, false, false, false] [(1, pt b1 0), (2, sv (⟨none, 0, 0⟩ : Sl)), (16, sv r1_10), (19, sv r1_13), (23, sv s1_17)] [.sli s1_17 3 (tyI .i64).size (([x1_16] : (List Int))).length ((tyI .i64).many ([x1_16] : (List Int))), .sli r1_13 5 (tyI .u8).size (y1_13).length ((tyI .u8).many y1_13), .sli r1_10 5 (tyI .u8).size (y1_10).length ((tyI .u8).many y1_10), .sli s1_9 3 (tyI .i64).size (([x1_3, x1_5, x1_8] : (List Int))).length ((tyI .i64).many ([x1_3, x1_5, x1_8] : (List Int))), .blk b1 38 (tyVCommit.enc (⟨p0.Epoch, p0.From, v0_2, v0_3, p0.Seal, p0.Path, v0_6, p0.Tag, p0.Sig⟩ : VCommit))] [fa false (mRow tySOp) v0_2 p0.Ops, fa false (mRow tySVote) v0_3 p0.Votes, fa false (mSl tySl (mRow (tyI .u8))) v0_6 p0.Boxes] := by
  intro r1_10 r1_13 s1_17 s1_9
  refine hJ1_23_1 _ _ _ _ _ _ _ ?_
  refine jg_ready (rs := [16]) (by kernel_rfl) (by simp) (.cons ?_ .nil)
  ·
   refine gst rfl rfl (so_callx pf249 rfl rfl rfl rfl (fun σ hs => F249_c hy1_18 σ.w σ.O hs.olt s1_17 (cw0 (rd_o at0) hs)) (fun _ => (.cons .nil)) (fun _ => .nil) (fun r1_18 => ?_))
   refine ng (.cons at5 .nil) (.cons at1 (.cons at0 .nil)) ?_
   refine jg_ls (listed' := #[true, true, true, true, true, true, true, true, true, true, true, true, true, true, true, true, true, false, false, false]) (by kernel_rfl) ?_
   exact nj_weak (hJ1_23_2 _ _ _ _ _ _ _ (hs1_23_8 r1_10 r1_13 r1_18 s1_17 s1_9)) ⟨rfl, rfl, rfl, rfl, rfl, trivial⟩ (.cons de0 (.cons de0 (.cons de0 (.cons de0 (.cons de0 (.cons de0 .nil)))))) (.cons at0 (.cons at1 (.cons at2 .nil)))
 have hs1_23_6 : ∀ (r1_10 : Sl) (s1_17 : Sl) (s1_9 : Sl), J1_23 [([], .blk b1 38 (tyVCommit.enc (⟨p0.Epoch, p0.From, v0_2, v0_3, p0.Seal, p0.Path, v0_6, p0.Tag, p0.Sig⟩ : VCommit)))] [fa false (mRow tySVote) v0_3 p0.Votes, fa false (mRow tySOp) v0_2 p0.Ops] 5 #[true, true, true, true, true, true, true, true, true, true, true, false, true, true, true, true, false, false, false, false] [(1, pt b1 0), (2, sv (⟨none, 0, 0⟩ : Sl)), (16, sv r1_10), (18, sv v0_2), (23, sv s1_17)] [.sli s1_17 3 (tyI .i64).size (([x1_16] : (List Int))).length ((tyI .i64).many ([x1_16] : (List Int))), .sli r1_10 5 (tyI .u8).size (y1_10).length ((tyI .u8).many y1_10), .sli s1_9 3 (tyI .i64).size (([x1_3, x1_5, x1_8] : (List Int))).length ((tyI .i64).many ([x1_3, x1_5, x1_8] : (List Int))), .blk b1 38 (tyVCommit.enc (⟨p0.Epoch, p0.From, v0_2, v0_3, p0.Seal, p0.Path, v0_6, p0.Tag, p0.Sig⟩ : VCommit))] [fa false (mRow tySOp) v0_2 p0.Ops, fa false (mRow tySVote) v0_3 p0.Votes, fa false (mSl tySl (mRow (tyI .u8))) v0_6 p0.Boxes] := by
  intro r1_10 s1_17 s1_9
  refine hJ1_23_1 _ _ _ _ _ _ _ ?_
  refine jg_ready (rs := [11]) (by kernel_rfl) (by simp) (.cons ?_ .nil)
  ·
   refine gst rfl rfl (so_callx pf237 rfl rfl rfl rfl (fun σ hs => F237_c hy1_13 σ.w σ.O hs.olt v0_2 (cw0 (rd_f at0) hs)) (fun _ => (.cons .nil)) (fun _ => .nil) (fun r1_13 => ?_))
   refine ng (.cons at4 .nil) (.cons at1 (.cons at0 .nil)) ?_
   refine jg_ls (listed' := #[true, true, true, true, true, true, true, true, true, true, true, true, true, true, true, true, false, false, false, false]) (by kernel_rfl) ?_
   exact nj_weak (hJ1_23_2 _ _ _ _ _ _ _ (hs1_23_7 r1_10 r1_13 s1_17 s1_9)) ⟨rfl, rfl, rfl, rfl, rfl, trivial⟩ (.cons de1 (.cons de0 (.cons de0 (.cons de0 (.cons de0 .nil))))) (.cons at0 (.cons at1 (.cons at2 .nil)))
 have hs1_23_5 : ∀ (r1_10 : Sl) (r1_13 : Sl) (s1_9 : Sl), J1_23 [([], .blk b1 38 (tyVCommit.enc (⟨p0.Epoch, p0.From, v0_2, v0_3, p0.Seal, p0.Path, v0_6, p0.Tag, p0.Sig⟩ : VCommit)))] [fa false (mRow tySVote) v0_3 p0.Votes, fa false (mRow tySOp) v0_2 p0.Ops] 5 #[true, true, true, true, true, true, true, true, true, true, true, true, true, true, true, false, false, false, false, false] [(1, pt b1 0), (2, sv (⟨none, 0, 0⟩ : Sl)), (16, sv r1_10), (19, sv r1_13), (22, .int .i64 x1_16)] [.sli r1_13 5 (tyI .u8).size (y1_13).length ((tyI .u8).many y1_13), .sli r1_10 5 (tyI .u8).size (y1_10).length ((tyI .u8).many y1_10), .sli s1_9 3 (tyI .i64).size (([x1_3, x1_5, x1_8] : (List Int))).length ((tyI .i64).many ([x1_3, x1_5, x1_8] : (List Int))), .blk b1 38 (tyVCommit.enc (⟨p0.Epoch, p0.From, v0_2, v0_3, p0.Seal, p0.Path, v0_6, p0.Tag, p0.Sig⟩ : VCommit))] [fa false (mRow tySOp) v0_2 p0.Ops, fa false (mRow tySVote) v0_3 p0.Votes, fa false (mSl tySl (mRow (tyI .u8))) v0_6 p0.Boxes] := by
  intro r1_10 r1_13 s1_9
  refine hJ1_23_1 _ _ _ _ _ _ _ ?_
  refine jg_ready (rs := [15]) (by kernel_rfl) (by simp) (.cons ?_ .nil)
  ·
   refine gst rfl rfl (so_bslL (C := (tyI .i64)) (l := ([x1_16] : (List Int))) si258 sz258 rfl rfl rfl rfl (by decide) (by decide) (fills_cons rfl (many_upd' (tyI .i64) _ (0 : Int) x1_16 (by simp [lup])) rfl (Ty.len (tyI .i64) x1_16) fills_nil) fun s1_17 => ?_)
   refine ng (.cons at4 .nil) (.cons at1 (.cons at0 .nil)) ?_
   refine jg_ls (listed' := #[true, true, true, true, true, true, true, true, true, true, true, true, true, true, true, true, false, false, false, false]) (by kernel_rfl) ?_
   exact nj_weak (hJ1_23_2 _ _ _ _ _ _ _ (hs1_23_7 r1_10 r1_13 s1_17 s1_9)) ⟨rfl, rfl, rfl, rfl, rfl, trivial⟩ (.cons de0 (.cons de0 (.cons de0 (.cons de0 (.cons de0 .nil))))) (.cons at0 (.cons at1 (.cons at2 .nil)))
 have hs1_23_4 : ∀ (s1_9 : Sl) (s1_17 : Sl), J1_23 [([], .blk b1 38 (tyVCommit.enc (⟨p0.Epoch, p0.From, v0_2, v0_3, p0.Seal, p0.Path, v0_6, p0.Tag, p0.Sig⟩ : VCommit)))] [fa false (mRow tySVote) v0_3 p0.Votes, fa false (mRow tySOp) v0_2 p0.Ops] 6 #[true, true, true, true, true, true, true, true, false, true, true, false, true, true, true, true, false, false, false, false] [(1, pt b1 0), (2, sv (⟨none, 0, 0⟩ : Sl)), (15, sv s1_9), (18, sv v0_2), (23, sv s1_17)] [.sli s1_17 3 (tyI .i64).size (([x1_16] : (List Int))).length ((tyI .i64).many ([x1_16] : (List Int))), .sli s1_9 3 (tyI .i64).size (([x1_3, x1_5, x1_8] : (List Int))).length ((tyI .i64).many ([x1_3, x1_5, x1_8] : (List Int))), .blk b1 38 (tyVCommit.enc (⟨p0.Epoch, p0.From, v0_2, v0_3, p0.Seal, p0.Path, v0_6, p0.Tag, p0.Sig⟩ : VCommit))] [fa false (mRow tySOp) v0_2 p0.Ops, fa false (mRow tySVote) v0_3 p0.Votes, fa false (mSl tySl (mRow (tyI .u8))) v0_6 p0.Boxes] := by
  intro s1_9 s1_17
  refine hJ1_23_1 _ _ _ _ _ _ _ ?_
  refine jg_ready (rs := [8]) (by kernel_rfl) (by simp) (.cons ?_ .nil)
  ·
   refine gst rfl rfl (so_callx pf249 rfl rfl rfl rfl (fun σ hs => F249_c hy1_10 σ.w σ.O hs.olt s1_9 (cw0 (rd_o at1) hs)) (fun _ => (.cons .nil)) (fun _ => .nil) (fun r1_10 => ?_))
   refine ng (.cons at3 .nil) (.cons at1 (.cons at0 .nil)) ?_
   refine jg_ls (listed' := #[true, true, true, true, true, true, true, true, true, true, true, false, true, true, true, true, false, false, false, false]) (by kernel_rfl) ?_
   exact nj_weak (hJ1_23_2 _ _ _ _ _ _ _ (hs1_23_6 r1_10 s1_17 s1_9)) ⟨rfl, rfl, rfl, rfl, rfl, trivial⟩ (.cons de1 (.cons de0 (.cons de0 (.cons de0 .nil)))) (.cons at0 (.cons at1 (.cons at2 .nil)))
 have hs1_23_3 : ∀ (r1_10 : Sl) (s1_9 : Sl), J1_23 [([], .blk b1 38 (tyVCommit.enc (⟨p0.Epoch, p0.From, v0_2, v0_3, p0.Seal, p0.Path, v0_6, p0.Tag, p0.Sig⟩ : VCommit)))] [fa false (mRow tySVote) v0_3 p0.Votes, fa false (mRow tySOp) v0_2 p0.Ops] 6 #[true, true, true, true, true, true, true, true, true, true, true, false, true, true, true, false, false, false, false, false] [(1, pt b1 0), (2, sv (⟨none, 0, 0⟩ : Sl)), (16, sv r1_10), (18, sv v0_2), (22, .int .i64 x1_16)] [.sli r1_10 5 (tyI .u8).size (y1_10).length ((tyI .u8).many y1_10), .sli s1_9 3 (tyI .i64).size (([x1_3, x1_5, x1_8] : (List Int))).length ((tyI .i64).many ([x1_3, x1_5, x1_8] : (List Int))), .blk b1 38 (tyVCommit.enc (⟨p0.Epoch, p0.From, v0_2, v0_3, p0.Seal, p0.Path, v0_6, p0.Tag, p0.Sig⟩ : VCommit))] [fa false (mRow tySOp) v0_2 p0.Ops, fa false (mRow tySVote) v0_3 p0.Votes, fa false (mSl tySl (mRow (tyI .u8))) v0_6 p0.Boxes] := by
  intro r1_10 s1_9
  refine hJ1_23_1 _ _ _ _ _ _ _ ?_
  refine jg_ready (rs := [11, 15]) (by kernel_rfl) (by simp) (.cons ?_ (.cons ?_ .nil))
  ·
   refine gst rfl rfl (so_callx pf237 rfl rfl rfl rfl (fun σ hs => F237_c hy1_13 σ.w σ.O hs.olt v0_2 (cw0 (rd_f at0) hs)) (fun _ => (.cons .nil)) (fun _ => .nil) (fun r1_13 => ?_))
   refine ng (.cons at3 .nil) (.cons at1 (.cons at0 .nil)) ?_
   refine jg_ls (listed' := #[true, true, true, true, true, true, true, true, true, true, true, true, true, true, true, false, false, false, false, false]) (by kernel_rfl) ?_
   exact nj_weak (hJ1_23_2 _ _ _ _ _ _ _ (hs1_23_5 r1_10 r1_13 s1_9)) ⟨rfl, rfl, rfl, rfl, rfl, trivial⟩ (.cons de0 (.cons de0 (.cons de0 (.cons de0 .nil)))) (.cons at0 (.cons at1 (.cons at2 .nil)))
  ·
   refine gst rfl rfl (so_bslL (C := (tyI .i64)) (l := ([x1_16] : (List Int))) si258 sz258 rfl rfl rfl rfl (by decide) (by decide) (fills_cons rfl (many_upd' (tyI .i64) _ (0 : Int) x1_16 (by simp [lup])) rfl (Ty.len (tyI .i64) x1_16) fills_nil) fun s1_17 => ?_)
   refine ng (.cons at3 .nil) (.cons at1 (.cons at0 .nil)) ?_
   refine jg_ls (listed' := #[true, true, true, true, true, true, true, true, true, true, true, false, true, true, true, true, false, false, false, false]) (by kernel_rfl) ?_
   exact nj_weak (hJ1_23_2 _ _ _ _ _ _ _ (hs1_23_6 r1_10 s1_17 s1_9)) ⟨rfl, rfl, rfl, rfl, rfl, trivial⟩ (.cons de0 (.cons de0 (.cons de0 (.cons de0 .nil)))) (.cons at0 (.cons at1 (.cons at2 .nil)))
 have hs1_23_2 : ∀ (s1_17 : Sl), J1_23 [([], .blk b1 38 (tyVCommit.enc (⟨p0.Epoch, p0.From, v0_2, v0_3, p0.Seal, p0.Path, v0_6, p0.Tag, p0.Sig⟩ : VCommit)))] [fa false (mRow tySVote) v0_3 p0.Votes, fa false (mRow tySOp) v0_2 p0.Ops] 7 #[true, true, true, true, true, true, true, false, false, true, true, false, true, true, true, true, false, false, false, false] [(1, pt b1 0), (2, sv (⟨none, 0, 0⟩ : Sl)), (9, .int .i64 x1_3), (11, .int .i64 x1_5), (14, .int .i64 x1_8), (18, sv v0_2), (23, sv s1_17)] [.sli s1_17 3 (tyI .i64).size (([x1_16] : (List Int))).length ((tyI .i64).many ([x1_16] : (List Int))), .blk b1 38 (tyVCommit.enc (⟨p0.Epoch, p0.From, v0_2, v0_3, p0.Seal, p0.Path, v0_6, p0.Tag, p0.Sig⟩ : VCommit))] [fa false (mRow tySOp) v0_2 p0.Ops, fa false (mRow tySVote) v0_3 p0.Votes, fa false (mSl tySl (mRow (tyI .u8))) v0_6 p0.Boxes] := by
  intro s1_17
  refine hJ1_23_1 _ _ _ _ _ _ _ ?_
  refine jg_ready (rs := [7]) (by kernel_rfl) (by simp) (.cons ?_ .nil)
  ·
   refine gst rfl rfl (so_bslL (C := (tyI .i64)) (l := ([x1_3, x1_5, x1_8] : (List Int))) si258 sz258 rfl rfl rfl rfl (by decide) (by decide) (fills_cons rfl (many_upd' (tyI .i64) _ (0 : Int) x1_3 (by simp [lup])) rfl (Ty.len (tyI .i64) x1_3) (fills_cons rfl (many_upd' (tyI .i64) _ (1 : Int) x1_5 (by simp [lup])) rfl (Ty.len (tyI .i64) x1_5) (fills_cons rfl (many_upd' (tyI .i64) _ (2 : Int) x1_8 (by simp [lup])) rfl (Ty.len (tyI .i64) x1_8) fills_nil))) fun s1_9 => ?_)
   refine ng (.cons at2 .nil) (.cons at1 (.cons at0 .nil)) ?_
   refine jg_ls (listed' := #[true, true, true, true, true, true, true, true, false, true, true, false, true, true, true, true, false, false, false, false]) (by kernel_rfl) ?_
   exact nj_weak (hJ1_23_2 _ _ _ _ _ _ _ (hs1_23_4 s1_9 s1_17)) ⟨rfl, rfl, rfl, rfl, rfl, trivial⟩ (.cons de1 (.cons de0 (.cons de0 .nil))) (.cons at0 (.cons at1 (.cons at2 .nil)))
 have hs1_23_1 : ∀ (s1_9 : Sl), J1_23 [([], .blk b1 38 (tyVCommit.enc (⟨p0.Epoch, p0.From, v0_2, v0_3, p0.Seal, p0.Path, v0_6, p0.Tag, p0.Sig⟩ : VCommit)))] [fa false (mRow tySVote) v0_3 p0.Votes, fa false (mRow tySOp) v0_2 p0.Ops] 7 #[true, true, true, true, true, true, true, true, false, true, true, false, true, true, true, false, false, false, false, false] [(1, pt b1 0), (2, sv (⟨none, 0, 0⟩ : Sl)), (15, sv s1_9), (18, sv v0_2), (22, .int .i64 x1_16)] [.sli s1_9 3 (tyI .i64).size (([x1_3, x1_5, x1_8] : (List Int))).length ((tyI .i64).many ([x1_3, x1_5, x1_8] : (List Int))), .blk b1 38 (tyVCommit.enc (⟨p0.Epoch, p0.From, v0_2, v0_3, p0.Seal, p0.Path, v0_6, p0.Tag, p0.Sig⟩ : VCommit))] [fa false (mRow tySOp) v0_2 p0.Ops, fa false (mRow tySVote) v0_3 p0.Votes, fa false (mSl tySl (mRow (tyI .u8))) v0_6 p0.Boxes] := by
  intro s1_9
  refine hJ1_23_1 _ _ _ _ _ _ _ ?_
  refine jg_ready (rs := [8, 15]) (by kernel_rfl) (by simp) (.cons ?_ (.cons ?_ .nil))
  ·
   refine gst rfl rfl (so_callx pf249 rfl rfl rfl rfl (fun σ hs => F249_c hy1_10 σ.w σ.O hs.olt s1_9 (cw0 (rd_o at0) hs)) (fun _ => (.cons .nil)) (fun _ => .nil) (fun r1_10 => ?_))
   refine ng (.cons at2 .nil) (.cons at1 (.cons at0 .nil)) ?_
   refine jg_ls (listed' := #[true, true, true, true, true, true, true, true, true, true, true, false, true, true, true, false, false, false, false, false]) (by kernel_rfl) ?_
   exact nj_weak (hJ1_23_2 _ _ _ _ _ _ _ (hs1_23_3 r1_10 s1_9)) ⟨rfl, rfl, rfl, rfl, rfl, trivial⟩ (.cons de0 (.cons de0 (.cons de0 .nil))) (.cons at0 (.cons at1 (.cons at2 .nil)))
  ·
   refine gst rfl rfl (so_bslL (C := (tyI .i64)) (l := ([x1_16] : (List Int))) si258 sz258 rfl rfl rfl rfl (by decide) (by decide) (fills_cons rfl (many_upd' (tyI .i64) _ (0 : Int) x1_16 (by simp [lup])) rfl (Ty.len (tyI .i64) x1_16) fills_nil) fun s1_17 => ?_)
   refine ng (.cons at2 .nil) (.cons at1 (.cons at0 .nil)) ?_
   refine jg_ls (listed' := #[true, true, true, true, true, true, true, true, false, true, true, false, true, true, true, true, false, false, false, false]) (by kernel_rfl) ?_
   exact nj_weak (hJ1_23_2 _ _ _ _ _ _ _ (hs1_23_4 s1_9 s1_17)) ⟨rfl, rfl, rfl, rfl, rfl, trivial⟩ (.cons de0 (.cons de0 (.cons de0 .nil))) (.cons at0 (.cons at1 (.cons at2 .nil)))
 refine hJ1_23_1 _ _ _ _ _ _ _ ?_
 refine jg_ready (rs := [7, 15]) (by kernel_rfl) (by simp) (.cons ?_ (.cons ?_ .nil))
 ·
  refine gst rfl rfl (so_bslL (C := (tyI .i64)) (l := ([x1_3, x1_5, x1_8] : (List Int))) si258 sz258 rfl rfl rfl rfl (by decide) (by decide) (fills_cons rfl (many_upd' (tyI .i64) _ (0 : Int) x1_3 (by simp [lup])) rfl (Ty.len (tyI .i64) x1_3) (fills_cons rfl (many_upd' (tyI .i64) _ (1 : Int) x1_5 (by simp [lup])) rfl (Ty.len (tyI .i64) x1_5) (fills_cons rfl (many_upd' (tyI .i64) _ (2 : Int) x1_8 (by simp [lup])) rfl (Ty.len (tyI .i64) x1_8) fills_nil))) fun s1_9 => ?_)
  refine ng (.cons at1 .nil) (.cons at1 (.cons at0 .nil)) ?_
  refine jg_ls (listed' := #[true, true, true, true, true, true, true, true, false, true, true, false, true, true, true, false, false, false, false, false]) (by kernel_rfl) ?_
  exact nj_weak (hJ1_23_2 _ _ _ _ _ _ _ (hs1_23_1 s1_9)) ⟨rfl, rfl, rfl, rfl, rfl, trivial⟩ (.cons de0 (.cons de0 .nil)) (.cons at0 (.cons at1 (.cons at2 .nil)))
 ·
  refine gst rfl rfl (so_bslL (C := (tyI .i64)) (l := ([x1_16] : (List Int))) si258 sz258 rfl rfl rfl rfl (by decide) (by decide) (fills_cons rfl (many_upd' (tyI .i64) _ (0 : Int) x1_16 (by simp [lup])) rfl (Ty.len (tyI .i64) x1_16) fills_nil) fun s1_17 => ?_)
  refine ng (.cons at1 .nil) (.cons at1 (.cons at0 .nil)) ?_
  refine jg_ls (listed' := #[true, true, true, true, true, true, true, false, false, true, true, false, true, true, true, true, false, false, false, false]) (by kernel_rfl) ?_
  exact nj_weak (hJ1_23_2 _ _ _ _ _ _ _ (hs1_23_2 s1_17)) ⟨rfl, rfl, rfl, rfl, rfl, rfl, rfl, trivial⟩ (.cons de0 (.cons de0 .nil)) (.cons at0 (.cons at1 (.cons at2 .nil)))
theorem F92_c {p0 : SView} {p1 : SCommit} {r : (Vector Int 32)} (h : F92 p0 p1 = some r) (w0 : World) (O0 : Nat → Prop) (hO : ∀ k, O0 k → k < w0.heap.size) (v1_2 : Sl) (v1_3 : Sl) (v1_6 : Sl) (k0 : (fa false (mRow tySOp) v1_2 p1.Ops).p ⟨w0, O0, inL []⟩) (k1 : (fa false (mRow tySVote) v1_3 p1.Votes).p ⟨w0, O0, inL []⟩) (k2 : (fa false (mSl tySl (mRow (tyI .u8))) v1_6 p1.Boxes).p ⟨w0, O0, inL []⟩) :
  CallsP Tryz.prog 92 (List.toArray [ag (tySView.enc p0), ag (tyVCommit.enc (⟨p1.Epoch, p1.From, v1_2, v1_3, p1.Seal, p1.Path, v1_6, p1.Tag, p1.Sig⟩ : VCommit))]) w0 O0 [] (RV (ag ((Ty.arr 32 (tyI .u8)).enc r))) := by
 unfold F92 at h
 refine calls_start (e := [(0, ag (tySView.enc p0)), (1, ag (tyVCommit.enc (⟨p1.Epoch, p1.From, v1_2, v1_3, p1.Seal, p1.Path, v1_6, p1.Tag, p1.Sig⟩ : VCommit)))]) (L := []) (K := [fa false (mRow tySOp) v1_2 p1.Ops, fa false (mRow tySVote) v1_3 p1.Votes, fa false (mSl tySl (mRow (tyI .u8))) v1_6 p1.Boxes]) Tryz.func92 rfl rfl rfl ⟨rfl, rfl, trivial⟩ hO (by simp) .nil (alc k0 (alc k1 (alc k2 aln))) ?_
 refine jc_seq ?_
 refine jc_reg ?_
 refine sq rfl (so_boxa (by decide) rfl rfl rfl fun b1 => ?_)
 refine sq rfl (so_boxa (by decide) rfl rfl rfl fun b2 => ?_)
 refine sq rfl (so_alloc ti25 (by decide) rfl rfl fun b3 => ?_)
 refine jl_nil ?_
 refine jx_then ?_
 refine jc_seq ?_
 refine jc_regd (k := 7) hmix rfl [([], .blk b1 64 (tySView.enc p0)), ([], .blk b2 38 (tyVCommit.enc (⟨p1.Epoch, p1.From, v1_2, v1_3, p1.Seal, p1.Path, v1_6, p1.Tag, p1.Sig⟩ : VCommit)))] [] (.cons at2 (.cons at1 .nil)) .nil ?_
 refine tk (i := 0) rfl (by kernel_rfl) rfl (yv_fa fa64_4 rfl rfl) .nil .nil ?_
 obtain ⟨x4, hx4, h⟩ := letX h
 refine tk (i := 1) rfl (by kernel_rfl) rfl (yxg (C := (Ty.arr 32 (tyI .u8))) hx4 (yv_ldb ti25 rfl rfl (rd_bl at0) ((Sub.refl _).trans (SView.s4 p0)) (Ty.len _ _) (by simp))) (.cons at0 (by kernel_rfl) .nil) .nil ?_
 refine tk (i := 2) rfl (by kernel_rfl) rfl (yv_ldb ti38 rfl rfl (rd_bl at0) (Sub.refl _) (Ty.len _ _) (by simp)) (.cons at1 (by kernel_rfl) .nil) .nil ?_
 obtain ⟨y5, hy5, h⟩ := bdE h
 refine jg_one (i := 3) (by kernel_rfl) (gst rfl rfl (so_callx pf170 rfl rfl rfl rfl (fun σ hs => F170_c hy5 σ.w σ.O hs.olt v1_2 v1_3 v1_6 (cw0 (rd_f at0) hs) (cw0 (rd_f at1) hs) (cw0 (rd_f at2) hs)) (fun _ => (.cons .nil)) (fun _ => .nil) (fun r6 => ?_)))
 refine ng (.cons at3 (.cons at2 .nil)) .nil ?_
 refine jg_one (i := 4) (by kernel_rfl) (gst rfl rfl (so_bslL (C := tySl) (l := ([r6] : List Sl)) si34 sz34 rfl rfl rfl rfl (by decide) (by decide) (fills_cons rfl (many_upd' tySl _ (0 : Int) r6 (by simp [lup])) rfl (Ty.len tySl r6) fills_nil) fun s7 => ?_))
 refine ng (.cons at4 (.cons at3 .nil)) .nil ?_
 obtain ⟨y8, hy8, h⟩ := bdE h
 refine jg_one (i := 5) (by kernel_rfl) (gst rfl rfl (so_callv pf83 rfl rfl rfl rfl (fun σ hs => F83_c hy8 σ.w σ.O hs.olt s7 (cw0 (rq_sl (rd_o at0) (rq_alc (rd_o at1) rq_al0)) hs)) ?_))
 refine ng (.cons at4 (.cons at3 .nil)) .nil ?_
 refine jg_one (i := 6) (by kernel_rfl) (gst rfl rfl (so_sta ti25 rfl rfl rfl rfl (Upd.refl (by simp [Ty.len])) (Ty.len _ _) (Ty.one _ _) (xs' := (Ty.arr 32 (tyI .u8)).enc y8) se2 ?_))
 refine ng (.cons at4 (.cons at3 .nil)) .nil ?_
 refine jg_nil (by kernel_rfl) ?_
 refine jx_then ?_
 refine jc_ret ?_
 cases h
 exact jx_ret rfl (rr_cella ti25 rfl at2 (Ty.len _ _) rr_nil) ⟨rfl, rfl, rfl, rfl⟩ .nil .nil rfl (by simp)
theorem F93_c {p0 : (Vector Int 32)} {p1 : (Vector Int 32)} {r : (Vector Int 32)} (h : F93 p0 p1 = some r) (w0 : World) (O0 : Nat → Prop) (hO : ∀ k, O0 k → k < w0.heap.size) :
  CallsP Tryz.prog 93 (List.toArray [ag ((Ty.arr 32 (tyI .u8)).enc p0), ag ((Ty.arr 32 (tyI .u8)).enc p1)]) w0 O0 [] (RV (ag ((Ty.arr 32 (tyI .u8)).enc r))) := by
 unfold F93 at h
 refine calls_start (e := [(0, ag ((Ty.arr 32 (tyI .u8)).enc p0)), (1, ag ((Ty.arr 32 (tyI .u8)).enc p1))]) (L := []) (K := []) Tryz.func93 rfl rfl rfl ⟨rfl, rfl, trivial⟩ hO (by simp) .nil aln ?_
 refine jc_seq ?_
 refine jc_reg ?_
 refine sq rfl (so_boxa (by decide) rfl rfl rfl fun b1 => ?_)
 refine sq rfl (so_boxa (by decide) rfl rfl rfl fun b2 => ?_)
 refine sq rfl (so_alloc ti25 (by decide) rfl rfl fun b3 => ?_)
 refine jl_nil ?_
 refine jx_then ?_
 refine jc_seq ?_
 refine jc_regd (k := 5) hmix rfl [([], .blk b1 25 ((Ty.arr 32 (tyI .u8)).enc p0))] [] (.cons at2 .nil) .nil ?_
 refine tk (i := 0) rfl (by kernel_rfl) rfl (yv_ldb ti25 rfl rfl (rd_bl at0) (Sub.refl _) (Ty.len _ _) (by simp)) (.cons at0 (by kernel_rfl) .nil) .nil ?_
 refine tk (i := 1) rfl (by kernel_rfl) rfl (yv_sla1 ia25 rfl rfl) .nil .nil ?_
 refine jg_one (i := 2) (by kernel_rfl) (gst rfl rfl (so_bslL (C := tySl) (l := ([(⟨some ⟨b2, 0, none⟩, 32, 32⟩ : Sl)] : List Sl)) si34 sz34 rfl rfl rfl rfl (by decide) (by decide) (fills_cons rfl (many_upd' tySl _ (0 : Int) (⟨some ⟨b2, 0, none⟩, 32, 32⟩ : Sl) (by simp [lup])) rfl (Ty.len tySl (⟨some ⟨b2, 0, none⟩, 32, 32⟩ : Sl)) fills_nil) fun s4 => ?_))
 refine ng (.cons at3 .nil) .nil ?_
 obtain ⟨y5, hy5, h⟩ := bdE h
 refine jg_one (i := 3) (by kernel_rfl) (gst rfl rfl (so_callv pf83 rfl rfl rfl rfl (fun σ hs => F83_c hy5 σ.w σ.O hs.olt s4 (cw0 (rq_sl (rd_o at0) (rq_alc (rq_arr (rd_bl at2) (Sub.refl _) (by decide)) rq_al0)) hs)) ?_))
 refine ng (.cons at3 .nil) .nil ?_
 refine jg_one (i := 4) (by kernel_rfl) (gst rfl rfl (so_sta ti25 rfl rfl rfl rfl (Upd.refl (by simp [Ty.len])) (Ty.len _ _) (Ty.one _ _) (xs' := (Ty.arr 32 (tyI .u8)).enc y5) se1 ?_))
 refine ng (.cons at3 .nil) .nil ?_
 refine jg_nil (by kernel_rfl) ?_
 refine jx_then ?_
 refine jc_ret ?_
 cases h
 exact jx_ret rfl (rr_cella ti25 rfl at1 (Ty.len _ _) rr_nil) ⟨rfl, rfl, rfl, rfl⟩ .nil .nil rfl (by simp)
theorem F94_c {p0 : SpartyParty} {p1 : SView} {p2 : (Vector Int 32)} {r : (Vector Int 32) × SpartyParty} (h : F94 p0 p1 p2 = some r) (w0 : World) (O0 : Nat → Prop) (hO : ∀ k, O0 k → k < w0.heap.size) (bp0 : Nat) (v0_2 : (Option Addr)) (k0 : (fa true mKey v0_2 p0.signer).p ⟨w0, O0, inL [.blk bp0 143 (tyVpartyParty.enc (⟨p0.v, p0.leaf, v0_2, p0.own, p0.has', p0.nodes, p0.epoch, p0.init'⟩ : VpartyParty))]⟩) (hio : (Own.blk bp0 143 (tyVpartyParty.enc (⟨p0.v, p0.leaf, v0_2, p0.own, p0.has', p0.nodes, p0.epoch, p0.init'⟩ : VpartyParty))).holds w0 ∧ O0 bp0) :
  CallsP Tryz.prog 94 (List.toArray [pt bp0 0, ag (tySView.enc p1), ag ((Ty.arr 32 (tyI .u8)).enc p2)]) w0 O0 [bp0] (RXM (fun x : (Option Addr) => ag ((Ty.arr 32 (tyI .u8)).enc r.1)) (fun x => []) (fun x => .blk bp0 143 (tyVpartyParty.enc (⟨r.2.v, r.2.leaf, x, r.2.own, r.2.has', r.2.nodes, r.2.epoch, r.2.init'⟩ : VpartyParty))) (fun x => [fa true mKey x r.2.signer])) := by
 unfold F94 at h
 refine calls_start (e := [(0, pt bp0 0), (1, ag (tySView.enc p1)), (2, ag ((Ty.arr 32 (tyI .u8)).enc p2))]) (L := [.blk bp0 143 (tyVpartyParty.enc (⟨p0.v, p0.leaf, v0_2, p0.own, p0.has', p0.nodes, p0.epoch, p0.init'⟩ : VpartyParty))]) (K := [fa true mKey v0_2 p0.signer]) Tryz.func94 rfl rfl rfl ⟨rfl, rfl, rfl, trivial⟩ hO (io_hL hio) (List.pairwise_singleton _ _) (alc k0 aln) ?_
 refine jc_seq ?_
 refine jc_reg ?_
 refine sq rfl (so_boxa (by decide) rfl rfl rfl fun b1 => ?_)
 refine sq rfl (so_boxa (by decide) rfl rfl rfl fun b2 => ?_)
 refine sq rfl (so_alloc ti25 (by decide) rfl rfl fun b3 => ?_)
 refine jl_nil ?_
 refine jx_then ?_
 refine jc_seq ?_
 refine jc_reg ?_
 refine sqv rfl (yv_ldb ti64 rfl rfl (rd_bl at2) (Sub.refl _) (Ty.len _ _) (by simp)) ?_
 obtain ⟨y4, hy4, h⟩ := bdE h
 refine sq rfl (so_callv pf171 rfl rfl rfl rfl (fun σ hs => F171_c hy4 σ.w σ.O hs.olt) ?_)
 refine sq rfl (so_alloc ti25 (by decide) rfl rfl fun b5 => ?_)
 refine sq rfl (so_sta ti25 rfl rfl rfl rfl (Upd.refl (by simp [Ty.len])) (Ty.len _ _) (Ty.one _ _) (xs' := (Ty.arr 32 (tyI .u8)).enc y4) se0 ?_)
 refine jl_nil ?_
 refine jx_then ?_
 refine jc_seq ?_
 refine jc_reg ?_
 refine sqv rfl (yv_move rfl rfl) ?_
 refine sqv rfl (yv_ldb ti64 rfl rfl (rd_bl at3) (Sub.refl _) (Ty.len _ _) (by simp)) ?_
 refine sqv rfl (yv_nil rfl rfl) ?_
 refine sqv rfl (yv_fa fa143_0 rfl rfl) ?_
 refine sq rfl (so_sta ti64 rfl rfl rfl rfl (Upd.comp (Sub.refl _) (VpartyParty.u0 (⟨p0.v, p0.leaf, v0_2, p0.own, p0.has', p0.nodes, p0.epoch, p0.init'⟩ : VpartyParty) p1) (Upd.refl (by simp [Ty.len]))) (Ty.len _ _) (Ty.one _ _) (xs' := tyVpartyParty.enc (⟨p1, p0.leaf, v0_2, p0.own, p0.has', p0.nodes, p0.epoch, p0.init'⟩ : VpartyParty)) se4 ?_)
 refine jl_nil ?_
 refine jx_then ?_
 refine jc_seq ?_
 refine jc_regd (k := 8) hmix rfl [([], .blk b2 25 ((Ty.arr 32 (tyI .u8)).enc p2))] [] (.cons at2 .nil) .nil ?_
 refine tk (i := 0) rfl (by kernel_rfl) rfl (yv_move rfl rfl) .nil .nil ?_
 refine tk (i := 1) rfl (by kernel_rfl) rfl (yv_ldb ti25 rfl rfl (rd_bl at0) (Sub.refl _) (Ty.len _ _) (by simp)) (.cons at0 (by kernel_rfl) .nil) .nil ?_
 refine tk (i := 2) rfl (by kernel_rfl) rfl (yv_sla1 ia25 rfl rfl) .nil .nil ?_
 refine jg_one (i := 3) (by kernel_rfl) (gst rfl rfl (so_bslL (C := tySl) (l := ([(⟨some ⟨b5, 0, none⟩, 32, 32⟩ : Sl)] : List Sl)) si34 sz34 rfl rfl rfl rfl (by decide) (by decide) (fills_cons rfl (many_upd' tySl _ (0 : Int) (⟨some ⟨b5, 0, none⟩, 32, 32⟩ : Sl) (by simp [lup])) rfl (Ty.len tySl (⟨some ⟨b5, 0, none⟩, 32, 32⟩ : Sl)) fills_nil) fun s6 => ?_))
 refine ng (.cons at3 .nil) .nil ?_
 obtain ⟨y7, hy7, h⟩ := bdE h
 refine jg_one (i := 4) (by kernel_rfl) (gst rfl rfl (so_callv pf83 rfl rfl rfl rfl (fun σ hs => F83_c hy7 σ.w σ.O hs.olt s6 (cw0 (rq_sl (rd_o at0) (rq_alc (rq_arr (rd_bl at1) (Sub.refl _) (by decide)) rq_al0)) hs)) ?_))
 refine ng (.cons at3 .nil) .nil ?_
 refine tk (i := 5) rfl (by kernel_rfl) rfl (yv_nil rfl rfl) .nil .nil ?_
 refine tk (i := 6) rfl (by kernel_rfl) rfl (yv_fa fa143_6 rfl rfl) .nil .nil ?_
 refine jg_one (i := 7) (by kernel_rfl) (gst rfl rfl (so_sta ti25 rfl rfl rfl rfl (Upd.comp (Sub.refl _) (VpartyParty.u6 (⟨p1, p0.leaf, v0_2, p0.own, p0.has', p0.nodes, p0.epoch, p0.init'⟩ : VpartyParty) y7) (Upd.refl (by simp [Ty.len]))) (Ty.len _ _) (Ty.one _ _) (xs' := tyVpartyParty.enc (⟨p1, p0.leaf, v0_2, p0.own, p0.has', p0.nodes, y7, p0.init'⟩ : VpartyParty)) se5 ?_))
 refine ng (.cons at3 .nil) .nil ?_
 refine jg_nil (by kernel_rfl) ?_
 refine jx_then ?_
 refine jc_seq ?_
 refine jc_reg ?_
 refine sqv rfl (yv_move rfl rfl) ?_
 refine sqv rfl (yv_move rfl rfl) ?_
 refine sqv rfl (yv_nil rfl rfl) ?_
 refine sqv rfl (yv_fa fa143_6 rfl rfl) ?_
 refine sqv rfl (yv_ldb ti25 rfl rfl (rd_bl at5) ((Sub.refl _).trans (VpartyParty.s6 (⟨p1, p0.leaf, v0_2, p0.own, p0.has', p0.nodes, y7, p0.init'⟩ : VpartyParty))) (Ty.len _ _) (by simp)) ?_
 obtain ⟨y8, hy8, h⟩ := bdE h
 refine sq rfl (so_callv pf83 rfl rfl rfl rfl (fun σ hs => F83_c hy8 σ.w σ.O hs.olt (⟨none, 0, 0⟩ : Sl) (cw0 (rq_sl rq_nil rq_al0) hs)) ?_)
 refine sqv rfl (yv_nil rfl rfl) ?_
 refine sqv rfl (yv_fa fa143_7 rfl rfl) ?_
 refine sq rfl (so_sta ti25 rfl rfl rfl rfl (Upd.comp (Sub.refl _) (VpartyParty.u7 (⟨p1, p0.leaf, v0_2, p0.own, p0.has', p0.nodes, y7, p0.init'⟩ : VpartyParty) y8) (Upd.refl (by simp [Ty.len]))) (Ty.len _ _) (Ty.one _ _) (xs' := tyVpartyParty.enc (⟨p1, p0.leaf, v0_2, p0.own, p0.has', p0.nodes, y7, y8⟩ : VpartyParty)) se5 ?_)
 refine jl_nil ?_
 refine jx_then ?_
 refine jc_seq ?_
 refine jc_reg ?_
 refine sqv rfl (yv_move rfl rfl) ?_
 refine sqv rfl (yv_nil rfl rfl) ?_
 refine sqv rfl (yv_fa fa143_6 rfl rfl) ?_
 refine sqv rfl (yv_ldb ti25 rfl rfl (rd_bl at5) ((Sub.refl _).trans (VpartyParty.s6 (⟨p1, p0.leaf, v0_2, p0.own, p0.has', p0.nodes, y7, y8⟩ : VpartyParty))) (Ty.len _ _) (by simp)) ?_
 obtain ⟨y9, hy9, h⟩ := bdE h
 refine sq rfl (so_callv pf83 rfl rfl rfl rfl (fun σ hs => F83_c hy9 σ.w σ.O hs.olt (⟨none, 0, 0⟩ : Sl) (cw0 (rq_sl rq_nil rq_al0) hs)) ?_)
 refine sq rfl (so_sta ti25 rfl rfl rfl rfl (Upd.refl (by simp [Ty.len])) (Ty.len _ _) (Ty.one _ _) (xs' := (Ty.arr 32 (tyI .u8)).enc y9) se2 ?_)
 refine jl_nil ?_
 refine jx_then ?_
 refine jc_ret ?_
 cases h
 exact jx_ret rfl (rr_cella ti25 rfl at2 (Ty.len _ _) rr_nil) ⟨(v0_2), rfl, rfl, rfl, rfl⟩ (.cons de5 .nil) (.cons at0 .nil) rfl (io1)
theorem F96_c {p0 : SCommit} {r : (List Int)} (h : F96 p0 = some r) (w0 : World) (O0 : Nat → Prop) (hO : ∀ k, O0 k → k < w0.heap.size) (v0_2 : Sl) (v0_3 : Sl) (v0_6 : Sl) (k0 : (fa false (mRow tySOp) v0_2 p0.Ops).p ⟨w0, O0, inL []⟩) (k1 : (fa false (mRow tySVote) v0_3 p0.Votes).p ⟨w0, O0, inL []⟩) (k2 : (fa false (mSl tySl (mRow (tyI .u8))) v0_6 p0.Boxes).p ⟨w0, O0, inL []⟩) :
  CallsP Tryz.prog 96 (List.toArray [ag (tyVCommit.enc (⟨p0.Epoch, p0.From, v0_2, v0_3, p0.Seal, p0.Path, v0_6, p0.Tag, p0.Sig⟩ : VCommit))]) w0 O0 [] (RX (fun x : Sl => sv x) (fun x => [.sli x 5 (tyI .u8).size (r).length ((tyI .u8).many r)]) (fun x => [])) := by
 unfold F96 at h
 refine calls_start (e := [(0, ag (tyVCommit.enc (⟨p0.Epoch, p0.From, v0_2, v0_3, p0.Seal, p0.Path, v0_6, p0.Tag, p0.Sig⟩ : VCommit)))]) (L := []) (K := [fa false (mRow tySOp) v0_2 p0.Ops, fa false (mRow tySVote) v0_3 p0.Votes, fa false (mSl tySl (mRow (tyI .u8))) v0_6 p0.Boxes]) Tryz.func96 rfl rfl rfl ⟨rfl, trivial⟩ hO (by simp) .nil (alc k0 (alc k1 (alc k2 aln))) ?_
 refine jc_seq ?_
 refine jc_reg ?_
 refine sq rfl (so_boxa (by decide) rfl rfl rfl fun b1 => ?_)
 refine sqv rfl (yv_assign rfl rfl) ?_
 refine jl_nil ?_
 refine jx_then ?_
 refine jc_seq ?_
 refine jc_regd (k := 6) hmix rfl [([], .blk b1 38 (tyVCommit.enc (⟨p0.Epoch, p0.From, v0_2, v0_3, p0.Seal, p0.Path, v0_6, p0.Tag, p0.Sig⟩ : VCommit)))] [] (.cons at0 .nil) .nil ?_
 refine tk (i := 0) rfl (by kernel_rfl) rfl (yv_ldb ti38 rfl rfl (rd_bl at0) (Sub.refl _) (Ty.len _ _) (by simp)) (.cons at0 (by kernel_rfl) .nil) .nil ?_
 refine tk (i := 2) rfl (by kernel_rfl) rfl (yv_fa fa38_7 rfl rfl) .nil .nil ?_
 refine tk (i := 3) rfl (by kernel_rfl) rfl (yv_sla1 ia25 rfl rfl) .nil .nil ?_
 obtain ⟨y2, hy2, h⟩ := bdE h
 refine jg_one (i := 1) (by kernel_rfl) (gst rfl rfl (so_callx pf170 rfl rfl rfl rfl (fun σ hs => F170_c hy2 σ.w σ.O hs.olt v0_2 v0_3 v0_6 (cw0 (rd_f at0) hs) (cw0 (rd_f at1) hs) (cw0 (rd_f at2) hs)) (fun _ => (.cons .nil)) (fun _ => .nil) (fun r3 => ?_)))
 refine ng (.cons at1 .nil) .nil ?_
 obtain ⟨l4, hl4, h⟩ := letX h
 obtain ⟨g5, h⟩ := gdE h
 refine jg_one (i := 4) (by kernel_rfl) (gst rfl rfl (so_appX (C := (tyI .u8)) hl4 si97 rfl rfl rfl rfl de0 (rq_arr (rd_bl at1) ((Sub.refl _).trans (VCommit.s7 (⟨p0.Epoch, p0.From, v0_2, v0_3, p0.Seal, p0.Path, v0_6, p0.Tag, p0.Sig⟩ : VCommit))) (by decide)) rfl g5 fun s6 => ?_))
 refine ng (.cons at1 .nil) .nil ?_
 refine tk (i := 5) rfl (by kernel_rfl) rfl (yv_assign rfl rfl) .nil .nil ?_
 refine jg_nil (by kernel_rfl) ?_
 refine jx_then ?_
 refine jc_ret ?_
 cases h
 exact jx_ret rfl (rr_tmp rfl rr_nil) ⟨(s6), rfl, rfl, rfl, rfl⟩ (.cons de0 .nil) .nil rfl (by simp)
theorem F172_c {p0 : (Option Int)} {r : Int} (h : F172 p0 = some r) (w0 : World) (O0 : Nat → Prop) (hO : ∀ k, O0 k → k < w0.heap.size) (v0 : (Option Addr)) (k0 : (fa false mKey v0 p0).p ⟨w0, O0, inL []⟩) :
  CallsP Tryz.prog 172 (List.toArray [.pointer v0]) w0 O0 [] (RV (.int .i64 r)) := by
 unfold F172 at h
 refine calls_start (e := [(0, .pointer v0)]) (L := []) (K := [fa false mKey v0 p0]) Tryz.func172 rfl rfl rfl ⟨rfl, trivial⟩ hO (by simp) .nil (alc k0 aln) ?_
 refine jc_seq ?_
 refine jc_reg ?_
 refine sqv rfl (yv_assign rfl rfl) ?_
 refine jl_nil ?_
 refine jx_then ?_
 refine jc_seq ?_
 refine jc_seq ?_
 refine jc_reg ?_
 refine sqv rfl (yv_move rfl rfl) ?_
 rcases moE h with ⟨hm_x1, h⟩ | ⟨x1, hm_x1, h⟩
 ·
  skip
  refine nj_kn0 at0 hm_x1 fun hn_n2 => ?_
  refine sqv rfl (yv_pn ipt70 rfl rfl rfl hn_n2) ?_
  refine jl_nil ?_
  refine jx_then ?_
  refine jc_t rfl ?_
  refine jc_seq ?_
  refine jc_reg ?_
  refine sqv rfl (yv_assign rfl rfl) ?_
  refine jl_nil ?_
  refine jx_then ?_
  refine jc_ret ?_
  refine jx_tr ?_
  cases h
  exact jx_ret rfl (rr_tmp rfl rr_nil) ⟨rfl, rfl, rfl, rfl⟩ .nil .nil rfl (by simp)
 ·
  skip
  refine nj_kn1 at0 hm_x1 fun hn_n4 => ?_
  refine sqv rfl (yv_pn ipt70 rfl rfl rfl hn_n4) ?_
  refine jl_nil ?_
  refine jx_then ?_
  refine jc_f rfl ?_
  refine jc_skip ?_
  refine jx_then ?_
  refine jc_seq ?_
  refine jc_reg ?_
  refine sqv rfl (yv_move rfl rfl) ?_
  refine nj_xkX at0 hm_x1 fun b6 hv_b6 => ?_
  refine sqv rfl (yv_nilp rfl rfl hv_b6) ?_
  refine sqv rfl (yv_fa fa267_0 rfl rfl) ?_
  refine sqv rfl (yv_ldk ti3 rfl rfl (rd_f at0) hm_x1 hv_b6) ?_
  refine sqv rfl (yv_assign rfl rfl) ?_
  refine jl_nil ?_
  refine jx_then ?_
  refine jc_ret ?_
  cases h
  exact jx_ret rfl (rr_tmp rfl rr_nil) ⟨rfl, rfl, rfl, rfl⟩ .nil .nil rfl (by simp)
theorem F95_c {p0 : (Option Int)} {p1 : (List Int)} {r : SSig} (h : F95 p0 p1 = some r) (w0 : World) (O0 : Nat → Prop) (hO : ∀ k, O0 k → k < w0.heap.size) (v0 : (Option Addr)) (v1 : Sl) (k0 : (fa true mKey v0 p0).p ⟨w0, O0, inL []⟩) (k1 : (fa false (mRow (tyI .u8)) v1 p1).p ⟨w0, O0, inL []⟩) :
  CallsP Tryz.prog 95 (List.toArray [.pointer v0, sv v1]) w0 O0 [] (RV (ag (tySSig.enc r))) := by
 unfold F95 at h
 refine calls_start (e := [(0, .pointer v0), (1, sv v1)]) (L := []) (K := [fa true mKey v0 p0, fa false (mRow (tyI .u8)) v1 p1]) Tryz.func95 rfl rfl rfl ⟨rfl, rfl, trivial⟩ hO (by simp) .nil (alc k0 (alc k1 aln)) ?_
 refine jc_seq ?_
 refine jc_reg ?_
 refine sq rfl (so_alloc ti36 (by decide) rfl rfl fun b1 => ?_)
 refine jl_nil ?_
 refine jx_then ?_
 refine jc_seq ?_
 refine jc_seq ?_
 refine jc_reg ?_
 refine sqv rfl (yv_move rfl rfl) ?_
 rcases moE h with ⟨hm_x2, h⟩ | ⟨x2, hm_x2, h⟩
 ·
  skip
  refine nj_kn0 at0 hm_x2 fun hn_n3 => ?_
  refine sqv rfl (yv_pn ipt70 rfl rfl rfl hn_n3) ?_
  refine jl_nil ?_
  refine jx_then ?_
  refine jc_t rfl ?_
  refine jc_seq ?_
  refine jc_reg ?_
  refine sqv rfl (yv_build bi36 rfl rfl fills_nil) ?_
  refine sq rfl (so_sta ti36 rfl rfl rfl rfl (Upd.refl (by simp [Ty.len])) (Ty.len _ _) (Ty.one _ _) (xs' := tySSig.enc SSig.zero) se0 ?_)
  refine jl_nil ?_
  refine jx_then ?_
  refine jc_ret ?_
  refine jx_tr ?_
  cases h
  exact jx_ret rfl (rr_cella ti36 rfl at0 (Ty.len _ _) rr_nil) ⟨rfl, rfl, rfl, rfl⟩ .nil .nil rfl (by simp)
 ·
  skip
  refine nj_kn1 at0 hm_x2 fun hn_n5 => ?_
  refine sqv rfl (yv_pn ipt70 rfl rfl rfl hn_n5) ?_
  refine jl_nil ?_
  refine jx_then ?_
  refine jc_f rfl ?_
  refine jc_skip ?_
  refine jx_then ?_
  refine jc_seq ?_
  refine jc_reg ?_
  refine sqv rfl (yv_move rfl rfl) ?_
  obtain ⟨y7, hy7, h⟩ := bdE h
  refine sq rfl (so_callv pf172 rfl rfl rfl rfl (fun σ hs => F172_c hy7 σ.w σ.O hs.olt v0 (cw0 (rd_f at0) hs)) ?_)
  refine sqv rfl (yv_assign rfl rfl) ?_
  refine jl_nil ?_
  refine jx_then ?_
  refine jc_seq ?_
  refine jc_reg ?_
  refine sqv rfl (yv_build bi25 rfl rfl fills_nil) ?_
  refine sqv rfl (yv_move rfl rfl) ?_
  obtain ⟨y8, hy8, h⟩ := bdE h
  refine sq rfl (so_callx pf174 rfl rfl rfl rfl (fun σ hs => F174_c hy8 σ.w σ.O hs.olt) (fun _ => (.cons .nil)) (fun _ => .nil) (fun r9 => ?_))
  refine sqv rfl (yv_move rfl rfl) ?_
  refine sq rfl (so_bslL (C := tySl) (l := ([r9, v1] : List Sl)) si34 sz34 rfl rfl rfl rfl (by decide) (by decide) (fills_cons rfl (many_upd' tySl _ (0 : Int) r9 (by simp [lup])) rfl (Ty.len tySl r9) (fills_cons rfl (many_upd' tySl _ (1 : Int) v1 (by simp [lup])) rfl (Ty.len tySl v1) fills_nil)) fun s10 => ?_)
  obtain ⟨y11, hy11, h⟩ := bdE h
  refine sq rfl (so_callv pf83 rfl rfl rfl rfl (fun σ hs => F83_c hy11 σ.w σ.O hs.olt s10 (cw0 (rq_sl (rd_o at0) (rq_alc (rd_o at1) (rq_alc (rd_f at1) rq_al0))) hs)) ?_)
  obtain ⟨y12, hy12, h⟩ := bdE h
  refine sq rfl (so_callv pf173 rfl rfl rfl rfl (fun σ hs => F173_c hy12 σ.w σ.O hs.olt) ?_)
  refine sqv rfl (yv_assign rfl rfl) ?_
  refine jl_nil ?_
  refine jx_then ?_
  refine jc_seq ?_
  refine jc_reg ?_
  refine sqv rfl (yv_move rfl rfl) ?_
  obtain ⟨y13, hy13, h⟩ := bdE h
  refine sq rfl (so_callv pf176 rfl rfl rfl rfl (fun σ hs => F176_c hy13 σ.w σ.O hs.olt) ?_)
  refine sqv rfl (yv_move rfl rfl) ?_
  obtain ⟨y14, hy14, h⟩ := bdE h
  refine sq rfl (so_callv pf114 rfl rfl rfl rfl (fun σ hs => F114_c hy14 σ.w σ.O hs.olt v0 (cs0 (rs_f at0) hs)) ?_)
  refine sqv rfl (yv_move rfl rfl) ?_
  obtain ⟨y15, hy15, h⟩ := bdE h
  refine sq rfl (so_callv pf175 rfl rfl rfl rfl (fun σ hs => F175_c hy15 σ.w σ.O hs.olt v1 (cw0 (rd_f at1) hs)) ?_)
  refine sqv rfl (yv_assign rfl rfl) ?_
  refine jl_nil ?_
  refine jx_then ?_
  refine jc_seq ?_
  refine jc_reg ?_
  refine sqv rfl (yv_move rfl rfl) ?_
  refine sqv rfl (yv_move rfl rfl) ?_
  refine sqv rfl (yv_move rfl rfl) ?_
  refine sqv rfl (yv_move rfl rfl) ?_
  obtain ⟨x16, hx16, h⟩ := letX h
  refine sqv rfl (yxi hx16 (yv_mul rfl rfl rfl)) ?_
  obtain ⟨x17, hx17, h⟩ := letX h
  refine sqv rfl (yxi hx17 (yv_add rfl rfl rfl)) ?_
  obtain ⟨x18, hx18, h⟩ := letX h
  refine sqv rfl (yxi hx18 (yv_rem rfl rfl rfl (by decide))) ?_
  obtain ⟨x19, hx19, h⟩ := letX h
  refine sqv rfl (yxg (C := tySSig) hx19 (yv_build bi36 rfl rfl (fills_cons rfl (SSig.u0 SSig.zero y15) rfl (Ty.len (tyI .i64) y15) (fills_cons rfl (SSig.u1 ({ SSig.zero with E := y15 }) x18) rfl (Ty.len (tyI .i64) x18) fills_nil)))) ?_
  refine sq rfl (so_sta ti36 rfl rfl rfl rfl (Upd.refl (by simp [Ty.len])) (Ty.len _ _) (Ty.one _ _) (xs' := tySSig.enc x19) se2 ?_)
  refine jl_nil ?_
  refine jx_then ?_
  refine jc_ret ?_
  cases h
  exact jx_ret rfl (rr_cella ti36 rfl at2 (Ty.len _ _) rr_nil) ⟨rfl, rfl, rfl, rfl⟩ .nil .nil rfl (by simp)
theorem F215_c {p0 : Int} {p1 : Int} {r : Int} (h : F215 p0 p1 = some r) (w0 : World) (O0 : Nat → Prop) (hO : ∀ k, O0 k → k < w0.heap.size) :
  CallsP Tryz.prog 215 (List.toArray [.int .i64 p0, .int .i64 p1]) w0 O0 [] (RV (.int .i64 r)) := by
 unfold F215 at h
 refine calls_start (e := [(0, .int .i64 p0), (1, .int .i64 p1)]) (L := []) (K := []) Tryz.func215 rfl rfl rfl ⟨rfl, rfl, trivial⟩ hO (by simp) .nil aln ?_
 refine jc_seq ?_
 refine jc_reg ?_
 refine sqv rfl (yv_assign rfl rfl) ?_
 refine jl_nil ?_
 refine jx_then ?_
 refine jc_seq ?_
 refine jc_seq_n ?_
 intro N0 hN0
 have hj0 : ∀ (j7 : Bool), F215_j0 p0 p1 j7 = some r → NJ 26 w0 O0 [] N0 [(0, .int .i64 p0), (1, .int .i64 p1), (4, .int .i64 0), (13, .bool j7)] [] [] := by
  intro j7 h
  unfold F215_j0 at h
  refine nj_abs hN0 ?_
  rcases j7 with _ | _
  ·
   replace h := brF h
   refine jc_f rfl ?_
   refine jc_skip ?_
   refine jx_then ?_
   refine jc_seq ?_
   refine jc_reg ?_
   refine sqv rfl (yv_assign rfl rfl) ?_
   refine jl_nil ?_
   refine jx_then ?_
   refine jc_seq ?_
   refine jc_block ?_
   refine jc_loop ?_
   intro B0 Q0 hB0 hQ0
   have key0 : ∀ (k0 : Nat) (j37_8 : Int), F215_l0 p0 p1 k0 j37_8 = some r → JW 26 w0 O0 [] Tryz.prog B0 Q0 [(0, .int .i64 p0), (1, .int .i64 p1), (4, .int .i64 0), (5, .int .i64 j37_8)] [] [] := by
    intro k0
    induction k0 with
    | zero => intro j37_8 h; cases h
    | succ k0 ih0 =>
     intro j37_8 h
     unfold F215_l0 at h
     refine jw_round hB0 ?_
     refine jc_seq ?_
     refine jc_seq ?_
     refine jc_reg ?_
     refine sqv rfl (yv_move rfl rfl) ?_
     refine sqv rfl (yv_move rfl rfl) ?_
     obtain ⟨y38_8, hy38_8, h⟩ := bdE h
     refine sq rfl (so_callv pf246 rfl rfl rfl rfl (fun σ hs => F246_c hy38_8 σ.w σ.O hs.olt) ?_)
     refine sqv rfl (yv_move rfl rfl) ?_
     refine sqv rfl (yv_move rfl rfl) ?_
     obtain ⟨y39_8, hy39_8, h⟩ := bdE h
     refine sq rfl (so_callv pf246 rfl rfl rfl rfl (fun σ hs => F246_c hy39_8 σ.w σ.O hs.olt) ?_)
     obtain ⟨x40_8, hx40_8, h⟩ := letX h
     refine sqv rfl (yxb hx40_8 (yv_neq rfl rfl rfl)) ?_
     refine jl_nil ?_
     refine jx_then ?_
     rcases x40_8 with _ | _
     ·
      replace h := brF h
      refine jc_f rfl ?_
      refine jc_exit ?_
      refine jx_te ?_
      refine jx_te ?_
      refine jx_abs hQ0 ?_
      refine jx_hit ?_
      refine jx_then ?_
      refine jc_seq ?_
      refine jc_reg ?_
      refine sqv rfl (yv_move rfl rfl) ?_
      refine sqv rfl (yv_move rfl rfl) ?_
      obtain ⟨y44_8, hy44_8, h⟩ := bdE h
      refine sq rfl (so_callv pf246 rfl rfl rfl rfl (fun σ hs => F246_c hy44_8 σ.w σ.O hs.olt) ?_)
      refine sqv rfl (yv_assign rfl rfl) ?_
      refine jl_nil ?_
      refine jx_then ?_
      refine jc_ret ?_
      cases h
      exact jx_ret rfl (rr_tmp rfl rr_nil) ⟨rfl, rfl, rfl, rfl⟩ .nil .nil rfl (by simp)
     ·
      replace h := brT h
      refine jc_t rfl ?_
      refine jc_skip ?_
      refine jx_then ?_
      refine jc_block ?_
      refine jc_reg ?_
      refine sqv rfl (yv_move rfl rfl) ?_
      obtain ⟨x43_8, hx43_8, h⟩ := letX h
      refine sqv rfl (yxi hx43_8 (yv_add rfl rfl rfl)) ?_
      refine sqv rfl (yv_assign rfl rfl) ?_
      refine jl_nil ?_
      refine jx_blk ?_
      refine jx_again ?_
      exact nj_weak (ih0 x43_8 h) ⟨rfl, rfl, rfl, rfl, trivial⟩ .nil .nil
   exact nj_weak (key0 FUEL 0 h) ⟨rfl, rfl, rfl, rfl, trivial⟩ .nil .nil
  ·
   replace h := brT h
   refine jc_t rfl ?_
   refine jc_seq ?_
   refine jc_reg ?_
   refine sqv rfl (yv_assign rfl rfl) ?_
   refine jl_nil ?_
   refine jx_then ?_
   refine jc_ret ?_
   refine jx_tr ?_
   cases h
   exact jx_ret rfl (rr_tmp rfl rr_nil) ⟨rfl, rfl, rfl, rfl⟩ .nil .nil rfl (by simp)
 refine jc_reg ?_
 refine sqv rfl (yv_move rfl rfl) ?_
 obtain ⟨y1, hy1, h⟩ := bdE h
 refine sq rfl (so_callv pf245 rfl rfl rfl rfl (fun σ hs => F245_c hy1 σ.w σ.O hs.olt) ?_)
 obtain ⟨x2, hx2, h⟩ := letX h
 refine sqv rfl (yxb hx2 (yv_not rfl rfl)) ?_
 refine sqv rfl (yv_move rfl rfl) ?_
 rcases x2 with _ | _
 ·
  replace h := brF h
  refine sqv rfl (yv_move rfl rfl) ?_
  obtain ⟨y4, hy4, h⟩ := bdE h
  refine sq rfl (so_callv pf245 rfl rfl rfl rfl (fun σ hs => F245_c hy4 σ.w σ.O hs.olt) ?_)
  obtain ⟨x5, hx5, h⟩ := letX h
  refine sqv rfl (yxb hx5 (yv_not rfl rfl)) ?_
  refine sqv rfl (yv_pick_f rfl rfl rfl) ?_
  refine jl_nil ?_
  refine jx_then_n ?_
  exact nj_weak (hj0 x5 h) ⟨rfl, rfl, rfl, rfl, trivial⟩ .nil .nil
 ·
  replace h := brT h
  refine sq_skip rfl ?_
  refine sq_skip rfl ?_
  refine sq_skip rfl ?_
  refine sqv rfl (yv_pick_t rfl rfl rfl) ?_
  refine jl_nil ?_
  refine jx_then_n ?_
  exact nj_weak (hj0 true h) ⟨rfl, rfl, rfl, rfl, trivial⟩ .nil .nil
theorem F130_c {p0 : Int} {p1 : Int} {r : Int} (h : F130 p0 p1 = some r) (w0 : World) (O0 : Nat → Prop) (hO : ∀ k, O0 k → k < w0.heap.size) :
  CallsP Tryz.prog 130 (List.toArray [.int .i64 p0, .int .i64 p1]) w0 O0 [] (RV (.int .i64 r)) := by
 unfold F130 at h
 refine calls_start (e := [(0, .int .i64 p0), (1, .int .i64 p1)]) (L := []) (K := []) Tryz.func130 rfl rfl rfl ⟨rfl, rfl, trivial⟩ hO (by simp) .nil aln ?_
 refine jc_seq ?_
 refine jc_reg ?_
 refine sqv rfl (yv_assign rfl rfl) ?_
 refine jl_nil ?_
 refine jx_then ?_
 refine jc_seq ?_
 refine jc_reg ?_
 refine sqv rfl (yv_move rfl rfl) ?_
 refine sqv rfl (yv_move rfl rfl) ?_
 obtain ⟨y1, hy1, h⟩ := bdE h
 refine sq rfl (so_callv pf215 rfl rfl rfl rfl (fun σ hs => F215_c hy1 σ.w σ.O hs.olt) ?_)
 refine sqv rfl (yv_assign rfl rfl) ?_
 refine jl_nil ?_
 refine jx_then ?_
 refine jc_seq ?_
 refine jc_seq ?_
 refine jc_reg ?_
 refine sqv rfl (yv_move rfl rfl) ?_
 obtain ⟨y2, hy2, h⟩ := bdE h
 refine sq rfl (so_callv pf166 rfl rfl rfl rfl (fun σ hs => F166_c hy2 σ.w σ.O hs.olt) ?_)
 refine sqv rfl (yv_move rfl rfl) ?_
 refine jl_nil ?_
 refine jx_then ?_
 refine jc_block ?_
 refine jc_loop ?_
 intro B0 Q0 hB0 hQ0
 have key0 : ∀ (k0 : Nat) (j26 : Int), F130_l0 y2 y1 k0 j26 = some r → JW 22 w0 O0 [] Tryz.prog B0 Q0 [(4, .int .i64 0), (5, .int .i64 y1), (12, ag ((Ty.arr 3 (tyI .i64)).enc y2)), (13, .int .i64 j26)] [] [] := by
  intro k0
  induction k0 with
  | zero => intro j26 h; cases h
  | succ k0 ih0 =>
   intro j26 h
   unfold F130_l0 at h
   refine jw_round hB0 ?_
   refine jc_seq ?_
   refine jc_reg ?_
   obtain ⟨x27, hx27, h⟩ := letX h
   refine sqv rfl (yxb hx27 (yv_lss rfl rfl rfl)) ?_
   refine jl_nil ?_
   refine jx_then ?_
   refine jc_seq ?_
   rcases x27 with _ | _
   ·
    replace h := brF h
    refine jc_f rfl ?_
    refine jc_exit ?_
    refine jx_te ?_
    refine jx_te ?_
    refine jx_abs hQ0 ?_
    refine jx_hit ?_
    refine jx_then ?_
    refine jc_seq ?_
    refine jc_reg ?_
    refine sqv rfl (yv_assign rfl rfl) ?_
    refine jl_nil ?_
    refine jx_then ?_
    refine jc_ret ?_
    cases h
    exact jx_ret rfl (rr_tmp rfl rr_nil) ⟨rfl, rfl, rfl, rfl⟩ .nil .nil rfl (by simp)
   ·
    replace h := brT h
    refine jc_t rfl ?_
    refine jc_skip ?_
    refine jx_then ?_
    refine jc_seq ?_
    refine jc_block ?_
    refine jc_seq ?_
    refine jc_reg ?_
    refine sqv rfl (yv_move rfl rfl) ?_
    obtain ⟨g35, h⟩ := gdE h
    obtain ⟨x36, hx36, h⟩ := letX h
    refine sqv rfl (yxi hx36 (yv_index (g := false) (ys := (tyI .i64).enc (vat y2 j26)) Tryz.underlying33 ti3 rfl rfl rfl g35 (arr_sub (tyI .i64) _ _ g35) (Ty.len _ _) (fun _ => rfl))) ?_
    refine sqv rfl (yv_assign rfl rfl) ?_
    refine sqv rfl (yv_assign rfl rfl) ?_
    refine jl_nil ?_
    refine jx_then ?_
    refine jc_seq ?_
    refine jc_reg ?_
    refine sqv rfl (yv_move rfl rfl) ?_
    refine sqv rfl (yv_move rfl rfl) ?_
    obtain ⟨x37, hx37, h⟩ := letX h
    refine sqv rfl (yxb hx37 (yv_eql rfl rfl rfl)) ?_
    refine jl_nil ?_
    refine jx_then ?_
    rcases x37 with _ | _
    ·
     replace h := brF h
     refine jc_f rfl ?_
     refine jc_skip ?_
     refine jx_blk ?_
     refine jx_then ?_
     refine jc_reg ?_
     obtain ⟨x38, hx38, h⟩ := letX h
     refine sqv rfl (yxi hx38 (yv_add rfl rfl rfl)) ?_
     refine sqv rfl (yv_move rfl rfl) ?_
     refine jl_nil ?_
     refine jx_again ?_
     exact nj_weak (ih0 x38 h) ⟨rfl, rfl, rfl, rfl, trivial⟩ .nil .nil
    ·
     replace h := brT h
     refine jc_t rfl ?_
     refine jc_seq ?_
     refine jc_reg ?_
     refine sqv rfl (yv_move rfl rfl) ?_
     refine sqv rfl (yv_assign rfl rfl) ?_
     refine jl_nil ?_
     refine jx_then ?_
     refine jc_ret ?_
     refine jx_br ?_
     refine jx_tr ?_
     refine jx_tr ?_
     refine jx_abs hQ0 ?_
     refine jx_br ?_
     refine jx_tr ?_
     cases h
     exact jx_ret rfl (rr_tmp rfl rr_nil) ⟨rfl, rfl, rfl, rfl⟩ .nil .nil rfl (by simp)
 exact nj_weak (key0 FUEL 0 h) ⟨rfl, rfl, rfl, rfl, trivial⟩ .nil .nil
theorem F97_c {p0 : (Option SpartyParty)} {p1 : Int} {p2 : (Vector Int 32)} {p3 : (Vector Int 32)} {p4 : (Vector Int 32)} {r : SWelcome × Int} (h : F97 p0 p1 p2 p3 p4 = some r) (w0 : World) (O0 : Nat → Prop) (hO : ∀ k, O0 k → k < w0.heap.size) (v0 : (Option Addr)) (k0 : (fa false (mPt tyVpartyParty mSpartyParty) v0 p0).p ⟨w0, O0, inL []⟩) :
  CallsP Tryz.prog 97 (List.toArray [.pointer v0, .int .i64 p1, ag ((Ty.arr 32 (tyI .u8)).enc p2), ag ((Ty.arr 32 (tyI .u8)).enc p3), ag ((Ty.arr 32 (tyI .u8)).enc p4)]) w0 O0 [] (RX (fun x : Sl => .tuple #[ag (tyVWelcome.enc (⟨r.1.Leaf, r.1.From, r.1.View, x, r.1.Tag⟩ : VWelcome)), .int .i64 r.2]) (fun x => [.sli x 5 (tyI .u8).size (r.1.Box).length ((tyI .u8).many r.1.Box)]) (fun x => [])) := by
 unfold F97 at h
 refine calls_start (e := [(0, .pointer v0), (1, .int .i64 p1), (2, ag ((Ty.arr 32 (tyI .u8)).enc p2)), (3, ag ((Ty.arr 32 (tyI .u8)).enc p3)), (4, ag ((Ty.arr 32 (tyI .u8)).enc p4))]) (L := []) (K := [fa false (mPt tyVpartyParty mSpartyParty) v0 p0]) Tryz.func97 rfl rfl rfl ⟨rfl, rfl, rfl, rfl, rfl, trivial⟩ hO (by simp) .nil (alc k0 aln) ?_
 refine jc_seq ?_
 refine jc_reg ?_
 refine sq rfl (so_boxa (by decide) rfl rfl rfl fun b1 => ?_)
 refine sq rfl (so_boxa (by decide) rfl rfl rfl fun b2 => ?_)
 refine sq rfl (so_boxa (by decide) rfl rfl rfl fun b3 => ?_)
 refine sq rfl (so_alloc ti103 (by decide) rfl rfl fun b4 => ?_)
 refine sqv rfl (yv_assign rfl rfl) ?_
 refine jl_nil ?_
 refine jx_then ?_
 refine jc_seq ?_
 rcases moE h with ⟨hm_x20, h⟩ | ⟨x20, hm_x20, h⟩
 ·
  skip
  obtain ⟨hno, h⟩ := gdE h
  exact (by first | exact absurd h (by simp) | cases h)
 ·
  skip
  obtain ⟨x1_9, hx1_9, h⟩ := letX h
  obtain ⟨y1_11, hy1_11, h⟩ := bdE h
  obtain ⟨g1_14, h⟩ := gdE h
  obtain ⟨x1_15, hx1_15, h⟩ := letX h
  refine jc_regd (k := 13) hmix rfl [] [] .nil .nil ?_
  refine tk (i := 0) rfl (by kernel_rfl) rfl (yv_move rfl rfl) .nil .nil ?_
  refine tk (i := 1) rfl (by kernel_rfl) rfl (yv_move rfl rfl) .nil .nil ?_
  refine nj_xptX at0 hm_x20 fun b1_7 u1_7_ hv_b1_7 => ?_
  refine nj_xSpartyParty at1 fun u1_7_2 hu1_7 => ?_
  subst hu1_7
  refine tk (i := 2) rfl (by kernel_rfl) rfl (yv_nilp rfl rfl hv_b1_7) .nil .nil ?_
  refine tk (i := 3) rfl (by kernel_rfl) rfl (yv_fa fa143_1 rfl rfl) .nil .nil ?_
  refine jg_reb (Ls' := []) (Ks' := [fa false mBl b1_7 (tyVpartyParty.enc (⟨x20.v, x20.leaf, u1_7_2, x20.own, x20.has', x20.nodes, x20.epoch, x20.init'⟩ : VpartyParty))]) .nil (.cons at1 .nil) .nil .nil ?_
  refine tk (i := 4) rfl (by kernel_rfl) rfl (yxi hx1_9 (yv_ldb ti3 rfl rfl (rd_f at0) ((Sub.refl _).trans (VpartyParty.s1 (⟨x20.v, x20.leaf, u1_7_2, x20.own, x20.has', x20.nodes, x20.epoch, x20.init'⟩ : VpartyParty))) (Ty.len _ _) (fun _ => rfl))) .nil (.cons at0 .nil) ?_
  refine tk (i := 5) rfl (by kernel_rfl) rfl (yv_move rfl rfl) .nil .nil ?_
  refine tk (i := 7) rfl (by kernel_rfl) rfl (yv_nilp rfl rfl hv_b1_7) .nil .nil ?_
  refine tk (i := 8) rfl (by kernel_rfl) rfl (yv_fa fa143_5 rfl rfl) .nil .nil ?_
  refine jg_nm2 ?_
  intro J1_20 hJ1_20_1 hJ1_20_2
  have hs1_20_5 : ∀ (b1_16 : Nat), J1_20 [] [fa false mBl b1_7 (tyVpartyParty.enc (⟨x20.v, x20.leaf, u1_7_2, x20.own, x20.has', x20.nodes, x20.epoch, x20.init'⟩ : VpartyParty))] 0 #[true, true, true, true, true, true, true, true, true, true, true, true, true] [(0, .pointer v0), (1, .int .i64 p1), (7, pt b1 0), (8, pt b2 0), (9, pt b3 0), (10, pt b4 0), (11, .int .i64 0), (12, pt b1_16 0)] [.blk b1_16 25 ((Ty.arr 32 (tyI .u8)).enc x1_15), .blk b4 103 (tyVWelcome.enc (⟨(0 : Int), (0 : Int), SView.zero, (⟨none, 0, 0⟩ : Sl), (Vector.replicate 32 (0 : Int))⟩ : VWelcome)), .blk b3 25 ((Ty.arr 32 (tyI .u8)).enc p4), .blk b2 25 ((Ty.arr 32 (tyI .u8)).enc p3), .blk b1 25 ((Ty.arr 32 (tyI .u8)).enc p2)] [fa false mKey u1_7_2 x20.signer, fa false mBl b1_7 (tyVpartyParty.enc (⟨x20.v, x20.leaf, u1_7_2, x20.own, x20.has', x20.nodes, x20.epoch, x20.init'⟩ : VpartyParty)), fa false mSpartyParty (⟨x20.v, x20.leaf, u1_7_2, x20.own, x20.has', x20.nodes, x20.epoch, x20.init'⟩ : VpartyParty) x20, fa false (mPt tyVpartyParty mSpartyParty) v0 p0] := by
   intro b1_16
   refine hJ1_20_1 _ _ _ _ _ _ _ ?_
   refine jg_nil (by kernel_rfl) ?_
   refine jx_then ?_
   refine jc_seq ?_
   refine jc_regd (k := 23) hmix rfl [([], .blk b3 25 ((Ty.arr 32 (tyI .u8)).enc p4))] [fa false mBl b1_7 (tyVpartyParty.enc (⟨x20.v, x20.leaf, u1_7_2, x20.own, x20.has', x20.nodes, x20.epoch, x20.init'⟩ : VpartyParty))] (.cons at2 .nil) (.cons at1 .nil) ?_
   refine tk (i := 0) rfl (by kernel_rfl) rfl (yv_move rfl rfl) .nil .nil ?_
   refine tk (i := 1) rfl (by kernel_rfl) rfl (yv_move rfl rfl) .nil .nil ?_
   refine tk (i := 2) rfl (by kernel_rfl) rfl (yv_nilp rfl rfl hv_b1_7) .nil .nil ?_
   refine tk (i := 3) rfl (by kernel_rfl) rfl (yv_fa fa143_0 rfl rfl) .nil .nil ?_
   refine tk (i := 4) rfl (by kernel_rfl) rfl (yv_fa fa64_1 rfl rfl) .nil .nil ?_
   refine tk (i := 5) rfl (by kernel_rfl) rfl (yv_fa fa61_0 rfl rfl) .nil .nil ?_
   obtain ⟨g21, h⟩ := gdE h
   refine tk (i := 6) rfl (by kernel_rfl) rfl (yv_ia ia58 rfl rfl rfl g21) .nil .nil ?_
   refine tk (i := 7) rfl (by kernel_rfl) rfl (yv_fa fa51_1 rfl rfl) .nil .nil ?_
   obtain ⟨x22, hx22, h⟩ := letX h
   refine tk (i := 8) rfl (by kernel_rfl) rfl (yxi hx22 (yv_ldb ti3 rfl rfl (rd_f at0) ((((((Sub.refl _).trans (VpartyParty.s0 (⟨x20.v, x20.leaf, u1_7_2, x20.own, x20.has', x20.nodes, x20.epoch, x20.init'⟩ : VpartyParty))).trans (SView.s1 x20.v)).trans (STree.s0 x20.v.Tree)).trans (arr_sub tySLeaf x20.v.Tree.Leaves p1 g21)).trans (SLeaf.s1 (vat x20.v.Tree.Leaves p1))) (Ty.len _ _) (fun _ => rfl))) .nil (.cons at0 .nil) ?_
   refine tk (i := 9) rfl (by kernel_rfl) rfl (yv_ldb ti25 rfl rfl (rd_bl at0) (Sub.refl _) (Ty.len _ _) (by simp)) (.cons at0 (by kernel_rfl) .nil) .nil ?_
   refine tk (i := 10) rfl (by kernel_rfl) rfl (yv_move rfl rfl) .nil .nil ?_
   refine tk (i := 14) rfl (by kernel_rfl) rfl (yv_sla1 ia25 rfl rfl) .nil .nil ?_
   refine tk (i := 15) rfl (by kernel_rfl) rfl (yv_sla1 ia25 rfl rfl) .nil .nil ?_
   obtain ⟨y23, hy23, h⟩ := bdE h
   refine jg_one (i := 11) (by kernel_rfl) (gst rfl rfl (so_callx pf169 rfl rfl rfl rfl (fun σ hs => F169_c hy23 σ.w σ.O hs.olt) (fun _ => (.cons .nil)) (fun _ => .nil) (fun r24 => ?_)))
   refine ng (.cons at3 .nil) (.cons at1 .nil) ?_
   refine jg_one (i := 12) (by kernel_rfl) (gst rfl rfl (so_bslL (C := tySl) (l := ([r24] : List Sl)) si34 sz34 rfl rfl rfl rfl (by decide) (by decide) (fills_cons rfl (many_upd' tySl _ (0 : Int) r24 (by simp [lup])) rfl (Ty.len tySl r24) fills_nil) fun s25 => ?_))
   refine ng (.cons at4 .nil) (.cons at1 .nil) ?_
   obtain ⟨y26, hy26, h⟩ := bdE h
   refine jg_one (i := 13) (by kernel_rfl) (gst rfl rfl (so_callv pf83 rfl rfl rfl rfl (fun σ hs => F83_c hy26 σ.w σ.O hs.olt s25 (cw0 (rq_sl (rd_o at0) (rq_alc (rd_o at1) rq_al0)) hs)) ?_))
   refine ng (.cons at4 .nil) (.cons at1 .nil) ?_
   obtain ⟨l27, hl27, h⟩ := letX h
   obtain ⟨g28, h⟩ := gdE h
   refine jg_one (i := 16) (by kernel_rfl) (gst rfl rfl (so_appF (C := (tyI .u8)) hl27 si97 rfl rfl rfl rfl (rq_arr (rd_bl at6) (Sub.refl _) (by decide)) rfl (by simp) (rq_arr (rd_bl at2) (Sub.refl _) (by decide)) (by simp) g28 fun s29 => ?_))
   refine ng (.cons at5 .nil) (.cons at1 .nil) ?_
   obtain ⟨y30, hy30, h⟩ := bdE h
   refine jg_one (i := 17) (by kernel_rfl) (gst rfl rfl (so_callx pf167 rfl rfl rfl rfl (fun σ hs => F167_c hy30 σ.w σ.O hs.olt s29 (cw0 (rd_o at0) hs)) (fun _ => (.cons .nil)) (fun _ => .nil) (fun r31 => ?_)))
   refine ng (.cons at6 .nil) (.cons at1 .nil) ?_
   refine tk (i := 18) rfl (by kernel_rfl) rfl (yv_move rfl rfl) .nil .nil ?_
   refine tk (i := 19) rfl (by kernel_rfl) rfl (yv_ext rfl rfl rfl) .nil .nil ?_
   refine tk (i := 20) rfl (by kernel_rfl) rfl (yv_ext rfl rfl rfl) .nil .nil ?_
   refine tk (i := 21) rfl (by kernel_rfl) rfl (yv_assign rfl rfl) .nil .nil ?_
   refine tk (i := 22) rfl (by kernel_rfl) rfl (yv_assign rfl rfl) .nil .nil ?_
   refine jg_nil (by kernel_rfl) ?_
   refine jx_then ?_
   refine jc_seq ?_
   refine jc_regd (k := 15) hmix rfl [([], .blk b2 25 ((Ty.arr 32 (tyI .u8)).enc p3))] [fa false mBl b1_7 (tyVpartyParty.enc (⟨x20.v, x20.leaf, u1_7_2, x20.own, x20.has', x20.nodes, x20.epoch, x20.init'⟩ : VpartyParty))] (.cons at7 .nil) (.cons at1 .nil) ?_
   refine tk (i := 0) rfl (by kernel_rfl) rfl (yv_move rfl rfl) .nil .nil ?_
   refine tk (i := 1) rfl (by kernel_rfl) rfl (yv_move rfl rfl) .nil .nil ?_
   refine tk (i := 2) rfl (by kernel_rfl) rfl (yv_nilp rfl rfl hv_b1_7) .nil .nil ?_
   refine tk (i := 3) rfl (by kernel_rfl) rfl (yv_fa fa143_1 rfl rfl) .nil .nil ?_
   obtain ⟨x32, hx32, h⟩ := letX h
   refine tk (i := 4) rfl (by kernel_rfl) rfl (yxi hx32 (yv_ldb ti3 rfl rfl (rd_f at0) ((Sub.refl _).trans (VpartyParty.s1 (⟨x20.v, x20.leaf, u1_7_2, x20.own, x20.has', x20.nodes, x20.epoch, x20.init'⟩ : VpartyParty))) (Ty.len _ _) (fun _ => rfl))) .nil (.cons at0 .nil) ?_
   refine tk (i := 5) rfl (by kernel_rfl) rfl (yv_move rfl rfl) .nil .nil ?_
   refine tk (i := 6) rfl (by kernel_rfl) rfl (yv_nilp rfl rfl hv_b1_7) .nil .nil ?_
   refine tk (i := 7) rfl (by kernel_rfl) rfl (yv_fa fa143_0 rfl rfl) .nil .nil ?_
   obtain ⟨x33, hx33, h⟩ := letX h
   refine tk (i := 8) rfl (by kernel_rfl) rfl (yxg (C := tySView) hx33 (yv_ldb ti64 rfl rfl (rd_f at0) ((Sub.refl _).trans (VpartyParty.s0 (⟨x20.v, x20.leaf, u1_7_2, x20.own, x20.has', x20.nodes, x20.epoch, x20.init'⟩ : VpartyParty))) (Ty.len _ _) (by simp))) .nil (.cons at0 .nil) ?_
   refine tk (i := 9) rfl (by kernel_rfl) rfl (yv_move rfl rfl) .nil .nil ?_
   refine tk (i := 10) rfl (by kernel_rfl) rfl (yv_ldb ti25 rfl rfl (rd_bl at0) (Sub.refl _) (Ty.len _ _) (by simp)) (.cons at0 (by kernel_rfl) .nil) .nil ?_
   refine tk (i := 11) rfl (by kernel_rfl) rfl (yv_build bi103 rfl rfl (fills_cons rfl (VWelcome.u0 (⟨(0 : Int), (0 : Int), SView.zero, (⟨none, 0, 0⟩ : Sl), (Vector.replicate 32 (0 : Int))⟩ : VWelcome) p1) rfl (Ty.len (tyI .i64) p1) (fills_cons rfl (VWelcome.u1 (⟨p1, (0 : Int), SView.zero, (⟨none, 0, 0⟩ : Sl), (Vector.replicate 32 (0 : Int))⟩ : VWelcome) x32) rfl (Ty.len (tyI .i64) x32) (fills_cons rfl (VWelcome.u2 (⟨p1, x32, SView.zero, (⟨none, 0, 0⟩ : Sl), (Vector.replicate 32 (0 : Int))⟩ : VWelcome) x33) rfl (Ty.len tySView x33) (fills_cons rfl (VWelcome.u3 (⟨p1, x32, x33, (⟨none, 0, 0⟩ : Sl), (Vector.replicate 32 (0 : Int))⟩ : VWelcome) r31) rfl (Ty.len tySl r31) (fills_cons rfl (VWelcome.u4 (⟨p1, x32, x33, r31, (Vector.replicate 32 (0 : Int))⟩ : VWelcome) p3) rfl (Ty.len (Ty.arr 32 (tyI .u8)) p3) fills_nil)))))) .nil .nil ?_
   refine tk (i := 12) rfl (by kernel_rfl) rfl (yv_move rfl rfl) .nil .nil ?_
   refine jg_one (i := 13) (by kernel_rfl) (gst rfl rfl (so_sta ti103 rfl rfl rfl rfl (Upd.refl (xs := (tyVWelcome.enc (⟨(0 : Int), (0 : Int), SView.zero, (⟨none, 0, 0⟩ : Sl), (Vector.replicate 32 (0 : Int))⟩ : VWelcome))) (ys := (tyVWelcome.enc (⟨p1, x32, x33, r31, p3⟩ : VWelcome))) (by simp only [Ty.len])) (Ty.len _ _) (Ty.one _ _) (xs' := tyVWelcome.enc (⟨p1, x32, x33, r31, p3⟩ : VWelcome)) se5 ?_))
   refine ng (.cons at7 .nil) (.cons at1 .nil) ?_
   refine tk (i := 14) rfl (by kernel_rfl) rfl (yv_assign rfl rfl) .nil .nil ?_
   refine jg_nil (by kernel_rfl) ?_
   refine jx_then ?_
   refine jc_ret ?_
   cases h
   exact jx_ret rfl (rr_cella ti103 rfl at5 (Ty.len _ _) (rr_tmp rfl rr_nil)) ⟨(r31), rfl, rfl, rfl, rfl⟩ (.cons de0 .nil) .nil rfl (by simp)
  have hs1_20_4 : ∀ (b1_16 : Nat), J1_20 [] [fa false mBl b1_7 (tyVpartyParty.enc (⟨x20.v, x20.leaf, u1_7_2, x20.own, x20.has', x20.nodes, x20.epoch, x20.init'⟩ : VpartyParty))] 1 #[true, true, true, true, true, true, true, true, true, true, true, true, false] [(0, .pointer v0), (1, .int .i64 p1), (7, pt b1 0), (8, pt b2 0), (9, pt b3 0), (10, pt b4 0), (11, .int .i64 0), (12, pt b1_16 0), (25, ag ((Ty.arr 32 (tyI .u8)).enc x1_15))] [.blk b1_16 25 ((Ty.arr 32 (tyI .u8)).enc (Vector.replicate 32 (0 : Int))), .blk b4 103 (tyVWelcome.enc (⟨(0 : Int), (0 : Int), SView.zero, (⟨none, 0, 0⟩ : Sl), (Vector.replicate 32 (0 : Int))⟩ : VWelcome)), .blk b3 25 ((Ty.arr 32 (tyI .u8)).enc p4), .blk b2 25 ((Ty.arr 32 (tyI .u8)).enc p3), .blk b1 25 ((Ty.arr 32 (tyI .u8)).enc p2)] [fa false mKey u1_7_2 x20.signer, fa false mBl b1_7 (tyVpartyParty.enc (⟨x20.v, x20.leaf, u1_7_2, x20.own, x20.has', x20.nodes, x20.epoch, x20.init'⟩ : VpartyParty)), fa false mSpartyParty (⟨x20.v, x20.leaf, u1_7_2, x20.own, x20.has', x20.nodes, x20.epoch, x20.init'⟩ : VpartyParty) x20, fa false (mPt tyVpartyParty mSpartyParty) v0 p0] := by
   intro b1_16
   refine hJ1_20_1 _ _ _ _ _ _ _ ?_
   refine jg_ready (rs := [12]) (by kernel_rfl) (by simp) (.cons ?_ .nil)
   ·
    refine gst rfl rfl (so_sta ti25 rfl rfl rfl rfl (Upd.refl (by simp [Ty.len])) (Ty.len _ _) (Ty.one _ _) (xs' := (Ty.arr 32 (tyI .u8)).enc x1_15) se0 ?_)
    refine ng .nil (.cons at1 .nil) ?_
    refine jg_ls (listed' := #[true, true, true, true, true, true, true, true, true, true, true, true, true]) (by kernel_rfl) ?_
    exact nj_weak (hJ1_20_2 _ _ _ _ _ _ _ (hs1_20_5 b1_16)) ⟨rfl, rfl, rfl, rfl, rfl, rfl, rfl, rfl, trivial⟩ (.cons de0 (.cons de0 (.cons de0 (.cons de0 (.cons de0 .nil))))) (.cons at0 (.cons at1 (.cons at2 (.cons at3 .nil))))
  have hs1_20_3 : ∀ (b1_16 : Nat), J1_20 [] [fa false mBl b1_7 (tyVpartyParty.enc (⟨x20.v, x20.leaf, u1_7_2, x20.own, x20.has', x20.nodes, x20.epoch, x20.init'⟩ : VpartyParty))] 3 #[true, true, true, true, true, true, true, true, true, false, false, true, false] [(0, .pointer v0), (1, .int .i64 p1), (7, pt b1 0), (8, pt b2 0), (9, pt b3 0), (10, pt b4 0), (11, .int .i64 0), (12, pt b1_16 0), (21, .int .i64 y1_11), (23, pt b1_7 (0 + 110))] [.blk b1_16 25 ((Ty.arr 32 (tyI .u8)).enc (Vector.replicate 32 (0 : Int))), .blk b4 103 (tyVWelcome.enc (⟨(0 : Int), (0 : Int), SView.zero, (⟨none, 0, 0⟩ : Sl), (Vector.replicate 32 (0 : Int))⟩ : VWelcome)), .blk b3 25 ((Ty.arr 32 (tyI .u8)).enc p4), .blk b2 25 ((Ty.arr 32 (tyI .u8)).enc p3), .blk b1 25 ((Ty.arr 32 (tyI .u8)).enc p2)] [fa false mKey u1_7_2 x20.signer, fa false mBl b1_7 (tyVpartyParty.enc (⟨x20.v, x20.leaf, u1_7_2, x20.own, x20.has', x20.nodes, x20.epoch, x20.init'⟩ : VpartyParty)), fa false mSpartyParty (⟨x20.v, x20.leaf, u1_7_2, x20.own, x20.has', x20.nodes, x20.epoch, x20.init'⟩ : VpartyParty) x20, fa false (mPt tyVpartyParty mSpartyParty) v0 p0] := by
   intro b1_16
   refine hJ1_20_1 _ _ _ _ _ _ _ ?_
   refine tk (i := 9) rfl (by kernel_rfl) rfl (yv_ia ia141 rfl rfl rfl g1_14) .nil .nil ?_
   refine tk (i := 10) rfl (by kernel_rfl) rfl (yxg (C := (Ty.arr 32 (tyI .u8))) hx1_15 (yv_ldb ti25 rfl rfl (rd_f at0) (((Sub.refl _).trans (VpartyParty.s5 (⟨x20.v, x20.leaf, u1_7_2, x20.own, x20.has', x20.nodes, x20.epoch, x20.init'⟩ : VpartyParty))).trans (arr_sub (Ty.arr 32 (tyI .u8)) x20.nodes y1_11 g1_14)) (Ty.len _ _) (by simp))) .nil (.cons at0 .nil) ?_
   refine jg_ready (rs := [12]) (by kernel_rfl) (by simp) (.cons ?_ .nil)
   ·
    refine gst rfl rfl (so_sta ti25 rfl rfl rfl rfl (Upd.refl (by simp [Ty.len])) (Ty.len _ _) (Ty.one _ _) (xs' := (Ty.arr 32 (tyI .u8)).enc x1_15) se0 ?_)
    refine ng .nil (.cons at1 .nil) ?_
    refine jg_ls (listed' := #[true, true, true, true, true, true, true, true, true, true, true, true, true]) (by kernel_rfl) ?_
    exact nj_weak (hJ1_20_2 _ _ _ _ _ _ _ (hs1_20_5 b1_16)) ⟨rfl, rfl, rfl, rfl, rfl, rfl, rfl, rfl, trivial⟩ (.cons de0 (.cons de0 (.cons de0 (.cons de0 (.cons de0 .nil))))) (.cons at0 (.cons at1 (.cons at2 (.cons at3 .nil))))
  have hs1_20_2 : ∀ (b1_16 : Nat), J1_20 [] [fa false mBl b1_7 (tyVpartyParty.enc (⟨x20.v, x20.leaf, u1_7_2, x20.own, x20.has', x20.nodes, x20.epoch, x20.init'⟩ : VpartyParty))] 4 #[true, true, true, true, true, true, false, true, true, false, false, true, false] [(0, .pointer v0), (1, .int .i64 p1), (7, pt b1 0), (8, pt b2 0), (9, pt b3 0), (10, pt b4 0), (11, .int .i64 0), (12, pt b1_16 0), (19, .int .i64 x1_9), (20, .int .i64 p1), (23, pt b1_7 (0 + 110))] [.blk b1_16 25 ((Ty.arr 32 (tyI .u8)).enc (Vector.replicate 32 (0 : Int))), .blk b4 103 (tyVWelcome.enc (⟨(0 : Int), (0 : Int), SView.zero, (⟨none, 0, 0⟩ : Sl), (Vector.replicate 32 (0 : Int))⟩ : VWelcome)), .blk b3 25 ((Ty.arr 32 (tyI .u8)).enc p4), .blk b2 25 ((Ty.arr 32 (tyI .u8)).enc p3), .blk b1 25 ((Ty.arr 32 (tyI .u8)).enc p2)] [fa false mKey u1_7_2 x20.signer, fa false mBl b1_7 (tyVpartyParty.enc (⟨x20.v, x20.leaf, u1_7_2, x20.own, x20.has', x20.nodes, x20.epoch, x20.init'⟩ : VpartyParty)), fa false mSpartyParty (⟨x20.v, x20.leaf, u1_7_2, x20.own, x20.has', x20.nodes, x20.epoch, x20.init'⟩ : VpartyParty) x20, fa false (mPt tyVpartyParty mSpartyParty) v0 p0] := by
   intro b1_16
   refine hJ1_20_1 _ _ _ _ _ _ _ ?_
   refine jg_ready (rs := [6]) (by kernel_rfl) (by simp) (.cons ?_ .nil)
   ·
    refine gst rfl rfl (so_callv pf130 rfl rfl rfl rfl (fun σ hs => F130_c hy1_11 σ.w σ.O hs.olt) ?_)
    refine ng .nil (.cons at1 .nil) ?_
    refine jg_ls (listed' := #[true, true, true, true, true, true, true, true, true, false, false, true, false]) (by kernel_rfl) ?_
    exact nj_weak (hJ1_20_2 _ _ _ _ _ _ _ (hs1_20_3 b1_16)) ⟨rfl, rfl, rfl, rfl, rfl, rfl, rfl, rfl, rfl, rfl, trivial⟩ (.cons de0 (.cons de0 (.cons de0 (.cons de0 (.cons de0 .nil))))) (.cons at0 (.cons at1 (.cons at2 (.cons at3 .nil))))
  have hs1_20_1 : J1_20 [] [fa false mBl b1_7 (tyVpartyParty.enc (⟨x20.v, x20.leaf, u1_7_2, x20.own, x20.has', x20.nodes, x20.epoch, x20.init'⟩ : VpartyParty))] 4 #[true, true, true, true, true, true, true, true, true, false, false, false, false] [(0, .pointer v0), (1, .int .i64 p1), (7, pt b1 0), (8, pt b2 0), (9, pt b3 0), (10, pt b4 0), (11, .int .i64 0), (21, .int .i64 y1_11), (23, pt b1_7 (0 + 110))] [.blk b4 103 (tyVWelcome.enc (⟨(0 : Int), (0 : Int), SView.zero, (⟨none, 0, 0⟩ : Sl), (Vector.replicate 32 (0 : Int))⟩ : VWelcome)), .blk b3 25 ((Ty.arr 32 (tyI .u8)).enc p4), .blk b2 25 ((Ty.arr 32 (tyI .u8)).enc p3), .blk b1 25 ((Ty.arr 32 (tyI .u8)).enc p2)] [fa false mKey u1_7_2 x20.signer, fa false mBl b1_7 (tyVpartyParty.enc (⟨x20.v, x20.leaf, u1_7_2, x20.own, x20.has', x20.nodes, x20.epoch, x20.init'⟩ : VpartyParty)), fa false mSpartyParty (⟨x20.v, x20.leaf, u1_7_2, x20.own, x20.has', x20.nodes, x20.epoch, x20.init'⟩ : VpartyParty) x20, fa false (mPt tyVpartyParty mSpartyParty) v0 p0] := by
   refine hJ1_20_1 _ _ _ _ _ _ _ ?_
   refine tk (i := 9) rfl (by kernel_rfl) rfl (yv_ia ia141 rfl rfl rfl g1_14) .nil .nil ?_
   refine tk (i := 10) rfl (by kernel_rfl) rfl (yxg (C := (Ty.arr 32 (tyI .u8))) hx1_15 (yv_ldb ti25 rfl rfl (rd_f at0) (((Sub.refl _).trans (VpartyParty.s5 (⟨x20.v, x20.leaf, u1_7_2, x20.own, x20.has', x20.nodes, x20.epoch, x20.init'⟩ : VpartyParty))).trans (arr_sub (Ty.arr 32 (tyI .u8)) x20.nodes y1_11 g1_14)) (Ty.len _ _) (by simp))) .nil (.cons at0 .nil) ?_
   refine jg_ready (rs := [11]) (by kernel_rfl) (by simp) (.cons ?_ .nil)
   ·
    refine gst rfl rfl (so_alloc ti25 (by decide) rfl rfl fun b1_16 => ?_)
    refine ng .nil (.cons at1 .nil) ?_
    refine jg_ls (listed' := #[true, true, true, true, true, true, true, true, true, true, true, true, false]) (by kernel_rfl) ?_
    exact nj_weak (hJ1_20_2 _ _ _ _ _ _ _ (hs1_20_4 b1_16)) ⟨rfl, rfl, rfl, rfl, rfl, rfl, rfl, rfl, rfl, trivial⟩ (.cons de0 (.cons de0 (.cons de0 (.cons de0 (.cons de0 .nil))))) (.cons at0 (.cons at1 (.cons at2 (.cons at3 .nil))))
  refine hJ1_20_1 _ _ _ _ _ _ _ ?_
  refine jg_ready (rs := [6, 11]) (by kernel_rfl) (by simp) (.cons ?_ (.cons ?_ .nil))
  ·
   refine gst rfl rfl (so_callv pf130 rfl rfl rfl rfl (fun σ hs => F130_c hy1_11 σ.w σ.O hs.olt) ?_)
   refine ng .nil (.cons at1 .nil) ?_
   refine jg_ls (listed' := #[true, true, true, true, true, true, true, true, true, false, false, false, false]) (by kernel_rfl) ?_
   exact nj_weak (hJ1_20_2 _ _ _ _ _ _ _ (hs1_20_1)) ⟨rfl, rfl, rfl, rfl, rfl, rfl, rfl, rfl, rfl, trivial⟩ (.cons de0 (.cons de0 (.cons de0 (.cons de0 .nil)))) (.cons at0 (.cons at1 (.cons at2 (.cons at3 .nil))))
  ·
   refine gst rfl rfl (so_alloc ti25 (by decide) rfl rfl fun b1_16 => ?_)
   refine ng .nil (.cons at1 .nil) ?_
   refine jg_ls (listed' := #[true, true, true, true, true, true, false, true, true, false, false, true, false]) (by kernel_rfl) ?_
   exact nj_weak (hJ1_20_2 _ _ _ _ _ _ _ (hs1_20_2 b1_16)) ⟨rfl, rfl, rfl, rfl, rfl, rfl, rfl, rfl, rfl, rfl, rfl, trivial⟩ (.cons de0 (.cons de0 (.cons de0 (.cons de0 (.cons de0 .nil))))) (.cons at0 (.cons at1 (.cons at2 (.cons at3 .nil))))
theorem F32_c {p0 : (Option SpartyParty)} {p1 : (List SOp)} {p2 : (List SVote)} {p3 : (Vector Int 32)} {r : SCommit × (List SWelcome) × (Option SpartyParty) × Int} (h : F32 p0 p1 p2 p3 = some r) (w0 : World) (O0 : Nat → Prop) (hO : ∀ k, O0 k → k < w0.heap.size) (v0 : (Option Addr)) (v1 : Sl) (v2 : Sl) (k0 : (fa true (mPt tyVpartyParty mSpartyParty) v0 p0).p ⟨w0, O0, inL []⟩) (k1 : (fa false (mRow tySOp) v1 p1).p ⟨w0, O0, inL []⟩) (k2 : (fa false (mRow tySVote) v2 p2).p ⟨w0, O0, inL []⟩) :
  CallsP Tryz.prog 32 (List.toArray [.pointer v0, sv v1, sv v2, ag ((Ty.arr 32 (tyI .u8)).enc p3)]) w0 O0 [] (RX (fun x : Sl × Sl × Sl × (List Sl) × Sl × (List VWelcome) × (Option Addr) => .tuple #[ag (tyVCommit.enc (⟨r.1.Epoch, r.1.From, x.1, x.2.1, r.1.Seal, r.1.Path, x.2.2.1, r.1.Tag, r.1.Sig⟩ : VCommit)), sv x.2.2.2.2.1, .pointer x.2.2.2.2.2.2, .int .i64 r.2.2.2]) (fun x => [.sli x.2.2.1 97 tySl.size (x.2.2.2.1).length (tySl.many x.2.2.2.1), .sli x.2.2.2.2.1 103 tyVWelcome.size (x.2.2.2.2.2.1).length (tyVWelcome.many x.2.2.2.2.2.1)]) (fun x => [fa true (mRow tySOp) x.1 r.1.Ops, fa true (mRow tySVote) x.2.1 r.1.Votes, fa true (mAl (mRow (tyI .u8))) x.2.2.2.1 r.1.Boxes, fa true (mAl mSWelcome) x.2.2.2.2.2.1 r.2.1, fa true (mPt tyVpartyParty mSpartyParty) x.2.2.2.2.2.2 r.2.2.1])) := by
 unfold F32 at h
 refine calls_start (e := [(0, .pointer v0), (1, sv v1), (2, sv v2), (3, ag ((Ty.arr 32 (tyI .u8)).enc p3))]) (L := []) (K := [fa true (mPt tyVpartyParty mSpartyParty) v0 p0, fa false (mRow tySOp) v1 p1, fa false (mRow tySVote) v2 p2]) Tryz.func32 rfl rfl rfl ⟨rfl, rfl, rfl, rfl, trivial⟩ hO (by simp) .nil (alc k0 (alc k1 (alc k2 aln))) ?_
 refine jc_seq ?_
 refine jc_reg ?_
 refine sq rfl (so_boxa (by decide) rfl rfl rfl fun b1 => ?_)
 refine sq rfl (so_alloc ti38 (by decide) rfl rfl fun b2 => ?_)
 refine sqv rfl (yv_assign rfl rfl) ?_
 refine sqv rfl (yv_assign rfl rfl) ?_
 refine sqv rfl (yv_assign rfl rfl) ?_
 refine jl_nil ?_
 refine jx_then ?_
 refine jc_seq ?_
 refine jc_seq ?_
 refine jc_reg ?_
 refine sqv rfl (yv_move rfl rfl) ?_
 rcases moE h with ⟨hm_x3, h⟩ | ⟨x3, hm_x3, h⟩
 ·
  skip
  refine nj_pn0 at0 hm_x3 fun hn_n4 => ?_
  refine sqv rfl (yv_pn ipt22 rfl rfl rfl hn_n4) ?_
  refine jl_nil ?_
  refine jx_then ?_
  refine jc_t rfl ?_
  refine jc_seq ?_
  refine jc_reg ?_
  refine sqv rfl (yv_ldb ti38 rfl rfl (rd_bl at0) (Sub.refl _) (Ty.len _ _) (by simp)) ?_
  refine sq rfl (so_sta ti38 rfl rfl rfl rfl (Upd.refl (xs := (tyVCommit.enc (⟨(0 : Int), (0 : Int), (⟨none, 0, 0⟩ : Sl), (⟨none, 0, 0⟩ : Sl), (0 : Int), (Vector.replicate 3 (0 : Int)), (⟨none, 0, 0⟩ : Sl), (Vector.replicate 32 (0 : Int)), SSig.zero⟩ : VCommit))) (ys := (tyVCommit.enc (⟨(0 : Int), (0 : Int), (⟨none, 0, 0⟩ : Sl), (⟨none, 0, 0⟩ : Sl), (0 : Int), (Vector.replicate 3 (0 : Int)), (⟨none, 0, 0⟩ : Sl), (Vector.replicate 32 (0 : Int)), SSig.zero⟩ : VCommit))) (by simp only [Ty.len])) (Ty.len _ _) (Ty.one _ _) (xs' := tyVCommit.enc (⟨(0 : Int), (0 : Int), (⟨none, 0, 0⟩ : Sl), (⟨none, 0, 0⟩ : Sl), (0 : Int), (Vector.replicate 3 (0 : Int)), (⟨none, 0, 0⟩ : Sl), (Vector.replicate 32 (0 : Int)), SSig.zero⟩ : VCommit)) se0 ?_)
  refine sqv rfl (yv_assign rfl rfl) ?_
  refine sqv rfl (yv_assign rfl rfl) ?_
  refine sqv rfl (yv_assign rfl rfl) ?_
  refine jl_nil ?_
  refine jx_then ?_
  refine jc_ret ?_
  refine jx_tr ?_
  refine nj_s (m := (mRow tySOp)) (v := (⟨none, 0, 0⟩ : Sl)) (p := ([] : (List SOp))) rq_nil ?_
  refine nj_s (m := (mRow tySVote)) (v := (⟨none, 0, 0⟩ : Sl)) (p := ([] : (List SVote))) rq_nil ?_
  refine nj_nil 97 tySl rfl ?_
  refine nj_s (m := mAl (mRow (tyI .u8))) (v := ([] : List Sl)) (p := []) rq_al0 ?_
  refine nj_nil 103 tyVWelcome rfl ?_
  refine nj_s (m := mAl mSWelcome) (v := ([] : List VWelcome)) (p := []) rq_al0 ?_
  refine nj_s (m := (mPt tyVpartyParty mSpartyParty)) (v := (none : Option Addr)) (p := none) rq_pt0 ?_
  cases h
  exact jx_ret rfl (rr_cella ti38 rfl at2 (Ty.len _ _) (rr_tmp rfl (rr_tmp rfl (rr_tmp rfl rr_nil)))) ⟨((⟨none, 0, 0⟩ : Sl), (⟨none, 0, 0⟩ : Sl), (⟨none, 0, 0⟩ : Sl), ([] : List Sl), (⟨none, 0, 0⟩ : Sl), ([] : List VWelcome), (none : Option Addr)), rfl, rfl, rfl, rfl⟩ (.cons de1 (.cons de0 .nil)) (.cons at4 (.cons at3 (.cons at2 (.cons at1 (.cons at0 .nil))))) rfl (by simp)
 ·
  skip
  refine nj_pn1 at0 hm_x3 fun hn_n6 => ?_
  refine sqv rfl (yv_pn ipt22 rfl rfl rfl hn_n6) ?_
  refine jl_nil ?_
  refine jx_then ?_
  refine jc_f rfl ?_
  refine jc_skip ?_
  refine jx_then ?_
  refine jc_seq ?_
  refine jc_seq ?_
  refine jc_regd (k := 12) hmix rfl [] [] .nil .nil ?_
  refine tk (i := 0) rfl (by kernel_rfl) rfl (yv_move rfl rfl) .nil .nil ?_
  refine nj_xptX at0 hm_x3 fun b8 u9_ hv_b8 => ?_
  refine nj_xSpartyParty at1 fun u9_2 hu9 => ?_
  subst hu9
  refine tk (i := 1) rfl (by kernel_rfl) rfl (yv_nilp rfl rfl hv_b8) .nil .nil ?_
  refine tk (i := 2) rfl (by kernel_rfl) rfl (yv_fa fa143_0 rfl rfl) .nil .nil ?_
  obtain ⟨x10, hx10, h⟩ := letX h
  refine jg_reb (Ls' := []) (Ks' := [fa true mBl b8 (tyVpartyParty.enc (⟨x3.v, x3.leaf, u9_2, x3.own, x3.has', x3.nodes, x3.epoch, x3.init'⟩ : VpartyParty))]) .nil (.cons at1 .nil) .nil .nil ?_
  refine tk (i := 3) rfl (by kernel_rfl) rfl (yxg (C := tySView) hx10 (yv_ldb ti64 rfl rfl (rd_f at0) ((Sub.refl _).trans (VpartyParty.s0 (⟨x3.v, x3.leaf, u9_2, x3.own, x3.has', x3.nodes, x3.epoch, x3.init'⟩ : VpartyParty))) (Ty.len _ _) (by simp))) .nil (.cons at0 .nil) ?_
  refine tk (i := 4) rfl (by kernel_rfl) rfl (yv_move rfl rfl) .nil .nil ?_
  refine tk (i := 5) rfl (by kernel_rfl) rfl (yv_nilp rfl rfl hv_b8) .nil .nil ?_
  refine tk (i := 6) rfl (by kernel_rfl) rfl (yv_fa fa143_1 rfl rfl) .nil .nil ?_
  obtain ⟨x11, hx11, h⟩ := letX h
  refine tk (i := 7) rfl (by kernel_rfl) rfl (yxi hx11 (yv_ldb ti3 rfl rfl (rd_f at0) ((Sub.refl _).trans (VpartyParty.s1 (⟨x3.v, x3.leaf, u9_2, x3.own, x3.has', x3.nodes, x3.epoch, x3.init'⟩ : VpartyParty))) (Ty.len _ _) (fun _ => rfl))) .nil (.cons at0 .nil) ?_
  refine tk (i := 8) rfl (by kernel_rfl) rfl (yv_move rfl rfl) .nil .nil ?_
  refine tk (i := 9) rfl (by kernel_rfl) rfl (yv_move rfl rfl) .nil .nil ?_
  obtain ⟨y12, hy12, h⟩ := bdE h
  refine jg_one (i := 10) (by kernel_rfl) (gst rfl rfl (so_callv pf87 rfl rfl rfl rfl (fun σ hs => F87_c hy12 σ.w σ.O hs.olt v1 v2 (cw0 (rd_f at4) hs) (cw0 (rd_f at5) hs)) ?_))
  refine ng .nil (.cons at1 .nil) ?_
  refine tk (i := 11) rfl (by kernel_rfl) rfl (yv_assign rfl rfl) .nil .nil ?_
  refine jg_nil (by kernel_rfl) ?_
  refine jx_then ?_
  refine jc_seq ?_
  refine jc_reg ?_
  refine sqv rfl (yv_move rfl rfl) ?_
  obtain ⟨x13, hx13, h⟩ := letX h
  refine sqv rfl (yxb hx13 (yv_neq rfl rfl rfl)) ?_
  refine jl_nil ?_
  refine jx_then ?_
  rcases x13 with _ | _
  ·
   replace h := brF h
   refine jc_f rfl ?_
   refine jc_skip ?_
   refine jx_then ?_
   refine jc_seq ?_
   obtain ⟨x1_19, hx1_19, h⟩ := letX h
   obtain ⟨x1_23, hx1_23, h⟩ := letX h
   obtain ⟨y1_25, hy1_25, h⟩ := bdE h
   refine jc_regd (k := 22) hmix rfl [] [] .nil .nil ?_
   refine tk (i := 0) rfl (by kernel_rfl) rfl (yv_move rfl rfl) .nil .nil ?_
   refine tk (i := 1) rfl (by kernel_rfl) rfl (yv_nilp rfl rfl hv_b8) .nil .nil ?_
   refine tk (i := 2) rfl (by kernel_rfl) rfl (yv_fa fa143_0 rfl rfl) .nil .nil ?_
   refine jg_reb (Ls' := []) (Ks' := [fa true mBl b8 (tyVpartyParty.enc (⟨x3.v, x3.leaf, u9_2, x3.own, x3.has', x3.nodes, x3.epoch, x3.init'⟩ : VpartyParty))]) .nil (.cons at1 .nil) .nil .nil ?_
   refine tk (i := 3) rfl (by kernel_rfl) rfl (yxg (C := tySView) hx1_19 (yv_ldb ti64 rfl rfl (rd_f at0) ((Sub.refl _).trans (VpartyParty.s0 (⟨x3.v, x3.leaf, u9_2, x3.own, x3.has', x3.nodes, x3.epoch, x3.init'⟩ : VpartyParty))) (Ty.len _ _) (by simp))) .nil (.cons at0 .nil) ?_
   refine tk (i := 4) rfl (by kernel_rfl) rfl (yv_move rfl rfl) .nil .nil ?_
   refine tk (i := 5) rfl (by kernel_rfl) rfl (yv_nilp rfl rfl hv_b8) .nil .nil ?_
   refine tk (i := 6) rfl (by kernel_rfl) rfl (yv_fa fa143_1 rfl rfl) .nil .nil ?_
   refine tk (i := 7) rfl (by kernel_rfl) rfl (yxi hx1_23 (yv_ldb ti3 rfl rfl (rd_f at0) ((Sub.refl _).trans (VpartyParty.s1 (⟨x3.v, x3.leaf, u9_2, x3.own, x3.has', x3.nodes, x3.epoch, x3.init'⟩ : VpartyParty))) (Ty.len _ _) (fun _ => rfl))) .nil (.cons at0 .nil) ?_
   refine tk (i := 8) rfl (by kernel_rfl) rfl (yv_move rfl rfl) .nil .nil ?_
   refine jg_nm2 ?_
   intro J6_39 hJ6_39_1 hJ6_39_2
   have hs6_39_25 : ∀ (b1_31 : Nat) (b1_32 : Nat) (b1_33 : Nat), J6_39 [] [fa true mBl b8 (tyVpartyParty.enc (⟨x3.v, x3.leaf, u9_2, x3.own, x3.has', x3.nodes, x3.epoch, x3.init'⟩ : VpartyParty))] 1 #[true, true, true, true, true, true, true, true, true, true, true, true, true, true, true, true, true, true, true, true, true, false] [(0, .pointer v0), (1, sv v1), (2, sv v2), (7, pt b1 0), (8, pt b2 0), (9, sv (⟨none, 0, 0⟩ : Sl)), (10, .pointer (none : Option Addr)), (11, .int .i64 0), (13, pt b1_31 0), (14, pt b1_32 0), (56, .int .i64 y1_25.2.2.2)] [.blk b1_33 62 ((Ty.arr 8 tyB).enc y1_25.2.2.1), .blk b1_32 62 ((Ty.arr 8 tyB).enc y1_25.2.1), .blk b1_31 64 (tySView.enc y1_25.1), .blk b2 38 (tyVCommit.enc (⟨(0 : Int), (0 : Int), (⟨none, 0, 0⟩ : Sl), (⟨none, 0, 0⟩ : Sl), (0 : Int), (Vector.replicate 3 (0 : Int)), (⟨none, 0, 0⟩ : Sl), (Vector.replicate 32 (0 : Int)), SSig.zero⟩ : VCommit)), .blk b1 25 ((Ty.arr 32 (tyI .u8)).enc p3)] [fa true mKey u9_2 x3.signer, fa true mBl b8 (tyVpartyParty.enc (⟨x3.v, x3.leaf, u9_2, x3.own, x3.has', x3.nodes, x3.epoch, x3.init'⟩ : VpartyParty)), fa true mSpartyParty (⟨x3.v, x3.leaf, u9_2, x3.own, x3.has', x3.nodes, x3.epoch, x3.init'⟩ : VpartyParty) x3, fa true (mPt tyVpartyParty mSpartyParty) v0 p0, fa false (mRow tySOp) v1 p1, fa false (mRow tySVote) v2 p2] := by
    intro b1_31 b1_32 b1_33
    refine hJ6_39_1 _ _ _ _ _ _ _ ?_
    refine tk (i := 21) rfl (by kernel_rfl) rfl (yv_assign rfl rfl) .nil .nil ?_
    refine jg_nil (by kernel_rfl) ?_
    refine jx_then ?_
    refine jc_seq ?_
    refine jc_seq_n ?_
    intro N0 hN0
    have hj0 : ∀ (j45 : Bool), F32_j0 p0 x3 p1 p2 p3 y1_25 j45 = some r → NJ 168 w0 O0 [] N0 [(0, .pointer v0), (1, sv v1), (2, sv v2), (7, pt b1 0), (8, pt b2 0), (9, sv (⟨none, 0, 0⟩ : Sl)), (10, .pointer (none : Option Addr)), (11, .int .i64 0), (13, pt b1_31 0), (14, pt b1_32 0), (16, .int .i64 y1_25.2.2.2), (66, .bool j45)] [.blk b1_32 62 ((Ty.arr 8 tyB).enc y1_25.2.1), .blk b1_31 64 (tySView.enc y1_25.1), .blk b2 38 (tyVCommit.enc (⟨(0 : Int), (0 : Int), (⟨none, 0, 0⟩ : Sl), (⟨none, 0, 0⟩ : Sl), (0 : Int), (Vector.replicate 3 (0 : Int)), (⟨none, 0, 0⟩ : Sl), (Vector.replicate 32 (0 : Int)), SSig.zero⟩ : VCommit)), .blk b1 25 ((Ty.arr 32 (tyI .u8)).enc p3)] [fa true (mPt tyVpartyParty mSpartyParty) v0 p0, fa false (mRow tySOp) v1 p1, fa false (mRow tySVote) v2 p2] := by
     intro j45 h
     unfold F32_j0 at h
     refine nj_abs hN0 ?_
     refine jc_then_n ?_
     intro N1 hN1
     have hj1 : ∀ (j3_46 : Int), F32_j1 p0 x3 p1 p2 p3 y1_25 j3_46 = some r → NJ 168 w0 O0 [] N1 [(0, .pointer v0), (1, sv v1), (2, sv v2), (7, pt b1 0), (8, pt b2 0), (9, sv (⟨none, 0, 0⟩ : Sl)), (10, .pointer (none : Option Addr)), (11, .int .i64 0), (13, pt b1_31 0), (14, pt b1_32 0), (16, .int .i64 j3_46)] [.blk b1_32 62 ((Ty.arr 8 tyB).enc y1_25.2.1), .blk b1_31 64 (tySView.enc y1_25.1), .blk b2 38 (tyVCommit.enc (⟨(0 : Int), (0 : Int), (⟨none, 0, 0⟩ : Sl), (⟨none, 0, 0⟩ : Sl), (0 : Int), (Vector.replicate 3 (0 : Int)), (⟨none, 0, 0⟩ : Sl), (Vector.replicate 32 (0 : Int)), SSig.zero⟩ : VCommit)), .blk b1 25 ((Ty.arr 32 (tyI .u8)).enc p3)] [fa true (mPt tyVpartyParty mSpartyParty) v0 p0, fa false (mRow tySOp) v1 p1, fa false (mRow tySVote) v2 p2] := by
      intro j3_46 h
      unfold F32_j1 at h
      refine nj_abs hN1 ?_
      refine jc_seq ?_
      refine jc_seq ?_
      refine jc_reg ?_
      refine sqv rfl (yv_move rfl rfl) ?_
      obtain ⟨x1_46_4, hx1_46_4, h⟩ := letX h
      refine sqv rfl (yxb hx1_46_4 (yv_neq rfl rfl rfl)) ?_
      refine jl_nil ?_
      refine jx_then ?_
      rcases x1_46_4 with _ | _
      ·
       replace h := brF h
       refine jc_f rfl ?_
       refine jc_skip ?_
       refine jx_then ?_
       refine jc_seq ?_
       refine jc_reg ?_
       refine sqv rfl (yv_move rfl rfl) ?_
       obtain ⟨y4_46_4, hy4_46_4, h⟩ := bdE h
       refine sq rfl (so_callx pf45 rfl rfl rfl rfl (fun σ hs => F45_c hy4_46_4 σ.w σ.O hs.olt v0 (cs0 (rs_f at0) hs)) (fun _ => (.cons .nil)) (fun _ => (.cons (.cons .nil))) (fun ⟨r5_46_4, r6_46_4⟩ => ?_))
       refine sqv rfl (yv_assign rfl rfl) ?_
       refine jl_nil ?_
       refine jx_then ?_
       refine jc_seq ?_
       refine jc_regd (k := 13) hmix rfl [] [] .nil .nil ?_
       refine tk (i := 0) rfl (by kernel_rfl) rfl (yv_move rfl rfl) .nil .nil ?_
       refine nj_xptX at2 hm_x3 fun b7_46_4 u8_46_4_ hv_b7_46_4 => ?_
       refine nj_xSpartyParty at1 fun u8_46_4_2 hu8_46_4 => ?_
       subst hu8_46_4
       refine tk (i := 1) rfl (by kernel_rfl) rfl (yv_nilp rfl rfl hv_b7_46_4) .nil .nil ?_
       refine tk (i := 2) rfl (by kernel_rfl) rfl (yv_fa fa143_0 rfl rfl) .nil .nil ?_
       refine tk (i := 3) rfl (by kernel_rfl) rfl (yv_fa fa64_0 rfl rfl) .nil .nil ?_
       obtain ⟨x9_46_4, hx9_46_4, h⟩ := letX h
       refine jg_reb (Ls' := []) (Ks' := [fa true mBl b7_46_4 (tyVpartyParty.enc (⟨x3.v, x3.leaf, u8_46_4_2, x3.own, x3.has', x3.nodes, x3.epoch, x3.init'⟩ : VpartyParty))]) .nil (.cons at1 .nil) .nil .nil ?_
       refine tk (i := 4) rfl (by kernel_rfl) rfl (yxi hx9_46_4 (yv_ldb ti3 rfl rfl (rd_f at0) (((Sub.refl _).trans (VpartyParty.s0 (⟨x3.v, x3.leaf, u8_46_4_2, x3.own, x3.has', x3.nodes, x3.epoch, x3.init'⟩ : VpartyParty))).trans (SView.s0 x3.v)) (Ty.len _ _) (fun _ => rfl))) .nil (.cons at0 .nil) ?_
       refine tk (i := 5) rfl (by kernel_rfl) rfl (yv_move rfl rfl) .nil .nil ?_
       refine tk (i := 6) rfl (by kernel_rfl) rfl (yv_nilp rfl rfl hv_b7_46_4) .nil .nil ?_
       refine tk (i := 7) rfl (by kernel_rfl) rfl (yv_fa fa143_1 rfl rfl) .nil .nil ?_
       obtain ⟨x10_46_4, hx10_46_4, h⟩ := letX h
       refine tk (i := 8) rfl (by kernel_rfl) rfl (yxi hx10_46_4 (yv_ldb ti3 rfl rfl (rd_f at0) ((Sub.refl _).trans (VpartyParty.s1 (⟨x3.v, x3.leaf, u8_46_4_2, x3.own, x3.has', x3.nodes, x3.epoch, x3.init'⟩ : VpartyParty))) (Ty.len _ _) (fun _ => rfl))) .nil (.cons at0 .nil) ?_
       refine tk (i := 9) rfl (by kernel_rfl) rfl (yv_fa fa38_0 rfl rfl) .nil .nil ?_
       refine jg_one (i := 10) (by kernel_rfl) (gst rfl rfl (so_st1 ti3 rfl rfl rfl rfl rfl (Upd.comp (Sub.refl _) (VCommit.u0 (⟨(0 : Int), (0 : Int), (⟨none, 0, 0⟩ : Sl), (⟨none, 0, 0⟩ : Sl), (0 : Int), (Vector.replicate 3 (0 : Int)), (⟨none, 0, 0⟩ : Sl), (Vector.replicate 32 (0 : Int)), SSig.zero⟩ : VCommit) x9_46_4) (Upd.refl (by simp [Ty.len]))) (xs' := tyVCommit.enc (⟨x9_46_4, (0 : Int), (⟨none, 0, 0⟩ : Sl), (⟨none, 0, 0⟩ : Sl), (0 : Int), (Vector.replicate 3 (0 : Int)), (⟨none, 0, 0⟩ : Sl), (Vector.replicate 32 (0 : Int)), SSig.zero⟩ : VCommit)) se3 ?_))
       refine ng .nil (.cons at1 .nil) ?_
       refine tk (i := 11) rfl (by kernel_rfl) rfl (yv_fa fa38_1 rfl rfl) .nil .nil ?_
       refine jg_one (i := 12) (by kernel_rfl) (gst rfl rfl (so_st1 ti3 rfl rfl rfl rfl rfl (Upd.comp (Sub.refl _) (VCommit.u1 (⟨x9_46_4, (0 : Int), (⟨none, 0, 0⟩ : Sl), (⟨none, 0, 0⟩ : Sl), (0 : Int), (Vector.replicate 3 (0 : Int)), (⟨none, 0, 0⟩ : Sl), (Vector.replicate 32 (0 : Int)), SSig.zero⟩ : VCommit) x10_46_4) (Upd.refl (by simp [Ty.len]))) (xs' := tyVCommit.enc (⟨x9_46_4, x10_46_4, (⟨none, 0, 0⟩ : Sl), (⟨none, 0, 0⟩ : Sl), (0 : Int), (Vector.replicate 3 (0 : Int)), (⟨none, 0, 0⟩ : Sl), (Vector.replicate 32 (0 : Int)), SSig.zero⟩ : VCommit)) se3 ?_))
       refine ng .nil (.cons at1 .nil) ?_
       refine jg_nil (by kernel_rfl) ?_
       refine jx_then ?_
       refine jc_seq ?_
       refine jc_reg ?_
       refine sqv rfl (yv_fa fa38_2 rfl rfl) ?_
       refine sqv rfl (yv_ldb ti31 rfl rfl (rd_bl at3) ((Sub.refl _).trans (VCommit.s2 (⟨x9_46_4, x10_46_4, (⟨none, 0, 0⟩ : Sl), (⟨none, 0, 0⟩ : Sl), (0 : Int), (Vector.replicate 3 (0 : Int)), (⟨none, 0, 0⟩ : Sl), (Vector.replicate 32 (0 : Int)), SSig.zero⟩ : VCommit))) (Ty.len _ _) (fun _ => rfl)) ?_
       refine sqv rfl (yv_move rfl rfl) ?_
       refine nj_nil 54 tySOp rfl ?_
       obtain ⟨l11_46_4, hl11_46_4, h⟩ := letX h
       obtain ⟨g12_46_4, h⟩ := gdE h
       refine sq rfl (so_appX (C := tySOp) hl11_46_4 si31 rfl rfl rfl rfl de0 (rd_f at6) rfl g12_46_4 fun s13_46_4 => ?_)
       refine sqv rfl (yv_fa fa38_2 rfl rfl) ?_
       refine sq rfl (so_st1 ti31 rfl rfl rfl rfl rfl (Upd.comp (Sub.refl _) (VCommit.u2 (⟨x9_46_4, x10_46_4, (⟨none, 0, 0⟩ : Sl), (⟨none, 0, 0⟩ : Sl), (0 : Int), (Vector.replicate 3 (0 : Int)), (⟨none, 0, 0⟩ : Sl), (Vector.replicate 32 (0 : Int)), SSig.zero⟩ : VCommit) s13_46_4) (Upd.refl (by simp [Ty.len]))) (xs' := tyVCommit.enc (⟨x9_46_4, x10_46_4, s13_46_4, (⟨none, 0, 0⟩ : Sl), (0 : Int), (Vector.replicate 3 (0 : Int)), (⟨none, 0, 0⟩ : Sl), (Vector.replicate 32 (0 : Int)), SSig.zero⟩ : VCommit)) se4 ?_)
       refine jl_nil ?_
       refine jx_then ?_
       refine jc_seq ?_
       refine jc_reg ?_
       refine sqv rfl (yv_fa fa38_3 rfl rfl) ?_
       refine sqv rfl (yv_ldb ti32 rfl rfl (rd_bl at4) ((Sub.refl _).trans (VCommit.s3 (⟨x9_46_4, x10_46_4, s13_46_4, (⟨none, 0, 0⟩ : Sl), (0 : Int), (Vector.replicate 3 (0 : Int)), (⟨none, 0, 0⟩ : Sl), (Vector.replicate 32 (0 : Int)), SSig.zero⟩ : VCommit))) (Ty.len _ _) (fun _ => rfl)) ?_
       refine sqv rfl (yv_move rfl rfl) ?_
       refine nj_nil 182 tySVote rfl ?_
       obtain ⟨l14_46_4, hl14_46_4, h⟩ := letX h
       obtain ⟨g15_46_4, h⟩ := gdE h
       refine sq rfl (so_appX (C := tySVote) hl14_46_4 si32 rfl rfl rfl rfl de0 (rd_f at7) rfl g15_46_4 fun s16_46_4 => ?_)
       refine sqv rfl (yv_fa fa38_3 rfl rfl) ?_
       refine sq rfl (so_st1 ti32 rfl rfl rfl rfl rfl (Upd.comp (Sub.refl _) (VCommit.u3 (⟨x9_46_4, x10_46_4, s13_46_4, (⟨none, 0, 0⟩ : Sl), (0 : Int), (Vector.replicate 3 (0 : Int)), (⟨none, 0, 0⟩ : Sl), (Vector.replicate 32 (0 : Int)), SSig.zero⟩ : VCommit) s16_46_4) (Upd.refl (by simp [Ty.len]))) (xs' := tyVCommit.enc (⟨x9_46_4, x10_46_4, s13_46_4, s16_46_4, (0 : Int), (Vector.replicate 3 (0 : Int)), (⟨none, 0, 0⟩ : Sl), (Vector.replicate 32 (0 : Int)), SSig.zero⟩ : VCommit)) se5 ?_)
       refine jl_nil ?_
       refine jx_then ?_
       refine jc_seq ?_
       refine jc_reg ?_
       refine sqv rfl (yv_move rfl rfl) ?_
       refine sqv rfl (yv_ldb ti25 rfl rfl (rd_bl at6) (Sub.refl _) (Ty.len _ _) (by simp)) ?_
       rcases moE h with ⟨hm_x17_46_4, h⟩ | ⟨x17_46_4, hm_x17_46_4, h⟩
       ·
        skip
        obtain ⟨hno, h⟩ := gdE h
        exact hno.elim
       ·
        skip
        refine nj_xopt (C := tyVpartyParty) (m := mSpartyParty) de2 at4 at3 hm_x17_46_4 fun b18_46_4 hv_b18_46_4 => ?_
        subst hv_b18_46_4
        refine nj_xSpartyParty at0 fun u19_46_4_2 hu19_46_4 => ?_
        subst hu19_46_4
        refine nj_frz inout0 de2 ?_
        refine nj_frz inout0 de1 ?_
        refine nj_s (m := (mSl tySl (mRow (tyI .u8)))) (v := (⟨none, 0, 0⟩ : Sl)) (p := ([] : (List (List Int)))) (rq_sl rq_nil rq_al0) ?_
        obtain ⟨y20_46_4, hy20_46_4, h⟩ := bdE h
        refine sq rfl (so_callm2x pf89 rfl rfl rfl rfl rfl rfl at0 at3 (fun σ hs => (ne_of_own (.cons de0 (.cons de2 .nil)) rfl rfl hs)) (fun σ hs => F89_c hy20_46_4 σ.w σ.O hs.olt b18_46_4 u19_46_4_2 b2 s13_46_4 s16_46_4 (⟨none, 0, 0⟩ : Sl) (cs0 (rs_f at3) hs) (cs0 (rs_f at2) hs) (cs0 (rs_f at1) hs) (cs0 (rs_f at0) hs) (cm0 hs at0) (cm0 hs at3) (ne_of_own (.cons de0 (.cons de2 .nil)) rfl rfl hs)) (fun _ => se0) (fun _ => se3) (fun _ => rfl) (fun _ => rfl) (fun _ => .nil) (fun _ => (.cons (.cons (.cons (.cons .nil))))) (fun ⟨r21_46_4, r22_46_4, r23_46_4, r24_46_4⟩ => ?_))
        refine sq rfl (so_alloc ti25 (by decide) rfl rfl fun b25_46_4 => ?_)
        refine sq rfl (so_sta ti25 rfl rfl rfl rfl (Upd.refl (by simp [Ty.len])) (Ty.len _ _) (Ty.one _ _) (xs' := (Ty.arr 32 (tyI .u8)).enc y20_46_4.1) se0 ?_)
        refine jl_nil ?_
        refine jx_then ?_
        refine jc_seq ?_
        refine jc_reg ?_
        obtain ⟨x26_46_4, hx26_46_4, h⟩ := letX h
        refine sqv rfl (yxg (C := tySView) hx26_46_4 (yv_ldb ti64 rfl rfl (rd_bl at3) (Sub.refl _) (Ty.len _ _) (by simp))) ?_
        refine sqv rfl (yv_ldb ti38 rfl rfl (rd_bl at4) (Sub.refl _) (Ty.len _ _) (by simp)) ?_
        obtain ⟨y27_46_4, hy27_46_4, h⟩ := bdE h
        refine sq rfl (so_callv pf90 rfl rfl rfl rfl (fun σ hs => F90_c hy27_46_4 σ.w σ.O hs.olt r22_46_4 r23_46_4 r24_46_4 (cw0 (rd_f at1) hs) (cw0 (rd_f at2) hs) (cw0 (rd_f at3) hs)) ?_)
        refine sq rfl (so_sta ti64 rfl rfl rfl rfl (Upd.refl (by simp [Ty.len])) (Ty.len _ _) (Ty.one _ _) (xs' := tySView.enc y27_46_4) se3 ?_)
        refine jl_nil ?_
        refine jx_then ?_
        refine jc_seq ?_
        refine jc_seq ?_
        refine jc_reg ?_
        refine sqv rfl (yv_move rfl rfl) ?_
        refine sqv rfl (yv_ldb ti64 rfl rfl (rd_bl at3) (Sub.refl _) (Ty.len _ _) (by simp)) ?_
        obtain ⟨x28_46_4, hx28_46_4, h⟩ := letX h
        refine sqv rfl (yxg (C := (Ty.arr 8 tyB)) hx28_46_4 (yv_ldb ti62 rfl rfl (rd_bl at2) (Sub.refl _) (Ty.len _ _) (by simp))) ?_
        refine sqv rfl (yv_ldb ti25 rfl rfl (rd_bl at5) (Sub.refl _) (Ty.len _ _) (by simp)) ?_
        obtain ⟨y29_46_4, hy29_46_4, h⟩ := bdE h
        refine sq rfl (so_callx pf91 rfl rfl rfl rfl (fun σ hs => F91_c hy29_46_4 σ.w σ.O hs.olt (some ⟨b18_46_4, 0, none⟩) (cw0 (rq_pt (rd_bl at1) (rq_SpartyParty (rd_f at0))) hs)) (fun _ => (.cons .nil)) (fun _ => (.cons .nil)) (fun ⟨r30_46_4, r31_46_4⟩ => ?_))
        refine sqv rfl (yv_move rfl rfl) ?_
        refine sqv rfl (yv_ext rfl rfl rfl) ?_
        refine sqv rfl (yv_ext rfl rfl rfl) ?_
        refine sqv rfl (yv_fa fa38_6 rfl rfl) ?_
        refine sq rfl (so_st1 ti34 rfl rfl rfl rfl rfl (Upd.comp (Sub.refl _) (VCommit.u6 (⟨y20_46_4.2.2.Epoch, y20_46_4.2.2.From, r22_46_4, r23_46_4, y20_46_4.2.2.Seal, y20_46_4.2.2.Path, r24_46_4, y20_46_4.2.2.Tag, y20_46_4.2.2.Sig⟩ : VCommit) r30_46_4) (Upd.refl (by simp [Ty.len]))) (xs' := tyVCommit.enc (⟨y20_46_4.2.2.Epoch, y20_46_4.2.2.From, r22_46_4, r23_46_4, y20_46_4.2.2.Seal, y20_46_4.2.2.Path, r30_46_4, y20_46_4.2.2.Tag, y20_46_4.2.2.Sig⟩ : VCommit)) se5 ?_)
        refine sqv rfl (yv_assign rfl rfl) ?_
        refine jl_nil ?_
        refine jx_then ?_
        refine jc_seq ?_
        refine jc_reg ?_
        refine sqv rfl (yv_move rfl rfl) ?_
        obtain ⟨x32_46_4, hx32_46_4, h⟩ := letX h
        refine sqv rfl (yxb hx32_46_4 (yv_neq rfl rfl rfl)) ?_
        refine jl_nil ?_
        refine jx_then ?_
        rcases x32_46_4 with _ | _
        ·
         replace h := brF h
         refine jc_f rfl ?_
         refine jc_skip ?_
         refine jx_then ?_
         refine jc_seq ?_
         refine jc_regd (k := 8) hmix rfl [([], .blk b2 38 (tyVCommit.enc (⟨y20_46_4.2.2.Epoch, y20_46_4.2.2.From, r22_46_4, r23_46_4, y20_46_4.2.2.Seal, y20_46_4.2.2.Path, r30_46_4, y20_46_4.2.2.Tag, y20_46_4.2.2.Sig⟩ : VCommit)))] [fa true mBl b7_46_4 (tyVpartyParty.enc (⟨x3.v, x3.leaf, u8_46_4_2, x3.own, x3.has', x3.nodes, x3.epoch, x3.init'⟩ : VpartyParty))] (.cons at5 .nil) (.cons at11 .nil) ?_
         refine tk (i := 0) rfl (by kernel_rfl) rfl (yv_move rfl rfl) .nil .nil ?_
         refine tk (i := 1) rfl (by kernel_rfl) rfl (yv_nilp rfl rfl hv_b7_46_4) .nil .nil ?_
         refine tk (i := 2) rfl (by kernel_rfl) rfl (yv_fa fa143_0 rfl rfl) .nil .nil ?_
         obtain ⟨x39_46_4, hx39_46_4, h⟩ := letX h
         refine tk (i := 3) rfl (by kernel_rfl) rfl (yxg (C := tySView) hx39_46_4 (yv_ldb ti64 rfl rfl (rd_f at0) ((Sub.refl _).trans (VpartyParty.s0 (⟨x3.v, x3.leaf, u8_46_4_2, x3.own, x3.has', x3.nodes, x3.epoch, x3.init'⟩ : VpartyParty))) (Ty.len _ _) (by simp))) .nil (.cons at0 .nil) ?_
         refine tk (i := 4) rfl (by kernel_rfl) rfl (yv_ldb ti38 rfl rfl (rd_bl at0) (Sub.refl _) (Ty.len _ _) (by simp)) (.cons at0 (by kernel_rfl) .nil) .nil ?_
         obtain ⟨y40_46_4, hy40_46_4, h⟩ := bdE h
         refine jg_one (i := 5) (by kernel_rfl) (gst rfl rfl (so_callv pf92 rfl rfl rfl rfl (fun σ hs => F92_c hy40_46_4 σ.w σ.O hs.olt r22_46_4 r23_46_4 r30_46_4 (cw0 (rd_f at2) hs) (cw0 (rd_f at3) hs) (cw0 (rq_sl (rd_o at0) (rd_f at0)) hs)) ?_))
         refine ng (.cons at5 .nil) (.cons at11 .nil) ?_
         refine tk (i := 6) rfl (by kernel_rfl) rfl (yv_fa fa64_4 rfl rfl) .nil .nil ?_
         obtain ⟨c41_46_4, hc41_46_4, h⟩ := letX h
         refine jg_one (i := 7) (by kernel_rfl) (gst rfl rfl (so_staX (D := tySView) hc41_46_4 ti25 rfl rfl rfl rfl (Upd.comp (Sub.refl _) (SView.u4 y27_46_4 y40_46_4) (Upd.refl (by simp [Ty.len]))) (Ty.len _ _) (Ty.one _ _) se4 ?_))
         refine ng (.cons at5 .nil) (.cons at11 .nil) ?_
         refine jg_nil (by kernel_rfl) ?_
         refine jx_then ?_
         refine jc_seq ?_
         obtain ⟨x1_46_4_45, hx1_46_4_45, h⟩ := letX h
         obtain ⟨x1_46_4_46, hx1_46_4_46, h⟩ := letX h
         obtain ⟨y1_46_4_47, hy1_46_4_47, h⟩ := bdE h
         refine jc_regd (k := 8) hmix rfl [] [] .nil .nil ?_
         refine tk (i := 0) rfl (by kernel_rfl) rfl (yv_move rfl rfl) .nil .nil ?_
         refine tk (i := 1) rfl (by kernel_rfl) rfl (yv_nilp rfl rfl hv_b7_46_4) .nil .nil ?_
         refine tk (i := 2) rfl (by kernel_rfl) rfl (yv_fa fa143_7 rfl rfl) .nil .nil ?_
         refine jg_reb (Ls' := []) (Ks' := [fa true mBl b7_46_4 (tyVpartyParty.enc (⟨x3.v, x3.leaf, u8_46_4_2, x3.own, x3.has', x3.nodes, x3.epoch, x3.init'⟩ : VpartyParty))]) .nil (.cons at11 .nil) .nil .nil ?_
         refine tk (i := 3) rfl (by kernel_rfl) rfl (yxg (C := (Ty.arr 32 (tyI .u8))) hx1_46_4_45 (yv_ldb ti25 rfl rfl (rd_f at0) ((Sub.refl _).trans (VpartyParty.s7 (⟨x3.v, x3.leaf, u8_46_4_2, x3.own, x3.has', x3.nodes, x3.epoch, x3.init'⟩ : VpartyParty))) (Ty.len _ _) (by simp))) .nil (.cons at0 .nil) ?_
         refine jg_reb (Ls' := [([], .blk b25_46_4 25 ((Ty.arr 32 (tyI .u8)).enc y20_46_4.1))]) (Ks' := [fa true mBl b7_46_4 (tyVpartyParty.enc (⟨x3.v, x3.leaf, u8_46_4_2, x3.own, x3.has', x3.nodes, x3.epoch, x3.init'⟩ : VpartyParty))]) (.cons at1 .nil) (.cons at11 .nil) .nil (.cons at0 .nil) ?_
         refine tk (i := 4) rfl (by kernel_rfl) rfl (yxg (C := (Ty.arr 32 (tyI .u8))) hx1_46_4_46 (yv_ldb ti25 rfl rfl (rd_bl at0) (Sub.refl _) (Ty.len _ _) (by simp))) (.cons at0 (by kernel_rfl) .nil) .nil ?_
         refine jg_nm2 ?_
         intro J21_51 hJ21_51_1 hJ21_51_2
         have hs21_51_4 : ∀ (b1_46_4_48 : Nat), J21_51 [([], .blk b25_46_4 25 ((Ty.arr 32 (tyI .u8)).enc y20_46_4.1))] [fa true mBl b7_46_4 (tyVpartyParty.enc (⟨x3.v, x3.leaf, u8_46_4_2, x3.own, x3.has', x3.nodes, x3.epoch, x3.init'⟩ : VpartyParty))] 0 #[true, true, true, true, true, true, true, true] [(0, .pointer v0), (7, pt b1 0), (8, pt b2 0), (9, sv (⟨none, 0, 0⟩ : Sl)), (10, .pointer (none : Option Addr)), (11, .int .i64 0), (13, pt b1_31 0), (14, pt b1_32 0), (17, pt b18_46_4 0), (19, pt b1_46_4_48 0)] [.blk b1_46_4_48 25 ((Ty.arr 32 (tyI .u8)).enc y1_46_4_47), .sli r30_46_4 97 tySl.size (r31_46_4).length (tySl.many r31_46_4), .blk b25_46_4 25 ((Ty.arr 32 (tyI .u8)).enc y20_46_4.1), .blk b18_46_4 143 (tyVpartyParty.enc (⟨y20_46_4.2.1.v, y20_46_4.2.1.leaf, r21_46_4, y20_46_4.2.1.own, y20_46_4.2.1.has', y20_46_4.2.1.nodes, y20_46_4.2.1.epoch, y20_46_4.2.1.init'⟩ : VpartyParty)), .blk b1_32 62 ((Ty.arr 8 tyB).enc y1_25.2.1), .blk b1_31 64 (tySView.enc c41_46_4), .blk b2 38 (tyVCommit.enc (⟨y20_46_4.2.2.Epoch, y20_46_4.2.2.From, r22_46_4, r23_46_4, y20_46_4.2.2.Seal, y20_46_4.2.2.Path, r30_46_4, y20_46_4.2.2.Tag, y20_46_4.2.2.Sig⟩ : VCommit)), .blk b1 25 ((Ty.arr 32 (tyI .u8)).enc p3)] [fa true (mAl (mRow (tyI .u8))) r31_46_4 y29_46_4.1, fa true mKey r21_46_4 y20_46_4.2.1.signer, fa true (mRow tySOp) r22_46_4 y20_46_4.2.2.Ops, fa true (mRow tySVote) r23_46_4 y20_46_4.2.2.Votes, fa true (mSl tySl (mRow (tyI .u8))) r24_46_4 y20_46_4.2.2.Boxes, fa true (mSl tySl (mRow (tyI .u8))) (⟨none, 0, 0⟩ : Sl) ([] : (List (List Int))), fa true (mRow tySVote) s16_46_4 l14_46_4, fa true (mRow tySOp) s13_46_4 l11_46_4, fa true mKey u19_46_4_2 x17_46_4.signer, fa true mSpartyParty (⟨x17_46_4.v, x17_46_4.leaf, u19_46_4_2, x17_46_4.own, x17_46_4.has', x17_46_4.nodes, x17_46_4.epoch, x17_46_4.init'⟩ : VpartyParty) x17_46_4, fa true mKey u8_46_4_2 x3.signer, fa true mBl b7_46_4 (tyVpartyParty.enc (⟨x3.v, x3.leaf, u8_46_4_2, x3.own, x3.has', x3.nodes, x3.epoch, x3.init'⟩ : VpartyParty)), fa true mSpartyParty (⟨x3.v, x3.leaf, u8_46_4_2, x3.own, x3.has', x3.nodes, x3.epoch, x3.init'⟩ : VpartyParty) x3, fa true (mOp mSpartyParty) (⟨x17_46_4.v, x17_46_4.leaf, u19_46_4_2, x17_46_4.own, x17_46_4.has', x17_46_4.nodes, x17_46_4.epoch, x17_46_4.init'⟩ : VpartyParty) y4_46_4, fa true (mIsS SpartyParty) (some ⟨b18_46_4, 0, none⟩) y4_46_4, fa true (mPt tyVpartyParty mSpartyParty) v0 p0, fa false (mRow tySOp) v1 p1, fa false (mRow tySVote) v2 p2] := by
          intro b1_46_4_48
          refine hJ21_51_1 _ _ _ _ _ _ _ ?_
          refine jg_nil (by kernel_rfl) ?_
          refine jx_then ?_
          refine jc_seq ?_
          refine jc_reg ?_
          refine sqv rfl (yv_move rfl rfl) ?_
          refine sqv rfl (yv_ldb ti64 rfl rfl (rd_bl at5) (Sub.refl _) (Ty.len _ _) (by simp)) ?_
          refine sqv rfl (yv_ldb ti25 rfl rfl (rd_bl at0) (Sub.refl _) (Ty.len _ _) (by simp)) ?_
          obtain ⟨y52_46_4, hy52_46_4, h⟩ := bdE h
          refine sq rfl (so_callmx pf94 rfl rfl rfl rfl rfl (fun σ hs => F94_c hy52_46_4 σ.w σ.O hs.olt b18_46_4 r21_46_4 (cs0 (rs_f at1) hs) (cm0 hs at3)) (fun _ => se3) (fun _ => rfl) (fun _ => .nil) (fun _ => (.cons .nil)) (fun r53_46_4 => ?_))
          refine sqv rfl (yv_fa fa38_7 rfl rfl) ?_
          refine sq rfl (so_sta ti25 rfl rfl rfl rfl (Upd.comp (Sub.refl _) (VCommit.u7 (⟨y20_46_4.2.2.Epoch, y20_46_4.2.2.From, r22_46_4, r23_46_4, y20_46_4.2.2.Seal, y20_46_4.2.2.Path, r30_46_4, y20_46_4.2.2.Tag, y20_46_4.2.2.Sig⟩ : VCommit) y52_46_4.1) (Upd.refl (by simp [Ty.len]))) (Ty.len _ _) (Ty.one _ _) (xs' := tyVCommit.enc (⟨y20_46_4.2.2.Epoch, y20_46_4.2.2.From, r22_46_4, r23_46_4, y20_46_4.2.2.Seal, y20_46_4.2.2.Path, r30_46_4, y52_46_4.1, y20_46_4.2.2.Sig⟩ : VCommit)) se6 ?_)
          refine jl_nil ?_
          refine jx_then ?_
          refine jc_seq ?_
          refine jc_regd (k := 9) hmix rfl [([8], .blk b2 38 (tyVCommit.enc (⟨y20_46_4.2.2.Epoch, y20_46_4.2.2.From, r22_46_4, r23_46_4, y20_46_4.2.2.Seal, y20_46_4.2.2.Path, r30_46_4, y52_46_4.1, y20_46_4.2.2.Sig⟩ : VCommit)))] [fa true mBl b7_46_4 (tyVpartyParty.enc (⟨x3.v, x3.leaf, u8_46_4_2, x3.own, x3.has', x3.nodes, x3.epoch, x3.init'⟩ : VpartyParty))] (.cons at6 .nil) (.cons at12 .nil) ?_
          refine tk (i := 0) rfl (by kernel_rfl) rfl (yv_move rfl rfl) .nil .nil ?_
          refine tk (i := 1) rfl (by kernel_rfl) rfl (yv_nilp rfl rfl hv_b7_46_4) .nil .nil ?_
          refine tk (i := 2) rfl (by kernel_rfl) rfl (yv_fa fa143_2 rfl rfl) .nil .nil ?_
          refine tk (i := 3) rfl (by kernel_rfl) rfl (yv_ldb ti70 rfl rfl (rd_f at0) ((Sub.refl _).trans (VpartyParty.s2 (⟨x3.v, x3.leaf, u8_46_4_2, x3.own, x3.has', x3.nodes, x3.epoch, x3.init'⟩ : VpartyParty))) (Ty.len _ _) (fun _ => rfl)) .nil (.cons at0 .nil) ?_
          refine tk (i := 4) rfl (by kernel_rfl) rfl (yv_ldb ti38 rfl rfl (rd_bl at0) (Sub.refl _) (Ty.len _ _) (by simp)) (.cons at0 (by kernel_rfl) .nil) .nil ?_
          obtain ⟨y54_46_4, hy54_46_4, h⟩ := bdE h
          refine jg_one (i := 5) (by kernel_rfl) (gst rfl rfl (so_callx pf96 rfl rfl rfl rfl (fun σ hs => F96_c hy54_46_4 σ.w σ.O hs.olt r22_46_4 r23_46_4 r30_46_4 (cw0 (rd_f at3) hs) (cw0 (rd_f at4) hs) (cw0 (rq_sl (rd_o at1) (rd_f at1)) hs)) (fun _ => (.cons .nil)) (fun _ => .nil) (fun r55_46_4 => ?_)))
          refine ng (.cons at7 .nil) (.cons at12 .nil) ?_
          obtain ⟨y56_46_4, hy56_46_4, h⟩ := bdE h
          refine jg_one (i := 6) (by kernel_rfl) (gst rfl rfl (so_callv pf95 rfl rfl rfl rfl (fun σ hs => F95_c hy56_46_4 σ.w σ.O hs.olt u8_46_4_2 r55_46_4 (cs0 (rs_f at11) hs) (cw0 (rd_o at0) hs)) ?_))
          refine ng (.cons at7 .nil) (.cons at12 .nil) ?_
          refine tk (i := 7) rfl (by kernel_rfl) rfl (yv_fa fa38_8 rfl rfl) .nil .nil ?_
          refine jg_one (i := 8) (by kernel_rfl) (gst rfl rfl (so_sta ti36 rfl rfl rfl rfl (Upd.comp (Sub.refl _) (VCommit.u8 (⟨y20_46_4.2.2.Epoch, y20_46_4.2.2.From, r22_46_4, r23_46_4, y20_46_4.2.2.Seal, y20_46_4.2.2.Path, r30_46_4, y52_46_4.1, y20_46_4.2.2.Sig⟩ : VCommit) y56_46_4) (Upd.refl (by simp [Ty.len]))) (Ty.len _ _) (Ty.one _ _) (xs' := tyVCommit.enc (⟨y20_46_4.2.2.Epoch, y20_46_4.2.2.From, r22_46_4, r23_46_4, y20_46_4.2.2.Seal, y20_46_4.2.2.Path, r30_46_4, y52_46_4.1, y56_46_4⟩ : VCommit)) se7 ?_))
          refine ng .nil (.cons at12 .nil) ?_
          refine jg_nil (by kernel_rfl) ?_
          refine jx_then ?_
          refine jc_seq ?_
          refine jc_seq ?_
          refine jc_reg ?_
          obtain ⟨x57_46_4, hx57_46_4, h⟩ := letX h
          refine sqv rfl (yxg (C := (Ty.arr 8 tyB)) hx57_46_4 (yv_ldb ti62 rfl rfl (rd_bl at5) (Sub.refl _) (Ty.len _ _) (by simp))) ?_
          refine sqv rfl (yv_move rfl rfl) ?_
          refine jl_nil ?_
          refine jx_then ?_
          refine jc_block ?_
          refine nj_nil 103 tyVWelcome rfl ?_
          refine nj_s (m := mAl mSWelcome) (v := ([] : List VWelcome)) (p := []) rq_al0 ?_
          refine jc_loop ?_
          intro B0 Q0 hB0 hQ0
          have key0 : ∀ (k0 : Nat) (j225_46_4 : (List SWelcome)) (j227_46_4 : Int) (z224_46_4 : Sl) (w226_46_4 : (List VWelcome)), F32_l0 x57_46_4 y52_46_4 y1_46_4_47 p3 y20_46_4 y29_46_4 y56_46_4 k0 j225_46_4 j227_46_4 = some r → JW 168 w0 O0 [] Tryz.prog B0 Q0 [(7, pt b1 0), (8, pt b2 0), (9, sv z224_46_4), (10, .pointer (none : Option Addr)), (11, .int .i64 0), (17, pt b18_46_4 0), (19, pt b1_46_4_48 0), (139, ag ((Ty.arr 8 tyB).enc x57_46_4)), (140, .int .i64 j227_46_4)] [.blk b1_46_4_48 25 ((Ty.arr 32 (tyI .u8)).enc y1_46_4_47), .blk b18_46_4 143 (tyVpartyParty.enc (⟨y52_46_4.2.v, y52_46_4.2.leaf, r53_46_4, y52_46_4.2.own, y52_46_4.2.has', y52_46_4.2.nodes, y52_46_4.2.epoch, y52_46_4.2.init'⟩ : VpartyParty)), .blk b2 38 (tyVCommit.enc (⟨y20_46_4.2.2.Epoch, y20_46_4.2.2.From, r22_46_4, r23_46_4, y20_46_4.2.2.Seal, y20_46_4.2.2.Path, r30_46_4, y52_46_4.1, y56_46_4⟩ : VCommit)), .blk b1 25 ((Ty.arr 32 (tyI .u8)).enc p3), .sli z224_46_4 103 tyVWelcome.size (w226_46_4).length (tyVWelcome.many w226_46_4), .sli r30_46_4 97 tySl.size (r31_46_4).length (tySl.many r31_46_4)] [fa true (mAl mSWelcome) w226_46_4 j225_46_4, fa true mKey r53_46_4 y52_46_4.2.signer, fa true (mRow tySOp) r22_46_4 y20_46_4.2.2.Ops, fa true (mRow tySVote) r23_46_4 y20_46_4.2.2.Votes, fa true (mAl (mRow (tyI .u8))) r31_46_4 y29_46_4.1] := by
           intro k0
           induction k0 with
           | zero => intro j225_46_4 j227_46_4 z224_46_4 w226_46_4 h; cases h
           | succ k0 ih0 =>
            intro j225_46_4 j227_46_4 z224_46_4 w226_46_4 h
            unfold F32_l0 at h
            refine jw_round hB0 ?_
            refine jc_seq ?_
            refine jc_reg ?_
            obtain ⟨x228_46_4, hx228_46_4, h⟩ := letX h
            refine sqv rfl (yxb hx228_46_4 (yv_lss rfl rfl rfl)) ?_
            refine jl_nil ?_
            refine jx_then ?_
            refine jc_seq ?_
            rcases x228_46_4 with _ | _
            ·
             replace h := brF h
             refine jc_f rfl ?_
             refine jc_exit ?_
             refine jx_te ?_
             refine jx_te ?_
             refine jx_abs hQ0 ?_
             refine jx_hit ?_
             refine jx_then ?_
             refine jc_seq ?_
             refine jc_reg ?_
             refine sqv rfl (yv_ldb ti38 rfl rfl (rd_bl at2) (Sub.refl _) (Ty.len _ _) (by simp)) ?_
             refine sqv rfl (yv_move rfl rfl) ?_
             refine sqv rfl (yv_move rfl rfl) ?_
             refine sq rfl (so_sta ti38 rfl rfl rfl rfl (Upd.refl (xs := (tyVCommit.enc (⟨y20_46_4.2.2.Epoch, y20_46_4.2.2.From, r22_46_4, r23_46_4, y20_46_4.2.2.Seal, y20_46_4.2.2.Path, r30_46_4, y52_46_4.1, y56_46_4⟩ : VCommit))) (ys := (tyVCommit.enc (⟨y20_46_4.2.2.Epoch, y20_46_4.2.2.From, r22_46_4, r23_46_4, y20_46_4.2.2.Seal, y20_46_4.2.2.Path, r30_46_4, y52_46_4.1, y56_46_4⟩ : VCommit))) (by simp only [Ty.len])) (Ty.len _ _) (Ty.one _ _) (xs' := tyVCommit.enc (⟨y20_46_4.2.2.Epoch, y20_46_4.2.2.From, r22_46_4, r23_46_4, y20_46_4.2.2.Seal, y20_46_4.2.2.Path, r30_46_4, y52_46_4.1, y56_46_4⟩ : VCommit)) se2 ?_)
             refine sqv rfl (yv_assign rfl rfl) ?_
             refine sqv rfl (yv_assign rfl rfl) ?_
             refine sqv rfl (yv_assign rfl rfl) ?_
             refine jl_nil ?_
             refine jx_then ?_
             refine jc_ret ?_
             refine nj_frzb inout0 de1 ?_
             refine nj_s (m := (mPt tyVpartyParty mSpartyParty)) (v := (some ⟨b18_46_4, 0, none⟩)) (p := (some (⟨y52_46_4.2.v, y52_46_4.2.leaf, y52_46_4.2.signer, y52_46_4.2.own, y52_46_4.2.has', y52_46_4.2.nodes, y52_46_4.2.epoch, y52_46_4.2.init'⟩ : SpartyParty))) (rq_pt (rs_f at0) (rq_SpartyParty (rs_f at2))) ?_
             cases h
             exact jx_ret rfl (rr_cella ti38 rfl at1 (Ty.len _ _) (rr_tmp rfl (rr_tmp rfl (rr_tmp rfl rr_nil)))) ⟨(r22_46_4, r23_46_4, r30_46_4, r31_46_4, z224_46_4, w226_46_4, (some ⟨b18_46_4, 0, none⟩)), rfl, rfl, rfl, rfl⟩ (.cons de4 (.cons de3 .nil)) (.cons at4 (.cons at5 (.cons at6 (.cons at2 (.cons at0 .nil))))) rfl (by simp)
            ·
             replace h := brT h
             refine jc_t rfl ?_
             refine jc_skip ?_
             refine jx_then ?_
             refine jc_seq_n ?_
             intro N2 hN2
             have hj2 : ∀ (j256_46_4 : (List SWelcome)) (z255_46_4 : Sl) (w257_46_4 : (List VWelcome)), F32_j2 j227_46_4 (F32_l0 x57_46_4 y52_46_4 y1_46_4_47 p3 y20_46_4 y29_46_4 y56_46_4 k0) j256_46_4 = some r → NJ 168 w0 O0 [] N2 [(7, pt b1 0), (8, pt b2 0), (9, sv z255_46_4), (10, .pointer (none : Option Addr)), (11, .int .i64 0), (17, pt b18_46_4 0), (19, pt b1_46_4_48 0), (139, ag ((Ty.arr 8 tyB).enc x57_46_4)), (140, .int .i64 j227_46_4)] [.blk b1_46_4_48 25 ((Ty.arr 32 (tyI .u8)).enc y1_46_4_47), .blk b18_46_4 143 (tyVpartyParty.enc (⟨y52_46_4.2.v, y52_46_4.2.leaf, r53_46_4, y52_46_4.2.own, y52_46_4.2.has', y52_46_4.2.nodes, y52_46_4.2.epoch, y52_46_4.2.init'⟩ : VpartyParty)), .blk b2 38 (tyVCommit.enc (⟨y20_46_4.2.2.Epoch, y20_46_4.2.2.From, r22_46_4, r23_46_4, y20_46_4.2.2.Seal, y20_46_4.2.2.Path, r30_46_4, y52_46_4.1, y56_46_4⟩ : VCommit)), .blk b1 25 ((Ty.arr 32 (tyI .u8)).enc p3), .sli z255_46_4 103 tyVWelcome.size (w257_46_4).length (tyVWelcome.many w257_46_4), .sli r30_46_4 97 tySl.size (r31_46_4).length (tySl.many r31_46_4)] [fa true (mAl mSWelcome) w257_46_4 j256_46_4, fa true mKey r53_46_4 y52_46_4.2.signer, fa true (mRow tySOp) r22_46_4 y20_46_4.2.2.Ops, fa true (mRow tySVote) r23_46_4 y20_46_4.2.2.Votes, fa true (mAl (mRow (tyI .u8))) r31_46_4 y29_46_4.1] := by
              intro j256_46_4 z255_46_4 w257_46_4 h
              unfold F32_j2 at h
              refine nj_abs hN2 ?_
              refine jc_reg ?_
              obtain ⟨x1_46_4_258, hx1_46_4_258, h⟩ := letX h
              refine sqv rfl (yxi hx1_46_4_258 (yv_add rfl rfl rfl)) ?_
              refine sqv rfl (yv_move rfl rfl) ?_
              refine jl_nil ?_
              refine jx_again ?_
              exact nj_weak (ih0 j256_46_4 x1_46_4_258 z255_46_4 w257_46_4 h) ⟨rfl, rfl, rfl, rfl, rfl, rfl, rfl, rfl, rfl, trivial⟩ (.cons de0 (.cons de0 (.cons de0 (.cons de0 (.cons de0 (.cons de0 .nil)))))) (.cons at0 (.cons at1 (.cons at2 (.cons at3 (.cons at4 .nil)))))
             refine jc_block ?_
             refine jc_seq ?_
             refine jc_reg ?_
             refine sqv rfl (yv_move rfl rfl) ?_
             obtain ⟨g231_46_4, h⟩ := gdE h
             obtain ⟨x232_46_4, hx232_46_4, h⟩ := letX h
             refine sqv rfl (yxb hx232_46_4 (yv_index (g := false) (ys := tyB.enc (vat x57_46_4 j227_46_4)) Tryz.underlying62 ti4 rfl rfl rfl g231_46_4 (arr_sub tyB _ _ g231_46_4) (Ty.len _ _) (fun _ => rfl))) ?_
             refine sqv rfl (yv_assign rfl rfl) ?_
             refine sqv rfl (yv_assign rfl rfl) ?_
             refine jl_nil ?_
             refine jx_then ?_
             refine jc_seq ?_
             refine jc_seq ?_
             refine jc_reg ?_
             refine sqv rfl (yv_move rfl rfl) ?_
             obtain ⟨x233_46_4, hx233_46_4, h⟩ := letX h
             refine sqv rfl (yxb hx233_46_4 (yv_not rfl rfl)) ?_
             refine jl_nil ?_
             refine jx_then ?_
             rcases x233_46_4 with _ | _
             ·
              replace h := brF h
              refine jc_f rfl ?_
              refine jc_skip ?_
              refine jx_then ?_
              refine jc_seq ?_
              refine jc_reg ?_
              refine sqv rfl (yv_move rfl rfl) ?_
              refine sqv rfl (yv_move rfl rfl) ?_
              refine sqv rfl (yv_ldb ti25 rfl rfl (rd_bl at0) (Sub.refl _) (Ty.len _ _) (by simp)) ?_
              refine sqv rfl (yv_fa fa38_7 rfl rfl) ?_
              obtain ⟨x237_46_4, hx237_46_4, h⟩ := letX h
              refine sqv rfl (yxg (C := (Ty.arr 32 (tyI .u8))) hx237_46_4 (yv_ldb ti25 rfl rfl (rd_bl at2) ((Sub.refl _).trans (VCommit.s7 (⟨y20_46_4.2.2.Epoch, y20_46_4.2.2.From, r22_46_4, r23_46_4, y20_46_4.2.2.Seal, y20_46_4.2.2.Path, r30_46_4, y52_46_4.1, y56_46_4⟩ : VCommit))) (Ty.len _ _) (by simp))) ?_
              refine sqv rfl (yv_ldb ti25 rfl rfl (rd_bl at3) (Sub.refl _) (Ty.len _ _) (by simp)) ?_
              obtain ⟨y238_46_4, hy238_46_4, h⟩ := bdE h
              refine sq rfl (so_callx pf97 rfl rfl rfl rfl (fun σ hs => F97_c hy238_46_4 σ.w σ.O hs.olt (some ⟨b18_46_4, 0, none⟩) (cw0 (rq_pt (rd_bl at1) (rq_SpartyParty (rd_f at1))) hs)) (fun _ => (.cons .nil)) (fun _ => .nil) (fun r239_46_4 => ?_))
              refine sqv rfl (yv_move rfl rfl) ?_
              refine sqv rfl (yv_ext rfl rfl rfl) ?_
              refine sqv rfl (yv_ext rfl rfl rfl) ?_
              refine sq rfl (so_alloc ti103 (by decide) rfl rfl fun b240_46_4 => ?_)
              refine sq rfl (so_sta ti103 rfl rfl rfl rfl (Upd.refl (xs := (tyVWelcome.enc (⟨(0 : Int), (0 : Int), SView.zero, (⟨none, 0, 0⟩ : Sl), (Vector.replicate 32 (0 : Int))⟩ : VWelcome))) (ys := (tyVWelcome.enc (⟨y238_46_4.1.Leaf, y238_46_4.1.From, y238_46_4.1.View, r239_46_4, y238_46_4.1.Tag⟩ : VWelcome))) (by simp only [Ty.len])) (Ty.len _ _) (Ty.one _ _) (xs' := tyVWelcome.enc (⟨y238_46_4.1.Leaf, y238_46_4.1.From, y238_46_4.1.View, r239_46_4, y238_46_4.1.Tag⟩ : VWelcome)) se0 ?_)
              refine sqv rfl (yv_assign rfl rfl) ?_
              refine jl_nil ?_
              refine jx_then ?_
              refine jc_seq ?_
              refine jc_seq ?_
              refine jc_reg ?_
              refine sqv rfl (yv_move rfl rfl) ?_
              obtain ⟨x241_46_4, hx241_46_4, h⟩ := letX h
              refine sqv rfl (yxb hx241_46_4 (yv_neq rfl rfl rfl)) ?_
              refine jl_nil ?_
              refine jx_then ?_
              rcases x241_46_4 with _ | _
              ·
               replace h := brF h
               refine jc_f rfl ?_
               refine jc_skip ?_
               refine jx_then ?_
               refine jc_reg ?_
               refine sqv rfl (yv_move rfl rfl) ?_
               refine sqv rfl (yv_ldb ti103 rfl rfl (rd_bl at0) (Sub.refl _) (Ty.len _ _) (by simp)) ?_
               refine sq rfl (so_bslL (C := tyVWelcome) (l := ([(⟨y238_46_4.1.Leaf, y238_46_4.1.From, y238_46_4.1.View, r239_46_4, y238_46_4.1.Tag⟩ : VWelcome)] : List VWelcome)) si39 sz39 rfl rfl rfl rfl (by decide) (by decide) (fills_cons rfl (many_upd' tyVWelcome _ (0 : Int) (⟨y238_46_4.1.Leaf, y238_46_4.1.From, y238_46_4.1.View, r239_46_4, y238_46_4.1.Tag⟩ : VWelcome) (by simp [lup])) rfl (Ty.len tyVWelcome (⟨y238_46_4.1.Leaf, y238_46_4.1.From, y238_46_4.1.View, r239_46_4, y238_46_4.1.Tag⟩ : VWelcome)) fills_nil) fun s249_46_4 => ?_)
               refine nj_frz inout0 de2 ?_
               refine nj_s (m := mAl mSWelcome) (v := ([(⟨y238_46_4.1.Leaf, y238_46_4.1.From, y238_46_4.1.View, r239_46_4, y238_46_4.1.Tag⟩ : VWelcome)] : List VWelcome)) (p := ([(⟨y238_46_4.1.Leaf, y238_46_4.1.From, y238_46_4.1.View, y238_46_4.1.Box, y238_46_4.1.Tag⟩ : SWelcome)] : (List SWelcome))) (rq_alc (rq_SWelcome (rs_f at0)) rq_al0) ?_
               obtain ⟨l250_46_4, hl250_46_4, h⟩ := letX h
               obtain ⟨g251_46_4, h⟩ := gdE h
               refine sq rfl (so_appVX (q := true) (C := tyVWelcome) hl250_46_4 si39 rfl rfl rfl rfl de6 (rd_o at0) (rs_f at2) (rs_f at0) g251_46_4 fun s252_46_4 w253_46_4 => ?_)
               refine sqv rfl (yv_assign rfl rfl) ?_
               refine jl_nil ?_
               refine jx_blk ?_
               refine jx_then_n ?_
               exact nj_weak (hj2 l250_46_4 s252_46_4 w253_46_4 h) ⟨rfl, rfl, rfl, rfl, rfl, rfl, rfl, rfl, rfl, trivial⟩ (.cons de3 (.cons de3 (.cons de3 (.cons de3 (.cons de0 (.cons de2 .nil)))))) (.cons at0 (.cons at4 (.cons at5 (.cons at6 (.cons at7 .nil)))))
              ·
               replace h := brT h
               refine jc_t rfl ?_
               refine jc_seq ?_
               refine jc_reg ?_
               refine sqv rfl (yv_build bi38 rfl rfl fills_nil) ?_
               refine sqv rfl (yv_move rfl rfl) ?_
               obtain ⟨c246_46_4, hc246_46_4, h⟩ := letX h
               have hu_c246_46_4 := Upd.to (Upd.refl (xs := (tyVCommit.enc (⟨y20_46_4.2.2.Epoch, y20_46_4.2.2.From, r22_46_4, r23_46_4, y20_46_4.2.2.Seal, y20_46_4.2.2.Path, r30_46_4, y52_46_4.1, y56_46_4⟩ : VCommit))) (ys := (tyVCommit.enc (⟨(0 : Int), (0 : Int), (⟨none, 0, 0⟩ : Sl), (⟨none, 0, 0⟩ : Sl), (0 : Int), (Vector.replicate 3 (0 : Int)), (⟨none, 0, 0⟩ : Sl), (Vector.replicate 32 (0 : Int)), SSig.zero⟩ : VCommit))) (by simp only [Ty.len])) (congrArg (fun q_ => (tyVCommit.enc (⟨(0 : Int), (0 : Int), (⟨none, 0, 0⟩ : Sl), (⟨none, 0, 0⟩ : Sl), (0 : Int), q_, (⟨none, 0, 0⟩ : Sl), (Vector.replicate 32 (0 : Int)), SSig.zero⟩ : VCommit))) hc246_46_4)
               obtain ⟨c247_46_4, hc247_46_4, h⟩ := letX h
               have hu_c247_46_4 := Upd.to hu_c246_46_4 (congrArg (fun q_ => (tyVCommit.enc (⟨(0 : Int), (0 : Int), (⟨none, 0, 0⟩ : Sl), (⟨none, 0, 0⟩ : Sl), (0 : Int), c246_46_4, (⟨none, 0, 0⟩ : Sl), q_, SSig.zero⟩ : VCommit))) hc247_46_4)
               refine sq rfl (so_sta ti38 rfl rfl rfl rfl hu_c247_46_4 (Ty.len _ _) (Ty.one _ _) (xs' := tyVCommit.enc (⟨(0 : Int), (0 : Int), (⟨none, 0, 0⟩ : Sl), (⟨none, 0, 0⟩ : Sl), (0 : Int), c246_46_4, (⟨none, 0, 0⟩ : Sl), c247_46_4, SSig.zero⟩ : VCommit)) se4 ?_)
               refine sqv rfl (yv_assign rfl rfl) ?_
               refine sqv rfl (yv_assign rfl rfl) ?_
               refine sqv rfl (yv_assign rfl rfl) ?_
               refine jl_nil ?_
               refine jx_then ?_
               refine jc_ret ?_
               refine jx_tr ?_
               refine jx_br ?_
               refine jx_tr ?_
               refine jx_tr ?_
               refine jx_abs hQ0 ?_
               refine jx_br ?_
               refine jx_tr ?_
               refine nj_s (m := (mRow tySOp)) (v := (⟨none, 0, 0⟩ : Sl)) (p := ([] : (List SOp))) rq_nil ?_
               refine nj_s (m := (mRow tySVote)) (v := (⟨none, 0, 0⟩ : Sl)) (p := ([] : (List SVote))) rq_nil ?_
               refine nj_nil 97 tySl rfl ?_
               refine nj_s (m := mAl (mRow (tyI .u8))) (v := ([] : List Sl)) (p := []) rq_al0 ?_
               refine nj_nil 103 tyVWelcome rfl ?_
               refine nj_s (m := mAl mSWelcome) (v := ([] : List VWelcome)) (p := []) rq_al0 ?_
               refine nj_s (m := (mPt tyVpartyParty mSpartyParty)) (v := (none : Option Addr)) (p := none) rq_pt0 ?_
               cases h
               exact jx_ret rfl (rr_cella ti38 rfl at6 (Ty.len _ _) (rr_tmp rfl (rr_tmp rfl (rr_tmp rfl rr_nil)))) ⟨((⟨none, 0, 0⟩ : Sl), (⟨none, 0, 0⟩ : Sl), (⟨none, 0, 0⟩ : Sl), ([] : List Sl), (⟨none, 0, 0⟩ : Sl), ([] : List VWelcome), (none : Option Addr)), rfl, rfl, rfl, rfl⟩ (.cons de1 (.cons de0 .nil)) (.cons at4 (.cons at3 (.cons at2 (.cons at1 (.cons at0 .nil))))) rfl (by simp)
             ·
              replace h := brT h
              refine jc_t rfl ?_
              refine jc_exit ?_
              refine jx_te ?_
              refine jx_hit ?_
              refine jx_then_n ?_
              exact nj_weak (hj2 j225_46_4 z224_46_4 w226_46_4 h) ⟨rfl, rfl, rfl, rfl, rfl, rfl, rfl, rfl, rfl, trivial⟩ (.cons de0 (.cons de0 (.cons de0 (.cons de0 (.cons de0 (.cons de0 .nil)))))) (.cons at0 (.cons at1 (.cons at2 (.cons at3 (.cons at4 .nil)))))
          exact nj_weak (key0 FUEL [] 0 (⟨none, 0, 0⟩ : Sl) ([] : List VWelcome) h) ⟨rfl, rfl, rfl, rfl, rfl, rfl, rfl, rfl, rfl, trivial⟩ (.cons de2 (.cons de4 (.cons de6 (.cons de6 (.cons de0 (.cons de1 .nil)))))) (.cons at0 (.cons at1 (.cons at4 (.cons at5 (.cons at2 .nil)))))
         have hs21_51_3 : ∀ (b1_46_4_48 : Nat), J21_51 [([], .blk b25_46_4 25 ((Ty.arr 32 (tyI .u8)).enc y20_46_4.1))] [fa true mBl b7_46_4 (tyVpartyParty.enc (⟨x3.v, x3.leaf, u8_46_4_2, x3.own, x3.has', x3.nodes, x3.epoch, x3.init'⟩ : VpartyParty))] 1 #[true, true, true, true, true, true, true, false] [(0, .pointer v0), (7, pt b1 0), (8, pt b2 0), (9, sv (⟨none, 0, 0⟩ : Sl)), (10, .pointer (none : Option Addr)), (11, .int .i64 0), (13, pt b1_31 0), (14, pt b1_32 0), (17, pt b18_46_4 0), (19, pt b1_46_4_48 0), (125, ag ((Ty.arr 32 (tyI .u8)).enc y1_46_4_47))] [.blk b1_46_4_48 25 ((Ty.arr 32 (tyI .u8)).enc (Vector.replicate 32 (0 : Int))), .sli r30_46_4 97 tySl.size (r31_46_4).length (tySl.many r31_46_4), .blk b25_46_4 25 ((Ty.arr 32 (tyI .u8)).enc y20_46_4.1), .blk b18_46_4 143 (tyVpartyParty.enc (⟨y20_46_4.2.1.v, y20_46_4.2.1.leaf, r21_46_4, y20_46_4.2.1.own, y20_46_4.2.1.has', y20_46_4.2.1.nodes, y20_46_4.2.1.epoch, y20_46_4.2.1.init'⟩ : VpartyParty)), .blk b1_32 62 ((Ty.arr 8 tyB).enc y1_25.2.1), .blk b1_31 64 (tySView.enc c41_46_4), .blk b2 38 (tyVCommit.enc (⟨y20_46_4.2.2.Epoch, y20_46_4.2.2.From, r22_46_4, r23_46_4, y20_46_4.2.2.Seal, y20_46_4.2.2.Path, r30_46_4, y20_46_4.2.2.Tag, y20_46_4.2.2.Sig⟩ : VCommit)), .blk b1 25 ((Ty.arr 32 (tyI .u8)).enc p3)] [fa true (mAl (mRow (tyI .u8))) r31_46_4 y29_46_4.1, fa true mKey r21_46_4 y20_46_4.2.1.signer, fa true (mRow tySOp) r22_46_4 y20_46_4.2.2.Ops, fa true (mRow tySVote) r23_46_4 y20_46_4.2.2.Votes, fa true (mSl tySl (mRow (tyI .u8))) r24_46_4 y20_46_4.2.2.Boxes, fa true (mSl tySl (mRow (tyI .u8))) (⟨none, 0, 0⟩ : Sl) ([] : (List (List Int))), fa true (mRow tySVote) s16_46_4 l14_46_4, fa true (mRow tySOp) s13_46_4 l11_46_4, fa true mKey u19_46_4_2 x17_46_4.signer, fa true mSpartyParty (⟨x17_46_4.v, x17_46_4.leaf, u19_46_4_2, x17_46_4.own, x17_46_4.has', x17_46_4.nodes, x17_46_4.epoch, x17_46_4.init'⟩ : VpartyParty) x17_46_4, fa true mKey u8_46_4_2 x3.signer, fa true mBl b7_46_4 (tyVpartyParty.enc (⟨x3.v, x3.leaf, u8_46_4_2, x3.own, x3.has', x3.nodes, x3.epoch, x3.init'⟩ : VpartyParty)), fa true mSpartyParty (⟨x3.v, x3.leaf, u8_46_4_2, x3.own, x3.has', x3.nodes, x3.epoch, x3.init'⟩ : VpartyParty) x3, fa true (mOp mSpartyParty) (⟨x17_46_4.v, x17_46_4.leaf, u19_46_4_2, x17_46_4.own, x17_46_4.has', x17_46_4.nodes, x17_46_4.epoch, x17_46_4.init'⟩ : VpartyParty) y4_46_4, fa true (mIsS SpartyParty) (some ⟨b18_46_4, 0, none⟩) y4_46_4, fa true (mPt tyVpartyParty mSpartyParty) v0 p0, fa false (mRow tySOp) v1 p1, fa false (mRow tySVote) v2 p2] := by
          intro b1_46_4_48
          refine hJ21_51_1 _ _ _ _ _ _ _ ?_
          refine jg_ready (rs := [7]) (by kernel_rfl) (by simp) (.cons ?_ .nil)
          ·
           refine gst rfl rfl (so_sta ti25 rfl rfl rfl rfl (Upd.refl (by simp [Ty.len])) (Ty.len _ _) (Ty.one _ _) (xs' := (Ty.arr 32 (tyI .u8)).enc y1_46_4_47) se0 ?_)
           refine ng (.cons at2 .nil) (.cons at11 .nil) ?_
           refine jg_ls (listed' := #[true, true, true, true, true, true, true, true]) (by kernel_rfl) ?_
           exact nj_weak (hJ21_51_2 _ _ _ _ _ _ _ (hs21_51_4 b1_46_4_48)) ⟨rfl, rfl, rfl, rfl, rfl, rfl, rfl, rfl, rfl, rfl, trivial⟩ (.cons de0 (.cons de0 (.cons de0 (.cons de0 (.cons de0 (.cons de0 (.cons de0 (.cons de0 .nil)))))))) (.cons at0 (.cons at1 (.cons at2 (.cons at3 (.cons at4 (.cons at5 (.cons at6 (.cons at7 (.cons at8 (.cons at9 (.cons at10 (.cons at11 (.cons at12 (.cons at13 (.cons at14 (.cons at15 (.cons at16 (.cons at17 .nil))))))))))))))))))
         have hs21_51_2 : ∀ (b1_46_4_48 : Nat), J21_51 [([], .blk b25_46_4 25 ((Ty.arr 32 (tyI .u8)).enc y20_46_4.1))] [fa true mBl b7_46_4 (tyVpartyParty.enc (⟨x3.v, x3.leaf, u8_46_4_2, x3.own, x3.has', x3.nodes, x3.epoch, x3.init'⟩ : VpartyParty))] 2 #[true, true, true, true, true, false, true, false] [(0, .pointer v0), (7, pt b1 0), (8, pt b2 0), (9, sv (⟨none, 0, 0⟩ : Sl)), (10, .pointer (none : Option Addr)), (11, .int .i64 0), (13, pt b1_31 0), (14, pt b1_32 0), (17, pt b18_46_4 0), (19, pt b1_46_4_48 0), (123, ag ((Ty.arr 32 (tyI .u8)).enc x1_46_4_45)), (124, ag ((Ty.arr 32 (tyI .u8)).enc x1_46_4_46))] [.blk b1_46_4_48 25 ((Ty.arr 32 (tyI .u8)).enc (Vector.replicate 32 (0 : Int))), .sli r30_46_4 97 tySl.size (r31_46_4).length (tySl.many r31_46_4), .blk b25_46_4 25 ((Ty.arr 32 (tyI .u8)).enc y20_46_4.1), .blk b18_46_4 143 (tyVpartyParty.enc (⟨y20_46_4.2.1.v, y20_46_4.2.1.leaf, r21_46_4, y20_46_4.2.1.own, y20_46_4.2.1.has', y20_46_4.2.1.nodes, y20_46_4.2.1.epoch, y20_46_4.2.1.init'⟩ : VpartyParty)), .blk b1_32 62 ((Ty.arr 8 tyB).enc y1_25.2.1), .blk b1_31 64 (tySView.enc c41_46_4), .blk b2 38 (tyVCommit.enc (⟨y20_46_4.2.2.Epoch, y20_46_4.2.2.From, r22_46_4, r23_46_4, y20_46_4.2.2.Seal, y20_46_4.2.2.Path, r30_46_4, y20_46_4.2.2.Tag, y20_46_4.2.2.Sig⟩ : VCommit)), .blk b1 25 ((Ty.arr 32 (tyI .u8)).enc p3)] [fa true (mAl (mRow (tyI .u8))) r31_46_4 y29_46_4.1, fa true mKey r21_46_4 y20_46_4.2.1.signer, fa true (mRow tySOp) r22_46_4 y20_46_4.2.2.Ops, fa true (mRow tySVote) r23_46_4 y20_46_4.2.2.Votes, fa true (mSl tySl (mRow (tyI .u8))) r24_46_4 y20_46_4.2.2.Boxes, fa true (mSl tySl (mRow (tyI .u8))) (⟨none, 0, 0⟩ : Sl) ([] : (List (List Int))), fa true (mRow tySVote) s16_46_4 l14_46_4, fa true (mRow tySOp) s13_46_4 l11_46_4, fa true mKey u19_46_4_2 x17_46_4.signer, fa true mSpartyParty (⟨x17_46_4.v, x17_46_4.leaf, u19_46_4_2, x17_46_4.own, x17_46_4.has', x17_46_4.nodes, x17_46_4.epoch, x17_46_4.init'⟩ : VpartyParty) x17_46_4, fa true mKey u8_46_4_2 x3.signer, fa true mBl b7_46_4 (tyVpartyParty.enc (⟨x3.v, x3.leaf, u8_46_4_2, x3.own, x3.has', x3.nodes, x3.epoch, x3.init'⟩ : VpartyParty)), fa true mSpartyParty (⟨x3.v, x3.leaf, u8_46_4_2, x3.own, x3.has', x3.nodes, x3.epoch, x3.init'⟩ : VpartyParty) x3, fa true (mOp mSpartyParty) (⟨x17_46_4.v, x17_46_4.leaf, u19_46_4_2, x17_46_4.own, x17_46_4.has', x17_46_4.nodes, x17_46_4.epoch, x17_46_4.init'⟩ : VpartyParty) y4_46_4, fa true (mIsS SpartyParty) (some ⟨b18_46_4, 0, none⟩) y4_46_4, fa true (mPt tyVpartyParty mSpartyParty) v0 p0, fa false (mRow tySOp) v1 p1, fa false (mRow tySVote) v2 p2] := by
          intro b1_46_4_48
          refine hJ21_51_1 _ _ _ _ _ _ _ ?_
          refine jg_ready (rs := [5]) (by kernel_rfl) (by simp) (.cons ?_ .nil)
          ·
           refine gst rfl rfl (so_callv pf93 rfl rfl rfl rfl (fun σ hs => F93_c hy1_46_4_47 σ.w σ.O hs.olt) ?_)
           refine ng (.cons at2 .nil) (.cons at11 .nil) ?_
           refine jg_ls (listed' := #[true, true, true, true, true, true, true, false]) (by kernel_rfl) ?_
           exact nj_weak (hJ21_51_2 _ _ _ _ _ _ _ (hs21_51_3 b1_46_4_48)) ⟨rfl, rfl, rfl, rfl, rfl, rfl, rfl, rfl, rfl, rfl, rfl, trivial⟩ (.cons de0 (.cons de0 (.cons de0 (.cons de0 (.cons de0 (.cons de0 (.cons de0 (.cons de0 .nil)))))))) (.cons at0 (.cons at1 (.cons at2 (.cons at3 (.cons at4 (.cons at5 (.cons at6 (.cons at7 (.cons at8 (.cons at9 (.cons at10 (.cons at11 (.cons at12 (.cons at13 (.cons at14 (.cons at15 (.cons at16 (.cons at17 .nil))))))))))))))))))
         have hs21_51_1 : J21_51 [([], .blk b25_46_4 25 ((Ty.arr 32 (tyI .u8)).enc y20_46_4.1))] [fa true mBl b7_46_4 (tyVpartyParty.enc (⟨x3.v, x3.leaf, u8_46_4_2, x3.own, x3.has', x3.nodes, x3.epoch, x3.init'⟩ : VpartyParty))] 2 #[true, true, true, true, true, true, false, false] [(0, .pointer v0), (7, pt b1 0), (8, pt b2 0), (9, sv (⟨none, 0, 0⟩ : Sl)), (10, .pointer (none : Option Addr)), (11, .int .i64 0), (13, pt b1_31 0), (14, pt b1_32 0), (17, pt b18_46_4 0), (125, ag ((Ty.arr 32 (tyI .u8)).enc y1_46_4_47))] [.sli r30_46_4 97 tySl.size (r31_46_4).length (tySl.many r31_46_4), .blk b25_46_4 25 ((Ty.arr 32 (tyI .u8)).enc y20_46_4.1), .blk b18_46_4 143 (tyVpartyParty.enc (⟨y20_46_4.2.1.v, y20_46_4.2.1.leaf, r21_46_4, y20_46_4.2.1.own, y20_46_4.2.1.has', y20_46_4.2.1.nodes, y20_46_4.2.1.epoch, y20_46_4.2.1.init'⟩ : VpartyParty)), .blk b1_32 62 ((Ty.arr 8 tyB).enc y1_25.2.1), .blk b1_31 64 (tySView.enc c41_46_4), .blk b2 38 (tyVCommit.enc (⟨y20_46_4.2.2.Epoch, y20_46_4.2.2.From, r22_46_4, r23_46_4, y20_46_4.2.2.Seal, y20_46_4.2.2.Path, r30_46_4, y20_46_4.2.2.Tag, y20_46_4.2.2.Sig⟩ : VCommit)), .blk b1 25 ((Ty.arr 32 (tyI .u8)).enc p3)] [fa true (mAl (mRow (tyI .u8))) r31_46_4 y29_46_4.1, fa true mKey r21_46_4 y20_46_4.2.1.signer, fa true (mRow tySOp) r22_46_4 y20_46_4.2.2.Ops, fa true (mRow tySVote) r23_46_4 y20_46_4.2.2.Votes, fa true (mSl tySl (mRow (tyI .u8))) r24_46_4 y20_46_4.2.2.Boxes, fa true (mSl tySl (mRow (tyI .u8))) (⟨none, 0, 0⟩ : Sl) ([] : (List (List Int))), fa true (mRow tySVote) s16_46_4 l14_46_4, fa true (mRow tySOp) s13_46_4 l11_46_4, fa true mKey u19_46_4_2 x17_46_4.signer, fa true mSpartyParty (⟨x17_46_4.v, x17_46_4.leaf, u19_46_4_2, x17_46_4.own, x17_46_4.has', x17_46_4.nodes, x17_46_4.epoch, x17_46_4.init'⟩ : VpartyParty) x17_46_4, fa true mKey u8_46_4_2 x3.signer, fa true mBl b7_46_4 (tyVpartyParty.enc (⟨x3.v, x3.leaf, u8_46_4_2, x3.own, x3.has', x3.nodes, x3.epoch, x3.init'⟩ : VpartyParty)), fa true mSpartyParty (⟨x3.v, x3.leaf, u8_46_4_2, x3.own, x3.has', x3.nodes, x3.epoch, x3.init'⟩ : VpartyParty) x3, fa true (mOp mSpartyParty) (⟨x17_46_4.v, x17_46_4.leaf, u19_46_4_2, x17_46_4.own, x17_46_4.has', x17_46_4.nodes, x17_46_4.epoch, x17_46_4.init'⟩ : VpartyParty) y4_46_4, fa true (mIsS SpartyParty) (some ⟨b18_46_4, 0, none⟩) y4_46_4, fa true (mPt tyVpartyParty mSpartyParty) v0 p0, fa false (mRow tySOp) v1 p1, fa false (mRow tySVote) v2 p2] := by
          refine hJ21_51_1 _ _ _ _ _ _ _ ?_
          refine jg_ready (rs := [6]) (by kernel_rfl) (by simp) (.cons ?_ .nil)
          ·
           refine gst rfl rfl (so_alloc ti25 (by decide) rfl rfl fun b1_46_4_48 => ?_)
           refine ng (.cons at2 .nil) (.cons at11 .nil) ?_
           refine jg_ls (listed' := #[true, true, true, true, true, true, true, false]) (by kernel_rfl) ?_
           exact nj_weak (hJ21_51_2 _ _ _ _ _ _ _ (hs21_51_3 b1_46_4_48)) ⟨rfl, rfl, rfl, rfl, rfl, rfl, rfl, rfl, rfl, rfl, rfl, trivial⟩ (.cons de0 (.cons de0 (.cons de0 (.cons de0 (.cons de0 (.cons de0 (.cons de0 (.cons de0 .nil)))))))) (.cons at0 (.cons at1 (.cons at2 (.cons at3 (.cons at4 (.cons at5 (.cons at6 (.cons at7 (.cons at8 (.cons at9 (.cons at10 (.cons at11 (.cons at12 (.cons at13 (.cons at14 (.cons at15 (.cons at16 (.cons at17 .nil))))))))))))))))))
         refine hJ21_51_1 _ _ _ _ _ _ _ ?_
         refine jg_ready (rs := [5, 6]) (by kernel_rfl) (by simp) (.cons ?_ (.cons ?_ .nil))
         ·
          refine gst rfl rfl (so_callv pf93 rfl rfl rfl rfl (fun σ hs => F93_c hy1_46_4_47 σ.w σ.O hs.olt) ?_)
          refine ng (.cons at1 .nil) (.cons at11 .nil) ?_
          refine jg_ls (listed' := #[true, true, true, true, true, true, false, false]) (by kernel_rfl) ?_
          exact nj_weak (hJ21_51_2 _ _ _ _ _ _ _ (hs21_51_1)) ⟨rfl, rfl, rfl, rfl, rfl, rfl, rfl, rfl, rfl, rfl, trivial⟩ (.cons de0 (.cons de0 (.cons de0 (.cons de0 (.cons de0 (.cons de0 (.cons de0 .nil))))))) (.cons at0 (.cons at1 (.cons at2 (.cons at3 (.cons at4 (.cons at5 (.cons at6 (.cons at7 (.cons at8 (.cons at9 (.cons at10 (.cons at11 (.cons at12 (.cons at13 (.cons at14 (.cons at15 (.cons at16 (.cons at17 .nil))))))))))))))))))
         ·
          refine gst rfl rfl (so_alloc ti25 (by decide) rfl rfl fun b1_46_4_48 => ?_)
          refine ng (.cons at2 .nil) (.cons at11 .nil) ?_
          refine jg_ls (listed' := #[true, true, true, true, true, false, true, false]) (by kernel_rfl) ?_
          exact nj_weak (hJ21_51_2 _ _ _ _ _ _ _ (hs21_51_2 b1_46_4_48)) ⟨rfl, rfl, rfl, rfl, rfl, rfl, rfl, rfl, rfl, rfl, rfl, rfl, trivial⟩ (.cons de0 (.cons de0 (.cons de0 (.cons de0 (.cons de0 (.cons de0 (.cons de0 (.cons de0 .nil)))))))) (.cons at0 (.cons at1 (.cons at2 (.cons at3 (.cons at4 (.cons at5 (.cons at6 (.cons at7 (.cons at8 (.cons at9 (.cons at10 (.cons at11 (.cons at12 (.cons at13 (.cons at14 (.cons at15 (.cons at16 (.cons at17 .nil))))))))))))))))))
        ·
         replace h := brT h
         refine jc_t rfl ?_
         refine jc_seq ?_
         refine jc_reg ?_
         refine sqv rfl (yv_build bi38 rfl rfl fills_nil) ?_
         refine sqv rfl (yv_move rfl rfl) ?_
         obtain ⟨c37_46_4, hc37_46_4, h⟩ := letX h
         have hu_c37_46_4 := Upd.to (Upd.refl (xs := (tyVCommit.enc (⟨y20_46_4.2.2.Epoch, y20_46_4.2.2.From, r22_46_4, r23_46_4, y20_46_4.2.2.Seal, y20_46_4.2.2.Path, r30_46_4, y20_46_4.2.2.Tag, y20_46_4.2.2.Sig⟩ : VCommit))) (ys := (tyVCommit.enc (⟨(0 : Int), (0 : Int), (⟨none, 0, 0⟩ : Sl), (⟨none, 0, 0⟩ : Sl), (0 : Int), (Vector.replicate 3 (0 : Int)), (⟨none, 0, 0⟩ : Sl), (Vector.replicate 32 (0 : Int)), SSig.zero⟩ : VCommit))) (by simp only [Ty.len])) (congrArg (fun q_ => (tyVCommit.enc (⟨(0 : Int), (0 : Int), (⟨none, 0, 0⟩ : Sl), (⟨none, 0, 0⟩ : Sl), (0 : Int), q_, (⟨none, 0, 0⟩ : Sl), (Vector.replicate 32 (0 : Int)), SSig.zero⟩ : VCommit))) hc37_46_4)
         obtain ⟨c38_46_4, hc38_46_4, h⟩ := letX h
         have hu_c38_46_4 := Upd.to hu_c37_46_4 (congrArg (fun q_ => (tyVCommit.enc (⟨(0 : Int), (0 : Int), (⟨none, 0, 0⟩ : Sl), (⟨none, 0, 0⟩ : Sl), (0 : Int), c37_46_4, (⟨none, 0, 0⟩ : Sl), q_, SSig.zero⟩ : VCommit))) hc38_46_4)
         refine sq rfl (so_sta ti38 rfl rfl rfl rfl hu_c38_46_4 (Ty.len _ _) (Ty.one _ _) (xs' := tyVCommit.enc (⟨(0 : Int), (0 : Int), (⟨none, 0, 0⟩ : Sl), (⟨none, 0, 0⟩ : Sl), (0 : Int), c37_46_4, (⟨none, 0, 0⟩ : Sl), c38_46_4, SSig.zero⟩ : VCommit)) se5 ?_)
         refine sqv rfl (yv_assign rfl rfl) ?_
         refine sqv rfl (yv_assign rfl rfl) ?_
         refine sqv rfl (yv_assign rfl rfl) ?_
         refine jl_nil ?_
         refine jx_then ?_
         refine jc_ret ?_
         refine jx_tr ?_
         refine nj_s (m := (mRow tySOp)) (v := (⟨none, 0, 0⟩ : Sl)) (p := ([] : (List SOp))) rq_nil ?_
         refine nj_s (m := (mRow tySVote)) (v := (⟨none, 0, 0⟩ : Sl)) (p := ([] : (List SVote))) rq_nil ?_
         refine nj_nil 97 tySl rfl ?_
         refine nj_s (m := mAl (mRow (tyI .u8))) (v := ([] : List Sl)) (p := []) rq_al0 ?_
         refine nj_nil 103 tyVWelcome rfl ?_
         refine nj_s (m := mAl mSWelcome) (v := ([] : List VWelcome)) (p := []) rq_al0 ?_
         refine nj_s (m := (mPt tyVpartyParty mSpartyParty)) (v := (none : Option Addr)) (p := none) rq_pt0 ?_
         cases h
         exact jx_ret rfl (rr_cella ti38 rfl at7 (Ty.len _ _) (rr_tmp rfl (rr_tmp rfl (rr_tmp rfl rr_nil)))) ⟨((⟨none, 0, 0⟩ : Sl), (⟨none, 0, 0⟩ : Sl), (⟨none, 0, 0⟩ : Sl), ([] : List Sl), (⟨none, 0, 0⟩ : Sl), ([] : List VWelcome), (none : Option Addr)), rfl, rfl, rfl, rfl⟩ (.cons de1 (.cons de0 .nil)) (.cons at4 (.cons at3 (.cons at2 (.cons at1 (.cons at0 .nil))))) rfl (by simp)
      ·
       replace h := brT h
       refine jc_t rfl ?_
       refine jc_seq ?_
       refine jc_reg ?_
       refine sqv rfl (yv_ldb ti38 rfl rfl (rd_bl at2) (Sub.refl _) (Ty.len _ _) (by simp)) ?_
       refine sqv rfl (yv_move rfl rfl) ?_
       refine sq rfl (so_sta ti38 rfl rfl rfl rfl (Upd.refl (xs := (tyVCommit.enc (⟨(0 : Int), (0 : Int), (⟨none, 0, 0⟩ : Sl), (⟨none, 0, 0⟩ : Sl), (0 : Int), (Vector.replicate 3 (0 : Int)), (⟨none, 0, 0⟩ : Sl), (Vector.replicate 32 (0 : Int)), SSig.zero⟩ : VCommit))) (ys := (tyVCommit.enc (⟨(0 : Int), (0 : Int), (⟨none, 0, 0⟩ : Sl), (⟨none, 0, 0⟩ : Sl), (0 : Int), (Vector.replicate 3 (0 : Int)), (⟨none, 0, 0⟩ : Sl), (Vector.replicate 32 (0 : Int)), SSig.zero⟩ : VCommit))) (by simp only [Ty.len])) (Ty.len _ _) (Ty.one _ _) (xs' := tyVCommit.enc (⟨(0 : Int), (0 : Int), (⟨none, 0, 0⟩ : Sl), (⟨none, 0, 0⟩ : Sl), (0 : Int), (Vector.replicate 3 (0 : Int)), (⟨none, 0, 0⟩ : Sl), (Vector.replicate 32 (0 : Int)), SSig.zero⟩ : VCommit)) se2 ?_)
       refine sqv rfl (yv_assign rfl rfl) ?_
       refine sqv rfl (yv_assign rfl rfl) ?_
       refine sqv rfl (yv_assign rfl rfl) ?_
       refine jl_nil ?_
       refine jx_then ?_
       refine jc_ret ?_
       refine jx_tr ?_
       refine nj_s (m := (mRow tySOp)) (v := (⟨none, 0, 0⟩ : Sl)) (p := ([] : (List SOp))) rq_nil ?_
       refine nj_s (m := (mRow tySVote)) (v := (⟨none, 0, 0⟩ : Sl)) (p := ([] : (List SVote))) rq_nil ?_
       refine nj_nil 97 tySl rfl ?_
       refine nj_s (m := mAl (mRow (tyI .u8))) (v := ([] : List Sl)) (p := []) rq_al0 ?_
       refine nj_nil 103 tyVWelcome rfl ?_
       refine nj_s (m := mAl mSWelcome) (v := ([] : List VWelcome)) (p := []) rq_al0 ?_
       refine nj_s (m := (mPt tyVpartyParty mSpartyParty)) (v := (none : Option Addr)) (p := none) rq_pt0 ?_
       cases h
       exact jx_ret rfl (rr_cella ti38 rfl at4 (Ty.len _ _) (rr_tmp rfl (rr_tmp rfl (rr_tmp rfl rr_nil)))) ⟨((⟨none, 0, 0⟩ : Sl), (⟨none, 0, 0⟩ : Sl), (⟨none, 0, 0⟩ : Sl), ([] : List Sl), (⟨none, 0, 0⟩ : Sl), ([] : List VWelcome), (none : Option Addr)), rfl, rfl, rfl, rfl⟩ (.cons de1 (.cons de0 .nil)) (.cons at4 (.cons at3 (.cons at2 (.cons at1 (.cons at0 .nil))))) rfl (by simp)
     rcases j45 with _ | _
     ·
      replace h := brF h
      refine jc_f rfl ?_
      refine jc_skip ?_
      refine jx_then_n ?_
      exact nj_weak (hj1 y1_25.2.2.2 h) ⟨rfl, rfl, rfl, rfl, rfl, rfl, rfl, rfl, rfl, rfl, rfl, trivial⟩ (.cons de0 (.cons de0 (.cons de0 (.cons de0 .nil)))) (.cons at0 (.cons at1 (.cons at2 .nil)))
     ·
      replace h := brT h
      refine jc_t rfl ?_
      refine jc_reg ?_
      refine sqv rfl (yv_assign rfl rfl) ?_
      refine jl_nil ?_
      refine jx_then_n ?_
      exact nj_weak (hj1 12 h) ⟨rfl, rfl, rfl, rfl, rfl, rfl, rfl, rfl, rfl, rfl, rfl, trivial⟩ (.cons de0 (.cons de0 (.cons de0 (.cons de0 .nil)))) (.cons at0 (.cons at1 (.cons at2 .nil)))
    refine jc_reg ?_
    refine sqv rfl (yv_move rfl rfl) ?_
    obtain ⟨x40, hx40, h⟩ := letX h
    refine sqv rfl (yxb hx40 (yv_eql rfl rfl rfl)) ?_
    refine sqv rfl (yv_move rfl rfl) ?_
    rcases x40 with _ | _
    ·
     replace h := brF h
     refine sq_skip rfl ?_
     refine sq_skip rfl ?_
     refine sq_skip rfl ?_
     refine sq_skip rfl ?_
     refine sq_skip rfl ?_
     refine sq_skip rfl ?_
     refine sqv rfl (yv_pick_f rfl rfl rfl) ?_
     refine jl_nil ?_
     refine jx_then_n ?_
     exact nj_weak (hj0 false h) ⟨rfl, rfl, rfl, rfl, rfl, rfl, rfl, rfl, rfl, rfl, rfl, rfl, trivial⟩ (.cons de1 (.cons de1 (.cons de1 (.cons de1 .nil)))) (.cons at3 (.cons at4 (.cons at5 .nil)))
    ·
     replace h := brT h
     refine sqv rfl (yv_move rfl rfl) ?_
     refine sqv rfl (yv_nilp rfl rfl hv_b8) ?_
     refine sqv rfl (yv_fa fa143_0 rfl rfl) ?_
     refine sqv rfl (yv_fa fa64_0 rfl rfl) ?_
     obtain ⟨x41, hx41, h⟩ := letX h
     refine sqv rfl (yxi hx41 (yv_ldb ti3 rfl rfl (rd_f at1) (((Sub.refl _).trans (VpartyParty.s0 (⟨x3.v, x3.leaf, u9_2, x3.own, x3.has', x3.nodes, x3.epoch, x3.init'⟩ : VpartyParty))).trans (SView.s0 x3.v)) (Ty.len _ _) (fun _ => rfl))) ?_
     obtain ⟨x42, hx42, h⟩ := letX h
     refine sqv rfl (yxb hx42 (yv_geq rfl rfl rfl)) ?_
     refine sqv rfl (yv_pick_t rfl rfl rfl) ?_
     refine jl_nil ?_
     refine jx_then_n ?_
     exact nj_weak (hj0 x42 h) ⟨rfl, rfl, rfl, rfl, rfl, rfl, rfl, rfl, rfl, rfl, rfl, rfl, trivial⟩ (.cons de1 (.cons de1 (.cons de1 (.cons de1 .nil)))) (.cons at3 (.cons at4 (.cons at5 .nil)))
   have hs6_39_24 : ∀ (b1_31 : Nat) (b1_32 : Nat) (b1_33 : Nat), J6_39 [] [fa true mBl b8 (tyVpartyParty.enc (⟨x3.v, x3.leaf, u9_2, x3.own, x3.has', x3.nodes, x3.epoch, x3.init'⟩ : VpartyParty))] 2 #[true, true, true, true, true, true, true, true, true, true, true, true, true, true, true, true, true, true, true, true, false, false] [(0, .pointer v0), (1, sv v1), (2, sv v2), (7, pt b1 0), (8, pt b2 0), (9, sv (⟨none, 0, 0⟩ : Sl)), (10, .pointer (none : Option Addr)), (11, .int .i64 0), (13, pt b1_31 0), (14, pt b1_32 0), (15, pt b1_33 0), (55, ag ((Ty.arr 8 tyB).enc y1_25.2.2.1)), (56, .int .i64 y1_25.2.2.2)] [.blk b1_33 62 ((Ty.arr 8 tyB).enc (Vector.replicate 8 false)), .blk b1_32 62 ((Ty.arr 8 tyB).enc y1_25.2.1), .blk b1_31 64 (tySView.enc y1_25.1), .blk b2 38 (tyVCommit.enc (⟨(0 : Int), (0 : Int), (⟨none, 0, 0⟩ : Sl), (⟨none, 0, 0⟩ : Sl), (0 : Int), (Vector.replicate 3 (0 : Int)), (⟨none, 0, 0⟩ : Sl), (Vector.replicate 32 (0 : Int)), SSig.zero⟩ : VCommit)), .blk b1 25 ((Ty.arr 32 (tyI .u8)).enc p3)] [fa true mKey u9_2 x3.signer, fa true mBl b8 (tyVpartyParty.enc (⟨x3.v, x3.leaf, u9_2, x3.own, x3.has', x3.nodes, x3.epoch, x3.init'⟩ : VpartyParty)), fa true mSpartyParty (⟨x3.v, x3.leaf, u9_2, x3.own, x3.has', x3.nodes, x3.epoch, x3.init'⟩ : VpartyParty) x3, fa true (mPt tyVpartyParty mSpartyParty) v0 p0, fa false (mRow tySOp) v1 p1, fa false (mRow tySVote) v2 p2] := by
    intro b1_31 b1_32 b1_33
    refine hJ6_39_1 _ _ _ _ _ _ _ ?_
    refine jg_ready (rs := [20]) (by kernel_rfl) (by simp) (.cons ?_ .nil)
    ·
     refine gst rfl rfl (so_sta ti62 rfl rfl rfl rfl (Upd.refl (by simp [Ty.len])) (Ty.len _ _) (Ty.one _ _) (xs' := (Ty.arr 8 tyB).enc y1_25.2.2.1) se0 ?_)
     refine ng .nil (.cons at1 .nil) ?_
     refine jg_ls (listed' := #[true, true, true, true, true, true, true, true, true, true, true, true, true, true, true, true, true, true, true, true, true, false]) (by kernel_rfl) ?_
     exact nj_weak (hJ6_39_2 _ _ _ _ _ _ _ (hs6_39_25 b1_31 b1_32 b1_33)) ⟨rfl, rfl, rfl, rfl, rfl, rfl, rfl, rfl, rfl, rfl, rfl, trivial⟩ (.cons de0 (.cons de0 (.cons de0 (.cons de0 (.cons de0 .nil))))) (.cons at0 (.cons at1 (.cons at2 (.cons at3 (.cons at4 (.cons at5 .nil))))))
   have hs6_39_23 : ∀ (b1_31 : Nat) (b1_32 : Nat) (b1_33 : Nat), J6_39 [] [fa true mBl b8 (tyVpartyParty.enc (⟨x3.v, x3.leaf, u9_2, x3.own, x3.has', x3.nodes, x3.epoch, x3.init'⟩ : VpartyParty))] 3 #[true, true, true, true, true, true, true, true, true, true, true, true, true, true, true, true, true, true, true, false, false, false] [(0, .pointer v0), (1, sv v1), (2, sv v2), (7, pt b1 0), (8, pt b2 0), (9, sv (⟨none, 0, 0⟩ : Sl)), (10, .pointer (none : Option Addr)), (11, .int .i64 0), (13, pt b1_31 0), (14, pt b1_32 0), (15, pt b1_33 0), (54, ag ((Ty.arr 8 tyB).enc y1_25.2.1)), (55, ag ((Ty.arr 8 tyB).enc y1_25.2.2.1)), (56, .int .i64 y1_25.2.2.2)] [.blk b1_33 62 ((Ty.arr 8 tyB).enc (Vector.replicate 8 false)), .blk b1_32 62 ((Ty.arr 8 tyB).enc (Vector.replicate 8 false)), .blk b1_31 64 (tySView.enc y1_25.1), .blk b2 38 (tyVCommit.enc (⟨(0 : Int), (0 : Int), (⟨none, 0, 0⟩ : Sl), (⟨none, 0, 0⟩ : Sl), (0 : Int), (Vector.replicate 3 (0 : Int)), (⟨none, 0, 0⟩ : Sl), (Vector.replicate 32 (0 : Int)), SSig.zero⟩ : VCommit)), .blk b1 25 ((Ty.arr 32 (tyI .u8)).enc p3)] [fa true mKey u9_2 x3.signer, fa true mBl b8 (tyVpartyParty.enc (⟨x3.v, x3.leaf, u9_2, x3.own, x3.has', x3.nodes, x3.epoch, x3.init'⟩ : VpartyParty)), fa true mSpartyParty (⟨x3.v, x3.leaf, u9_2, x3.own, x3.has', x3.nodes, x3.epoch, x3.init'⟩ : VpartyParty) x3, fa true (mPt tyVpartyParty mSpartyParty) v0 p0, fa false (mRow tySOp) v1 p1, fa false (mRow tySVote) v2 p2] := by
    intro b1_31 b1_32 b1_33
    refine hJ6_39_1 _ _ _ _ _ _ _ ?_
    refine jg_ready (rs := [19]) (by kernel_rfl) (by simp) (.cons ?_ .nil)
    ·
     refine gst rfl rfl (so_sta ti62 rfl rfl rfl rfl (Upd.refl (by simp [Ty.len])) (Ty.len _ _) (Ty.one _ _) (xs' := (Ty.arr 8 tyB).enc y1_25.2.1) se1 ?_)
     refine ng .nil (.cons at1 .nil) ?_
     refine jg_ls (listed' := #[true, true, true, true, true, true, true, true, true, true, true, true, true, true, true, true, true, true, true, true, false, false]) (by kernel_rfl) ?_
     exact nj_weak (hJ6_39_2 _ _ _ _ _ _ _ (hs6_39_24 b1_31 b1_32 b1_33)) ⟨rfl, rfl, rfl, rfl, rfl, rfl, rfl, rfl, rfl, rfl, rfl, rfl, rfl, trivial⟩ (.cons de0 (.cons de0 (.cons de0 (.cons de0 (.cons de0 .nil))))) (.cons at0 (.cons at1 (.cons at2 (.cons at3 (.cons at4 (.cons at5 .nil))))))
   have hs6_39_22 : ∀ (b1_31 : Nat) (b1_32 : Nat) (b1_33 : Nat), J6_39 [] [fa true mBl b8 (tyVpartyParty.enc (⟨x3.v, x3.leaf, u9_2, x3.own, x3.has', x3.nodes, x3.epoch, x3.init'⟩ : VpartyParty))] 4 #[true, true, true, true, true, true, true, true, true, true, true, true, true, true, true, true, true, true, false, false, false, false] [(0, .pointer v0), (1, sv v1), (2, sv v2), (7, pt b1 0), (8, pt b2 0), (9, sv (⟨none, 0, 0⟩ : Sl)), (10, .pointer (none : Option Addr)), (11, .int .i64 0), (13, pt b1_31 0), (14, pt b1_32 0), (15, pt b1_33 0), (53, ag (tySView.enc y1_25.1)), (54, ag ((Ty.arr 8 tyB).enc y1_25.2.1)), (55, ag ((Ty.arr 8 tyB).enc y1_25.2.2.1)), (56, .int .i64 y1_25.2.2.2)] [.blk b1_33 62 ((Ty.arr 8 tyB).enc (Vector.replicate 8 false)), .blk b1_32 62 ((Ty.arr 8 tyB).enc (Vector.replicate 8 false)), .blk b1_31 64 (tySView.enc SView.zero), .blk b2 38 (tyVCommit.enc (⟨(0 : Int), (0 : Int), (⟨none, 0, 0⟩ : Sl), (⟨none, 0, 0⟩ : Sl), (0 : Int), (Vector.replicate 3 (0 : Int)), (⟨none, 0, 0⟩ : Sl), (Vector.replicate 32 (0 : Int)), SSig.zero⟩ : VCommit)), .blk b1 25 ((Ty.arr 32 (tyI .u8)).enc p3)] [fa true mKey u9_2 x3.signer, fa true mBl b8 (tyVpartyParty.enc (⟨x3.v, x3.leaf, u9_2, x3.own, x3.has', x3.nodes, x3.epoch, x3.init'⟩ : VpartyParty)), fa true mSpartyParty (⟨x3.v, x3.leaf, u9_2, x3.own, x3.has', x3.nodes, x3.epoch, x3.init'⟩ : VpartyParty) x3, fa true (mPt tyVpartyParty mSpartyParty) v0 p0, fa false (mRow tySOp) v1 p1, fa false (mRow tySVote) v2 p2] := by
    intro b1_31 b1_32 b1_33
    refine hJ6_39_1 _ _ _ _ _ _ _ ?_
    refine jg_ready (rs := [18]) (by kernel_rfl) (by simp) (.cons ?_ .nil)
    ·
     refine gst rfl rfl (so_sta ti64 rfl rfl rfl rfl (Upd.refl (by simp [Ty.len])) (Ty.len _ _) (Ty.one _ _) (xs' := tySView.enc y1_25.1) se2 ?_)
     refine ng .nil (.cons at1 .nil) ?_
     refine jg_ls (listed' := #[true, true, true, true, true, true, true, true, true, true, true, true, true, true, true, true, true, true, true, false, false, false]) (by kernel_rfl) ?_
     exact nj_weak (hJ6_39_2 _ _ _ _ _ _ _ (hs6_39_23 b1_31 b1_32 b1_33)) ⟨rfl, rfl, rfl, rfl, rfl, rfl, rfl, rfl, rfl, rfl, rfl, rfl, rfl, rfl, trivial⟩ (.cons de0 (.cons de0 (.cons de0 (.cons de0 (.cons de0 .nil))))) (.cons at0 (.cons at1 (.cons at2 (.cons at3 (.cons at4 (.cons at5 .nil))))))
   have hs6_39_21 : ∀ (b1_32 : Nat) (b1_33 : Nat), J6_39 [] [fa true mBl b8 (tyVpartyParty.enc (⟨x3.v, x3.leaf, u9_2, x3.own, x3.has', x3.nodes, x3.epoch, x3.init'⟩ : VpartyParty))] 5 #[true, true, true, true, true, true, true, true, true, true, true, true, true, true, true, false, true, true, false, false, false, false] [(0, .pointer v0), (1, sv v1), (2, sv v2), (7, pt b1 0), (8, pt b2 0), (9, sv (⟨none, 0, 0⟩ : Sl)), (10, .pointer (none : Option Addr)), (11, .int .i64 0), (14, pt b1_32 0), (15, pt b1_33 0), (53, ag (tySView.enc y1_25.1)), (54, ag ((Ty.arr 8 tyB).enc y1_25.2.1)), (55, ag ((Ty.arr 8 tyB).enc y1_25.2.2.1)), (56, .int .i64 y1_25.2.2.2)] [.blk b1_33 62 ((Ty.arr 8 tyB).enc (Vector.replicate 8 false)), .blk b1_32 62 ((Ty.arr 8 tyB).enc (Vector.replicate 8 false)), .blk b2 38 (tyVCommit.enc (⟨(0 : Int), (0 : Int), (⟨none, 0, 0⟩ : Sl), (⟨none, 0, 0⟩ : Sl), (0 : Int), (Vector.replicate 3 (0 : Int)), (⟨none, 0, 0⟩ : Sl), (Vector.replicate 32 (0 : Int)), SSig.zero⟩ : VCommit)), .blk b1 25 ((Ty.arr 32 (tyI .u8)).enc p3)] [fa true mKey u9_2 x3.signer, fa true mBl b8 (tyVpartyParty.enc (⟨x3.v, x3.leaf, u9_2, x3.own, x3.has', x3.nodes, x3.epoch, x3.init'⟩ : VpartyParty)), fa true mSpartyParty (⟨x3.v, x3.leaf, u9_2, x3.own, x3.has', x3.nodes, x3.epoch, x3.init'⟩ : VpartyParty) x3, fa true (mPt tyVpartyParty mSpartyParty) v0 p0, fa false (mRow tySOp) v1 p1, fa false (mRow tySVote) v2 p2] := by
    intro b1_32 b1_33
    refine hJ6_39_1 _ _ _ _ _ _ _ ?_
    refine jg_ready (rs := [15]) (by kernel_rfl) (by simp) (.cons ?_ .nil)
    ·
     refine gst rfl rfl (so_alloc ti64 (by decide) rfl rfl fun b1_31 => ?_)
     refine ng .nil (.cons at1 .nil) ?_
     refine jg_ls (listed' := #[true, true, true, true, true, true, true, true, true, true, true, true, true, true, true, true, true, true, false, false, false, false]) (by kernel_rfl) ?_
     exact nj_weak (hJ6_39_2 _ _ _ _ _ _ _ (hs6_39_22 b1_31 b1_32 b1_33)) ⟨rfl, rfl, rfl, rfl, rfl, rfl, rfl, rfl, rfl, rfl, rfl, rfl, rfl, rfl, rfl, trivial⟩ (.cons de1 (.cons de1 (.cons de0 (.cons de0 (.cons de0 .nil))))) (.cons at0 (.cons at1 (.cons at2 (.cons at3 (.cons at4 (.cons at5 .nil))))))
   have hs6_39_20 : ∀ (b1_31 : Nat) (b1_33 : Nat), J6_39 [] [fa true mBl b8 (tyVpartyParty.enc (⟨x3.v, x3.leaf, u9_2, x3.own, x3.has', x3.nodes, x3.epoch, x3.init'⟩ : VpartyParty))] 5 #[true, true, true, true, true, true, true, true, true, true, true, true, true, true, true, true, false, true, false, false, false, false] [(0, .pointer v0), (1, sv v1), (2, sv v2), (7, pt b1 0), (8, pt b2 0), (9, sv (⟨none, 0, 0⟩ : Sl)), (10, .pointer (none : Option Addr)), (11, .int .i64 0), (13, pt b1_31 0), (15, pt b1_33 0), (53, ag (tySView.enc y1_25.1)), (54, ag ((Ty.arr 8 tyB).enc y1_25.2.1)), (55, ag ((Ty.arr 8 tyB).enc y1_25.2.2.1)), (56, .int .i64 y1_25.2.2.2)] [.blk b1_33 62 ((Ty.arr 8 tyB).enc (Vector.replicate 8 false)), .blk b1_31 64 (tySView.enc SView.zero), .blk b2 38 (tyVCommit.enc (⟨(0 : Int), (0 : Int), (⟨none, 0, 0⟩ : Sl), (⟨none, 0, 0⟩ : Sl), (0 : Int), (Vector.replicate 3 (0 : Int)), (⟨none, 0, 0⟩ : Sl), (Vector.replicate 32 (0 : Int)), SSig.zero⟩ : VCommit)), .blk b1 25 ((Ty.arr 32 (tyI .u8)).enc p3)] [fa true mKey u9_2 x3.signer, fa true mBl b8 (tyVpartyParty.enc (⟨x3.v, x3.leaf, u9_2, x3.own, x3.has', x3.nodes, x3.epoch, x3.init'⟩ : VpartyParty)), fa true mSpartyParty (⟨x3.v, x3.leaf, u9_2, x3.own, x3.has', x3.nodes, x3.epoch, x3.init'⟩ : VpartyParty) x3, fa true (mPt tyVpartyParty mSpartyParty) v0 p0, fa false (mRow tySOp) v1 p1, fa false (mRow tySVote) v2 p2] := by
    intro b1_31 b1_33
    refine hJ6_39_1 _ _ _ _ _ _ _ ?_
    refine jg_ready (rs := [16]) (by kernel_rfl) (by simp) (.cons ?_ .nil)
    ·
     refine gst rfl rfl (so_alloc ti62 (by decide) rfl rfl fun b1_32 => ?_)
     refine ng .nil (.cons at1 .nil) ?_
     refine jg_ls (listed' := #[true, true, true, true, true, true, true, true, true, true, true, true, true, true, true, true, true, true, false, false, false, false]) (by kernel_rfl) ?_
     exact nj_weak (hJ6_39_2 _ _ _ _ _ _ _ (hs6_39_22 b1_31 b1_32 b1_33)) ⟨rfl, rfl, rfl, rfl, rfl, rfl, rfl, rfl, rfl, rfl, rfl, rfl, rfl, rfl, rfl, trivial⟩ (.cons de1 (.cons de0 (.cons de0 (.cons de0 (.cons de0 .nil))))) (.cons at0 (.cons at1 (.cons at2 (.cons at3 (.cons at4 (.cons at5 .nil))))))
   have hs6_39_19 : ∀ (b1_31 : Nat) (b1_32 : Nat), J6_39 [] [fa true mBl b8 (tyVpartyParty.enc (⟨x3.v, x3.leaf, u9_2, x3.own, x3.has', x3.nodes, x3.epoch, x3.init'⟩ : VpartyParty))] 5 #[true, true, true, true, true, true, true, true, true, true, true, true, true, true, true, true, true, false, false, false, false, false] [(0, .pointer v0), (1, sv v1), (2, sv v2), (7, pt b1 0), (8, pt b2 0), (9, sv (⟨none, 0, 0⟩ : Sl)), (10, .pointer (none : Option Addr)), (11, .int .i64 0), (13, pt b1_31 0), (14, pt b1_32 0), (53, ag (tySView.enc y1_25.1)), (54, ag ((Ty.arr 8 tyB).enc y1_25.2.1)), (55, ag ((Ty.arr 8 tyB).enc y1_25.2.2.1)), (56, .int .i64 y1_25.2.2.2)] [.blk b1_32 62 ((Ty.arr 8 tyB).enc (Vector.replicate 8 false)), .blk b1_31 64 (tySView.enc SView.zero), .blk b2 38 (tyVCommit.enc (⟨(0 : Int), (0 : Int), (⟨none, 0, 0⟩ : Sl), (⟨none, 0, 0⟩ : Sl), (0 : Int), (Vector.replicate 3 (0 : Int)), (⟨none, 0, 0⟩ : Sl), (Vector.replicate 32 (0 : Int)), SSig.zero⟩ : VCommit)), .blk b1 25 ((Ty.arr 32 (tyI .u8)).enc p3)] [fa true mKey u9_2 x3.signer, fa true mBl b8 (tyVpartyParty.enc (⟨x3.v, x3.leaf, u9_2, x3.own, x3.has', x3.nodes, x3.epoch, x3.init'⟩ : VpartyParty)), fa true mSpartyParty (⟨x3.v, x3.leaf, u9_2, x3.own, x3.has', x3.nodes, x3.epoch, x3.init'⟩ : VpartyParty) x3, fa true (mPt tyVpartyParty mSpartyParty) v0 p0, fa false (mRow tySOp) v1 p1, fa false (mRow tySVote) v2 p2] := by
    intro b1_31 b1_32
    refine hJ6_39_1 _ _ _ _ _ _ _ ?_
    refine jg_ready (rs := [17]) (by kernel_rfl) (by simp) (.cons ?_ .nil)
    ·
     refine gst rfl rfl (so_alloc ti62 (by decide) rfl rfl fun b1_33 => ?_)
     refine ng .nil (.cons at1 .nil) ?_
     refine jg_ls (listed' := #[true, true, true, true, true, true, true, true, true, true, true, true, true, true, true, true, true, true, false, false, false, false]) (by kernel_rfl) ?_
     exact nj_weak (hJ6_39_2 _ _ _ _ _ _ _ (hs6_39_22 b1_31 b1_32 b1_33)) ⟨rfl, rfl, rfl, rfl, rfl, rfl, rfl, rfl, rfl, rfl, rfl, rfl, rfl, rfl, rfl, trivial⟩ (.cons de0 (.cons de0 (.cons de0 (.cons de0 (.cons de0 .nil))))) (.cons at0 (.cons at1 (.cons at2 (.cons at3 (.cons at4 (.cons at5 .nil))))))
   have hs6_39_18 : ∀ (b1_33 : Nat), J6_39 [] [fa true mBl b8 (tyVpartyParty.enc (⟨x3.v, x3.leaf, u9_2, x3.own, x3.has', x3.nodes, x3.epoch, x3.init'⟩ : VpartyParty))] 6 #[true, true, true, true, true, true, true, true, true, true, true, true, true, true, true, false, false, true, false, false, false, false] [(0, .pointer v0), (1, sv v1), (2, sv v2), (7, pt b1 0), (8, pt b2 0), (9, sv (⟨none, 0, 0⟩ : Sl)), (10, .pointer (none : Option Addr)), (11, .int .i64 0), (15, pt b1_33 0), (53, ag (tySView.enc y1_25.1)), (54, ag ((Ty.arr 8 tyB).enc y1_25.2.1)), (55, ag ((Ty.arr 8 tyB).enc y1_25.2.2.1)), (56, .int .i64 y1_25.2.2.2)] [.blk b1_33 62 ((Ty.arr 8 tyB).enc (Vector.replicate 8 false)), .blk b2 38 (tyVCommit.enc (⟨(0 : Int), (0 : Int), (⟨none, 0, 0⟩ : Sl), (⟨none, 0, 0⟩ : Sl), (0 : Int), (Vector.replicate 3 (0 : Int)), (⟨none, 0, 0⟩ : Sl), (Vector.replicate 32 (0 : Int)), SSig.zero⟩ : VCommit)), .blk b1 25 ((Ty.arr 32 (tyI .u8)).enc p3)] [fa true mKey u9_2 x3.signer, fa true mBl b8 (tyVpartyParty.enc (⟨x3.v, x3.leaf, u9_2, x3.own, x3.has', x3.nodes, x3.epoch, x3.init'⟩ : VpartyParty)), fa true mSpartyParty (⟨x3.v, x3.leaf, u9_2, x3.own, x3.has', x3.nodes, x3.epoch, x3.init'⟩ : VpartyParty) x3, fa true (mPt tyVpartyParty mSpartyParty) v0 p0, fa false (mRow tySOp) v1 p1, fa false (mRow tySVote) v2 p2] := by
    intro b1_33
    refine hJ6_39_1 _ _ _ _ _ _ _ ?_
    refine jg_ready (rs := [15, 16]) (by kernel_rfl) (by simp) (.cons ?_ (.cons ?_ .nil))
    ·
     refine gst rfl rfl (so_alloc ti64 (by decide) rfl rfl fun b1_31 => ?_)
     refine ng .nil (.cons at1 .nil) ?_
     refine jg_ls (listed' := #[true, true, true, true, true, true, true, true, true, true, true, true, true, true, true, true, false, true, false, false, false, false]) (by kernel_rfl) ?_
     exact nj_weak (hJ6_39_2 _ _ _ _ _ _ _ (hs6_39_20 b1_31 b1_33)) ⟨rfl, rfl, rfl, rfl, rfl, rfl, rfl, rfl, rfl, rfl, rfl, rfl, rfl, rfl, trivial⟩ (.cons de1 (.cons de0 (.cons de0 (.cons de0 .nil)))) (.cons at0 (.cons at1 (.cons at2 (.cons at3 (.cons at4 (.cons at5 .nil))))))
    ·
     refine gst rfl rfl (so_alloc ti62 (by decide) rfl rfl fun b1_32 => ?_)
     refine ng .nil (.cons at1 .nil) ?_
     refine jg_ls (listed' := #[true, true, true, true, true, true, true, true, true, true, true, true, true, true, true, false, true, true, false, false, false, false]) (by kernel_rfl) ?_
     exact nj_weak (hJ6_39_2 _ _ _ _ _ _ _ (hs6_39_21 b1_32 b1_33)) ⟨rfl, rfl, rfl, rfl, rfl, rfl, rfl, rfl, rfl, rfl, rfl, rfl, rfl, rfl, trivial⟩ (.cons de1 (.cons de0 (.cons de0 (.cons de0 .nil)))) (.cons at0 (.cons at1 (.cons at2 (.cons at3 (.cons at4 (.cons at5 .nil))))))
   have hs6_39_17 : ∀ (b1_32 : Nat), J6_39 [] [fa true mBl b8 (tyVpartyParty.enc (⟨x3.v, x3.leaf, u9_2, x3.own, x3.has', x3.nodes, x3.epoch, x3.init'⟩ : VpartyParty))] 6 #[true, true, true, true, true, true, true, true, true, true, true, true, true, true, true, false, true, false, false, false, false, false] [(0, .pointer v0), (1, sv v1), (2, sv v2), (7, pt b1 0), (8, pt b2 0), (9, sv (⟨none, 0, 0⟩ : Sl)), (10, .pointer (none : Option Addr)), (11, .int .i64 0), (14, pt b1_32 0), (53, ag (tySView.enc y1_25.1)), (54, ag ((Ty.arr 8 tyB).enc y1_25.2.1)), (55, ag ((Ty.arr 8 tyB).enc y1_25.2.2.1)), (56, .int .i64 y1_25.2.2.2)] [.blk b1_32 62 ((Ty.arr 8 tyB).enc (Vector.replicate 8 false)), .blk b2 38 (tyVCommit.enc (⟨(0 : Int), (0 : Int), (⟨none, 0, 0⟩ : Sl), (⟨none, 0, 0⟩ : Sl), (0 : Int), (Vector.replicate 3 (0 : Int)), (⟨none, 0, 0⟩ : Sl), (Vector.replicate 32 (0 : Int)), SSig.zero⟩ : VCommit)), .blk b1 25 ((Ty.arr 32 (tyI .u8)).enc p3)] [fa true mKey u9_2 x3.signer, fa true mBl b8 (tyVpartyParty.enc (⟨x3.v, x3.leaf, u9_2, x3.own, x3.has', x3.nodes, x3.epoch, x3.init'⟩ : VpartyParty)), fa true mSpartyParty (⟨x3.v, x3.leaf, u9_2, x3.own, x3.has', x3.nodes, x3.epoch, x3.init'⟩ : VpartyParty) x3, fa true (mPt tyVpartyParty mSpartyParty) v0 p0, fa false (mRow tySOp) v1 p1, fa false (mRow tySVote) v2 p2] := by
    intro b1_32
    refine hJ6_39_1 _ _ _ _ _ _ _ ?_
    refine jg_ready (rs := [15, 17]) (by kernel_rfl) (by simp) (.cons ?_ (.cons ?_ .nil))
    ·
     refine gst rfl rfl (so_alloc ti64 (by decide) rfl rfl fun b1_31 => ?_)
     refine ng .nil (.cons at1 .nil) ?_
     refine jg_ls (listed' := #[true, true, true, true, true, true, true, true, true, true, true, true, true, true, true, true, true, false, false, false, false, false]) (by kernel_rfl) ?_
     exact nj_weak (hJ6_39_2 _ _ _ _ _ _ _ (hs6_39_19 b1_31 b1_32)) ⟨rfl, rfl, rfl, rfl, rfl, rfl, rfl, rfl, rfl, rfl, rfl, rfl, rfl, rfl, trivial⟩ (.cons de1 (.cons de0 (.cons de0 (.cons de0 .nil)))) (.cons at0 (.cons at1 (.cons at2 (.cons at3 (.cons at4 (.cons at5 .nil))))))
    ·
     refine gst rfl rfl (so_alloc ti62 (by decide) rfl rfl fun b1_33 => ?_)
     refine ng .nil (.cons at1 .nil) ?_
     refine jg_ls (listed' := #[true, true, true, true, true, true, true, true, true, true, true, true, true, true, true, false, true, true, false, false, false, false]) (by kernel_rfl) ?_
     exact nj_weak (hJ6_39_2 _ _ _ _ _ _ _ (hs6_39_21 b1_32 b1_33)) ⟨rfl, rfl, rfl, rfl, rfl, rfl, rfl, rfl, rfl, rfl, rfl, rfl, rfl, rfl, trivial⟩ (.cons de0 (.cons de0 (.cons de0 (.cons de0 .nil)))) (.cons at0 (.cons at1 (.cons at2 (.cons at3 (.cons at4 (.cons at5 .nil))))))
   have hs6_39_16 : ∀ (b1_31 : Nat), J6_39 [] [fa true mBl b8 (tyVpartyParty.enc (⟨x3.v, x3.leaf, u9_2, x3.own, x3.has', x3.nodes, x3.epoch, x3.init'⟩ : VpartyParty))] 6 #[true, true, true, true, true, true, true, true, true, true, true, true, true, true, true, true, false, false, false, false, false, false] [(0, .pointer v0), (1, sv v1), (2, sv v2), (7, pt b1 0), (8, pt b2 0), (9, sv (⟨none, 0, 0⟩ : Sl)), (10, .pointer (none : Option Addr)), (11, .int .i64 0), (13, pt b1_31 0), (53, ag (tySView.enc y1_25.1)), (54, ag ((Ty.arr 8 tyB).enc y1_25.2.1)), (55, ag ((Ty.arr 8 tyB).enc y1_25.2.2.1)), (56, .int .i64 y1_25.2.2.2)] [.blk b1_31 64 (tySView.enc SView.zero), .blk b2 38 (tyVCommit.enc (⟨(0 : Int), (0 : Int), (⟨none, 0, 0⟩ : Sl), (⟨none, 0, 0⟩ : Sl), (0 : Int), (Vector.replicate 3 (0 : Int)), (⟨none, 0, 0⟩ : Sl), (Vector.replicate 32 (0 : Int)), SSig.zero⟩ : VCommit)), .blk b1 25 ((Ty.arr 32 (tyI .u8)).enc p3)] [fa true mKey u9_2 x3.signer, fa true mBl b8 (tyVpartyParty.enc (⟨x3.v, x3.leaf, u9_2, x3.own, x3.has', x3.nodes, x3.epoch, x3.init'⟩ : VpartyParty)), fa true mSpartyParty (⟨x3.v, x3.leaf, u9_2, x3.own, x3.has', x3.nodes, x3.epoch, x3.init'⟩ : VpartyParty) x3, fa true (mPt tyVpartyParty mSpartyParty) v0 p0, fa false (mRow tySOp) v1 p1, fa false (mRow tySVote) v2 p2] := by
    intro b1_31
    refine hJ6_39_1 _ _ _ _ _ _ _ ?_
    refine jg_ready (rs := [16, 17]) (by kernel_rfl) (by simp) (.cons ?_ (.cons ?_ .nil))
    ·
     refine gst rfl rfl (so_alloc ti62 (by decide) rfl rfl fun b1_32 => ?_)
     refine ng .nil (.cons at1 .nil) ?_
     refine jg_ls (listed' := #[true, true, true, true, true, true, true, true, true, true, true, true, true, true, true, true, true, false, false, false, false, false]) (by kernel_rfl) ?_
     exact nj_weak (hJ6_39_2 _ _ _ _ _ _ _ (hs6_39_19 b1_31 b1_32)) ⟨rfl, rfl, rfl, rfl, rfl, rfl, rfl, rfl, rfl, rfl, rfl, rfl, rfl, rfl, trivial⟩ (.cons de0 (.cons de0 (.cons de0 (.cons de0 .nil)))) (.cons at0 (.cons at1 (.cons at2 (.cons at3 (.cons at4 (.cons at5 .nil))))))
    ·
     refine gst rfl rfl (so_alloc ti62 (by decide) rfl rfl fun b1_33 => ?_)
     refine ng .nil (.cons at1 .nil) ?_
     refine jg_ls (listed' := #[true, true, true, true, true, true, true, true, true, true, true, true, true, true, true, true, false, true, false, false, false, false]) (by kernel_rfl) ?_
     exact nj_weak (hJ6_39_2 _ _ _ _ _ _ _ (hs6_39_20 b1_31 b1_33)) ⟨rfl, rfl, rfl, rfl, rfl, rfl, rfl, rfl, rfl, rfl, rfl, rfl, rfl, rfl, trivial⟩ (.cons de0 (.cons de0 (.cons de0 (.cons de0 .nil)))) (.cons at0 (.cons at1 (.cons at2 (.cons at3 (.cons at4 (.cons at5 .nil))))))
   have hs6_39_15 : ∀ (b1_31 : Nat) (b1_32 : Nat) (b1_33 : Nat), J6_39 [] [fa true mBl b8 (tyVpartyParty.enc (⟨x3.v, x3.leaf, u9_2, x3.own, x3.has', x3.nodes, x3.epoch, x3.init'⟩ : VpartyParty))] 9 #[true, true, true, true, true, true, true, true, true, true, false, false, false, false, false, true, true, true, false, false, false, false] [(0, .pointer v0), (1, sv v1), (2, sv v2), (7, pt b1 0), (8, pt b2 0), (9, sv (⟨none, 0, 0⟩ : Sl)), (10, .pointer (none : Option Addr)), (11, .int .i64 0), (13, pt b1_31 0), (14, pt b1_32 0), (15, pt b1_33 0), (52, .tuple #[ag (tySView.enc y1_25.1), ag ((Ty.arr 8 tyB).enc y1_25.2.1), ag ((Ty.arr 8 tyB).enc y1_25.2.2.1), .int .i64 y1_25.2.2.2])] [.blk b1_33 62 ((Ty.arr 8 tyB).enc (Vector.replicate 8 false)), .blk b1_32 62 ((Ty.arr 8 tyB).enc (Vector.replicate 8 false)), .blk b1_31 64 (tySView.enc SView.zero), .blk b2 38 (tyVCommit.enc (⟨(0 : Int), (0 : Int), (⟨none, 0, 0⟩ : Sl), (⟨none, 0, 0⟩ : Sl), (0 : Int), (Vector.replicate 3 (0 : Int)), (⟨none, 0, 0⟩ : Sl), (Vector.replicate 32 (0 : Int)), SSig.zero⟩ : VCommit)), .blk b1 25 ((Ty.arr 32 (tyI .u8)).enc p3)] [fa true mKey u9_2 x3.signer, fa true mBl b8 (tyVpartyParty.enc (⟨x3.v, x3.leaf, u9_2, x3.own, x3.has', x3.nodes, x3.epoch, x3.init'⟩ : VpartyParty)), fa true mSpartyParty (⟨x3.v, x3.leaf, u9_2, x3.own, x3.has', x3.nodes, x3.epoch, x3.init'⟩ : VpartyParty) x3, fa true (mPt tyVpartyParty mSpartyParty) v0 p0, fa false (mRow tySOp) v1 p1, fa false (mRow tySVote) v2 p2] := by
    intro b1_31 b1_32 b1_33
    refine hJ6_39_1 _ _ _ _ _ _ _ ?_
    refine tk (i := 10) rfl (by kernel_rfl) rfl (yv_move rfl rfl) .nil .nil ?_
    refine tk (i := 11) rfl (by kernel_rfl) rfl (yv_ext rfl rfl rfl) .nil .nil ?_
    refine tk (i := 12) rfl (by kernel_rfl) rfl (yv_ext rfl rfl rfl) .nil .nil ?_
    refine tk (i := 13) rfl (by kernel_rfl) rfl (yv_ext rfl rfl rfl) .nil .nil ?_
    refine tk (i := 14) rfl (by kernel_rfl) rfl (yv_ext rfl rfl rfl) .nil .nil ?_
    refine jg_ready (rs := [18]) (by kernel_rfl) (by simp) (.cons ?_ .nil)
    ·
     refine gst rfl rfl (so_sta ti64 rfl rfl rfl rfl (Upd.refl (by simp [Ty.len])) (Ty.len _ _) (Ty.one _ _) (xs' := tySView.enc y1_25.1) se2 ?_)
     refine ng .nil (.cons at1 .nil) ?_
     refine jg_ls (listed' := #[true, true, true, true, true, true, true, true, true, true, true, true, true, true, true, true, true, true, true, false, false, false]) (by kernel_rfl) ?_
     exact nj_weak (hJ6_39_2 _ _ _ _ _ _ _ (hs6_39_23 b1_31 b1_32 b1_33)) ⟨rfl, rfl, rfl, rfl, rfl, rfl, rfl, rfl, rfl, rfl, rfl, rfl, rfl, rfl, trivial⟩ (.cons de0 (.cons de0 (.cons de0 (.cons de0 (.cons de0 .nil))))) (.cons at0 (.cons at1 (.cons at2 (.cons at3 (.cons at4 (.cons at5 .nil))))))
   have hs6_39_14 : ∀ (b1_31 : Nat) (b1_32 : Nat) (b1_33 : Nat), J6_39 [] [fa true mBl b8 (tyVpartyParty.enc (⟨x3.v, x3.leaf, u9_2, x3.own, x3.has', x3.nodes, x3.epoch, x3.init'⟩ : VpartyParty))] 10 #[true, true, true, true, true, true, true, true, true, false, false, false, false, false, false, true, true, true, false, false, false, false] [(0, .pointer v0), (1, sv v1), (2, sv v2), (7, pt b1 0), (8, pt b2 0), (9, sv (⟨none, 0, 0⟩ : Sl)), (10, .pointer (none : Option Addr)), (11, .int .i64 0), (13, pt b1_31 0), (14, pt b1_32 0), (15, pt b1_33 0), (46, ag (tySView.enc x1_19)), (50, .int .i64 x1_23), (51, sv v1)] [.blk b1_33 62 ((Ty.arr 8 tyB).enc (Vector.replicate 8 false)), .blk b1_32 62 ((Ty.arr 8 tyB).enc (Vector.replicate 8 false)), .blk b1_31 64 (tySView.enc SView.zero), .blk b2 38 (tyVCommit.enc (⟨(0 : Int), (0 : Int), (⟨none, 0, 0⟩ : Sl), (⟨none, 0, 0⟩ : Sl), (0 : Int), (Vector.replicate 3 (0 : Int)), (⟨none, 0, 0⟩ : Sl), (Vector.replicate 32 (0 : Int)), SSig.zero⟩ : VCommit)), .blk b1 25 ((Ty.arr 32 (tyI .u8)).enc p3)] [fa true mKey u9_2 x3.signer, fa true mBl b8 (tyVpartyParty.enc (⟨x3.v, x3.leaf, u9_2, x3.own, x3.has', x3.nodes, x3.epoch, x3.init'⟩ : VpartyParty)), fa true mSpartyParty (⟨x3.v, x3.leaf, u9_2, x3.own, x3.has', x3.nodes, x3.epoch, x3.init'⟩ : VpartyParty) x3, fa true (mPt tyVpartyParty mSpartyParty) v0 p0, fa false (mRow tySOp) v1 p1, fa false (mRow tySVote) v2 p2] := by
    intro b1_31 b1_32 b1_33
    refine hJ6_39_1 _ _ _ _ _ _ _ ?_
    refine jg_ready (rs := [9]) (by kernel_rfl) (by simp) (.cons ?_ .nil)
    ·
     refine gst rfl rfl (so_callv pf88 rfl rfl rfl rfl (fun σ hs => F88_c hy1_25 σ.w σ.O hs.olt v1 (cw0 (rd_f at4) hs)) ?_)
     refine ng .nil (.cons at1 .nil) ?_
     refine jg_ls (listed' := #[true, true, true, true, true, true, true, true, true, true, false, false, false, false, false, true, true, true, false, false, false, false]) (by kernel_rfl) ?_
     exact nj_weak (hJ6_39_2 _ _ _ _ _ _ _ (hs6_39_15 b1_31 b1_32 b1_33)) ⟨rfl, rfl, rfl, rfl, rfl, rfl, rfl, rfl, rfl, rfl, rfl, rfl, trivial⟩ (.cons de0 (.cons de0 (.cons de0 (.cons de0 (.cons de0 .nil))))) (.cons at0 (.cons at1 (.cons at2 (.cons at3 (.cons at4 (.cons at5 .nil))))))
   have hs6_39_13 : ∀ (b1_32 : Nat) (b1_33 : Nat), J6_39 [] [fa true mBl b8 (tyVpartyParty.enc (⟨x3.v, x3.leaf, u9_2, x3.own, x3.has', x3.nodes, x3.epoch, x3.init'⟩ : VpartyParty))] 10 #[true, true, true, true, true, true, true, true, true, true, false, false, false, false, false, false, true, true, false, false, false, false] [(0, .pointer v0), (1, sv v1), (2, sv v2), (7, pt b1 0), (8, pt b2 0), (9, sv (⟨none, 0, 0⟩ : Sl)), (10, .pointer (none : Option Addr)), (11, .int .i64 0), (14, pt b1_32 0), (15, pt b1_33 0), (52, .tuple #[ag (tySView.enc y1_25.1), ag ((Ty.arr 8 tyB).enc y1_25.2.1), ag ((Ty.arr 8 tyB).enc y1_25.2.2.1), .int .i64 y1_25.2.2.2])] [.blk b1_33 62 ((Ty.arr 8 tyB).enc (Vector.replicate 8 false)), .blk b1_32 62 ((Ty.arr 8 tyB).enc (Vector.replicate 8 false)), .blk b2 38 (tyVCommit.enc (⟨(0 : Int), (0 : Int), (⟨none, 0, 0⟩ : Sl), (⟨none, 0, 0⟩ : Sl), (0 : Int), (Vector.replicate 3 (0 : Int)), (⟨none, 0, 0⟩ : Sl), (Vector.replicate 32 (0 : Int)), SSig.zero⟩ : VCommit)), .blk b1 25 ((Ty.arr 32 (tyI .u8)).enc p3)] [fa true mKey u9_2 x3.signer, fa true mBl b8 (tyVpartyParty.enc (⟨x3.v, x3.leaf, u9_2, x3.own, x3.has', x3.nodes, x3.epoch, x3.init'⟩ : VpartyParty)), fa true mSpartyParty (⟨x3.v, x3.leaf, u9_2, x3.own, x3.has', x3.nodes, x3.epoch, x3.init'⟩ : VpartyParty) x3, fa true (mPt tyVpartyParty mSpartyParty) v0 p0, fa false (mRow tySOp) v1 p1, fa false (mRow tySVote) v2 p2] := by
    intro b1_32 b1_33
    refine hJ6_39_1 _ _ _ _ _ _ _ ?_
    refine tk (i := 10) rfl (by kernel_rfl) rfl (yv_move rfl rfl) .nil .nil ?_
    refine tk (i := 11) rfl (by kernel_rfl) rfl (yv_ext rfl rfl rfl) .nil .nil ?_
    refine tk (i := 12) rfl (by kernel_rfl) rfl (yv_ext rfl rfl rfl) .nil .nil ?_
    refine tk (i := 13) rfl (by kernel_rfl) rfl (yv_ext rfl rfl rfl) .nil .nil ?_
    refine tk (i := 14) rfl (by kernel_rfl) rfl (yv_ext rfl rfl rfl) .nil .nil ?_
    refine jg_ready (rs := [15]) (by kernel_rfl) (by simp) (.cons ?_ .nil)
    ·
     refine gst rfl rfl (so_alloc ti64 (by decide) rfl rfl fun b1_31 => ?_)
     refine ng .nil (.cons at1 .nil) ?_
     refine jg_ls (listed' := #[true, true, true, true, true, true, true, true, true, true, true, true, true, true, true, true, true, true, false, false, false, false]) (by kernel_rfl) ?_
     exact nj_weak (hJ6_39_2 _ _ _ _ _ _ _ (hs6_39_22 b1_31 b1_32 b1_33)) ⟨rfl, rfl, rfl, rfl, rfl, rfl, rfl, rfl, rfl, rfl, rfl, rfl, rfl, rfl, rfl, trivial⟩ (.cons de1 (.cons de1 (.cons de0 (.cons de0 (.cons de0 .nil))))) (.cons at0 (.cons at1 (.cons at2 (.cons at3 (.cons at4 (.cons at5 .nil))))))
   have hs6_39_12 : ∀ (b1_31 : Nat) (b1_33 : Nat), J6_39 [] [fa true mBl b8 (tyVpartyParty.enc (⟨x3.v, x3.leaf, u9_2, x3.own, x3.has', x3.nodes, x3.epoch, x3.init'⟩ : VpartyParty))] 10 #[true, true, true, true, true, true, true, true, true, true, false, false, false, false, false, true, false, true, false, false, false, false] [(0, .pointer v0), (1, sv v1), (2, sv v2), (7, pt b1 0), (8, pt b2 0), (9, sv (⟨none, 0, 0⟩ : Sl)), (10, .pointer (none : Option Addr)), (11, .int .i64 0), (13, pt b1_31 0), (15, pt b1_33 0), (52, .tuple #[ag (tySView.enc y1_25.1), ag ((Ty.arr 8 tyB).enc y1_25.2.1), ag ((Ty.arr 8 tyB).enc y1_25.2.2.1), .int .i64 y1_25.2.2.2])] [.blk b1_33 62 ((Ty.arr 8 tyB).enc (Vector.replicate 8 false)), .blk b1_31 64 (tySView.enc SView.zero), .blk b2 38 (tyVCommit.enc (⟨(0 : Int), (0 : Int), (⟨none, 0, 0⟩ : Sl), (⟨none, 0, 0⟩ : Sl), (0 : Int), (Vector.replicate 3 (0 : Int)), (⟨none, 0, 0⟩ : Sl), (Vector.replicate 32 (0 : Int)), SSig.zero⟩ : VCommit)), .blk b1 25 ((Ty.arr 32 (tyI .u8)).enc p3)] [fa true mKey u9_2 x3.signer, fa true mBl b8 (tyVpartyParty.enc (⟨x3.v, x3.leaf, u9_2, x3.own, x3.has', x3.nodes, x3.epoch, x3.init'⟩ : VpartyParty)), fa true mSpartyParty (⟨x3.v, x3.leaf, u9_2, x3.own, x3.has', x3.nodes, x3.epoch, x3.init'⟩ : VpartyParty) x3, fa true (mPt tyVpartyParty mSpartyParty) v0 p0, fa false (mRow tySOp) v1 p1, fa false (mRow tySVote) v2 p2] := by
    intro b1_31 b1_33
    refine hJ6_39_1 _ _ _ _ _ _ _ ?_
    refine tk (i := 10) rfl (by kernel_rfl) rfl (yv_move rfl rfl) .nil .nil ?_
    refine tk (i := 11) rfl (by kernel_rfl) rfl (yv_ext rfl rfl rfl) .nil .nil ?_
    refine tk (i := 12) rfl (by kernel_rfl) rfl (yv_ext rfl rfl rfl) .nil .nil ?_
    refine tk (i := 13) rfl (by kernel_rfl) rfl (yv_ext rfl rfl rfl) .nil .nil ?_
    refine tk (i := 14) rfl (by kernel_rfl) rfl (yv_ext rfl rfl rfl) .nil .nil ?_
    refine jg_ready (rs := [16]) (by kernel_rfl) (by simp) (.cons ?_ .nil)
    ·
     refine gst rfl rfl (so_alloc ti62 (by decide) rfl rfl fun b1_32 => ?_)
     refine ng .nil (.cons at1 .nil) ?_
     refine jg_ls (listed' := #[true, true, true, true, true, true, true, true, true, true, true, true, true, true, true, true, true, true, false, false, false, false]) (by kernel_rfl) ?_
     exact nj_weak (hJ6_39_2 _ _ _ _ _ _ _ (hs6_39_22 b1_31 b1_32 b1_33)) ⟨rfl, rfl, rfl, rfl, rfl, rfl, rfl, rfl, rfl, rfl, rfl, rfl, rfl, rfl, rfl, trivial⟩ (.cons de1 (.cons de0 (.cons de0 (.cons de0 (.cons de0 .nil))))) (.cons at0 (.cons at1 (.cons at2 (.cons at3 (.cons at4 (.cons at5 .nil))))))
   have hs6_39_11 : ∀ (b1_31 : Nat) (b1_32 : Nat), J6_39 [] [fa true mBl b8 (tyVpartyParty.enc (⟨x3.v, x3.leaf, u9_2, x3.own, x3.has', x3.nodes, x3.epoch, x3.init'⟩ : VpartyParty))] 10 #[true, true, true, true, true, true, true, true, true, true, false, false, false, false, false, true, true, false, false, false, false, false] [(0, .pointer v0), (1, sv v1), (2, sv v2), (7, pt b1 0), (8, pt b2 0), (9, sv (⟨none, 0, 0⟩ : Sl)), (10, .pointer (none : Option Addr)), (11, .int .i64 0), (13, pt b1_31 0), (14, pt b1_32 0), (52, .tuple #[ag (tySView.enc y1_25.1), ag ((Ty.arr 8 tyB).enc y1_25.2.1), ag ((Ty.arr 8 tyB).enc y1_25.2.2.1), .int .i64 y1_25.2.2.2])] [.blk b1_32 62 ((Ty.arr 8 tyB).enc (Vector.replicate 8 false)), .blk b1_31 64 (tySView.enc SView.zero), .blk b2 38 (tyVCommit.enc (⟨(0 : Int), (0 : Int), (⟨none, 0, 0⟩ : Sl), (⟨none, 0, 0⟩ : Sl), (0 : Int), (Vector.replicate 3 (0 : Int)), (⟨none, 0, 0⟩ : Sl), (Vector.replicate 32 (0 : Int)), SSig.zero⟩ : VCommit)), .blk b1 25 ((Ty.arr 32 (tyI .u8)).enc p3)] [fa true mKey u9_2 x3.signer, fa true mBl b8 (tyVpartyParty.enc (⟨x3.v, x3.leaf, u9_2, x3.own, x3.has', x3.nodes, x3.epoch, x3.init'⟩ : VpartyParty)), fa true mSpartyParty (⟨x3.v, x3.leaf, u9_2, x3.own, x3.has', x3.nodes, x3.epoch, x3.init'⟩ : VpartyParty) x3, fa true (mPt tyVpartyParty mSpartyParty) v0 p0, fa false (mRow tySOp) v1 p1, fa false (mRow tySVote) v2 p2] := by
    intro b1_31 b1_32
    refine hJ6_39_1 _ _ _ _ _ _ _ ?_
    refine tk (i := 10) rfl (by kernel_rfl) rfl (yv_move rfl rfl) .nil .nil ?_
    refine tk (i := 11) rfl (by kernel_rfl) rfl (yv_ext rfl rfl rfl) .nil .nil ?_
    refine tk (i := 12) rfl (by kernel_rfl) rfl (yv_ext rfl rfl rfl) .nil .nil ?_
    refine tk (i := 13) rfl (by kernel_rfl) rfl (yv_ext rfl rfl rfl) .nil .nil ?_
    refine tk (i := 14) rfl (by kernel_rfl) rfl (yv_ext rfl rfl rfl) .nil .nil ?_
    refine jg_ready (rs := [17]) (by kernel_rfl) (by simp) (.cons ?_ .nil)
    ·
     refine gst rfl rfl (so_alloc ti62 (by decide) rfl rfl fun b1_33 => ?_)
     refine ng .nil (.cons at1 .nil) ?_
     refine jg_ls (listed' := #[true, true, true, true, true, true, true, true, true, true, true, true, true, true, true, true, true, true, false, false, false, false]) (by kernel_rfl) ?_
     exact nj_weak (hJ6_39_2 _ _ _ _ _ _ _ (hs6_39_22 b1_31 b1_32 b1_33)) ⟨rfl, rfl, rfl, rfl, rfl, rfl, rfl, rfl, rfl, rfl, rfl, rfl, rfl, rfl, rfl, trivial⟩ (.cons de0 (.cons de0 (.cons de0 (.cons de0 (.cons de0 .nil))))) (.cons at0 (.cons at1 (.cons at2 (.cons at3 (.cons at4 (.cons at5 .nil))))))
   have hs6_39_10 : ∀ (b1_32 : Nat) (b1_33 : Nat), J6_39 [] [fa true mBl b8 (tyVpartyParty.enc (⟨x3.v, x3.leaf, u9_2, x3.own, x3.has', x3.nodes, x3.epoch, x3.init'⟩ : VpartyParty))] 11 #[true, true, true, true, true, true, true, true, true, false, false, false, false, false, false, false, true, true, false, false, false, false] [(0, .pointer v0), (1, sv v1), (2, sv v2), (7, pt b1 0), (8, pt b2 0), (9, sv (⟨none, 0, 0⟩ : Sl)), (10, .pointer (none : Option Addr)), (11, .int .i64 0), (14, pt b1_32 0), (15, pt b1_33 0), (46, ag (tySView.enc x1_19)), (50, .int .i64 x1_23), (51, sv v1)] [.blk b1_33 62 ((Ty.arr 8 tyB).enc (Vector.replicate 8 false)), .blk b1_32 62 ((Ty.arr 8 tyB).enc (Vector.replicate 8 false)), .blk b2 38 (tyVCommit.enc (⟨(0 : Int), (0 : Int), (⟨none, 0, 0⟩ : Sl), (⟨none, 0, 0⟩ : Sl), (0 : Int), (Vector.replicate 3 (0 : Int)), (⟨none, 0, 0⟩ : Sl), (Vector.replicate 32 (0 : Int)), SSig.zero⟩ : VCommit)), .blk b1 25 ((Ty.arr 32 (tyI .u8)).enc p3)] [fa true mKey u9_2 x3.signer, fa true mBl b8 (tyVpartyParty.enc (⟨x3.v, x3.leaf, u9_2, x3.own, x3.has', x3.nodes, x3.epoch, x3.init'⟩ : VpartyParty)), fa true mSpartyParty (⟨x3.v, x3.leaf, u9_2, x3.own, x3.has', x3.nodes, x3.epoch, x3.init'⟩ : VpartyParty) x3, fa true (mPt tyVpartyParty mSpartyParty) v0 p0, fa false (mRow tySOp) v1 p1, fa false (mRow tySVote) v2 p2] := by
    intro b1_32 b1_33
    refine hJ6_39_1 _ _ _ _ _ _ _ ?_
    refine jg_ready (rs := [9, 15]) (by kernel_rfl) (by simp) (.cons ?_ (.cons ?_ .nil))
    ·
     refine gst rfl rfl (so_callv pf88 rfl rfl rfl rfl (fun σ hs => F88_c hy1_25 σ.w σ.O hs.olt v1 (cw0 (rd_f at4) hs)) ?_)
     refine ng .nil (.cons at1 .nil) ?_
     refine jg_ls (listed' := #[true, true, true, true, true, true, true, true, true, true, false, false, false, false, false, false, true, true, false, false, false, false]) (by kernel_rfl) ?_
     exact nj_weak (hJ6_39_2 _ _ _ _ _ _ _ (hs6_39_13 b1_32 b1_33)) ⟨rfl, rfl, rfl, rfl, rfl, rfl, rfl, rfl, rfl, rfl, rfl, trivial⟩ (.cons de0 (.cons de0 (.cons de0 (.cons de0 .nil)))) (.cons at0 (.cons at1 (.cons at2 (.cons at3 (.cons at4 (.cons at5 .nil))))))
    ·
     refine gst rfl rfl (so_alloc ti64 (by decide) rfl rfl fun b1_31 => ?_)
     refine ng .nil (.cons at1 .nil) ?_
     refine jg_ls (listed' := #[true, true, true, true, true, true, true, true, true, false, false, false, false, false, false, true, true, true, false, false, false, false]) (by kernel_rfl) ?_
     exact nj_weak (hJ6_39_2 _ _ _ _ _ _ _ (hs6_39_14 b1_31 b1_32 b1_33)) ⟨rfl, rfl, rfl, rfl, rfl, rfl, rfl, rfl, rfl, rfl, rfl, rfl, rfl, rfl, trivial⟩ (.cons de1 (.cons de1 (.cons de0 (.cons de0 (.cons de0 .nil))))) (.cons at0 (.cons at1 (.cons at2 (.cons at3 (.cons at4 (.cons at5 .nil))))))
   have hs6_39_9 : ∀ (b1_31 : Nat) (b1_33 : Nat), J6_39 [] [fa true mBl b8 (tyVpartyParty.enc (⟨x3.v, x3.leaf, u9_2, x3.own, x3.has', x3.nodes, x3.epoch, x3.init'⟩ : VpartyParty))] 11 #[true, true, true, true, true, true, true, true, true, false, false, false, false, false, false, true, false, true, false, false, false, false] [(0, .pointer v0), (1, sv v1), (2, sv v2), (7, pt b1 0), (8, pt b2 0), (9, sv (⟨none, 0, 0⟩ : Sl)), (10, .pointer (none : Option Addr)), (11, .int .i64 0), (13, pt b1_31 0), (15, pt b1_33 0), (46, ag (tySView.enc x1_19)), (50, .int .i64 x1_23), (51, sv v1)] [.blk b1_33 62 ((Ty.arr 8 tyB).enc (Vector.replicate 8 false)), .blk b1_31 64 (tySView.enc SView.zero), .blk b2 38 (tyVCommit.enc (⟨(0 : Int), (0 : Int), (⟨none, 0, 0⟩ : Sl), (⟨none, 0, 0⟩ : Sl), (0 : Int), (Vector.replicate 3 (0 : Int)), (⟨none, 0, 0⟩ : Sl), (Vector.replicate 32 (0 : Int)), SSig.zero⟩ : VCommit)), .blk b1 25 ((Ty.arr 32 (tyI .u8)).enc p3)] [fa true mKey u9_2 x3.signer, fa true mBl b8 (tyVpartyParty.enc (⟨x3.v, x3.leaf, u9_2, x3.own, x3.has', x3.nodes, x3.epoch, x3.init'⟩ : VpartyParty)), fa true mSpartyParty (⟨x3.v, x3.leaf, u9_2, x3.own, x3.has', x3.nodes, x3.epoch, x3.init'⟩ : VpartyParty) x3, fa true (mPt tyVpartyParty mSpartyParty) v0 p0, fa false (mRow tySOp) v1 p1, fa false (mRow tySVote) v2 p2] := by
    intro b1_31 b1_33
    refine hJ6_39_1 _ _ _ _ _ _ _ ?_
    refine jg_ready (rs := [9, 16]) (by kernel_rfl) (by simp) (.cons ?_ (.cons ?_ .nil))
    ·
     refine gst rfl rfl (so_callv pf88 rfl rfl rfl rfl (fun σ hs => F88_c hy1_25 σ.w σ.O hs.olt v1 (cw0 (rd_f at4) hs)) ?_)
     refine ng .nil (.cons at1 .nil) ?_
     refine jg_ls (listed' := #[true, true, true, true, true, true, true, true, true, true, false, false, false, false, false, true, false, true, false, false, false, false]) (by kernel_rfl) ?_
     exact nj_weak (hJ6_39_2 _ _ _ _ _ _ _ (hs6_39_12 b1_31 b1_33)) ⟨rfl, rfl, rfl, rfl, rfl, rfl, rfl, rfl, rfl, rfl, rfl, trivial⟩ (.cons de0 (.cons de0 (.cons de0 (.cons de0 .nil)))) (.cons at0 (.cons at1 (.cons at2 (.cons at3 (.cons at4 (.cons at5 .nil))))))
    ·
     refine gst rfl rfl (so_alloc ti62 (by decide) rfl rfl fun b1_32 => ?_)
     refine ng .nil (.cons at1 .nil) ?_
     refine jg_ls (listed' := #[true, true, true, true, true, true, true, true, true, false, false, false, false, false, false, true, true, true, false, false, false, false]) (by kernel_rfl) ?_
     exact nj_weak (hJ6_39_2 _ _ _ _ _ _ _ (hs6_39_14 b1_31 b1_32 b1_33)) ⟨rfl, rfl, rfl, rfl, rfl, rfl, rfl, rfl, rfl, rfl, rfl, rfl, rfl, rfl, trivial⟩ (.cons de1 (.cons de0 (.cons de0 (.cons de0 (.cons de0 .nil))))) (.cons at0 (.cons at1 (.cons at2 (.cons at3 (.cons at4 (.cons at5 .nil))))))
   have hs6_39_8 : ∀ (b1_31 : Nat) (b1_32 : Nat), J6_39 [] [fa true mBl b8 (tyVpartyParty.enc (⟨x3.v, x3.leaf, u9_2, x3.own, x3.has', x3.nodes, x3.epoch, x3.init'⟩ : VpartyParty))] 11 #[true, true, true, true, true, true, true, true, true, false, false, false, false, false, false, true, true, false, false, false, false, false] [(0, .pointer v0), (1, sv v1), (2, sv v2), (7, pt b1 0), (8, pt b2 0), (9, sv (⟨none, 0, 0⟩ : Sl)), (10, .pointer (none : Option Addr)), (11, .int .i64 0), (13, pt b1_31 0), (14, pt b1_32 0), (46, ag (tySView.enc x1_19)), (50, .int .i64 x1_23), (51, sv v1)] [.blk b1_32 62 ((Ty.arr 8 tyB).enc (Vector.replicate 8 false)), .blk b1_31 64 (tySView.enc SView.zero), .blk b2 38 (tyVCommit.enc (⟨(0 : Int), (0 : Int), (⟨none, 0, 0⟩ : Sl), (⟨none, 0, 0⟩ : Sl), (0 : Int), (Vector.replicate 3 (0 : Int)), (⟨none, 0, 0⟩ : Sl), (Vector.replicate 32 (0 : Int)), SSig.zero⟩ : VCommit)), .blk b1 25 ((Ty.arr 32 (tyI .u8)).enc p3)] [fa true mKey u9_2 x3.signer, fa true mBl b8 (tyVpartyParty.enc (⟨x3.v, x3.leaf, u9_2, x3.own, x3.has', x3.nodes, x3.epoch, x3.init'⟩ : VpartyParty)), fa true mSpartyParty (⟨x3.v, x3.leaf, u9_2, x3.own, x3.has', x3.nodes, x3.epoch, x3.init'⟩ : VpartyParty) x3, fa true (mPt tyVpartyParty mSpartyParty) v0 p0, fa false (mRow tySOp) v1 p1, fa false (mRow tySVote) v2 p2] := by
    intro b1_31 b1_32
    refine hJ6_39_1 _ _ _ _ _ _ _ ?_
    refine jg_ready (rs := [9, 17]) (by kernel_rfl) (by simp) (.cons ?_ (.cons ?_ .nil))
    ·
     refine gst rfl rfl (so_callv pf88 rfl rfl rfl rfl (fun σ hs => F88_c hy1_25 σ.w σ.O hs.olt v1 (cw0 (rd_f at4) hs)) ?_)
     refine ng .nil (.cons at1 .nil) ?_
     refine jg_ls (listed' := #[true, true, true, true, true, true, true, true, true, true, false, false, false, false, false, true, true, false, false, false, false, false]) (by kernel_rfl) ?_
     exact nj_weak (hJ6_39_2 _ _ _ _ _ _ _ (hs6_39_11 b1_31 b1_32)) ⟨rfl, rfl, rfl, rfl, rfl, rfl, rfl, rfl, rfl, rfl, rfl, trivial⟩ (.cons de0 (.cons de0 (.cons de0 (.cons de0 .nil)))) (.cons at0 (.cons at1 (.cons at2 (.cons at3 (.cons at4 (.cons at5 .nil))))))
    ·
     refine gst rfl rfl (so_alloc ti62 (by decide) rfl rfl fun b1_33 => ?_)
     refine ng .nil (.cons at1 .nil) ?_
     refine jg_ls (listed' := #[true, true, true, true, true, true, true, true, true, false, false, false, false, false, false, true, true, true, false, false, false, false]) (by kernel_rfl) ?_
     exact nj_weak (hJ6_39_2 _ _ _ _ _ _ _ (hs6_39_14 b1_31 b1_32 b1_33)) ⟨rfl, rfl, rfl, rfl, rfl, rfl, rfl, rfl, rfl, rfl, rfl, rfl, rfl, rfl, trivial⟩ (.cons de0 (.cons de0 (.cons de0 (.cons de0 (.cons de0 .nil))))) (.cons at0 (.cons at1 (.cons at2 (.cons at3 (.cons at4 (.cons at5 .nil))))))
   have hs6_39_7 : ∀ (b1_33 : Nat), J6_39 [] [fa true mBl b8 (tyVpartyParty.enc (⟨x3.v, x3.leaf, u9_2, x3.own, x3.has', x3.nodes, x3.epoch, x3.init'⟩ : VpartyParty))] 11 #[true, true, true, true, true, true, true, true, true, true, false, false, false, false, false, false, false, true, false, false, false, false] [(0, .pointer v0), (1, sv v1), (2, sv v2), (7, pt b1 0), (8, pt b2 0), (9, sv (⟨none, 0, 0⟩ : Sl)), (10, .pointer (none : Option Addr)), (11, .int .i64 0), (15, pt b1_33 0), (52, .tuple #[ag (tySView.enc y1_25.1), ag ((Ty.arr 8 tyB).enc y1_25.2.1), ag ((Ty.arr 8 tyB).enc y1_25.2.2.1), .int .i64 y1_25.2.2.2])] [.blk b1_33 62 ((Ty.arr 8 tyB).enc (Vector.replicate 8 false)), .blk b2 38 (tyVCommit.enc (⟨(0 : Int), (0 : Int), (⟨none, 0, 0⟩ : Sl), (⟨none, 0, 0⟩ : Sl), (0 : Int), (Vector.replicate 3 (0 : Int)), (⟨none, 0, 0⟩ : Sl), (Vector.replicate 32 (0 : Int)), SSig.zero⟩ : VCommit)), .blk b1 25 ((Ty.arr 32 (tyI .u8)).enc p3)] [fa true mKey u9_2 x3.signer, fa true mBl b8 (tyVpartyParty.enc (⟨x3.v, x3.leaf, u9_2, x3.own, x3.has', x3.nodes, x3.epoch, x3.init'⟩ : VpartyParty)), fa true mSpartyParty (⟨x3.v, x3.leaf, u9_2, x3.own, x3.has', x3.nodes, x3.epoch, x3.init'⟩ : VpartyParty) x3, fa true (mPt tyVpartyParty mSpartyParty) v0 p0, fa false (mRow tySOp) v1 p1, fa false (mRow tySVote) v2 p2] := by
    intro b1_33
    refine hJ6_39_1 _ _ _ _ _ _ _ ?_
    refine tk (i := 10) rfl (by kernel_rfl) rfl (yv_move rfl rfl) .nil .nil ?_
    refine tk (i := 11) rfl (by kernel_rfl) rfl (yv_ext rfl rfl rfl) .nil .nil ?_
    refine tk (i := 12) rfl (by kernel_rfl) rfl (yv_ext rfl rfl rfl) .nil .nil ?_
    refine tk (i := 13) rfl (by kernel_rfl) rfl (yv_ext rfl rfl rfl) .nil .nil ?_
    refine tk (i := 14) rfl (by kernel_rfl) rfl (yv_ext rfl rfl rfl) .nil .nil ?_
    refine jg_ready (rs := [15, 16]) (by kernel_rfl) (by simp) (.cons ?_ (.cons ?_ .nil))
    ·
     refine gst rfl rfl (so_alloc ti64 (by decide) rfl rfl fun b1_31 => ?_)
     refine ng .nil (.cons at1 .nil) ?_
     refine jg_ls (listed' := #[true, true, true, true, true, true, true, true, true, true, true, true, true, true, true, true, false, true, false, false, false, false]) (by kernel_rfl) ?_
     exact nj_weak (hJ6_39_2 _ _ _ _ _ _ _ (hs6_39_20 b1_31 b1_33)) ⟨rfl, rfl, rfl, rfl, rfl, rfl, rfl, rfl, rfl, rfl, rfl, rfl, rfl, rfl, trivial⟩ (.cons de1 (.cons de0 (.cons de0 (.cons de0 .nil)))) (.cons at0 (.cons at1 (.cons at2 (.cons at3 (.cons at4 (.cons at5 .nil))))))
    ·
     refine gst rfl rfl (so_alloc ti62 (by decide) rfl rfl fun b1_32 => ?_)
     refine ng .nil (.cons at1 .nil) ?_
     refine jg_ls (listed' := #[true, true, true, true, true, true, true, true, true, true, true, true, true, true, true, false, true, true, false, false, false, false]) (by kernel_rfl) ?_
     exact nj_weak (hJ6_39_2 _ _ _ _ _ _ _ (hs6_39_21 b1_32 b1_33)) ⟨rfl, rfl, rfl, rfl, rfl, rfl, rfl, rfl, rfl, rfl, rfl, rfl, rfl, rfl, trivial⟩ (.cons de1 (.cons de0 (.cons de0 (.cons de0 .nil)))) (.cons at0 (.cons at1 (.cons at2 (.cons at3 (.cons at4 (.cons at5 .nil))))))
   have hs6_39_6 : ∀ (b1_32 : Nat), J6_39 [] [fa true mBl b8 (tyVpartyParty.enc (⟨x3.v, x3.leaf, u9_2, x3.own, x3.has', x3.nodes, x3.epoch, x3.init'⟩ : VpartyParty))] 11 #[true, true, true, true, true, true, true, true, true, true, false, false, false, false, false, false, true, false, false, false, false, false] [(0, .pointer v0), (1, sv v1), (2, sv v2), (7, pt b1 0), (8, pt b2 0), (9, sv (⟨none, 0, 0⟩ : Sl)), (10, .pointer (none : Option Addr)), (11, .int .i64 0), (14, pt b1_32 0), (52, .tuple #[ag (tySView.enc y1_25.1), ag ((Ty.arr 8 tyB).enc y1_25.2.1), ag ((Ty.arr 8 tyB).enc y1_25.2.2.1), .int .i64 y1_25.2.2.2])] [.blk b1_32 62 ((Ty.arr 8 tyB).enc (Vector.replicate 8 false)), .blk b2 38 (tyVCommit.enc (⟨(0 : Int), (0 : Int), (⟨none, 0, 0⟩ : Sl), (⟨none, 0, 0⟩ : Sl), (0 : Int), (Vector.replicate 3 (0 : Int)), (⟨none, 0, 0⟩ : Sl), (Vector.replicate 32 (0 : Int)), SSig.zero⟩ : VCommit)), .blk b1 25 ((Ty.arr 32 (tyI .u8)).enc p3)] [fa true mKey u9_2 x3.signer, fa true mBl b8 (tyVpartyParty.enc (⟨x3.v, x3.leaf, u9_2, x3.own, x3.has', x3.nodes, x3.epoch, x3.init'⟩ : VpartyParty)), fa true mSpartyParty (⟨x3.v, x3.leaf, u9_2, x3.own, x3.has', x3.nodes, x3.epoch, x3.init'⟩ : VpartyParty) x3, fa true (mPt tyVpartyParty mSpartyParty) v0 p0, fa false (mRow tySOp) v1 p1, fa false (mRow tySVote) v2 p2] := by
    intro b1_32
    refine hJ6_39_1 _ _ _ _ _ _ _ ?_
    refine tk (i := 10) rfl (by kernel_rfl) rfl (yv_move rfl rfl) .nil .nil ?_
    refine tk (i := 11) rfl (by kernel_rfl) rfl (yv_ext rfl rfl rfl) .nil .nil ?_
    refine tk (i := 12) rfl (by kernel_rfl) rfl (yv_ext rfl rfl rfl) .nil .nil ?_
    refine tk (i := 13) rfl (by kernel_rfl) rfl (yv_ext rfl rfl rfl) .nil .nil ?_
    refine tk (i := 14) rfl (by kernel_rfl) rfl (yv_ext rfl rfl rfl) .nil .nil ?_
    refine jg_ready (rs := [15, 17]) (by kernel_rfl) (by simp) (.cons ?_ (.cons ?_ .nil))
    ·
     refine gst rfl rfl (so_alloc ti64 (by decide) rfl rfl fun b1_31 => ?_)
     refine ng .nil (.cons at1 .nil) ?_
     refine jg_ls (listed' := #[true, true, true, true, true, true, true, true, true, true, true, true, true, true, true, true, true, false, false, false, false, false]) (by kernel_rfl) ?_
     exact nj_weak (hJ6_39_2 _ _ _ _ _ _ _ (hs6_39_19 b1_31 b1_32)) ⟨rfl, rfl, rfl, rfl, rfl, rfl, rfl, rfl, rfl, rfl, rfl, rfl, rfl, rfl, trivial⟩ (.cons de1 (.cons de0 (.cons de0 (.cons de0 .nil)))) (.cons at0 (.cons at1 (.cons at2 (.cons at3 (.cons at4 (.cons at5 .nil))))))
    ·
     refine gst rfl rfl (so_alloc ti62 (by decide) rfl rfl fun b1_33 => ?_)
     refine ng .nil (.cons at1 .nil) ?_
     refine jg_ls (listed' := #[true, true, true, true, true, true, true, true, true, true, true, true, true, true, true, false, true, true, false, false, false, false]) (by kernel_rfl) ?_
     exact nj_weak (hJ6_39_2 _ _ _ _ _ _ _ (hs6_39_21 b1_32 b1_33)) ⟨rfl, rfl, rfl, rfl, rfl, rfl, rfl, rfl, rfl, rfl, rfl, rfl, rfl, rfl, trivial⟩ (.cons de0 (.cons de0 (.cons de0 (.cons de0 .nil)))) (.cons at0 (.cons at1 (.cons at2 (.cons at3 (.cons at4 (.cons at5 .nil))))))
   have hs6_39_5 : ∀ (b1_31 : Nat), J6_39 [] [fa true mBl b8 (tyVpartyParty.enc (⟨x3.v, x3.leaf, u9_2, x3.own, x3.has', x3.nodes, x3.epoch, x3.init'⟩ : VpartyParty))] 11 #[true, true, true, true, true, true, true, true, true, true, false, false, false, false, false, true, false, false, false, false, false, false] [(0, .pointer v0), (1, sv v1), (2, sv v2), (7, pt b1 0), (8, pt b2 0), (9, sv (⟨none, 0, 0⟩ : Sl)), (10, .pointer (none : Option Addr)), (11, .int .i64 0), (13, pt b1_31 0), (52, .tuple #[ag (tySView.enc y1_25.1), ag ((Ty.arr 8 tyB).enc y1_25.2.1), ag ((Ty.arr 8 tyB).enc y1_25.2.2.1), .int .i64 y1_25.2.2.2])] [.blk b1_31 64 (tySView.enc SView.zero), .blk b2 38 (tyVCommit.enc (⟨(0 : Int), (0 : Int), (⟨none, 0, 0⟩ : Sl), (⟨none, 0, 0⟩ : Sl), (0 : Int), (Vector.replicate 3 (0 : Int)), (⟨none, 0, 0⟩ : Sl), (Vector.replicate 32 (0 : Int)), SSig.zero⟩ : VCommit)), .blk b1 25 ((Ty.arr 32 (tyI .u8)).enc p3)] [fa true mKey u9_2 x3.signer, fa true mBl b8 (tyVpartyParty.enc (⟨x3.v, x3.leaf, u9_2, x3.own, x3.has', x3.nodes, x3.epoch, x3.init'⟩ : VpartyParty)), fa true mSpartyParty (⟨x3.v, x3.leaf, u9_2, x3.own, x3.has', x3.nodes, x3.epoch, x3.init'⟩ : VpartyParty) x3, fa true (mPt tyVpartyParty mSpartyParty) v0 p0, fa false (mRow tySOp) v1 p1, fa false (mRow tySVote) v2 p2] := by
    intro b1_31
    refine hJ6_39_1 _ _ _ _ _ _ _ ?_
    refine tk (i := 10) rfl (by kernel_rfl) rfl (yv_move rfl rfl) .nil .nil ?_
    refine tk (i := 11) rfl (by kernel_rfl) rfl (yv_ext rfl rfl rfl) .nil .nil ?_
    refine tk (i := 12) rfl (by kernel_rfl) rfl (yv_ext rfl rfl rfl) .nil .nil ?_
    refine tk (i := 13) rfl (by kernel_rfl) rfl (yv_ext rfl rfl rfl) .nil .nil ?_
    refine tk (i := 14) rfl (by kernel_rfl) rfl (yv_ext rfl rfl rfl) .nil .nil ?_
    refine jg_ready (rs := [16, 17]) (by kernel_rfl) (by simp) (.cons ?_ (.cons ?_ .nil))
    ·
     refine gst rfl rfl (so_alloc ti62 (by decide) rfl rfl fun b1_32 => ?_)
     refine ng .nil (.cons at1 .nil) ?_
     refine jg_ls (listed' := #[true, true, true, true, true, true, true, true, true, true, true, true, true, true, true, true, true, false, false, false, false, false]) (by kernel_rfl) ?_
     exact nj_weak (hJ6_39_2 _ _ _ _ _ _ _ (hs6_39_19 b1_31 b1_32)) ⟨rfl, rfl, rfl, rfl, rfl, rfl, rfl, rfl, rfl, rfl, rfl, rfl, rfl, rfl, trivial⟩ (.cons de0 (.cons de0 (.cons de0 (.cons de0 .nil)))) (.cons at0 (.cons at1 (.cons at2 (.cons at3 (.cons at4 (.cons at5 .nil))))))
    ·
     refine gst rfl rfl (so_alloc ti62 (by decide) rfl rfl fun b1_33 => ?_)
     refine ng .nil (.cons at1 .nil) ?_
     refine jg_ls (listed' := #[true, true, true, true, true, true, true, true, true, true, true, true, true, true, true, true, false, true, false, false, false, false]) (by kernel_rfl) ?_
     exact nj_weak (hJ6_39_2 _ _ _ _ _ _ _ (hs6_39_20 b1_31 b1_33)) ⟨rfl, rfl, rfl, rfl, rfl, rfl, rfl, rfl, rfl, rfl, rfl, rfl, rfl, rfl, trivial⟩ (.cons de0 (.cons de0 (.cons de0 (.cons de0 .nil)))) (.cons at0 (.cons at1 (.cons at2 (.cons at3 (.cons at4 (.cons at5 .nil))))))
   have hs6_39_4 : ∀ (b1_33 : Nat), J6_39 [] [fa true mBl b8 (tyVpartyParty.enc (⟨x3.v, x3.leaf, u9_2, x3.own, x3.has', x3.nodes, x3.epoch, x3.init'⟩ : VpartyParty))] 12 #[true, true, true, true, true, true, true, true, true, false, false, false, false, false, false, false, false, true, false, false, false, false] [(0, .pointer v0), (1, sv v1), (2, sv v2), (7, pt b1 0), (8, pt b2 0), (9, sv (⟨none, 0, 0⟩ : Sl)), (10, .pointer (none : Option Addr)), (11, .int .i64 0), (15, pt b1_33 0), (46, ag (tySView.enc x1_19)), (50, .int .i64 x1_23), (51, sv v1)] [.blk b1_33 62 ((Ty.arr 8 tyB).enc (Vector.replicate 8 false)), .blk b2 38 (tyVCommit.enc (⟨(0 : Int), (0 : Int), (⟨none, 0, 0⟩ : Sl), (⟨none, 0, 0⟩ : Sl), (0 : Int), (Vector.replicate 3 (0 : Int)), (⟨none, 0, 0⟩ : Sl), (Vector.replicate 32 (0 : Int)), SSig.zero⟩ : VCommit)), .blk b1 25 ((Ty.arr 32 (tyI .u8)).enc p3)] [fa true mKey u9_2 x3.signer, fa true mBl b8 (tyVpartyParty.enc (⟨x3.v, x3.leaf, u9_2, x3.own, x3.has', x3.nodes, x3.epoch, x3.init'⟩ : VpartyParty)), fa true mSpartyParty (⟨x3.v, x3.leaf, u9_2, x3.own, x3.has', x3.nodes, x3.epoch, x3.init'⟩ : VpartyParty) x3, fa true (mPt tyVpartyParty mSpartyParty) v0 p0, fa false (mRow tySOp) v1 p1, fa false (mRow tySVote) v2 p2] := by
    intro b1_33
    refine hJ6_39_1 _ _ _ _ _ _ _ ?_
    refine jg_ready (rs := [9, 15, 16]) (by kernel_rfl) (by simp) (.cons ?_ (.cons ?_ (.cons ?_ .nil)))
    ·
     refine gst rfl rfl (so_callv pf88 rfl rfl rfl rfl (fun σ hs => F88_c hy1_25 σ.w σ.O hs.olt v1 (cw0 (rd_f at4) hs)) ?_)
     refine ng .nil (.cons at1 .nil) ?_
     refine jg_ls (listed' := #[true, true, true, true, true, true, true, true, true, true, false, false, false, false, false, false, false, true, false, false, false, false]) (by kernel_rfl) ?_
     exact nj_weak (hJ6_39_2 _ _ _ _ _ _ _ (hs6_39_7 b1_33)) ⟨rfl, rfl, rfl, rfl, rfl, rfl, rfl, rfl, rfl, rfl, trivial⟩ (.cons de0 (.cons de0 (.cons de0 .nil))) (.cons at0 (.cons at1 (.cons at2 (.cons at3 (.cons at4 (.cons at5 .nil))))))
    ·
     refine gst rfl rfl (so_alloc ti64 (by decide) rfl rfl fun b1_31 => ?_)
     refine ng .nil (.cons at1 .nil) ?_
     refine jg_ls (listed' := #[true, true, true, true, true, true, true, true, true, false, false, false, false, false, false, true, false, true, false, false, false, false]) (by kernel_rfl) ?_
     exact nj_weak (hJ6_39_2 _ _ _ _ _ _ _ (hs6_39_9 b1_31 b1_33)) ⟨rfl, rfl, rfl, rfl, rfl, rfl, rfl, rfl, rfl, rfl, rfl, rfl, rfl, trivial⟩ (.cons de1 (.cons de0 (.cons de0 (.cons de0 .nil)))) (.cons at0 (.cons at1 (.cons at2 (.cons at3 (.cons at4 (.cons at5 .nil))))))
    ·
     refine gst rfl rfl (so_alloc ti62 (by decide) rfl rfl fun b1_32 => ?_)
     refine ng .nil (.cons at1 .nil) ?_
     refine jg_ls (listed' := #[true, true, true, true, true, true, true, true, true, false, false, false, false, false, false, false, true, true, false, false, false, false]) (by kernel_rfl) ?_
     exact nj_weak (hJ6_39_2 _ _ _ _ _ _ _ (hs6_39_10 b1_32 b1_33)) ⟨rfl, rfl, rfl, rfl, rfl, rfl, rfl, rfl, rfl, rfl, rfl, rfl, rfl, trivial⟩ (.cons de1 (.cons de0 (.cons de0 (.cons de0 .nil)))) (.cons at0 (.cons at1 (.cons at2 (.cons at3 (.cons at4 (.cons at5 .nil))))))
   have hs6_39_3 : ∀ (b1_32 : Nat), J6_39 [] [fa true mBl b8 (tyVpartyParty.enc (⟨x3.v, x3.leaf, u9_2, x3.own, x3.has', x3.nodes, x3.epoch, x3.init'⟩ : VpartyParty))] 12 #[true, true, true, true, true, true, true, true, true, false, false, false, false, false, false, false, true, false, false, false, false, false] [(0, .pointer v0), (1, sv v1), (2, sv v2), (7, pt b1 0), (8, pt b2 0), (9, sv (⟨none, 0, 0⟩ : Sl)), (10, .pointer (none : Option Addr)), (11, .int .i64 0), (14, pt b1_32 0), (46, ag (tySView.enc x1_19)), (50, .int .i64 x1_23), (51, sv v1)] [.blk b1_32 62 ((Ty.arr 8 tyB).enc (Vector.replicate 8 false)), .blk b2 38 (tyVCommit.enc (⟨(0 : Int), (0 : Int), (⟨none, 0, 0⟩ : Sl), (⟨none, 0, 0⟩ : Sl), (0 : Int), (Vector.replicate 3 (0 : Int)), (⟨none, 0, 0⟩ : Sl), (Vector.replicate 32 (0 : Int)), SSig.zero⟩ : VCommit)), .blk b1 25 ((Ty.arr 32 (tyI .u8)).enc p3)] [fa true mKey u9_2 x3.signer, fa true mBl b8 (tyVpartyParty.enc (⟨x3.v, x3.leaf, u9_2, x3.own, x3.has', x3.nodes, x3.epoch, x3.init'⟩ : VpartyParty)), fa true mSpartyParty (⟨x3.v, x3.leaf, u9_2, x3.own, x3.has', x3.nodes, x3.epoch, x3.init'⟩ : VpartyParty) x3, fa true (mPt tyVpartyParty mSpartyParty) v0 p0, fa false (mRow tySOp) v1 p1, fa false (mRow tySVote) v2 p2] := by
    intro b1_32
    refine hJ6_39_1 _ _ _ _ _ _ _ ?_
    refine jg_ready (rs := [9, 15, 17]) (by kernel_rfl) (by simp) (.cons ?_ (.cons ?_ (.cons ?_ .nil)))
    ·
     refine gst rfl rfl (so_callv pf88 rfl rfl rfl rfl (fun σ hs => F88_c hy1_25 σ.w σ.O hs.olt v1 (cw0 (rd_f at4) hs)) ?_)
     refine ng .nil (.cons at1 .nil) ?_
     refine jg_ls (listed' := #[true, true, true, true, true, true, true, true, true, true, false, false, false, false, false, false, true, false, false, false, false, false]) (by kernel_rfl) ?_
     exact nj_weak (hJ6_39_2 _ _ _ _ _ _ _ (hs6_39_6 b1_32)) ⟨rfl, rfl, rfl, rfl, rfl, rfl, rfl, rfl, rfl, rfl, trivial⟩ (.cons de0 (.cons de0 (.cons de0 .nil))) (.cons at0 (.cons at1 (.cons at2 (.cons at3 (.cons at4 (.cons at5 .nil))))))
    ·
     refine gst rfl rfl (so_alloc ti64 (by decide) rfl rfl fun b1_31 => ?_)
     refine ng .nil (.cons at1 .nil) ?_
     refine jg_ls (listed' := #[true, true, true, true, true, true, true, true, true, false, false, false, false, false, false, true, true, false, false, false, false, false]) (by kernel_rfl) ?_
     exact nj_weak (hJ6_39_2 _ _ _ _ _ _ _ (hs6_39_8 b1_31 b1_32)) ⟨rfl, rfl, rfl, rfl, rfl, rfl, rfl, rfl, rfl, rfl, rfl, rfl, rfl, trivial⟩ (.cons de1 (.cons de0 (.cons de0 (.cons de0 .nil)))) (.cons at0 (.cons at1 (.cons at2 (.cons at3 (.cons at4 (.cons at5 .nil))))))
    ·
     refine gst rfl rfl (so_alloc ti62 (by decide) rfl rfl fun b1_33 => ?_)
     refine ng .nil (.cons at1 .nil) ?_
     refine jg_ls (listed' := #[true, true, true, true, true, true, true, true, true, false, false, false, false, false, false, false, true, true, false, false, false, false]) (by kernel_rfl) ?_
     exact nj_weak (hJ6_39_2 _ _ _ _ _ _ _ (hs6_39_10 b1_32 b1_33)) ⟨rfl, rfl, rfl, rfl, rfl, rfl, rfl, rfl, rfl, rfl, rfl, rfl, rfl, trivial⟩ (.cons de0 (.cons de0 (.cons de0 (.cons de0 .nil)))) (.cons at0 (.cons at1 (.cons at2 (.cons at3 (.cons at4 (.cons at5 .nil))))))
   have hs6_39_2 : ∀ (b1_31 : Nat), J6_39 [] [fa true mBl b8 (tyVpartyParty.enc (⟨x3.v, x3.leaf, u9_2, x3.own, x3.has', x3.nodes, x3.epoch, x3.init'⟩ : VpartyParty))] 12 #[true, true, true, true, true, true, true, true, true, false, false, false, false, false, false, true, false, false, false, false, false, false] [(0, .pointer v0), (1, sv v1), (2, sv v2), (7, pt b1 0), (8, pt b2 0), (9, sv (⟨none, 0, 0⟩ : Sl)), (10, .pointer (none : Option Addr)), (11, .int .i64 0), (13, pt b1_31 0), (46, ag (tySView.enc x1_19)), (50, .int .i64 x1_23), (51, sv v1)] [.blk b1_31 64 (tySView.enc SView.zero), .blk b2 38 (tyVCommit.enc (⟨(0 : Int), (0 : Int), (⟨none, 0, 0⟩ : Sl), (⟨none, 0, 0⟩ : Sl), (0 : Int), (Vector.replicate 3 (0 : Int)), (⟨none, 0, 0⟩ : Sl), (Vector.replicate 32 (0 : Int)), SSig.zero⟩ : VCommit)), .blk b1 25 ((Ty.arr 32 (tyI .u8)).enc p3)] [fa true mKey u9_2 x3.signer, fa true mBl b8 (tyVpartyParty.enc (⟨x3.v, x3.leaf, u9_2, x3.own, x3.has', x3.nodes, x3.epoch, x3.init'⟩ : VpartyParty)), fa true mSpartyParty (⟨x3.v, x3.leaf, u9_2, x3.own, x3.has', x3.nodes, x3.epoch, x3.init'⟩ : VpartyParty) x3, fa true (mPt tyVpartyParty mSpartyParty) v0 p0, fa false (mRow tySOp) v1 p1, fa false (mRow tySVote) v2 p2] := by
    intro b1_31
    refine hJ6_39_1 _ _ _ _ _ _ _ ?_
    refine jg_ready (rs := [9, 16, 17]) (by kernel_rfl) (by simp) (.cons ?_ (.cons ?_ (.cons ?_ .nil)))
    ·
     refine gst rfl rfl (so_callv pf88 rfl rfl rfl rfl (fun σ hs => F88_c hy1_25 σ.w σ.O hs.olt v1 (cw0 (rd_f at4) hs)) ?_)
     refine ng .nil (.cons at1 .nil) ?_
     refine jg_ls (listed' := #[true, true, true, true, true, true, true, true, true, true, false, false, false, false, false, true, false, false, false, false, false, false]) (by kernel_rfl) ?_
     exact nj_weak (hJ6_39_2 _ _ _ _ _ _ _ (hs6_39_5 b1_31)) ⟨rfl, rfl, rfl, rfl, rfl, rfl, rfl, rfl, rfl, rfl, trivial⟩ (.cons de0 (.cons de0 (.cons de0 .nil))) (.cons at0 (.cons at1 (.cons at2 (.cons at3 (.cons at4 (.cons at5 .nil))))))
    ·
     refine gst rfl rfl (so_alloc ti62 (by decide) rfl rfl fun b1_32 => ?_)
     refine ng .nil (.cons at1 .nil) ?_
     refine jg_ls (listed' := #[true, true, true, true, true, true, true, true, true, false, false, false, false, false, false, true, true, false, false, false, false, false]) (by kernel_rfl) ?_
     exact nj_weak (hJ6_39_2 _ _ _ _ _ _ _ (hs6_39_8 b1_31 b1_32)) ⟨rfl, rfl, rfl, rfl, rfl, rfl, rfl, rfl, rfl, rfl, rfl, rfl, rfl, trivial⟩ (.cons de0 (.cons de0 (.cons de0 (.cons de0 .nil)))) (.cons at0 (.cons at1 (.cons at2 (.cons at3 (.cons at4 (.cons at5 .nil))))))
    ·
     refine gst rfl rfl (so_alloc ti62 (by decide) rfl rfl fun b1_33 => ?_)
     refine ng .nil (.cons at1 .nil) ?_
     refine jg_ls (listed' := #[true, true, true, true, true, true, true, true, true, false, false, false, false, false, false, true, false, true, false, false, false, false]) (by kernel_rfl) ?_
     exact nj_weak (hJ6_39_2 _ _ _ _ _ _ _ (hs6_39_9 b1_31 b1_33)) ⟨rfl, rfl, rfl, rfl, rfl, rfl, rfl, rfl, rfl, rfl, rfl, rfl, rfl, trivial⟩ (.cons de0 (.cons de0 (.cons de0 (.cons de0 .nil)))) (.cons at0 (.cons at1 (.cons at2 (.cons at3 (.cons at4 (.cons at5 .nil))))))
   have hs6_39_1 : J6_39 [] [fa true mBl b8 (tyVpartyParty.enc (⟨x3.v, x3.leaf, u9_2, x3.own, x3.has', x3.nodes, x3.epoch, x3.init'⟩ : VpartyParty))] 12 #[true, true, true, true, true, true, true, true, true, true, false, false, false, false, false, false, false, false, false, false, false, false] [(0, .pointer v0), (1, sv v1), (2, sv v2), (7, pt b1 0), (8, pt b2 0), (9, sv (⟨none, 0, 0⟩ : Sl)), (10, .pointer (none : Option Addr)), (11, .int .i64 0), (52, .tuple #[ag (tySView.enc y1_25.1), ag ((Ty.arr 8 tyB).enc y1_25.2.1), ag ((Ty.arr 8 tyB).enc y1_25.2.2.1), .int .i64 y1_25.2.2.2])] [.blk b2 38 (tyVCommit.enc (⟨(0 : Int), (0 : Int), (⟨none, 0, 0⟩ : Sl), (⟨none, 0, 0⟩ : Sl), (0 : Int), (Vector.replicate 3 (0 : Int)), (⟨none, 0, 0⟩ : Sl), (Vector.replicate 32 (0 : Int)), SSig.zero⟩ : VCommit)), .blk b1 25 ((Ty.arr 32 (tyI .u8)).enc p3)] [fa true mKey u9_2 x3.signer, fa true mBl b8 (tyVpartyParty.enc (⟨x3.v, x3.leaf, u9_2, x3.own, x3.has', x3.nodes, x3.epoch, x3.init'⟩ : VpartyParty)), fa true mSpartyParty (⟨x3.v, x3.leaf, u9_2, x3.own, x3.has', x3.nodes, x3.epoch, x3.init'⟩ : VpartyParty) x3, fa true (mPt tyVpartyParty mSpartyParty) v0 p0, fa false (mRow tySOp) v1 p1, fa false (mRow tySVote) v2 p2] := by
    refine hJ6_39_1 _ _ _ _ _ _ _ ?_
    refine tk (i := 10) rfl (by kernel_rfl) rfl (yv_move rfl rfl) .nil .nil ?_
    refine tk (i := 11) rfl (by kernel_rfl) rfl (yv_ext rfl rfl rfl) .nil .nil ?_
    refine tk (i := 12) rfl (by kernel_rfl) rfl (yv_ext rfl rfl rfl) .nil .nil ?_
    refine tk (i := 13) rfl (by kernel_rfl) rfl (yv_ext rfl rfl rfl) .nil .nil ?_
    refine tk (i := 14) rfl (by kernel_rfl) rfl (yv_ext rfl rfl rfl) .nil .nil ?_
    refine jg_ready (rs := [15, 16, 17]) (by kernel_rfl) (by simp) (.cons ?_ (.cons ?_ (.cons ?_ .nil)))
    ·
     refine gst rfl rfl (so_alloc ti64 (by decide) rfl rfl fun b1_31 => ?_)
     refine ng .nil (.cons at1 .nil) ?_
     refine jg_ls (listed' := #[true, true, true, true, true, true, true, true, true, true, true, true, true, true, true, true, false, false, false, false, false, false]) (by kernel_rfl) ?_
     exact nj_weak (hJ6_39_2 _ _ _ _ _ _ _ (hs6_39_16 b1_31)) ⟨rfl, rfl, rfl, rfl, rfl, rfl, rfl, rfl, rfl, rfl, rfl, rfl, rfl, trivial⟩ (.cons de0 (.cons de0 (.cons de0 .nil))) (.cons at0 (.cons at1 (.cons at2 (.cons at3 (.cons at4 (.cons at5 .nil))))))
    ·
     refine gst rfl rfl (so_alloc ti62 (by decide) rfl rfl fun b1_32 => ?_)
     refine ng .nil (.cons at1 .nil) ?_
     refine jg_ls (listed' := #[true, true, true, true, true, true, true, true, true, true, true, true, true, true, true, false, true, false, false, false, false, false]) (by kernel_rfl) ?_
     exact nj_weak (hJ6_39_2 _ _ _ _ _ _ _ (hs6_39_17 b1_32)) ⟨rfl, rfl, rfl, rfl, rfl, rfl, rfl, rfl, rfl, rfl, rfl, rfl, rfl, trivial⟩ (.cons de0 (.cons de0 (.cons de0 .nil))) (.cons at0 (.cons at1 (.cons at2 (.cons at3 (.cons at4 (.cons at5 .nil))))))
    ·
     refine gst rfl rfl (so_alloc ti62 (by decide) rfl rfl fun b1_33 => ?_)
     refine ng .nil (.cons at1 .nil) ?_
     refine jg_ls (listed' := #[true, true, true, true, true, true, true, true, true, true, true, true, true, true, true, false, false, true, false, false, false, false]) (by kernel_rfl) ?_
     exact nj_weak (hJ6_39_2 _ _ _ _ _ _ _ (hs6_39_18 b1_33)) ⟨rfl, rfl, rfl, rfl, rfl, rfl, rfl, rfl, rfl, rfl, rfl, rfl, rfl, trivial⟩ (.cons de0 (.cons de0 (.cons de0 .nil))) (.cons at0 (.cons at1 (.cons at2 (.cons at3 (.cons at4 (.cons at5 .nil))))))
   refine hJ6_39_1 _ _ _ _ _ _ _ ?_
   refine jg_ready (rs := [9, 15, 16, 17]) (by kernel_rfl) (by simp) (.cons ?_ (.cons ?_ (.cons ?_ (.cons ?_ .nil))))
   ·
    refine gst rfl rfl (so_callv pf88 rfl rfl rfl rfl (fun σ hs => F88_c hy1_25 σ.w σ.O hs.olt v1 (cw0 (rd_f at4) hs)) ?_)
    refine ng .nil (.cons at1 .nil) ?_
    refine jg_ls (listed' := #[true, true, true, true, true, true, true, true, true, true, false, false, false, false, false, false, false, false, false, false, false, false]) (by kernel_rfl) ?_
    exact nj_weak (hJ6_39_2 _ _ _ _ _ _ _ (hs6_39_1)) ⟨rfl, rfl, rfl, rfl, rfl, rfl, rfl, rfl, rfl, trivial⟩ (.cons de0 (.cons de0 .nil)) (.cons at0 (.cons at1 (.cons at2 (.cons at3 (.cons at4 (.cons at5 .nil))))))
   ·
    refine gst rfl rfl (so_alloc ti64 (by decide) rfl rfl fun b1_31 => ?_)
    refine ng .nil (.cons at1 .nil) ?_
    refine jg_ls (listed' := #[true, true, true, true, true, true, true, true, true, false, false, false, false, false, false, true, false, false, false, false, false, false]) (by kernel_rfl) ?_
    exact nj_weak (hJ6_39_2 _ _ _ _ _ _ _ (hs6_39_2 b1_31)) ⟨rfl, rfl, rfl, rfl, rfl, rfl, rfl, rfl, rfl, rfl, rfl, rfl, trivial⟩ (.cons de0 (.cons de0 (.cons de0 .nil))) (.cons at0 (.cons at1 (.cons at2 (.cons at3 (.cons at4 (.cons at5 .nil))))))
   ·
    refine gst rfl rfl (so_alloc ti62 (by decide) rfl rfl fun b1_32 => ?_)
    refine ng .nil (.cons at1 .nil) ?_
    refine jg_ls (listed' := #[true, true, true, true, true, true, true, true, true, false, false, false, false, false, false, false, true, false, false, false, false, false]) (by kernel_rfl) ?_
    exact nj_weak (hJ6_39_2 _ _ _ _ _ _ _ (hs6_39_3 b1_32)) ⟨rfl, rfl, rfl, rfl, rfl, rfl, rfl, rfl, rfl, rfl, rfl, rfl, trivial⟩ (.cons de0 (.cons de0 (.cons de0 .nil))) (.cons at0 (.cons at1 (.cons at2 (.cons at3 (.cons at4 (.cons at5 .nil))))))
   ·
    refine gst rfl rfl (so_alloc ti62 (by decide) rfl rfl fun b1_33 => ?_)
    refine ng .nil (.cons at1 .nil) ?_
    refine jg_ls (listed' := #[true, true, true, true, true, true, true, true, true, false, false, false, false, false, false, false, false, true, false, false, false, false]) (by kernel_rfl) ?_
    exact nj_weak (hJ6_39_2 _ _ _ _ _ _ _ (hs6_39_4 b1_33)) ⟨rfl, rfl, rfl, rfl, rfl, rfl, rfl, rfl, rfl, rfl, rfl, rfl, trivial⟩ (.cons de0 (.cons de0 (.cons de0 .nil))) (.cons at0 (.cons at1 (.cons at2 (.cons at3 (.cons at4 (.cons at5 .nil))))))
  ·
   replace h := brT h
   refine jc_t rfl ?_
   refine jc_seq ?_
   refine jc_reg ?_
   refine sqv rfl (yv_ldb ti38 rfl rfl (rd_bl at0) (Sub.refl _) (Ty.len _ _) (by simp)) ?_
   refine sqv rfl (yv_move rfl rfl) ?_
   refine sq rfl (so_sta ti38 rfl rfl rfl rfl (Upd.refl (xs := (tyVCommit.enc (⟨(0 : Int), (0 : Int), (⟨none, 0, 0⟩ : Sl), (⟨none, 0, 0⟩ : Sl), (0 : Int), (Vector.replicate 3 (0 : Int)), (⟨none, 0, 0⟩ : Sl), (Vector.replicate 32 (0 : Int)), SSig.zero⟩ : VCommit))) (ys := (tyVCommit.enc (⟨(0 : Int), (0 : Int), (⟨none, 0, 0⟩ : Sl), (⟨none, 0, 0⟩ : Sl), (0 : Int), (Vector.replicate 3 (0 : Int)), (⟨none, 0, 0⟩ : Sl), (Vector.replicate 32 (0 : Int)), SSig.zero⟩ : VCommit))) (by simp only [Ty.len])) (Ty.len _ _) (Ty.one _ _) (xs' := tyVCommit.enc (⟨(0 : Int), (0 : Int), (⟨none, 0, 0⟩ : Sl), (⟨none, 0, 0⟩ : Sl), (0 : Int), (Vector.replicate 3 (0 : Int)), (⟨none, 0, 0⟩ : Sl), (Vector.replicate 32 (0 : Int)), SSig.zero⟩ : VCommit)) se0 ?_)
   refine sqv rfl (yv_assign rfl rfl) ?_
   refine sqv rfl (yv_assign rfl rfl) ?_
   refine sqv rfl (yv_assign rfl rfl) ?_
   refine jl_nil ?_
   refine jx_then ?_
   refine jc_ret ?_
   refine jx_tr ?_
   refine nj_s (m := (mRow tySOp)) (v := (⟨none, 0, 0⟩ : Sl)) (p := ([] : (List SOp))) rq_nil ?_
   refine nj_s (m := (mRow tySVote)) (v := (⟨none, 0, 0⟩ : Sl)) (p := ([] : (List SVote))) rq_nil ?_
   refine nj_nil 97 tySl rfl ?_
   refine nj_s (m := mAl (mRow (tyI .u8))) (v := ([] : List Sl)) (p := []) rq_al0 ?_
   refine nj_nil 103 tyVWelcome rfl ?_
   refine nj_s (m := mAl mSWelcome) (v := ([] : List VWelcome)) (p := []) rq_al0 ?_
   refine nj_s (m := (mPt tyVpartyParty mSpartyParty)) (v := (none : Option Addr)) (p := none) rq_pt0 ?_
   cases h
   exact jx_ret rfl (rr_cella ti38 rfl at2 (Ty.len _ _) (rr_tmp rfl (rr_tmp rfl (rr_tmp rfl rr_nil)))) ⟨((⟨none, 0, 0⟩ : Sl), (⟨none, 0, 0⟩ : Sl), (⟨none, 0, 0⟩ : Sl), ([] : List Sl), (⟨none, 0, 0⟩ : Sl), ([] : List VWelcome), (none : Option Addr)), rfl, rfl, rfl, rfl⟩ (.cons de1 (.cons de0 .nil)) (.cons at4 (.cons at3 (.cons at2 (.cons at1 (.cons at0 .nil))))) rfl (by simp)
end Go.Proofs.YtbhbpfdjlabamaaGreat
