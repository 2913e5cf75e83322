/-
  The walks of what curia law 5 reaches, part 4: each function of the program computes what its twin of the text Pure says.
-/
import Derived.Test.YtbhbpfdjlabamaaGreatNeW3
set_option linter.all false
set_option linter.unusedVariables false
set_option linter.unusedSimpArgs false
namespace Go.Proofs.YtbhbpfdjlabamaaGreat
open Go Go.Proofs
set_option maxRecDepth 4000
set_option maxHeartbeats 1000000

theorem F42_c {p0 : (Option SpartyParty)} {r : Int} (h : F42 p0 = some r) (w0 : World) (O0 : Nat → Prop) (hO : ∀ k, O0 k → k < w0.heap.size) (v0 : (Option Addr)) (k0 : (fa false (mPt tyVpartyParty mSpartyParty) v0 p0).p ⟨w0, O0, inL []⟩) :
  CallsP Tryz.prog 42 (List.toArray [.pointer v0]) w0 O0 [] (RV (.int .i64 r)) := by
 unfold F42 at h
 refine calls_start (e := [(0, .pointer v0)]) (L := []) (K := [fa false (mPt tyVpartyParty mSpartyParty) v0 p0]) Tryz.func42 rfl rfl rfl ⟨rfl, trivial⟩ hO (by simp) .nil (alc k0 aln) ?_
 refine jc_seq ?_
 refine jc_reg ?_
 refine sqv rfl (yv_assign rfl rfl) ?_
 refine jl_nil ?_
 refine jx_then ?_
 refine jc_seq ?_
 refine jc_seq ?_
 refine jc_reg ?_
 refine sqv rfl (yv_move rfl rfl) ?_
 rcases moE h with ⟨hm_x1, h⟩ | ⟨x1, hm_x1, h⟩
 ·
  skip
  refine nj_pn0 at0 hm_x1 fun hn_n2 => ?_
  refine sqv rfl (yv_pn ipt22 rfl rfl rfl hn_n2) ?_
  refine jl_nil ?_
  refine jx_then ?_
  refine jc_t rfl ?_
  refine jc_seq ?_
  refine jc_reg ?_
  refine sqv rfl (yv_assign rfl rfl) ?_
  refine jl_nil ?_
  refine jx_then ?_
  refine jc_ret ?_
  refine jx_tr ?_
  cases h
  exact jx_ret rfl (rr_tmp rfl rr_nil) ⟨rfl, rfl, rfl, rfl⟩ .nil .nil rfl (by simp)
 ·
  skip
  refine nj_pn1 at0 hm_x1 fun hn_n4 => ?_
  refine sqv rfl (yv_pn ipt22 rfl rfl rfl hn_n4) ?_
  refine jl_nil ?_
  refine jx_then ?_
  refine jc_f rfl ?_
  refine jc_skip ?_
  refine jx_then ?_
  refine jc_seq ?_
  refine jc_reg ?_
  refine sqv rfl (yv_move rfl rfl) ?_
  refine nj_xptX at0 hm_x1 fun b6 u7_ hv_b6 => ?_
  refine nj_xSpartyParty at1 fun u7_2 hu7 => ?_
  subst hu7
  refine sqv rfl (yv_nilp rfl rfl hv_b6) ?_
  refine sqv rfl (yv_fa fa143_1 rfl rfl) ?_
  obtain ⟨x8, hx8, h⟩ := letX h
  refine sqv rfl (yxi hx8 (yv_ldb ti3 rfl rfl (rd_f at1) ((Sub.refl _).trans (VpartyParty.s1 (⟨x1.v, x1.leaf, u7_2, x1.own, x1.has', x1.nodes, x1.epoch, x1.init'⟩ : VpartyParty))) (Ty.len _ _) (fun _ => rfl))) ?_
  refine sqv rfl (yv_assign rfl rfl) ?_
  refine jl_nil ?_
  refine jx_then ?_
  refine jc_ret ?_
  cases h
  exact jx_ret rfl (rr_tmp rfl rr_nil) ⟨rfl, rfl, rfl, rfl⟩ .nil .nil rfl (by simp)
theorem F43_c {p0 : (Option SpartyParty)} {r : (Option Int)} (h : F43 p0 = some r) (w0 : World) (O0 : Nat → Prop) (hO : ∀ k, O0 k → k < w0.heap.size) (v0 : (Option Addr)) (k0 : (fa true (mPt tyVpartyParty mSpartyParty) v0 p0).p ⟨w0, O0, inL []⟩) :
  CallsP Tryz.prog 43 (List.toArray [.pointer v0]) w0 O0 [] (RX (fun x : (Option Addr) => .pointer x) (fun x => []) (fun x => [fa true mKey x r])) := by
 unfold F43 at h
 refine calls_start (e := [(0, .pointer v0)]) (L := []) (K := [fa true (mPt tyVpartyParty mSpartyParty) v0 p0]) Tryz.func43 rfl rfl rfl ⟨rfl, trivial⟩ hO (by simp) .nil (alc k0 aln) ?_
 refine jc_seq ?_
 refine jc_reg ?_
 refine sqv rfl (yv_assign rfl rfl) ?_
 refine jl_nil ?_
 refine jx_then ?_
 refine jc_seq ?_
 refine jc_seq ?_
 refine jc_reg ?_
 refine sqv rfl (yv_move rfl rfl) ?_
 rcases moE h with ⟨hm_x1, h⟩ | ⟨x1, hm_x1, h⟩
 ·
  skip
  refine nj_pn0 at0 hm_x1 fun hn_n2 => ?_
  refine sqv rfl (yv_pn ipt22 rfl rfl rfl hn_n2) ?_
  refine jl_nil ?_
  refine jx_then ?_
  refine jc_t rfl ?_
  refine jc_seq ?_
  refine jc_reg ?_
  refine sqv rfl (yv_assign rfl rfl) ?_
  refine jl_nil ?_
  refine jx_then ?_
  refine jc_ret ?_
  refine jx_tr ?_
  refine nj_s (m := mKey) (v := (none : Option Addr)) (p := none) rq_key0 ?_
  cases h
  exact jx_ret rfl (rr_tmp rfl rr_nil) ⟨((none : Option Addr)), rfl, rfl, rfl, rfl⟩ .nil (.cons at0 .nil) rfl (by simp)
 ·
  skip
  refine nj_pn1 at0 hm_x1 fun hn_n4 => ?_
  refine sqv rfl (yv_pn ipt22 rfl rfl rfl hn_n4) ?_
  refine jl_nil ?_
  refine jx_then ?_
  refine jc_f rfl ?_
  refine jc_skip ?_
  refine jx_then ?_
  refine jc_seq ?_
  refine jc_reg ?_
  refine sqv rfl (yv_move rfl rfl) ?_
  refine nj_xptX at0 hm_x1 fun b6 u7_ hv_b6 => ?_
  refine nj_xSpartyParty at1 fun u7_2 hu7 => ?_
  subst hu7
  refine sqv rfl (yv_nilp rfl rfl hv_b6) ?_
  refine sqv rfl (yv_fa fa143_2 rfl rfl) ?_
  refine sqv rfl (yv_ldb ti70 rfl rfl (rd_f at1) ((Sub.refl _).trans (VpartyParty.s2 (⟨x1.v, x1.leaf, u7_2, x1.own, x1.has', x1.nodes, x1.epoch, x1.init'⟩ : VpartyParty))) (Ty.len _ _) (fun _ => rfl)) ?_
  refine sqv rfl (yv_assign rfl rfl) ?_
  refine jl_nil ?_
  refine jx_then ?_
  refine jc_ret ?_
  cases h
  exact jx_ret rfl (rr_tmp rfl rr_nil) ⟨(u7_2), rfl, rfl, rfl, rfl⟩ .nil (.cons at0 .nil) rfl (by simp)
theorem F116_c {p0 : (Option SpartyParty)} {p1 : SCommit} {r : Int} (h : F116 p0 p1 = some r) (w0 : World) (O0 : Nat → Prop) (hO : ∀ k, O0 k → k < w0.heap.size) (v0 : (Option Addr)) (v1_2 : Sl) (v1_3 : Sl) (v1_6 : Sl) (k0 : (fa false (mPt tyVpartyParty mSpartyParty) v0 p0).p ⟨w0, O0, inL []⟩) (k1 : (fa false (mRow tySOp) v1_2 p1.Ops).p ⟨w0, O0, inL []⟩) (k2 : (fa false (mRow tySVote) v1_3 p1.Votes).p ⟨w0, O0, inL []⟩) (k3 : (fa false (mSl tySl (mRow (tyI .u8))) v1_6 p1.Boxes).p ⟨w0, O0, inL []⟩) :
  CallsP Tryz.prog 116 (List.toArray [.pointer v0, ag (tyVCommit.enc (⟨p1.Epoch, p1.From, v1_2, v1_3, p1.Seal, p1.Path, v1_6, p1.Tag, p1.Sig⟩ : VCommit))]) w0 O0 [] (RV (.int .i64 r)) := by
 unfold F116 at h
 refine calls_start (e := [(0, .pointer v0), (1, ag (tyVCommit.enc (⟨p1.Epoch, p1.From, v1_2, v1_3, p1.Seal, p1.Path, v1_6, p1.Tag, p1.Sig⟩ : VCommit)))]) (L := []) (K := [fa false (mPt tyVpartyParty mSpartyParty) v0 p0, fa false (mRow tySOp) v1_2 p1.Ops, fa false (mRow tySVote) v1_3 p1.Votes, fa false (mSl tySl (mRow (tyI .u8))) v1_6 p1.Boxes]) Tryz.func116 rfl rfl rfl ⟨rfl, rfl, trivial⟩ hO (by simp) .nil (alc k0 (alc k1 (alc k2 (alc k3 aln)))) ?_
 refine jc_seq ?_
 refine jc_reg ?_
 refine sq rfl (so_boxa (by decide) rfl rfl rfl fun b1 => ?_)
 refine sqv rfl (yv_assign rfl rfl) ?_
 refine jl_nil ?_
 refine jx_then ?_
 refine jc_seq_n ?_
 intro N0 hN0
 have hj0 : ∀ (j16 : Bool), F116_j0 p1 p0 j16 = some r → NJ 76 w0 O0 [] N0 [(0, .pointer v0), (3, pt b1 0), (4, .int .i64 0), (5, .bool j16)] [.blk b1 38 (tyVCommit.enc (⟨p1.Epoch, p1.From, v1_2, v1_3, p1.Seal, p1.Path, v1_6, p1.Tag, p1.Sig⟩ : VCommit))] [fa false (mPt tyVpartyParty mSpartyParty) v0 p0, fa false (mRow tySOp) v1_2 p1.Ops, fa false (mRow tySVote) v1_3 p1.Votes, fa false (mSl tySl (mRow (tyI .u8))) v1_6 p1.Boxes] := by
  intro j16 h
  unfold F116_j0 at h
  refine nj_abs hN0 ?_
  refine jc_seq ?_
  refine jc_block ?_
  refine jc_seq ?_
  refine jc_regd (k := 9) hmix rfl [([], .blk b1 38 (tyVCommit.enc (⟨p1.Epoch, p1.From, v1_2, v1_3, p1.Seal, p1.Path, v1_6, p1.Tag, p1.Sig⟩ : VCommit)))] [] (.cons at0 .nil) .nil ?_
  refine tk (i := 0) rfl (by kernel_rfl) rfl (yv_fa fa38_0 rfl rfl) .nil .nil ?_
  obtain ⟨x16_17, hx16_17, h⟩ := letX h
  refine tk (i := 1) rfl (by kernel_rfl) rfl (yxi hx16_17 (yv_ldb ti3 rfl rfl (rd_bl at0) ((Sub.refl _).trans (VCommit.s0 (⟨p1.Epoch, p1.From, v1_2, v1_3, p1.Seal, p1.Path, v1_6, p1.Tag, p1.Sig⟩ : VCommit))) (Ty.len _ _) (fun _ => rfl))) (.cons at0 (by kernel_rfl) .nil) .nil ?_
  refine tk (i := 2) rfl (by kernel_rfl) rfl (yv_move rfl rfl) .nil .nil ?_
  rcases moE h with ⟨hm_x17_17, h⟩ | ⟨x17_17, hm_x17_17, h⟩
  ·
   skip
   obtain ⟨hno, h⟩ := gdE h
   exact hno.elim
  ·
   skip
   refine nj_xptX at0 hm_x17_17 fun b18_17 u19_17_ hv_b18_17 => ?_
   refine nj_xSpartyParty at1 fun u19_17_2 hu19_17 => ?_
   subst hu19_17
   refine tk (i := 3) rfl (by kernel_rfl) rfl (yv_nilp rfl rfl hv_b18_17) .nil .nil ?_
   refine tk (i := 4) rfl (by kernel_rfl) rfl (yv_fa fa143_0 rfl rfl) .nil .nil ?_
   refine tk (i := 5) rfl (by kernel_rfl) rfl (yv_fa fa64_0 rfl rfl) .nil .nil ?_
   obtain ⟨x20_17, hx20_17, h⟩ := letX h
   refine jg_reb (Ls' := [([], .blk b1 38 (tyVCommit.enc (⟨p1.Epoch, p1.From, v1_2, v1_3, p1.Seal, p1.Path, v1_6, p1.Tag, p1.Sig⟩ : VCommit)))]) (Ks' := [fa false mBl b18_17 (tyVpartyParty.enc (⟨x17_17.v, x17_17.leaf, u19_17_2, x17_17.own, x17_17.has', x17_17.nodes, x17_17.epoch, x17_17.init'⟩ : VpartyParty))]) (.cons at0 .nil) (.cons at1 .nil) (.cons at0 .nil) .nil ?_
   refine tk (i := 6) rfl (by kernel_rfl) rfl (yxi hx20_17 (yv_ldb ti3 rfl rfl (rd_f at0) (((Sub.refl _).trans (VpartyParty.s0 (⟨x17_17.v, x17_17.leaf, u19_17_2, x17_17.own, x17_17.has', x17_17.nodes, x17_17.epoch, x17_17.init'⟩ : VpartyParty))).trans (SView.s0 x17_17.v)) (Ty.len _ _) (fun _ => rfl))) .nil (.cons at0 .nil) ?_
   obtain ⟨x21_17, hx21_17, h⟩ := letX h
   refine tk (i := 7) rfl (by kernel_rfl) rfl (yxb hx21_17 (yv_neq rfl rfl rfl)) .nil .nil ?_
   refine tk (i := 8) rfl (by kernel_rfl) rfl (yv_assign rfl rfl) .nil .nil ?_
   refine jg_nil (by kernel_rfl) ?_
   refine jx_then ?_
   rcases x21_17 with _ | _
   ·
    replace h := brF h
    refine jc_f rfl ?_
    refine jc_seq_n ?_
    intro N1 hN1
    have hj1 : ∀ (j28_17 : Bool), F116_j1 p1 x17_17 j28_17 = some r → NJ 76 w0 O0 [] N1 [(0, .pointer v0), (3, pt b1 0), (4, .int .i64 0), (36, .bool j28_17)] [.blk b1 38 (tyVCommit.enc (⟨p1.Epoch, p1.From, v1_2, v1_3, p1.Seal, p1.Path, v1_6, p1.Tag, p1.Sig⟩ : VCommit))] [fa false (mPt tyVpartyParty mSpartyParty) v0 p0, fa false (mRow tySOp) v1_2 p1.Ops, fa false (mRow tySVote) v1_3 p1.Votes, fa false (mSl tySl (mRow (tyI .u8))) v1_6 p1.Boxes] := by
     intro j28_17 h
     unfold F116_j1 at h
     refine nj_abs hN1 ?_
     rcases j28_17 with _ | _
     ·
      replace h := brF h
      refine jc_f rfl ?_
      refine jc_seq ?_
      refine jc_regd (k := 17) hmix rfl [([], .blk b1 38 (tyVCommit.enc (⟨p1.Epoch, p1.From, v1_2, v1_3, p1.Seal, p1.Path, v1_6, p1.Tag, p1.Sig⟩ : VCommit)))] [] (.cons at0 .nil) .nil ?_
      refine tk (i := 0) rfl (by kernel_rfl) rfl (yv_move rfl rfl) .nil .nil ?_
      refine tk (i := 1) rfl (by kernel_rfl) rfl (yv_fa fa38_1 rfl rfl) .nil .nil ?_
      obtain ⟨x1_17_29, hx1_17_29, h⟩ := letX h
      refine tk (i := 2) rfl (by kernel_rfl) rfl (yxi hx1_17_29 (yv_ldb ti3 rfl rfl (rd_bl at0) ((Sub.refl _).trans (VCommit.s1 (⟨p1.Epoch, p1.From, v1_2, v1_3, p1.Seal, p1.Path, v1_6, p1.Tag, p1.Sig⟩ : VCommit))) (Ty.len _ _) (fun _ => rfl))) (.cons at0 (by kernel_rfl) .nil) .nil ?_
      refine nj_xptX at0 hm_x17_17 fun b2_17_29 u3_17_29_ hv_b2_17_29 => ?_
      refine nj_xSpartyParty at1 fun u3_17_29_2 hu3_17_29 => ?_
      subst hu3_17_29
      refine tk (i := 3) rfl (by kernel_rfl) rfl (yv_nilp rfl rfl hv_b2_17_29) .nil .nil ?_
      refine tk (i := 4) rfl (by kernel_rfl) rfl (yv_fa fa143_0 rfl rfl) .nil .nil ?_
      refine tk (i := 5) rfl (by kernel_rfl) rfl (yv_fa fa64_1 rfl rfl) .nil .nil ?_
      refine tk (i := 6) rfl (by kernel_rfl) rfl (yv_fa fa61_0 rfl rfl) .nil .nil ?_
      obtain ⟨g4_17_29, h⟩ := gdE h
      refine tk (i := 7) rfl (by kernel_rfl) rfl (yv_ia ia58 rfl rfl rfl g4_17_29) .nil .nil ?_
      refine tk (i := 8) rfl (by kernel_rfl) rfl (yv_fa fa51_0 rfl rfl) .nil .nil ?_
      obtain ⟨x5_17_29, hx5_17_29, h⟩ := letX h
      refine jg_reb (Ls' := [([], .blk b1 38 (tyVCommit.enc (⟨p1.Epoch, p1.From, v1_2, v1_3, p1.Seal, p1.Path, v1_6, p1.Tag, p1.Sig⟩ : VCommit)))]) (Ks' := [fa false mBl b2_17_29 (tyVpartyParty.enc (⟨x17_17.v, x17_17.leaf, u3_17_29_2, x17_17.own, x17_17.has', x17_17.nodes, x17_17.epoch, x17_17.init'⟩ : VpartyParty))]) (.cons at0 .nil) (.cons at1 .nil) (.cons at0 .nil) .nil ?_
      refine tk (i := 9) rfl (by kernel_rfl) rfl (yxi hx5_17_29 (yv_ldb ti3 rfl rfl (rd_f at0) ((((((Sub.refl _).trans (VpartyParty.s0 (⟨x17_17.v, x17_17.leaf, u3_17_29_2, x17_17.own, x17_17.has', x17_17.nodes, x17_17.epoch, x17_17.init'⟩ : VpartyParty))).trans (SView.s1 x17_17.v)).trans (STree.s0 x17_17.v.Tree)).trans (arr_sub tySLeaf x17_17.v.Tree.Leaves x1_17_29 g4_17_29)).trans (SLeaf.s0 (vat x17_17.v.Tree.Leaves x1_17_29))) (Ty.len _ _) (fun _ => rfl))) .nil (.cons at0 .nil) ?_
      refine tk (i := 10) rfl (by kernel_rfl) rfl (yv_ldb ti38 rfl rfl (rd_bl at0) (Sub.refl _) (Ty.len _ _) (by simp)) (.cons at0 (by kernel_rfl) .nil) .nil ?_
      refine tk (i := 12) rfl (by kernel_rfl) rfl (yv_fa fa38_8 rfl rfl) .nil .nil ?_
      obtain ⟨x6_17_29, hx6_17_29, h⟩ := letX h
      refine tk (i := 13) rfl (by kernel_rfl) rfl (yxg (C := tySSig) hx6_17_29 (yv_ldb ti36 rfl rfl (rd_bl at0) ((Sub.refl _).trans (VCommit.s8 (⟨p1.Epoch, p1.From, v1_2, v1_3, p1.Seal, p1.Path, v1_6, p1.Tag, p1.Sig⟩ : VCommit))) (Ty.len _ _) (by simp))) (.cons at0 (by kernel_rfl) .nil) .nil ?_
      obtain ⟨y7_17_29, hy7_17_29, h⟩ := bdE h
      refine jg_one (i := 11) (by kernel_rfl) (gst rfl rfl (so_callx pf96 rfl rfl rfl rfl (fun σ hs => F96_c hy7_17_29 σ.w σ.O hs.olt v1_2 v1_3 v1_6 (cw0 (rd_f at4) hs) (cw0 (rd_f at5) hs) (cw0 (rd_f at6) hs)) (fun _ => (.cons .nil)) (fun _ => .nil) (fun r8_17_29 => ?_)))
      refine ng (.cons at1 .nil) (.cons at1 .nil) ?_
      obtain ⟨y9_17_29, hy9_17_29, h⟩ := bdE h
      refine jg_one (i := 14) (by kernel_rfl) (gst rfl rfl (so_callv pf157 rfl rfl rfl rfl (fun σ hs => F157_c hy9_17_29 σ.w σ.O hs.olt r8_17_29 (cw0 (rd_o at0) hs)) ?_))
      refine ng (.cons at1 .nil) (.cons at1 .nil) ?_
      obtain ⟨x10_17_29, hx10_17_29, h⟩ := letX h
      refine tk (i := 15) rfl (by kernel_rfl) rfl (yxb hx10_17_29 (yv_not rfl rfl)) .nil .nil ?_
      refine tk (i := 16) rfl (by kernel_rfl) rfl (yv_assign rfl rfl) .nil .nil ?_
      refine jg_nil (by kernel_rfl) ?_
      refine jx_then ?_
      rcases x10_17_29 with _ | _
      ·
       replace h := brF h
       refine jc_f rfl ?_
       refine jc_skip ?_
       refine jx_blk ?_
       refine jx_then ?_
       refine jc_seq ?_
       refine jc_regd (k := 12) hmix rfl [([], .blk b1 38 (tyVCommit.enc (⟨p1.Epoch, p1.From, v1_2, v1_3, p1.Seal, p1.Path, v1_6, p1.Tag, p1.Sig⟩ : VCommit)))] [fa false mBl b2_17_29 (tyVpartyParty.enc (⟨x17_17.v, x17_17.leaf, u3_17_29_2, x17_17.own, x17_17.has', x17_17.nodes, x17_17.epoch, x17_17.init'⟩ : VpartyParty))] (.cons at1 .nil) (.cons at1 .nil) ?_
       refine tk (i := 0) rfl (by kernel_rfl) rfl (yv_move rfl rfl) .nil .nil ?_
       refine tk (i := 1) rfl (by kernel_rfl) rfl (yv_nilp rfl rfl hv_b2_17_29) .nil .nil ?_
       refine tk (i := 2) rfl (by kernel_rfl) rfl (yv_fa fa143_0 rfl rfl) .nil .nil ?_
       obtain ⟨x11_17_29, hx11_17_29, h⟩ := letX h
       refine tk (i := 3) rfl (by kernel_rfl) rfl (yxg (C := tySView) hx11_17_29 (yv_ldb ti64 rfl rfl (rd_f at0) ((Sub.refl _).trans (VpartyParty.s0 (⟨x17_17.v, x17_17.leaf, u3_17_29_2, x17_17.own, x17_17.has', x17_17.nodes, x17_17.epoch, x17_17.init'⟩ : VpartyParty))) (Ty.len _ _) (by simp))) .nil (.cons at0 .nil) ?_
       refine tk (i := 4) rfl (by kernel_rfl) rfl (yv_fa fa38_1 rfl rfl) .nil .nil ?_
       obtain ⟨x12_17_29, hx12_17_29, h⟩ := letX h
       refine tk (i := 5) rfl (by kernel_rfl) rfl (yxi hx12_17_29 (yv_ldb ti3 rfl rfl (rd_bl at0) ((Sub.refl _).trans (VCommit.s1 (⟨p1.Epoch, p1.From, v1_2, v1_3, p1.Seal, p1.Path, v1_6, p1.Tag, p1.Sig⟩ : VCommit))) (Ty.len _ _) (fun _ => rfl))) (.cons at0 (by kernel_rfl) .nil) .nil ?_
       refine tk (i := 6) rfl (by kernel_rfl) rfl (yv_fa fa38_2 rfl rfl) .nil .nil ?_
       refine tk (i := 7) rfl (by kernel_rfl) rfl (yv_ldb ti31 rfl rfl (rd_bl at0) ((Sub.refl _).trans (VCommit.s2 (⟨p1.Epoch, p1.From, v1_2, v1_3, p1.Seal, p1.Path, v1_6, p1.Tag, p1.Sig⟩ : VCommit))) (Ty.len _ _) (fun _ => rfl)) (.cons at0 (by kernel_rfl) .nil) .nil ?_
       refine tk (i := 8) rfl (by kernel_rfl) rfl (yv_fa fa38_3 rfl rfl) .nil .nil ?_
       refine tk (i := 9) rfl (by kernel_rfl) rfl (yv_ldb ti32 rfl rfl (rd_bl at0) ((Sub.refl _).trans (VCommit.s3 (⟨p1.Epoch, p1.From, v1_2, v1_3, p1.Seal, p1.Path, v1_6, p1.Tag, p1.Sig⟩ : VCommit))) (Ty.len _ _) (fun _ => rfl)) (.cons at0 (by kernel_rfl) .nil) .nil ?_
       obtain ⟨y13_17_29, hy13_17_29, h⟩ := bdE h
       refine jg_one (i := 10) (by kernel_rfl) (gst rfl rfl (so_callv pf87 rfl rfl rfl rfl (fun σ hs => F87_c hy13_17_29 σ.w σ.O hs.olt v1_2 v1_3 (cw0 (rd_f at4) hs) (cw0 (rd_f at5) hs)) ?_))
       refine ng (.cons at1 .nil) (.cons at1 .nil) ?_
       refine tk (i := 11) rfl (by kernel_rfl) rfl (yv_assign rfl rfl) .nil .nil ?_
       refine jg_nil (by kernel_rfl) ?_
       refine jx_then ?_
       refine jc_ret ?_
       cases h
       exact jx_ret rfl (rr_tmp rfl rr_nil) ⟨rfl, rfl, rfl, rfl⟩ .nil .nil rfl (by simp)
      ·
       replace h := brT h
       refine jc_t rfl ?_
       refine jc_seq ?_
       refine jc_reg ?_
       refine sqv rfl (yv_assign rfl rfl) ?_
       refine jl_nil ?_
       refine jx_then ?_
       refine jc_ret ?_
       refine jx_br ?_
       refine jx_tr ?_
       cases h
       exact jx_ret rfl (rr_tmp rfl rr_nil) ⟨rfl, rfl, rfl, rfl⟩ .nil .nil rfl (by simp)
     ·
      replace h := brT h
      refine jc_t rfl ?_
      refine jc_seq ?_
      refine jc_reg ?_
      refine sqv rfl (yv_assign rfl rfl) ?_
      refine jl_nil ?_
      refine jx_then ?_
      refine jc_ret ?_
      refine jx_br ?_
      refine jx_tr ?_
      cases h
      exact jx_ret rfl (rr_tmp rfl rr_nil) ⟨rfl, rfl, rfl, rfl⟩ .nil .nil rfl (by simp)
    refine jc_regd (k := 12) hmix rfl [([], .blk b1 38 (tyVCommit.enc (⟨p1.Epoch, p1.From, v1_2, v1_3, p1.Seal, p1.Path, v1_6, p1.Tag, p1.Sig⟩ : VCommit)))] [fa false mBl b18_17 (tyVpartyParty.enc (⟨x17_17.v, x17_17.leaf, u19_17_2, x17_17.own, x17_17.has', x17_17.nodes, x17_17.epoch, x17_17.init'⟩ : VpartyParty))] (.cons at0 .nil) (.cons at1 .nil) ?_
    refine tk (i := 0) rfl (by kernel_rfl) rfl (yv_move rfl rfl) .nil .nil ?_
    obtain ⟨x22_17, hx22_17, h⟩ := letX h
    refine tk (i := 1) rfl (by kernel_rfl) rfl (yxb hx22_17 (yv_not rfl rfl)) .nil .nil ?_
    refine tk (i := 2) rfl (by kernel_rfl) rfl (yv_move rfl rfl) .nil .nil ?_
    rcases x22_17 with _ | _
    ·
     replace h := brF h
     refine tk (i := 3) rfl (by kernel_rfl) rfl (yv_fa fa38_1 rfl rfl) .nil .nil ?_
     obtain ⟨x24_17, hx24_17, h⟩ := letX h
     refine tk (i := 4) rfl (by kernel_rfl) rfl (yxi hx24_17 (yv_ldb ti3 rfl rfl (rd_bl at0) ((Sub.refl _).trans (VCommit.s1 (⟨p1.Epoch, p1.From, v1_2, v1_3, p1.Seal, p1.Path, v1_6, p1.Tag, p1.Sig⟩ : VCommit))) (Ty.len _ _) (fun _ => rfl))) (.cons at0 (by kernel_rfl) .nil) .nil ?_
     refine tk (i := 5) rfl (by kernel_rfl) rfl (yv_move rfl rfl) .nil .nil ?_
     refine tk (i := 6) rfl (by kernel_rfl) rfl (yv_nilp rfl rfl hv_b18_17) .nil .nil ?_
     refine tk (i := 7) rfl (by kernel_rfl) rfl (yv_fa fa143_1 rfl rfl) .nil .nil ?_
     obtain ⟨x25_17, hx25_17, h⟩ := letX h
     refine tk (i := 8) rfl (by kernel_rfl) rfl (yxi hx25_17 (yv_ldb ti3 rfl rfl (rd_f at0) ((Sub.refl _).trans (VpartyParty.s1 (⟨x17_17.v, x17_17.leaf, u19_17_2, x17_17.own, x17_17.has', x17_17.nodes, x17_17.epoch, x17_17.init'⟩ : VpartyParty))) (Ty.len _ _) (fun _ => rfl))) .nil (.cons at0 .nil) ?_
     obtain ⟨x26_17, hx26_17, h⟩ := letX h
     refine tk (i := 9) rfl (by kernel_rfl) rfl (yxb hx26_17 (yv_eql rfl rfl rfl)) .nil .nil ?_
     refine tk (i := 10) rfl (by kernel_rfl) rfl (yv_pick_f rfl rfl rfl) .nil .nil ?_
     refine tk (i := 11) rfl (by kernel_rfl) rfl (yv_assign rfl rfl) .nil .nil ?_
     refine jg_nil (by kernel_rfl) ?_
     refine jx_then_n ?_
     exact nj_weak (hj1 x26_17 h) ⟨rfl, rfl, rfl, rfl, trivial⟩ (.cons de0 .nil) (.cons at3 (.cons at4 (.cons at5 (.cons at6 .nil))))
    ·
     replace h := brT h
     refine tk_skip (i := 3) rfl (by kernel_rfl) rfl ?_
     refine tk_skip (i := 4) rfl (by kernel_rfl) rfl ?_
     refine tk_skip (i := 5) rfl (by kernel_rfl) rfl ?_
     refine tk_skip (i := 6) rfl (by kernel_rfl) rfl ?_
     refine tk_skip (i := 7) rfl (by kernel_rfl) rfl ?_
     refine tk_skip (i := 8) rfl (by kernel_rfl) rfl ?_
     refine tk_skip (i := 9) rfl (by kernel_rfl) rfl ?_
     refine tk (i := 10) rfl (by kernel_rfl) rfl (yv_pick_t rfl rfl rfl) .nil .nil ?_
     refine tk (i := 11) rfl (by kernel_rfl) rfl (yv_assign rfl rfl) .nil .nil ?_
     refine jg_nil (by kernel_rfl) ?_
     refine jx_then_n ?_
     exact nj_weak (hj1 true h) ⟨rfl, rfl, rfl, rfl, trivial⟩ (.cons de0 .nil) (.cons at3 (.cons at4 (.cons at5 (.cons at6 .nil))))
   ·
    replace h := brT h
    refine jc_t rfl ?_
    refine jc_seq ?_
    refine jc_reg ?_
    refine sqv rfl (yv_assign rfl rfl) ?_
    refine jl_nil ?_
    refine jx_then ?_
    refine jc_ret ?_
    refine jx_br ?_
    refine jx_tr ?_
    cases h
    exact jx_ret rfl (rr_tmp rfl rr_nil) ⟨rfl, rfl, rfl, rfl⟩ .nil .nil rfl (by simp)
 refine jc_regd (k := 22) hmix rfl [([], .blk b1 38 (tyVCommit.enc (⟨p1.Epoch, p1.From, v1_2, v1_3, p1.Seal, p1.Path, v1_6, p1.Tag, p1.Sig⟩ : VCommit)))] [] (.cons at0 .nil) .nil ?_
 refine tk (i := 0) rfl (by kernel_rfl) rfl (yv_fa fa38_1 rfl rfl) .nil .nil ?_
 obtain ⟨x2, hx2, h⟩ := letX h
 refine tk (i := 1) rfl (by kernel_rfl) rfl (yxi hx2 (yv_ldb ti3 rfl rfl (rd_bl at0) ((Sub.refl _).trans (VCommit.s1 (⟨p1.Epoch, p1.From, v1_2, v1_3, p1.Seal, p1.Path, v1_6, p1.Tag, p1.Sig⟩ : VCommit))) (Ty.len _ _) (fun _ => rfl))) (.cons at0 (by kernel_rfl) .nil) .nil ?_
 obtain ⟨x3, hx3, h⟩ := letX h
 refine tk (i := 2) rfl (by kernel_rfl) rfl (yxb hx3 (yv_geq rfl rfl rfl)) .nil .nil ?_
 refine tk (i := 3) rfl (by kernel_rfl) rfl (yv_move rfl rfl) .nil .nil ?_
 rcases x3 with _ | _
 ·
  replace h := brF h
  refine tk_skip (i := 4) rfl (by kernel_rfl) rfl ?_
  refine tk_skip (i := 5) rfl (by kernel_rfl) rfl ?_
  refine tk_skip (i := 6) rfl (by kernel_rfl) rfl ?_
  refine tk (i := 7) rfl (by kernel_rfl) rfl (yv_pick_f rfl rfl rfl) .nil .nil ?_
  refine tk (i := 8) rfl (by kernel_rfl) rfl (yv_move rfl rfl) .nil .nil ?_
  refine tk_skip (i := 9) rfl (by kernel_rfl) rfl ?_
  refine tk_skip (i := 10) rfl (by kernel_rfl) rfl ?_
  refine tk_skip (i := 11) rfl (by kernel_rfl) rfl ?_
  refine tk_skip (i := 12) rfl (by kernel_rfl) rfl ?_
  refine tk_skip (i := 13) rfl (by kernel_rfl) rfl ?_
  refine tk_skip (i := 14) rfl (by kernel_rfl) rfl ?_
  refine tk_skip (i := 15) rfl (by kernel_rfl) rfl ?_
  refine tk_skip (i := 16) rfl (by kernel_rfl) rfl ?_
  refine tk_skip (i := 17) rfl (by kernel_rfl) rfl ?_
  refine tk_skip (i := 18) rfl (by kernel_rfl) rfl ?_
  refine tk_skip (i := 19) rfl (by kernel_rfl) rfl ?_
  refine tk (i := 20) rfl (by kernel_rfl) rfl (yv_pick_f rfl rfl rfl) .nil .nil ?_
  refine tk (i := 21) rfl (by kernel_rfl) rfl (yv_assign rfl rfl) .nil .nil ?_
  refine jg_nil (by kernel_rfl) ?_
  refine jx_then_n ?_
  exact nj_weak (hj0 false h) ⟨rfl, rfl, rfl, rfl, trivial⟩ (.cons de0 .nil) (.cons at0 (.cons at1 (.cons at2 (.cons at3 .nil))))
 ·
  replace h := brT h
  refine tk (i := 4) rfl (by kernel_rfl) rfl (yv_fa fa38_1 rfl rfl) .nil .nil ?_
  obtain ⟨x4, hx4, h⟩ := letX h
  refine tk (i := 5) rfl (by kernel_rfl) rfl (yxi hx4 (yv_ldb ti3 rfl rfl (rd_bl at0) ((Sub.refl _).trans (VCommit.s1 (⟨p1.Epoch, p1.From, v1_2, v1_3, p1.Seal, p1.Path, v1_6, p1.Tag, p1.Sig⟩ : VCommit))) (Ty.len _ _) (fun _ => rfl))) (.cons at0 (by kernel_rfl) .nil) .nil ?_
  obtain ⟨x5, hx5, h⟩ := letX h
  refine tk (i := 6) rfl (by kernel_rfl) rfl (yxb hx5 (yv_lss rfl rfl rfl)) .nil .nil ?_
  refine tk (i := 7) rfl (by kernel_rfl) rfl (yv_pick_t rfl rfl rfl) .nil .nil ?_
  refine tk (i := 8) rfl (by kernel_rfl) rfl (yv_move rfl rfl) .nil .nil ?_
  rcases x5 with _ | _
  ·
   replace h := brF h
   refine tk_skip (i := 9) rfl (by kernel_rfl) rfl ?_
   refine tk_skip (i := 10) rfl (by kernel_rfl) rfl ?_
   refine tk_skip (i := 11) rfl (by kernel_rfl) rfl ?_
   refine tk_skip (i := 12) rfl (by kernel_rfl) rfl ?_
   refine tk_skip (i := 13) rfl (by kernel_rfl) rfl ?_
   refine tk_skip (i := 14) rfl (by kernel_rfl) rfl ?_
   refine tk_skip (i := 15) rfl (by kernel_rfl) rfl ?_
   refine tk_skip (i := 16) rfl (by kernel_rfl) rfl ?_
   refine tk_skip (i := 17) rfl (by kernel_rfl) rfl ?_
   refine tk_skip (i := 18) rfl (by kernel_rfl) rfl ?_
   refine tk_skip (i := 19) rfl (by kernel_rfl) rfl ?_
   refine tk (i := 20) rfl (by kernel_rfl) rfl (yv_pick_f rfl rfl rfl) .nil .nil ?_
   refine tk (i := 21) rfl (by kernel_rfl) rfl (yv_assign rfl rfl) .nil .nil ?_
   refine jg_nil (by kernel_rfl) ?_
   refine jx_then_n ?_
   exact nj_weak (hj0 false h) ⟨rfl, rfl, rfl, rfl, trivial⟩ (.cons de0 .nil) (.cons at0 (.cons at1 (.cons at2 (.cons at3 .nil))))
  ·
   replace h := brT h
   refine tk (i := 9) rfl (by kernel_rfl) rfl (yv_move rfl rfl) .nil .nil ?_
   refine tk (i := 10) rfl (by kernel_rfl) rfl (yv_fa fa38_1 rfl rfl) .nil .nil ?_
   obtain ⟨x6, hx6, h⟩ := letX h
   refine tk (i := 11) rfl (by kernel_rfl) rfl (yxi hx6 (yv_ldb ti3 rfl rfl (rd_bl at0) ((Sub.refl _).trans (VCommit.s1 (⟨p1.Epoch, p1.From, v1_2, v1_3, p1.Seal, p1.Path, v1_6, p1.Tag, p1.Sig⟩ : VCommit))) (Ty.len _ _) (fun _ => rfl))) (.cons at0 (by kernel_rfl) .nil) .nil ?_
   rcases moE h with ⟨hm_x7, h⟩ | ⟨x7, hm_x7, h⟩
   ·
    skip
    obtain ⟨hno, h⟩ := gdE h
    exact hno.elim
   ·
    skip
    refine nj_xptX at0 hm_x7 fun b8 u9_ hv_b8 => ?_
    refine nj_xSpartyParty at1 fun u9_2 hu9 => ?_
    subst hu9
    refine tk (i := 12) rfl (by kernel_rfl) rfl (yv_nilp rfl rfl hv_b8) .nil .nil ?_
    refine tk (i := 13) rfl (by kernel_rfl) rfl (yv_fa fa143_0 rfl rfl) .nil .nil ?_
    refine tk (i := 14) rfl (by kernel_rfl) rfl (yv_fa fa64_1 rfl rfl) .nil .nil ?_
    refine tk (i := 15) rfl (by kernel_rfl) rfl (yv_fa fa61_0 rfl rfl) .nil .nil ?_
    obtain ⟨g10, h⟩ := gdE h
    refine tk (i := 16) rfl (by kernel_rfl) rfl (yv_ia ia58 rfl rfl rfl g10) .nil .nil ?_
    obtain ⟨x11, hx11, h⟩ := letX h
    refine jg_reb (Ls' := [([], .blk b1 38 (tyVCommit.enc (⟨p1.Epoch, p1.From, v1_2, v1_3, p1.Seal, p1.Path, v1_6, p1.Tag, p1.Sig⟩ : VCommit)))]) (Ks' := [fa false mBl b8 (tyVpartyParty.enc (⟨x7.v, x7.leaf, u9_2, x7.own, x7.has', x7.nodes, x7.epoch, x7.init'⟩ : VpartyParty))]) (.cons at0 .nil) (.cons at1 .nil) (.cons at0 .nil) .nil ?_
    refine tk (i := 17) rfl (by kernel_rfl) rfl (yxg (C := tySLeaf) hx11 (yv_ldb ti51 rfl rfl (rd_f at0) (((((Sub.refl _).trans (VpartyParty.s0 (⟨x7.v, x7.leaf, u9_2, x7.own, x7.has', x7.nodes, x7.epoch, x7.init'⟩ : VpartyParty))).trans (SView.s1 x7.v)).trans (STree.s0 x7.v.Tree)).trans (arr_sub tySLeaf x7.v.Tree.Leaves x6 g10)) (Ty.len _ _) (by simp))) .nil (.cons at0 .nil) ?_
    refine tk (i := 18) rfl (by kernel_rfl) rfl (yv_build bi51 rfl rfl fills_nil) .nil .nil ?_
    obtain ⟨x12, hx12, h⟩ := letX h
    refine tk (i := 19) rfl (by kernel_rfl) rfl (yxb hx12 (yv_nea (C := tySLeaf) eq51 (by decide) eg51 rfl rfl rfl)) .nil .nil ?_
    refine tk (i := 20) rfl (by kernel_rfl) rfl (yv_pick_t rfl rfl rfl) .nil .nil ?_
    refine tk (i := 21) rfl (by kernel_rfl) rfl (yv_assign rfl rfl) .nil .nil ?_
    refine jg_nil (by kernel_rfl) ?_
    refine jx_then_n ?_
    exact nj_weak (hj0 x12 h) ⟨rfl, rfl, rfl, rfl, trivial⟩ (.cons de0 .nil) (.cons at3 (.cons at4 (.cons at5 (.cons at6 .nil))))
theorem F117_c {p0 : SCommit} {r : Bool} (h : F117 p0 = some r) (w0 : World) (O0 : Nat → Prop) (hO : ∀ k, O0 k → k < w0.heap.size) (v0_2 : Sl) (v0_3 : Sl) (v0_6 : Sl) (k0 : (fa false (mRow tySOp) v0_2 p0.Ops).p ⟨w0, O0, inL []⟩) (k1 : (fa false (mRow tySVote) v0_3 p0.Votes).p ⟨w0, O0, inL []⟩) (k2 : (fa false (mSl tySl (mRow (tyI .u8))) v0_6 p0.Boxes).p ⟨w0, O0, inL []⟩) :
  CallsP Tryz.prog 117 (List.toArray [ag (tyVCommit.enc (⟨p0.Epoch, p0.From, v0_2, v0_3, p0.Seal, p0.Path, v0_6, p0.Tag, p0.Sig⟩ : VCommit))]) w0 O0 [] (RV (.bool r)) := by
 unfold F117 at h
 refine calls_start (e := [(0, ag (tyVCommit.enc (⟨p0.Epoch, p0.From, v0_2, v0_3, p0.Seal, p0.Path, v0_6, p0.Tag, p0.Sig⟩ : VCommit)))]) (L := []) (K := [fa false (mRow tySOp) v0_2 p0.Ops, fa false (mRow tySVote) v0_3 p0.Votes, fa false (mSl tySl (mRow (tyI .u8))) v0_6 p0.Boxes]) Tryz.func117 rfl rfl rfl ⟨rfl, trivial⟩ hO (by simp) .nil (alc k0 (alc k1 (alc k2 aln))) ?_
 refine jc_seq ?_
 refine jc_reg ?_
 refine sq rfl (so_boxa (by decide) rfl rfl rfl fun b1 => ?_)
 refine sqv rfl (yv_assign rfl rfl) ?_
 refine jl_nil ?_
 refine jx_then ?_
 refine jc_seq ?_
 refine jc_reg ?_
 refine sqv rfl (yv_fa fa38_4 rfl rfl) ?_
 obtain ⟨x2, hx2, h⟩ := letX h
 refine sqv rfl (yxi hx2 (yv_ldb ti3 rfl rfl (rd_bl at0) ((Sub.refl _).trans (VCommit.s4 (⟨p0.Epoch, p0.From, v0_2, v0_3, p0.Seal, p0.Path, v0_6, p0.Tag, p0.Sig⟩ : VCommit))) (Ty.len _ _) (fun _ => rfl))) ?_
 obtain ⟨y3, hy3, h⟩ := bdE h
 refine sq rfl (so_callv pf201 rfl rfl rfl rfl (fun σ hs => F201_c hy3 σ.w σ.O hs.olt) ?_)
 refine sqv rfl (yv_move rfl rfl) ?_
 rcases y3 with _ | _
 ·
  replace h := brF h
  refine sq_skip rfl ?_
  refine sq_skip rfl ?_
  refine sq_skip rfl ?_
  refine sq_skip rfl ?_
  refine sqv rfl (yv_pick_f rfl rfl rfl) ?_
  refine sqv rfl (yv_move rfl rfl) ?_
  refine sq_skip rfl ?_
  refine sq_skip rfl ?_
  refine sq_skip rfl ?_
  refine sq_skip rfl ?_
  refine sqv rfl (yv_pick_f rfl rfl rfl) ?_
  refine sqv rfl (yv_move rfl rfl) ?_
  refine sq_skip rfl ?_
  refine sq_skip rfl ?_
  refine sq_skip rfl ?_
  refine sq_skip rfl ?_
  refine sqv rfl (yv_pick_f rfl rfl rfl) ?_
  refine sqv rfl (yv_assign rfl rfl) ?_
  refine jl_nil ?_
  refine jx_then ?_
  refine jc_ret ?_
  cases h
  exact jx_ret rfl (rr_tmp rfl rr_nil) ⟨rfl, rfl, rfl, rfl⟩ .nil .nil rfl (by simp)
 ·
  replace h := brT h
  refine sqv rfl (yv_fa fa38_5 rfl rfl) ?_
  refine sqv rfl (yv_ia ia33 rfl rfl rfl (by decide)) ?_
  obtain ⟨x4, hx4, h⟩ := letX h
  refine sqv rfl (yxi hx4 (yv_ldb ti3 rfl rfl (rd_bl at0) (((Sub.refl _).trans (VCommit.s5 (⟨p0.Epoch, p0.From, v0_2, v0_3, p0.Seal, p0.Path, v0_6, p0.Tag, p0.Sig⟩ : VCommit))).trans (arr_sub (tyI .i64) p0.Path (0 : Int) (by decide))) (Ty.len _ _) (fun _ => rfl))) ?_
  obtain ⟨y5, hy5, h⟩ := bdE h
  refine sq rfl (so_callv pf201 rfl rfl rfl rfl (fun σ hs => F201_c hy5 σ.w σ.O hs.olt) ?_)
  refine sqv rfl (yv_pick_t rfl rfl rfl) ?_
  refine sqv rfl (yv_move rfl rfl) ?_
  rcases y5 with _ | _
  ·
   replace h := brF h
   refine sq_skip rfl ?_
   refine sq_skip rfl ?_
   refine sq_skip rfl ?_
   refine sq_skip rfl ?_
   refine sqv rfl (yv_pick_f rfl rfl rfl) ?_
   refine sqv rfl (yv_move rfl rfl) ?_
   refine sq_skip rfl ?_
   refine sq_skip rfl ?_
   refine sq_skip rfl ?_
   refine sq_skip rfl ?_
   refine sqv rfl (yv_pick_f rfl rfl rfl) ?_
   refine sqv rfl (yv_assign rfl rfl) ?_
   refine jl_nil ?_
   refine jx_then ?_
   refine jc_ret ?_
   cases h
   exact jx_ret rfl (rr_tmp rfl rr_nil) ⟨rfl, rfl, rfl, rfl⟩ .nil .nil rfl (by simp)
  ·
   replace h := brT h
   refine sqv rfl (yv_fa fa38_5 rfl rfl) ?_
   refine sqv rfl (yv_ia ia33 rfl rfl rfl (by decide)) ?_
   obtain ⟨x6, hx6, h⟩ := letX h
   refine sqv rfl (yxi hx6 (yv_ldb ti3 rfl rfl (rd_bl at0) (((Sub.refl _).trans (VCommit.s5 (⟨p0.Epoch, p0.From, v0_2, v0_3, p0.Seal, p0.Path, v0_6, p0.Tag, p0.Sig⟩ : VCommit))).trans (arr_sub (tyI .i64) p0.Path (1 : Int) (by decide))) (Ty.len _ _) (fun _ => rfl))) ?_
   obtain ⟨y7, hy7, h⟩ := bdE h
   refine sq rfl (so_callv pf201 rfl rfl rfl rfl (fun σ hs => F201_c hy7 σ.w σ.O hs.olt) ?_)
   refine sqv rfl (yv_pick_t rfl rfl rfl) ?_
   refine sqv rfl (yv_move rfl rfl) ?_
   rcases y7 with _ | _
   ·
    replace h := brF h
    refine sq_skip rfl ?_
    refine sq_skip rfl ?_
    refine sq_skip rfl ?_
    refine sq_skip rfl ?_
    refine sqv rfl (yv_pick_f rfl rfl rfl) ?_
    refine sqv rfl (yv_assign rfl rfl) ?_
    refine jl_nil ?_
    refine jx_then ?_
    refine jc_ret ?_
    cases h
    exact jx_ret rfl (rr_tmp rfl rr_nil) ⟨rfl, rfl, rfl, rfl⟩ .nil .nil rfl (by simp)
   ·
    replace h := brT h
    refine sqv rfl (yv_fa fa38_5 rfl rfl) ?_
    refine sqv rfl (yv_ia ia33 rfl rfl rfl (by decide)) ?_
    obtain ⟨x8, hx8, h⟩ := letX h
    refine sqv rfl (yxi hx8 (yv_ldb ti3 rfl rfl (rd_bl at0) (((Sub.refl _).trans (VCommit.s5 (⟨p0.Epoch, p0.From, v0_2, v0_3, p0.Seal, p0.Path, v0_6, p0.Tag, p0.Sig⟩ : VCommit))).trans (arr_sub (tyI .i64) p0.Path (2 : Int) (by decide))) (Ty.len _ _) (fun _ => rfl))) ?_
    obtain ⟨y9, hy9, h⟩ := bdE h
    refine sq rfl (so_callv pf201 rfl rfl rfl rfl (fun σ hs => F201_c hy9 σ.w σ.O hs.olt) ?_)
    refine sqv rfl (yv_pick_t rfl rfl rfl) ?_
    refine sqv rfl (yv_assign rfl rfl) ?_
    refine jl_nil ?_
    refine jx_then ?_
    refine jc_ret ?_
    cases h
    exact jx_ret rfl (rr_tmp rfl rr_nil) ⟨rfl, rfl, rfl, rfl⟩ .nil .nil rfl (by simp)
theorem F204_c {p0 : Int} {p1 : Int} {r : Bool} (h : F204 p0 p1 = some r) (w0 : World) (O0 : Nat → Prop) (hO : ∀ k, O0 k → k < w0.heap.size) :
  CallsP Tryz.prog 204 (List.toArray [.int .i64 p0, .int .i64 p1]) w0 O0 [] (RV (.bool r)) := by
 unfold F204 at h
 refine calls_start (e := [(0, .int .i64 p0), (1, .int .i64 p1)]) (L := []) (K := []) Tryz.func204 rfl rfl rfl ⟨rfl, rfl, trivial⟩ hO (by simp) .nil aln ?_
 refine jc_seq ?_
 refine jc_reg ?_
 refine sqv rfl (yv_assign rfl rfl) ?_
 refine jl_nil ?_
 refine jx_then ?_
 refine jc_seq ?_
 refine jc_seq_n ?_
 intro N0 hN0
 have hj0 : ∀ (j7 : Bool), F204_j0 p1 p0 j7 = some r → NJ 23 w0 O0 [] N0 [(0, .int .i64 p0), (1, .int .i64 p1), (4, .bool false), (13, .bool j7)] [] [] := by
  intro j7 h
  unfold F204_j0 at h
  refine nj_abs hN0 ?_
  rcases j7 with _ | _
  ·
   replace h := brF h
   refine jc_f rfl ?_
   refine jc_skip ?_
   refine jx_then ?_
   refine jc_seq ?_
   refine jc_seq ?_
   refine jc_reg ?_
   refine sqv rfl (yv_move rfl rfl) ?_
   refine jl_nil ?_
   refine jx_then ?_
   refine jc_block ?_
   refine jc_loop ?_
   intro B0 Q0 hB0 hQ0
   have key0 : ∀ (k0 : Nat) (j24_8 : Int), F204_l0 p1 p0 k0 j24_8 = some r → JW 23 w0 O0 [] Tryz.prog B0 Q0 [(0, .int .i64 p0), (1, .int .i64 p1), (4, .bool false), (14, .int .i64 j24_8)] [] [] := by
    intro k0
    induction k0 with
    | zero => intro j24_8 h; cases h
    | succ k0 ih0 =>
     intro j24_8 h
     unfold F204_l0 at h
     refine jw_round hB0 ?_
     refine jc_seq ?_
     refine jc_reg ?_
     obtain ⟨x25_8, hx25_8, h⟩ := letX h
     refine sqv rfl (yxb hx25_8 (yv_lss rfl rfl rfl)) ?_
     refine jl_nil ?_
     refine jx_then ?_
     refine jc_seq ?_
     rcases x25_8 with _ | _
     ·
      replace h := brF h
      refine jc_f rfl ?_
      refine jc_exit ?_
      refine jx_te ?_
      refine jx_te ?_
      refine jx_abs hQ0 ?_
      refine jx_hit ?_
      refine jx_then ?_
      refine jc_seq ?_
      refine jc_reg ?_
      refine sqv rfl (yv_assign rfl rfl) ?_
      refine jl_nil ?_
      refine jx_then ?_
      refine jc_ret ?_
      cases h
      exact jx_ret rfl (rr_tmp rfl rr_nil) ⟨rfl, rfl, rfl, rfl⟩ .nil .nil rfl (by simp)
     ·
      replace h := brT h
      refine jc_t rfl ?_
      refine jc_skip ?_
      refine jx_then ?_
      refine jc_seq ?_
      refine jc_block ?_
      refine jc_seq ?_
      refine jc_reg ?_
      refine sqv rfl (yv_move rfl rfl) ?_
      refine sqv rfl (yv_assign rfl rfl) ?_
      refine jl_nil ?_
      refine jx_then ?_
      refine jc_seq ?_
      refine jc_reg ?_
      refine sqv rfl (yv_move rfl rfl) ?_
      refine sqv rfl (yv_move rfl rfl) ?_
      obtain ⟨y32_8, hy32_8, h⟩ := bdE h
      refine sq rfl (so_callv pf246 rfl rfl rfl rfl (fun σ hs => F246_c hy32_8 σ.w σ.O hs.olt) ?_)
      refine sqv rfl (yv_move rfl rfl) ?_
      obtain ⟨x33_8, hx33_8, h⟩ := letX h
      refine sqv rfl (yxb hx33_8 (yv_eql rfl rfl rfl)) ?_
      refine jl_nil ?_
      refine jx_then ?_
      rcases x33_8 with _ | _
      ·
       replace h := brF h
       refine jc_f rfl ?_
       refine jc_skip ?_
       refine jx_blk ?_
       refine jx_then ?_
       refine jc_reg ?_
       obtain ⟨x34_8, hx34_8, h⟩ := letX h
       refine sqv rfl (yxi hx34_8 (yv_add rfl rfl rfl)) ?_
       refine sqv rfl (yv_move rfl rfl) ?_
       refine jl_nil ?_
       refine jx_again ?_
       exact nj_weak (ih0 x34_8 h) ⟨rfl, rfl, rfl, rfl, trivial⟩ .nil .nil
      ·
       replace h := brT h
       refine jc_t rfl ?_
       refine jc_seq ?_
       refine jc_reg ?_
       refine sqv rfl (yv_assign rfl rfl) ?_
       refine jl_nil ?_
       refine jx_then ?_
       refine jc_ret ?_
       refine jx_br ?_
       refine jx_tr ?_
       refine jx_tr ?_
       refine jx_abs hQ0 ?_
       refine jx_br ?_
       refine jx_tr ?_
       cases h
       exact jx_ret rfl (rr_tmp rfl rr_nil) ⟨rfl, rfl, rfl, rfl⟩ .nil .nil rfl (by simp)
   exact nj_weak (key0 FUEL 0 h) ⟨rfl, rfl, rfl, rfl, trivial⟩ .nil .nil
  ·
   replace h := brT h
   refine jc_t rfl ?_
   refine jc_seq ?_
   refine jc_reg ?_
   refine sqv rfl (yv_assign rfl rfl) ?_
   refine jl_nil ?_
   refine jx_then ?_
   refine jc_ret ?_
   refine jx_tr ?_
   cases h
   exact jx_ret rfl (rr_tmp rfl rr_nil) ⟨rfl, rfl, rfl, rfl⟩ .nil .nil rfl (by simp)
 refine jc_reg ?_
 refine sqv rfl (yv_move rfl rfl) ?_
 obtain ⟨y1, hy1, h⟩ := bdE h
 refine sq rfl (so_callv pf248 rfl rfl rfl rfl (fun σ hs => F248_c hy1 σ.w σ.O hs.olt) ?_)
 obtain ⟨x2, hx2, h⟩ := letX h
 refine sqv rfl (yxb hx2 (yv_not rfl rfl)) ?_
 refine sqv rfl (yv_move rfl rfl) ?_
 rcases x2 with _ | _
 ·
  replace h := brF h
  refine sqv rfl (yv_move rfl rfl) ?_
  obtain ⟨y4, hy4, h⟩ := bdE h
  refine sq rfl (so_callv pf245 rfl rfl rfl rfl (fun σ hs => F245_c hy4 σ.w σ.O hs.olt) ?_)
  obtain ⟨x5, hx5, h⟩ := letX h
  refine sqv rfl (yxb hx5 (yv_not rfl rfl)) ?_
  refine sqv rfl (yv_pick_f rfl rfl rfl) ?_
  refine jl_nil ?_
  refine jx_then_n ?_
  exact nj_weak (hj0 x5 h) ⟨rfl, rfl, rfl, rfl, trivial⟩ .nil .nil
 ·
  replace h := brT h
  refine sq_skip rfl ?_
  refine sq_skip rfl ?_
  refine sq_skip rfl ?_
  refine sqv rfl (yv_pick_t rfl rfl rfl) ?_
  refine jl_nil ?_
  refine jx_then_n ?_
  exact nj_weak (hj0 true h) ⟨rfl, rfl, rfl, rfl, trivial⟩ .nil .nil
theorem F205_c {p0 : (Option SpartyParty)} {p1 : Int} {r : (Option Int)} (h : F205 p0 p1 = some r) (w0 : World) (O0 : Nat → Prop) (hO : ∀ k, O0 k → k < w0.heap.size) (v0 : (Option Addr)) (k0 : (fa false (mPt tyVpartyParty mSpartyParty) v0 p0).p ⟨w0, O0, inL []⟩) :
  CallsP Tryz.prog 205 (List.toArray [.pointer v0, .int .i64 p1]) w0 O0 [] (RX (fun x : (Option Addr) => .pointer x) (fun x => []) (fun x => [fa true mKey x r])) := by
 unfold F205 at h
 refine calls_start (e := [(0, .pointer v0), (1, .int .i64 p1)]) (L := []) (K := [fa false (mPt tyVpartyParty mSpartyParty) v0 p0]) Tryz.func205 rfl rfl rfl ⟨rfl, rfl, trivial⟩ hO (by simp) .nil (alc k0 aln) ?_
 refine jc_seq ?_
 refine jc_reg ?_
 refine sqv rfl (yv_assign rfl rfl) ?_
 refine jl_nil ?_
 refine jx_then ?_
 refine jc_seq ?_
 refine jc_seq ?_
 refine jc_reg ?_
 refine sqv rfl (yv_move rfl rfl) ?_
 refine sqv rfl (yv_move rfl rfl) ?_
 rcases moE h with ⟨hm_x1, h⟩ | ⟨x1, hm_x1, h⟩
 ·
  skip
  obtain ⟨hno, h⟩ := gdE h
  exact hno.elim
 ·
  skip
  refine nj_xptX at0 hm_x1 fun b2 u3_ hv_b2 => ?_
  refine nj_xSpartyParty at1 fun u3_2 hu3 => ?_
  subst hu3
  refine sqv rfl (yv_nilp rfl rfl hv_b2) ?_
  refine sqv rfl (yv_fa fa143_1 rfl rfl) ?_
  obtain ⟨x4, hx4, h⟩ := letX h
  refine sqv rfl (yxi hx4 (yv_ldb ti3 rfl rfl (rd_f at1) ((Sub.refl _).trans (VpartyParty.s1 (⟨x1.v, x1.leaf, u3_2, x1.own, x1.has', x1.nodes, x1.epoch, x1.init'⟩ : VpartyParty))) (Ty.len _ _) (fun _ => rfl))) ?_
  obtain ⟨x5, hx5, h⟩ := letX h
  refine sqv rfl (yxi hx5 (yv_mul rfl rfl rfl)) ?_
  obtain ⟨x6, hx6, h⟩ := letX h
  refine sqv rfl (yxb hx6 (yv_eql rfl rfl rfl)) ?_
  refine jl_nil ?_
  refine jx_then ?_
  rcases x6 with _ | _
  ·
   replace h := brF h
   refine jc_f rfl ?_
   refine jc_skip ?_
   refine jx_then ?_
   refine jc_seq ?_
   refine jc_seq ?_
   refine jc_reg ?_
   refine sqv rfl (yv_move rfl rfl) ?_
   refine sqv rfl (yv_nilp rfl rfl hv_b2) ?_
   refine sqv rfl (yv_fa fa143_1 rfl rfl) ?_
   obtain ⟨x15, hx15, h⟩ := letX h
   refine sqv rfl (yxi hx15 (yv_ldb ti3 rfl rfl (rd_f at1) ((Sub.refl _).trans (VpartyParty.s1 (⟨x1.v, x1.leaf, u3_2, x1.own, x1.has', x1.nodes, x1.epoch, x1.init'⟩ : VpartyParty))) (Ty.len _ _) (fun _ => rfl))) ?_
   obtain ⟨y16, hy16, h⟩ := bdE h
   refine sq rfl (so_callv pf166 rfl rfl rfl rfl (fun σ hs => F166_c hy16 σ.w σ.O hs.olt) ?_)
   refine sqv rfl (yv_move rfl rfl) ?_
   refine jl_nil ?_
   refine jx_then ?_
   refine jc_block ?_
   refine jc_loop ?_
   intro B0 Q0 hB0 hQ0
   have key0 : ∀ (k0 : Nat) (j64 : Int), F205_l0 y16 p1 x1 k0 j64 = some r → JW 47 w0 O0 [] Tryz.prog B0 Q0 [(0, .pointer v0), (1, .int .i64 p1), (4, .pointer (none : Option Addr)), (23, ag ((Ty.arr 3 (tyI .i64)).enc y16)), (24, .int .i64 j64)] [] [fa false (mPt tyVpartyParty mSpartyParty) v0 p0] := by
    intro k0
    induction k0 with
    | zero => intro j64 h; cases h
    | succ k0 ih0 =>
     intro j64 h
     unfold F205_l0 at h
     refine jw_round hB0 ?_
     refine jc_seq ?_
     refine jc_reg ?_
     obtain ⟨x65, hx65, h⟩ := letX h
     refine sqv rfl (yxb hx65 (yv_lss rfl rfl rfl)) ?_
     refine jl_nil ?_
     refine jx_then ?_
     refine jc_seq ?_
     rcases x65 with _ | _
     ·
      replace h := brF h
      refine jc_f rfl ?_
      refine jc_exit ?_
      refine jx_te ?_
      refine jx_te ?_
      refine jx_abs hQ0 ?_
      refine jx_hit ?_
      refine jx_then ?_
      refine jc_seq ?_
      refine jc_reg ?_
      refine sqv rfl (yv_assign rfl rfl) ?_
      refine jl_nil ?_
      refine jx_then ?_
      refine jc_ret ?_
      refine nj_s (m := mKey) (v := (none : Option Addr)) (p := none) rq_key0 ?_
      cases h
      exact jx_ret rfl (rr_tmp rfl rr_nil) ⟨((none : Option Addr)), rfl, rfl, rfl, rfl⟩ .nil (.cons at0 .nil) rfl (by simp)
     ·
      replace h := brT h
      refine jc_t rfl ?_
      refine jc_skip ?_
      refine jx_then ?_
      refine jc_seq ?_
      refine jc_block ?_
      refine jc_seq ?_
      refine jc_reg ?_
      refine sqv rfl (yv_move rfl rfl) ?_
      obtain ⟨g79, h⟩ := gdE h
      obtain ⟨x80, hx80, h⟩ := letX h
      refine sqv rfl (yxi hx80 (yv_index (g := false) (ys := (tyI .i64).enc (vat y16 j64)) Tryz.underlying33 ti3 rfl rfl rfl g79 (arr_sub (tyI .i64) _ _ g79) (Ty.len _ _) (fun _ => rfl))) ?_
      refine sqv rfl (yv_assign rfl rfl) ?_
      refine sqv rfl (yv_assign rfl rfl) ?_
      refine jl_nil ?_
      refine jx_then ?_
      refine jc_seq_n ?_
      intro N0 hN0
      have hj0 : ∀ (j88 : Bool), F205_j0 j64 x1 (F205_l0 y16 p1 x1 k0) j88 = some r → NJ 47 w0 O0 [] N0 [(0, .pointer v0), (1, .int .i64 p1), (4, .pointer (none : Option Addr)), (5, .int .i64 j64), (23, ag ((Ty.arr 3 (tyI .i64)).enc y16)), (24, .int .i64 j64), (38, .bool j88)] [] [fa false (mPt tyVpartyParty mSpartyParty) v0 p0] := by
       intro j88 h
       unfold F205_j0 at h
       refine nj_abs hN0 ?_
       rcases j88 with _ | _
       ·
        replace h := brF h
        refine jc_f rfl ?_
        refine jc_skip ?_
        refine jx_blk ?_
        refine jx_then ?_
        refine jc_reg ?_
        obtain ⟨x7_89, hx7_89, h⟩ := letX h
        refine sqv rfl (yxi hx7_89 (yv_add rfl rfl rfl)) ?_
        refine sqv rfl (yv_move rfl rfl) ?_
        refine jl_nil ?_
        refine jx_again ?_
        exact nj_weak (ih0 x7_89 h) ⟨rfl, rfl, rfl, rfl, rfl, trivial⟩ .nil (.cons at0 .nil)
       ·
        replace h := brT h
        refine jc_t rfl ?_
        refine jc_seq ?_
        refine jc_reg ?_
        refine sqv rfl (yv_move rfl rfl) ?_
        refine sqv rfl (yv_move rfl rfl) ?_
        refine nj_xptX at0 hm_x1 fun b1_89 u2_89_ hv_b1_89 => ?_
        refine nj_xSpartyParty at1 fun u2_89_2 hu2_89 => ?_
        subst hu2_89
        refine sqv rfl (yv_nilp rfl rfl hv_b1_89) ?_
        refine sqv rfl (yv_fa fa143_5 rfl rfl) ?_
        obtain ⟨g3_89, h⟩ := gdE h
        refine sqv rfl (yv_ia ia141 rfl rfl rfl g3_89) ?_
        obtain ⟨x4_89, hx4_89, h⟩ := letX h
        refine sqv rfl (yxg (C := (Ty.arr 32 (tyI .u8))) hx4_89 (yv_ldb ti25 rfl rfl (rd_f at1) (((Sub.refl _).trans (VpartyParty.s5 (⟨x1.v, x1.leaf, u2_89_2, x1.own, x1.has', x1.nodes, x1.epoch, x1.init'⟩ : VpartyParty))).trans (arr_sub (Ty.arr 32 (tyI .u8)) x1.nodes j64 g3_89)) (Ty.len _ _) (by simp))) ?_
        obtain ⟨y5_89, hy5_89, h⟩ := bdE h
        refine sq rfl (so_callx pf129 rfl rfl rfl rfl (fun σ hs => F129_c hy5_89 σ.w σ.O hs.olt) (fun _ => .nil) (fun _ => (.cons .nil)) (fun r6_89 => ?_))
        refine sqv rfl (yv_assign rfl rfl) ?_
        refine jl_nil ?_
        refine jx_then ?_
        refine jc_ret ?_
        refine jx_br ?_
        refine jx_tr ?_
        refine jx_tr ?_
        refine jx_abs hQ0 ?_
        refine jx_br ?_
        refine jx_tr ?_
        cases h
        exact jx_ret rfl (rr_tmp rfl rr_nil) ⟨(r6_89), rfl, rfl, rfl, rfl⟩ .nil (.cons at0 .nil) rfl (by simp)
      refine jc_reg ?_
      refine sqv rfl (yv_move rfl rfl) ?_
      refine sqv rfl (yv_move rfl rfl) ?_
      obtain ⟨x81, hx81, h⟩ := letX h
      refine sqv rfl (yxb hx81 (yv_eql rfl rfl rfl)) ?_
      refine sqv rfl (yv_move rfl rfl) ?_
      rcases x81 with _ | _
      ·
       replace h := brF h
       refine sq_skip rfl ?_
       refine sq_skip rfl ?_
       refine sq_skip rfl ?_
       refine sq_skip rfl ?_
       refine sq_skip rfl ?_
       refine sq_skip rfl ?_
       refine sqv rfl (yv_pick_f rfl rfl rfl) ?_
       refine jl_nil ?_
       refine jx_then_n ?_
       exact nj_weak (hj0 false h) ⟨rfl, rfl, rfl, rfl, rfl, rfl, rfl, trivial⟩ .nil (.cons at0 .nil)
      ·
       replace h := brT h
       refine sqv rfl (yv_move rfl rfl) ?_
       refine sqv rfl (yv_move rfl rfl) ?_
       refine nj_xptX at0 hm_x1 fun b82 u83_ hv_b82 => ?_
       refine nj_xSpartyParty at1 fun u83_2 hu83 => ?_
       subst hu83
       refine sqv rfl (yv_nilp rfl rfl hv_b82) ?_
       refine sqv rfl (yv_fa fa143_4 rfl rfl) ?_
       obtain ⟨g84, h⟩ := gdE h
       refine sqv rfl (yv_ia ia140 rfl rfl rfl g84) ?_
       obtain ⟨x85, hx85, h⟩ := letX h
       refine sqv rfl (yxb hx85 (yv_ldb ti4 rfl rfl (rd_f at1) (((Sub.refl _).trans (VpartyParty.s4 (⟨x1.v, x1.leaf, u83_2, x1.own, x1.has', x1.nodes, x1.epoch, x1.init'⟩ : VpartyParty))).trans (arr_sub tyB x1.has' j64 g84)) (Ty.len _ _) (fun _ => rfl))) ?_
       refine sqv rfl (yv_pick_t rfl rfl rfl) ?_
       refine jl_nil ?_
       refine jx_then_n ?_
       exact nj_weak (hj0 x85 h) ⟨rfl, rfl, rfl, rfl, rfl, rfl, rfl, trivial⟩ .nil (.cons at3 .nil)
   exact nj_weak (key0 FUEL 0 h) ⟨rfl, rfl, rfl, rfl, rfl, trivial⟩ .nil (.cons at3 .nil)
  ·
   replace h := brT h
   refine jc_t rfl ?_
   refine jc_seq ?_
   refine jc_reg ?_
   refine sqv rfl (yv_move rfl rfl) ?_
   refine sqv rfl (yv_nilp rfl rfl hv_b2) ?_
   refine sqv rfl (yv_fa fa143_3 rfl rfl) ?_
   obtain ⟨x12, hx12, h⟩ := letX h
   refine sqv rfl (yxg (C := (Ty.arr 32 (tyI .u8))) hx12 (yv_ldb ti25 rfl rfl (rd_f at1) ((Sub.refl _).trans (VpartyParty.s3 (⟨x1.v, x1.leaf, u3_2, x1.own, x1.has', x1.nodes, x1.epoch, x1.init'⟩ : VpartyParty))) (Ty.len _ _) (by simp))) ?_
   obtain ⟨y13, hy13, h⟩ := bdE h
   refine sq rfl (so_callx pf129 rfl rfl rfl rfl (fun σ hs => F129_c hy13 σ.w σ.O hs.olt) (fun _ => .nil) (fun _ => (.cons .nil)) (fun r14 => ?_))
   refine sqv rfl (yv_assign rfl rfl) ?_
   refine jl_nil ?_
   refine jx_then ?_
   refine jc_ret ?_
   refine jx_tr ?_
   cases h
   exact jx_ret rfl (rr_tmp rfl rr_nil) ⟨(r14), rfl, rfl, rfl, rfl⟩ .nil (.cons at0 .nil) rfl (by simp)
theorem F211_c {p0 : (List Int)} {r : Int} (h : F211 p0 = some r) (w0 : World) (O0 : Nat → Prop) (hO : ∀ k, O0 k → k < w0.heap.size) (v0 : Sl) (k0 : (fa false (mRow (tyI .u8)) v0 p0).p ⟨w0, O0, inL []⟩) :
  CallsP Tryz.prog 211 (List.toArray [sv v0]) w0 O0 [] (RV (.int .i64 r)) := by
 unfold F211 at h
 refine calls_start (e := [(0, sv v0)]) (L := []) (K := [fa false (mRow (tyI .u8)) v0 p0]) Tryz.func211 rfl rfl rfl ⟨rfl, trivial⟩ hO (by simp) .nil (alc k0 aln) ?_
 refine jc_seq ?_
 refine jc_reg ?_
 refine sqv rfl (yv_assign rfl rfl) ?_
 refine jl_nil ?_
 refine jx_then ?_
 refine jc_seq ?_
 refine jc_reg ?_
 refine sqv rfl (yv_assign rfl rfl) ?_
 refine jl_nil ?_
 refine jx_then ?_
 refine jc_seq ?_
 refine jc_seq ?_
 refine jc_reg ?_
 refine sqv rfl (yv_move rfl rfl) ?_
 obtain ⟨x1, hx1, h⟩ := letX h
 refine sqv rfl (yv_len isl97 rfl rfl (rd_f at0) hx1) ?_
 refine sqv rfl (yv_move rfl rfl) ?_
 refine jl_nil ?_
 refine jx_then ?_
 refine jc_block ?_
 refine jc_loop ?_
 intro B0 Q0 hB0 hQ0
 have key0 : ∀ (k0 : Nat) (j42 : Int) (j43 : Int), F211_l0 x1 p0 k0 j42 j43 = some r → JW 19 w0 O0 [] Tryz.prog B0 Q0 [(2, .int .i64 0), (3, .int .i64 j42), (6, sv v0), (7, .int .i64 x1), (8, .int .i64 j43)] [] [fa false (mRow (tyI .u8)) v0 p0] := by
  intro k0
  induction k0 with
  | zero => intro j42 j43 h; cases h
  | succ k0 ih0 =>
   intro j42 j43 h
   unfold F211_l0 at h
   refine jw_round hB0 ?_
   refine jc_seq ?_
   refine jc_reg ?_
   obtain ⟨x44, hx44, h⟩ := letX h
   refine sqv rfl (yxb hx44 (yv_lss rfl rfl rfl)) ?_
   refine jl_nil ?_
   refine jx_then ?_
   refine jc_seq ?_
   rcases x44 with _ | _
   ·
    replace h := brF h
    refine jc_f rfl ?_
    refine jc_exit ?_
    refine jx_te ?_
    refine jx_te ?_
    refine jx_abs hQ0 ?_
    refine jx_hit ?_
    refine jx_then ?_
    refine jc_seq ?_
    refine jc_reg ?_
    refine sqv rfl (yv_move rfl rfl) ?_
    refine sqv rfl (yv_assign rfl rfl) ?_
    refine jl_nil ?_
    refine jx_then ?_
    refine jc_ret ?_
    cases h
    exact jx_ret rfl (rr_tmp rfl rr_nil) ⟨rfl, rfl, rfl, rfl⟩ .nil .nil rfl (by simp)
   ·
    replace h := brT h
    refine jc_t rfl ?_
    refine jc_skip ?_
    refine jx_then ?_
    refine jc_seq ?_
    refine jc_block ?_
    refine jc_seq ?_
    refine jc_reg ?_
    obtain ⟨g55, h⟩ := gdE h
    refine nj_open (rd_f at0) g55 fun b56 o57 ha_b56 => ?_
    refine sqv rfl (yv_is is97 rfl rfl rfl ha_b56 (rd_f at0) g55) ?_
    obtain ⟨x58, hx58, h⟩ := letX h
    refine sqv rfl (yxi hx58 (yv_lds ti5 rfl rfl ha_b56 (rd_f at0) (many_sub' (tyI .u8) p0 j43 g55) rfl (Ty.len _ _) (fun _ => rfl))) ?_
    refine sqv rfl (yv_assign rfl rfl) ?_
    refine jl_nil ?_
    refine jx_then ?_
    refine jc_reg ?_
    refine sqv rfl (yv_move rfl rfl) ?_
    obtain ⟨x59, hx59, h⟩ := letX h
    refine sqv rfl (yxi hx59 (yv_shl rfl rfl rfl (by decide))) ?_
    refine sqv rfl (yv_move rfl rfl) ?_
    obtain ⟨x60, hx60, h⟩ := letX h
    refine sqv rfl (yxi hx60 (yv_con rfl (by rw [Tryz.underlying5]; rfl) Tryz.underlying3 rfl)) ?_
    obtain ⟨x61, hx61, h⟩ := letX h
    refine sqv rfl (yxi hx61 (yv_or rfl rfl rfl)) ?_
    refine sqv rfl (yv_assign rfl rfl) ?_
    refine jl_nil ?_
    refine jx_blk ?_
    refine jx_then ?_
    refine jc_reg ?_
    obtain ⟨x62, hx62, h⟩ := letX h
    refine sqv rfl (yxi hx62 (yv_add rfl rfl rfl)) ?_
    refine sqv rfl (yv_move rfl rfl) ?_
    refine jl_nil ?_
    refine jx_again ?_
    exact nj_weak (ih0 x61 x62 h) ⟨rfl, rfl, rfl, rfl, rfl, trivial⟩ .nil (.cons at0 .nil)
 exact nj_weak (key0 FUEL 0 0 h) ⟨rfl, rfl, rfl, rfl, rfl, trivial⟩ .nil (.cons at0 .nil)
theorem F212_c {p0 : (List Int)} {p1 : (List Int)} {r : Bool} (h : F212 p0 p1 = some r) (w0 : World) (O0 : Nat → Prop) (hO : ∀ k, O0 k → k < w0.heap.size) (v0 : Sl) (v1 : Sl) (k0 : (fa false (mRow (tyI .u8)) v0 p0).p ⟨w0, O0, inL []⟩) (k1 : (fa false (mRow (tyI .u8)) v1 p1).p ⟨w0, O0, inL []⟩) :
  CallsP Tryz.prog 212 (List.toArray [sv v0, sv v1]) w0 O0 [] (RV (.bool r)) := by
 unfold F212 at h
 refine calls_start (e := [(0, sv v0), (1, sv v1)]) (L := []) (K := [fa false (mRow (tyI .u8)) v0 p0, fa false (mRow (tyI .u8)) v1 p1]) Tryz.func212 rfl rfl rfl ⟨rfl, rfl, trivial⟩ hO (by simp) .nil (alc k0 (alc k1 aln)) ?_
 refine jc_seq ?_
 refine jc_reg ?_
 refine sqv rfl (yv_assign rfl rfl) ?_
 refine jl_nil ?_
 refine jx_then ?_
 refine jc_seq ?_
 refine jc_seq ?_
 refine jc_reg ?_
 refine sqv rfl (yv_move rfl rfl) ?_
 obtain ⟨x1, hx1, h⟩ := letX h
 refine sqv rfl (yv_len isl97 rfl rfl (rd_f at0) hx1) ?_
 refine sqv rfl (yv_move rfl rfl) ?_
 obtain ⟨x2, hx2, h⟩ := letX h
 refine sqv rfl (yv_len isl97 rfl rfl (rd_f at1) hx2) ?_
 obtain ⟨x3, hx3, h⟩ := letX h
 refine sqv rfl (yxb hx3 (yv_neq rfl rfl rfl)) ?_
 refine jl_nil ?_
 refine jx_then ?_
 rcases x3 with _ | _
 ·
  replace h := brF h
  refine jc_f rfl ?_
  refine jc_skip ?_
  refine jx_then ?_
  refine jc_seq ?_
  refine jc_seq ?_
  refine jc_reg ?_
  refine sqv rfl (yv_move rfl rfl) ?_
  obtain ⟨x6, hx6, h⟩ := letX h
  refine sqv rfl (yv_len isl97 rfl rfl (rd_f at0) hx6) ?_
  refine sqv rfl (yv_move rfl rfl) ?_
  refine jl_nil ?_
  refine jx_then ?_
  refine jc_block ?_
  refine jc_loop ?_
  intro B0 Q0 hB0 hQ0
  have key0 : ∀ (k0 : Nat) (j56 : Int), F212_l0 x6 p0 p1 k0 j56 = some r → JW 26 w0 O0 [] Tryz.prog B0 Q0 [(0, sv v0), (1, sv v1), (4, .bool false), (12, .int .i64 x6), (13, .int .i64 j56)] [] [fa false (mRow (tyI .u8)) v0 p0, fa false (mRow (tyI .u8)) v1 p1] := by
   intro k0
   induction k0 with
   | zero => intro j56 h; cases h
   | succ k0 ih0 =>
    intro j56 h
    unfold F212_l0 at h
    refine jw_round hB0 ?_
    refine jc_seq ?_
    refine jc_reg ?_
    obtain ⟨x57, hx57, h⟩ := letX h
    refine sqv rfl (yxb hx57 (yv_lss rfl rfl rfl)) ?_
    refine jl_nil ?_
    refine jx_then ?_
    refine jc_seq ?_
    rcases x57 with _ | _
    ·
     replace h := brF h
     refine jc_f rfl ?_
     refine jc_exit ?_
     refine jx_te ?_
     refine jx_te ?_
     refine jx_abs hQ0 ?_
     refine jx_hit ?_
     refine jx_then ?_
     refine jc_seq ?_
     refine jc_reg ?_
     refine sqv rfl (yv_assign rfl rfl) ?_
     refine jl_nil ?_
     refine jx_then ?_
     refine jc_ret ?_
     cases h
     exact jx_ret rfl (rr_tmp rfl rr_nil) ⟨rfl, rfl, rfl, rfl⟩ .nil .nil rfl (by simp)
    ·
     replace h := brT h
     refine jc_t rfl ?_
     refine jc_skip ?_
     refine jx_then ?_
     refine jc_seq ?_
     refine jc_block ?_
     refine jc_seq ?_
     refine jc_reg ?_
     refine sqv rfl (yv_move rfl rfl) ?_
     refine sqv rfl (yv_assign rfl rfl) ?_
     refine jl_nil ?_
     refine jx_then ?_
     refine jc_seq ?_
     refine jc_regd (k := 9) hmix rfl [] [fa false (mRow (tyI .u8)) v0 p0, fa false (mRow (tyI .u8)) v1 p1] .nil (.cons at0 (.cons at1 .nil)) ?_
     refine tk (i := 0) rfl (by kernel_rfl) rfl (yv_move rfl rfl) .nil .nil ?_
     refine tk (i := 1) rfl (by kernel_rfl) rfl (yv_move rfl rfl) .nil .nil ?_
     obtain ⟨g71, h⟩ := gdE h
     refine nj_open (rd_f at0) g71 fun b72 o73 ha_b72 => ?_
     refine tk (i := 2) rfl (by kernel_rfl) rfl (yv_is is97 rfl rfl rfl ha_b72 (rd_f at0) g71) .nil (.cons at0 .nil) ?_
     obtain ⟨x74, hx74, h⟩ := letX h
     refine tk (i := 3) rfl (by kernel_rfl) rfl (yxi hx74 (yv_lds ti5 rfl rfl ha_b72 (rd_f at0) (many_sub' (tyI .u8) p0 j56 g71) rfl (Ty.len _ _) (fun _ => rfl))) .nil (.cons at0 .nil) ?_
     refine tk (i := 4) rfl (by kernel_rfl) rfl (yv_move rfl rfl) .nil .nil ?_
     refine tk (i := 5) rfl (by kernel_rfl) rfl (yv_move rfl rfl) .nil .nil ?_
     obtain ⟨g75, h⟩ := gdE h
     refine nj_open (rd_f at1) g75 fun b76 o77 ha_b76 => ?_
     refine tk (i := 6) rfl (by kernel_rfl) rfl (yv_is is97 rfl rfl rfl ha_b76 (rd_f at0) g75) .nil (.cons at1 .nil) ?_
     obtain ⟨x78, hx78, h⟩ := letX h
     refine tk (i := 7) rfl (by kernel_rfl) rfl (yxi hx78 (yv_lds ti5 rfl rfl ha_b76 (rd_f at0) (many_sub' (tyI .u8) p1 j56 g75) rfl (Ty.len _ _) (fun _ => rfl))) .nil (.cons at1 .nil) ?_
     obtain ⟨x79, hx79, h⟩ := letX h
     refine tk (i := 8) rfl (by kernel_rfl) rfl (yxb hx79 (yv_neq rfl rfl rfl)) .nil .nil ?_
     refine jg_nil (by kernel_rfl) ?_
     refine jx_then ?_
     rcases x79 with _ | _
     ·
      replace h := brF h
      refine jc_f rfl ?_
      refine jc_skip ?_
      refine jx_blk ?_
      refine jx_then ?_
      refine jc_reg ?_
      obtain ⟨x80, hx80, h⟩ := letX h
      refine sqv rfl (yxi hx80 (yv_add rfl rfl rfl)) ?_
      refine sqv rfl (yv_move rfl rfl) ?_
      refine jl_nil ?_
      refine jx_again ?_
      exact nj_weak (ih0 x80 h) ⟨rfl, rfl, rfl, rfl, rfl, trivial⟩ .nil (.cons at0 (.cons at1 .nil))
     ·
      replace h := brT h
      refine jc_t rfl ?_
      refine jc_seq ?_
      refine jc_reg ?_
      refine sqv rfl (yv_assign rfl rfl) ?_
      refine jl_nil ?_
      refine jx_then ?_
      refine jc_ret ?_
      refine jx_br ?_
      refine jx_tr ?_
      refine jx_tr ?_
      refine jx_abs hQ0 ?_
      refine jx_br ?_
      refine jx_tr ?_
      cases h
      exact jx_ret rfl (rr_tmp rfl rr_nil) ⟨rfl, rfl, rfl, rfl⟩ .nil .nil rfl (by simp)
  exact nj_weak (key0 FUEL 0 h) ⟨rfl, rfl, rfl, rfl, rfl, trivial⟩ .nil (.cons at0 (.cons at1 .nil))
 ·
  replace h := brT h
  refine jc_t rfl ?_
  refine jc_seq ?_
  refine jc_reg ?_
  refine sqv rfl (yv_assign rfl rfl) ?_
  refine jl_nil ?_
  refine jx_then ?_
  refine jc_ret ?_
  refine jx_tr ?_
  cases h
  exact jx_ret rfl (rr_tmp rfl rr_nil) ⟨rfl, rfl, rfl, rfl⟩ .nil .nil rfl (by simp)
theorem F128_c {p0 : (Option Int)} {p1 : (List Int)} {r : (List Int) × Int} (h : F128 p0 p1 = some r) (w0 : World) (O0 : Nat → Prop) (hO : ∀ k, O0 k → k < w0.heap.size) (v0 : (Option Addr)) (v1 : Sl) (k0 : (fa true mKey v0 p0).p ⟨w0, O0, inL []⟩) (k1 : (fa true (mRow (tyI .u8)) v1 p1).p ⟨w0, O0, inL []⟩) :
  CallsP Tryz.prog 128 (List.toArray [.pointer v0, sv v1]) w0 O0 [] (RX (fun x : Sl => .tuple #[sv x, .int .i64 r.2]) (fun x => [.sli x 5 (tyI .u8).size (r.1).length ((tyI .u8).many r.1)]) (fun x => [])) := by
 unfold F128 at h
 refine calls_start (e := [(0, .pointer v0), (1, sv v1)]) (L := []) (K := [fa true mKey v0 p0, fa true (mRow (tyI .u8)) v1 p1]) Tryz.func128 rfl rfl rfl ⟨rfl, rfl, trivial⟩ hO (by simp) .nil (alc k0 (alc k1 aln)) ?_
 refine jc_seq ?_
 refine jc_reg ?_
 refine sqv rfl (yv_assign rfl rfl) ?_
 refine sqv rfl (yv_assign rfl rfl) ?_
 refine jl_nil ?_
 refine jx_then ?_
 refine jc_seq ?_
 refine jc_seq_n ?_
 intro N0 hN0
 have hj0 : ∀ (j7 : Bool), F128_j0 p1 p0 j7 = some r → NJ 44 w0 O0 [] N0 [(0, .pointer v0), (1, sv v1), (4, sv (⟨none, 0, 0⟩ : Sl)), (5, .int .i64 0), (17, .bool j7)] [] [fa true mKey v0 p0, fa true (mRow (tyI .u8)) v1 p1] := by
  intro j7 h
  unfold F128_j0 at h
  refine nj_abs hN0 ?_
  rcases j7 with _ | _
  ·
   replace h := brF h
   refine jc_f rfl ?_
   refine jc_skip ?_
   refine jx_then ?_
   refine jc_seq ?_
   refine jc_regd (k := 6) hmix rfl [] [fa true (mRow (tyI .u8)) v1 p1] .nil (.cons at1 .nil) ?_
   refine tk (i := 0) rfl (by kernel_rfl) rfl (yv_move rfl rfl) .nil .nil ?_
   obtain ⟨g3_8, h⟩ := gdE h
   refine tk (i := 1) rfl (by kernel_rfl) rfl (yv_slk is97 rfl rfl (rd_f at0) (.inl ⟨rfl, rfl⟩) (.inr ⟨_, _, rfl, rfl⟩) g3_8) .nil (.cons at0 .nil) ?_
   refine tk (i := 2) rfl (by kernel_rfl) rfl (yv_move rfl rfl) .nil .nil ?_
   obtain ⟨g4_8, h⟩ := gdE h
   refine tk (i := 3) rfl (by kernel_rfl) rfl (yv_slk is97 rfl rfl (rd_f at0) (.inr ⟨_, _, rfl, rfl⟩) (.inl ⟨rfl, rfl⟩) g4_8) .nil (.cons at0 .nil) ?_
   refine tk (i := 4) rfl (by kernel_rfl) rfl (yv_assign rfl rfl) .nil .nil ?_
   refine tk (i := 5) rfl (by kernel_rfl) rfl (yv_assign rfl rfl) .nil .nil ?_
   refine jg_nil (by kernel_rfl) ?_
   refine jx_then ?_
   refine jc_seq ?_
   refine jc_reg ?_
   refine sqv rfl (yv_move rfl rfl) ?_
   refine sqv rfl (yv_move rfl rfl) ?_
   obtain ⟨y5_8, hy5_8, h⟩ := bdE h
   refine sq rfl (so_callv pf211 rfl rfl rfl rfl (fun σ hs => F211_c hy5_8 σ.w σ.O hs.olt (slcut v1 (0 : Int) (4 : Int) 1) (cw0 (rq_cut (rd_f at1) g3_8) hs)) ?_)
   obtain ⟨y6_8, hy6_8, h⟩ := bdE h
   refine sq rfl (so_callv pf210 rfl rfl rfl rfl (fun σ hs => F210_c hy6_8 σ.w σ.O hs.olt v0 (cs0 (rs_f at0) hs)) ?_)
   refine sqv rfl (yv_move rfl rfl) ?_
   refine sqv rfl (yv_ext rfl rfl rfl) ?_
   refine sqv rfl (yv_ext rfl rfl rfl) ?_
   refine sq rfl (so_alloc ti25 (by decide) rfl rfl fun b7_8 => ?_)
   refine sq rfl (so_sta ti25 rfl rfl rfl rfl (Upd.refl (by simp [Ty.len])) (Ty.len _ _) (Ty.one _ _) (xs' := (Ty.arr 32 (tyI .u8)).enc y6_8.1) se0 ?_)
   refine sqv rfl (yv_assign rfl rfl) ?_
   refine jl_nil ?_
   refine jx_then ?_
   refine jc_seq ?_
   refine jc_seq_n ?_
   intro N1 hN1
   have hj1 : ∀ (j17_8 : Bool), F128_j1 y6_8 p1 j17_8 = some r → NJ 44 w0 O0 [] N1 [(4, sv (⟨none, 0, 0⟩ : Sl)), (5, .int .i64 0), (7, sv (slcut v1 (12 : Int) (p1.length : Int) 1)), (8, pt b7_8 0), (40, .bool j17_8)] [.blk b7_8 25 ((Ty.arr 32 (tyI .u8)).enc y6_8.1)] [fa true (mRow (tyI .u8)) (slcut v1 (12 : Int) (p1.length : Int) 1) (cut p1 (12 : Int) (p1.length : Int))] := by
    intro j17_8 h
    unfold F128_j1 at h
    refine nj_abs hN1 ?_
    rcases j17_8 with _ | _
    ·
     replace h := brF h
     refine jc_f rfl ?_
     refine jc_skip ?_
     refine jx_then ?_
     refine jc_seq ?_
     refine jc_reg ?_
     obtain ⟨x3_8_18, hx3_8_18, h⟩ := letX h
     refine sqv rfl (yxg (C := (Ty.arr 32 (tyI .u8))) hx3_8_18 (yv_ldb ti25 rfl rfl (rd_bl at0) (Sub.refl _) (Ty.len _ _) (by simp))) ?_
     refine sqv rfl (yv_move rfl rfl) ?_
     obtain ⟨y4_8_18, hy4_8_18, h⟩ := bdE h
     refine sq rfl (so_callx pf214 rfl rfl rfl rfl (fun σ hs => F214_c hy4_8_18 σ.w σ.O hs.olt (slcut v1 (12 : Int) (p1.length : Int) 1) (cw0 (rd_f at0) hs)) (fun _ => (.cons .nil)) (fun _ => .nil) (fun r5_8_18 => ?_))
     refine sqv rfl (yv_assign rfl rfl) ?_
     refine sqv rfl (yv_assign rfl rfl) ?_
     refine jl_nil ?_
     refine jx_then ?_
     refine jc_ret ?_
     cases h
     exact jx_ret rfl (rr_tmp rfl (rr_tmp rfl rr_nil)) ⟨(r5_8_18), rfl, rfl, rfl, rfl⟩ (.cons de0 .nil) .nil rfl (by simp)
    ·
     replace h := brT h
     refine jc_t rfl ?_
     refine jc_seq ?_
     refine jc_reg ?_
     refine sqv rfl (yv_assign rfl rfl) ?_
     refine sqv rfl (yv_assign rfl rfl) ?_
     refine jl_nil ?_
     refine jx_then ?_
     refine jc_ret ?_
     refine jx_tr ?_
     refine nj_nil 5 (tyI .u8) rfl ?_
     cases h
     exact jx_ret rfl (rr_tmp rfl (rr_tmp rfl rr_nil)) ⟨((⟨none, 0, 0⟩ : Sl)), rfl, rfl, rfl, rfl⟩ (.cons de0 .nil) .nil rfl (by simp)
   refine jc_regd (k := 12) hmix rfl [([], .blk b7_8 25 ((Ty.arr 32 (tyI .u8)).enc y6_8.1))] [fa true (mRow (tyI .u8)) v1 p1] (.cons at0 .nil) (.cons at1 .nil) ?_
   refine tk (i := 0) rfl (by kernel_rfl) rfl (yv_move rfl rfl) .nil .nil ?_
   obtain ⟨x8_8, hx8_8, h⟩ := letX h
   refine tk (i := 1) rfl (by kernel_rfl) rfl (yxb hx8_8 (yv_not rfl rfl)) .nil .nil ?_
   refine tk (i := 2) rfl (by kernel_rfl) rfl (yv_move rfl rfl) .nil .nil ?_
   rcases x8_8 with _ | _
   ·
    replace h := brF h
    obtain ⟨x10_8, hx10_8, h⟩ := letX h
    refine tk (i := 3) rfl (by kernel_rfl) rfl (yxg (C := (Ty.arr 32 (tyI .u8))) hx10_8 (yv_ldb ti25 rfl rfl (rd_bl at0) (Sub.refl _) (Ty.len _ _) (by simp))) (.cons at0 (by kernel_rfl) .nil) .nil ?_
    refine tk (i := 4) rfl (by kernel_rfl) rfl (yv_move rfl rfl) .nil .nil ?_
    refine tk (i := 5) rfl (by kernel_rfl) rfl (yv_move rfl rfl) .nil .nil ?_
    refine tk (i := 7) rfl (by kernel_rfl) rfl (yv_move rfl rfl) .nil .nil ?_
    obtain ⟨g11_8, h⟩ := gdE h
    refine tk (i := 8) rfl (by kernel_rfl) rfl (yv_slk is97 rfl rfl (rd_f at0) (.inr ⟨_, _, rfl, rfl⟩) (.inr ⟨_, _, rfl, rfl⟩) g11_8) .nil (.cons at0 .nil) ?_
    obtain ⟨y12_8, hy12_8, h⟩ := bdE h
    refine jg_one (i := 6) (by kernel_rfl) (gst rfl rfl (so_callx pf213 rfl rfl rfl rfl (fun σ hs => F213_c hy12_8 σ.w σ.O hs.olt (slcut v1 (0 : Int) (4 : Int) 1) (slcut v1 (12 : Int) (p1.length : Int) 1) (cw0 (rq_cut (rd_f at1) g3_8) hs) (cw0 (rq_cut (rd_f at1) g4_8) hs)) (fun _ => .nil) (fun _ => (.cons .nil)) (fun r13_8 => ?_)))
    refine ng (.cons at0 .nil) (.cons at2 .nil) ?_
    obtain ⟨y14_8, hy14_8, h⟩ := bdE h
    refine jg_one (i := 9) (by kernel_rfl) (gst rfl rfl (so_callv pf212 rfl rfl rfl rfl (fun σ hs => F212_c hy14_8 σ.w σ.O hs.olt r13_8 (slcut v1 (4 : Int) (12 : Int) 1) (cw0 (rd_f at0) hs) (cw0 (rq_cut (rd_f at2) g11_8) hs)) ?_))
    refine ng (.cons at0 .nil) (.cons at2 .nil) ?_
    obtain ⟨x15_8, hx15_8, h⟩ := letX h
    refine tk (i := 10) rfl (by kernel_rfl) rfl (yxb hx15_8 (yv_not rfl rfl)) .nil .nil ?_
    refine tk (i := 11) rfl (by kernel_rfl) rfl (yv_pick_f rfl rfl rfl) .nil .nil ?_
    refine jg_nil (by kernel_rfl) ?_
    refine jx_then_n ?_
    refine nj_s (m := (mRow (tyI .u8))) (v := (slcut v1 (12 : Int) (p1.length : Int) 1)) (p := (cut p1 (12 : Int) (p1.length : Int))) (rq_cut (rs_f at2) g4_8) ?_
    exact nj_weak (hj1 x15_8 h) ⟨rfl, rfl, rfl, rfl, rfl, trivial⟩ (.cons de0 .nil) (.cons at0 .nil)
   ·
    replace h := brT h
    refine tk_skip (i := 3) rfl (by kernel_rfl) rfl ?_
    refine tk_skip (i := 4) rfl (by kernel_rfl) rfl ?_
    refine tk_skip (i := 5) rfl (by kernel_rfl) rfl ?_
    refine tk_skip (i := 6) rfl (by kernel_rfl) rfl ?_
    refine tk_skip (i := 7) rfl (by kernel_rfl) rfl ?_
    refine tk_skip (i := 8) rfl (by kernel_rfl) rfl ?_
    refine tk_skip (i := 9) rfl (by kernel_rfl) rfl ?_
    refine tk_skip (i := 10) rfl (by kernel_rfl) rfl ?_
    refine tk (i := 11) rfl (by kernel_rfl) rfl (yv_pick_t rfl rfl rfl) .nil .nil ?_
    refine jg_nil (by kernel_rfl) ?_
    refine jx_then_n ?_
    refine nj_s (m := (mRow (tyI .u8))) (v := (slcut v1 (12 : Int) (p1.length : Int) 1)) (p := (cut p1 (12 : Int) (p1.length : Int))) (rq_cut (rs_f at1) g4_8) ?_
    exact nj_weak (hj1 true h) ⟨rfl, rfl, rfl, rfl, rfl, trivial⟩ (.cons de0 .nil) (.cons at0 .nil)
  ·
   replace h := brT h
   refine jc_t rfl ?_
   refine jc_seq ?_
   refine jc_reg ?_
   refine sqv rfl (yv_assign rfl rfl) ?_
   refine sqv rfl (yv_assign rfl rfl) ?_
   refine jl_nil ?_
   refine jx_then ?_
   refine jc_ret ?_
   refine jx_tr ?_
   refine nj_nil 5 (tyI .u8) rfl ?_
   cases h
   exact jx_ret rfl (rr_tmp rfl (rr_tmp rfl rr_nil)) ⟨((⟨none, 0, 0⟩ : Sl)), rfl, rfl, rfl, rfl⟩ (.cons de0 .nil) .nil rfl (by simp)
 refine jc_reg ?_
 refine sqv rfl (yv_move rfl rfl) ?_
 obtain ⟨x1, hx1, h⟩ := letX h
 refine sqv rfl (yv_len isl97 rfl rfl (rd_f at1) hx1) ?_
 obtain ⟨x2, hx2, h⟩ := letX h
 refine sqv rfl (yxb hx2 (yv_lss rfl rfl rfl)) ?_
 refine sqv rfl (yv_move rfl rfl) ?_
 rcases x2 with _ | _
 ·
  replace h := brF h
  refine sqv rfl (yv_move rfl rfl) ?_
  obtain ⟨x4, hx4, h⟩ := letX h
  refine sqv rfl (yv_len isl97 rfl rfl (rd_f at1) hx4) ?_
  obtain ⟨x5, hx5, h⟩ := letX h
  refine sqv rfl (yxb hx5 (yv_gtr rfl rfl rfl)) ?_
  refine sqv rfl (yv_pick_f rfl rfl rfl) ?_
  refine jl_nil ?_
  refine jx_then_n ?_
  exact nj_weak (hj0 x5 h) ⟨rfl, rfl, rfl, rfl, rfl, trivial⟩ .nil (.cons at0 (.cons at1 .nil))
 ·
  replace h := brT h
  refine sq_skip rfl ?_
  refine sq_skip rfl ?_
  refine sq_skip rfl ?_
  refine sqv rfl (yv_pick_t rfl rfl rfl) ?_
  refine jl_nil ?_
  refine jx_then_n ?_
  exact nj_weak (hj0 true h) ⟨rfl, rfl, rfl, rfl, rfl, trivial⟩ .nil (.cons at0 (.cons at1 .nil))
theorem F119_c {p0 : (Option SpartyParty)} {p1 : SCommit} {p2 : (List (Vector Int 2))} {r : (Vector Int 32) × Int × Int} (h : F119 p0 p1 p2 = some r) (w0 : World) (O0 : Nat → Prop) (hO : ∀ k, O0 k → k < w0.heap.size) (v0 : (Option Addr)) (v1_2 : Sl) (v1_3 : Sl) (v1_6 : Sl) (v2 : Sl) (k0 : (fa false (mPt tyVpartyParty mSpartyParty) v0 p0).p ⟨w0, O0, inL []⟩) (k1 : (fa false (mRow tySOp) v1_2 p1.Ops).p ⟨w0, O0, inL []⟩) (k2 : (fa false (mRow tySVote) v1_3 p1.Votes).p ⟨w0, O0, inL []⟩) (k3 : (fa true (mSl tySl (mRow (tyI .u8))) v1_6 p1.Boxes).p ⟨w0, O0, inL []⟩) (k4 : (fa false (mRow (Ty.arr 2 (tyI .i64))) v2 p2).p ⟨w0, O0, inL []⟩) :
  CallsP Tryz.prog 119 (List.toArray [.pointer v0, ag (tyVCommit.enc (⟨p1.Epoch, p1.From, v1_2, v1_3, p1.Seal, p1.Path, v1_6, p1.Tag, p1.Sig⟩ : VCommit)), sv v2]) w0 O0 [] (RV (.tuple #[ag ((Ty.arr 32 (tyI .u8)).enc r.1), .int .i64 r.2.1, .int .i64 r.2.2])) := by
 unfold F119 at h
 refine calls_start (e := [(0, .pointer v0), (1, ag (tyVCommit.enc (⟨p1.Epoch, p1.From, v1_2, v1_3, p1.Seal, p1.Path, v1_6, p1.Tag, p1.Sig⟩ : VCommit))), (2, sv v2)]) (L := []) (K := [fa false (mPt tyVpartyParty mSpartyParty) v0 p0, fa false (mRow tySOp) v1_2 p1.Ops, fa false (mRow tySVote) v1_3 p1.Votes, fa true (mSl tySl (mRow (tyI .u8))) v1_6 p1.Boxes, fa false (mRow (Ty.arr 2 (tyI .i64))) v2 p2]) Tryz.func119 rfl rfl rfl ⟨rfl, rfl, rfl, trivial⟩ hO (by simp) .nil (alc k0 (alc k1 (alc k2 (alc k3 (alc k4 aln))))) ?_
 refine jc_seq ?_
 refine jc_reg ?_
 refine sq rfl (so_boxa (by decide) rfl rfl rfl fun b1 => ?_)
 refine sq rfl (so_alloc ti25 (by decide) rfl rfl fun b2 => ?_)
 refine sqv rfl (yv_assign rfl rfl) ?_
 refine sqv rfl (yv_assign rfl rfl) ?_
 refine jl_nil ?_
 refine jx_then ?_
 refine jc_seq ?_
 refine jc_reg ?_
 refine sq rfl (so_alloc ti25 (by decide) rfl rfl fun b3 => ?_)
 refine jl_nil ?_
 refine jx_then ?_
 refine jc_seq ?_
 refine jc_seq ?_
 refine jc_reg ?_
 refine sqv rfl (yv_move rfl rfl) ?_
 obtain ⟨x4, hx4, h⟩ := letX h
 refine sqv rfl (yv_len isl168 rfl rfl (rd_f at4) hx4) ?_
 refine sqv rfl (yv_move rfl rfl) ?_
 refine jl_nil ?_
 refine jx_then ?_
 refine jc_block ?_
 refine jc_loop ?_
 intro B0 Q0 hB0 hQ0
 have key0 : ∀ (k0 : Nat) (j472 : Int), F119_l0 x4 p2 p0 p1 k0 j472 = some r → JW 59 w0 O0 [] Tryz.prog B0 Q0 [(0, .pointer v0), (4, pt b1 0), (6, pt b2 0), (7, .int .i64 0), (8, .int .i64 0), (9, pt b3 0), (14, sv v2), (15, .int .i64 x4), (16, .int .i64 j472)] [.blk b3 25 ((Ty.arr 32 (tyI .u8)).enc (Vector.replicate 32 (0 : Int))), .blk b2 25 ((Ty.arr 32 (tyI .u8)).enc (Vector.replicate 32 (0 : Int))), .blk b1 38 (tyVCommit.enc (⟨p1.Epoch, p1.From, v1_2, v1_3, p1.Seal, p1.Path, v1_6, p1.Tag, p1.Sig⟩ : VCommit))] [fa false (mPt tyVpartyParty mSpartyParty) v0 p0, fa false (mRow (Ty.arr 2 (tyI .i64))) v2 p2, fa false (mRow tySOp) v1_2 p1.Ops, fa false (mRow tySVote) v1_3 p1.Votes, fa true (mSl tySl (mRow (tyI .u8))) v1_6 p1.Boxes] := by
  intro k0
  induction k0 with
  | zero => intro j472 h; cases h
  | succ k0 ih0 =>
   intro j472 h
   unfold F119_l0 at h
   refine jw_round hB0 ?_
   refine jc_seq ?_
   refine jc_reg ?_
   obtain ⟨x473, hx473, h⟩ := letX h
   refine sqv rfl (yxb hx473 (yv_lss rfl rfl rfl)) ?_
   refine jl_nil ?_
   refine jx_then ?_
   refine jc_seq ?_
   rcases x473 with _ | _
   ·
    replace h := brF h
    refine jc_f rfl ?_
    refine jc_exit ?_
    refine jx_te ?_
    refine jx_te ?_
    refine jx_abs hQ0 ?_
    refine jx_hit ?_
    refine jx_then ?_
    refine jc_seq ?_
    refine jc_reg ?_
    obtain ⟨x565, hx565, h⟩ := letX h
    refine sqv rfl (yxg (C := (Ty.arr 32 (tyI .u8))) hx565 (yv_ldb ti25 rfl rfl (rd_bl at0) (Sub.refl _) (Ty.len _ _) (by simp))) ?_
    refine sq rfl (so_sta ti25 rfl rfl rfl rfl (Upd.refl (by simp [Ty.len])) (Ty.len _ _) (Ty.one _ _) (xs' := (Ty.arr 32 (tyI .u8)).enc x565) se1 ?_)
    refine sqv rfl (yv_assign rfl rfl) ?_
    refine sqv rfl (yv_assign rfl rfl) ?_
    refine jl_nil ?_
    refine jx_then ?_
    refine jc_ret ?_
    cases h
    exact jx_ret rfl (rr_cella ti25 rfl at1 (Ty.len _ _) (rr_tmp rfl (rr_tmp rfl rr_nil))) ⟨rfl, rfl, rfl, rfl⟩ .nil .nil rfl (by simp)
   ·
    replace h := brT h
    refine jc_t rfl ?_
    refine jc_skip ?_
    refine jx_then ?_
    refine jc_seq ?_
    refine jc_block ?_
    refine jc_seq ?_
    refine jc_reg ?_
    refine sqv rfl (yv_move rfl rfl) ?_
    obtain ⟨g522, h⟩ := gdE h
    refine nj_open (rd_f at1) g522 fun b523 o524 ha_b523 => ?_
    refine sqv rfl (yv_is is168 rfl rfl rfl ha_b523 (rd_f at1) g522) ?_
    obtain ⟨x525, hx525, h⟩ := letX h
    refine sqv rfl (yxg (C := (Ty.arr 2 (tyI .i64))) hx525 (yv_lds ti173 rfl rfl ha_b523 (rd_f at1) (many_sub' (Ty.arr 2 (tyI .i64)) p2 j472 g522) rfl (Ty.len _ _) (by simp))) ?_
    refine sq rfl (so_alloc ti173 (by decide) rfl rfl fun b526 => ?_)
    refine sqv rfl (yv_assign rfl rfl) ?_
    refine sq rfl (so_sta ti173 rfl rfl rfl rfl (Upd.refl (by simp [Ty.len])) (Ty.len _ _) (Ty.one _ _) (xs' := (Ty.arr 2 (tyI .i64)).enc x525) se0 ?_)
    refine jl_nil ?_
    refine jx_then ?_
    refine jc_seq ?_
    refine jc_seq ?_
    refine jc_regd (k := 8) hmix rfl [([], .blk b526 173 ((Ty.arr 2 (tyI .i64)).enc x525))] [] (.cons at0 .nil) .nil ?_
    refine tk (i := 0) rfl (by kernel_rfl) rfl (yv_ia ia173 rfl rfl rfl (by decide)) .nil .nil ?_
    obtain ⟨x527, hx527, h⟩ := letX h
    refine tk (i := 1) rfl (by kernel_rfl) rfl (yxi hx527 (yv_ldb ti3 rfl rfl (rd_bl at0) ((Sub.refl _).trans (arr_sub (tyI .i64) x525 (1 : Int) (by decide))) (Ty.len _ _) (fun _ => rfl))) (.cons at0 (by kernel_rfl) .nil) .nil ?_
    refine tk (i := 2) rfl (by kernel_rfl) rfl (yv_move rfl rfl) .nil .nil ?_
    rcases moE h with ⟨hm_x528, h⟩ | ⟨x528, hm_x528, h⟩
    ·
     skip
     obtain ⟨hno, h⟩ := gdE h
     exact hno.elim
    ·
     skip
     refine nj_xptX at0 hm_x528 fun b529 u530_ hv_b529 => ?_
     refine nj_xSpartyParty at1 fun u530_2 hu530 => ?_
     subst hu530
     refine tk (i := 3) rfl (by kernel_rfl) rfl (yv_nilp rfl rfl hv_b529) .nil .nil ?_
     refine tk (i := 4) rfl (by kernel_rfl) rfl (yv_fa fa143_1 rfl rfl) .nil .nil ?_
     obtain ⟨x531, hx531, h⟩ := letX h
     refine jg_reb (Ls' := [([], .blk b526 173 ((Ty.arr 2 (tyI .i64)).enc x525))]) (Ks' := [fa false mBl b529 (tyVpartyParty.enc (⟨x528.v, x528.leaf, u530_2, x528.own, x528.has', x528.nodes, x528.epoch, x528.init'⟩ : VpartyParty))]) (.cons at0 .nil) (.cons at1 .nil) (.cons at0 .nil) .nil ?_
     refine tk (i := 5) rfl (by kernel_rfl) rfl (yxi hx531 (yv_ldb ti3 rfl rfl (rd_f at0) ((Sub.refl _).trans (VpartyParty.s1 (⟨x528.v, x528.leaf, u530_2, x528.own, x528.has', x528.nodes, x528.epoch, x528.init'⟩ : VpartyParty))) (Ty.len _ _) (fun _ => rfl))) .nil (.cons at0 .nil) ?_
     obtain ⟨y532, hy532, h⟩ := bdE h
     refine jg_one (i := 6) (by kernel_rfl) (gst rfl rfl (so_callv pf204 rfl rfl rfl rfl (fun σ hs => F204_c hy532 σ.w σ.O hs.olt) ?_))
     refine ng (.cons at0 .nil) (.cons at1 .nil) ?_
     obtain ⟨x533, hx533, h⟩ := letX h
     refine tk (i := 7) rfl (by kernel_rfl) rfl (yxb hx533 (yv_not rfl rfl)) .nil .nil ?_
     refine jg_nil (by kernel_rfl) ?_
     refine jx_then ?_
     rcases x533 with _ | _
     ·
      replace h := brF h
      refine jc_f rfl ?_
      refine jc_skip ?_
      refine jx_then ?_
      refine jc_seq ?_
      refine jc_regd (k := 15) hmix rfl [([], .blk b526 173 ((Ty.arr 2 (tyI .i64)).enc x525)), ([], .blk b1 38 (tyVCommit.enc (⟨p1.Epoch, p1.From, v1_2, v1_3, p1.Seal, p1.Path, v1_6, p1.Tag, p1.Sig⟩ : VCommit)))] [] (.cons at0 (.cons at3 .nil)) .nil ?_
      refine tk (i := 0) rfl (by kernel_rfl) rfl (yv_move rfl rfl) .nil .nil ?_
      refine tk (i := 1) rfl (by kernel_rfl) rfl (yv_ia ia173 rfl rfl rfl (by decide)) .nil .nil ?_
      obtain ⟨x537, hx537, h⟩ := letX h
      refine tk (i := 2) rfl (by kernel_rfl) rfl (yxi hx537 (yv_ldb ti3 rfl rfl (rd_bl at0) ((Sub.refl _).trans (arr_sub (tyI .i64) x525 (1 : Int) (by decide))) (Ty.len _ _) (fun _ => rfl))) (.cons at0 (by kernel_rfl) .nil) .nil ?_
      refine tk (i := 4) rfl (by kernel_rfl) rfl (yv_fa fa38_6 rfl rfl) .nil .nil ?_
      refine tk (i := 5) rfl (by kernel_rfl) rfl (yv_ldb ti34 rfl rfl (rd_bl at0) ((Sub.refl _).trans (VCommit.s6 (⟨p1.Epoch, p1.From, v1_2, v1_3, p1.Seal, p1.Path, v1_6, p1.Tag, p1.Sig⟩ : VCommit))) (Ty.len _ _) (fun _ => rfl)) (.cons at1 (by kernel_rfl) .nil) .nil ?_
      refine tk (i := 6) rfl (by kernel_rfl) rfl (yv_move rfl rfl) .nil .nil ?_
      obtain ⟨g538, h⟩ := gdE h
      refine nj_xsl at7 fun w539 => ?_
      refine nj_all (rd_f at1) fun hl_g541 => ?_
      have g541 : 0 ≤ j472 ∧ j472 < (w539.length : Int) := by rw [hl_g541]; exact g538
      refine nj_open (rd_f at0) g541 fun b540 o542 ha_b540 => ?_
      refine jg_reb (Ls' := [([], .blk b526 173 ((Ty.arr 2 (tyI .i64)).enc x525)), ([], .blk b1 38 (tyVCommit.enc (⟨p1.Epoch, p1.From, v1_2, v1_3, p1.Seal, p1.Path, v1_6, p1.Tag, p1.Sig⟩ : VCommit)))]) (Ks' := [fa true (mRow tySl) v1_6 w539]) (.cons at0 (.cons at3 .nil)) (.cons at0 .nil) (.cons at0 (.cons at1 .nil)) .nil ?_
      refine tk (i := 7) rfl (by kernel_rfl) rfl (yv_is is34 rfl rfl rfl ha_b540 (rd_f at0) g541) .nil (.cons at0 .nil) ?_
      obtain ⟨y543, hy543, h⟩ := letX h
      refine nj_elt (rs_f at1) g538 hy543 fun u544 hx_u544 => ?_
      refine tk (i := 8) rfl (by kernel_rfl) rfl (yv_lds ti97 rfl rfl ha_b540 (rd_f at0) (many_subx hx_u544 tySl g541) rfl (Ty.len _ _) (fun _ => rfl)) .nil (.cons at0 .nil) ?_
      obtain ⟨y545, hy545, h⟩ := bdE h
      refine jg_one (i := 3) (by kernel_rfl) (gst rfl rfl (so_callx pf205 rfl rfl rfl rfl (fun σ hs => F205_c hy545 σ.w σ.O hs.olt v0 (cw0 (rd_f at6) hs)) (fun _ => .nil) (fun _ => (.cons .nil)) (fun r546 => ?_)))
      refine ng (.cons at0 (.cons at3 .nil)) (.cons at2 .nil) ?_
      obtain ⟨y547, hy547, h⟩ := bdE h
      refine jg_one (i := 9) (by kernel_rfl) (gst rfl rfl (so_callx pf128 rfl rfl rfl rfl (fun σ hs => F128_c hy547 σ.w σ.O hs.olt r546 u544 (cs0 (rs_f at0) hs) (cs0 (rs_f at1) hs)) (fun _ => (.cons .nil)) (fun _ => .nil) (fun r548 => ?_)))
      refine ng (.cons at1 (.cons at4 .nil)) (.cons at2 .nil) ?_
      refine tk (i := 10) rfl (by kernel_rfl) rfl (yv_move rfl rfl) .nil .nil ?_
      refine tk (i := 11) rfl (by kernel_rfl) rfl (yv_ext rfl rfl rfl) .nil .nil ?_
      refine tk (i := 12) rfl (by kernel_rfl) rfl (yv_ext rfl rfl rfl) .nil .nil ?_
      refine tk (i := 13) rfl (by kernel_rfl) rfl (yv_assign rfl rfl) .nil .nil ?_
      refine tk (i := 14) rfl (by kernel_rfl) rfl (yv_assign rfl rfl) .nil .nil ?_
      refine jg_nil (by kernel_rfl) ?_
      refine jx_then ?_
      refine jc_seq ?_
      refine jc_block ?_
      refine jc_seq ?_
      refine jc_reg ?_
      refine sqv rfl (yv_move rfl rfl) ?_
      obtain ⟨x557, hx557, h⟩ := letX h
      refine sqv rfl (yxb hx557 (yv_neq rfl rfl rfl)) ?_
      refine sqv rfl (yv_assign rfl rfl) ?_
      refine jl_nil ?_
      refine jx_then ?_
      rcases x557 with _ | _
      ·
       replace h := brF h
       refine jc_f rfl ?_
       refine jc_seq ?_
       refine jc_reg ?_
       refine sqv rfl (yv_move rfl rfl) ?_
       obtain ⟨x559, hx559, h⟩ := letX h
       refine sqv rfl (yv_len isl97 rfl rfl (rd_o at0) hx559) ?_
       obtain ⟨x560, hx560, h⟩ := letX h
       refine sqv rfl (yxb hx560 (yv_neq rfl rfl rfl)) ?_
       refine sqv rfl (yv_assign rfl rfl) ?_
       refine jl_nil ?_
       refine jx_then ?_
       rcases x560 with _ | _
       ·
        replace h := brF h
        refine jc_f rfl ?_
        refine jc_skip ?_
        refine jx_blk ?_
        refine jx_then ?_
        refine jc_seq ?_
        refine jc_reg ?_
        refine sqv rfl (yv_sla1 ia25 rfl rfl) ?_
        refine sqv rfl (yv_move rfl rfl) ?_
        obtain ⟨x562, hx562, h⟩ := letX h
        obtain ⟨c563, hc563, h⟩ := letX h
        refine sq rfl (so_copyX (C := (tyI .u8)) (D := (Ty.arr 32 (tyI .u8))) hx562 hc563 Tryz.underlying97 (by kernel_rfl) rfl rfl rfl rfl rfl (rd_o at0) (Sub.refl _) rfl (Upd.refl (by simp [Ty.len])) se2 ?_)
        refine jl_nil ?_
        refine jx_then ?_
        refine jc_seq ?_
        refine jc_regd (k := 6) hmix rfl [([], .blk b3 25 ((Ty.arr 32 (tyI .u8)).enc c563)), ([], .blk b526 173 ((Ty.arr 2 (tyI .i64)).enc x525))] [] (.cons at2 (.cons at1 .nil)) .nil ?_
        refine tk (i := 0) rfl (by kernel_rfl) rfl (yv_ldb ti25 rfl rfl (rd_bl at0) (Sub.refl _) (Ty.len _ _) (by simp)) (.cons at0 (by kernel_rfl) .nil) .nil ?_
        refine tk (i := 1) rfl (by kernel_rfl) rfl (yv_ia ia173 rfl rfl rfl (by decide)) .nil .nil ?_
        obtain ⟨x564, hx564, h⟩ := letX h
        refine tk (i := 2) rfl (by kernel_rfl) rfl (yxi hx564 (yv_ldb ti3 rfl rfl (rd_bl at0) ((Sub.refl _).trans (arr_sub (tyI .i64) x525 (0 : Int) (by decide))) (Ty.len _ _) (fun _ => rfl))) (.cons at1 (by kernel_rfl) .nil) .nil ?_
        refine jg_one (i := 3) (by kernel_rfl) (gst rfl rfl (so_sta ti25 rfl rfl rfl rfl (Upd.refl (by simp [Ty.len])) (Ty.len _ _) (Ty.one _ _) (xs' := (Ty.arr 32 (tyI .u8)).enc c563) se3 ?_))
        refine ng (.cons at2 (.cons at1 .nil)) .nil ?_
        refine tk (i := 4) rfl (by kernel_rfl) rfl (yv_assign rfl rfl) .nil .nil ?_
        refine tk (i := 5) rfl (by kernel_rfl) rfl (yv_assign rfl rfl) .nil .nil ?_
        refine jg_nil (by kernel_rfl) ?_
        refine jx_then ?_
        refine jc_ret ?_
        refine jx_br ?_
        refine jx_tr ?_
        refine jx_tr ?_
        refine jx_abs hQ0 ?_
        refine jx_br ?_
        refine jx_tr ?_
        cases h
        exact jx_ret rfl (rr_cella ti25 rfl at3 (Ty.len _ _) (rr_tmp rfl (rr_tmp rfl rr_nil))) ⟨rfl, rfl, rfl, rfl⟩ .nil .nil rfl (by simp)
       ·
        replace h := brT h
        refine jc_t rfl ?_
        refine jc_seq ?_
        refine jc_reg ?_
        obtain ⟨x561, hx561, h⟩ := letX h
        refine sqv rfl (yxg (C := (Ty.arr 32 (tyI .u8))) hx561 (yv_ldb ti25 rfl rfl (rd_bl at2) (Sub.refl _) (Ty.len _ _) (by simp))) ?_
        refine sq rfl (so_sta ti25 rfl rfl rfl rfl (Upd.refl (by simp [Ty.len])) (Ty.len _ _) (Ty.one _ _) (xs' := (Ty.arr 32 (tyI .u8)).enc x561) se3 ?_)
        refine sqv rfl (yv_assign rfl rfl) ?_
        refine sqv rfl (yv_assign rfl rfl) ?_
        refine jl_nil ?_
        refine jx_then ?_
        refine jc_ret ?_
        refine jx_br ?_
        refine jx_tr ?_
        refine jx_br ?_
        refine jx_tr ?_
        refine jx_tr ?_
        refine jx_abs hQ0 ?_
        refine jx_br ?_
        refine jx_tr ?_
        cases h
        exact jx_ret rfl (rr_cella ti25 rfl at3 (Ty.len _ _) (rr_tmp rfl (rr_tmp rfl rr_nil))) ⟨rfl, rfl, rfl, rfl⟩ .nil .nil rfl (by simp)
      ·
       replace h := brT h
       refine jc_t rfl ?_
       refine jc_seq ?_
       refine jc_reg ?_
       obtain ⟨x558, hx558, h⟩ := letX h
       refine sqv rfl (yxg (C := (Ty.arr 32 (tyI .u8))) hx558 (yv_ldb ti25 rfl rfl (rd_bl at2) (Sub.refl _) (Ty.len _ _) (by simp))) ?_
       refine sq rfl (so_sta ti25 rfl rfl rfl rfl (Upd.refl (by simp [Ty.len])) (Ty.len _ _) (Ty.one _ _) (xs' := (Ty.arr 32 (tyI .u8)).enc x558) se3 ?_)
       refine sqv rfl (yv_assign rfl rfl) ?_
       refine sqv rfl (yv_assign rfl rfl) ?_
       refine jl_nil ?_
       refine jx_then ?_
       refine jc_ret ?_
       refine jx_br ?_
       refine jx_tr ?_
       refine jx_br ?_
       refine jx_tr ?_
       refine jx_tr ?_
       refine jx_abs hQ0 ?_
       refine jx_br ?_
       refine jx_tr ?_
       cases h
       exact jx_ret rfl (rr_cella ti25 rfl at3 (Ty.len _ _) (rr_tmp rfl (rr_tmp rfl rr_nil))) ⟨rfl, rfl, rfl, rfl⟩ .nil .nil rfl (by simp)
     ·
      replace h := brT h
      refine jc_t rfl ?_
      refine jc_exit ?_
      refine jx_te ?_
      refine jx_hit ?_
      refine jx_then ?_
      refine jc_reg ?_
      obtain ⟨x536, hx536, h⟩ := letX h
      refine sqv rfl (yxi hx536 (yv_add rfl rfl rfl)) ?_
      refine sqv rfl (yv_move rfl rfl) ?_
      refine jl_nil ?_
      refine jx_again ?_
      exact nj_weak (ih0 x536 h) ⟨rfl, rfl, rfl, rfl, rfl, rfl, rfl, rfl, rfl, trivial⟩ (.cons de1 (.cons de1 (.cons de1 .nil))) (.cons at3 (.cons at4 (.cons at5 (.cons at6 (.cons at7 .nil)))))
 exact nj_weak (key0 FUEL 0 h) ⟨rfl, rfl, rfl, rfl, rfl, rfl, rfl, rfl, rfl, trivial⟩ (.cons de0 (.cons de0 (.cons de0 .nil))) (.cons at0 (.cons at4 (.cons at1 (.cons at2 (.cons at3 .nil)))))
theorem F120_c {p0 : SpartyParty} {p1 : (Vector Int 32)} {p2 : Int} {p3 : SView} {r : (Vector Int 32) × Bool × SpartyParty} (h : F120 p0 p1 p2 p3 = some r) (w0 : World) (O0 : Nat → Prop) (hO : ∀ k, O0 k → k < w0.heap.size) (bp0 : Nat) (v0_2 : (Option Addr)) (k0 : (fa true mKey v0_2 p0.signer).p ⟨w0, O0, inL [.blk bp0 143 (tyVpartyParty.enc (⟨p0.v, p0.leaf, v0_2, p0.own, p0.has', p0.nodes, p0.epoch, p0.init'⟩ : VpartyParty))]⟩) (hio : (Own.blk bp0 143 (tyVpartyParty.enc (⟨p0.v, p0.leaf, v0_2, p0.own, p0.has', p0.nodes, p0.epoch, p0.init'⟩ : VpartyParty))).holds w0 ∧ O0 bp0) :
  CallsP Tryz.prog 120 (List.toArray [pt bp0 0, ag ((Ty.arr 32 (tyI .u8)).enc p1), .int .i64 p2, ag (tySView.enc p3)]) w0 O0 [bp0] (RXM (fun x : (Option Addr) => .tuple #[ag ((Ty.arr 32 (tyI .u8)).enc r.1), .bool r.2.1]) (fun x => []) (fun x => .blk bp0 143 (tyVpartyParty.enc (⟨r.2.2.v, r.2.2.leaf, x, r.2.2.own, r.2.2.has', r.2.2.nodes, r.2.2.epoch, r.2.2.init'⟩ : VpartyParty))) (fun x => [fa true mKey x r.2.2.signer])) := by
 unfold F120 at h
 refine calls_start (e := [(0, pt bp0 0), (1, ag ((Ty.arr 32 (tyI .u8)).enc p1)), (2, .int .i64 p2), (3, ag (tySView.enc p3))]) (L := [.blk bp0 143 (tyVpartyParty.enc (⟨p0.v, p0.leaf, v0_2, p0.own, p0.has', p0.nodes, p0.epoch, p0.init'⟩ : VpartyParty))]) (K := [fa true mKey v0_2 p0.signer]) Tryz.func120 rfl rfl rfl ⟨rfl, rfl, rfl, rfl, trivial⟩ hO (io_hL hio) (List.pairwise_singleton _ _) (alc k0 aln) ?_
 refine jc_seq ?_
 refine jc_reg ?_
 refine sq rfl (so_boxa (by decide) rfl rfl rfl fun b1 => ?_)
 refine sq rfl (so_boxa (by decide) rfl rfl rfl fun b2 => ?_)
 refine sq rfl (so_alloc ti25 (by decide) rfl rfl fun b3 => ?_)
 refine sqv rfl (yv_assign rfl rfl) ?_
 refine jl_nil ?_
 refine jx_then ?_
 refine jc_seq ?_
 refine jc_seq ?_
 refine jc_reg ?_
 refine sqv rfl (yv_move rfl rfl) ?_
 refine sqv rfl (yv_nil rfl rfl) ?_
 refine sqv rfl (yv_fa fa143_1 rfl rfl) ?_
 obtain ⟨x4, hx4, h⟩ := letX h
 refine sqv rfl (yxi hx4 (yv_ldb ti3 rfl rfl (rd_bl at3) ((Sub.refl _).trans (VpartyParty.s1 (⟨p0.v, p0.leaf, v0_2, p0.own, p0.has', p0.nodes, p0.epoch, p0.init'⟩ : VpartyParty))) (Ty.len _ _) (fun _ => rfl))) ?_
 obtain ⟨y5, hy5, h⟩ := bdE h
 refine sq rfl (so_callv pf166 rfl rfl rfl rfl (fun σ hs => F166_c hy5 σ.w σ.O hs.olt) ?_)
 refine sqv rfl (yv_move rfl rfl) ?_
 refine jl_nil ?_
 refine jx_then ?_
 refine jc_block ?_
 refine jc_loop ?_
 intro B0 Q0 hB0 hQ0
 have key0 : ∀ (k0 : Nat) (j241 : Int) (j242 : (Vector Int 32)) (j243 : (Vector Bool 3)) (j244 : (Vector (Vector Int 32) 3)), F120_l0 y5 p2 p3 p0 k0 j241 j242 j243 j244 = some r → JW 68 w0 O0 [bp0] Tryz.prog B0 Q0 [(0, pt bp0 0), (2, .int .i64 p2), (5, pt b1 0), (7, pt b2 0), (8, pt b3 0), (9, .bool false), (16, ag ((Ty.arr 3 (tyI .i64)).enc y5)), (17, .int .i64 j241)] [.blk b3 25 ((Ty.arr 32 (tyI .u8)).enc (Vector.replicate 32 (0 : Int))), .blk b2 64 (tySView.enc p3), .blk b1 25 ((Ty.arr 32 (tyI .u8)).enc j242), .blk bp0 143 (tyVpartyParty.enc (⟨p0.v, p0.leaf, v0_2, p0.own, j243, j244, p0.epoch, p0.init'⟩ : VpartyParty))] [fa true mKey v0_2 p0.signer] := by
  intro k0
  induction k0 with
  | zero => intro j241 j242 j243 j244 h; cases h
  | succ k0 ih0 =>
   intro j241 j242 j243 j244 h
   unfold F120_l0 at h
   refine jw_round hB0 ?_
   refine jc_seq ?_
   refine jc_reg ?_
   obtain ⟨x245, hx245, h⟩ := letX h
   refine sqv rfl (yxb hx245 (yv_lss rfl rfl rfl)) ?_
   refine jl_nil ?_
   refine jx_then ?_
   refine jc_seq ?_
   rcases x245 with _ | _
   ·
    replace h := brF h
    refine jc_f rfl ?_
    refine jc_exit ?_
    refine jx_te ?_
    refine jx_te ?_
    refine jx_abs hQ0 ?_
    refine jx_hit ?_
    refine jx_then ?_
    refine jc_seq ?_
    refine jc_reg ?_
    refine sqv rfl (yv_ldb ti25 rfl rfl (rd_bl at2) (Sub.refl _) (Ty.len _ _) (by simp)) ?_
    refine sq rfl (so_sta ti25 rfl rfl rfl rfl (Upd.refl (by simp [Ty.len])) (Ty.len _ _) (Ty.one _ _) (xs' := (Ty.arr 32 (tyI .u8)).enc j242) se0 ?_)
    refine sqv rfl (yv_assign rfl rfl) ?_
    refine jl_nil ?_
    refine jx_then ?_
    refine jc_ret ?_
    cases h
    exact jx_ret rfl (rr_cella ti25 rfl at0 (Ty.len _ _) (rr_tmp rfl rr_nil)) ⟨(v0_2), rfl, rfl, rfl, rfl⟩ (.cons de3 .nil) (.cons at0 .nil) rfl (io1)
   ·
    replace h := brT h
    refine jc_t rfl ?_
    refine jc_skip ?_
    refine jx_then ?_
    refine jc_seq_n ?_
    intro N0 hN0
    have hj0 : ∀ (j289 : (Vector Int 32)) (j290 : (Vector Bool 3)) (j291 : (Vector (Vector Int 32) 3)), F120_j0 j241 (F120_l0 y5 p2 p3 p0 k0) j289 j290 j291 = some r → NJ 68 w0 O0 [bp0] N0 [(0, pt bp0 0), (2, .int .i64 p2), (5, pt b1 0), (7, pt b2 0), (8, pt b3 0), (9, .bool false), (16, ag ((Ty.arr 3 (tyI .i64)).enc y5)), (17, .int .i64 j241)] [.blk b3 25 ((Ty.arr 32 (tyI .u8)).enc (Vector.replicate 32 (0 : Int))), .blk b2 64 (tySView.enc p3), .blk b1 25 ((Ty.arr 32 (tyI .u8)).enc j289), .blk bp0 143 (tyVpartyParty.enc (⟨p0.v, p0.leaf, v0_2, p0.own, j290, j291, p0.epoch, p0.init'⟩ : VpartyParty))] [fa true mKey v0_2 p0.signer] := by
     intro j289 j290 j291 h
     unfold F120_j0 at h
     refine nj_abs hN0 ?_
     refine jc_reg ?_
     obtain ⟨x1_292, hx1_292, h⟩ := letX h
     refine sqv rfl (yxi hx1_292 (yv_add rfl rfl rfl)) ?_
     refine sqv rfl (yv_move rfl rfl) ?_
     refine jl_nil ?_
     refine jx_again ?_
     exact nj_weak (ih0 x1_292 j289 j290 j291 h) ⟨rfl, rfl, rfl, rfl, rfl, rfl, rfl, rfl, trivial⟩ (.cons de0 (.cons de0 (.cons de0 (.cons de0 .nil)))) (.cons at0 .nil)
    refine jc_block ?_
    refine jc_seq ?_
    refine jc_reg ?_
    refine sqv rfl (yv_move rfl rfl) ?_
    obtain ⟨g248, h⟩ := gdE h
    obtain ⟨x249, hx249, h⟩ := letX h
    refine sqv rfl (yxi hx249 (yv_index (g := false) (ys := (tyI .i64).enc (vat y5 j241)) Tryz.underlying33 ti3 rfl rfl rfl g248 (arr_sub (tyI .i64) _ _ g248) (Ty.len _ _) (fun _ => rfl))) ?_
    refine sqv rfl (yv_assign rfl rfl) ?_
    refine sqv rfl (yv_assign rfl rfl) ?_
    refine jl_nil ?_
    refine jx_then ?_
    refine jc_seq ?_
    refine jc_seq ?_
    refine jc_reg ?_
    refine sqv rfl (yv_move rfl rfl) ?_
    refine sqv rfl (yv_move rfl rfl) ?_
    obtain ⟨x250, hx250, h⟩ := letX h
    refine sqv rfl (yxb hx250 (yv_lss rfl rfl rfl)) ?_
    refine jl_nil ?_
    refine jx_then ?_
    rcases x250 with _ | _
    ·
     replace h := brF h
     refine jc_f rfl ?_
     refine jc_skip ?_
     refine jx_then ?_
     refine jc_seq ?_
     refine jc_seq ?_
     refine jc_regd (k := 9) hmix rfl [([], .blk b1 25 ((Ty.arr 32 (tyI .u8)).enc j242)), ([], .blk b2 64 (tySView.enc p3))] [] (.cons at2 (.cons at1 .nil)) .nil ?_
     refine tk (i := 0) rfl (by kernel_rfl) rfl (yv_ldb ti25 rfl rfl (rd_bl at0) (Sub.refl _) (Ty.len _ _) (by simp)) (.cons at0 (by kernel_rfl) .nil) .nil ?_
     refine tk (i := 3) rfl (by kernel_rfl) rfl (yv_move rfl rfl) .nil .nil ?_
     refine tk (i := 4) rfl (by kernel_rfl) rfl (yv_fa fa64_1 rfl rfl) .nil .nil ?_
     refine tk (i := 5) rfl (by kernel_rfl) rfl (yv_fa fa61_1 rfl rfl) .nil .nil ?_
     obtain ⟨g274, h⟩ := gdE h
     refine tk (i := 6) rfl (by kernel_rfl) rfl (yv_ia ia59 rfl rfl rfl g274) .nil .nil ?_
     obtain ⟨x275, hx275, h⟩ := letX h
     refine tk (i := 7) rfl (by kernel_rfl) rfl (yxi hx275 (yv_ldb ti3 rfl rfl (rd_bl at0) ((((Sub.refl _).trans (SView.s1 p3)).trans (STree.s1 p3.Tree)).trans (arr_sub (tyI .i64) p3.Tree.Nodes x249 g274)) (Ty.len _ _) (fun _ => rfl))) (.cons at1 (by kernel_rfl) .nil) .nil ?_
     obtain ⟨y276, hy276, h⟩ := bdE h
     refine jg_one (i := 1) (by kernel_rfl) (gst rfl rfl (so_callx pf129 rfl rfl rfl rfl (fun σ hs => F129_c hy276 σ.w σ.O hs.olt) (fun _ => .nil) (fun _ => (.cons .nil)) (fun r277 => ?_)))
     refine ng (.cons at2 (.cons at1 .nil)) .nil ?_
     obtain ⟨y278, hy278, h⟩ := bdE h
     refine jg_one (i := 2) (by kernel_rfl) (gst rfl rfl (so_callv pf114 rfl rfl rfl rfl (fun σ hs => F114_c hy278 σ.w σ.O hs.olt r277 (cs0 (rs_f at0) hs)) ?_))
     refine ng (.cons at2 (.cons at1 .nil)) .nil ?_
     obtain ⟨x279, hx279, h⟩ := letX h
     refine tk (i := 8) rfl (by kernel_rfl) rfl (yxb hx279 (yv_neq rfl rfl rfl)) .nil .nil ?_
     refine jg_nil (by kernel_rfl) ?_
     refine jx_then ?_
     rcases x279 with _ | _
     ·
      replace h := brF h
      refine jc_f rfl ?_
      refine jc_skip ?_
      refine jx_then ?_
      refine jc_seq ?_
      refine jc_regd (k := 13) hmix rfl [([], .blk b1 25 ((Ty.arr 32 (tyI .u8)).enc j242))] [] (.cons at2 .nil) .nil ?_
      refine tk (i := 0) rfl (by kernel_rfl) rfl (yv_move rfl rfl) .nil .nil ?_
      refine tk (i := 1) rfl (by kernel_rfl) rfl (yv_move rfl rfl) .nil .nil ?_
      refine tk (i := 2) rfl (by kernel_rfl) rfl (yv_move rfl rfl) .nil .nil ?_
      refine tk (i := 3) rfl (by kernel_rfl) rfl (yv_move rfl rfl) .nil .nil ?_
      refine tk (i := 4) rfl (by kernel_rfl) rfl (yv_ldb ti25 rfl rfl (rd_bl at0) (Sub.refl _) (Ty.len _ _) (by simp)) (.cons at0 (by kernel_rfl) .nil) .nil ?_
      refine tk (i := 5) rfl (by kernel_rfl) rfl (yv_nil rfl rfl) .nil .nil ?_
      refine tk (i := 6) rfl (by kernel_rfl) rfl (yv_fa fa143_5 rfl rfl) .nil .nil ?_
      obtain ⟨g283, h⟩ := gdE h
      refine tk (i := 7) rfl (by kernel_rfl) rfl (yv_ia ia141 rfl rfl rfl g283) .nil .nil ?_
      refine tk (i := 9) rfl (by kernel_rfl) rfl (yv_nil rfl rfl) .nil .nil ?_
      refine tk (i := 10) rfl (by kernel_rfl) rfl (yv_fa fa143_4 rfl rfl) .nil .nil ?_
      obtain ⟨c284, hc284, h⟩ := letX h
      have hu_c284 := Upd.to (Upd.comp ((Sub.refl _).trans (VpartyParty.s5 (⟨p0.v, p0.leaf, v0_2, p0.own, j243, j244, p0.epoch, p0.init'⟩ : VpartyParty))) (arr_upd (Ty.arr 32 (tyI .u8)) j244 j241 j242 g283) (Upd.comp (Sub.refl _) (VpartyParty.u5 (⟨p0.v, p0.leaf, v0_2, p0.own, j243, j244, p0.epoch, p0.init'⟩ : VpartyParty) (vup j244 j241 j242)) (Upd.refl (by simp [Ty.len])))) (congrArg (fun q_ => (tyVpartyParty.enc (⟨p0.v, p0.leaf, v0_2, p0.own, j243, q_, p0.epoch, p0.init'⟩ : VpartyParty))) hc284)
      refine jg_one (i := 8) (by kernel_rfl) (gst rfl rfl (so_sta ti25 rfl rfl rfl rfl hu_c284 (Ty.len _ _) (Ty.one _ _) (xs' := tyVpartyParty.enc (⟨p0.v, p0.leaf, v0_2, p0.own, j243, c284, p0.epoch, p0.init'⟩ : VpartyParty)) se3 ?_))
      refine ng (.cons at2 .nil) .nil ?_
      obtain ⟨g285, h⟩ := gdE h
      refine tk (i := 11) rfl (by kernel_rfl) rfl (yv_ia ia140 rfl rfl rfl g285) .nil .nil ?_
      obtain ⟨c286, hc286, h⟩ := letX h
      have hu_c286 := Upd.to (Upd.comp ((Sub.refl _).trans (VpartyParty.s4 (⟨p0.v, p0.leaf, v0_2, p0.own, j243, c284, p0.epoch, p0.init'⟩ : VpartyParty))) (arr_upd tyB j243 j241 true g285) (Upd.comp (Sub.refl _) (VpartyParty.u4 (⟨p0.v, p0.leaf, v0_2, p0.own, j243, c284, p0.epoch, p0.init'⟩ : VpartyParty) (vup j243 j241 true)) (Upd.refl (by simp [Ty.len])))) (congrArg (fun q_ => (tyVpartyParty.enc (⟨p0.v, p0.leaf, v0_2, p0.own, q_, c284, p0.epoch, p0.init'⟩ : VpartyParty))) hc286)
      refine jg_one (i := 12) (by kernel_rfl) (gst rfl rfl (so_st1 ti4 rfl rfl rfl rfl rfl hu_c286 (xs' := tyVpartyParty.enc (⟨p0.v, p0.leaf, v0_2, p0.own, c286, c284, p0.epoch, p0.init'⟩ : VpartyParty)) se3 ?_))
      refine ng (.cons at2 .nil) .nil ?_
      refine jg_nil (by kernel_rfl) ?_
      refine jx_then ?_
      refine jc_reg ?_
      refine sqv rfl (yv_ldb ti25 rfl rfl (rd_bl at2) (Sub.refl _) (Ty.len _ _) (by simp)) ?_
      obtain ⟨y287, hy287, h⟩ := bdE h
      refine sq rfl (so_callv pf206 rfl rfl rfl rfl (fun σ hs => F206_c hy287 σ.w σ.O hs.olt) ?_)
      refine sq rfl (so_sta ti25 rfl rfl rfl rfl (Upd.refl (by simp [Ty.len])) (Ty.len _ _) (Ty.one _ _) (xs' := (Ty.arr 32 (tyI .u8)).enc y287) se2 ?_)
      refine jl_nil ?_
      refine jx_blk ?_
      refine jx_then_n ?_
      exact nj_weak (hj0 y287 c286 c284 h) ⟨rfl, rfl, rfl, rfl, rfl, rfl, rfl, rfl, trivial⟩ (.cons de0 (.cons de0 (.cons de0 (.cons de0 .nil)))) (.cons at1 .nil)
     ·
      replace h := brT h
      refine jc_t rfl ?_
      refine jc_seq ?_
      refine jc_reg ?_
      refine sqv rfl (yv_ldb ti25 rfl rfl (rd_bl at2) (Sub.refl _) (Ty.len _ _) (by simp)) ?_
      refine sq rfl (so_sta ti25 rfl rfl rfl rfl (Upd.refl (by simp [Ty.len])) (Ty.len _ _) (Ty.one _ _) (xs' := (Ty.arr 32 (tyI .u8)).enc j242) se0 ?_)
      refine sqv rfl (yv_assign rfl rfl) ?_
      refine jl_nil ?_
      refine jx_then ?_
      refine jc_ret ?_
      refine jx_tr ?_
      refine jx_br ?_
      refine jx_tr ?_
      refine jx_tr ?_
      refine jx_abs hQ0 ?_
      refine jx_br ?_
      refine jx_tr ?_
      cases h
      exact jx_ret rfl (rr_cella ti25 rfl at0 (Ty.len _ _) (rr_tmp rfl rr_nil)) ⟨(v0_2), rfl, rfl, rfl, rfl⟩ (.cons de3 .nil) (.cons at1 .nil) rfl (io1)
    ·
     replace h := brT h
     refine jc_t rfl ?_
     refine jc_seq ?_
     refine jc_regd (k := 20) hmix rfl [([19], .blk bp0 143 (tyVpartyParty.enc (⟨p0.v, p0.leaf, v0_2, p0.own, j243, j244, p0.epoch, p0.init'⟩ : VpartyParty))), ([], .blk b2 64 (tySView.enc p3))] [] (.cons at3 (.cons at1 .nil)) .nil ?_
     refine tk (i := 0) rfl (by kernel_rfl) rfl (yv_move rfl rfl) .nil .nil ?_
     refine tk (i := 1) rfl (by kernel_rfl) rfl (yv_move rfl rfl) .nil .nil ?_
     refine tk (i := 2) rfl (by kernel_rfl) rfl (yv_move rfl rfl) .nil .nil ?_
     refine tk (i := 3) rfl (by kernel_rfl) rfl (yv_move rfl rfl) .nil .nil ?_
     refine tk (i := 4) rfl (by kernel_rfl) rfl (yv_nil rfl rfl) .nil .nil ?_
     refine tk (i := 5) rfl (by kernel_rfl) rfl (yv_fa fa143_4 rfl rfl) .nil .nil ?_
     obtain ⟨g263, h⟩ := gdE h
     refine tk (i := 6) rfl (by kernel_rfl) rfl (yv_ia ia140 rfl rfl rfl g263) .nil .nil ?_
     obtain ⟨x264, hx264, h⟩ := letX h
     refine tk (i := 7) rfl (by kernel_rfl) rfl (yxb hx264 (yv_ldb ti4 rfl rfl (rd_bl at0) (((Sub.refl _).trans (VpartyParty.s4 (⟨p0.v, p0.leaf, v0_2, p0.own, j243, j244, p0.epoch, p0.init'⟩ : VpartyParty))).trans (arr_sub tyB j243 j241 g263)) (Ty.len _ _) (fun _ => rfl))) (.cons at0 (by kernel_rfl) .nil) .nil ?_
     refine tk (i := 8) rfl (by kernel_rfl) rfl (yv_move rfl rfl) .nil .nil ?_
     rcases x264 with _ | _
     ·
      replace h := brF h
      refine tk_skip (i := 9) rfl (by kernel_rfl) rfl ?_
      refine tk_skip (i := 10) rfl (by kernel_rfl) rfl ?_
      refine tk_skip (i := 11) rfl (by kernel_rfl) rfl ?_
      refine tk_skip (i := 12) rfl (by kernel_rfl) rfl ?_
      refine tk_skip (i := 13) rfl (by kernel_rfl) rfl ?_
      refine tk_skip (i := 14) rfl (by kernel_rfl) rfl ?_
      refine tk (i := 15) rfl (by kernel_rfl) rfl (yv_pick_f rfl rfl rfl) .nil .nil ?_
      refine tk (i := 16) rfl (by kernel_rfl) rfl (yv_nil rfl rfl) .nil .nil ?_
      refine tk (i := 17) rfl (by kernel_rfl) rfl (yv_fa fa143_4 rfl rfl) .nil .nil ?_
      obtain ⟨g271, h⟩ := gdE h
      refine tk (i := 18) rfl (by kernel_rfl) rfl (yv_ia ia140 rfl rfl rfl g271) .nil .nil ?_
      obtain ⟨c272, hc272, h⟩ := letX h
      have hu_c272 := Upd.to (Upd.comp ((Sub.refl _).trans (VpartyParty.s4 (⟨p0.v, p0.leaf, v0_2, p0.own, j243, j244, p0.epoch, p0.init'⟩ : VpartyParty))) (arr_upd tyB j243 j241 false g271) (Upd.comp (Sub.refl _) (VpartyParty.u4 (⟨p0.v, p0.leaf, v0_2, p0.own, j243, j244, p0.epoch, p0.init'⟩ : VpartyParty) (vup j243 j241 false)) (Upd.refl (by simp [Ty.len])))) (congrArg (fun q_ => (tyVpartyParty.enc (⟨p0.v, p0.leaf, v0_2, p0.own, q_, j244, p0.epoch, p0.init'⟩ : VpartyParty))) hc272)
      refine jg_one (i := 19) (by kernel_rfl) (gst rfl rfl (so_st1 ti4 rfl rfl rfl rfl rfl hu_c272 (xs' := tyVpartyParty.enc (⟨p0.v, p0.leaf, v0_2, p0.own, c272, j244, p0.epoch, p0.init'⟩ : VpartyParty)) se3 ?_))
      refine ng (.cons at1 .nil) .nil ?_
      refine jg_nil (by kernel_rfl) ?_
      refine jx_then ?_
      refine jc_exit ?_
      refine jx_te ?_
      refine jx_hit ?_
      refine jx_then_n ?_
      exact nj_weak (hj0 j242 c272 j244 h) ⟨rfl, rfl, rfl, rfl, rfl, rfl, rfl, rfl, trivial⟩ (.cons de0 (.cons de0 (.cons de0 (.cons de0 .nil)))) (.cons at0 .nil)
     ·
      replace h := brT h
      refine tk (i := 9) rfl (by kernel_rfl) rfl (yv_move rfl rfl) .nil .nil ?_
      refine tk (i := 10) rfl (by kernel_rfl) rfl (yv_fa fa64_1 rfl rfl) .nil .nil ?_
      refine tk (i := 11) rfl (by kernel_rfl) rfl (yv_fa fa61_1 rfl rfl) .nil .nil ?_
      obtain ⟨g265, h⟩ := gdE h
      refine tk (i := 12) rfl (by kernel_rfl) rfl (yv_ia ia59 rfl rfl rfl g265) .nil .nil ?_
      obtain ⟨x266, hx266, h⟩ := letX h
      refine tk (i := 13) rfl (by kernel_rfl) rfl (yxi hx266 (yv_ldb ti3 rfl rfl (rd_bl at0) ((((Sub.refl _).trans (SView.s1 p3)).trans (STree.s1 p3.Tree)).trans (arr_sub (tyI .i64) p3.Tree.Nodes x249 g265)) (Ty.len _ _) (fun _ => rfl))) (.cons at1 (by kernel_rfl) .nil) .nil ?_
      obtain ⟨x267, hx267, h⟩ := letX h
      refine tk (i := 14) rfl (by kernel_rfl) rfl (yxb hx267 (yv_neq rfl rfl rfl)) .nil .nil ?_
      refine tk (i := 15) rfl (by kernel_rfl) rfl (yv_pick_t rfl rfl rfl) .nil .nil ?_
      refine tk (i := 16) rfl (by kernel_rfl) rfl (yv_nil rfl rfl) .nil .nil ?_
      refine tk (i := 17) rfl (by kernel_rfl) rfl (yv_fa fa143_4 rfl rfl) .nil .nil ?_
      obtain ⟨g268, h⟩ := gdE h
      refine tk (i := 18) rfl (by kernel_rfl) rfl (yv_ia ia140 rfl rfl rfl g268) .nil .nil ?_
      obtain ⟨c269, hc269, h⟩ := letX h
      have hu_c269 := Upd.to (Upd.comp ((Sub.refl _).trans (VpartyParty.s4 (⟨p0.v, p0.leaf, v0_2, p0.own, j243, j244, p0.epoch, p0.init'⟩ : VpartyParty))) (arr_upd tyB j243 j241 x267 g268) (Upd.comp (Sub.refl _) (VpartyParty.u4 (⟨p0.v, p0.leaf, v0_2, p0.own, j243, j244, p0.epoch, p0.init'⟩ : VpartyParty) (vup j243 j241 x267)) (Upd.refl (by simp [Ty.len])))) (congrArg (fun q_ => (tyVpartyParty.enc (⟨p0.v, p0.leaf, v0_2, p0.own, q_, j244, p0.epoch, p0.init'⟩ : VpartyParty))) hc269)
      refine jg_one (i := 19) (by kernel_rfl) (gst rfl rfl (so_st1 ti4 rfl rfl rfl rfl rfl hu_c269 (xs' := tyVpartyParty.enc (⟨p0.v, p0.leaf, v0_2, p0.own, c269, j244, p0.epoch, p0.init'⟩ : VpartyParty)) se3 ?_))
      refine ng (.cons at1 .nil) .nil ?_
      refine jg_nil (by kernel_rfl) ?_
      refine jx_then ?_
      refine jc_exit ?_
      refine jx_te ?_
      refine jx_hit ?_
      refine jx_then_n ?_
      exact nj_weak (hj0 j242 c269 j244 h) ⟨rfl, rfl, rfl, rfl, rfl, rfl, rfl, rfl, trivial⟩ (.cons de0 (.cons de0 (.cons de0 (.cons de0 .nil)))) (.cons at0 .nil)
 exact nj_weak (key0 FUEL 0 p1 p0.has' p0.nodes h) ⟨rfl, rfl, rfl, rfl, rfl, rfl, rfl, rfl, trivial⟩ (.cons de0 (.cons de0 (.cons de0 (.cons de0 .nil)))) (.cons at0 .nil)
theorem F41_c {p0 : (Option SpartyParty)} {p1 : SCommit} {r : (Option SpartyParty) × Int} (h : F41 p0 p1 = some r) (w0 : World) (O0 : Nat → Prop) (hO : ∀ k, O0 k → k < w0.heap.size) (v0 : (Option Addr)) (v1_2 : Sl) (v1_3 : Sl) (v1_6 : Sl) (k0 : (fa true (mPt tyVpartyParty mSpartyParty) v0 p0).p ⟨w0, O0, inL []⟩) (k1 : (fa false (mRow tySOp) v1_2 p1.Ops).p ⟨w0, O0, inL []⟩) (k2 : (fa false (mRow tySVote) v1_3 p1.Votes).p ⟨w0, O0, inL []⟩) (k3 : (fa true (mSl tySl (mRow (tyI .u8))) v1_6 p1.Boxes).p ⟨w0, O0, inL []⟩) :
  CallsP Tryz.prog 41 (List.toArray [.pointer v0, ag (tyVCommit.enc (⟨p1.Epoch, p1.From, v1_2, v1_3, p1.Seal, p1.Path, v1_6, p1.Tag, p1.Sig⟩ : VCommit))]) w0 O0 [] (RX (fun x : (Option Addr) => .tuple #[.pointer x, .int .i64 r.2]) (fun x => []) (fun x => [fa true (mPt tyVpartyParty mSpartyParty) x r.1])) := by
 unfold F41 at h
 refine calls_start (e := [(0, .pointer v0), (1, ag (tyVCommit.enc (⟨p1.Epoch, p1.From, v1_2, v1_3, p1.Seal, p1.Path, v1_6, p1.Tag, p1.Sig⟩ : VCommit)))]) (L := []) (K := [fa true (mPt tyVpartyParty mSpartyParty) v0 p0, fa false (mRow tySOp) v1_2 p1.Ops, fa false (mRow tySVote) v1_3 p1.Votes, fa true (mSl tySl (mRow (tyI .u8))) v1_6 p1.Boxes]) Tryz.func41 rfl rfl rfl ⟨rfl, rfl, trivial⟩ hO (by simp) .nil (alc k0 (alc k1 (alc k2 (alc k3 aln)))) ?_
 refine jc_seq ?_
 refine jc_reg ?_
 refine sq rfl (so_boxa (by decide) rfl rfl rfl fun b1 => ?_)
 refine sqv rfl (yv_assign rfl rfl) ?_
 refine sqv rfl (yv_assign rfl rfl) ?_
 refine jl_nil ?_
 refine jx_then ?_
 refine jc_seq ?_
 refine jc_seq ?_
 refine jc_reg ?_
 refine sqv rfl (yv_move rfl rfl) ?_
 rcases moE h with ⟨hm_x2, h⟩ | ⟨x2, hm_x2, h⟩
 ·
  skip
  refine nj_pn0 at0 hm_x2 fun hn_n3 => ?_
  refine sqv rfl (yv_pn ipt22 rfl rfl rfl hn_n3) ?_
  refine jl_nil ?_
  refine jx_then ?_
  refine jc_t rfl ?_
  refine jc_seq ?_
  refine jc_reg ?_
  refine sqv rfl (yv_assign rfl rfl) ?_
  refine sqv rfl (yv_assign rfl rfl) ?_
  refine jl_nil ?_
  refine jx_then ?_
  refine jc_ret ?_
  refine jx_tr ?_
  refine nj_s (m := (mPt tyVpartyParty mSpartyParty)) (v := (none : Option Addr)) (p := none) rq_pt0 ?_
  cases h
  exact jx_ret rfl (rr_tmp rfl (rr_tmp rfl rr_nil)) ⟨((none : Option Addr)), rfl, rfl, rfl, rfl⟩ .nil (.cons at0 .nil) rfl (by simp)
 ·
  skip
  refine nj_pn1 at0 hm_x2 fun hn_n5 => ?_
  refine sqv rfl (yv_pn ipt22 rfl rfl rfl hn_n5) ?_
  refine jl_nil ?_
  refine jx_then ?_
  refine jc_f rfl ?_
  refine jc_skip ?_
  refine jx_then ?_
  refine jc_seq ?_
  refine jc_seq ?_
  refine jc_reg ?_
  refine sqv rfl (yv_move rfl rfl) ?_
  refine sqv rfl (yv_ldb ti38 rfl rfl (rd_bl at0) (Sub.refl _) (Ty.len _ _) (by simp)) ?_
  obtain ⟨y7, hy7, h⟩ := bdE h
  refine sq rfl (so_callv pf116 rfl rfl rfl rfl (fun σ hs => F116_c hy7 σ.w σ.O hs.olt v0 v1_2 v1_3 v1_6 (cw0 (rd_f at0) hs) (cw0 (rd_f at1) hs) (cw0 (rd_f at2) hs) (cw0 (rd_f at3) hs)) ?_)
  refine sqv rfl (yv_assign rfl rfl) ?_
  refine jl_nil ?_
  refine jx_then ?_
  refine jc_seq ?_
  refine jc_reg ?_
  refine sqv rfl (yv_move rfl rfl) ?_
  obtain ⟨x8, hx8, h⟩ := letX h
  refine sqv rfl (yxb hx8 (yv_neq rfl rfl rfl)) ?_
  refine jl_nil ?_
  refine jx_then ?_
  rcases x8 with _ | _
  ·
   replace h := brF h
   refine jc_f rfl ?_
   refine jc_skip ?_
   refine jx_then ?_
   refine jc_seq ?_
   obtain ⟨x1_14, hx1_14, h⟩ := letX h
   obtain ⟨x1_16, hx1_16, h⟩ := letX h
   obtain ⟨y1_19, hy1_19, h⟩ := bdE h
   refine jc_regd (k := 21) hmix rfl [] [] .nil .nil ?_
   refine tk (i := 0) rfl (by kernel_rfl) rfl (yv_move rfl rfl) .nil .nil ?_
   refine nj_xptX at0 hm_x2 fun b1_12 u1_12_ hv_b1_12 => ?_
   refine nj_xSpartyParty at1 fun u1_12_2 hu1_12 => ?_
   subst hu1_12
   refine tk (i := 1) rfl (by kernel_rfl) rfl (yv_nilp rfl rfl hv_b1_12) .nil .nil ?_
   refine tk (i := 2) rfl (by kernel_rfl) rfl (yv_fa fa143_0 rfl rfl) .nil .nil ?_
   refine jg_reb (Ls' := []) (Ks' := [fa true mBl b1_12 (tyVpartyParty.enc (⟨x2.v, x2.leaf, u1_12_2, x2.own, x2.has', x2.nodes, x2.epoch, x2.init'⟩ : VpartyParty))]) .nil (.cons at1 .nil) .nil .nil ?_
   refine tk (i := 3) rfl (by kernel_rfl) rfl (yxg (C := tySView) hx1_14 (yv_ldb ti64 rfl rfl (rd_f at0) ((Sub.refl _).trans (VpartyParty.s0 (⟨x2.v, x2.leaf, u1_12_2, x2.own, x2.has', x2.nodes, x2.epoch, x2.init'⟩ : VpartyParty))) (Ty.len _ _) (by simp))) .nil (.cons at0 .nil) ?_
   refine tk (i := 4) rfl (by kernel_rfl) rfl (yv_fa fa38_1 rfl rfl) .nil .nil ?_
   refine jg_reb (Ls' := [([], .blk b1 38 (tyVCommit.enc (⟨p1.Epoch, p1.From, v1_2, v1_3, p1.Seal, p1.Path, v1_6, p1.Tag, p1.Sig⟩ : VCommit)))]) (Ks' := [fa true mBl b1_12 (tyVpartyParty.enc (⟨x2.v, x2.leaf, u1_12_2, x2.own, x2.has', x2.nodes, x2.epoch, x2.init'⟩ : VpartyParty))]) (.cons at0 .nil) (.cons at1 .nil) .nil (.cons at0 .nil) ?_
   refine tk (i := 5) rfl (by kernel_rfl) rfl (yxi hx1_16 (yv_ldb ti3 rfl rfl (rd_bl at0) ((Sub.refl _).trans (VCommit.s1 (⟨p1.Epoch, p1.From, v1_2, v1_3, p1.Seal, p1.Path, v1_6, p1.Tag, p1.Sig⟩ : VCommit))) (Ty.len _ _) (fun _ => rfl))) (.cons at0 (by kernel_rfl) .nil) .nil ?_
   refine tk (i := 6) rfl (by kernel_rfl) rfl (yv_fa fa38_2 rfl rfl) .nil .nil ?_
   refine tk (i := 7) rfl (by kernel_rfl) rfl (yv_ldb ti31 rfl rfl (rd_bl at0) ((Sub.refl _).trans (VCommit.s2 (⟨p1.Epoch, p1.From, v1_2, v1_3, p1.Seal, p1.Path, v1_6, p1.Tag, p1.Sig⟩ : VCommit))) (Ty.len _ _) (fun _ => rfl)) (.cons at0 (by kernel_rfl) .nil) .nil ?_
   refine jg_nm2 ?_
   intro J6_33 hJ6_33_1 hJ6_33_2
   have hs6_33_25 : ∀ (b1_25 : Nat) (b1_26 : Nat) (b1_27 : Nat), J6_33 [([], .blk b1 38 (tyVCommit.enc (⟨p1.Epoch, p1.From, v1_2, v1_3, p1.Seal, p1.Path, v1_6, p1.Tag, p1.Sig⟩ : VCommit)))] [fa true mBl b1_12 (tyVpartyParty.enc (⟨x2.v, x2.leaf, u1_12_2, x2.own, x2.has', x2.nodes, x2.epoch, x2.init'⟩ : VpartyParty))] 1 #[true, true, true, true, true, true, true, true, true, true, true, true, true, true, true, true, true, true, true, true, false] [(0, .pointer v0), (3, pt b1 0), (4, .pointer (none : Option Addr)), (5, .int .i64 0), (7, pt b1_25 0), (8, pt b1_26 0), (9, pt b1_27 0), (38, .int .i64 y1_19.2.2.2)] [.blk b1_27 62 ((Ty.arr 8 tyB).enc y1_19.2.2.1), .blk b1_26 62 ((Ty.arr 8 tyB).enc y1_19.2.1), .blk b1_25 64 (tySView.enc y1_19.1), .blk b1 38 (tyVCommit.enc (⟨p1.Epoch, p1.From, v1_2, v1_3, p1.Seal, p1.Path, v1_6, p1.Tag, p1.Sig⟩ : VCommit))] [fa true mKey u1_12_2 x2.signer, fa true mBl b1_12 (tyVpartyParty.enc (⟨x2.v, x2.leaf, u1_12_2, x2.own, x2.has', x2.nodes, x2.epoch, x2.init'⟩ : VpartyParty)), fa true mSpartyParty (⟨x2.v, x2.leaf, u1_12_2, x2.own, x2.has', x2.nodes, x2.epoch, x2.init'⟩ : VpartyParty) x2, fa true (mPt tyVpartyParty mSpartyParty) v0 p0, fa false (mRow tySOp) v1_2 p1.Ops, fa false (mRow tySVote) v1_3 p1.Votes, fa true (mSl tySl (mRow (tyI .u8))) v1_6 p1.Boxes] := by
    intro b1_25 b1_26 b1_27
    refine hJ6_33_1 _ _ _ _ _ _ _ ?_
    refine tk (i := 20) rfl (by kernel_rfl) rfl (yv_assign rfl rfl) .nil .nil ?_
    refine jg_nil (by kernel_rfl) ?_
    refine jx_then ?_
    refine jc_seq ?_
    refine jc_block ?_
    refine jc_seq ?_
    refine jc_reg ?_
    refine sqv rfl (yv_move rfl rfl) ?_
    obtain ⟨x47, hx47, h⟩ := letX h
    refine sqv rfl (yxb hx47 (yv_neq rfl rfl rfl)) ?_
    refine sqv rfl (yv_assign rfl rfl) ?_
    refine jl_nil ?_
    refine jx_then ?_
    rcases x47 with _ | _
    ·
     replace h := brF h
     refine jc_f rfl ?_
     refine jc_seq ?_
     refine jc_reg ?_
     refine sqv rfl (yv_move rfl rfl) ?_
     refine sqv rfl (yv_nilp rfl rfl hv_b1_12) ?_
     refine sqv rfl (yv_fa fa143_1 rfl rfl) ?_
     obtain ⟨x48, hx48, h⟩ := letX h
     refine sqv rfl (yxi hx48 (yv_ldb ti3 rfl rfl (rd_f at1) ((Sub.refl _).trans (VpartyParty.s1 (⟨x2.v, x2.leaf, u1_12_2, x2.own, x2.has', x2.nodes, x2.epoch, x2.init'⟩ : VpartyParty))) (Ty.len _ _) (fun _ => rfl))) ?_
     obtain ⟨g49, h⟩ := gdE h
     refine sqv rfl (yv_ia ia62 rfl rfl rfl g49) ?_
     obtain ⟨x50, hx50, h⟩ := letX h
     refine sqv rfl (yxb hx50 (yv_ldb ti4 rfl rfl (rd_bl at0) ((Sub.refl _).trans (arr_sub tyB y1_19.2.2.1 x48 g49)) (Ty.len _ _) (fun _ => rfl))) ?_
     refine sqv rfl (yv_assign rfl rfl) ?_
     refine jl_nil ?_
     refine jx_then ?_
     rcases x50 with _ | _
     ·
      replace h := brF h
      refine jc_f rfl ?_
      refine jc_seq ?_
      refine jc_reg ?_
      refine sqv rfl (yv_move rfl rfl) ?_
      refine sqv rfl (yv_nilp rfl rfl hv_b1_12) ?_
      refine sqv rfl (yv_fa fa143_0 rfl rfl) ?_
      refine sqv rfl (yv_fa fa64_0 rfl rfl) ?_
      obtain ⟨x51, hx51, h⟩ := letX h
      refine sqv rfl (yxi hx51 (yv_ldb ti3 rfl rfl (rd_f at1) (((Sub.refl _).trans (VpartyParty.s0 (⟨x2.v, x2.leaf, u1_12_2, x2.own, x2.has', x2.nodes, x2.epoch, x2.init'⟩ : VpartyParty))).trans (SView.s0 x2.v)) (Ty.len _ _) (fun _ => rfl))) ?_
      obtain ⟨x52, hx52, h⟩ := letX h
      refine sqv rfl (yxb hx52 (yv_geq rfl rfl rfl)) ?_
      refine sqv rfl (yv_assign rfl rfl) ?_
      refine jl_nil ?_
      refine jx_then ?_
      rcases x52 with _ | _
      ·
       replace h := brF h
       refine jc_f rfl ?_
       refine jc_seq ?_
       refine jc_reg ?_
       refine sqv rfl (yv_ldb ti38 rfl rfl (rd_bl at3) (Sub.refl _) (Ty.len _ _) (by simp)) ?_
       obtain ⟨y53, hy53, h⟩ := bdE h
       refine sq rfl (so_callv pf117 rfl rfl rfl rfl (fun σ hs => F117_c hy53 σ.w σ.O hs.olt v1_2 v1_3 v1_6 (cw0 (rd_f at4) hs) (cw0 (rd_f at5) hs) (cw0 (rd_f at6) hs)) ?_)
       obtain ⟨x54, hx54, h⟩ := letX h
       refine sqv rfl (yxb hx54 (yv_not rfl rfl)) ?_
       refine sqv rfl (yv_assign rfl rfl) ?_
       refine jl_nil ?_
       refine jx_then ?_
       rcases x54 with _ | _
       ·
        replace h := brF h
        refine jc_f rfl ?_
        refine jc_skip ?_
        refine jx_blk ?_
        refine jx_then ?_
        refine jc_seq ?_
        refine jc_reg ?_
        obtain ⟨x55, hx55, h⟩ := letX h
        refine sqv rfl (yxg (C := tySView) hx55 (yv_ldb ti64 rfl rfl (rd_bl at2) (Sub.refl _) (Ty.len _ _) (by simp))) ?_
        refine sqv rfl (yv_ldb ti38 rfl rfl (rd_bl at3) (Sub.refl _) (Ty.len _ _) (by simp)) ?_
        obtain ⟨y56, hy56, h⟩ := bdE h
        refine sq rfl (so_callv pf90 rfl rfl rfl rfl (fun σ hs => F90_c hy56 σ.w σ.O hs.olt v1_2 v1_3 v1_6 (cw0 (rd_f at4) hs) (cw0 (rd_f at5) hs) (cw0 (rd_f at6) hs)) ?_)
        refine sq rfl (so_sta ti64 rfl rfl rfl rfl (Upd.refl (by simp [Ty.len])) (Ty.len _ _) (Ty.one _ _) (xs' := tySView.enc y56) se2 ?_)
        refine jl_nil ?_
        refine jx_then ?_
        refine jc_seq ?_
        refine jc_reg ?_
        refine sqv rfl (yv_fa fa64_1 rfl rfl) ?_
        obtain ⟨x57, hx57, h⟩ := letX h
        refine sqv rfl (yxg (C := tySTree) hx57 (yv_ldb ti61 rfl rfl (rd_bl at2) ((Sub.refl _).trans (SView.s1 y56)) (Ty.len _ _) (by simp))) ?_
        refine sqv rfl (yv_fa fa38_1 rfl rfl) ?_
        obtain ⟨x58, hx58, h⟩ := letX h
        refine sqv rfl (yxi hx58 (yv_ldb ti3 rfl rfl (rd_bl at3) ((Sub.refl _).trans (VCommit.s1 (⟨p1.Epoch, p1.From, v1_2, v1_3, p1.Seal, p1.Path, v1_6, p1.Tag, p1.Sig⟩ : VCommit))) (Ty.len _ _) (fun _ => rfl))) ?_
        obtain ⟨x59, hx59, h⟩ := letX h
        refine sqv rfl (yxg (C := (Ty.arr 8 tyB)) hx59 (yv_ldb ti62 rfl rfl (rd_bl at1) (Sub.refl _) (Ty.len _ _) (by simp))) ?_
        obtain ⟨y60, hy60, h⟩ := bdE h
        refine sq rfl (so_callx pf118 rfl rfl rfl rfl (fun σ hs => F118_c hy60 σ.w σ.O hs.olt) (fun _ => (.cons .nil)) (fun _ => .nil) (fun r61 => ?_))
        refine sqv rfl (yv_assign rfl rfl) ?_
        refine jl_nil ?_
        refine jx_then ?_
        refine jc_seq ?_
        refine jc_seq ?_
        refine jc_reg ?_
        refine sqv rfl (yv_move rfl rfl) ?_
        obtain ⟨x62, hx62, h⟩ := letX h
        refine sqv rfl (yv_len isl168 rfl rfl (rd_o at0) hx62) ?_
        refine sqv rfl (yv_fa fa38_6 rfl rfl) ?_
        refine sqv rfl (yv_ldb ti34 rfl rfl (rd_bl at4) ((Sub.refl _).trans (VCommit.s6 (⟨p1.Epoch, p1.From, v1_2, v1_3, p1.Seal, p1.Path, v1_6, p1.Tag, p1.Sig⟩ : VCommit))) (Ty.len _ _) (fun _ => rfl)) ?_
        obtain ⟨x63, hx63, h⟩ := letX h
        refine sqv rfl (yv_lenx isl34 rfl rfl (rd_f at6) hx63) ?_
        obtain ⟨x64, hx64, h⟩ := letX h
        refine sqv rfl (yxb hx64 (yv_neq rfl rfl rfl)) ?_
        refine jl_nil ?_
        refine jx_then ?_
        rcases x64 with _ | _
        ·
         replace h := brF h
         refine jc_f rfl ?_
         refine jc_skip ?_
         refine jx_then ?_
         refine jc_seq ?_
         refine jc_reg ?_
         refine sqv rfl (yv_move rfl rfl) ?_
         refine sqv rfl (yv_ldb ti38 rfl rfl (rd_bl at4) (Sub.refl _) (Ty.len _ _) (by simp)) ?_
         refine sqv rfl (yv_move rfl rfl) ?_
         obtain ⟨y67, hy67, h⟩ := bdE h
         refine sq rfl (so_callv pf119 rfl rfl rfl rfl (fun σ hs => F119_c hy67 σ.w σ.O hs.olt v0 v1_2 v1_3 v1_6 r61 (cw0 (rd_f at3) hs) (cw0 (rd_f at4) hs) (cw0 (rd_f at5) hs) (cs0 (rs_f at6) hs) (cw0 (rd_o at0) hs)) ?_)
         refine sqv rfl (yv_move rfl rfl) ?_
         refine sqv rfl (yv_ext rfl rfl rfl) ?_
         refine sqv rfl (yv_ext rfl rfl rfl) ?_
         refine sqv rfl (yv_ext rfl rfl rfl) ?_
         refine sq rfl (so_alloc ti25 (by decide) rfl rfl fun b68 => ?_)
         refine sq rfl (so_sta ti25 rfl rfl rfl rfl (Upd.refl (by simp [Ty.len])) (Ty.len _ _) (Ty.one _ _) (xs' := (Ty.arr 32 (tyI .u8)).enc y67.1) se0 ?_)
         refine sqv rfl (yv_assign rfl rfl) ?_
         refine sqv rfl (yv_assign rfl rfl) ?_
         refine jl_nil ?_
         refine jx_then ?_
         refine jc_seq ?_
         refine jc_seq ?_
         refine jc_reg ?_
         refine sqv rfl (yv_move rfl rfl) ?_
         obtain ⟨x69, hx69, h⟩ := letX h
         refine sqv rfl (yxb hx69 (yv_neq rfl rfl rfl)) ?_
         refine jl_nil ?_
         refine jx_then ?_
         rcases x69 with _ | _
         ·
          replace h := brF h
          refine jc_f rfl ?_
          refine jc_skip ?_
          refine jx_then ?_
          refine jc_seq ?_
          refine jc_reg ?_
          refine sqv rfl (yv_move rfl rfl) ?_
          obtain ⟨y72, hy72, h⟩ := bdE h
          refine sq rfl (so_callx pf45 rfl rfl rfl rfl (fun σ hs => F45_c hy72 σ.w σ.O hs.olt v0 (cs0 (rs_f at3) hs)) (fun _ => (.cons .nil)) (fun _ => (.cons (.cons .nil))) (fun ⟨r73, r74⟩ => ?_))
          refine sqv rfl (yv_assign rfl rfl) ?_
          refine jl_nil ?_
          refine jx_then ?_
          refine jc_seq ?_
          refine jc_reg ?_
          refine sqv rfl (yv_move rfl rfl) ?_
          obtain ⟨x75, hx75, h⟩ := letX h
          refine sqv rfl (yxg (C := (Ty.arr 32 (tyI .u8))) hx75 (yv_ldb ti25 rfl rfl (rd_bl at1) (Sub.refl _) (Ty.len _ _) (by simp))) ?_
          refine sqv rfl (yv_move rfl rfl) ?_
          refine sqv rfl (yv_ldb ti64 rfl rfl (rd_bl at5) (Sub.refl _) (Ty.len _ _) (by simp)) ?_
          rcases moE h with ⟨hm_x76, h⟩ | ⟨x76, hm_x76, h⟩
          ·
           skip
           obtain ⟨hno, h⟩ := gdE h
           exact hno.elim
          ·
           skip
           refine nj_xopt (C := tyVpartyParty) (m := mSpartyParty) de0 at1 at0 hm_x76 fun b77 hv_b77 => ?_
           subst hv_b77
           refine nj_xSpartyParty at0 fun u78_2 hu78 => ?_
           subst hu78
           obtain ⟨y79, hy79, h⟩ := bdE h
           refine sq rfl (so_callmx pf120 rfl rfl rfl rfl rfl (fun σ hs => F120_c hy79 σ.w σ.O hs.olt b77 u78_2 (cs0 (rs_f at0) hs) (cm0 hs at0)) (fun _ => se0) (fun _ => rfl) (fun _ => .nil) (fun _ => (.cons .nil)) (fun r80 => ?_))
           refine sqv rfl (yv_move rfl rfl) ?_
           refine sqv rfl (yv_ext rfl rfl rfl) ?_
           refine sqv rfl (yv_ext rfl rfl rfl) ?_
           refine sq rfl (so_alloc ti25 (by decide) rfl rfl fun b81 => ?_)
           refine sq rfl (so_sta ti25 rfl rfl rfl rfl (Upd.refl (by simp [Ty.len])) (Ty.len _ _) (Ty.one _ _) (xs' := (Ty.arr 32 (tyI .u8)).enc y79.1) se0 ?_)
           refine sqv rfl (yv_assign rfl rfl) ?_
           refine jl_nil ?_
           refine jx_then ?_
           refine jc_seq ?_
           refine jc_seq ?_
           refine jc_reg ?_
           refine sqv rfl (yv_move rfl rfl) ?_
           obtain ⟨x82, hx82, h⟩ := letX h
           refine sqv rfl (yxb hx82 (yv_not rfl rfl)) ?_
           refine jl_nil ?_
           refine jx_then ?_
           rcases x82 with _ | _
           ·
            replace h := brF h
            refine jc_f rfl ?_
            refine jc_skip ?_
            refine jx_then ?_
            refine jc_seq ?_
            refine jc_regd (k := 8) hmix rfl [([], .blk b1 38 (tyVCommit.enc (⟨p1.Epoch, p1.From, v1_2, v1_3, p1.Seal, p1.Path, v1_6, p1.Tag, p1.Sig⟩ : VCommit)))] [fa true mBl b1_12 (tyVpartyParty.enc (⟨x2.v, x2.leaf, u1_12_2, x2.own, x2.has', x2.nodes, x2.epoch, x2.init'⟩ : VpartyParty))] (.cons at7 .nil) (.cons at6 .nil) ?_
            refine tk (i := 0) rfl (by kernel_rfl) rfl (yv_move rfl rfl) .nil .nil ?_
            refine tk (i := 1) rfl (by kernel_rfl) rfl (yv_nilp rfl rfl hv_b1_12) .nil .nil ?_
            refine tk (i := 2) rfl (by kernel_rfl) rfl (yv_fa fa143_0 rfl rfl) .nil .nil ?_
            obtain ⟨x85, hx85, h⟩ := letX h
            refine tk (i := 3) rfl (by kernel_rfl) rfl (yxg (C := tySView) hx85 (yv_ldb ti64 rfl rfl (rd_f at0) ((Sub.refl _).trans (VpartyParty.s0 (⟨x2.v, x2.leaf, u1_12_2, x2.own, x2.has', x2.nodes, x2.epoch, x2.init'⟩ : VpartyParty))) (Ty.len _ _) (by simp))) .nil (.cons at0 .nil) ?_
            refine tk (i := 4) rfl (by kernel_rfl) rfl (yv_ldb ti38 rfl rfl (rd_bl at0) (Sub.refl _) (Ty.len _ _) (by simp)) (.cons at0 (by kernel_rfl) .nil) .nil ?_
            obtain ⟨y86, hy86, h⟩ := bdE h
            refine jg_one (i := 5) (by kernel_rfl) (gst rfl rfl (so_callv pf92 rfl rfl rfl rfl (fun σ hs => F92_c hy86 σ.w σ.O hs.olt v1_2 v1_3 v1_6 (cw0 (rd_f at9) hs) (cw0 (rd_f at10) hs) (cw0 (rd_f at11) hs)) ?_))
            refine ng (.cons at7 .nil) (.cons at6 .nil) ?_
            refine tk (i := 6) rfl (by kernel_rfl) rfl (yv_fa fa64_4 rfl rfl) .nil .nil ?_
            obtain ⟨c87, hc87, h⟩ := letX h
            refine jg_one (i := 7) (by kernel_rfl) (gst rfl rfl (so_staX (D := tySView) hc87 ti25 rfl rfl rfl rfl (Upd.comp (Sub.refl _) (SView.u4 y56 y86) (Upd.refl (by simp [Ty.len]))) (Ty.len _ _) (Ty.one _ _) se6 ?_))
            refine ng (.cons at7 .nil) (.cons at6 .nil) ?_
            refine jg_nil (by kernel_rfl) ?_
            refine jx_then ?_
            refine jc_seq ?_
            refine jc_seq ?_
            refine jc_regd (k := 12) hmix rfl [([], .blk b1_25 64 (tySView.enc c87)), ([], .blk b81 25 ((Ty.arr 32 (tyI .u8)).enc y79.1)), ([], .blk b1 38 (tyVCommit.enc (⟨p1.Epoch, p1.From, v1_2, v1_3, p1.Seal, p1.Path, v1_6, p1.Tag, p1.Sig⟩ : VCommit)))] [fa true mBl b1_12 (tyVpartyParty.enc (⟨x2.v, x2.leaf, u1_12_2, x2.own, x2.has', x2.nodes, x2.epoch, x2.init'⟩ : VpartyParty))] (.cons at6 (.cons at0 (.cons at7 .nil))) (.cons at6 .nil) ?_
            refine tk (i := 0) rfl (by kernel_rfl) rfl (yv_move rfl rfl) .nil .nil ?_
            refine tk (i := 1) rfl (by kernel_rfl) rfl (yv_ldb ti64 rfl rfl (rd_bl at0) (Sub.refl _) (Ty.len _ _) (by simp)) (.cons at0 (by kernel_rfl) .nil) .nil ?_
            refine tk (i := 2) rfl (by kernel_rfl) rfl (yv_move rfl rfl) .nil .nil ?_
            refine tk (i := 3) rfl (by kernel_rfl) rfl (yv_nilp rfl rfl hv_b1_12) .nil .nil ?_
            refine tk (i := 4) rfl (by kernel_rfl) rfl (yv_fa fa143_7 rfl rfl) .nil .nil ?_
            obtain ⟨x88, hx88, h⟩ := letX h
            refine tk (i := 5) rfl (by kernel_rfl) rfl (yxg (C := (Ty.arr 32 (tyI .u8))) hx88 (yv_ldb ti25 rfl rfl (rd_f at0) ((Sub.refl _).trans (VpartyParty.s7 (⟨x2.v, x2.leaf, u1_12_2, x2.own, x2.has', x2.nodes, x2.epoch, x2.init'⟩ : VpartyParty))) (Ty.len _ _) (by simp))) .nil (.cons at0 .nil) ?_
            obtain ⟨x89, hx89, h⟩ := letX h
            refine tk (i := 6) rfl (by kernel_rfl) rfl (yxg (C := (Ty.arr 32 (tyI .u8))) hx89 (yv_ldb ti25 rfl rfl (rd_bl at0) (Sub.refl _) (Ty.len _ _) (by simp))) (.cons at1 (by kernel_rfl) .nil) .nil ?_
            refine tk (i := 9) rfl (by kernel_rfl) rfl (yv_fa fa38_7 rfl rfl) .nil .nil ?_
            obtain ⟨x90, hx90, h⟩ := letX h
            refine tk (i := 10) rfl (by kernel_rfl) rfl (yxg (C := (Ty.arr 32 (tyI .u8))) hx90 (yv_ldb ti25 rfl rfl (rd_bl at0) ((Sub.refl _).trans (VCommit.s7 (⟨p1.Epoch, p1.From, v1_2, v1_3, p1.Seal, p1.Path, v1_6, p1.Tag, p1.Sig⟩ : VCommit))) (Ty.len _ _) (by simp))) (.cons at2 (by kernel_rfl) .nil) .nil ?_
            obtain ⟨y91, hy91, h⟩ := bdE h
            refine jg_one (i := 7) (by kernel_rfl) (gst rfl rfl (so_callv pf93 rfl rfl rfl rfl (fun σ hs => F93_c hy91 σ.w σ.O hs.olt) ?_))
            refine ng (.cons at6 (.cons at0 (.cons at7 .nil))) (.cons at6 .nil) ?_
            obtain ⟨y92, hy92, h⟩ := bdE h
            refine jg_one (i := 8) (by kernel_rfl) (gst rfl rfl (so_callmx pf94 rfl rfl rfl rfl rfl (fun σ hs => F94_c hy92 σ.w σ.O hs.olt b77 r80 (cs0 (rs_f at0) hs) (cm0 hs at1)) (fun _ => se1) (fun _ => rfl) (fun _ => .nil) (fun _ => (.cons .nil)) (fun r93 => ?_)))
            refine ng (.cons at6 (.cons at0 (.cons at7 .nil))) (.cons at7 .nil) ?_
            obtain ⟨x94, hx94, h⟩ := letX h
            refine tk (i := 11) rfl (by kernel_rfl) rfl (yxb hx94 (yv_nea (C := (Ty.arr 32 (tyI .u8))) eq25 (by decide) eg25 rfl rfl rfl)) .nil .nil ?_
            refine jg_nil (by kernel_rfl) ?_
            refine jx_then ?_
            rcases x94 with _ | _
            ·
             replace h := brF h
             refine jc_f rfl ?_
             refine jc_skip ?_
             refine jx_then ?_
             refine jc_seq ?_
             refine jc_reg ?_
             refine sqv rfl (yv_move rfl rfl) ?_
             refine sqv rfl (yv_assign rfl rfl) ?_
             refine sqv rfl (yv_assign rfl rfl) ?_
             refine jl_nil ?_
             refine jx_then ?_
             refine jc_ret ?_
             refine nj_frzb inout0 de1 ?_
             refine nj_s (m := (mPt tyVpartyParty mSpartyParty)) (v := (some ⟨b77, 0, none⟩)) (p := (some (⟨y92.2.v, y92.2.leaf, y92.2.signer, y92.2.own, y92.2.has', y92.2.nodes, y92.2.epoch, y92.2.init'⟩ : SpartyParty))) (rq_pt (rs_f at0) (rq_SpartyParty (rs_f at1))) ?_
             cases h
             exact jx_ret rfl (rr_tmp rfl (rr_tmp rfl rr_nil)) ⟨((some ⟨b77, 0, none⟩)), rfl, rfl, rfl, rfl⟩ .nil (.cons at0 .nil) rfl (by simp)
            ·
             replace h := brT h
             refine jc_t rfl ?_
             refine jc_seq ?_
             refine jc_reg ?_
             refine sqv rfl (yv_assign rfl rfl) ?_
             refine sqv rfl (yv_assign rfl rfl) ?_
             refine jl_nil ?_
             refine jx_then ?_
             refine jc_ret ?_
             refine jx_tr ?_
             refine nj_s (m := (mPt tyVpartyParty mSpartyParty)) (v := (none : Option Addr)) (p := none) rq_pt0 ?_
             cases h
             exact jx_ret rfl (rr_tmp rfl (rr_tmp rfl rr_nil)) ⟨((none : Option Addr)), rfl, rfl, rfl, rfl⟩ .nil (.cons at0 .nil) rfl (by simp)
           ·
            replace h := brT h
            refine jc_t rfl ?_
            refine jc_seq ?_
            refine jc_reg ?_
            refine sqv rfl (yv_assign rfl rfl) ?_
            refine sqv rfl (yv_assign rfl rfl) ?_
            refine jl_nil ?_
            refine jx_then ?_
            refine jc_ret ?_
            refine jx_tr ?_
            refine nj_s (m := (mPt tyVpartyParty mSpartyParty)) (v := (none : Option Addr)) (p := none) rq_pt0 ?_
            cases h
            exact jx_ret rfl (rr_tmp rfl (rr_tmp rfl rr_nil)) ⟨((none : Option Addr)), rfl, rfl, rfl, rfl⟩ .nil (.cons at0 .nil) rfl (by simp)
         ·
          replace h := brT h
          refine jc_t rfl ?_
          refine jc_seq ?_
          refine jc_reg ?_
          refine sqv rfl (yv_move rfl rfl) ?_
          refine sqv rfl (yv_assign rfl rfl) ?_
          refine sqv rfl (yv_assign rfl rfl) ?_
          refine jl_nil ?_
          refine jx_then ?_
          refine jc_ret ?_
          refine jx_tr ?_
          refine nj_s (m := (mPt tyVpartyParty mSpartyParty)) (v := (none : Option Addr)) (p := none) rq_pt0 ?_
          cases h
          exact jx_ret rfl (rr_tmp rfl (rr_tmp rfl rr_nil)) ⟨((none : Option Addr)), rfl, rfl, rfl, rfl⟩ .nil (.cons at0 .nil) rfl (by simp)
        ·
         replace h := brT h
         refine jc_t rfl ?_
         refine jc_seq ?_
         refine jc_reg ?_
         refine sqv rfl (yv_assign rfl rfl) ?_
         refine sqv rfl (yv_assign rfl rfl) ?_
         refine jl_nil ?_
         refine jx_then ?_
         refine jc_ret ?_
         refine jx_tr ?_
         refine nj_s (m := (mPt tyVpartyParty mSpartyParty)) (v := (none : Option Addr)) (p := none) rq_pt0 ?_
         cases h
         exact jx_ret rfl (rr_tmp rfl (rr_tmp rfl rr_nil)) ⟨((none : Option Addr)), rfl, rfl, rfl, rfl⟩ .nil (.cons at0 .nil) rfl (by simp)
       ·
        replace h := brT h
        refine jc_t rfl ?_
        refine jc_seq ?_
        refine jc_reg ?_
        refine sqv rfl (yv_assign rfl rfl) ?_
        refine sqv rfl (yv_assign rfl rfl) ?_
        refine jl_nil ?_
        refine jx_then ?_
        refine jc_ret ?_
        refine jx_br ?_
        refine jx_tr ?_
        refine nj_s (m := (mPt tyVpartyParty mSpartyParty)) (v := (none : Option Addr)) (p := none) rq_pt0 ?_
        cases h
        exact jx_ret rfl (rr_tmp rfl (rr_tmp rfl rr_nil)) ⟨((none : Option Addr)), rfl, rfl, rfl, rfl⟩ .nil (.cons at0 .nil) rfl (by simp)
      ·
       replace h := brT h
       refine jc_t rfl ?_
       refine jc_seq ?_
       refine jc_reg ?_
       refine sqv rfl (yv_assign rfl rfl) ?_
       refine sqv rfl (yv_assign rfl rfl) ?_
       refine jl_nil ?_
       refine jx_then ?_
       refine jc_ret ?_
       refine jx_br ?_
       refine jx_tr ?_
       refine nj_s (m := (mPt tyVpartyParty mSpartyParty)) (v := (none : Option Addr)) (p := none) rq_pt0 ?_
       cases h
       exact jx_ret rfl (rr_tmp rfl (rr_tmp rfl rr_nil)) ⟨((none : Option Addr)), rfl, rfl, rfl, rfl⟩ .nil (.cons at0 .nil) rfl (by simp)
     ·
      replace h := brT h
      refine jc_t rfl ?_
      refine jc_seq ?_
      refine jc_reg ?_
      refine sqv rfl (yv_assign rfl rfl) ?_
      refine sqv rfl (yv_assign rfl rfl) ?_
      refine jl_nil ?_
      refine jx_then ?_
      refine jc_ret ?_
      refine jx_br ?_
      refine jx_tr ?_
      refine nj_s (m := (mPt tyVpartyParty mSpartyParty)) (v := (none : Option Addr)) (p := none) rq_pt0 ?_
      cases h
      exact jx_ret rfl (rr_tmp rfl (rr_tmp rfl rr_nil)) ⟨((none : Option Addr)), rfl, rfl, rfl, rfl⟩ .nil (.cons at0 .nil) rfl (by simp)
    ·
     replace h := brT h
     refine jc_t rfl ?_
     refine jc_seq ?_
     refine jc_reg ?_
     refine sqv rfl (yv_move rfl rfl) ?_
     refine sqv rfl (yv_assign rfl rfl) ?_
     refine sqv rfl (yv_assign rfl rfl) ?_
     refine jl_nil ?_
     refine jx_then ?_
     refine jc_ret ?_
     refine jx_br ?_
     refine jx_tr ?_
     refine nj_s (m := (mPt tyVpartyParty mSpartyParty)) (v := (none : Option Addr)) (p := none) rq_pt0 ?_
     cases h
     exact jx_ret rfl (rr_tmp rfl (rr_tmp rfl rr_nil)) ⟨((none : Option Addr)), rfl, rfl, rfl, rfl⟩ .nil (.cons at0 .nil) rfl (by simp)
   have hs6_33_24 : ∀ (b1_25 : Nat) (b1_26 : Nat) (b1_27 : Nat), J6_33 [([], .blk b1 38 (tyVCommit.enc (⟨p1.Epoch, p1.From, v1_2, v1_3, p1.Seal, p1.Path, v1_6, p1.Tag, p1.Sig⟩ : VCommit)))] [fa true mBl b1_12 (tyVpartyParty.enc (⟨x2.v, x2.leaf, u1_12_2, x2.own, x2.has', x2.nodes, x2.epoch, x2.init'⟩ : VpartyParty))] 2 #[true, true, true, true, true, true, true, true, true, true, true, true, true, true, true, true, true, true, true, false, false] [(0, .pointer v0), (3, pt b1 0), (4, .pointer (none : Option Addr)), (5, .int .i64 0), (7, pt b1_25 0), (8, pt b1_26 0), (9, pt b1_27 0), (37, ag ((Ty.arr 8 tyB).enc y1_19.2.2.1)), (38, .int .i64 y1_19.2.2.2)] [.blk b1_27 62 ((Ty.arr 8 tyB).enc (Vector.replicate 8 false)), .blk b1_26 62 ((Ty.arr 8 tyB).enc y1_19.2.1), .blk b1_25 64 (tySView.enc y1_19.1), .blk b1 38 (tyVCommit.enc (⟨p1.Epoch, p1.From, v1_2, v1_3, p1.Seal, p1.Path, v1_6, p1.Tag, p1.Sig⟩ : VCommit))] [fa true mKey u1_12_2 x2.signer, fa true mBl b1_12 (tyVpartyParty.enc (⟨x2.v, x2.leaf, u1_12_2, x2.own, x2.has', x2.nodes, x2.epoch, x2.init'⟩ : VpartyParty)), fa true mSpartyParty (⟨x2.v, x2.leaf, u1_12_2, x2.own, x2.has', x2.nodes, x2.epoch, x2.init'⟩ : VpartyParty) x2, fa true (mPt tyVpartyParty mSpartyParty) v0 p0, fa false (mRow tySOp) v1_2 p1.Ops, fa false (mRow tySVote) v1_3 p1.Votes, fa true (mSl tySl (mRow (tyI .u8))) v1_6 p1.Boxes] := by
    intro b1_25 b1_26 b1_27
    refine hJ6_33_1 _ _ _ _ _ _ _ ?_
    refine jg_ready (rs := [19]) (by kernel_rfl) (by simp) (.cons ?_ .nil)
    ·
     refine gst rfl rfl (so_sta ti62 rfl rfl rfl rfl (Upd.refl (by simp [Ty.len])) (Ty.len _ _) (Ty.one _ _) (xs' := (Ty.arr 8 tyB).enc y1_19.2.2.1) se0 ?_)
     refine ng (.cons at3 .nil) (.cons at1 .nil) ?_
     refine jg_ls (listed' := #[true, true, true, true, true, true, true, true, true, true, true, true, true, true, true, true, true, true, true, true, false]) (by kernel_rfl) ?_
     exact nj_weak (hJ6_33_2 _ _ _ _ _ _ _ (hs6_33_25 b1_25 b1_26 b1_27)) ⟨rfl, rfl, rfl, rfl, rfl, rfl, rfl, rfl, trivial⟩ (.cons de0 (.cons de0 (.cons de0 (.cons de0 .nil)))) (.cons at0 (.cons at1 (.cons at2 (.cons at3 (.cons at4 (.cons at5 (.cons at6 .nil)))))))
   have hs6_33_23 : ∀ (b1_25 : Nat) (b1_26 : Nat) (b1_27 : Nat), J6_33 [([], .blk b1 38 (tyVCommit.enc (⟨p1.Epoch, p1.From, v1_2, v1_3, p1.Seal, p1.Path, v1_6, p1.Tag, p1.Sig⟩ : VCommit)))] [fa true mBl b1_12 (tyVpartyParty.enc (⟨x2.v, x2.leaf, u1_12_2, x2.own, x2.has', x2.nodes, x2.epoch, x2.init'⟩ : VpartyParty))] 3 #[true, true, true, true, true, true, true, true, true, true, true, true, true, true, true, true, true, true, false, false, false] [(0, .pointer v0), (3, pt b1 0), (4, .pointer (none : Option Addr)), (5, .int .i64 0), (7, pt b1_25 0), (8, pt b1_26 0), (9, pt b1_27 0), (36, ag ((Ty.arr 8 tyB).enc y1_19.2.1)), (37, ag ((Ty.arr 8 tyB).enc y1_19.2.2.1)), (38, .int .i64 y1_19.2.2.2)] [.blk b1_27 62 ((Ty.arr 8 tyB).enc (Vector.replicate 8 false)), .blk b1_26 62 ((Ty.arr 8 tyB).enc (Vector.replicate 8 false)), .blk b1_25 64 (tySView.enc y1_19.1), .blk b1 38 (tyVCommit.enc (⟨p1.Epoch, p1.From, v1_2, v1_3, p1.Seal, p1.Path, v1_6, p1.Tag, p1.Sig⟩ : VCommit))] [fa true mKey u1_12_2 x2.signer, fa true mBl b1_12 (tyVpartyParty.enc (⟨x2.v, x2.leaf, u1_12_2, x2.own, x2.has', x2.nodes, x2.epoch, x2.init'⟩ : VpartyParty)), fa true mSpartyParty (⟨x2.v, x2.leaf, u1_12_2, x2.own, x2.has', x2.nodes, x2.epoch, x2.init'⟩ : VpartyParty) x2, fa true (mPt tyVpartyParty mSpartyParty) v0 p0, fa false (mRow tySOp) v1_2 p1.Ops, fa false (mRow tySVote) v1_3 p1.Votes, fa true (mSl tySl (mRow (tyI .u8))) v1_6 p1.Boxes] := by
    intro b1_25 b1_26 b1_27
    refine hJ6_33_1 _ _ _ _ _ _ _ ?_
    refine jg_ready (rs := [18]) (by kernel_rfl) (by simp) (.cons ?_ .nil)
    ·
     refine gst rfl rfl (so_sta ti62 rfl rfl rfl rfl (Upd.refl (by simp [Ty.len])) (Ty.len _ _) (Ty.one _ _) (xs' := (Ty.arr 8 tyB).enc y1_19.2.1) se1 ?_)
     refine ng (.cons at3 .nil) (.cons at1 .nil) ?_
     refine jg_ls (listed' := #[true, true, true, true, true, true, true, true, true, true, true, true, true, true, true, true, true, true, true, false, false]) (by kernel_rfl) ?_
     exact nj_weak (hJ6_33_2 _ _ _ _ _ _ _ (hs6_33_24 b1_25 b1_26 b1_27)) ⟨rfl, rfl, rfl, rfl, rfl, rfl, rfl, rfl, rfl, trivial⟩ (.cons de0 (.cons de0 (.cons de0 (.cons de0 .nil)))) (.cons at0 (.cons at1 (.cons at2 (.cons at3 (.cons at4 (.cons at5 (.cons at6 .nil)))))))
   have hs6_33_22 : ∀ (b1_25 : Nat) (b1_26 : Nat) (b1_27 : Nat), J6_33 [([], .blk b1 38 (tyVCommit.enc (⟨p1.Epoch, p1.From, v1_2, v1_3, p1.Seal, p1.Path, v1_6, p1.Tag, p1.Sig⟩ : VCommit)))] [fa true mBl b1_12 (tyVpartyParty.enc (⟨x2.v, x2.leaf, u1_12_2, x2.own, x2.has', x2.nodes, x2.epoch, x2.init'⟩ : VpartyParty))] 4 #[true, true, true, true, true, true, true, true, true, true, true, true, true, true, true, true, true, false, false, false, false] [(0, .pointer v0), (3, pt b1 0), (4, .pointer (none : Option Addr)), (5, .int .i64 0), (7, pt b1_25 0), (8, pt b1_26 0), (9, pt b1_27 0), (35, ag (tySView.enc y1_19.1)), (36, ag ((Ty.arr 8 tyB).enc y1_19.2.1)), (37, ag ((Ty.arr 8 tyB).enc y1_19.2.2.1)), (38, .int .i64 y1_19.2.2.2)] [.blk b1_27 62 ((Ty.arr 8 tyB).enc (Vector.replicate 8 false)), .blk b1_26 62 ((Ty.arr 8 tyB).enc (Vector.replicate 8 false)), .blk b1_25 64 (tySView.enc SView.zero), .blk b1 38 (tyVCommit.enc (⟨p1.Epoch, p1.From, v1_2, v1_3, p1.Seal, p1.Path, v1_6, p1.Tag, p1.Sig⟩ : VCommit))] [fa true mKey u1_12_2 x2.signer, fa true mBl b1_12 (tyVpartyParty.enc (⟨x2.v, x2.leaf, u1_12_2, x2.own, x2.has', x2.nodes, x2.epoch, x2.init'⟩ : VpartyParty)), fa true mSpartyParty (⟨x2.v, x2.leaf, u1_12_2, x2.own, x2.has', x2.nodes, x2.epoch, x2.init'⟩ : VpartyParty) x2, fa true (mPt tyVpartyParty mSpartyParty) v0 p0, fa false (mRow tySOp) v1_2 p1.Ops, fa false (mRow tySVote) v1_3 p1.Votes, fa true (mSl tySl (mRow (tyI .u8))) v1_6 p1.Boxes] := by
    intro b1_25 b1_26 b1_27
    refine hJ6_33_1 _ _ _ _ _ _ _ ?_
    refine jg_ready (rs := [17]) (by kernel_rfl) (by simp) (.cons ?_ .nil)
    ·
     refine gst rfl rfl (so_sta ti64 rfl rfl rfl rfl (Upd.refl (by simp [Ty.len])) (Ty.len _ _) (Ty.one _ _) (xs' := tySView.enc y1_19.1) se2 ?_)
     refine ng (.cons at3 .nil) (.cons at1 .nil) ?_
     refine jg_ls (listed' := #[true, true, true, true, true, true, true, true, true, true, true, true, true, true, true, true, true, true, false, false, false]) (by kernel_rfl) ?_
     exact nj_weak (hJ6_33_2 _ _ _ _ _ _ _ (hs6_33_23 b1_25 b1_26 b1_27)) ⟨rfl, rfl, rfl, rfl, rfl, rfl, rfl, rfl, rfl, rfl, trivial⟩ (.cons de0 (.cons de0 (.cons de0 (.cons de0 .nil)))) (.cons at0 (.cons at1 (.cons at2 (.cons at3 (.cons at4 (.cons at5 (.cons at6 .nil)))))))
   have hs6_33_21 : ∀ (b1_26 : Nat) (b1_27 : Nat), J6_33 [([], .blk b1 38 (tyVCommit.enc (⟨p1.Epoch, p1.From, v1_2, v1_3, p1.Seal, p1.Path, v1_6, p1.Tag, p1.Sig⟩ : VCommit)))] [fa true mBl b1_12 (tyVpartyParty.enc (⟨x2.v, x2.leaf, u1_12_2, x2.own, x2.has', x2.nodes, x2.epoch, x2.init'⟩ : VpartyParty))] 5 #[true, true, true, true, true, true, true, true, true, true, true, true, true, true, false, true, true, false, false, false, false] [(0, .pointer v0), (3, pt b1 0), (4, .pointer (none : Option Addr)), (5, .int .i64 0), (8, pt b1_26 0), (9, pt b1_27 0), (35, ag (tySView.enc y1_19.1)), (36, ag ((Ty.arr 8 tyB).enc y1_19.2.1)), (37, ag ((Ty.arr 8 tyB).enc y1_19.2.2.1)), (38, .int .i64 y1_19.2.2.2)] [.blk b1_27 62 ((Ty.arr 8 tyB).enc (Vector.replicate 8 false)), .blk b1_26 62 ((Ty.arr 8 tyB).enc (Vector.replicate 8 false)), .blk b1 38 (tyVCommit.enc (⟨p1.Epoch, p1.From, v1_2, v1_3, p1.Seal, p1.Path, v1_6, p1.Tag, p1.Sig⟩ : VCommit))] [fa true mKey u1_12_2 x2.signer, fa true mBl b1_12 (tyVpartyParty.enc (⟨x2.v, x2.leaf, u1_12_2, x2.own, x2.has', x2.nodes, x2.epoch, x2.init'⟩ : VpartyParty)), fa true mSpartyParty (⟨x2.v, x2.leaf, u1_12_2, x2.own, x2.has', x2.nodes, x2.epoch, x2.init'⟩ : VpartyParty) x2, fa true (mPt tyVpartyParty mSpartyParty) v0 p0, fa false (mRow tySOp) v1_2 p1.Ops, fa false (mRow tySVote) v1_3 p1.Votes, fa true (mSl tySl (mRow (tyI .u8))) v1_6 p1.Boxes] := by
    intro b1_26 b1_27
    refine hJ6_33_1 _ _ _ _ _ _ _ ?_
    refine jg_ready (rs := [14]) (by kernel_rfl) (by simp) (.cons ?_ .nil)
    ·
     refine gst rfl rfl (so_alloc ti64 (by decide) rfl rfl fun b1_25 => ?_)
     refine ng (.cons at3 .nil) (.cons at1 .nil) ?_
     refine jg_ls (listed' := #[true, true, true, true, true, true, true, true, true, true, true, true, true, true, true, true, true, false, false, false, false]) (by kernel_rfl) ?_
     exact nj_weak (hJ6_33_2 _ _ _ _ _ _ _ (hs6_33_22 b1_25 b1_26 b1_27)) ⟨rfl, rfl, rfl, rfl, rfl, rfl, rfl, rfl, rfl, rfl, rfl, trivial⟩ (.cons de1 (.cons de1 (.cons de0 (.cons de0 .nil)))) (.cons at0 (.cons at1 (.cons at2 (.cons at3 (.cons at4 (.cons at5 (.cons at6 .nil)))))))
   have hs6_33_20 : ∀ (b1_25 : Nat) (b1_27 : Nat), J6_33 [([], .blk b1 38 (tyVCommit.enc (⟨p1.Epoch, p1.From, v1_2, v1_3, p1.Seal, p1.Path, v1_6, p1.Tag, p1.Sig⟩ : VCommit)))] [fa true mBl b1_12 (tyVpartyParty.enc (⟨x2.v, x2.leaf, u1_12_2, x2.own, x2.has', x2.nodes, x2.epoch, x2.init'⟩ : VpartyParty))] 5 #[true, true, true, true, true, true, true, true, true, true, true, true, true, true, true, false, true, false, false, false, false] [(0, .pointer v0), (3, pt b1 0), (4, .pointer (none : Option Addr)), (5, .int .i64 0), (7, pt b1_25 0), (9, pt b1_27 0), (35, ag (tySView.enc y1_19.1)), (36, ag ((Ty.arr 8 tyB).enc y1_19.2.1)), (37, ag ((Ty.arr 8 tyB).enc y1_19.2.2.1)), (38, .int .i64 y1_19.2.2.2)] [.blk b1_27 62 ((Ty.arr 8 tyB).enc (Vector.replicate 8 false)), .blk b1_25 64 (tySView.enc SView.zero), .blk b1 38 (tyVCommit.enc (⟨p1.Epoch, p1.From, v1_2, v1_3, p1.Seal, p1.Path, v1_6, p1.Tag, p1.Sig⟩ : VCommit))] [fa true mKey u1_12_2 x2.signer, fa true mBl b1_12 (tyVpartyParty.enc (⟨x2.v, x2.leaf, u1_12_2, x2.own, x2.has', x2.nodes, x2.epoch, x2.init'⟩ : VpartyParty)), fa true mSpartyParty (⟨x2.v, x2.leaf, u1_12_2, x2.own, x2.has', x2.nodes, x2.epoch, x2.init'⟩ : VpartyParty) x2, fa true (mPt tyVpartyParty mSpartyParty) v0 p0, fa false (mRow tySOp) v1_2 p1.Ops, fa false (mRow tySVote) v1_3 p1.Votes, fa true (mSl tySl (mRow (tyI .u8))) v1_6 p1.Boxes] := by
    intro b1_25 b1_27
    refine hJ6_33_1 _ _ _ _ _ _ _ ?_
    refine jg_ready (rs := [15]) (by kernel_rfl) (by simp) (.cons ?_ .nil)
    ·
     refine gst rfl rfl (so_alloc ti62 (by decide) rfl rfl fun b1_26 => ?_)
     refine ng (.cons at3 .nil) (.cons at1 .nil) ?_
     refine jg_ls (listed' := #[true, true, true, true, true, true, true, true, true, true, true, true, true, true, true, true, true, false, false, false, false]) (by kernel_rfl) ?_
     exact nj_weak (hJ6_33_2 _ _ _ _ _ _ _ (hs6_33_22 b1_25 b1_26 b1_27)) ⟨rfl, rfl, rfl, rfl, rfl, rfl, rfl, rfl, rfl, rfl, rfl, trivial⟩ (.cons de1 (.cons de0 (.cons de0 (.cons de0 .nil)))) (.cons at0 (.cons at1 (.cons at2 (.cons at3 (.cons at4 (.cons at5 (.cons at6 .nil)))))))
   have hs6_33_19 : ∀ (b1_25 : Nat) (b1_26 : Nat), J6_33 [([], .blk b1 38 (tyVCommit.enc (⟨p1.Epoch, p1.From, v1_2, v1_3, p1.Seal, p1.Path, v1_6, p1.Tag, p1.Sig⟩ : VCommit)))] [fa true mBl b1_12 (tyVpartyParty.enc (⟨x2.v, x2.leaf, u1_12_2, x2.own, x2.has', x2.nodes, x2.epoch, x2.init'⟩ : VpartyParty))] 5 #[true, true, true, true, true, true, true, true, true, true, true, true, true, true, true, true, false, false, false, false, false] [(0, .pointer v0), (3, pt b1 0), (4, .pointer (none : Option Addr)), (5, .int .i64 0), (7, pt b1_25 0), (8, pt b1_26 0), (35, ag (tySView.enc y1_19.1)), (36, ag ((Ty.arr 8 tyB).enc y1_19.2.1)), (37, ag ((Ty.arr 8 tyB).enc y1_19.2.2.1)), (38, .int .i64 y1_19.2.2.2)] [.blk b1_26 62 ((Ty.arr 8 tyB).enc (Vector.replicate 8 false)), .blk b1_25 64 (tySView.enc SView.zero), .blk b1 38 (tyVCommit.enc (⟨p1.Epoch, p1.From, v1_2, v1_3, p1.Seal, p1.Path, v1_6, p1.Tag, p1.Sig⟩ : VCommit))] [fa true mKey u1_12_2 x2.signer, fa true mBl b1_12 (tyVpartyParty.enc (⟨x2.v, x2.leaf, u1_12_2, x2.own, x2.has', x2.nodes, x2.epoch, x2.init'⟩ : VpartyParty)), fa true mSpartyParty (⟨x2.v, x2.leaf, u1_12_2, x2.own, x2.has', x2.nodes, x2.epoch, x2.init'⟩ : VpartyParty) x2, fa true (mPt tyVpartyParty mSpartyParty) v0 p0, fa false (mRow tySOp) v1_2 p1.Ops, fa false (mRow tySVote) v1_3 p1.Votes, fa true (mSl tySl (mRow (tyI .u8))) v1_6 p1.Boxes] := by
    intro b1_25 b1_26
    refine hJ6_33_1 _ _ _ _ _ _ _ ?_
    refine jg_ready (rs := [16]) (by kernel_rfl) (by simp) (.cons ?_ .nil)
    ·
     refine gst rfl rfl (so_alloc ti62 (by decide) rfl rfl fun b1_27 => ?_)
     refine ng (.cons at3 .nil) (.cons at1 .nil) ?_
     refine jg_ls (listed' := #[true, true, true, true, true, true, true, true, true, true, true, true, true, true, true, true, true, false, false, false, false]) (by kernel_rfl) ?_
     exact nj_weak (hJ6_33_2 _ _ _ _ _ _ _ (hs6_33_22 b1_25 b1_26 b1_27)) ⟨rfl, rfl, rfl, rfl, rfl, rfl, rfl, rfl, rfl, rfl, rfl, trivial⟩ (.cons de0 (.cons de0 (.cons de0 (.cons de0 .nil)))) (.cons at0 (.cons at1 (.cons at2 (.cons at3 (.cons at4 (.cons at5 (.cons at6 .nil)))))))
   have hs6_33_18 : ∀ (b1_27 : Nat), J6_33 [([], .blk b1 38 (tyVCommit.enc (⟨p1.Epoch, p1.From, v1_2, v1_3, p1.Seal, p1.Path, v1_6, p1.Tag, p1.Sig⟩ : VCommit)))] [fa true mBl b1_12 (tyVpartyParty.enc (⟨x2.v, x2.leaf, u1_12_2, x2.own, x2.has', x2.nodes, x2.epoch, x2.init'⟩ : VpartyParty))] 6 #[true, true, true, true, true, true, true, true, true, true, true, true, true, true, false, false, true, false, false, false, false] [(0, .pointer v0), (3, pt b1 0), (4, .pointer (none : Option Addr)), (5, .int .i64 0), (9, pt b1_27 0), (35, ag (tySView.enc y1_19.1)), (36, ag ((Ty.arr 8 tyB).enc y1_19.2.1)), (37, ag ((Ty.arr 8 tyB).enc y1_19.2.2.1)), (38, .int .i64 y1_19.2.2.2)] [.blk b1_27 62 ((Ty.arr 8 tyB).enc (Vector.replicate 8 false)), .blk b1 38 (tyVCommit.enc (⟨p1.Epoch, p1.From, v1_2, v1_3, p1.Seal, p1.Path, v1_6, p1.Tag, p1.Sig⟩ : VCommit))] [fa true mKey u1_12_2 x2.signer, fa true mBl b1_12 (tyVpartyParty.enc (⟨x2.v, x2.leaf, u1_12_2, x2.own, x2.has', x2.nodes, x2.epoch, x2.init'⟩ : VpartyParty)), fa true mSpartyParty (⟨x2.v, x2.leaf, u1_12_2, x2.own, x2.has', x2.nodes, x2.epoch, x2.init'⟩ : VpartyParty) x2, fa true (mPt tyVpartyParty mSpartyParty) v0 p0, fa false (mRow tySOp) v1_2 p1.Ops, fa false (mRow tySVote) v1_3 p1.Votes, fa true (mSl tySl (mRow (tyI .u8))) v1_6 p1.Boxes] := by
    intro b1_27
    refine hJ6_33_1 _ _ _ _ _ _ _ ?_
    refine jg_ready (rs := [14, 15]) (by kernel_rfl) (by simp) (.cons ?_ (.cons ?_ .nil))
    ·
     refine gst rfl rfl (so_alloc ti64 (by decide) rfl rfl fun b1_25 => ?_)
     refine ng (.cons at2 .nil) (.cons at1 .nil) ?_
     refine jg_ls (listed' := #[true, true, true, true, true, true, true, true, true, true, true, true, true, true, true, false, true, false, false, false, false]) (by kernel_rfl) ?_
     exact nj_weak (hJ6_33_2 _ _ _ _ _ _ _ (hs6_33_20 b1_25 b1_27)) ⟨rfl, rfl, rfl, rfl, rfl, rfl, rfl, rfl, rfl, rfl, trivial⟩ (.cons de1 (.cons de0 (.cons de0 .nil))) (.cons at0 (.cons at1 (.cons at2 (.cons at3 (.cons at4 (.cons at5 (.cons at6 .nil)))))))
    ·
     refine gst rfl rfl (so_alloc ti62 (by decide) rfl rfl fun b1_26 => ?_)
     refine ng (.cons at2 .nil) (.cons at1 .nil) ?_
     refine jg_ls (listed' := #[true, true, true, true, true, true, true, true, true, true, true, true, true, true, false, true, true, false, false, false, false]) (by kernel_rfl) ?_
     exact nj_weak (hJ6_33_2 _ _ _ _ _ _ _ (hs6_33_21 b1_26 b1_27)) ⟨rfl, rfl, rfl, rfl, rfl, rfl, rfl, rfl, rfl, rfl, trivial⟩ (.cons de1 (.cons de0 (.cons de0 .nil))) (.cons at0 (.cons at1 (.cons at2 (.cons at3 (.cons at4 (.cons at5 (.cons at6 .nil)))))))
   have hs6_33_17 : ∀ (b1_26 : Nat), J6_33 [([], .blk b1 38 (tyVCommit.enc (⟨p1.Epoch, p1.From, v1_2, v1_3, p1.Seal, p1.Path, v1_6, p1.Tag, p1.Sig⟩ : VCommit)))] [fa true mBl b1_12 (tyVpartyParty.enc (⟨x2.v, x2.leaf, u1_12_2, x2.own, x2.has', x2.nodes, x2.epoch, x2.init'⟩ : VpartyParty))] 6 #[true, true, true, true, true, true, true, true, true, true, true, true, true, true, false, true, false, false, false, false, false] [(0, .pointer v0), (3, pt b1 0), (4, .pointer (none : Option Addr)), (5, .int .i64 0), (8, pt b1_26 0), (35, ag (tySView.enc y1_19.1)), (36, ag ((Ty.arr 8 tyB).enc y1_19.2.1)), (37, ag ((Ty.arr 8 tyB).enc y1_19.2.2.1)), (38, .int .i64 y1_19.2.2.2)] [.blk b1_26 62 ((Ty.arr 8 tyB).enc (Vector.replicate 8 false)), .blk b1 38 (tyVCommit.enc (⟨p1.Epoch, p1.From, v1_2, v1_3, p1.Seal, p1.Path, v1_6, p1.Tag, p1.Sig⟩ : VCommit))] [fa true mKey u1_12_2 x2.signer, fa true mBl b1_12 (tyVpartyParty.enc (⟨x2.v, x2.leaf, u1_12_2, x2.own, x2.has', x2.nodes, x2.epoch, x2.init'⟩ : VpartyParty)), fa true mSpartyParty (⟨x2.v, x2.leaf, u1_12_2, x2.own, x2.has', x2.nodes, x2.epoch, x2.init'⟩ : VpartyParty) x2, fa true (mPt tyVpartyParty mSpartyParty) v0 p0, fa false (mRow tySOp) v1_2 p1.Ops, fa false (mRow tySVote) v1_3 p1.Votes, fa true (mSl tySl (mRow (tyI .u8))) v1_6 p1.Boxes] := by
    intro b1_26
    refine hJ6_33_1 _ _ _ _ _ _ _ ?_
    refine jg_ready (rs := [14, 16]) (by kernel_rfl) (by simp) (.cons ?_ (.cons ?_ .nil))
    ·
     refine gst rfl rfl (so_alloc ti64 (by decide) rfl rfl fun b1_25 => ?_)
     refine ng (.cons at2 .nil) (.cons at1 .nil) ?_
     refine jg_ls (listed' := #[true, true, true, true, true, true, true, true, true, true, true, true, true, true, true, true, false, false, false, false, false]) (by kernel_rfl) ?_
     exact nj_weak (hJ6_33_2 _ _ _ _ _ _ _ (hs6_33_19 b1_25 b1_26)) ⟨rfl, rfl, rfl, rfl, rfl, rfl, rfl, rfl, rfl, rfl, trivial⟩ (.cons de1 (.cons de0 (.cons de0 .nil))) (.cons at0 (.cons at1 (.cons at2 (.cons at3 (.cons at4 (.cons at5 (.cons at6 .nil)))))))
    ·
     refine gst rfl rfl (so_alloc ti62 (by decide) rfl rfl fun b1_27 => ?_)
     refine ng (.cons at2 .nil) (.cons at1 .nil) ?_
     refine jg_ls (listed' := #[true, true, true, true, true, true, true, true, true, true, true, true, true, true, false, true, true, false, false, false, false]) (by kernel_rfl) ?_
     exact nj_weak (hJ6_33_2 _ _ _ _ _ _ _ (hs6_33_21 b1_26 b1_27)) ⟨rfl, rfl, rfl, rfl, rfl, rfl, rfl, rfl, rfl, rfl, trivial⟩ (.cons de0 (.cons de0 (.cons de0 .nil))) (.cons at0 (.cons at1 (.cons at2 (.cons at3 (.cons at4 (.cons at5 (.cons at6 .nil)))))))
   have hs6_33_16 : ∀ (b1_25 : Nat), J6_33 [([], .blk b1 38 (tyVCommit.enc (⟨p1.Epoch, p1.From, v1_2, v1_3, p1.Seal, p1.Path, v1_6, p1.Tag, p1.Sig⟩ : VCommit)))] [fa true mBl b1_12 (tyVpartyParty.enc (⟨x2.v, x2.leaf, u1_12_2, x2.own, x2.has', x2.nodes, x2.epoch, x2.init'⟩ : VpartyParty))] 6 #[true, true, true, true, true, true, true, true, true, true, true, true, true, true, true, false, false, false, false, false, false] [(0, .pointer v0), (3, pt b1 0), (4, .pointer (none : Option Addr)), (5, .int .i64 0), (7, pt b1_25 0), (35, ag (tySView.enc y1_19.1)), (36, ag ((Ty.arr 8 tyB).enc y1_19.2.1)), (37, ag ((Ty.arr 8 tyB).enc y1_19.2.2.1)), (38, .int .i64 y1_19.2.2.2)] [.blk b1_25 64 (tySView.enc SView.zero), .blk b1 38 (tyVCommit.enc (⟨p1.Epoch, p1.From, v1_2, v1_3, p1.Seal, p1.Path, v1_6, p1.Tag, p1.Sig⟩ : VCommit))] [fa true mKey u1_12_2 x2.signer, fa true mBl b1_12 (tyVpartyParty.enc (⟨x2.v, x2.leaf, u1_12_2, x2.own, x2.has', x2.nodes, x2.epoch, x2.init'⟩ : VpartyParty)), fa true mSpartyParty (⟨x2.v, x2.leaf, u1_12_2, x2.own, x2.has', x2.nodes, x2.epoch, x2.init'⟩ : VpartyParty) x2, fa true (mPt tyVpartyParty mSpartyParty) v0 p0, fa false (mRow tySOp) v1_2 p1.Ops, fa false (mRow tySVote) v1_3 p1.Votes, fa true (mSl tySl (mRow (tyI .u8))) v1_6 p1.Boxes] := by
    intro b1_25
    refine hJ6_33_1 _ _ _ _ _ _ _ ?_
    refine jg_ready (rs := [15, 16]) (by kernel_rfl) (by simp) (.cons ?_ (.cons ?_ .nil))
    ·
     refine gst rfl rfl (so_alloc ti62 (by decide) rfl rfl fun b1_26 => ?_)
     refine ng (.cons at2 .nil) (.cons at1 .nil) ?_
     refine jg_ls (listed' := #[true, true, true, true, true, true, true, true, true, true, true, true, true, true, true, true, false, false, false, false, false]) (by kernel_rfl) ?_
     exact nj_weak (hJ6_33_2 _ _ _ _ _ _ _ (hs6_33_19 b1_25 b1_26)) ⟨rfl, rfl, rfl, rfl, rfl, rfl, rfl, rfl, rfl, rfl, trivial⟩ (.cons de0 (.cons de0 (.cons de0 .nil))) (.cons at0 (.cons at1 (.cons at2 (.cons at3 (.cons at4 (.cons at5 (.cons at6 .nil)))))))
    ·
     refine gst rfl rfl (so_alloc ti62 (by decide) rfl rfl fun b1_27 => ?_)
     refine ng (.cons at2 .nil) (.cons at1 .nil) ?_
     refine jg_ls (listed' := #[true, true, true, true, true, true, true, true, true, true, true, true, true, true, true, false, true, false, false, false, false]) (by kernel_rfl) ?_
     exact nj_weak (hJ6_33_2 _ _ _ _ _ _ _ (hs6_33_20 b1_25 b1_27)) ⟨rfl, rfl, rfl, rfl, rfl, rfl, rfl, rfl, rfl, rfl, trivial⟩ (.cons de0 (.cons de0 (.cons de0 .nil))) (.cons at0 (.cons at1 (.cons at2 (.cons at3 (.cons at4 (.cons at5 (.cons at6 .nil)))))))
   have hs6_33_15 : ∀ (b1_25 : Nat) (b1_26 : Nat) (b1_27 : Nat), J6_33 [([], .blk b1 38 (tyVCommit.enc (⟨p1.Epoch, p1.From, v1_2, v1_3, p1.Seal, p1.Path, v1_6, p1.Tag, p1.Sig⟩ : VCommit)))] [fa true mBl b1_12 (tyVpartyParty.enc (⟨x2.v, x2.leaf, u1_12_2, x2.own, x2.has', x2.nodes, x2.epoch, x2.init'⟩ : VpartyParty))] 9 #[true, true, true, true, true, true, true, true, true, false, false, false, false, false, true, true, true, false, false, false, false] [(0, .pointer v0), (3, pt b1 0), (4, .pointer (none : Option Addr)), (5, .int .i64 0), (7, pt b1_25 0), (8, pt b1_26 0), (9, pt b1_27 0), (34, .tuple #[ag (tySView.enc y1_19.1), ag ((Ty.arr 8 tyB).enc y1_19.2.1), ag ((Ty.arr 8 tyB).enc y1_19.2.2.1), .int .i64 y1_19.2.2.2])] [.blk b1_27 62 ((Ty.arr 8 tyB).enc (Vector.replicate 8 false)), .blk b1_26 62 ((Ty.arr 8 tyB).enc (Vector.replicate 8 false)), .blk b1_25 64 (tySView.enc SView.zero), .blk b1 38 (tyVCommit.enc (⟨p1.Epoch, p1.From, v1_2, v1_3, p1.Seal, p1.Path, v1_6, p1.Tag, p1.Sig⟩ : VCommit))] [fa true mKey u1_12_2 x2.signer, fa true mBl b1_12 (tyVpartyParty.enc (⟨x2.v, x2.leaf, u1_12_2, x2.own, x2.has', x2.nodes, x2.epoch, x2.init'⟩ : VpartyParty)), fa true mSpartyParty (⟨x2.v, x2.leaf, u1_12_2, x2.own, x2.has', x2.nodes, x2.epoch, x2.init'⟩ : VpartyParty) x2, fa true (mPt tyVpartyParty mSpartyParty) v0 p0, fa false (mRow tySOp) v1_2 p1.Ops, fa false (mRow tySVote) v1_3 p1.Votes, fa true (mSl tySl (mRow (tyI .u8))) v1_6 p1.Boxes] := by
    intro b1_25 b1_26 b1_27
    refine hJ6_33_1 _ _ _ _ _ _ _ ?_
    refine tk (i := 9) rfl (by kernel_rfl) rfl (yv_move rfl rfl) .nil .nil ?_
    refine tk (i := 10) rfl (by kernel_rfl) rfl (yv_ext rfl rfl rfl) .nil .nil ?_
    refine tk (i := 11) rfl (by kernel_rfl) rfl (yv_ext rfl rfl rfl) .nil .nil ?_
    refine tk (i := 12) rfl (by kernel_rfl) rfl (yv_ext rfl rfl rfl) .nil .nil ?_
    refine tk (i := 13) rfl (by kernel_rfl) rfl (yv_ext rfl rfl rfl) .nil .nil ?_
    refine jg_ready (rs := [17]) (by kernel_rfl) (by simp) (.cons ?_ .nil)
    ·
     refine gst rfl rfl (so_sta ti64 rfl rfl rfl rfl (Upd.refl (by simp [Ty.len])) (Ty.len _ _) (Ty.one _ _) (xs' := tySView.enc y1_19.1) se2 ?_)
     refine ng (.cons at3 .nil) (.cons at1 .nil) ?_
     refine jg_ls (listed' := #[true, true, true, true, true, true, true, true, true, true, true, true, true, true, true, true, true, true, false, false, false]) (by kernel_rfl) ?_
     exact nj_weak (hJ6_33_2 _ _ _ _ _ _ _ (hs6_33_23 b1_25 b1_26 b1_27)) ⟨rfl, rfl, rfl, rfl, rfl, rfl, rfl, rfl, rfl, rfl, trivial⟩ (.cons de0 (.cons de0 (.cons de0 (.cons de0 .nil)))) (.cons at0 (.cons at1 (.cons at2 (.cons at3 (.cons at4 (.cons at5 (.cons at6 .nil)))))))
   have hs6_33_14 : ∀ (b1_25 : Nat) (b1_26 : Nat) (b1_27 : Nat), J6_33 [([], .blk b1 38 (tyVCommit.enc (⟨p1.Epoch, p1.From, v1_2, v1_3, p1.Seal, p1.Path, v1_6, p1.Tag, p1.Sig⟩ : VCommit)))] [fa true mBl b1_12 (tyVpartyParty.enc (⟨x2.v, x2.leaf, u1_12_2, x2.own, x2.has', x2.nodes, x2.epoch, x2.init'⟩ : VpartyParty))] 10 #[true, true, true, true, true, true, true, true, false, false, false, false, false, false, true, true, true, false, false, false, false] [(0, .pointer v0), (3, pt b1 0), (4, .pointer (none : Option Addr)), (5, .int .i64 0), (7, pt b1_25 0), (8, pt b1_26 0), (9, pt b1_27 0), (29, ag (tySView.enc x1_14)), (31, .int .i64 x1_16), (33, sv v1_2)] [.blk b1_27 62 ((Ty.arr 8 tyB).enc (Vector.replicate 8 false)), .blk b1_26 62 ((Ty.arr 8 tyB).enc (Vector.replicate 8 false)), .blk b1_25 64 (tySView.enc SView.zero), .blk b1 38 (tyVCommit.enc (⟨p1.Epoch, p1.From, v1_2, v1_3, p1.Seal, p1.Path, v1_6, p1.Tag, p1.Sig⟩ : VCommit))] [fa true mKey u1_12_2 x2.signer, fa true mBl b1_12 (tyVpartyParty.enc (⟨x2.v, x2.leaf, u1_12_2, x2.own, x2.has', x2.nodes, x2.epoch, x2.init'⟩ : VpartyParty)), fa true mSpartyParty (⟨x2.v, x2.leaf, u1_12_2, x2.own, x2.has', x2.nodes, x2.epoch, x2.init'⟩ : VpartyParty) x2, fa true (mPt tyVpartyParty mSpartyParty) v0 p0, fa false (mRow tySOp) v1_2 p1.Ops, fa false (mRow tySVote) v1_3 p1.Votes, fa true (mSl tySl (mRow (tyI .u8))) v1_6 p1.Boxes] := by
    intro b1_25 b1_26 b1_27
    refine hJ6_33_1 _ _ _ _ _ _ _ ?_
    refine jg_ready (rs := [8]) (by kernel_rfl) (by simp) (.cons ?_ .nil)
    ·
     refine gst rfl rfl (so_callv pf88 rfl rfl rfl rfl (fun σ hs => F88_c hy1_19 σ.w σ.O hs.olt v1_2 (cw0 (rd_f at4) hs)) ?_)
     refine ng (.cons at3 .nil) (.cons at1 .nil) ?_
     refine jg_ls (listed' := #[true, true, true, true, true, true, true, true, true, false, false, false, false, false, true, true, true, false, false, false, false]) (by kernel_rfl) ?_
     exact nj_weak (hJ6_33_2 _ _ _ _ _ _ _ (hs6_33_15 b1_25 b1_26 b1_27)) ⟨rfl, rfl, rfl, rfl, rfl, rfl, rfl, rfl, trivial⟩ (.cons de0 (.cons de0 (.cons de0 (.cons de0 .nil)))) (.cons at0 (.cons at1 (.cons at2 (.cons at3 (.cons at4 (.cons at5 (.cons at6 .nil)))))))
   have hs6_33_13 : ∀ (b1_26 : Nat) (b1_27 : Nat), J6_33 [([], .blk b1 38 (tyVCommit.enc (⟨p1.Epoch, p1.From, v1_2, v1_3, p1.Seal, p1.Path, v1_6, p1.Tag, p1.Sig⟩ : VCommit)))] [fa true mBl b1_12 (tyVpartyParty.enc (⟨x2.v, x2.leaf, u1_12_2, x2.own, x2.has', x2.nodes, x2.epoch, x2.init'⟩ : VpartyParty))] 10 #[true, true, true, true, true, true, true, true, true, false, false, false, false, false, false, true, true, false, false, false, false] [(0, .pointer v0), (3, pt b1 0), (4, .pointer (none : Option Addr)), (5, .int .i64 0), (8, pt b1_26 0), (9, pt b1_27 0), (34, .tuple #[ag (tySView.enc y1_19.1), ag ((Ty.arr 8 tyB).enc y1_19.2.1), ag ((Ty.arr 8 tyB).enc y1_19.2.2.1), .int .i64 y1_19.2.2.2])] [.blk b1_27 62 ((Ty.arr 8 tyB).enc (Vector.replicate 8 false)), .blk b1_26 62 ((Ty.arr 8 tyB).enc (Vector.replicate 8 false)), .blk b1 38 (tyVCommit.enc (⟨p1.Epoch, p1.From, v1_2, v1_3, p1.Seal, p1.Path, v1_6, p1.Tag, p1.Sig⟩ : VCommit))] [fa true mKey u1_12_2 x2.signer, fa true mBl b1_12 (tyVpartyParty.enc (⟨x2.v, x2.leaf, u1_12_2, x2.own, x2.has', x2.nodes, x2.epoch, x2.init'⟩ : VpartyParty)), fa true mSpartyParty (⟨x2.v, x2.leaf, u1_12_2, x2.own, x2.has', x2.nodes, x2.epoch, x2.init'⟩ : VpartyParty) x2, fa true (mPt tyVpartyParty mSpartyParty) v0 p0, fa false (mRow tySOp) v1_2 p1.Ops, fa false (mRow tySVote) v1_3 p1.Votes, fa true (mSl tySl (mRow (tyI .u8))) v1_6 p1.Boxes] := by
    intro b1_26 b1_27
    refine hJ6_33_1 _ _ _ _ _ _ _ ?_
    refine tk (i := 9) rfl (by kernel_rfl) rfl (yv_move rfl rfl) .nil .nil ?_
    refine tk (i := 10) rfl (by kernel_rfl) rfl (yv_ext rfl rfl rfl) .nil .nil ?_
    refine tk (i := 11) rfl (by kernel_rfl) rfl (yv_ext rfl rfl rfl) .nil .nil ?_
    refine tk (i := 12) rfl (by kernel_rfl) rfl (yv_ext rfl rfl rfl) .nil .nil ?_
    refine tk (i := 13) rfl (by kernel_rfl) rfl (yv_ext rfl rfl rfl) .nil .nil ?_
    refine jg_ready (rs := [14]) (by kernel_rfl) (by simp) (.cons ?_ .nil)
    ·
     refine gst rfl rfl (so_alloc ti64 (by decide) rfl rfl fun b1_25 => ?_)
     refine ng (.cons at3 .nil) (.cons at1 .nil) ?_
     refine jg_ls (listed' := #[true, true, true, true, true, true, true, true, true, true, true, true, true, true, true, true, true, false, false, false, false]) (by kernel_rfl) ?_
     exact nj_weak (hJ6_33_2 _ _ _ _ _ _ _ (hs6_33_22 b1_25 b1_26 b1_27)) ⟨rfl, rfl, rfl, rfl, rfl, rfl, rfl, rfl, rfl, rfl, rfl, trivial⟩ (.cons de1 (.cons de1 (.cons de0 (.cons de0 .nil)))) (.cons at0 (.cons at1 (.cons at2 (.cons at3 (.cons at4 (.cons at5 (.cons at6 .nil)))))))
   have hs6_33_12 : ∀ (b1_25 : Nat) (b1_27 : Nat), J6_33 [([], .blk b1 38 (tyVCommit.enc (⟨p1.Epoch, p1.From, v1_2, v1_3, p1.Seal, p1.Path, v1_6, p1.Tag, p1.Sig⟩ : VCommit)))] [fa true mBl b1_12 (tyVpartyParty.enc (⟨x2.v, x2.leaf, u1_12_2, x2.own, x2.has', x2.nodes, x2.epoch, x2.init'⟩ : VpartyParty))] 10 #[true, true, true, true, true, true, true, true, true, false, false, false, false, false, true, false, true, false, false, false, false] [(0, .pointer v0), (3, pt b1 0), (4, .pointer (none : Option Addr)), (5, .int .i64 0), (7, pt b1_25 0), (9, pt b1_27 0), (34, .tuple #[ag (tySView.enc y1_19.1), ag ((Ty.arr 8 tyB).enc y1_19.2.1), ag ((Ty.arr 8 tyB).enc y1_19.2.2.1), .int .i64 y1_19.2.2.2])] [.blk b1_27 62 ((Ty.arr 8 tyB).enc (Vector.replicate 8 false)), .blk b1_25 64 (tySView.enc SView.zero), .blk b1 38 (tyVCommit.enc (⟨p1.Epoch, p1.From, v1_2, v1_3, p1.Seal, p1.Path, v1_6, p1.Tag, p1.Sig⟩ : VCommit))] [fa true mKey u1_12_2 x2.signer, fa true mBl b1_12 (tyVpartyParty.enc (⟨x2.v, x2.leaf, u1_12_2, x2.own, x2.has', x2.nodes, x2.epoch, x2.init'⟩ : VpartyParty)), fa true mSpartyParty (⟨x2.v, x2.leaf, u1_12_2, x2.own, x2.has', x2.nodes, x2.epoch, x2.init'⟩ : VpartyParty) x2, fa true (mPt tyVpartyParty mSpartyParty) v0 p0, fa false (mRow tySOp) v1_2 p1.Ops, fa false (mRow tySVote) v1_3 p1.Votes, fa true (mSl tySl (mRow (tyI .u8))) v1_6 p1.Boxes] := by
    intro b1_25 b1_27
    refine hJ6_33_1 _ _ _ _ _ _ _ ?_
    refine tk (i := 9) rfl (by kernel_rfl) rfl (yv_move rfl rfl) .nil .nil ?_
    refine tk (i := 10) rfl (by kernel_rfl) rfl (yv_ext rfl rfl rfl) .nil .nil ?_
    refine tk (i := 11) rfl (by kernel_rfl) rfl (yv_ext rfl rfl rfl) .nil .nil ?_
    refine tk (i := 12) rfl (by kernel_rfl) rfl (yv_ext rfl rfl rfl) .nil .nil ?_
    refine tk (i := 13) rfl (by kernel_rfl) rfl (yv_ext rfl rfl rfl) .nil .nil ?_
    refine jg_ready (rs := [15]) (by kernel_rfl) (by simp) (.cons ?_ .nil)
    ·
     refine gst rfl rfl (so_alloc ti62 (by decide) rfl rfl fun b1_26 => ?_)
     refine ng (.cons at3 .nil) (.cons at1 .nil) ?_
     refine jg_ls (listed' := #[true, true, true, true, true, true, true, true, true, true, true, true, true, true, true, true, true, false, false, false, false]) (by kernel_rfl) ?_
     exact nj_weak (hJ6_33_2 _ _ _ _ _ _ _ (hs6_33_22 b1_25 b1_26 b1_27)) ⟨rfl, rfl, rfl, rfl, rfl, rfl, rfl, rfl, rfl, rfl, rfl, trivial⟩ (.cons de1 (.cons de0 (.cons de0 (.cons de0 .nil)))) (.cons at0 (.cons at1 (.cons at2 (.cons at3 (.cons at4 (.cons at5 (.cons at6 .nil)))))))
   have hs6_33_11 : ∀ (b1_25 : Nat) (b1_26 : Nat), J6_33 [([], .blk b1 38 (tyVCommit.enc (⟨p1.Epoch, p1.From, v1_2, v1_3, p1.Seal, p1.Path, v1_6, p1.Tag, p1.Sig⟩ : VCommit)))] [fa true mBl b1_12 (tyVpartyParty.enc (⟨x2.v, x2.leaf, u1_12_2, x2.own, x2.has', x2.nodes, x2.epoch, x2.init'⟩ : VpartyParty))] 10 #[true, true, true, true, true, true, true, true, true, false, false, false, false, false, true, true, false, false, false, false, false] [(0, .pointer v0), (3, pt b1 0), (4, .pointer (none : Option Addr)), (5, .int .i64 0), (7, pt b1_25 0), (8, pt b1_26 0), (34, .tuple #[ag (tySView.enc y1_19.1), ag ((Ty.arr 8 tyB).enc y1_19.2.1), ag ((Ty.arr 8 tyB).enc y1_19.2.2.1), .int .i64 y1_19.2.2.2])] [.blk b1_26 62 ((Ty.arr 8 tyB).enc (Vector.replicate 8 false)), .blk b1_25 64 (tySView.enc SView.zero), .blk b1 38 (tyVCommit.enc (⟨p1.Epoch, p1.From, v1_2, v1_3, p1.Seal, p1.Path, v1_6, p1.Tag, p1.Sig⟩ : VCommit))] [fa true mKey u1_12_2 x2.signer, fa true mBl b1_12 (tyVpartyParty.enc (⟨x2.v, x2.leaf, u1_12_2, x2.own, x2.has', x2.nodes, x2.epoch, x2.init'⟩ : VpartyParty)), fa true mSpartyParty (⟨x2.v, x2.leaf, u1_12_2, x2.own, x2.has', x2.nodes, x2.epoch, x2.init'⟩ : VpartyParty) x2, fa true (mPt tyVpartyParty mSpartyParty) v0 p0, fa false (mRow tySOp) v1_2 p1.Ops, fa false (mRow tySVote) v1_3 p1.Votes, fa true (mSl tySl (mRow (tyI .u8))) v1_6 p1.Boxes] := by
    intro b1_25 b1_26
    refine hJ6_33_1 _ _ _ _ _ _ _ ?_
    refine tk (i := 9) rfl (by kernel_rfl) rfl (yv_move rfl rfl) .nil .nil ?_
    refine tk (i := 10) rfl (by kernel_rfl) rfl (yv_ext rfl rfl rfl) .nil .nil ?_
    refine tk (i := 11) rfl (by kernel_rfl) rfl (yv_ext rfl rfl rfl) .nil .nil ?_
    refine tk (i := 12) rfl (by kernel_rfl) rfl (yv_ext rfl rfl rfl) .nil .nil ?_
    refine tk (i := 13) rfl (by kernel_rfl) rfl (yv_ext rfl rfl rfl) .nil .nil ?_
    refine jg_ready (rs := [16]) (by kernel_rfl) (by simp) (.cons ?_ .nil)
    ·
     refine gst rfl rfl (so_alloc ti62 (by decide) rfl rfl fun b1_27 => ?_)
     refine ng (.cons at3 .nil) (.cons at1 .nil) ?_
     refine jg_ls (listed' := #[true, true, true, true, true, true, true, true, true, true, true, true, true, true, true, true, true, false, false, false, false]) (by kernel_rfl) ?_
     exact nj_weak (hJ6_33_2 _ _ _ _ _ _ _ (hs6_33_22 b1_25 b1_26 b1_27)) ⟨rfl, rfl, rfl, rfl, rfl, rfl, rfl, rfl, rfl, rfl, rfl, trivial⟩ (.cons de0 (.cons de0 (.cons de0 (.cons de0 .nil)))) (.cons at0 (.cons at1 (.cons at2 (.cons at3 (.cons at4 (.cons at5 (.cons at6 .nil)))))))
   have hs6_33_10 : ∀ (b1_26 : Nat) (b1_27 : Nat), J6_33 [([], .blk b1 38 (tyVCommit.enc (⟨p1.Epoch, p1.From, v1_2, v1_3, p1.Seal, p1.Path, v1_6, p1.Tag, p1.Sig⟩ : VCommit)))] [fa true mBl b1_12 (tyVpartyParty.enc (⟨x2.v, x2.leaf, u1_12_2, x2.own, x2.has', x2.nodes, x2.epoch, x2.init'⟩ : VpartyParty))] 11 #[true, true, true, true, true, true, true, true, false, false, false, false, false, false, false, true, true, false, false, false, false] [(0, .pointer v0), (3, pt b1 0), (4, .pointer (none : Option Addr)), (5, .int .i64 0), (8, pt b1_26 0), (9, pt b1_27 0), (29, ag (tySView.enc x1_14)), (31, .int .i64 x1_16), (33, sv v1_2)] [.blk b1_27 62 ((Ty.arr 8 tyB).enc (Vector.replicate 8 false)), .blk b1_26 62 ((Ty.arr 8 tyB).enc (Vector.replicate 8 false)), .blk b1 38 (tyVCommit.enc (⟨p1.Epoch, p1.From, v1_2, v1_3, p1.Seal, p1.Path, v1_6, p1.Tag, p1.Sig⟩ : VCommit))] [fa true mKey u1_12_2 x2.signer, fa true mBl b1_12 (tyVpartyParty.enc (⟨x2.v, x2.leaf, u1_12_2, x2.own, x2.has', x2.nodes, x2.epoch, x2.init'⟩ : VpartyParty)), fa true mSpartyParty (⟨x2.v, x2.leaf, u1_12_2, x2.own, x2.has', x2.nodes, x2.epoch, x2.init'⟩ : VpartyParty) x2, fa true (mPt tyVpartyParty mSpartyParty) v0 p0, fa false (mRow tySOp) v1_2 p1.Ops, fa false (mRow tySVote) v1_3 p1.Votes, fa true (mSl tySl (mRow (tyI .u8))) v1_6 p1.Boxes] := by
    intro b1_26 b1_27
    refine hJ6_33_1 _ _ _ _ _ _ _ ?_
    refine jg_ready (rs := [8, 14]) (by kernel_rfl) (by simp) (.cons ?_ (.cons ?_ .nil))
    ·
     refine gst rfl rfl (so_callv pf88 rfl rfl rfl rfl (fun σ hs => F88_c hy1_19 σ.w σ.O hs.olt v1_2 (cw0 (rd_f at4) hs)) ?_)
     refine ng (.cons at2 .nil) (.cons at1 .nil) ?_
     refine jg_ls (listed' := #[true, true, true, true, true, true, true, true, true, false, false, false, false, false, false, true, true, false, false, false, false]) (by kernel_rfl) ?_
     exact nj_weak (hJ6_33_2 _ _ _ _ _ _ _ (hs6_33_13 b1_26 b1_27)) ⟨rfl, rfl, rfl, rfl, rfl, rfl, rfl, trivial⟩ (.cons de0 (.cons de0 (.cons de0 .nil))) (.cons at0 (.cons at1 (.cons at2 (.cons at3 (.cons at4 (.cons at5 (.cons at6 .nil)))))))
    ·
     refine gst rfl rfl (so_alloc ti64 (by decide) rfl rfl fun b1_25 => ?_)
     refine ng (.cons at3 .nil) (.cons at1 .nil) ?_
     refine jg_ls (listed' := #[true, true, true, true, true, true, true, true, false, false, false, false, false, false, true, true, true, false, false, false, false]) (by kernel_rfl) ?_
     exact nj_weak (hJ6_33_2 _ _ _ _ _ _ _ (hs6_33_14 b1_25 b1_26 b1_27)) ⟨rfl, rfl, rfl, rfl, rfl, rfl, rfl, rfl, rfl, rfl, trivial⟩ (.cons de1 (.cons de1 (.cons de0 (.cons de0 .nil)))) (.cons at0 (.cons at1 (.cons at2 (.cons at3 (.cons at4 (.cons at5 (.cons at6 .nil)))))))
   have hs6_33_9 : ∀ (b1_25 : Nat) (b1_27 : Nat), J6_33 [([], .blk b1 38 (tyVCommit.enc (⟨p1.Epoch, p1.From, v1_2, v1_3, p1.Seal, p1.Path, v1_6, p1.Tag, p1.Sig⟩ : VCommit)))] [fa true mBl b1_12 (tyVpartyParty.enc (⟨x2.v, x2.leaf, u1_12_2, x2.own, x2.has', x2.nodes, x2.epoch, x2.init'⟩ : VpartyParty))] 11 #[true, true, true, true, true, true, true, true, false, false, false, false, false, false, true, false, true, false, false, false, false] [(0, .pointer v0), (3, pt b1 0), (4, .pointer (none : Option Addr)), (5, .int .i64 0), (7, pt b1_25 0), (9, pt b1_27 0), (29, ag (tySView.enc x1_14)), (31, .int .i64 x1_16), (33, sv v1_2)] [.blk b1_27 62 ((Ty.arr 8 tyB).enc (Vector.replicate 8 false)), .blk b1_25 64 (tySView.enc SView.zero), .blk b1 38 (tyVCommit.enc (⟨p1.Epoch, p1.From, v1_2, v1_3, p1.Seal, p1.Path, v1_6, p1.Tag, p1.Sig⟩ : VCommit))] [fa true mKey u1_12_2 x2.signer, fa true mBl b1_12 (tyVpartyParty.enc (⟨x2.v, x2.leaf, u1_12_2, x2.own, x2.has', x2.nodes, x2.epoch, x2.init'⟩ : VpartyParty)), fa true mSpartyParty (⟨x2.v, x2.leaf, u1_12_2, x2.own, x2.has', x2.nodes, x2.epoch, x2.init'⟩ : VpartyParty) x2, fa true (mPt tyVpartyParty mSpartyParty) v0 p0, fa false (mRow tySOp) v1_2 p1.Ops, fa false (mRow tySVote) v1_3 p1.Votes, fa true (mSl tySl (mRow (tyI .u8))) v1_6 p1.Boxes] := by
    intro b1_25 b1_27
    refine hJ6_33_1 _ _ _ _ _ _ _ ?_
    refine jg_ready (rs := [8, 15]) (by kernel_rfl) (by simp) (.cons ?_ (.cons ?_ .nil))
    ·
     refine gst rfl rfl (so_callv pf88 rfl rfl rfl rfl (fun σ hs => F88_c hy1_19 σ.w σ.O hs.olt v1_2 (cw0 (rd_f at4) hs)) ?_)
     refine ng (.cons at2 .nil) (.cons at1 .nil) ?_
     refine jg_ls (listed' := #[true, true, true, true, true, true, true, true, true, false, false, false, false, false, true, false, true, false, false, false, false]) (by kernel_rfl) ?_
     exact nj_weak (hJ6_33_2 _ _ _ _ _ _ _ (hs6_33_12 b1_25 b1_27)) ⟨rfl, rfl, rfl, rfl, rfl, rfl, rfl, trivial⟩ (.cons de0 (.cons de0 (.cons de0 .nil))) (.cons at0 (.cons at1 (.cons at2 (.cons at3 (.cons at4 (.cons at5 (.cons at6 .nil)))))))
    ·
     refine gst rfl rfl (so_alloc ti62 (by decide) rfl rfl fun b1_26 => ?_)
     refine ng (.cons at3 .nil) (.cons at1 .nil) ?_
     refine jg_ls (listed' := #[true, true, true, true, true, true, true, true, false, false, false, false, false, false, true, true, true, false, false, false, false]) (by kernel_rfl) ?_
     exact nj_weak (hJ6_33_2 _ _ _ _ _ _ _ (hs6_33_14 b1_25 b1_26 b1_27)) ⟨rfl, rfl, rfl, rfl, rfl, rfl, rfl, rfl, rfl, rfl, trivial⟩ (.cons de1 (.cons de0 (.cons de0 (.cons de0 .nil)))) (.cons at0 (.cons at1 (.cons at2 (.cons at3 (.cons at4 (.cons at5 (.cons at6 .nil)))))))
   have hs6_33_8 : ∀ (b1_25 : Nat) (b1_26 : Nat), J6_33 [([], .blk b1 38 (tyVCommit.enc (⟨p1.Epoch, p1.From, v1_2, v1_3, p1.Seal, p1.Path, v1_6, p1.Tag, p1.Sig⟩ : VCommit)))] [fa true mBl b1_12 (tyVpartyParty.enc (⟨x2.v, x2.leaf, u1_12_2, x2.own, x2.has', x2.nodes, x2.epoch, x2.init'⟩ : VpartyParty))] 11 #[true, true, true, true, true, true, true, true, false, false, false, false, false, false, true, true, false, false, false, false, false] [(0, .pointer v0), (3, pt b1 0), (4, .pointer (none : Option Addr)), (5, .int .i64 0), (7, pt b1_25 0), (8, pt b1_26 0), (29, ag (tySView.enc x1_14)), (31, .int .i64 x1_16), (33, sv v1_2)] [.blk b1_26 62 ((Ty.arr 8 tyB).enc (Vector.replicate 8 false)), .blk b1_25 64 (tySView.enc SView.zero), .blk b1 38 (tyVCommit.enc (⟨p1.Epoch, p1.From, v1_2, v1_3, p1.Seal, p1.Path, v1_6, p1.Tag, p1.Sig⟩ : VCommit))] [fa true mKey u1_12_2 x2.signer, fa true mBl b1_12 (tyVpartyParty.enc (⟨x2.v, x2.leaf, u1_12_2, x2.own, x2.has', x2.nodes, x2.epoch, x2.init'⟩ : VpartyParty)), fa true mSpartyParty (⟨x2.v, x2.leaf, u1_12_2, x2.own, x2.has', x2.nodes, x2.epoch, x2.init'⟩ : VpartyParty) x2, fa true (mPt tyVpartyParty mSpartyParty) v0 p0, fa false (mRow tySOp) v1_2 p1.Ops, fa false (mRow tySVote) v1_3 p1.Votes, fa true (mSl tySl (mRow (tyI .u8))) v1_6 p1.Boxes] := by
    intro b1_25 b1_26
    refine hJ6_33_1 _ _ _ _ _ _ _ ?_
    refine jg_ready (rs := [8, 16]) (by kernel_rfl) (by simp) (.cons ?_ (.cons ?_ .nil))
    ·
     refine gst rfl rfl (so_callv pf88 rfl rfl rfl rfl (fun σ hs => F88_c hy1_19 σ.w σ.O hs.olt v1_2 (cw0 (rd_f at4) hs)) ?_)
     refine ng (.cons at2 .nil) (.cons at1 .nil) ?_
     refine jg_ls (listed' := #[true, true, true, true, true, true, true, true, true, false, false, false, false, false, true, true, false, false, false, false, false]) (by kernel_rfl) ?_
     exact nj_weak (hJ6_33_2 _ _ _ _ _ _ _ (hs6_33_11 b1_25 b1_26)) ⟨rfl, rfl, rfl, rfl, rfl, rfl, rfl, trivial⟩ (.cons de0 (.cons de0 (.cons de0 .nil))) (.cons at0 (.cons at1 (.cons at2 (.cons at3 (.cons at4 (.cons at5 (.cons at6 .nil)))))))
    ·
     refine gst rfl rfl (so_alloc ti62 (by decide) rfl rfl fun b1_27 => ?_)
     refine ng (.cons at3 .nil) (.cons at1 .nil) ?_
     refine jg_ls (listed' := #[true, true, true, true, true, true, true, true, false, false, false, false, false, false, true, true, true, false, false, false, false]) (by kernel_rfl) ?_
     exact nj_weak (hJ6_33_2 _ _ _ _ _ _ _ (hs6_33_14 b1_25 b1_26 b1_27)) ⟨rfl, rfl, rfl, rfl, rfl, rfl, rfl, rfl, rfl, rfl, trivial⟩ (.cons de0 (.cons de0 (.cons de0 (.cons de0 .nil)))) (.cons at0 (.cons at1 (.cons at2 (.cons at3 (.cons at4 (.cons at5 (.cons at6 .nil)))))))
   have hs6_33_7 : ∀ (b1_27 : Nat), J6_33 [([], .blk b1 38 (tyVCommit.enc (⟨p1.Epoch, p1.From, v1_2, v1_3, p1.Seal, p1.Path, v1_6, p1.Tag, p1.Sig⟩ : VCommit)))] [fa true mBl b1_12 (tyVpartyParty.enc (⟨x2.v, x2.leaf, u1_12_2, x2.own, x2.has', x2.nodes, x2.epoch, x2.init'⟩ : VpartyParty))] 11 #[true, true, true, true, true, true, true, true, true, false, false, false, false, false, false, false, true, false, false, false, false] [(0, .pointer v0), (3, pt b1 0), (4, .pointer (none : Option Addr)), (5, .int .i64 0), (9, pt b1_27 0), (34, .tuple #[ag (tySView.enc y1_19.1), ag ((Ty.arr 8 tyB).enc y1_19.2.1), ag ((Ty.arr 8 tyB).enc y1_19.2.2.1), .int .i64 y1_19.2.2.2])] [.blk b1_27 62 ((Ty.arr 8 tyB).enc (Vector.replicate 8 false)), .blk b1 38 (tyVCommit.enc (⟨p1.Epoch, p1.From, v1_2, v1_3, p1.Seal, p1.Path, v1_6, p1.Tag, p1.Sig⟩ : VCommit))] [fa true mKey u1_12_2 x2.signer, fa true mBl b1_12 (tyVpartyParty.enc (⟨x2.v, x2.leaf, u1_12_2, x2.own, x2.has', x2.nodes, x2.epoch, x2.init'⟩ : VpartyParty)), fa true mSpartyParty (⟨x2.v, x2.leaf, u1_12_2, x2.own, x2.has', x2.nodes, x2.epoch, x2.init'⟩ : VpartyParty) x2, fa true (mPt tyVpartyParty mSpartyParty) v0 p0, fa false (mRow tySOp) v1_2 p1.Ops, fa false (mRow tySVote) v1_3 p1.Votes, fa true (mSl tySl (mRow (tyI .u8))) v1_6 p1.Boxes] := by
    intro b1_27
    refine hJ6_33_1 _ _ _ _ _ _ _ ?_
    refine tk (i := 9) rfl (by kernel_rfl) rfl (yv_move rfl rfl) .nil .nil ?_
    refine tk (i := 10) rfl (by kernel_rfl) rfl (yv_ext rfl rfl rfl) .nil .nil ?_
    refine tk (i := 11) rfl (by kernel_rfl) rfl (yv_ext rfl rfl rfl) .nil .nil ?_
    refine tk (i := 12) rfl (by kernel_rfl) rfl (yv_ext rfl rfl rfl) .nil .nil ?_
    refine tk (i := 13) rfl (by kernel_rfl) rfl (yv_ext rfl rfl rfl) .nil .nil ?_
    refine jg_ready (rs := [14, 15]) (by kernel_rfl) (by simp) (.cons ?_ (.cons ?_ .nil))
    ·
     refine gst rfl rfl (so_alloc ti64 (by decide) rfl rfl fun b1_25 => ?_)
     refine ng (.cons at2 .nil) (.cons at1 .nil) ?_
     refine jg_ls (listed' := #[true, true, true, true, true, true, true, true, true, true, true, true, true, true, true, false, true, false, false, false, false]) (by kernel_rfl) ?_
     exact nj_weak (hJ6_33_2 _ _ _ _ _ _ _ (hs6_33_20 b1_25 b1_27)) ⟨rfl, rfl, rfl, rfl, rfl, rfl, rfl, rfl, rfl, rfl, trivial⟩ (.cons de1 (.cons de0 (.cons de0 .nil))) (.cons at0 (.cons at1 (.cons at2 (.cons at3 (.cons at4 (.cons at5 (.cons at6 .nil)))))))
    ·
     refine gst rfl rfl (so_alloc ti62 (by decide) rfl rfl fun b1_26 => ?_)
     refine ng (.cons at2 .nil) (.cons at1 .nil) ?_
     refine jg_ls (listed' := #[true, true, true, true, true, true, true, true, true, true, true, true, true, true, false, true, true, false, false, false, false]) (by kernel_rfl) ?_
     exact nj_weak (hJ6_33_2 _ _ _ _ _ _ _ (hs6_33_21 b1_26 b1_27)) ⟨rfl, rfl, rfl, rfl, rfl, rfl, rfl, rfl, rfl, rfl, trivial⟩ (.cons de1 (.cons de0 (.cons de0 .nil))) (.cons at0 (.cons at1 (.cons at2 (.cons at3 (.cons at4 (.cons at5 (.cons at6 .nil)))))))
   have hs6_33_6 : ∀ (b1_26 : Nat), J6_33 [([], .blk b1 38 (tyVCommit.enc (⟨p1.Epoch, p1.From, v1_2, v1_3, p1.Seal, p1.Path, v1_6, p1.Tag, p1.Sig⟩ : VCommit)))] [fa true mBl b1_12 (tyVpartyParty.enc (⟨x2.v, x2.leaf, u1_12_2, x2.own, x2.has', x2.nodes, x2.epoch, x2.init'⟩ : VpartyParty))] 11 #[true, true, true, true, true, true, true, true, true, false, false, false, false, false, false, true, false, false, false, false, false] [(0, .pointer v0), (3, pt b1 0), (4, .pointer (none : Option Addr)), (5, .int .i64 0), (8, pt b1_26 0), (34, .tuple #[ag (tySView.enc y1_19.1), ag ((Ty.arr 8 tyB).enc y1_19.2.1), ag ((Ty.arr 8 tyB).enc y1_19.2.2.1), .int .i64 y1_19.2.2.2])] [.blk b1_26 62 ((Ty.arr 8 tyB).enc (Vector.replicate 8 false)), .blk b1 38 (tyVCommit.enc (⟨p1.Epoch, p1.From, v1_2, v1_3, p1.Seal, p1.Path, v1_6, p1.Tag, p1.Sig⟩ : VCommit))] [fa true mKey u1_12_2 x2.signer, fa true mBl b1_12 (tyVpartyParty.enc (⟨x2.v, x2.leaf, u1_12_2, x2.own, x2.has', x2.nodes, x2.epoch, x2.init'⟩ : VpartyParty)), fa true mSpartyParty (⟨x2.v, x2.leaf, u1_12_2, x2.own, x2.has', x2.nodes, x2.epoch, x2.init'⟩ : VpartyParty) x2, fa true (mPt tyVpartyParty mSpartyParty) v0 p0, fa false (mRow tySOp) v1_2 p1.Ops, fa false (mRow tySVote) v1_3 p1.Votes, fa true (mSl tySl (mRow (tyI .u8))) v1_6 p1.Boxes] := by
    intro b1_26
    refine hJ6_33_1 _ _ _ _ _ _ _ ?_
    refine tk (i := 9) rfl (by kernel_rfl) rfl (yv_move rfl rfl) .nil .nil ?_
    refine tk (i := 10) rfl (by kernel_rfl) rfl (yv_ext rfl rfl rfl) .nil .nil ?_
    refine tk (i := 11) rfl (by kernel_rfl) rfl (yv_ext rfl rfl rfl) .nil .nil ?_
    refine tk (i := 12) rfl (by kernel_rfl) rfl (yv_ext rfl rfl rfl) .nil .nil ?_
    refine tk (i := 13) rfl (by kernel_rfl) rfl (yv_ext rfl rfl rfl) .nil .nil ?_
    refine jg_ready (rs := [14, 16]) (by kernel_rfl) (by simp) (.cons ?_ (.cons ?_ .nil))
    ·
     refine gst rfl rfl (so_alloc ti64 (by decide) rfl rfl fun b1_25 => ?_)
     refine ng (.cons at2 .nil) (.cons at1 .nil) ?_
     refine jg_ls (listed' := #[true, true, true, true, true, true, true, true, true, true, true, true, true, true, true, true, false, false, false, false, false]) (by kernel_rfl) ?_
     exact nj_weak (hJ6_33_2 _ _ _ _ _ _ _ (hs6_33_19 b1_25 b1_26)) ⟨rfl, rfl, rfl, rfl, rfl, rfl, rfl, rfl, rfl, rfl, trivial⟩ (.cons de1 (.cons de0 (.cons de0 .nil))) (.cons at0 (.cons at1 (.cons at2 (.cons at3 (.cons at4 (.cons at5 (.cons at6 .nil)))))))
    ·
     refine gst rfl rfl (so_alloc ti62 (by decide) rfl rfl fun b1_27 => ?_)
     refine ng (.cons at2 .nil) (.cons at1 .nil) ?_
     refine jg_ls (listed' := #[true, true, true, true, true, true, true, true, true, true, true, true, true, true, false, true, true, false, false, false, false]) (by kernel_rfl) ?_
     exact nj_weak (hJ6_33_2 _ _ _ _ _ _ _ (hs6_33_21 b1_26 b1_27)) ⟨rfl, rfl, rfl, rfl, rfl, rfl, rfl, rfl, rfl, rfl, trivial⟩ (.cons de0 (.cons de0 (.cons de0 .nil))) (.cons at0 (.cons at1 (.cons at2 (.cons at3 (.cons at4 (.cons at5 (.cons at6 .nil)))))))
   have hs6_33_5 : ∀ (b1_25 : Nat), J6_33 [([], .blk b1 38 (tyVCommit.enc (⟨p1.Epoch, p1.From, v1_2, v1_3, p1.Seal, p1.Path, v1_6, p1.Tag, p1.Sig⟩ : VCommit)))] [fa true mBl b1_12 (tyVpartyParty.enc (⟨x2.v, x2.leaf, u1_12_2, x2.own, x2.has', x2.nodes, x2.epoch, x2.init'⟩ : VpartyParty))] 11 #[true, true, true, true, true, true, true, true, true, false, false, false, false, false, true, false, false, false, false, false, false] [(0, .pointer v0), (3, pt b1 0), (4, .pointer (none : Option Addr)), (5, .int .i64 0), (7, pt b1_25 0), (34, .tuple #[ag (tySView.enc y1_19.1), ag ((Ty.arr 8 tyB).enc y1_19.2.1), ag ((Ty.arr 8 tyB).enc y1_19.2.2.1), .int .i64 y1_19.2.2.2])] [.blk b1_25 64 (tySView.enc SView.zero), .blk b1 38 (tyVCommit.enc (⟨p1.Epoch, p1.From, v1_2, v1_3, p1.Seal, p1.Path, v1_6, p1.Tag, p1.Sig⟩ : VCommit))] [fa true mKey u1_12_2 x2.signer, fa true mBl b1_12 (tyVpartyParty.enc (⟨x2.v, x2.leaf, u1_12_2, x2.own, x2.has', x2.nodes, x2.epoch, x2.init'⟩ : VpartyParty)), fa true mSpartyParty (⟨x2.v, x2.leaf, u1_12_2, x2.own, x2.has', x2.nodes, x2.epoch, x2.init'⟩ : VpartyParty) x2, fa true (mPt tyVpartyParty mSpartyParty) v0 p0, fa false (mRow tySOp) v1_2 p1.Ops, fa false (mRow tySVote) v1_3 p1.Votes, fa true (mSl tySl (mRow (tyI .u8))) v1_6 p1.Boxes] := by
    intro b1_25
    refine hJ6_33_1 _ _ _ _ _ _ _ ?_
    refine tk (i := 9) rfl (by kernel_rfl) rfl (yv_move rfl rfl) .nil .nil ?_
    refine tk (i := 10) rfl (by kernel_rfl) rfl (yv_ext rfl rfl rfl) .nil .nil ?_
    refine tk (i := 11) rfl (by kernel_rfl) rfl (yv_ext rfl rfl rfl) .nil .nil ?_
    refine tk (i := 12) rfl (by kernel_rfl) rfl (yv_ext rfl rfl rfl) .nil .nil ?_
    refine tk (i := 13) rfl (by kernel_rfl) rfl (yv_ext rfl rfl rfl) .nil .nil ?_
    refine jg_ready (rs := [15, 16]) (by kernel_rfl) (by simp) (.cons ?_ (.cons ?_ .nil))
    ·
     refine gst rfl rfl (so_alloc ti62 (by decide) rfl rfl fun b1_26 => ?_)
     refine ng (.cons at2 .nil) (.cons at1 .nil) ?_
     refine jg_ls (listed' := #[true, true, true, true, true, true, true, true, true, true, true, true, true, true, true, true, false, false, false, false, false]) (by kernel_rfl) ?_
     exact nj_weak (hJ6_33_2 _ _ _ _ _ _ _ (hs6_33_19 b1_25 b1_26)) ⟨rfl, rfl, rfl, rfl, rfl, rfl, rfl, rfl, rfl, rfl, trivial⟩ (.cons de0 (.cons de0 (.cons de0 .nil))) (.cons at0 (.cons at1 (.cons at2 (.cons at3 (.cons at4 (.cons at5 (.cons at6 .nil)))))))
    ·
     refine gst rfl rfl (so_alloc ti62 (by decide) rfl rfl fun b1_27 => ?_)
     refine ng (.cons at2 .nil) (.cons at1 .nil) ?_
     refine jg_ls (listed' := #[true, true, true, true, true, true, true, true, true, true, true, true, true, true, true, false, true, false, false, false, false]) (by kernel_rfl) ?_
     exact nj_weak (hJ6_33_2 _ _ _ _ _ _ _ (hs6_33_20 b1_25 b1_27)) ⟨rfl, rfl, rfl, rfl, rfl, rfl, rfl, rfl, rfl, rfl, trivial⟩ (.cons de0 (.cons de0 (.cons de0 .nil))) (.cons at0 (.cons at1 (.cons at2 (.cons at3 (.cons at4 (.cons at5 (.cons at6 .nil)))))))
   have hs6_33_4 : ∀ (b1_27 : Nat), J6_33 [([], .blk b1 38 (tyVCommit.enc (⟨p1.Epoch, p1.From, v1_2, v1_3, p1.Seal, p1.Path, v1_6, p1.Tag, p1.Sig⟩ : VCommit)))] [fa true mBl b1_12 (tyVpartyParty.enc (⟨x2.v, x2.leaf, u1_12_2, x2.own, x2.has', x2.nodes, x2.epoch, x2.init'⟩ : VpartyParty))] 12 #[true, true, true, true, true, true, true, true, false, false, false, false, false, false, false, false, true, false, false, false, false] [(0, .pointer v0), (3, pt b1 0), (4, .pointer (none : Option Addr)), (5, .int .i64 0), (9, pt b1_27 0), (29, ag (tySView.enc x1_14)), (31, .int .i64 x1_16), (33, sv v1_2)] [.blk b1_27 62 ((Ty.arr 8 tyB).enc (Vector.replicate 8 false)), .blk b1 38 (tyVCommit.enc (⟨p1.Epoch, p1.From, v1_2, v1_3, p1.Seal, p1.Path, v1_6, p1.Tag, p1.Sig⟩ : VCommit))] [fa true mKey u1_12_2 x2.signer, fa true mBl b1_12 (tyVpartyParty.enc (⟨x2.v, x2.leaf, u1_12_2, x2.own, x2.has', x2.nodes, x2.epoch, x2.init'⟩ : VpartyParty)), fa true mSpartyParty (⟨x2.v, x2.leaf, u1_12_2, x2.own, x2.has', x2.nodes, x2.epoch, x2.init'⟩ : VpartyParty) x2, fa true (mPt tyVpartyParty mSpartyParty) v0 p0, fa false (mRow tySOp) v1_2 p1.Ops, fa false (mRow tySVote) v1_3 p1.Votes, fa true (mSl tySl (mRow (tyI .u8))) v1_6 p1.Boxes] := by
    intro b1_27
    refine hJ6_33_1 _ _ _ _ _ _ _ ?_
    refine jg_ready (rs := [8, 14, 15]) (by kernel_rfl) (by simp) (.cons ?_ (.cons ?_ (.cons ?_ .nil)))
    ·
     refine gst rfl rfl (so_callv pf88 rfl rfl rfl rfl (fun σ hs => F88_c hy1_19 σ.w σ.O hs.olt v1_2 (cw0 (rd_f at4) hs)) ?_)
     refine ng (.cons at1 .nil) (.cons at1 .nil) ?_
     refine jg_ls (listed' := #[true, true, true, true, true, true, true, true, true, false, false, false, false, false, false, false, true, false, false, false, false]) (by kernel_rfl) ?_
     exact nj_weak (hJ6_33_2 _ _ _ _ _ _ _ (hs6_33_7 b1_27)) ⟨rfl, rfl, rfl, rfl, rfl, rfl, trivial⟩ (.cons de0 (.cons de0 .nil)) (.cons at0 (.cons at1 (.cons at2 (.cons at3 (.cons at4 (.cons at5 (.cons at6 .nil)))))))
    ·
     refine gst rfl rfl (so_alloc ti64 (by decide) rfl rfl fun b1_25 => ?_)
     refine ng (.cons at2 .nil) (.cons at1 .nil) ?_
     refine jg_ls (listed' := #[true, true, true, true, true, true, true, true, false, false, false, false, false, false, true, false, true, false, false, false, false]) (by kernel_rfl) ?_
     exact nj_weak (hJ6_33_2 _ _ _ _ _ _ _ (hs6_33_9 b1_25 b1_27)) ⟨rfl, rfl, rfl, rfl, rfl, rfl, rfl, rfl, rfl, trivial⟩ (.cons de1 (.cons de0 (.cons de0 .nil))) (.cons at0 (.cons at1 (.cons at2 (.cons at3 (.cons at4 (.cons at5 (.cons at6 .nil)))))))
    ·
     refine gst rfl rfl (so_alloc ti62 (by decide) rfl rfl fun b1_26 => ?_)
     refine ng (.cons at2 .nil) (.cons at1 .nil) ?_
     refine jg_ls (listed' := #[true, true, true, true, true, true, true, true, false, false, false, false, false, false, false, true, true, false, false, false, false]) (by kernel_rfl) ?_
     exact nj_weak (hJ6_33_2 _ _ _ _ _ _ _ (hs6_33_10 b1_26 b1_27)) ⟨rfl, rfl, rfl, rfl, rfl, rfl, rfl, rfl, rfl, trivial⟩ (.cons de1 (.cons de0 (.cons de0 .nil))) (.cons at0 (.cons at1 (.cons at2 (.cons at3 (.cons at4 (.cons at5 (.cons at6 .nil)))))))
   have hs6_33_3 : ∀ (b1_26 : Nat), J6_33 [([], .blk b1 38 (tyVCommit.enc (⟨p1.Epoch, p1.From, v1_2, v1_3, p1.Seal, p1.Path, v1_6, p1.Tag, p1.Sig⟩ : VCommit)))] [fa true mBl b1_12 (tyVpartyParty.enc (⟨x2.v, x2.leaf, u1_12_2, x2.own, x2.has', x2.nodes, x2.epoch, x2.init'⟩ : VpartyParty))] 12 #[true, true, true, true, true, true, true, true, false, false, false, false, false, false, false, true, false, false, false, false, false] [(0, .pointer v0), (3, pt b1 0), (4, .pointer (none : Option Addr)), (5, .int .i64 0), (8, pt b1_26 0), (29, ag (tySView.enc x1_14)), (31, .int .i64 x1_16), (33, sv v1_2)] [.blk b1_26 62 ((Ty.arr 8 tyB).enc (Vector.replicate 8 false)), .blk b1 38 (tyVCommit.enc (⟨p1.Epoch, p1.From, v1_2, v1_3, p1.Seal, p1.Path, v1_6, p1.Tag, p1.Sig⟩ : VCommit))] [fa true mKey u1_12_2 x2.signer, fa true mBl b1_12 (tyVpartyParty.enc (⟨x2.v, x2.leaf, u1_12_2, x2.own, x2.has', x2.nodes, x2.epoch, x2.init'⟩ : VpartyParty)), fa true mSpartyParty (⟨x2.v, x2.leaf, u1_12_2, x2.own, x2.has', x2.nodes, x2.epoch, x2.init'⟩ : VpartyParty) x2, fa true (mPt tyVpartyParty mSpartyParty) v0 p0, fa false (mRow tySOp) v1_2 p1.Ops, fa false (mRow tySVote) v1_3 p1.Votes, fa true (mSl tySl (mRow (tyI .u8))) v1_6 p1.Boxes] := by
    intro b1_26
    refine hJ6_33_1 _ _ _ _ _ _ _ ?_
    refine jg_ready (rs := [8, 14, 16]) (by kernel_rfl) (by simp) (.cons ?_ (.cons ?_ (.cons ?_ .nil)))
    ·
     refine gst rfl rfl (so_callv pf88 rfl rfl rfl rfl (fun σ hs => F88_c hy1_19 σ.w σ.O hs.olt v1_2 (cw0 (rd_f at4) hs)) ?_)
     refine ng (.cons at1 .nil) (.cons at1 .nil) ?_
     refine jg_ls (listed' := #[true, true, true, true, true, true, true, true, true, false, false, false, false, false, false, true, false, false, false, false, false]) (by kernel_rfl) ?_
     exact nj_weak (hJ6_33_2 _ _ _ _ _ _ _ (hs6_33_6 b1_26)) ⟨rfl, rfl, rfl, rfl, rfl, rfl, trivial⟩ (.cons de0 (.cons de0 .nil)) (.cons at0 (.cons at1 (.cons at2 (.cons at3 (.cons at4 (.cons at5 (.cons at6 .nil)))))))
    ·
     refine gst rfl rfl (so_alloc ti64 (by decide) rfl rfl fun b1_25 => ?_)
     refine ng (.cons at2 .nil) (.cons at1 .nil) ?_
     refine jg_ls (listed' := #[true, true, true, true, true, true, true, true, false, false, false, false, false, false, true, true, false, false, false, false, false]) (by kernel_rfl) ?_
     exact nj_weak (hJ6_33_2 _ _ _ _ _ _ _ (hs6_33_8 b1_25 b1_26)) ⟨rfl, rfl, rfl, rfl, rfl, rfl, rfl, rfl, rfl, trivial⟩ (.cons de1 (.cons de0 (.cons de0 .nil))) (.cons at0 (.cons at1 (.cons at2 (.cons at3 (.cons at4 (.cons at5 (.cons at6 .nil)))))))
    ·
     refine gst rfl rfl (so_alloc ti62 (by decide) rfl rfl fun b1_27 => ?_)
     refine ng (.cons at2 .nil) (.cons at1 .nil) ?_
     refine jg_ls (listed' := #[true, true, true, true, true, true, true, true, false, false, false, false, false, false, false, true, true, false, false, false, false]) (by kernel_rfl) ?_
     exact nj_weak (hJ6_33_2 _ _ _ _ _ _ _ (hs6_33_10 b1_26 b1_27)) ⟨rfl, rfl, rfl, rfl, rfl, rfl, rfl, rfl, rfl, trivial⟩ (.cons de0 (.cons de0 (.cons de0 .nil))) (.cons at0 (.cons at1 (.cons at2 (.cons at3 (.cons at4 (.cons at5 (.cons at6 .nil)))))))
   have hs6_33_2 : ∀ (b1_25 : Nat), J6_33 [([], .blk b1 38 (tyVCommit.enc (⟨p1.Epoch, p1.From, v1_2, v1_3, p1.Seal, p1.Path, v1_6, p1.Tag, p1.Sig⟩ : VCommit)))] [fa true mBl b1_12 (tyVpartyParty.enc (⟨x2.v, x2.leaf, u1_12_2, x2.own, x2.has', x2.nodes, x2.epoch, x2.init'⟩ : VpartyParty))] 12 #[true, true, true, true, true, true, true, true, false, false, false, false, false, false, true, false, false, false, false, false, false] [(0, .pointer v0), (3, pt b1 0), (4, .pointer (none : Option Addr)), (5, .int .i64 0), (7, pt b1_25 0), (29, ag (tySView.enc x1_14)), (31, .int .i64 x1_16), (33, sv v1_2)] [.blk b1_25 64 (tySView.enc SView.zero), .blk b1 38 (tyVCommit.enc (⟨p1.Epoch, p1.From, v1_2, v1_3, p1.Seal, p1.Path, v1_6, p1.Tag, p1.Sig⟩ : VCommit))] [fa true mKey u1_12_2 x2.signer, fa true mBl b1_12 (tyVpartyParty.enc (⟨x2.v, x2.leaf, u1_12_2, x2.own, x2.has', x2.nodes, x2.epoch, x2.init'⟩ : VpartyParty)), fa true mSpartyParty (⟨x2.v, x2.leaf, u1_12_2, x2.own, x2.has', x2.nodes, x2.epoch, x2.init'⟩ : VpartyParty) x2, fa true (mPt tyVpartyParty mSpartyParty) v0 p0, fa false (mRow tySOp) v1_2 p1.Ops, fa false (mRow tySVote) v1_3 p1.Votes, fa true (mSl tySl (mRow (tyI .u8))) v1_6 p1.Boxes] := by
    intro b1_25
    refine hJ6_33_1 _ _ _ _ _ _ _ ?_
    refine jg_ready (rs := [8, 15, 16]) (by kernel_rfl) (by simp) (.cons ?_ (.cons ?_ (.cons ?_ .nil)))
    ·
     refine gst rfl rfl (so_callv pf88 rfl rfl rfl rfl (fun σ hs => F88_c hy1_19 σ.w σ.O hs.olt v1_2 (cw0 (rd_f at4) hs)) ?_)
     refine ng (.cons at1 .nil) (.cons at1 .nil) ?_
     refine jg_ls (listed' := #[true, true, true, true, true, true, true, true, true, false, false, false, false, false, true, false, false, false, false, false, false]) (by kernel_rfl) ?_
     exact nj_weak (hJ6_33_2 _ _ _ _ _ _ _ (hs6_33_5 b1_25)) ⟨rfl, rfl, rfl, rfl, rfl, rfl, trivial⟩ (.cons de0 (.cons de0 .nil)) (.cons at0 (.cons at1 (.cons at2 (.cons at3 (.cons at4 (.cons at5 (.cons at6 .nil)))))))
    ·
     refine gst rfl rfl (so_alloc ti62 (by decide) rfl rfl fun b1_26 => ?_)
     refine ng (.cons at2 .nil) (.cons at1 .nil) ?_
     refine jg_ls (listed' := #[true, true, true, true, true, true, true, true, false, false, false, false, false, false, true, true, false, false, false, false, false]) (by kernel_rfl) ?_
     exact nj_weak (hJ6_33_2 _ _ _ _ _ _ _ (hs6_33_8 b1_25 b1_26)) ⟨rfl, rfl, rfl, rfl, rfl, rfl, rfl, rfl, rfl, trivial⟩ (.cons de0 (.cons de0 (.cons de0 .nil))) (.cons at0 (.cons at1 (.cons at2 (.cons at3 (.cons at4 (.cons at5 (.cons at6 .nil)))))))
    ·
     refine gst rfl rfl (so_alloc ti62 (by decide) rfl rfl fun b1_27 => ?_)
     refine ng (.cons at2 .nil) (.cons at1 .nil) ?_
     refine jg_ls (listed' := #[true, true, true, true, true, true, true, true, false, false, false, false, false, false, true, false, true, false, false, false, false]) (by kernel_rfl) ?_
     exact nj_weak (hJ6_33_2 _ _ _ _ _ _ _ (hs6_33_9 b1_25 b1_27)) ⟨rfl, rfl, rfl, rfl, rfl, rfl, rfl, rfl, rfl, trivial⟩ (.cons de0 (.cons de0 (.cons de0 .nil))) (.cons at0 (.cons at1 (.cons at2 (.cons at3 (.cons at4 (.cons at5 (.cons at6 .nil)))))))
   have hs6_33_1 : J6_33 [([], .blk b1 38 (tyVCommit.enc (⟨p1.Epoch, p1.From, v1_2, v1_3, p1.Seal, p1.Path, v1_6, p1.Tag, p1.Sig⟩ : VCommit)))] [fa true mBl b1_12 (tyVpartyParty.enc (⟨x2.v, x2.leaf, u1_12_2, x2.own, x2.has', x2.nodes, x2.epoch, x2.init'⟩ : VpartyParty))] 12 #[true, true, true, true, true, true, true, true, true, false, false, false, false, false, false, false, false, false, false, false, false] [(0, .pointer v0), (3, pt b1 0), (4, .pointer (none : Option Addr)), (5, .int .i64 0), (34, .tuple #[ag (tySView.enc y1_19.1), ag ((Ty.arr 8 tyB).enc y1_19.2.1), ag ((Ty.arr 8 tyB).enc y1_19.2.2.1), .int .i64 y1_19.2.2.2])] [.blk b1 38 (tyVCommit.enc (⟨p1.Epoch, p1.From, v1_2, v1_3, p1.Seal, p1.Path, v1_6, p1.Tag, p1.Sig⟩ : VCommit))] [fa true mKey u1_12_2 x2.signer, fa true mBl b1_12 (tyVpartyParty.enc (⟨x2.v, x2.leaf, u1_12_2, x2.own, x2.has', x2.nodes, x2.epoch, x2.init'⟩ : VpartyParty)), fa true mSpartyParty (⟨x2.v, x2.leaf, u1_12_2, x2.own, x2.has', x2.nodes, x2.epoch, x2.init'⟩ : VpartyParty) x2, fa true (mPt tyVpartyParty mSpartyParty) v0 p0, fa false (mRow tySOp) v1_2 p1.Ops, fa false (mRow tySVote) v1_3 p1.Votes, fa true (mSl tySl (mRow (tyI .u8))) v1_6 p1.Boxes] := by
    refine hJ6_33_1 _ _ _ _ _ _ _ ?_
    refine tk (i := 9) rfl (by kernel_rfl) rfl (yv_move rfl rfl) .nil .nil ?_
    refine tk (i := 10) rfl (by kernel_rfl) rfl (yv_ext rfl rfl rfl) .nil .nil ?_
    refine tk (i := 11) rfl (by kernel_rfl) rfl (yv_ext rfl rfl rfl) .nil .nil ?_
    refine tk (i := 12) rfl (by kernel_rfl) rfl (yv_ext rfl rfl rfl) .nil .nil ?_
    refine tk (i := 13) rfl (by kernel_rfl) rfl (yv_ext rfl rfl rfl) .nil .nil ?_
    refine jg_ready (rs := [14, 15, 16]) (by kernel_rfl) (by simp) (.cons ?_ (.cons ?_ (.cons ?_ .nil)))
    ·
     refine gst rfl rfl (so_alloc ti64 (by decide) rfl rfl fun b1_25 => ?_)
     refine ng (.cons at1 .nil) (.cons at1 .nil) ?_
     refine jg_ls (listed' := #[true, true, true, true, true, true, true, true, true, true, true, true, true, true, true, false, false, false, false, false, false]) (by kernel_rfl) ?_
     exact nj_weak (hJ6_33_2 _ _ _ _ _ _ _ (hs6_33_16 b1_25)) ⟨rfl, rfl, rfl, rfl, rfl, rfl, rfl, rfl, rfl, trivial⟩ (.cons de0 (.cons de0 .nil)) (.cons at0 (.cons at1 (.cons at2 (.cons at3 (.cons at4 (.cons at5 (.cons at6 .nil)))))))
    ·
     refine gst rfl rfl (so_alloc ti62 (by decide) rfl rfl fun b1_26 => ?_)
     refine ng (.cons at1 .nil) (.cons at1 .nil) ?_
     refine jg_ls (listed' := #[true, true, true, true, true, true, true, true, true, true, true, true, true, true, false, true, false, false, false, false, false]) (by kernel_rfl) ?_
     exact nj_weak (hJ6_33_2 _ _ _ _ _ _ _ (hs6_33_17 b1_26)) ⟨rfl, rfl, rfl, rfl, rfl, rfl, rfl, rfl, rfl, trivial⟩ (.cons de0 (.cons de0 .nil)) (.cons at0 (.cons at1 (.cons at2 (.cons at3 (.cons at4 (.cons at5 (.cons at6 .nil)))))))
    ·
     refine gst rfl rfl (so_alloc ti62 (by decide) rfl rfl fun b1_27 => ?_)
     refine ng (.cons at1 .nil) (.cons at1 .nil) ?_
     refine jg_ls (listed' := #[true, true, true, true, true, true, true, true, true, true, true, true, true, true, false, false, true, false, false, false, false]) (by kernel_rfl) ?_
     exact nj_weak (hJ6_33_2 _ _ _ _ _ _ _ (hs6_33_18 b1_27)) ⟨rfl, rfl, rfl, rfl, rfl, rfl, rfl, rfl, rfl, trivial⟩ (.cons de0 (.cons de0 .nil)) (.cons at0 (.cons at1 (.cons at2 (.cons at3 (.cons at4 (.cons at5 (.cons at6 .nil)))))))
   refine hJ6_33_1 _ _ _ _ _ _ _ ?_
   refine jg_ready (rs := [8, 14, 15, 16]) (by kernel_rfl) (by simp) (.cons ?_ (.cons ?_ (.cons ?_ (.cons ?_ .nil))))
   ·
    refine gst rfl rfl (so_callv pf88 rfl rfl rfl rfl (fun σ hs => F88_c hy1_19 σ.w σ.O hs.olt v1_2 (cw0 (rd_f at4) hs)) ?_)
    refine ng (.cons at0 .nil) (.cons at1 .nil) ?_
    refine jg_ls (listed' := #[true, true, true, true, true, true, true, true, true, false, false, false, false, false, false, false, false, false, false, false, false]) (by kernel_rfl) ?_
    exact nj_weak (hJ6_33_2 _ _ _ _ _ _ _ (hs6_33_1)) ⟨rfl, rfl, rfl, rfl, rfl, trivial⟩ (.cons de0 .nil) (.cons at0 (.cons at1 (.cons at2 (.cons at3 (.cons at4 (.cons at5 (.cons at6 .nil)))))))
   ·
    refine gst rfl rfl (so_alloc ti64 (by decide) rfl rfl fun b1_25 => ?_)
    refine ng (.cons at1 .nil) (.cons at1 .nil) ?_
    refine jg_ls (listed' := #[true, true, true, true, true, true, true, true, false, false, false, false, false, false, true, false, false, false, false, false, false]) (by kernel_rfl) ?_
    exact nj_weak (hJ6_33_2 _ _ _ _ _ _ _ (hs6_33_2 b1_25)) ⟨rfl, rfl, rfl, rfl, rfl, rfl, rfl, rfl, trivial⟩ (.cons de0 (.cons de0 .nil)) (.cons at0 (.cons at1 (.cons at2 (.cons at3 (.cons at4 (.cons at5 (.cons at6 .nil)))))))
   ·
    refine gst rfl rfl (so_alloc ti62 (by decide) rfl rfl fun b1_26 => ?_)
    refine ng (.cons at1 .nil) (.cons at1 .nil) ?_
    refine jg_ls (listed' := #[true, true, true, true, true, true, true, true, false, false, false, false, false, false, false, true, false, false, false, false, false]) (by kernel_rfl) ?_
    exact nj_weak (hJ6_33_2 _ _ _ _ _ _ _ (hs6_33_3 b1_26)) ⟨rfl, rfl, rfl, rfl, rfl, rfl, rfl, rfl, trivial⟩ (.cons de0 (.cons de0 .nil)) (.cons at0 (.cons at1 (.cons at2 (.cons at3 (.cons at4 (.cons at5 (.cons at6 .nil)))))))
   ·
    refine gst rfl rfl (so_alloc ti62 (by decide) rfl rfl fun b1_27 => ?_)
    refine ng (.cons at1 .nil) (.cons at1 .nil) ?_
    refine jg_ls (listed' := #[true, true, true, true, true, true, true, true, false, false, false, false, false, false, false, false, true, false, false, false, false]) (by kernel_rfl) ?_
    exact nj_weak (hJ6_33_2 _ _ _ _ _ _ _ (hs6_33_4 b1_27)) ⟨rfl, rfl, rfl, rfl, rfl, rfl, rfl, rfl, trivial⟩ (.cons de0 (.cons de0 .nil)) (.cons at0 (.cons at1 (.cons at2 (.cons at3 (.cons at4 (.cons at5 (.cons at6 .nil)))))))
  ·
   replace h := brT h
   refine jc_t rfl ?_
   refine jc_seq ?_
   refine jc_reg ?_
   refine sqv rfl (yv_move rfl rfl) ?_
   refine sqv rfl (yv_assign rfl rfl) ?_
   refine sqv rfl (yv_assign rfl rfl) ?_
   refine jl_nil ?_
   refine jx_then ?_
   refine jc_ret ?_
   refine jx_tr ?_
   refine nj_s (m := (mPt tyVpartyParty mSpartyParty)) (v := (none : Option Addr)) (p := none) rq_pt0 ?_
   cases h
   exact jx_ret rfl (rr_tmp rfl (rr_tmp rfl rr_nil)) ⟨((none : Option Addr)), rfl, rfl, rfl, rfl⟩ .nil (.cons at0 .nil) rfl (by simp)
theorem F56_c {p0 : Int} {r : (Vector Int 32)} (h : F56 p0 = some r) (w0 : World) (O0 : Nat → Prop) (hO : ∀ k, O0 k → k < w0.heap.size) :
  CallsP Tryz.prog 56 (List.toArray [.int .i64 p0]) w0 O0 [] (RV (ag ((Ty.arr 32 (tyI .u8)).enc r))) := by
 unfold F56 at h
 refine calls_start (e := [(0, .int .i64 p0)]) (L := []) (K := []) Tryz.func56 rfl rfl rfl ⟨rfl, trivial⟩ hO (by simp) .nil aln ?_
 refine jc_seq ?_
 refine jc_reg ?_
 refine sq rfl (so_alloc ti25 (by decide) rfl rfl fun b1 => ?_)
 refine jl_nil ?_
 refine jx_then ?_
 refine jc_seq ?_
 refine jc_reg ?_
 refine sqv rfl (yv_move rfl rfl) ?_
 obtain ⟨x2, hx2, h⟩ := letX h
 refine sqv rfl (yxi hx2 (yv_con rfl (by rw [Tryz.underlying3]; rfl) Tryz.underlying5 rfl)) ?_
 obtain ⟨x3, hx3, h⟩ := letX h
 refine sqv rfl (yxg (C := (Ty.arr 32 (tyI .u8))) hx3 (yv_build bi25 rfl rfl (fills_cons rfl (arr_upd (tyI .u8) (Vector.replicate 32 (0 : Int)) (0 : Int) x2 (by decide)) rfl (Ty.len (tyI .u8) x2) (fills_cons rfl (arr_upd (tyI .u8) (vup (Vector.replicate 32 (0 : Int)) (0 : Int) x2) (1 : Int) 11 (by decide)) rfl (Ty.len (tyI .u8) 11) fills_nil)))) ?_
 refine sq rfl (so_sta ti25 rfl rfl rfl rfl (Upd.refl (by simp [Ty.len])) (Ty.len _ _) (Ty.one _ _) (xs' := (Ty.arr 32 (tyI .u8)).enc x3) se0 ?_)
 refine jl_nil ?_
 refine jx_then ?_
 refine jc_ret ?_
 cases h
 exact jx_ret rfl (rr_cella ti25 rfl at0 (Ty.len _ _) rr_nil) ⟨rfl, rfl, rfl, rfl⟩ .nil .nil rfl (by simp)
theorem F46_c {r : Bool} (h : F46 = some r) (w0 : World) (O0 : Nat → Prop) (hO : ∀ k, O0 k → k < w0.heap.size) :
  CallsP Tryz.prog 46 (List.toArray []) w0 O0 [] (RV (.bool r)) := by
 unfold F46 at h
 refine calls_start (e := []) (L := []) (K := []) Tryz.func46 rfl rfl rfl trivial hO (by simp) .nil aln ?_
 refine jc_seq ?_
 refine jc_reg ?_
 refine sqv rfl (yv_assign rfl rfl) ?_
 refine jl_nil ?_
 refine jx_then ?_
 refine jc_seq ?_
 refine jc_reg ?_
 obtain ⟨y1, hy1, h⟩ := bdE h
 refine sq rfl (so_callv pf56 rfl rfl rfl rfl (fun σ hs => F56_c hy1 σ.w σ.O hs.olt) ?_)
 obtain ⟨y2, hy2, h⟩ := bdE h
 refine sq rfl (so_callx pf28 rfl rfl rfl rfl (fun σ hs => F28_c hy2 σ.w σ.O hs.olt) (fun _ => .nil) (fun _ => (.cons .nil)) (fun r3 => ?_))
 refine sqv rfl (yv_assign rfl rfl) ?_
 refine jl_nil ?_
 refine jx_then ?_
 refine jc_seq ?_
 refine jc_seq_n ?_
 intro N0 hN0
 have hj0 : ∀ (j15 : Bool), F46_j0 y2 j15 = some r → NJ 52 w0 O0 [] N0 [(0, .bool false), (1, .pointer r3), (20, .bool j15)] [] [fa true (mPt tyVpartyParty mSpartyParty) r3 y2] := by
  intro j15 h
  unfold F46_j0 at h
  refine nj_abs hN0 ?_
  rcases j15 with _ | _
  ·
   replace h := brF h
   refine jc_f rfl ?_
   refine jc_skip ?_
   refine jx_then ?_
   refine jc_seq ?_
   refine jc_reg ?_
   refine sqv rfl (yv_move rfl rfl) ?_
   obtain ⟨x3_16, hx3_16, h⟩ := letX h
   refine sqv rfl (yxg (C := (Ty.arr 32 (tyI .u8))) hx3_16 (yv_build bi25 rfl rfl (fills_cons rfl (arr_upd (tyI .u8) (Vector.replicate 32 (0 : Int)) (0 : Int) 1 (by decide)) rfl (Ty.len (tyI .u8) 1) fills_nil))) ?_
   obtain ⟨y4_16, hy4_16, h⟩ := bdE h
   refine sq rfl (so_callx pf32 rfl rfl rfl rfl (fun σ hs => F32_c hy4_16 σ.w σ.O hs.olt r3 (⟨none, 0, 0⟩ : Sl) (⟨none, 0, 0⟩ : Sl) (cs0 (rs_f at0) hs) (cw0 rq_nil hs) (cw0 rq_nil hs)) (fun _ => (.cons (.cons .nil))) (fun _ => (.cons (.cons (.cons (.cons (.cons .nil)))))) (fun ⟨r5_16, r6_16, r7_16, r8_16, r9_16, r10_16, r11_16⟩ => ?_))
   refine sqv rfl (yv_move rfl rfl) ?_
   refine sqv rfl (yv_ext rfl rfl rfl) ?_
   refine sqv rfl (yv_ext rfl rfl rfl) ?_
   refine sqv rfl (yv_ext rfl rfl rfl) ?_
   refine sqv rfl (yv_ext rfl rfl rfl) ?_
   refine sq rfl (so_alloc ti38 (by decide) rfl rfl fun b12_16 => ?_)
   refine sq rfl (so_sta ti38 rfl rfl rfl rfl (Upd.refl (xs := (tyVCommit.enc (⟨(0 : Int), (0 : Int), (⟨none, 0, 0⟩ : Sl), (⟨none, 0, 0⟩ : Sl), (0 : Int), (Vector.replicate 3 (0 : Int)), (⟨none, 0, 0⟩ : Sl), (Vector.replicate 32 (0 : Int)), SSig.zero⟩ : VCommit))) (ys := (tyVCommit.enc (⟨y4_16.1.Epoch, y4_16.1.From, r5_16, r6_16, y4_16.1.Seal, y4_16.1.Path, r7_16, y4_16.1.Tag, y4_16.1.Sig⟩ : VCommit))) (by simp only [Ty.len])) (Ty.len _ _) (Ty.one _ _) (xs' := tyVCommit.enc (⟨y4_16.1.Epoch, y4_16.1.From, r5_16, r6_16, y4_16.1.Seal, y4_16.1.Path, r7_16, y4_16.1.Tag, y4_16.1.Sig⟩ : VCommit)) se0 ?_)
   refine sqv rfl (yv_assign rfl rfl) ?_
   refine sqv rfl (yv_assign rfl rfl) ?_
   refine sqv rfl (yv_assign rfl rfl) ?_
   refine jl_nil ?_
   refine jx_then ?_
   refine jc_seq ?_
   refine jc_reg ?_
   refine sqv rfl (yv_move rfl rfl) ?_
   obtain ⟨x13_16, hx13_16, h⟩ := letX h
   refine sqv rfl (yxb hx13_16 (yv_eql rfl rfl rfl)) ?_
   refine sqv rfl (yv_move rfl rfl) ?_
   rcases x13_16 with _ | _
   ·
    replace h := brF h
    refine sq_skip rfl ?_
    refine sq_skip rfl ?_
    refine sq_skip rfl ?_
    refine sqv rfl (yv_pick_f rfl rfl rfl) ?_
    refine sqv rfl (yv_move rfl rfl) ?_
    refine sq_skip rfl ?_
    refine sq_skip rfl ?_
    refine sqv rfl (yv_pick_f rfl rfl rfl) ?_
    refine sqv rfl (yv_move rfl rfl) ?_
    refine sq_skip rfl ?_
    refine sq_skip rfl ?_
    refine sq_skip rfl ?_
    refine sq_skip rfl ?_
    refine sqv rfl (yv_pick_f rfl rfl rfl) ?_
    refine sqv rfl (yv_move rfl rfl) ?_
    refine sq_skip rfl ?_
    refine sq_skip rfl ?_
    refine sq_skip rfl ?_
    refine sq_skip rfl ?_
    refine sqv rfl (yv_pick_f rfl rfl rfl) ?_
    refine sqv rfl (yv_assign rfl rfl) ?_
    refine jl_nil ?_
    refine jx_then ?_
    refine jc_ret ?_
    cases h
    exact jx_ret rfl (rr_tmp rfl rr_nil) ⟨rfl, rfl, rfl, rfl⟩ .nil .nil rfl (by simp)
   ·
    replace h := brT h
    refine sqv rfl (yv_move rfl rfl) ?_
    obtain ⟨x14_16, hx14_16, h⟩ := letX h
    refine sqv rfl (yv_lenx isl39 rfl rfl (rq_sl (rd_o at2) (rd_f at3)) hx14_16) ?_
    obtain ⟨x15_16, hx15_16, h⟩ := letX h
    refine sqv rfl (yxb hx15_16 (yv_eql rfl rfl rfl)) ?_
    refine sqv rfl (yv_pick_t rfl rfl rfl) ?_
    refine sqv rfl (yv_move rfl rfl) ?_
    rcases x15_16 with _ | _
    ·
     replace h := brF h
     refine sq_skip rfl ?_
     refine sq_skip rfl ?_
     refine sqv rfl (yv_pick_f rfl rfl rfl) ?_
     refine sqv rfl (yv_move rfl rfl) ?_
     refine sq_skip rfl ?_
     refine sq_skip rfl ?_
     refine sq_skip rfl ?_
     refine sq_skip rfl ?_
     refine sqv rfl (yv_pick_f rfl rfl rfl) ?_
     refine sqv rfl (yv_move rfl rfl) ?_
     refine sq_skip rfl ?_
     refine sq_skip rfl ?_
     refine sq_skip rfl ?_
     refine sq_skip rfl ?_
     refine sqv rfl (yv_pick_f rfl rfl rfl) ?_
     refine sqv rfl (yv_assign rfl rfl) ?_
     refine jl_nil ?_
     refine jx_then ?_
     refine jc_ret ?_
     cases h
     exact jx_ret rfl (rr_tmp rfl rr_nil) ⟨rfl, rfl, rfl, rfl⟩ .nil .nil rfl (by simp)
    ·
     replace h := brT h
     refine sqv rfl (yv_move rfl rfl) ?_
     rcases moE h with ⟨hm_x16_16, h⟩ | ⟨x16_16, hm_x16_16, h⟩
     ·
      skip
      refine nj_pn0 at4 hm_x16_16 fun hn_n17_16 => ?_
      refine sqv rfl (yv_pnn ipt22 rfl rfl rfl hn_n17_16) ?_
      refine sqv rfl (yv_pick_t rfl rfl rfl) ?_
      refine sqv rfl (yv_move rfl rfl) ?_
      refine sq_skip rfl ?_
      refine sq_skip rfl ?_
      refine sq_skip rfl ?_
      refine sq_skip rfl ?_
      refine sqv rfl (yv_pick_f rfl rfl rfl) ?_
      refine sqv rfl (yv_move rfl rfl) ?_
      refine sq_skip rfl ?_
      refine sq_skip rfl ?_
      refine sq_skip rfl ?_
      refine sq_skip rfl ?_
      refine sqv rfl (yv_pick_f rfl rfl rfl) ?_
      refine sqv rfl (yv_assign rfl rfl) ?_
      refine jl_nil ?_
      refine jx_then ?_
      refine jc_ret ?_
      cases h
      exact jx_ret rfl (rr_tmp rfl rr_nil) ⟨rfl, rfl, rfl, rfl⟩ .nil .nil rfl (by simp)
     ·
      skip
      refine nj_pn1 at4 hm_x16_16 fun hn_n18_16 => ?_
      refine sqv rfl (yv_pnn ipt22 rfl rfl rfl hn_n18_16) ?_
      refine sqv rfl (yv_pick_t rfl rfl rfl) ?_
      refine sqv rfl (yv_move rfl rfl) ?_
      refine sqv rfl (yv_move rfl rfl) ?_
      obtain ⟨y19_16, hy19_16, h⟩ := bdE h
      refine sq rfl (so_callv pf40 rfl rfl rfl rfl (fun σ hs => F40_c hy19_16 σ.w σ.O hs.olt r11_16 (cw0 (rd_f at4) hs)) ?_)
      obtain ⟨x20_16, hx20_16, h⟩ := letX h
      refine sqv rfl (yxi hx20_16 (yv_field (g := false) (ys := (tyI .i64).enc (y19_16.Epoch)) Tryz.underlying64 rfl rfl ti3 rfl rfl (SView.s0 _) (Ty.len _ _) (fun _ => rfl))) ?_
      obtain ⟨x21_16, hx21_16, h⟩ := letX h
      refine sqv rfl (yxb hx21_16 (yv_eql rfl rfl rfl)) ?_
      refine sqv rfl (yv_pick_t rfl rfl rfl) ?_
      refine sqv rfl (yv_move rfl rfl) ?_
      rcases x21_16 with _ | _
      ·
       replace h := brF h
       refine sq_skip rfl ?_
       refine sq_skip rfl ?_
       refine sq_skip rfl ?_
       refine sq_skip rfl ?_
       refine sqv rfl (yv_pick_f rfl rfl rfl) ?_
       refine sqv rfl (yv_assign rfl rfl) ?_
       refine jl_nil ?_
       refine jx_then ?_
       refine jc_ret ?_
       cases h
       exact jx_ret rfl (rr_tmp rfl rr_nil) ⟨rfl, rfl, rfl, rfl⟩ .nil .nil rfl (by simp)
      ·
       replace h := brT h
       refine sqv rfl (yv_move rfl rfl) ?_
       obtain ⟨y22_16, hy22_16, h⟩ := bdE h
       refine sq rfl (so_callv pf40 rfl rfl rfl rfl (fun σ hs => F40_c hy22_16 σ.w σ.O hs.olt r3 (cw0 (rd_f at5) hs)) ?_)
       obtain ⟨x23_16, hx23_16, h⟩ := letX h
       refine sqv rfl (yxi hx23_16 (yv_field (g := false) (ys := (tyI .i64).enc (y22_16.Epoch)) Tryz.underlying64 rfl rfl ti3 rfl rfl (SView.s0 _) (Ty.len _ _) (fun _ => rfl))) ?_
       obtain ⟨x24_16, hx24_16, h⟩ := letX h
       refine sqv rfl (yxb hx24_16 (yv_eql rfl rfl rfl)) ?_
       refine sqv rfl (yv_pick_t rfl rfl rfl) ?_
       refine sqv rfl (yv_assign rfl rfl) ?_
       refine jl_nil ?_
       refine jx_then ?_
       refine jc_ret ?_
       cases h
       exact jx_ret rfl (rr_tmp rfl rr_nil) ⟨rfl, rfl, rfl, rfl⟩ .nil .nil rfl (by simp)
  ·
   replace h := brT h
   refine jc_t rfl ?_
   refine jc_seq ?_
   refine jc_reg ?_
   refine sqv rfl (yv_assign rfl rfl) ?_
   refine jl_nil ?_
   refine jx_then ?_
   refine jc_ret ?_
   refine jx_tr ?_
   cases h
   exact jx_ret rfl (rr_tmp rfl rr_nil) ⟨rfl, rfl, rfl, rfl⟩ .nil .nil rfl (by simp)
 refine jc_reg ?_
 refine sqv rfl (yv_move rfl rfl) ?_
 rcases moE h with ⟨hm_x4, h⟩ | ⟨x4, hm_x4, h⟩
 ·
  skip
  refine nj_pn0 at0 hm_x4 fun hn_n5 => ?_
  refine sqv rfl (yv_pn ipt22 rfl rfl rfl hn_n5) ?_
  refine sqv rfl (yv_move rfl rfl) ?_
  refine sq_skip rfl ?_
  refine sq_skip rfl ?_
  refine sq_skip rfl ?_
  refine sqv rfl (yv_pick_t rfl rfl rfl) ?_
  refine sqv rfl (yv_move rfl rfl) ?_
  refine sq_skip rfl ?_
  refine sq_skip rfl ?_
  refine sq_skip rfl ?_
  refine sq_skip rfl ?_
  refine sqv rfl (yv_pick_t rfl rfl rfl) ?_
  refine jl_nil ?_
  refine jx_then_n ?_
  exact nj_weak (hj0 true h) ⟨rfl, rfl, rfl, trivial⟩ .nil (.cons at0 .nil)
 ·
  skip
  refine nj_pn1 at0 hm_x4 fun hn_n7 => ?_
  refine sqv rfl (yv_pn ipt22 rfl rfl rfl hn_n7) ?_
  refine sqv rfl (yv_move rfl rfl) ?_
  refine sqv rfl (yv_move rfl rfl) ?_
  obtain ⟨y8, hy8, h⟩ := bdE h
  refine sq rfl (so_callv pf42 rfl rfl rfl rfl (fun σ hs => F42_c hy8 σ.w σ.O hs.olt r3 (cw0 (rd_f at0) hs)) ?_)
  obtain ⟨x9, hx9, h⟩ := letX h
  refine sqv rfl (yxb hx9 (yv_neq rfl rfl rfl)) ?_
  refine sqv rfl (yv_pick_f rfl rfl rfl) ?_
  refine sqv rfl (yv_move rfl rfl) ?_
  rcases x9 with _ | _
  ·
   replace h := brF h
   refine sqv rfl (yv_move rfl rfl) ?_
   obtain ⟨y11, hy11, h⟩ := bdE h
   refine sq rfl (so_callv pf40 rfl rfl rfl rfl (fun σ hs => F40_c hy11 σ.w σ.O hs.olt r3 (cw0 (rd_f at0) hs)) ?_)
   obtain ⟨x12, hx12, h⟩ := letX h
   refine sqv rfl (yxi hx12 (yv_field (g := false) (ys := (tyI .i64).enc (y11.Epoch)) Tryz.underlying64 rfl rfl ti3 rfl rfl (SView.s0 _) (Ty.len _ _) (fun _ => rfl))) ?_
   obtain ⟨x13, hx13, h⟩ := letX h
   refine sqv rfl (yxb hx13 (yv_neq rfl rfl rfl)) ?_
   refine sqv rfl (yv_pick_f rfl rfl rfl) ?_
   refine jl_nil ?_
   refine jx_then_n ?_
   exact nj_weak (hj0 x13 h) ⟨rfl, rfl, rfl, trivial⟩ .nil (.cons at0 .nil)
  ·
   replace h := brT h
   refine sq_skip rfl ?_
   refine sq_skip rfl ?_
   refine sq_skip rfl ?_
   refine sq_skip rfl ?_
   refine sqv rfl (yv_pick_t rfl rfl rfl) ?_
   refine jl_nil ?_
   refine jx_then_n ?_
   exact nj_weak (hj0 true h) ⟨rfl, rfl, rfl, trivial⟩ .nil (.cons at0 .nil)
theorem F5_c {p0 : ByteArray} {r : Bool} (h : F5 p0 = some r) (w0 : World) (O0 : Nat → Prop) (hO : ∀ k, O0 k → k < w0.heap.size) :
  CallsP Tryz.prog 5 (List.toArray [.string p0]) w0 O0 [] (RV (.bool r)) := by
 unfold F5 at h
 refine calls_start (e := [(0, .string p0)]) (L := []) (K := []) Tryz.func5 rfl rfl rfl ⟨rfl, trivial⟩ hO (by simp) .nil aln ?_
 refine jc_seq ?_
 refine jc_reg ?_
 refine sqv rfl (yv_assign rfl rfl) ?_
 refine jl_nil ?_
 refine jx_then ?_
 refine jc_seq ?_
 refine jc_seq ?_
 refine jc_reg ?_
 refine sqv rfl (yv_move rfl rfl) ?_
 obtain ⟨x1, hx1, h⟩ := letX h
 refine sqv rfl (yv_lens Tryz.underlying9 rfl rfl hx1) ?_
 obtain ⟨x2, hx2, h⟩ := letX h
 refine sqv rfl (yxb hx2 (yv_gtr rfl rfl rfl)) ?_
 refine jl_nil ?_
 refine jx_then ?_
 rcases x2 with _ | _
 ·
  replace h := brF h
  refine jc_f rfl ?_
  refine jc_skip ?_
  refine jx_then ?_
  refine jc_seq ?_
  refine jc_reg ?_
  refine sqv rfl (yv_assign rfl rfl) ?_
  refine jl_nil ?_
  refine jx_then ?_
  refine jc_seq ?_
  refine jc_reg ?_
  refine sqv rfl (yv_move rfl rfl) ?_
  refine sqv rfl (yv_build bi25 rfl rfl fills_nil) ?_
  obtain ⟨y5, hy5, h⟩ := bdE h
  refine sq rfl (so_callx pf32 rfl rfl rfl rfl (fun σ hs => F32_c hy5 σ.w σ.O hs.olt (none : Option Addr) (⟨none, 0, 0⟩ : Sl) (⟨none, 0, 0⟩ : Sl) (cs0 rq_pt0 hs) (cw0 rq_nil hs) (cw0 rq_nil hs)) (fun _ => (.cons (.cons .nil))) (fun _ => (.cons (.cons (.cons (.cons (.cons .nil)))))) (fun ⟨r6, r7, r8, r9, r10, r11, r12⟩ => ?_))
  refine sqv rfl (yv_move rfl rfl) ?_
  refine sqv rfl (yv_ext rfl rfl rfl) ?_
  refine sqv rfl (yv_ext rfl rfl rfl) ?_
  refine sqv rfl (yv_ext rfl rfl rfl) ?_
  refine sqv rfl (yv_ext rfl rfl rfl) ?_
  refine sq rfl (so_alloc ti38 (by decide) rfl rfl fun b13 => ?_)
  refine sq rfl (so_sta ti38 rfl rfl rfl rfl (Upd.refl (xs := (tyVCommit.enc (⟨(0 : Int), (0 : Int), (⟨none, 0, 0⟩ : Sl), (⟨none, 0, 0⟩ : Sl), (0 : Int), (Vector.replicate 3 (0 : Int)), (⟨none, 0, 0⟩ : Sl), (Vector.replicate 32 (0 : Int)), SSig.zero⟩ : VCommit))) (ys := (tyVCommit.enc (⟨y5.1.Epoch, y5.1.From, r6, r7, y5.1.Seal, y5.1.Path, r8, y5.1.Tag, y5.1.Sig⟩ : VCommit))) (by simp only [Ty.len])) (Ty.len _ _) (Ty.one _ _) (xs' := tyVCommit.enc (⟨y5.1.Epoch, y5.1.From, r6, r7, y5.1.Seal, y5.1.Path, r8, y5.1.Tag, y5.1.Sig⟩ : VCommit)) se0 ?_)
  refine sqv rfl (yv_assign rfl rfl) ?_
  refine sqv rfl (yv_assign rfl rfl) ?_
  refine sqv rfl (yv_assign rfl rfl) ?_
  refine jl_nil ?_
  refine jx_then ?_
  refine jc_seq ?_
  refine jc_reg ?_
  refine sqv rfl (yv_move rfl rfl) ?_
  refine sqv rfl (yv_build bi38 rfl rfl fills_nil) ?_
  refine nj_s (m := (mSl tySl (mRow (tyI .u8)))) (v := (⟨none, 0, 0⟩ : Sl)) (p := ([] : (List (List Int)))) (rq_sl rq_nil rq_al0) ?_
  obtain ⟨y14, hy14, h⟩ := bdE h
  refine sq rfl (so_callx pf41 rfl rfl rfl rfl (fun σ hs => F41_c hy14 σ.w σ.O hs.olt (none : Option Addr) (⟨none, 0, 0⟩ : Sl) (⟨none, 0, 0⟩ : Sl) (⟨none, 0, 0⟩ : Sl) (cs0 rq_pt0 hs) (cw0 rq_nil hs) (cw0 rq_nil hs) (cs0 (rs_f at0) hs)) (fun _ => .nil) (fun _ => (.cons .nil)) (fun r15 => ?_))
  refine sqv rfl (yv_move rfl rfl) ?_
  refine sqv rfl (yv_ext rfl rfl rfl) ?_
  refine sqv rfl (yv_ext rfl rfl rfl) ?_
  refine sqv rfl (yv_assign rfl rfl) ?_
  refine sqv rfl (yv_assign rfl rfl) ?_
  refine jl_nil ?_
  refine jx_then ?_
  refine jc_seq ?_
  refine jc_reg ?_
  refine sqv rfl (yv_move rfl rfl) ?_
  obtain ⟨y16, hy16, h⟩ := bdE h
  refine sq rfl (so_callv pf40 rfl rfl rfl rfl (fun σ hs => F40_c hy16 σ.w σ.O hs.olt (none : Option Addr) (cw0 rq_pt0 hs)) ?_)
  refine sqv rfl (yv_build bi64 rfl rfl fills_nil) ?_
  obtain ⟨x17, hx17, h⟩ := letX h
  refine sqv rfl (yxb hx17 (yv_eqa (C := tySView) eq64 (by decide) eg64 rfl rfl rfl)) ?_
  refine sqv rfl (yv_move rfl rfl) ?_
  rcases x17 with _ | _
  ·
   replace h := brF h
   refine sq_skip rfl ?_
   refine sq_skip rfl ?_
   refine sq_skip rfl ?_
   refine sqv rfl (yv_pick_f rfl rfl rfl) ?_
   refine sqv rfl (yv_move rfl rfl) ?_
   refine sq_skip rfl ?_
   refine sq_skip rfl ?_
   refine sq_skip rfl ?_
   refine sqv rfl (yv_pick_f rfl rfl rfl) ?_
   refine sqv rfl (yv_move rfl rfl) ?_
   refine sq_skip rfl ?_
   refine sq_skip rfl ?_
   refine sq_skip rfl ?_
   refine sq_skip rfl ?_
   refine sq_skip rfl ?_
   refine sqv rfl (yv_pick_f rfl rfl rfl) ?_
   refine sqv rfl (yv_move rfl rfl) ?_
   refine sq_skip rfl ?_
   refine sq_skip rfl ?_
   refine sq_skip rfl ?_
   refine sqv rfl (yv_pick_f rfl rfl rfl) ?_
   refine sqv rfl (yv_move rfl rfl) ?_
   refine sq_skip rfl ?_
   refine sq_skip rfl ?_
   refine sq_skip rfl ?_
   refine sqv rfl (yv_pick_f rfl rfl rfl) ?_
   refine sqv rfl (yv_move rfl rfl) ?_
   refine sq_skip rfl ?_
   refine sq_skip rfl ?_
   refine sqv rfl (yv_pick_f rfl rfl rfl) ?_
   refine sqv rfl (yv_move rfl rfl) ?_
   refine sq_skip rfl ?_
   refine sq_skip rfl ?_
   refine sqv rfl (yv_pick_f rfl rfl rfl) ?_
   refine sqv rfl (yv_move rfl rfl) ?_
   refine sq_skip rfl ?_
   refine sq_skip rfl ?_
   refine sqv rfl (yv_pick_f rfl rfl rfl) ?_
   refine sqv rfl (yv_move rfl rfl) ?_
   refine sq_skip rfl ?_
   refine sq_skip rfl ?_
   refine sqv rfl (yv_pick_f rfl rfl rfl) ?_
   refine sqv rfl (yv_move rfl rfl) ?_
   refine sq_skip rfl ?_
   refine sqv rfl (yv_pick_f rfl rfl rfl) ?_
   refine sqv rfl (yv_assign rfl rfl) ?_
   refine jl_nil ?_
   refine jx_then ?_
   refine jc_ret ?_
   cases h
   exact jx_ret rfl (rr_tmp rfl rr_nil) ⟨rfl, rfl, rfl, rfl⟩ .nil .nil rfl (by simp)
  ·
   replace h := brT h
   refine sqv rfl (yv_move rfl rfl) ?_
   obtain ⟨y18, hy18, h⟩ := bdE h
   refine sq rfl (so_callv pf42 rfl rfl rfl rfl (fun σ hs => F42_c hy18 σ.w σ.O hs.olt (none : Option Addr) (cw0 rq_pt0 hs)) ?_)
   obtain ⟨x19, hx19, h⟩ := letX h
   refine sqv rfl (yxb hx19 (yv_eql rfl rfl rfl)) ?_
   refine sqv rfl (yv_pick_t rfl rfl rfl) ?_
   refine sqv rfl (yv_move rfl rfl) ?_
   rcases x19 with _ | _
   ·
    replace h := brF h
    refine sq_skip rfl ?_
    refine sq_skip rfl ?_
    refine sq_skip rfl ?_
    refine sqv rfl (yv_pick_f rfl rfl rfl) ?_
    refine sqv rfl (yv_move rfl rfl) ?_
    refine sq_skip rfl ?_
    refine sq_skip rfl ?_
    refine sq_skip rfl ?_
    refine sq_skip rfl ?_
    refine sq_skip rfl ?_
    refine sqv rfl (yv_pick_f rfl rfl rfl) ?_
    refine sqv rfl (yv_move rfl rfl) ?_
    refine sq_skip rfl ?_
    refine sq_skip rfl ?_
    refine sq_skip rfl ?_
    refine sqv rfl (yv_pick_f rfl rfl rfl) ?_
    refine sqv rfl (yv_move rfl rfl) ?_
    refine sq_skip rfl ?_
    refine sq_skip rfl ?_
    refine sq_skip rfl ?_
    refine sqv rfl (yv_pick_f rfl rfl rfl) ?_
    refine sqv rfl (yv_move rfl rfl) ?_
    refine sq_skip rfl ?_
    refine sq_skip rfl ?_
    refine sqv rfl (yv_pick_f rfl rfl rfl) ?_
    refine sqv rfl (yv_move rfl rfl) ?_
    refine sq_skip rfl ?_
    refine sq_skip rfl ?_
    refine sqv rfl (yv_pick_f rfl rfl rfl) ?_
    refine sqv rfl (yv_move rfl rfl) ?_
    refine sq_skip rfl ?_
    refine sq_skip rfl ?_
    refine sqv rfl (yv_pick_f rfl rfl rfl) ?_
    refine sqv rfl (yv_move rfl rfl) ?_
    refine sq_skip rfl ?_
    refine sq_skip rfl ?_
    refine sqv rfl (yv_pick_f rfl rfl rfl) ?_
    refine sqv rfl (yv_move rfl rfl) ?_
    refine sq_skip rfl ?_
    refine sqv rfl (yv_pick_f rfl rfl rfl) ?_
    refine sqv rfl (yv_assign rfl rfl) ?_
    refine jl_nil ?_
    refine jx_then ?_
    refine jc_ret ?_
    cases h
    exact jx_ret rfl (rr_tmp rfl rr_nil) ⟨rfl, rfl, rfl, rfl⟩ .nil .nil rfl (by simp)
   ·
    replace h := brT h
    refine sqv rfl (yv_move rfl rfl) ?_
    obtain ⟨y20, hy20, h⟩ := bdE h
    refine sq rfl (so_callx pf43 rfl rfl rfl rfl (fun σ hs => F43_c hy20 σ.w σ.O hs.olt (none : Option Addr) (cs0 rq_pt0 hs)) (fun _ => .nil) (fun _ => (.cons .nil)) (fun r21 => ?_))
    rcases moE h with ⟨hm_x22, h⟩ | ⟨x22, hm_x22, h⟩
    ·
     skip
     refine nj_kn0 at0 hm_x22 fun hn_n23 => ?_
     refine sqv rfl (yv_pn ipt70 rfl rfl rfl hn_n23) ?_
     refine sqv rfl (yv_pick_t rfl rfl rfl) ?_
     refine sqv rfl (yv_move rfl rfl) ?_
     refine sqv rfl (yv_move rfl rfl) ?_
     refine sqv rfl (yv_move rfl rfl) ?_
     obtain ⟨y24, hy24, h⟩ := bdE h
     refine sq rfl (so_callv pf44 rfl rfl rfl rfl (fun σ hs => F44_c hy24 σ.w σ.O hs.olt (none : Option Addr) (cw0 rq_pt0 hs)) ?_)
     refine sqv rfl (yv_build bi25 rfl rfl fills_nil) ?_
     obtain ⟨x25, hx25, h⟩ := letX h
     refine sqv rfl (yxb hx25 (yv_eqa (C := (Ty.arr 32 (tyI .u8))) eq25 (by decide) eg25 rfl rfl rfl)) ?_
     refine sqv rfl (yv_pick_t rfl rfl rfl) ?_
     refine sqv rfl (yv_move rfl rfl) ?_
     rcases x25 with _ | _
     ·
      replace h := brF h
      refine sq_skip rfl ?_
      refine sq_skip rfl ?_
      refine sq_skip rfl ?_
      refine sqv rfl (yv_pick_f rfl rfl rfl) ?_
      refine sqv rfl (yv_move rfl rfl) ?_
      refine sq_skip rfl ?_
      refine sq_skip rfl ?_
      refine sq_skip rfl ?_
      refine sqv rfl (yv_pick_f rfl rfl rfl) ?_
      refine sqv rfl (yv_move rfl rfl) ?_
      refine sq_skip rfl ?_
      refine sq_skip rfl ?_
      refine sqv rfl (yv_pick_f rfl rfl rfl) ?_
      refine sqv rfl (yv_move rfl rfl) ?_
      refine sq_skip rfl ?_
      refine sq_skip rfl ?_
      refine sqv rfl (yv_pick_f rfl rfl rfl) ?_
      refine sqv rfl (yv_move rfl rfl) ?_
      refine sq_skip rfl ?_
      refine sq_skip rfl ?_
      refine sqv rfl (yv_pick_f rfl rfl rfl) ?_
      refine sqv rfl (yv_move rfl rfl) ?_
      refine sq_skip rfl ?_
      refine sq_skip rfl ?_
      refine sqv rfl (yv_pick_f rfl rfl rfl) ?_
      refine sqv rfl (yv_move rfl rfl) ?_
      refine sq_skip rfl ?_
      refine sqv rfl (yv_pick_f rfl rfl rfl) ?_
      refine sqv rfl (yv_assign rfl rfl) ?_
      refine jl_nil ?_
      refine jx_then ?_
      refine jc_ret ?_
      cases h
      exact jx_ret rfl (rr_tmp rfl rr_nil) ⟨rfl, rfl, rfl, rfl⟩ .nil .nil rfl (by simp)
     ·
      replace h := brT h
      refine sqv rfl (yv_move rfl rfl) ?_
      obtain ⟨y26, hy26, h⟩ := bdE h
      refine sq rfl (so_callx pf45 rfl rfl rfl rfl (fun σ hs => F45_c hy26 σ.w σ.O hs.olt (none : Option Addr) (cs0 rq_pt0 hs)) (fun _ => (.cons .nil)) (fun _ => (.cons (.cons .nil))) (fun ⟨r27, r28⟩ => ?_))
      rcases moE h with ⟨hm_x29, h⟩ | ⟨x29, hm_x29, h⟩
      ·
       skip
       refine nj_frzo (C := tyVpartyParty) (m := mSpartyParty) inout0 de0 at1 at0 ?_
       refine nj_pn0 at0 hm_x29 fun hn_n30 => ?_
       refine sqv rfl (yv_pn ipt22 rfl rfl rfl hn_n30) ?_
       refine sqv rfl (yv_pick_t rfl rfl rfl) ?_
       refine sqv rfl (yv_move rfl rfl) ?_
       refine sqv rfl (yv_move rfl rfl) ?_
       obtain ⟨x31, hx31, h⟩ := letX h
       refine sqv rfl (yv_lenx isl39 rfl rfl (rq_sl (rd_o at2) (rd_f at9)) hx31) ?_
       obtain ⟨x32, hx32, h⟩ := letX h
       refine sqv rfl (yxb hx32 (yv_eql rfl rfl rfl)) ?_
       refine sqv rfl (yv_pick_t rfl rfl rfl) ?_
       refine sqv rfl (yv_move rfl rfl) ?_
       rcases x32 with _ | _
       ·
        replace h := brF h
        refine sq_skip rfl ?_
        refine sq_skip rfl ?_
        refine sqv rfl (yv_pick_f rfl rfl rfl) ?_
        refine sqv rfl (yv_move rfl rfl) ?_
        refine sq_skip rfl ?_
        refine sq_skip rfl ?_
        refine sqv rfl (yv_pick_f rfl rfl rfl) ?_
        refine sqv rfl (yv_move rfl rfl) ?_
        refine sq_skip rfl ?_
        refine sq_skip rfl ?_
        refine sqv rfl (yv_pick_f rfl rfl rfl) ?_
        refine sqv rfl (yv_move rfl rfl) ?_
        refine sq_skip rfl ?_
        refine sq_skip rfl ?_
        refine sqv rfl (yv_pick_f rfl rfl rfl) ?_
        refine sqv rfl (yv_move rfl rfl) ?_
        refine sq_skip rfl ?_
        refine sqv rfl (yv_pick_f rfl rfl rfl) ?_
        refine sqv rfl (yv_assign rfl rfl) ?_
        refine jl_nil ?_
        refine jx_then ?_
        refine jc_ret ?_
        cases h
        exact jx_ret rfl (rr_tmp rfl rr_nil) ⟨rfl, rfl, rfl, rfl⟩ .nil .nil rfl (by simp)
       ·
        replace h := brT h
        refine sqv rfl (yv_move rfl rfl) ?_
        rcases moE h with ⟨hm_x33, h⟩ | ⟨x33, hm_x33, h⟩
        ·
         skip
         refine nj_pn0 at10 hm_x33 fun hn_n34 => ?_
         refine sqv rfl (yv_pn ipt22 rfl rfl rfl hn_n34) ?_
         refine sqv rfl (yv_pick_t rfl rfl rfl) ?_
         refine sqv rfl (yv_move rfl rfl) ?_
         refine sqv rfl (yv_move rfl rfl) ?_
         rcases moE h with ⟨hm_x35, h⟩ | ⟨x35, hm_x35, h⟩
         ·
          skip
          refine nj_pn0 at4 hm_x35 fun hn_n36 => ?_
          refine sqv rfl (yv_pn ipt22 rfl rfl rfl hn_n36) ?_
          refine sqv rfl (yv_pick_t rfl rfl rfl) ?_
          refine sqv rfl (yv_move rfl rfl) ?_
          refine sqv rfl (yv_move rfl rfl) ?_
          obtain ⟨x37, hx37, h⟩ := letX h
          refine sqv rfl (yxb hx37 (yv_eql rfl rfl rfl)) ?_
          refine sqv rfl (yv_pick_t rfl rfl rfl) ?_
          refine sqv rfl (yv_move rfl rfl) ?_
          rcases x37 with _ | _
          ·
           replace h := brF h
           refine sq_skip rfl ?_
           refine sq_skip rfl ?_
           refine sqv rfl (yv_pick_f rfl rfl rfl) ?_
           refine sqv rfl (yv_move rfl rfl) ?_
           refine sq_skip rfl ?_
           refine sqv rfl (yv_pick_f rfl rfl rfl) ?_
           refine sqv rfl (yv_assign rfl rfl) ?_
           refine jl_nil ?_
           refine jx_then ?_
           refine jc_ret ?_
           cases h
           exact jx_ret rfl (rr_tmp rfl rr_nil) ⟨rfl, rfl, rfl, rfl⟩ .nil .nil rfl (by simp)
          ·
           replace h := brT h
           refine sqv rfl (yv_move rfl rfl) ?_
           obtain ⟨x38, hx38, h⟩ := letX h
           refine sqv rfl (yxb hx38 (yv_eql rfl rfl rfl)) ?_
           refine sqv rfl (yv_pick_t rfl rfl rfl) ?_
           refine sqv rfl (yv_move rfl rfl) ?_
           rcases x38 with _ | _
           ·
            replace h := brF h
            refine sq_skip rfl ?_
            refine sqv rfl (yv_pick_f rfl rfl rfl) ?_
            refine sqv rfl (yv_assign rfl rfl) ?_
            refine jl_nil ?_
            refine jx_then ?_
            refine jc_ret ?_
            cases h
            exact jx_ret rfl (rr_tmp rfl rr_nil) ⟨rfl, rfl, rfl, rfl⟩ .nil .nil rfl (by simp)
           ·
            replace h := brT h
            obtain ⟨y39, hy39, h⟩ := bdE h
            refine sq rfl (so_callv pf46 rfl rfl rfl rfl (fun σ hs => F46_c hy39 σ.w σ.O hs.olt) ?_)
            refine sqv rfl (yv_pick_t rfl rfl rfl) ?_
            refine sqv rfl (yv_assign rfl rfl) ?_
            refine jl_nil ?_
            refine jx_then ?_
            refine jc_ret ?_
            cases h
            exact jx_ret rfl (rr_tmp rfl rr_nil) ⟨rfl, rfl, rfl, rfl⟩ .nil .nil rfl (by simp)
         ·
          skip
          refine nj_pn1 at4 hm_x35 fun hn_n40 => ?_
          refine sqv rfl (yv_pn ipt22 rfl rfl rfl hn_n40) ?_
          refine sqv rfl (yv_pick_t rfl rfl rfl) ?_
          refine sqv rfl (yv_move rfl rfl) ?_
          refine sq_skip rfl ?_
          refine sq_skip rfl ?_
          refine sqv rfl (yv_pick_f rfl rfl rfl) ?_
          refine sqv rfl (yv_move rfl rfl) ?_
          refine sq_skip rfl ?_
          refine sq_skip rfl ?_
          refine sqv rfl (yv_pick_f rfl rfl rfl) ?_
          refine sqv rfl (yv_move rfl rfl) ?_
          refine sq_skip rfl ?_
          refine sqv rfl (yv_pick_f rfl rfl rfl) ?_
          refine sqv rfl (yv_assign rfl rfl) ?_
          refine jl_nil ?_
          refine jx_then ?_
          refine jc_ret ?_
          cases h
          exact jx_ret rfl (rr_tmp rfl rr_nil) ⟨rfl, rfl, rfl, rfl⟩ .nil .nil rfl (by simp)
        ·
         skip
         refine nj_pn1 at10 hm_x33 fun hn_n41 => ?_
         refine sqv rfl (yv_pn ipt22 rfl rfl rfl hn_n41) ?_
         refine sqv rfl (yv_pick_t rfl rfl rfl) ?_
         refine sqv rfl (yv_move rfl rfl) ?_
         refine sq_skip rfl ?_
         refine sq_skip rfl ?_
         refine sqv rfl (yv_pick_f rfl rfl rfl) ?_
         refine sqv rfl (yv_move rfl rfl) ?_
         refine sq_skip rfl ?_
         refine sq_skip rfl ?_
         refine sqv rfl (yv_pick_f rfl rfl rfl) ?_
         refine sqv rfl (yv_move rfl rfl) ?_
         refine sq_skip rfl ?_
         refine sq_skip rfl ?_
         refine sqv rfl (yv_pick_f rfl rfl rfl) ?_
         refine sqv rfl (yv_move rfl rfl) ?_
         refine sq_skip rfl ?_
         refine sqv rfl (yv_pick_f rfl rfl rfl) ?_
         refine sqv rfl (yv_assign rfl rfl) ?_
         refine jl_nil ?_
         refine jx_then ?_
         refine jc_ret ?_
         cases h
         exact jx_ret rfl (rr_tmp rfl rr_nil) ⟨rfl, rfl, rfl, rfl⟩ .nil .nil rfl (by simp)
      ·
       skip
       refine nj_frzo (C := tyVpartyParty) (m := mSpartyParty) inout0 de0 at1 at0 ?_
       refine nj_pn1 at0 hm_x29 fun hn_n42 => ?_
       refine sqv rfl (yv_pn ipt22 rfl rfl rfl hn_n42) ?_
       refine sqv rfl (yv_pick_t rfl rfl rfl) ?_
       refine sqv rfl (yv_move rfl rfl) ?_
       refine sq_skip rfl ?_
       refine sq_skip rfl ?_
       refine sq_skip rfl ?_
       refine sqv rfl (yv_pick_f rfl rfl rfl) ?_
       refine sqv rfl (yv_move rfl rfl) ?_
       refine sq_skip rfl ?_
       refine sq_skip rfl ?_
       refine sqv rfl (yv_pick_f rfl rfl rfl) ?_
       refine sqv rfl (yv_move rfl rfl) ?_
       refine sq_skip rfl ?_
       refine sq_skip rfl ?_
       refine sqv rfl (yv_pick_f rfl rfl rfl) ?_
       refine sqv rfl (yv_move rfl rfl) ?_
       refine sq_skip rfl ?_
       refine sq_skip rfl ?_
       refine sqv rfl (yv_pick_f rfl rfl rfl) ?_
       refine sqv rfl (yv_move rfl rfl) ?_
       refine sq_skip rfl ?_
       refine sq_skip rfl ?_
       refine sqv rfl (yv_pick_f rfl rfl rfl) ?_
       refine sqv rfl (yv_move rfl rfl) ?_
       refine sq_skip rfl ?_
       refine sqv rfl (yv_pick_f rfl rfl rfl) ?_
       refine sqv rfl (yv_assign rfl rfl) ?_
       refine jl_nil ?_
       refine jx_then ?_
       refine jc_ret ?_
       cases h
       exact jx_ret rfl (rr_tmp rfl rr_nil) ⟨rfl, rfl, rfl, rfl⟩ .nil .nil rfl (by simp)
    ·
     skip
     refine nj_kn1 at0 hm_x22 fun hn_n43 => ?_
     refine sqv rfl (yv_pn ipt70 rfl rfl rfl hn_n43) ?_
     refine sqv rfl (yv_pick_t rfl rfl rfl) ?_
     refine sqv rfl (yv_move rfl rfl) ?_
     refine sq_skip rfl ?_
     refine sq_skip rfl ?_
     refine sq_skip rfl ?_
     refine sq_skip rfl ?_
     refine sq_skip rfl ?_
     refine sqv rfl (yv_pick_f rfl rfl rfl) ?_
     refine sqv rfl (yv_move rfl rfl) ?_
     refine sq_skip rfl ?_
     refine sq_skip rfl ?_
     refine sq_skip rfl ?_
     refine sqv rfl (yv_pick_f rfl rfl rfl) ?_
     refine sqv rfl (yv_move rfl rfl) ?_
     refine sq_skip rfl ?_
     refine sq_skip rfl ?_
     refine sq_skip rfl ?_
     refine sqv rfl (yv_pick_f rfl rfl rfl) ?_
     refine sqv rfl (yv_move rfl rfl) ?_
     refine sq_skip rfl ?_
     refine sq_skip rfl ?_
     refine sqv rfl (yv_pick_f rfl rfl rfl) ?_
     refine sqv rfl (yv_move rfl rfl) ?_
     refine sq_skip rfl ?_
     refine sq_skip rfl ?_
     refine sqv rfl (yv_pick_f rfl rfl rfl) ?_
     refine sqv rfl (yv_move rfl rfl) ?_
     refine sq_skip rfl ?_
     refine sq_skip rfl ?_
     refine sqv rfl (yv_pick_f rfl rfl rfl) ?_
     refine sqv rfl (yv_move rfl rfl) ?_
     refine sq_skip rfl ?_
     refine sq_skip rfl ?_
     refine sqv rfl (yv_pick_f rfl rfl rfl) ?_
     refine sqv rfl (yv_move rfl rfl) ?_
     refine sq_skip rfl ?_
     refine sqv rfl (yv_pick_f rfl rfl rfl) ?_
     refine sqv rfl (yv_assign rfl rfl) ?_
     refine jl_nil ?_
     refine jx_then ?_
     refine jc_ret ?_
     cases h
     exact jx_ret rfl (rr_tmp rfl rr_nil) ⟨rfl, rfl, rfl, rfl⟩ .nil .nil rfl (by simp)
 ·
  replace h := brT h
  refine jc_t rfl ?_
  refine jc_seq ?_
  refine jc_reg ?_
  refine sqv rfl (yv_assign rfl rfl) ?_
  refine jl_nil ?_
  refine jx_then ?_
  refine jc_ret ?_
  refine jx_tr ?_
  cases h
  exact jx_ret rfl (rr_tmp rfl rr_nil) ⟨rfl, rfl, rfl, rfl⟩ .nil .nil rfl (by simp)
end Go.Proofs.YtbhbpfdjlabamaaGreat
