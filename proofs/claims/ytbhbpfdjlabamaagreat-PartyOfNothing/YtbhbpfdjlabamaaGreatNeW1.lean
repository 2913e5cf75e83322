/-
  The walks of what curia law 5 reaches, part 1: each function of the program computes what its twin of the text Pure says.
-/
import Derived.Test.YtbhbpfdjlabamaaGreatNePure
import Derived.Test.YtbhbpfdjlabamaaGreatKeys3
set_option linter.all false
set_option linter.unusedVariables false
set_option linter.unusedSimpArgs false
namespace Go.Proofs.YtbhbpfdjlabamaaGreat
open Go Go.Proofs
set_option maxRecDepth 4000
set_option maxHeartbeats 1000000

theorem F336_c {p0 : Int} {p1 : Int} {r : Int} (h : F336 p0 p1 = some r) (w0 : World) (O0 : Nat → Prop) (hO : ∀ k, O0 k → k < w0.heap.size) :
  CallsP Tryz.prog 336 (List.toArray [.int .u64 p0, .int .i64 p1]) w0 O0 [] (RV (.int .u64 r)) := by
 unfold F336 at h
 refine calls_start (e := [(0, .int .u64 p0), (1, .int .i64 p1)]) (L := []) (K := []) Tryz.func336 rfl rfl rfl ⟨rfl, rfl, trivial⟩ hO (by simp) .nil aln ?_
 refine jc_seq ?_
 refine jc_reg ?_
 refine sqv rfl (yv_assign rfl rfl) ?_
 refine jl_nil ?_
 refine jx_then ?_
 refine jc_seq ?_
 refine jc_reg ?_
 refine sqv rfl (yv_move rfl rfl) ?_
 obtain ⟨x1, hx1, h⟩ := letX h
 refine sqv rfl (yxi hx1 (yv_con rfl (by rw [Tryz.underlying3]; rfl) Tryz.underlying98 rfl)) ?_
 obtain ⟨x2, hx2, h⟩ := letX h
 refine sqv rfl (yxi hx2 (yv_and rfl rfl rfl)) ?_
 refine sqv rfl (yv_assign rfl rfl) ?_
 refine jl_nil ?_
 refine jx_then ?_
 refine jc_seq ?_
 refine jc_reg ?_
 refine sqv rfl (yv_move rfl rfl) ?_
 refine sqv rfl (yv_move rfl rfl) ?_
 obtain ⟨g3, h⟩ := gdE h
 obtain ⟨x4, hx4, h⟩ := letX h
 refine sqv rfl (yxi hx4 (yv_shl rfl rfl rfl g3)) ?_
 refine sqv rfl (yv_move rfl rfl) ?_
 refine sqv rfl (yv_move rfl rfl) ?_
 obtain ⟨x5, hx5, h⟩ := letX h
 refine sqv rfl (yxi hx5 (yv_sub rfl rfl rfl)) ?_
 obtain ⟨g6, h⟩ := gdE h
 obtain ⟨x7, hx7, h⟩ := letX h
 refine sqv rfl (yxi hx7 (yv_shr rfl rfl rfl g6)) ?_
 obtain ⟨x8, hx8, h⟩ := letX h
 refine sqv rfl (yxi hx8 (yv_or rfl rfl rfl)) ?_
 refine sqv rfl (yv_assign rfl rfl) ?_
 refine jl_nil ?_
 refine jx_then ?_
 refine jc_ret ?_
 cases h
 exact jx_ret rfl (rr_tmp rfl rr_nil) ⟨rfl, rfl, rfl, rfl⟩ .nil .nil rfl (by simp)
theorem F325_c {p0 : Int} {p1 : Int} {p2 : Int} {r : Int} (h : F325 p0 p1 p2 = some r) (w0 : World) (O0 : Nat → Prop) (hO : ∀ k, O0 k → k < w0.heap.size) :
  CallsP Tryz.prog 325 (List.toArray [.int .u64 p0, .int .i64 p1, .int .i64 p2]) w0 O0 [] (RV (.int .u64 r)) := by
 unfold F325 at h
 refine calls_start (e := [(0, .int .u64 p0), (1, .int .i64 p1), (2, .int .i64 p2)]) (L := []) (K := []) Tryz.func325 rfl rfl rfl ⟨rfl, rfl, rfl, trivial⟩ hO (by simp) .nil aln ?_
 refine jc_seq ?_
 refine jc_reg ?_
 refine sqv rfl (yv_assign rfl rfl) ?_
 refine jl_nil ?_
 refine jx_then ?_
 refine jc_seq ?_
 refine jc_reg ?_
 refine sqv rfl (yv_move rfl rfl) ?_
 refine sqv rfl (yv_move rfl rfl) ?_
 refine sqv rfl (yv_move rfl rfl) ?_
 obtain ⟨x1, hx1, h⟩ := letX h
 refine sqv rfl (yxi hx1 (yv_neg rfl rfl)) ?_
 obtain ⟨y2, hy2, h⟩ := bdE h
 refine sq rfl (so_callv pf336 rfl rfl rfl rfl (fun σ hs => F336_c hy2 σ.w σ.O hs.olt) ?_)
 obtain ⟨x3, hx3, h⟩ := letX h
 refine sqv rfl (yxi hx3 (yv_xor rfl rfl rfl)) ?_
 refine sqv rfl (yv_move rfl rfl) ?_
 refine sqv rfl (yv_move rfl rfl) ?_
 obtain ⟨x4, hx4, h⟩ := letX h
 refine sqv rfl (yxi hx4 (yv_neg rfl rfl)) ?_
 obtain ⟨y5, hy5, h⟩ := bdE h
 refine sq rfl (so_callv pf336 rfl rfl rfl rfl (fun σ hs => F336_c hy5 σ.w σ.O hs.olt) ?_)
 obtain ⟨x6, hx6, h⟩ := letX h
 refine sqv rfl (yxi hx6 (yv_xor rfl rfl rfl)) ?_
 refine sqv rfl (yv_assign rfl rfl) ?_
 refine jl_nil ?_
 refine jx_then ?_
 refine jc_ret ?_
 cases h
 exact jx_ret rfl (rr_tmp rfl rr_nil) ⟨rfl, rfl, rfl, rfl⟩ .nil .nil rfl (by simp)
theorem F293_c {p0 : (Vector Int 5)} {p1 : Int} {r : (Vector Int 5)} (h : F293 p0 p1 = some r) (w0 : World) (O0 : Nat → Prop) (hO : ∀ k, O0 k → k < w0.heap.size) :
  CallsP Tryz.prog 293 (List.toArray [ag ((Ty.arr 5 (tyI .u64)).enc p0), .int .i64 p1]) w0 O0 [] (RV (ag ((Ty.arr 5 (tyI .u64)).enc r))) := by
 unfold F293 at h
 refine calls_start (e := [(0, ag ((Ty.arr 5 (tyI .u64)).enc p0)), (1, .int .i64 p1)]) (L := []) (K := []) Tryz.func293 rfl rfl rfl ⟨rfl, rfl, trivial⟩ hO (by simp) .nil aln ?_
 refine jc_seq ?_
 refine jc_reg ?_
 refine sq rfl (so_boxa (by decide) rfl rfl rfl fun b1 => ?_)
 refine sq rfl (so_alloc ti296 (by decide) rfl rfl fun b2 => ?_)
 refine jl_nil ?_
 refine jx_then ?_
 refine jc_seq ?_
 refine jc_reg ?_
 refine sqv rfl (yv_ia ia296 rfl rfl rfl (by decide)) ?_
 obtain ⟨x3, hx3, h⟩ := letX h
 refine sqv rfl (yxi hx3 (yv_ldb ti295 rfl rfl (rd_bl at1) ((Sub.refl _).trans (arr_sub (tyI .u64) p0 (2 : Int) (by decide))) (Ty.len _ _) (fun _ => rfl))) ?_
 refine sqv rfl (yv_move rfl rfl) ?_
 obtain ⟨x4, hx4, h⟩ := letX h
 refine sqv rfl (yxi hx4 (yv_mul rfl rfl rfl)) ?_
 obtain ⟨x5, hx5, h⟩ := letX h
 refine sqv rfl (yxi hx5 (yv_sub rfl rfl rfl)) ?_
 obtain ⟨x6, hx6, h⟩ := letX h
 refine sqv rfl (yxi hx6 (yv_con rfl (by rw [Tryz.underlying3]; rfl) Tryz.underlying295 rfl)) ?_
 obtain ⟨x7, hx7, h⟩ := letX h
 refine sqv rfl (yxi hx7 (yv_xor rfl rfl rfl)) ?_
 refine sqv rfl (yv_ia ia296 rfl rfl rfl (by decide)) ?_
 obtain ⟨c8, hc8, h⟩ := letX h
 refine sq rfl (so_st1X (D := (Ty.arr 5 (tyI .u64))) hc8 ti295 rfl rfl rfl rfl rfl (Upd.comp (Sub.refl _) (arr_upd (tyI .u64) p0 (2 : Int) x7 (by decide)) (Upd.refl (by simp [Ty.len]))) se1 ?_)
 refine jl_nil ?_
 refine jx_then ?_
 refine jc_seq ?_
 refine jc_reg ?_
 refine sqv rfl (yv_ia ia296 rfl rfl rfl (by decide)) ?_
 obtain ⟨x9, hx9, h⟩ := letX h
 refine sqv rfl (yxi hx9 (yv_ldb ti295 rfl rfl (rd_bl at1) ((Sub.refl _).trans (arr_sub (tyI .u64) c8 (0 : Int) (by decide))) (Ty.len _ _) (fun _ => rfl))) ?_
 refine sqv rfl (yv_ia ia296 rfl rfl rfl (by decide)) ?_
 obtain ⟨x10, hx10, h⟩ := letX h
 refine sqv rfl (yxi hx10 (yv_ldb ti295 rfl rfl (rd_bl at1) ((Sub.refl _).trans (arr_sub (tyI .u64) c8 (4 : Int) (by decide))) (Ty.len _ _) (fun _ => rfl))) ?_
 obtain ⟨x11, hx11, h⟩ := letX h
 refine sqv rfl (yxi hx11 (yv_xor rfl rfl rfl)) ?_
 refine sqv rfl (yv_ia ia296 rfl rfl rfl (by decide)) ?_
 obtain ⟨c12, hc12, h⟩ := letX h
 refine sq rfl (so_st1X (D := (Ty.arr 5 (tyI .u64))) hc12 ti295 rfl rfl rfl rfl rfl (Upd.comp (Sub.refl _) (arr_upd (tyI .u64) c8 (0 : Int) x11 (by decide)) (Upd.refl (by simp [Ty.len]))) se1 ?_)
 refine jl_nil ?_
 refine jx_then ?_
 refine jc_seq ?_
 refine jc_reg ?_
 refine sqv rfl (yv_ia ia296 rfl rfl rfl (by decide)) ?_
 obtain ⟨x13, hx13, h⟩ := letX h
 refine sqv rfl (yxi hx13 (yv_ldb ti295 rfl rfl (rd_bl at1) ((Sub.refl _).trans (arr_sub (tyI .u64) c12 (4 : Int) (by decide))) (Ty.len _ _) (fun _ => rfl))) ?_
 refine sqv rfl (yv_ia ia296 rfl rfl rfl (by decide)) ?_
 obtain ⟨x14, hx14, h⟩ := letX h
 refine sqv rfl (yxi hx14 (yv_ldb ti295 rfl rfl (rd_bl at1) ((Sub.refl _).trans (arr_sub (tyI .u64) c12 (3 : Int) (by decide))) (Ty.len _ _) (fun _ => rfl))) ?_
 obtain ⟨x15, hx15, h⟩ := letX h
 refine sqv rfl (yxi hx15 (yv_xor rfl rfl rfl)) ?_
 refine sqv rfl (yv_ia ia296 rfl rfl rfl (by decide)) ?_
 obtain ⟨c16, hc16, h⟩ := letX h
 refine sq rfl (so_st1X (D := (Ty.arr 5 (tyI .u64))) hc16 ti295 rfl rfl rfl rfl rfl (Upd.comp (Sub.refl _) (arr_upd (tyI .u64) c12 (4 : Int) x15 (by decide)) (Upd.refl (by simp [Ty.len]))) se1 ?_)
 refine jl_nil ?_
 refine jx_then ?_
 refine jc_seq ?_
 refine jc_reg ?_
 refine sqv rfl (yv_ia ia296 rfl rfl rfl (by decide)) ?_
 obtain ⟨x17, hx17, h⟩ := letX h
 refine sqv rfl (yxi hx17 (yv_ldb ti295 rfl rfl (rd_bl at1) ((Sub.refl _).trans (arr_sub (tyI .u64) c16 (2 : Int) (by decide))) (Ty.len _ _) (fun _ => rfl))) ?_
 refine sqv rfl (yv_ia ia296 rfl rfl rfl (by decide)) ?_
 obtain ⟨x18, hx18, h⟩ := letX h
 refine sqv rfl (yxi hx18 (yv_ldb ti295 rfl rfl (rd_bl at1) ((Sub.refl _).trans (arr_sub (tyI .u64) c16 (1 : Int) (by decide))) (Ty.len _ _) (fun _ => rfl))) ?_
 obtain ⟨x19, hx19, h⟩ := letX h
 refine sqv rfl (yxi hx19 (yv_xor rfl rfl rfl)) ?_
 refine sqv rfl (yv_ia ia296 rfl rfl rfl (by decide)) ?_
 obtain ⟨c20, hc20, h⟩ := letX h
 refine sq rfl (so_st1X (D := (Ty.arr 5 (tyI .u64))) hc20 ti295 rfl rfl rfl rfl rfl (Upd.comp (Sub.refl _) (arr_upd (tyI .u64) c16 (2 : Int) x19 (by decide)) (Upd.refl (by simp [Ty.len]))) se1 ?_)
 refine jl_nil ?_
 refine jx_then ?_
 refine jc_seq ?_
 refine jc_reg ?_
 refine sq rfl (so_alloc ti296 (by decide) rfl rfl fun b21 => ?_)
 refine jl_nil ?_
 refine jx_then ?_
 refine jc_seq ?_
 refine jc_seq ?_
 refine jc_reg ?_
 refine sqv rfl (yv_move rfl rfl) ?_
 refine jl_nil ?_
 refine jx_then ?_
 refine jc_block ?_
 refine jc_loop ?_
 intro B0 Q0 hB0 hQ0
 have key0 : ∀ (k0 : Nat) (j146 : Int) (j147 : (Vector Int 5)), F293_l0 c20 k0 j146 j147 = some r → JW 102 w0 O0 [] Tryz.prog B0 Q0 [(2, pt b1 0), (4, pt b2 0), (5, pt b21 0), (34, .int .i64 j146)] [.blk b21 296 ((Ty.arr 5 (tyI .u64)).enc j147), .blk b2 296 ((Ty.arr 5 (tyI .u64)).enc (Vector.replicate 5 (0 : Int))), .blk b1 296 ((Ty.arr 5 (tyI .u64)).enc c20)] [] := by
  intro k0
  induction k0 with
  | zero => intro j146 j147 h; cases h
  | succ k0 ih0 =>
   intro j146 j147 h
   unfold F293_l0 at h
   refine jw_round hB0 ?_
   refine jc_seq ?_
   refine jc_reg ?_
   obtain ⟨x148, hx148, h⟩ := letX h
   refine sqv rfl (yxb hx148 (yv_lss rfl rfl rfl)) ?_
   refine jl_nil ?_
   refine jx_then ?_
   refine jc_seq ?_
   rcases x148 with _ | _
   ·
    replace h := brF h
    refine jc_f rfl ?_
    refine jc_exit ?_
    refine jx_te ?_
    refine jx_te ?_
    refine jx_abs hQ0 ?_
    refine jx_hit ?_
    refine jx_then ?_
    refine jc_seq ?_
    refine jc_seq ?_
    refine jc_reg ?_
    refine sqv rfl (yv_move rfl rfl) ?_
    refine jl_nil ?_
    refine jx_then ?_
    refine jc_block ?_
    refine jc_loop ?_
    intro B1 Q1 hB1 hQ1
    have key1 : ∀ (k1 : Nat) (j287 : Int) (j288 : (Vector Int 5)), F293_l1 j147 k1 j287 j288 = some r → JW 102 w0 O0 [] Tryz.prog B1 Q1 [(2, pt b1 0), (4, pt b2 0), (5, pt b21 0), (50, .int .i64 j287)] [.blk b21 296 ((Ty.arr 5 (tyI .u64)).enc j147), .blk b2 296 ((Ty.arr 5 (tyI .u64)).enc (Vector.replicate 5 (0 : Int))), .blk b1 296 ((Ty.arr 5 (tyI .u64)).enc j288)] [] := by
     intro k1
     induction k1 with
     | zero => intro j287 j288 h; cases h
     | succ k1 ih1 =>
      intro j287 j288 h
      unfold F293_l1 at h
      refine jw_round hB1 ?_
      refine jc_seq ?_
      refine jc_reg ?_
      obtain ⟨x289, hx289, h⟩ := letX h
      refine sqv rfl (yxb hx289 (yv_lss rfl rfl rfl)) ?_
      refine jl_nil ?_
      refine jx_then ?_
      refine jc_seq ?_
      rcases x289 with _ | _
      ·
       replace h := brF h
       refine jc_f rfl ?_
       refine jc_exit ?_
       refine jx_te ?_
       refine jx_te ?_
       refine jx_abs hQ1 ?_
       refine jx_hit ?_
       refine jx_then ?_
       refine jc_seq ?_
       refine jc_reg ?_
       refine sqv rfl (yv_ia ia296 rfl rfl rfl (by decide)) ?_
       obtain ⟨x312, hx312, h⟩ := letX h
       refine sqv rfl (yxi hx312 (yv_ldb ti295 rfl rfl (rd_bl at2) ((Sub.refl _).trans (arr_sub (tyI .u64) j288 (1 : Int) (by decide))) (Ty.len _ _) (fun _ => rfl))) ?_
       refine sqv rfl (yv_ia ia296 rfl rfl rfl (by decide)) ?_
       obtain ⟨x313, hx313, h⟩ := letX h
       refine sqv rfl (yxi hx313 (yv_ldb ti295 rfl rfl (rd_bl at2) ((Sub.refl _).trans (arr_sub (tyI .u64) j288 (0 : Int) (by decide))) (Ty.len _ _) (fun _ => rfl))) ?_
       obtain ⟨x314, hx314, h⟩ := letX h
       refine sqv rfl (yxi hx314 (yv_xor rfl rfl rfl)) ?_
       refine sqv rfl (yv_ia ia296 rfl rfl rfl (by decide)) ?_
       obtain ⟨c315, hc315, h⟩ := letX h
       refine sq rfl (so_st1X (D := (Ty.arr 5 (tyI .u64))) hc315 ti295 rfl rfl rfl rfl rfl (Upd.comp (Sub.refl _) (arr_upd (tyI .u64) j288 (1 : Int) x314 (by decide)) (Upd.refl (by simp [Ty.len]))) se2 ?_)
       refine jl_nil ?_
       refine jx_then ?_
       refine jc_seq ?_
       refine jc_reg ?_
       refine sqv rfl (yv_ia ia296 rfl rfl rfl (by decide)) ?_
       obtain ⟨x316, hx316, h⟩ := letX h
       refine sqv rfl (yxi hx316 (yv_ldb ti295 rfl rfl (rd_bl at2) ((Sub.refl _).trans (arr_sub (tyI .u64) c315 (0 : Int) (by decide))) (Ty.len _ _) (fun _ => rfl))) ?_
       refine sqv rfl (yv_ia ia296 rfl rfl rfl (by decide)) ?_
       obtain ⟨x317, hx317, h⟩ := letX h
       refine sqv rfl (yxi hx317 (yv_ldb ti295 rfl rfl (rd_bl at2) ((Sub.refl _).trans (arr_sub (tyI .u64) c315 (4 : Int) (by decide))) (Ty.len _ _) (fun _ => rfl))) ?_
       obtain ⟨x318, hx318, h⟩ := letX h
       refine sqv rfl (yxi hx318 (yv_xor rfl rfl rfl)) ?_
       refine sqv rfl (yv_ia ia296 rfl rfl rfl (by decide)) ?_
       obtain ⟨c319, hc319, h⟩ := letX h
       refine sq rfl (so_st1X (D := (Ty.arr 5 (tyI .u64))) hc319 ti295 rfl rfl rfl rfl rfl (Upd.comp (Sub.refl _) (arr_upd (tyI .u64) c315 (0 : Int) x318 (by decide)) (Upd.refl (by simp [Ty.len]))) se2 ?_)
       refine jl_nil ?_
       refine jx_then ?_
       refine jc_seq ?_
       refine jc_reg ?_
       refine sqv rfl (yv_ia ia296 rfl rfl rfl (by decide)) ?_
       obtain ⟨x320, hx320, h⟩ := letX h
       refine sqv rfl (yxi hx320 (yv_ldb ti295 rfl rfl (rd_bl at2) ((Sub.refl _).trans (arr_sub (tyI .u64) c319 (3 : Int) (by decide))) (Ty.len _ _) (fun _ => rfl))) ?_
       refine sqv rfl (yv_ia ia296 rfl rfl rfl (by decide)) ?_
       obtain ⟨x321, hx321, h⟩ := letX h
       refine sqv rfl (yxi hx321 (yv_ldb ti295 rfl rfl (rd_bl at2) ((Sub.refl _).trans (arr_sub (tyI .u64) c319 (2 : Int) (by decide))) (Ty.len _ _) (fun _ => rfl))) ?_
       obtain ⟨x322, hx322, h⟩ := letX h
       refine sqv rfl (yxi hx322 (yv_xor rfl rfl rfl)) ?_
       refine sqv rfl (yv_ia ia296 rfl rfl rfl (by decide)) ?_
       obtain ⟨c323, hc323, h⟩ := letX h
       refine sq rfl (so_st1X (D := (Ty.arr 5 (tyI .u64))) hc323 ti295 rfl rfl rfl rfl rfl (Upd.comp (Sub.refl _) (arr_upd (tyI .u64) c319 (3 : Int) x322 (by decide)) (Upd.refl (by simp [Ty.len]))) se2 ?_)
       refine jl_nil ?_
       refine jx_then ?_
       refine jc_seq ?_
       refine jc_reg ?_
       refine sqv rfl (yv_ia ia296 rfl rfl rfl (by decide)) ?_
       obtain ⟨x324, hx324, h⟩ := letX h
       refine sqv rfl (yxi hx324 (yv_ldb ti295 rfl rfl (rd_bl at2) ((Sub.refl _).trans (arr_sub (tyI .u64) c323 (2 : Int) (by decide))) (Ty.len _ _) (fun _ => rfl))) ?_
       obtain ⟨x325, hx325, h⟩ := letX h
       refine sqv rfl (yxi hx325 (yv_inot rfl rfl)) ?_
       refine sqv rfl (yv_ia ia296 rfl rfl rfl (by decide)) ?_
       obtain ⟨c326, hc326, h⟩ := letX h
       refine sq rfl (so_st1X (D := (Ty.arr 5 (tyI .u64))) hc326 ti295 rfl rfl rfl rfl rfl (Upd.comp (Sub.refl _) (arr_upd (tyI .u64) c323 (2 : Int) x325 (by decide)) (Upd.refl (by simp [Ty.len]))) se2 ?_)
       refine jl_nil ?_
       refine jx_then ?_
       refine jc_seq ?_
       refine jc_regd (k := 17) hmix rfl [([], .blk b1 296 ((Ty.arr 5 (tyI .u64)).enc c326))] [] (.cons at2 .nil) .nil ?_
       refine tk (i := 0) rfl (by kernel_rfl) rfl (yv_ia ia296 rfl rfl rfl (by decide)) .nil .nil ?_
       obtain ⟨x327, hx327, h⟩ := letX h
       refine tk (i := 1) rfl (by kernel_rfl) rfl (yxi hx327 (yv_ldb ti295 rfl rfl (rd_bl at0) ((Sub.refl _).trans (arr_sub (tyI .u64) c326 (0 : Int) (by decide))) (Ty.len _ _) (fun _ => rfl))) (.cons at0 (by kernel_rfl) .nil) .nil ?_
       refine tk (i := 3) rfl (by kernel_rfl) rfl (yv_ia ia296 rfl rfl rfl (by decide)) .nil .nil ?_
       obtain ⟨x328, hx328, h⟩ := letX h
       refine tk (i := 4) rfl (by kernel_rfl) rfl (yxi hx328 (yv_ldb ti295 rfl rfl (rd_bl at0) ((Sub.refl _).trans (arr_sub (tyI .u64) c326 (1 : Int) (by decide))) (Ty.len _ _) (fun _ => rfl))) (.cons at0 (by kernel_rfl) .nil) .nil ?_
       refine tk (i := 6) rfl (by kernel_rfl) rfl (yv_ia ia296 rfl rfl rfl (by decide)) .nil .nil ?_
       obtain ⟨x329, hx329, h⟩ := letX h
       refine tk (i := 7) rfl (by kernel_rfl) rfl (yxi hx329 (yv_ldb ti295 rfl rfl (rd_bl at0) ((Sub.refl _).trans (arr_sub (tyI .u64) c326 (2 : Int) (by decide))) (Ty.len _ _) (fun _ => rfl))) (.cons at0 (by kernel_rfl) .nil) .nil ?_
       refine tk (i := 9) rfl (by kernel_rfl) rfl (yv_ia ia296 rfl rfl rfl (by decide)) .nil .nil ?_
       obtain ⟨x330, hx330, h⟩ := letX h
       refine tk (i := 10) rfl (by kernel_rfl) rfl (yxi hx330 (yv_ldb ti295 rfl rfl (rd_bl at0) ((Sub.refl _).trans (arr_sub (tyI .u64) c326 (3 : Int) (by decide))) (Ty.len _ _) (fun _ => rfl))) (.cons at0 (by kernel_rfl) .nil) .nil ?_
       refine tk (i := 12) rfl (by kernel_rfl) rfl (yv_ia ia296 rfl rfl rfl (by decide)) .nil .nil ?_
       obtain ⟨x331, hx331, h⟩ := letX h
       refine tk (i := 13) rfl (by kernel_rfl) rfl (yxi hx331 (yv_ldb ti295 rfl rfl (rd_bl at0) ((Sub.refl _).trans (arr_sub (tyI .u64) c326 (4 : Int) (by decide))) (Ty.len _ _) (fun _ => rfl))) (.cons at0 (by kernel_rfl) .nil) .nil ?_
       obtain ⟨y332, hy332, h⟩ := bdE h
       refine jg_one (i := 2) (by kernel_rfl) (gst rfl rfl (so_callv pf325 rfl rfl rfl rfl (fun σ hs => F325_c hy332 σ.w σ.O hs.olt) ?_))
       refine ng (.cons at2 .nil) .nil ?_
       obtain ⟨y333, hy333, h⟩ := bdE h
       refine jg_one (i := 5) (by kernel_rfl) (gst rfl rfl (so_callv pf325 rfl rfl rfl rfl (fun σ hs => F325_c hy333 σ.w σ.O hs.olt) ?_))
       refine ng (.cons at2 .nil) .nil ?_
       obtain ⟨y334, hy334, h⟩ := bdE h
       refine jg_one (i := 8) (by kernel_rfl) (gst rfl rfl (so_callv pf325 rfl rfl rfl rfl (fun σ hs => F325_c hy334 σ.w σ.O hs.olt) ?_))
       refine ng (.cons at2 .nil) .nil ?_
       obtain ⟨y335, hy335, h⟩ := bdE h
       refine jg_one (i := 11) (by kernel_rfl) (gst rfl rfl (so_callv pf325 rfl rfl rfl rfl (fun σ hs => F325_c hy335 σ.w σ.O hs.olt) ?_))
       refine ng (.cons at2 .nil) .nil ?_
       obtain ⟨y336, hy336, h⟩ := bdE h
       refine jg_one (i := 14) (by kernel_rfl) (gst rfl rfl (so_callv pf325 rfl rfl rfl rfl (fun σ hs => F325_c hy336 σ.w σ.O hs.olt) ?_))
       refine ng (.cons at2 .nil) .nil ?_
       obtain ⟨x337, hx337, h⟩ := letX h
       refine tk (i := 15) rfl (by kernel_rfl) rfl (yxg (C := (Ty.arr 5 (tyI .u64))) hx337 (yv_build bi296 rfl rfl (fills_cons rfl (arr_upd (tyI .u64) (Vector.replicate 5 (0 : Int)) (0 : Int) y332 (by decide)) rfl (Ty.len (tyI .u64) y332) (fills_cons rfl (arr_upd (tyI .u64) (vup (Vector.replicate 5 (0 : Int)) (0 : Int) y332) (1 : Int) y333 (by decide)) rfl (Ty.len (tyI .u64) y333) (fills_cons rfl (arr_upd (tyI .u64) (vup (vup (Vector.replicate 5 (0 : Int)) (0 : Int) y332) (1 : Int) y333) (2 : Int) y334 (by decide)) rfl (Ty.len (tyI .u64) y334) (fills_cons rfl (arr_upd (tyI .u64) (vup (vup (vup (Vector.replicate 5 (0 : Int)) (0 : Int) y332) (1 : Int) y333) (2 : Int) y334) (3 : Int) y335 (by decide)) rfl (Ty.len (tyI .u64) y335) (fills_cons rfl (arr_upd (tyI .u64) (vup (vup (vup (vup (Vector.replicate 5 (0 : Int)) (0 : Int) y332) (1 : Int) y333) (2 : Int) y334) (3 : Int) y335) (4 : Int) y336 (by decide)) rfl (Ty.len (tyI .u64) y336) fills_nil))))))) .nil .nil ?_
       refine jg_one (i := 16) (by kernel_rfl) (gst rfl rfl (so_sta ti296 rfl rfl rfl rfl (Upd.refl (by simp [Ty.len])) (Ty.len _ _) (Ty.one _ _) (xs' := (Ty.arr 5 (tyI .u64)).enc x337) se1 ?_))
       refine ng (.cons at2 .nil) .nil ?_
       refine jg_nil (by kernel_rfl) ?_
       refine jx_then ?_
       refine jc_ret ?_
       cases h
       exact jx_ret rfl (rr_cella ti296 rfl at1 (Ty.len _ _) rr_nil) ⟨rfl, rfl, rfl, rfl⟩ .nil .nil rfl (by simp)
      ·
       replace h := brT h
       refine jc_t rfl ?_
       refine jc_skip ?_
       refine jx_then ?_
       refine jc_seq ?_
       refine jc_block ?_
       refine jc_seq ?_
       refine jc_reg ?_
       refine sqv rfl (yv_move rfl rfl) ?_
       refine sqv rfl (yv_assign rfl rfl) ?_
       refine jl_nil ?_
       refine jx_then ?_
       refine jc_regd (k := 11) hmix rfl [([10], .blk b1 296 ((Ty.arr 5 (tyI .u64)).enc j288)), ([], .blk b21 296 ((Ty.arr 5 (tyI .u64)).enc j147))] [] (.cons at2 (.cons at0 .nil)) .nil ?_
       refine tk (i := 0) rfl (by kernel_rfl) rfl (yv_move rfl rfl) .nil .nil ?_
       obtain ⟨g302, h⟩ := gdE h
       refine tk (i := 1) rfl (by kernel_rfl) rfl (yv_ia ia296 rfl rfl rfl g302) .nil .nil ?_
       obtain ⟨x303, hx303, h⟩ := letX h
       refine tk (i := 2) rfl (by kernel_rfl) rfl (yxi hx303 (yv_ldb ti295 rfl rfl (rd_bl at0) ((Sub.refl _).trans (arr_sub (tyI .u64) j288 j287 g302)) (Ty.len _ _) (fun _ => rfl))) (.cons at0 (by kernel_rfl) .nil) .nil ?_
       refine tk (i := 3) rfl (by kernel_rfl) rfl (yv_move rfl rfl) .nil .nil ?_
       obtain ⟨x304, hx304, h⟩ := letX h
       refine tk (i := 4) rfl (by kernel_rfl) rfl (yxi hx304 (yv_add rfl rfl rfl)) .nil .nil ?_
       obtain ⟨x305, hx305, h⟩ := letX h
       refine tk (i := 5) rfl (by kernel_rfl) rfl (yxi hx305 (yv_rem rfl rfl rfl (by decide))) .nil .nil ?_
       obtain ⟨g306, h⟩ := gdE h
       refine tk (i := 6) rfl (by kernel_rfl) rfl (yv_ia ia296 rfl rfl rfl g306) .nil .nil ?_
       obtain ⟨x307, hx307, h⟩ := letX h
       refine tk (i := 7) rfl (by kernel_rfl) rfl (yxi hx307 (yv_ldb ti295 rfl rfl (rd_bl at0) ((Sub.refl _).trans (arr_sub (tyI .u64) j147 x305 g306)) (Ty.len _ _) (fun _ => rfl))) (.cons at1 (by kernel_rfl) .nil) .nil ?_
       obtain ⟨x308, hx308, h⟩ := letX h
       refine tk (i := 8) rfl (by kernel_rfl) rfl (yxi hx308 (yv_xor rfl rfl rfl)) .nil .nil ?_
       obtain ⟨g309, h⟩ := gdE h
       refine tk (i := 9) rfl (by kernel_rfl) rfl (yv_ia ia296 rfl rfl rfl g309) .nil .nil ?_
       obtain ⟨c310, hc310, h⟩ := letX h
       refine jg_one (i := 10) (by kernel_rfl) (gst rfl rfl (so_st1X (D := (Ty.arr 5 (tyI .u64))) hc310 ti295 rfl rfl rfl rfl rfl (Upd.comp (Sub.refl _) (arr_upd (tyI .u64) j288 j287 x308 g309) (Upd.refl (by simp [Ty.len]))) se2 ?_))
       refine ng (.cons at0 .nil) .nil ?_
       refine jg_nil (by kernel_rfl) ?_
       refine jx_blk ?_
       refine jx_then ?_
       refine jc_reg ?_
       obtain ⟨x311, hx311, h⟩ := letX h
       refine sqv rfl (yxi hx311 (yv_add rfl rfl rfl)) ?_
       refine sqv rfl (yv_move rfl rfl) ?_
       refine jl_nil ?_
       refine jx_again ?_
       exact nj_weak (ih1 x311 c310 h) ⟨rfl, rfl, rfl, rfl, trivial⟩ (.cons de0 (.cons de0 (.cons de0 .nil))) .nil
    exact nj_weak (key1 FUEL 0 c20 h) ⟨rfl, rfl, rfl, rfl, trivial⟩ (.cons de0 (.cons de0 (.cons de0 .nil))) .nil
   ·
    replace h := brT h
    refine jc_t rfl ?_
    refine jc_skip ?_
    refine jx_then ?_
    refine jc_seq ?_
    refine jc_block ?_
    refine jc_seq ?_
    refine jc_reg ?_
    refine sqv rfl (yv_move rfl rfl) ?_
    refine sqv rfl (yv_assign rfl rfl) ?_
    refine jl_nil ?_
    refine jx_then ?_
    refine jc_regd (k := 13) hmix rfl [([], .blk b1 296 ((Ty.arr 5 (tyI .u64)).enc c20))] [] (.cons at2 .nil) .nil ?_
    refine tk (i := 0) rfl (by kernel_rfl) rfl (yv_move rfl rfl) .nil .nil ?_
    refine tk (i := 1) rfl (by kernel_rfl) rfl (yv_move rfl rfl) .nil .nil ?_
    obtain ⟨g162, h⟩ := gdE h
    refine tk (i := 2) rfl (by kernel_rfl) rfl (yv_ia ia296 rfl rfl rfl g162) .nil .nil ?_
    obtain ⟨x163, hx163, h⟩ := letX h
    refine tk (i := 3) rfl (by kernel_rfl) rfl (yxi hx163 (yv_ldb ti295 rfl rfl (rd_bl at0) ((Sub.refl _).trans (arr_sub (tyI .u64) c20 j146 g162)) (Ty.len _ _) (fun _ => rfl))) (.cons at0 (by kernel_rfl) .nil) .nil ?_
    obtain ⟨x164, hx164, h⟩ := letX h
    refine tk (i := 4) rfl (by kernel_rfl) rfl (yxi hx164 (yv_inot rfl rfl)) .nil .nil ?_
    refine tk (i := 5) rfl (by kernel_rfl) rfl (yv_move rfl rfl) .nil .nil ?_
    obtain ⟨x165, hx165, h⟩ := letX h
    refine tk (i := 6) rfl (by kernel_rfl) rfl (yxi hx165 (yv_add rfl rfl rfl)) .nil .nil ?_
    obtain ⟨x166, hx166, h⟩ := letX h
    refine tk (i := 7) rfl (by kernel_rfl) rfl (yxi hx166 (yv_rem rfl rfl rfl (by decide))) .nil .nil ?_
    obtain ⟨g167, h⟩ := gdE h
    refine tk (i := 8) rfl (by kernel_rfl) rfl (yv_ia ia296 rfl rfl rfl g167) .nil .nil ?_
    obtain ⟨x168, hx168, h⟩ := letX h
    refine tk (i := 9) rfl (by kernel_rfl) rfl (yxi hx168 (yv_ldb ti295 rfl rfl (rd_bl at0) ((Sub.refl _).trans (arr_sub (tyI .u64) c20 x166 g167)) (Ty.len _ _) (fun _ => rfl))) (.cons at0 (by kernel_rfl) .nil) .nil ?_
    obtain ⟨x169, hx169, h⟩ := letX h
    refine tk (i := 10) rfl (by kernel_rfl) rfl (yxi hx169 (yv_and rfl rfl rfl)) .nil .nil ?_
    obtain ⟨g170, h⟩ := gdE h
    refine tk (i := 11) rfl (by kernel_rfl) rfl (yv_ia ia296 rfl rfl rfl g170) .nil .nil ?_
    obtain ⟨c171, hc171, h⟩ := letX h
    refine jg_one (i := 12) (by kernel_rfl) (gst rfl rfl (so_st1X (D := (Ty.arr 5 (tyI .u64))) hc171 ti295 rfl rfl rfl rfl rfl (Upd.comp (Sub.refl _) (arr_upd (tyI .u64) j147 j146 x169 g170) (Upd.refl (by simp [Ty.len]))) se0 ?_))
    refine ng (.cons at2 .nil) .nil ?_
    refine jg_nil (by kernel_rfl) ?_
    refine jx_blk ?_
    refine jx_then ?_
    refine jc_reg ?_
    obtain ⟨x172, hx172, h⟩ := letX h
    refine sqv rfl (yxi hx172 (yv_add rfl rfl rfl)) ?_
    refine sqv rfl (yv_move rfl rfl) ?_
    refine jl_nil ?_
    refine jx_again ?_
    exact nj_weak (ih0 x172 c171 h) ⟨rfl, rfl, rfl, rfl, trivial⟩ (.cons de0 (.cons de0 (.cons de0 .nil))) .nil
 exact nj_weak (key0 FUEL 0 (Vector.replicate 5 (0 : Int)) h) ⟨rfl, rfl, rfl, rfl, trivial⟩ (.cons de0 (.cons de0 (.cons de0 .nil))) .nil
theorem F235_c {p0 : (Vector Int 5)} {r : (Vector Int 5)} (h : F235 p0 = some r) (w0 : World) (O0 : Nat → Prop) (hO : ∀ k, O0 k → k < w0.heap.size) :
  CallsP Tryz.prog 235 (List.toArray [ag ((Ty.arr 5 (tyI .u64)).enc p0)]) w0 O0 [] (RV (ag ((Ty.arr 5 (tyI .u64)).enc r))) := by
 unfold F235 at h
 refine calls_start (e := [(0, ag ((Ty.arr 5 (tyI .u64)).enc p0))]) (L := []) (K := []) Tryz.func235 rfl rfl rfl ⟨rfl, trivial⟩ hO (by simp) .nil aln ?_
 refine jc_seq ?_
 refine jc_reg ?_
 refine sq rfl (so_boxa (by decide) rfl rfl rfl fun b1 => ?_)
 refine sq rfl (so_alloc ti296 (by decide) rfl rfl fun b2 => ?_)
 refine jl_nil ?_
 refine jx_then ?_
 refine jc_seq ?_
 refine jc_seq ?_
 refine jc_reg ?_
 refine sqv rfl (yv_move rfl rfl) ?_
 refine jl_nil ?_
 refine jx_then ?_
 refine jc_block ?_
 refine jc_loop ?_
 intro B0 Q0 hB0 hQ0
 have key0 : ∀ (k0 : Nat) (j19 : Int) (j20 : (Vector Int 5)), F235_l0 k0 j19 j20 = some r → JW 12 w0 O0 [] Tryz.prog B0 Q0 [(1, pt b1 0), (2, pt b2 0), (4, .int .i64 j19)] [.blk b2 296 ((Ty.arr 5 (tyI .u64)).enc (Vector.replicate 5 (0 : Int))), .blk b1 296 ((Ty.arr 5 (tyI .u64)).enc j20)] [] := by
  intro k0
  induction k0 with
  | zero => intro j19 j20 h; cases h
  | succ k0 ih0 =>
   intro j19 j20 h
   unfold F235_l0 at h
   refine jw_round hB0 ?_
   refine jc_seq ?_
   refine jc_reg ?_
   obtain ⟨x21, hx21, h⟩ := letX h
   refine sqv rfl (yxb hx21 (yv_lss rfl rfl rfl)) ?_
   refine jl_nil ?_
   refine jx_then ?_
   refine jc_seq ?_
   rcases x21 with _ | _
   ·
    replace h := brF h
    refine jc_f rfl ?_
    refine jc_exit ?_
    refine jx_te ?_
    refine jx_te ?_
    refine jx_abs hQ0 ?_
    refine jx_hit ?_
    refine jx_then ?_
    refine jc_seq ?_
    refine jc_reg ?_
    refine sqv rfl (yv_ldb ti296 rfl rfl (rd_bl at1) (Sub.refl _) (Ty.len _ _) (by simp)) ?_
    refine sq rfl (so_sta ti296 rfl rfl rfl rfl (Upd.refl (by simp [Ty.len])) (Ty.len _ _) (Ty.one _ _) (xs' := (Ty.arr 5 (tyI .u64)).enc j20) se0 ?_)
    refine jl_nil ?_
    refine jx_then ?_
    refine jc_ret ?_
    cases h
    exact jx_ret rfl (rr_cella ti296 rfl at0 (Ty.len _ _) rr_nil) ⟨rfl, rfl, rfl, rfl⟩ .nil .nil rfl (by simp)
   ·
    replace h := brT h
    refine jc_t rfl ?_
    refine jc_skip ?_
    refine jx_then ?_
    refine jc_seq ?_
    refine jc_block ?_
    refine jc_seq ?_
    refine jc_reg ?_
    refine sqv rfl (yv_move rfl rfl) ?_
    refine sqv rfl (yv_assign rfl rfl) ?_
    refine jl_nil ?_
    refine jx_then ?_
    refine jc_reg ?_
    refine sqv rfl (yv_ldb ti296 rfl rfl (rd_bl at1) (Sub.refl _) (Ty.len _ _) (by simp)) ?_
    refine sqv rfl (yv_move rfl rfl) ?_
    obtain ⟨y26, hy26, h⟩ := bdE h
    refine sq rfl (so_callv pf293 rfl rfl rfl rfl (fun σ hs => F293_c hy26 σ.w σ.O hs.olt) ?_)
    refine sq rfl (so_sta ti296 rfl rfl rfl rfl (Upd.refl (by simp [Ty.len])) (Ty.len _ _) (Ty.one _ _) (xs' := (Ty.arr 5 (tyI .u64)).enc y26) se1 ?_)
    refine jl_nil ?_
    refine jx_blk ?_
    refine jx_then ?_
    refine jc_reg ?_
    obtain ⟨x27, hx27, h⟩ := letX h
    refine sqv rfl (yxi hx27 (yv_add rfl rfl rfl)) ?_
    refine sqv rfl (yv_move rfl rfl) ?_
    refine jl_nil ?_
    refine jx_again ?_
    exact nj_weak (ih0 x27 y26 h) ⟨rfl, rfl, rfl, trivial⟩ (.cons de0 (.cons de0 .nil)) .nil
 exact nj_weak (key0 FUEL 0 p0 h) ⟨rfl, rfl, rfl, trivial⟩ (.cons de0 (.cons de0 .nil)) .nil
theorem F236_c {p0 : (List Int)} {r : Int} (h : F236 p0 = some r) (w0 : World) (O0 : Nat → Prop) (hO : ∀ k, O0 k → k < w0.heap.size) (v0 : Sl) (k0 : (fa false (mRow (tyI .u8)) v0 p0).p ⟨w0, O0, inL []⟩) :
  CallsP Tryz.prog 236 (List.toArray [sv v0]) w0 O0 [] (RV (.int .u64 r)) := by
 unfold F236 at h
 refine calls_start (e := [(0, sv v0)]) (L := []) (K := [fa false (mRow (tyI .u8)) v0 p0]) Tryz.func236 rfl rfl rfl ⟨rfl, trivial⟩ hO (by simp) .nil (alc k0 aln) ?_
 refine jc_seq ?_
 refine jc_reg ?_
 refine sqv rfl (yv_assign rfl rfl) ?_
 refine jl_nil ?_
 refine jx_then ?_
 refine jc_seq ?_
 refine jc_reg ?_
 refine sqv rfl (yv_assign rfl rfl) ?_
 refine jl_nil ?_
 refine jx_then ?_
 refine jc_seq ?_
 refine jc_seq ?_
 refine jc_reg ?_
 refine sqv rfl (yv_move rfl rfl) ?_
 obtain ⟨x1, hx1, h⟩ := letX h
 refine sqv rfl (yv_len isl97 rfl rfl (rd_f at0) hx1) ?_
 refine sqv rfl (yv_move rfl rfl) ?_
 refine jl_nil ?_
 refine jx_then ?_
 refine jc_block ?_
 refine jc_loop ?_
 intro B0 Q0 hB0 hQ0
 have key0 : ∀ (k0 : Nat) (j42 : Int) (j43 : Int), F236_l0 x1 p0 k0 j42 j43 = some r → JW 19 w0 O0 [] Tryz.prog B0 Q0 [(2, .int .u64 0), (3, .int .u64 j42), (6, sv v0), (7, .int .i64 x1), (8, .int .i64 j43)] [] [fa false (mRow (tyI .u8)) v0 p0] := by
  intro k0
  induction k0 with
  | zero => intro j42 j43 h; cases h
  | succ k0 ih0 =>
   intro j42 j43 h
   unfold F236_l0 at h
   refine jw_round hB0 ?_
   refine jc_seq ?_
   refine jc_reg ?_
   obtain ⟨x44, hx44, h⟩ := letX h
   refine sqv rfl (yxb hx44 (yv_lss rfl rfl rfl)) ?_
   refine jl_nil ?_
   refine jx_then ?_
   refine jc_seq ?_
   rcases x44 with _ | _
   ·
    replace h := brF h
    refine jc_f rfl ?_
    refine jc_exit ?_
    refine jx_te ?_
    refine jx_te ?_
    refine jx_abs hQ0 ?_
    refine jx_hit ?_
    refine jx_then ?_
    refine jc_seq ?_
    refine jc_reg ?_
    refine sqv rfl (yv_move rfl rfl) ?_
    refine sqv rfl (yv_assign rfl rfl) ?_
    refine jl_nil ?_
    refine jx_then ?_
    refine jc_ret ?_
    cases h
    exact jx_ret rfl (rr_tmp rfl rr_nil) ⟨rfl, rfl, rfl, rfl⟩ .nil .nil rfl (by simp)
   ·
    replace h := brT h
    refine jc_t rfl ?_
    refine jc_skip ?_
    refine jx_then ?_
    refine jc_seq ?_
    refine jc_block ?_
    refine jc_seq ?_
    refine jc_reg ?_
    obtain ⟨g55, h⟩ := gdE h
    refine nj_open (rd_f at0) g55 fun b56 o57 ha_b56 => ?_
    refine sqv rfl (yv_is is97 rfl rfl rfl ha_b56 (rd_f at0) g55) ?_
    obtain ⟨x58, hx58, h⟩ := letX h
    refine sqv rfl (yxi hx58 (yv_lds ti5 rfl rfl ha_b56 (rd_f at0) (many_sub' (tyI .u8) p0 j43 g55) rfl (Ty.len _ _) (fun _ => rfl))) ?_
    refine sqv rfl (yv_assign rfl rfl) ?_
    refine jl_nil ?_
    refine jx_then ?_
    refine jc_reg ?_
    refine sqv rfl (yv_move rfl rfl) ?_
    obtain ⟨x59, hx59, h⟩ := letX h
    refine sqv rfl (yxi hx59 (yv_shl rfl rfl rfl (by decide))) ?_
    refine sqv rfl (yv_move rfl rfl) ?_
    obtain ⟨x60, hx60, h⟩ := letX h
    refine sqv rfl (yxi hx60 (yv_con rfl (by rw [Tryz.underlying5]; rfl) Tryz.underlying295 rfl)) ?_
    obtain ⟨x61, hx61, h⟩ := letX h
    refine sqv rfl (yxi hx61 (yv_or rfl rfl rfl)) ?_
    refine sqv rfl (yv_assign rfl rfl) ?_
    refine jl_nil ?_
    refine jx_blk ?_
    refine jx_then ?_
    refine jc_reg ?_
    obtain ⟨x62, hx62, h⟩ := letX h
    refine sqv rfl (yxi hx62 (yv_add rfl rfl rfl)) ?_
    refine sqv rfl (yv_move rfl rfl) ?_
    refine jl_nil ?_
    refine jx_again ?_
    exact nj_weak (ih0 x61 x62 h) ⟨rfl, rfl, rfl, rfl, rfl, trivial⟩ .nil (.cons at0 .nil)
 exact nj_weak (key0 FUEL 0 0 h) ⟨rfl, rfl, rfl, rfl, rfl, trivial⟩ .nil (.cons at0 .nil)
theorem F153_c {p0 : (List (List Int))} {r : (Vector Int 32)} (h : F153 p0 = some r) (w0 : World) (O0 : Nat → Prop) (hO : ∀ k, O0 k → k < w0.heap.size) (v0 : Sl) (k0 : (fa false (mSl tySl (mRow (tyI .u8))) v0 p0).p ⟨w0, O0, inL []⟩) :
  CallsP Tryz.prog 153 (List.toArray [sv v0]) w0 O0 [] (RV (ag ((Ty.arr 32 (tyI .u8)).enc r))) := by
 unfold F153 at h
 refine calls_start (e := [(0, sv v0)]) (L := []) (K := [fa false (mSl tySl (mRow (tyI .u8))) v0 p0]) Tryz.func153 rfl rfl rfl ⟨rfl, trivial⟩ hO (by simp) .nil (alc k0 aln) ?_
 refine jc_seq ?_
 refine jc_reg ?_
 refine sq rfl (so_alloc ti25 (by decide) rfl rfl fun b1 => ?_)
 refine jl_nil ?_
 refine jx_then ?_
 refine jc_seq ?_
 refine jc_reg ?_
 refine sqv rfl (yv_assign rfl rfl) ?_
 refine jl_nil ?_
 refine jx_then ?_
 refine jc_seq ?_
 refine jc_seq ?_
 refine jc_reg ?_
 refine sqv rfl (yv_move rfl rfl) ?_
 obtain ⟨x2, hx2, h⟩ := letX h
 refine sqv rfl (yv_lenx isl34 rfl rfl (rd_f at0) hx2) ?_
 refine sqv rfl (yv_move rfl rfl) ?_
 refine jl_nil ?_
 refine jx_then ?_
 refine jc_block ?_
 refine nj_nil 5 (tyI .u8) rfl ?_
 refine jc_loop ?_
 intro B0 Q0 hB0 hQ0
 have key0 : ∀ (k0 : Nat) (j139 : (List Int)) (j140 : Int) (z138 : Sl), F153_l0 x2 p0 k0 j139 j140 = some r → JW 69 w0 O0 [] Tryz.prog B0 Q0 [(2, pt b1 0), (3, sv z138), (10, sv v0), (11, .int .i64 x2), (12, .int .i64 j140)] [.blk b1 25 ((Ty.arr 32 (tyI .u8)).enc (Vector.replicate 32 (0 : Int))), .sli z138 5 (tyI .u8).size (j139).length ((tyI .u8).many j139)] [fa false (mSl tySl (mRow (tyI .u8))) v0 p0] := by
  intro k0
  induction k0 with
  | zero => intro j139 j140 z138 h; cases h
  | succ k0 ih0 =>
   intro j139 j140 z138 h
   unfold F153_l0 at h
   refine jw_round hB0 ?_
   refine jc_seq ?_
   refine jc_reg ?_
   obtain ⟨x141, hx141, h⟩ := letX h
   refine sqv rfl (yxb hx141 (yv_lss rfl rfl rfl)) ?_
   refine jl_nil ?_
   refine jx_then ?_
   refine jc_seq ?_
   rcases x141 with _ | _
   ·
    replace h := brF h
    refine jc_f rfl ?_
    refine jc_exit ?_
    refine jx_te ?_
    refine jx_te ?_
    refine jx_abs hQ0 ?_
    refine jx_hit ?_
    refine jx_then ?_
    refine jc_seq ?_
    refine jc_reg ?_
    refine sqv rfl (yv_move rfl rfl) ?_
    refine sq rfl (so_bslL (C := (tyI .u8)) (l := ([128] : (List Int))) si97 sz97 rfl rfl rfl rfl (by decide) (by decide) (fills_cons rfl (many_upd' (tyI .u8) _ (0 : Int) 128 (by simp [lup])) rfl (Ty.len (tyI .u8) 128) fills_nil) fun s166 => ?_)
    obtain ⟨l167, hl167, h⟩ := letX h
    obtain ⟨g168, h⟩ := gdE h
    refine sq rfl (so_appX (C := (tyI .u8)) hl167 si97 rfl rfl rfl rfl de2 (rd_o at0) rfl g168 fun s169 => ?_)
    refine sqv rfl (yv_assign rfl rfl) ?_
    refine jl_nil ?_
    refine jx_then ?_
    refine jc_seq ?_
    refine jc_block ?_
    refine jc_loop ?_
    intro B1 Q1 hB1 hQ1
    have key1 : ∀ (k1 : Nat) (j223 : (List Int)) (z222 : Sl), F153_l1 k1 j223 = some r → JW 69 w0 O0 [] Tryz.prog B1 Q1 [(2, pt b1 0), (3, sv z222)] [.blk b1 25 ((Ty.arr 32 (tyI .u8)).enc (Vector.replicate 32 (0 : Int))), .sli z222 5 (tyI .u8).size (j223).length ((tyI .u8).many j223)] [] := by
     intro k1
     induction k1 with
     | zero => intro j223 z222 h; cases h
     | succ k1 ih1 =>
      intro j223 z222 h
      unfold F153_l1 at h
      refine jw_round hB1 ?_
      refine jc_seq ?_
      refine jc_seq ?_
      refine jc_reg ?_
      refine sqv rfl (yv_move rfl rfl) ?_
      obtain ⟨x224, hx224, h⟩ := letX h
      refine sqv rfl (yv_len isl97 rfl rfl (rd_o at1) hx224) ?_
      obtain ⟨x225, hx225, h⟩ := letX h
      refine sqv rfl (yxi hx225 (yv_rem rfl rfl rfl (by decide))) ?_
      obtain ⟨x226, hx226, h⟩ := letX h
      refine sqv rfl (yxb hx226 (yv_neq rfl rfl rfl)) ?_
      refine jl_nil ?_
      refine jx_then ?_
      rcases x226 with _ | _
      ·
       replace h := brF h
       refine jc_f rfl ?_
       refine jc_exit ?_
       refine jx_te ?_
       refine jx_te ?_
       refine jx_abs hQ1 ?_
       refine jx_hit ?_
       refine jx_then ?_
       refine jc_seq ?_
       refine jc_reg ?_
       obtain ⟨x233, hx233, h⟩ := letX h
       refine sqv rfl (yxg (C := (Ty.arr 5 (tyI .u64))) hx233 (yv_build bi296 rfl rfl (fills_cons rfl (arr_upd (tyI .u64) (Vector.replicate 5 (0 : Int)) (0 : Int) 32 (by decide)) rfl (Ty.len (tyI .u64) 32) fills_nil))) ?_
       obtain ⟨y234, hy234, h⟩ := bdE h
       refine sq rfl (so_callv pf235 rfl rfl rfl rfl (fun σ hs => F235_c hy234 σ.w σ.O hs.olt) ?_)
       refine sq rfl (so_alloc ti296 (by decide) rfl rfl fun b235 => ?_)
       refine sq rfl (so_sta ti296 rfl rfl rfl rfl (Upd.refl (by simp [Ty.len])) (Ty.len _ _) (Ty.one _ _) (xs' := (Ty.arr 5 (tyI .u64)).enc y234) se0 ?_)
       refine jl_nil ?_
       refine jx_then ?_
       refine jc_seq ?_
       refine jc_block ?_
       refine nj_frz inout0 de2 ?_
       refine jc_loop ?_
       intro B2 Q2 hB2 hQ2
       have key2 : ∀ (k2 : Nat) (j337 : (List Int)) (j338 : (Vector Int 5)) (z336 : Sl), F153_l2 k2 j337 j338 = some r → JW 69 w0 O0 [] Tryz.prog B2 Q2 [(2, pt b1 0), (3, sv z336), (6, pt b235 0)] [.blk b235 296 ((Ty.arr 5 (tyI .u64)).enc j338), .blk b1 25 ((Ty.arr 32 (tyI .u8)).enc (Vector.replicate 32 (0 : Int)))] [fa true (mRow (tyI .u8)) z336 j337] := by
        intro k2
        induction k2 with
        | zero => intro j337 j338 z336 h; cases h
        | succ k2 ih2 =>
         intro j337 j338 z336 h
         unfold F153_l2 at h
         refine jw_round hB2 ?_
         refine jc_seq ?_
         refine jc_seq ?_
         refine jc_reg ?_
         refine sqv rfl (yv_move rfl rfl) ?_
         obtain ⟨x339, hx339, h⟩ := letX h
         refine sqv rfl (yv_len isl97 rfl rfl (rd_f at0) hx339) ?_
         obtain ⟨x340, hx340, h⟩ := letX h
         refine sqv rfl (yxb hx340 (yv_gtr rfl rfl rfl)) ?_
         refine jl_nil ?_
         refine jx_then ?_
         rcases x340 with _ | _
         ·
          replace h := brF h
          refine jc_f rfl ?_
          refine jc_exit ?_
          refine jx_te ?_
          refine jx_te ?_
          refine jx_abs hQ2 ?_
          refine jx_hit ?_
          refine jx_then ?_
          refine jc_seq ?_
          refine jc_reg ?_
          refine sq rfl (so_alloc ti25 (by decide) rfl rfl fun b357 => ?_)
          refine jl_nil ?_
          refine jx_then ?_
          refine jc_seq ?_
          refine jc_seq ?_
          refine jc_reg ?_
          refine sqv rfl (yv_move rfl rfl) ?_
          refine jl_nil ?_
          refine jx_then ?_
          refine jc_block ?_
          refine jc_loop ?_
          intro B3 Q3 hB3 hQ3
          have key3 : ∀ (k3 : Nat) (j1011 : Int) (j1012 : (Vector Int 32)) (j1013 : (Vector Int 5)), F153_l3 k3 j1011 j1012 j1013 = some r → JW 69 w0 O0 [] Tryz.prog B3 Q3 [(2, pt b1 0), (6, pt b235 0), (7, pt b357 0), (46, .int .i64 j1011)] [.blk b357 25 ((Ty.arr 32 (tyI .u8)).enc j1012), .blk b235 296 ((Ty.arr 5 (tyI .u64)).enc j1013), .blk b1 25 ((Ty.arr 32 (tyI .u8)).enc (Vector.replicate 32 (0 : Int)))] [] := by
           intro k3
           induction k3 with
           | zero => intro j1011 j1012 j1013 h; cases h
           | succ k3 ih3 =>
            intro j1011 j1012 j1013 h
            unfold F153_l3 at h
            refine jw_round hB3 ?_
            refine jc_seq ?_
            refine jc_reg ?_
            obtain ⟨x1014, hx1014, h⟩ := letX h
            refine sqv rfl (yxb hx1014 (yv_lss rfl rfl rfl)) ?_
            refine jl_nil ?_
            refine jx_then ?_
            refine jc_seq ?_
            rcases x1014 with _ | _
            ·
             replace h := brF h
             refine jc_f rfl ?_
             refine jc_exit ?_
             refine jx_te ?_
             refine jx_te ?_
             refine jx_abs hQ3 ?_
             refine jx_hit ?_
             refine jx_then ?_
             refine jc_seq ?_
             refine jc_reg ?_
             refine sqv rfl (yv_ldb ti25 rfl rfl (rd_bl at0) (Sub.refl _) (Ty.len _ _) (by simp)) ?_
             refine sq rfl (so_sta ti25 rfl rfl rfl rfl (Upd.refl (by simp [Ty.len])) (Ty.len _ _) (Ty.one _ _) (xs' := (Ty.arr 32 (tyI .u8)).enc j1012) se2 ?_)
             refine jl_nil ?_
             refine jx_then ?_
             refine jc_ret ?_
             cases h
             exact jx_ret rfl (rr_cella ti25 rfl at2 (Ty.len _ _) rr_nil) ⟨rfl, rfl, rfl, rfl⟩ .nil .nil rfl (by simp)
            ·
             replace h := brT h
             refine jc_t rfl ?_
             refine jc_skip ?_
             refine jx_then ?_
             refine jc_seq ?_
             refine jc_block ?_
             refine jc_seq ?_
             refine jc_reg ?_
             refine sqv rfl (yv_move rfl rfl) ?_
             refine sqv rfl (yv_assign rfl rfl) ?_
             refine jl_nil ?_
             refine jx_then ?_
             refine jc_seq ?_
             refine jc_seq ?_
             refine jc_reg ?_
             refine sqv rfl (yv_move rfl rfl) ?_
             refine jl_nil ?_
             refine jx_then ?_
             refine jc_block ?_
             refine jc_loop ?_
             intro B4 Q4 hB4 hQ4
             have key4 : ∀ (k4 : Nat) (j1310 : Int) (j1311 : (Vector Int 32)), F153_l4 j1011 j1013 (F153_l3 k3) k4 j1310 j1311 = some r → JW 69 w0 O0 [] Tryz.prog B4 Q4 [(2, pt b1 0), (6, pt b235 0), (7, pt b357 0), (8, .int .i64 j1011), (46, .int .i64 j1011), (49, .int .i64 j1310)] [.blk b357 25 ((Ty.arr 32 (tyI .u8)).enc j1311), .blk b235 296 ((Ty.arr 5 (tyI .u64)).enc j1013), .blk b1 25 ((Ty.arr 32 (tyI .u8)).enc (Vector.replicate 32 (0 : Int)))] [] := by
              intro k4
              induction k4 with
              | zero => intro j1310 j1311 h; cases h
              | succ k4 ih4 =>
               intro j1310 j1311 h
               unfold F153_l4 at h
               refine jw_round hB4 ?_
               refine jc_seq ?_
               refine jc_reg ?_
               obtain ⟨x1312, hx1312, h⟩ := letX h
               refine sqv rfl (yxb hx1312 (yv_lss rfl rfl rfl)) ?_
               refine jl_nil ?_
               refine jx_then ?_
               refine jc_seq ?_
               rcases x1312 with _ | _
               ·
                replace h := brF h
                refine jc_f rfl ?_
                refine jc_exit ?_
                refine jx_te ?_
                refine jx_te ?_
                refine jx_abs hQ4 ?_
                refine jx_hit ?_
                refine jx_then ?_
                refine jc_reg ?_
                refine sqv rfl (yv_ldb ti296 rfl rfl (rd_bl at1) (Sub.refl _) (Ty.len _ _) (by simp)) ?_
                obtain ⟨y1337, hy1337, h⟩ := bdE h
                refine sq rfl (so_callv pf235 rfl rfl rfl rfl (fun σ hs => F235_c hy1337 σ.w σ.O hs.olt) ?_)
                refine sq rfl (so_sta ti296 rfl rfl rfl rfl (Upd.refl (by simp [Ty.len])) (Ty.len _ _) (Ty.one _ _) (xs' := (Ty.arr 5 (tyI .u64)).enc y1337) se1 ?_)
                refine jl_nil ?_
                refine jx_blk ?_
                refine jx_then ?_
                refine jc_reg ?_
                obtain ⟨x1338, hx1338, h⟩ := letX h
                refine sqv rfl (yxi hx1338 (yv_add rfl rfl rfl)) ?_
                refine sqv rfl (yv_move rfl rfl) ?_
                refine jl_nil ?_
                refine jx_again ?_
                exact nj_weak (ih3 x1338 j1311 y1337 h) ⟨rfl, rfl, rfl, rfl, trivial⟩ (.cons de0 (.cons de0 (.cons de0 .nil))) .nil
               ·
                replace h := brT h
                refine jc_t rfl ?_
                refine jc_skip ?_
                refine jx_then ?_
                refine jc_seq ?_
                refine jc_block ?_
                refine jc_seq ?_
                refine jc_reg ?_
                refine sqv rfl (yv_move rfl rfl) ?_
                refine sqv rfl (yv_assign rfl rfl) ?_
                refine jl_nil ?_
                refine jx_then ?_
                refine jc_reg ?_
                refine sqv rfl (yv_move rfl rfl) ?_
                obtain ⟨x1326, hx1326, h⟩ := letX h
                refine sqv rfl (yxi hx1326 (yv_mul rfl rfl rfl)) ?_
                refine sqv rfl (yv_move rfl rfl) ?_
                obtain ⟨x1327, hx1327, h⟩ := letX h
                refine sqv rfl (yxi hx1327 (yv_add rfl rfl rfl)) ?_
                refine sqv rfl (yv_ia ia296 rfl rfl rfl (by decide)) ?_
                obtain ⟨x1328, hx1328, h⟩ := letX h
                refine sqv rfl (yxi hx1328 (yv_ldb ti295 rfl rfl (rd_bl at1) ((Sub.refl _).trans (arr_sub (tyI .u64) j1013 (0 : Int) (by decide))) (Ty.len _ _) (fun _ => rfl))) ?_
                refine sqv rfl (yv_move rfl rfl) ?_
                obtain ⟨x1329, hx1329, h⟩ := letX h
                refine sqv rfl (yxi hx1329 (yv_sub rfl rfl rfl)) ?_
                obtain ⟨x1330, hx1330, h⟩ := letX h
                refine sqv rfl (yxi hx1330 (yv_mul rfl rfl rfl)) ?_
                obtain ⟨g1331, h⟩ := gdE h
                obtain ⟨x1332, hx1332, h⟩ := letX h
                refine sqv rfl (yxi hx1332 (yv_shr rfl rfl rfl g1331)) ?_
                obtain ⟨x1333, hx1333, h⟩ := letX h
                refine sqv rfl (yxi hx1333 (yv_con rfl (by rw [Tryz.underlying295]; rfl) Tryz.underlying5 rfl)) ?_
                obtain ⟨g1334, h⟩ := gdE h
                refine sqv rfl (yv_ia ia25 rfl rfl rfl g1334) ?_
                obtain ⟨c1335, hc1335, h⟩ := letX h
                refine sq rfl (so_st1X (D := (Ty.arr 32 (tyI .u8))) hc1335 ti5 rfl rfl rfl rfl rfl (Upd.comp (Sub.refl _) (arr_upd (tyI .u8) j1311 x1327 x1333 g1334) (Upd.refl (by simp [Ty.len]))) se0 ?_)
                refine jl_nil ?_
                refine jx_blk ?_
                refine jx_then ?_
                refine jc_reg ?_
                obtain ⟨x1336, hx1336, h⟩ := letX h
                refine sqv rfl (yxi hx1336 (yv_add rfl rfl rfl)) ?_
                refine sqv rfl (yv_move rfl rfl) ?_
                refine jl_nil ?_
                refine jx_again ?_
                exact nj_weak (ih4 x1336 c1335 h) ⟨rfl, rfl, rfl, rfl, rfl, rfl, trivial⟩ (.cons de0 (.cons de0 (.cons de0 .nil))) .nil
             exact nj_weak (key4 FUEL 0 j1012 h) ⟨rfl, rfl, rfl, rfl, rfl, rfl, trivial⟩ (.cons de0 (.cons de0 (.cons de0 .nil))) .nil
          exact nj_weak (key3 FUEL 0 (Vector.replicate 32 (0 : Int)) j338 h) ⟨rfl, rfl, rfl, rfl, trivial⟩ (.cons de0 (.cons de0 (.cons de0 .nil))) .nil
         ·
          replace h := brT h
          refine jc_t rfl ?_
          refine jc_skip ?_
          refine jx_then ?_
          refine jc_seq ?_
          refine jc_block ?_
          refine jc_seq ?_
          refine jc_regd (k := 8) hmix rfl [([7], .blk b235 296 ((Ty.arr 5 (tyI .u64)).enc j338))] [fa true (mRow (tyI .u8)) z336 j337] (.cons at0 .nil) (.cons at0 .nil) ?_
          refine tk (i := 0) rfl (by kernel_rfl) rfl (yv_ia ia296 rfl rfl rfl (by decide)) .nil .nil ?_
          obtain ⟨x350, hx350, h⟩ := letX h
          refine tk (i := 1) rfl (by kernel_rfl) rfl (yxi hx350 (yv_ldb ti295 rfl rfl (rd_bl at0) ((Sub.refl _).trans (arr_sub (tyI .u64) j338 (0 : Int) (by decide))) (Ty.len _ _) (fun _ => rfl))) (.cons at0 (by kernel_rfl) .nil) .nil ?_
          refine tk (i := 2) rfl (by kernel_rfl) rfl (yv_move rfl rfl) .nil .nil ?_
          obtain ⟨g351, h⟩ := gdE h
          refine tk (i := 3) rfl (by kernel_rfl) rfl (yv_slk is97 rfl rfl (rd_f at0) (.inl ⟨rfl, rfl⟩) (.inr ⟨_, _, rfl, rfl⟩) g351) .nil (.cons at0 .nil) ?_
          obtain ⟨y352, hy352, h⟩ := bdE h
          refine jg_one (i := 4) (by kernel_rfl) (gst rfl rfl (so_callv pf236 rfl rfl rfl rfl (fun σ hs => F236_c hy352 σ.w σ.O hs.olt (slcut z336 (0 : Int) (8 : Int) 1) (cw0 (rq_cut (rd_f at0) g351) hs)) ?_))
          refine ng (.cons at0 .nil) (.cons at0 .nil) ?_
          obtain ⟨x353, hx353, h⟩ := letX h
          refine tk (i := 5) rfl (by kernel_rfl) rfl (yxi hx353 (yv_xor rfl rfl rfl)) .nil .nil ?_
          refine tk (i := 6) rfl (by kernel_rfl) rfl (yv_ia ia296 rfl rfl rfl (by decide)) .nil .nil ?_
          obtain ⟨c354, hc354, h⟩ := letX h
          refine jg_one (i := 7) (by kernel_rfl) (gst rfl rfl (so_st1X (D := (Ty.arr 5 (tyI .u64))) hc354 ti295 rfl rfl rfl rfl rfl (Upd.comp (Sub.refl _) (arr_upd (tyI .u64) j338 (0 : Int) x353 (by decide)) (Upd.refl (by simp [Ty.len]))) se0 ?_))
          refine ng .nil (.cons at0 .nil) ?_
          refine jg_nil (by kernel_rfl) ?_
          refine jx_then ?_
          refine jc_reg ?_
          refine sqv rfl (yv_ldb ti296 rfl rfl (rd_bl at0) (Sub.refl _) (Ty.len _ _) (by simp)) ?_
          obtain ⟨y355, hy355, h⟩ := bdE h
          refine sq rfl (so_callv pf235 rfl rfl rfl rfl (fun σ hs => F235_c hy355 σ.w σ.O hs.olt) ?_)
          refine sq rfl (so_sta ti296 rfl rfl rfl rfl (Upd.refl (by simp [Ty.len])) (Ty.len _ _) (Ty.one _ _) (xs' := (Ty.arr 5 (tyI .u64)).enc y355) se0 ?_)
          refine jl_nil ?_
          refine jx_blk ?_
          refine jx_then ?_
          refine jc_reg ?_
          refine sqv rfl (yv_move rfl rfl) ?_
          obtain ⟨g356, h⟩ := gdE h
          refine sqv rfl (yv_slk is97 rfl rfl (rd_f at0) (.inr ⟨_, _, rfl, rfl⟩) (.inl ⟨rfl, rfl⟩) g356) ?_
          refine sqv rfl (yv_assign rfl rfl) ?_
          refine jl_nil ?_
          refine jx_again ?_
          refine nj_s (m := (mRow (tyI .u8))) (v := (slcut z336 (8 : Int) (j337.length : Int) 1)) (p := (cut j337 (8 : Int) (j337.length : Int))) (rq_cut (rs_f at0) g356) ?_
          exact nj_weak (ih2 (cut j337 (8 : Int) (j337.length : Int)) y355 (slcut z336 (8 : Int) (j337.length : Int) 1) h) ⟨rfl, rfl, rfl, trivial⟩ (.cons de0 (.cons de0 .nil)) (.cons at0 .nil)
       exact nj_weak (key2 FUEL j223 y234 z222 h) ⟨rfl, rfl, rfl, trivial⟩ (.cons de0 (.cons de0 .nil)) (.cons at0 .nil)
      ·
       replace h := brT h
       refine jc_t rfl ?_
       refine jc_skip ?_
       refine jx_then ?_
       refine jc_block ?_
       refine jc_reg ?_
       refine sqv rfl (yv_move rfl rfl) ?_
       refine sq rfl (so_bslL (C := (tyI .u8)) (l := ([0] : (List Int))) si97 sz97 rfl rfl rfl rfl (by decide) (by decide) (fills_cons rfl (many_upd' (tyI .u8) _ (0 : Int) 0 (by simp [lup])) rfl (Ty.len (tyI .u8) 0) fills_nil) fun s229 => ?_)
       obtain ⟨l230, hl230, h⟩ := letX h
       obtain ⟨g231, h⟩ := gdE h
       refine sq rfl (so_appX (C := (tyI .u8)) hl230 si97 rfl rfl rfl rfl de2 (rd_o at0) rfl g231 fun s232 => ?_)
       refine sqv rfl (yv_assign rfl rfl) ?_
       refine jl_nil ?_
       refine jx_blk ?_
       refine jx_again ?_
       exact nj_weak (ih1 l230 s232 h) ⟨rfl, rfl, trivial⟩ (.cons de2 (.cons de0 .nil)) .nil
    exact nj_weak (key1 FUEL l167 s169 h) ⟨rfl, rfl, trivial⟩ (.cons de2 (.cons de0 .nil)) .nil
   ·
    replace h := brT h
    refine jc_t rfl ?_
    refine jc_skip ?_
    refine jx_then ?_
    refine jc_seq ?_
    refine jc_block ?_
    refine jc_seq ?_
    refine jc_reg ?_
    obtain ⟨g155, h⟩ := gdE h
    refine nj_xsl at0 fun w156 => ?_
    refine nj_all (rd_f at1) fun hl_g158 => ?_
    have g158 : 0 ≤ j140 ∧ j140 < (w156.length : Int) := by rw [hl_g158]; exact g155
    refine nj_open (rd_f at0) g158 fun b157 o159 ha_b157 => ?_
    refine sqv rfl (yv_is is34 rfl rfl rfl ha_b157 (rd_f at0) g158) ?_
    obtain ⟨y160, hy160, h⟩ := letX h
    refine nj_eltw (rw_f at1) g155 hy160 fun u161 hx_u161 => ?_
    refine sqv rfl (yv_lds ti97 rfl rfl ha_b157 (rd_f at1) (many_subx hx_u161 tySl g158) rfl (Ty.len _ _) (fun _ => rfl)) ?_
    refine sqv rfl (yv_assign rfl rfl) ?_
    refine jl_nil ?_
    refine jx_then ?_
    refine jc_reg ?_
    refine sqv rfl (yv_move rfl rfl) ?_
    refine sqv rfl (yv_move rfl rfl) ?_
    obtain ⟨l162, hl162, h⟩ := letX h
    obtain ⟨g163, h⟩ := gdE h
    refine sq rfl (so_appX (C := (tyI .u8)) hl162 si97 rfl rfl rfl rfl de1 (rd_f at0) rfl g163 fun s164 => ?_)
    refine sqv rfl (yv_assign rfl rfl) ?_
    refine jl_nil ?_
    refine jx_blk ?_
    refine jx_then ?_
    refine jc_reg ?_
    obtain ⟨x165, hx165, h⟩ := letX h
    refine sqv rfl (yxi hx165 (yv_add rfl rfl rfl)) ?_
    refine sqv rfl (yv_move rfl rfl) ?_
    refine jl_nil ?_
    refine jx_again ?_
    exact nj_weak (ih0 l162 x165 s164 h) ⟨rfl, rfl, rfl, rfl, rfl, trivial⟩ (.cons de1 (.cons de0 .nil)) (.cons at3 .nil)
 exact nj_weak (key0 FUEL [] 0 (⟨none, 0, 0⟩ : Sl) h) ⟨rfl, rfl, rfl, rfl, rfl, trivial⟩ (.cons de1 (.cons de0 .nil)) (.cons at0 .nil)
theorem F83_c {p0 : (Vector Int 32)} {p1 : ByteArray} {p2 : (List (List Int))} {r : (Vector Int 32)} (h : F83 p0 p1 p2 = some r) (w0 : World) (O0 : Nat → Prop) (hO : ∀ k, O0 k → k < w0.heap.size) (v2 : Sl) (k0 : (fa false (mSl tySl (mRow (tyI .u8))) v2 p2).p ⟨w0, O0, inL []⟩) :
  CallsP Tryz.prog 83 (List.toArray [ag ((Ty.arr 32 (tyI .u8)).enc p0), .string p1, sv v2]) w0 O0 [] (RV (ag ((Ty.arr 32 (tyI .u8)).enc r))) := by
 unfold F83 at h
 refine calls_start (e := [(0, ag ((Ty.arr 32 (tyI .u8)).enc p0)), (1, .string p1), (2, sv v2)]) (L := []) (K := [fa false (mSl tySl (mRow (tyI .u8))) v2 p2]) Tryz.func83 rfl rfl rfl ⟨rfl, rfl, rfl, trivial⟩ hO (by simp) .nil (alc k0 aln) ?_
 refine jc_seq ?_
 refine jc_reg ?_
 refine sq rfl (so_boxa (by decide) rfl rfl rfl fun b1 => ?_)
 refine sq rfl (so_alloc ti25 (by decide) rfl rfl fun b2 => ?_)
 refine jl_nil ?_
 refine jx_then ?_
 refine jc_seq ?_
 refine jc_reg ?_
 refine sqv rfl (yv_sla1 ia25 rfl rfl) ?_
 refine sqv rfl (yv_move rfl rfl) ?_
 obtain ⟨x3, hx3, h⟩ := letX h
 refine sqv rfl (yv_lens Tryz.underlying9 rfl rfl hx3) ?_
 obtain ⟨x4, hx4, h⟩ := letX h
 refine sqv rfl (yxi hx4 (yv_con rfl (by rw [Tryz.underlying3]; rfl) Tryz.underlying5 rfl)) ?_
 refine sq rfl (so_bslL (C := (tyI .u8)) (l := ([x4] : (List Int))) si97 sz97 rfl rfl rfl rfl (by decide) (by decide) (fills_cons rfl (many_upd' (tyI .u8) _ (0 : Int) x4 (by simp [lup])) rfl (Ty.len (tyI .u8) x4) fills_nil) fun s5 => ?_)
 refine sqv rfl (yv_move rfl rfl) ?_
 obtain ⟨g6, h⟩ := gdE h
 refine sq rfl (so_s2b Tryz.underlying9 Tryz.underlying97 Tryz.underlying5 (by decide) rfl rfl rfl g6 fun s7 => ?_)
 refine sq rfl (so_bslL (C := tySl) (l := ([(⟨some ⟨b1, 0, none⟩, 32, 32⟩ : Sl), s5, s7] : List Sl)) si34 sz34 rfl rfl rfl rfl (by decide) (by decide) (fills_cons rfl (many_upd' tySl _ (0 : Int) (⟨some ⟨b1, 0, none⟩, 32, 32⟩ : Sl) (by simp [lup])) rfl (Ty.len tySl (⟨some ⟨b1, 0, none⟩, 32, 32⟩ : Sl)) (fills_cons rfl (many_upd' tySl _ (1 : Int) s5 (by simp [lup])) rfl (Ty.len tySl s5) (fills_cons rfl (many_upd' tySl _ (2 : Int) s7 (by simp [lup])) rfl (Ty.len tySl s7) fills_nil))) fun s8 => ?_)
 refine sqv rfl (yv_assign rfl rfl) ?_
 refine jl_nil ?_
 refine jx_then ?_
 refine jc_seq ?_
 refine jc_reg ?_
 refine sqv rfl (yv_move rfl rfl) ?_
 refine sqv rfl (yv_move rfl rfl) ?_
 refine nj_xsl at1 fun w9 => ?_
 refine nj_frzb inout0 de3 ?_
 refine nj_s (m := (mRow (tyI .u8))) (v := (⟨some ⟨b1, 0, none⟩, 32, 32⟩ : Sl)) (p := p0.toList) (rq_arr (rs_f at0) (Sub.refl _) (by decide)) ?_
 refine nj_frz inout0 de1 ?_
 refine nj_s (m := mAl (mRow (tyI .u8))) (v := ([(⟨some ⟨b1, 0, none⟩, 32, 32⟩ : Sl), s5, s7] : List Sl)) (p := ([p0.toList, ([x4] : (List Int)), (sbytes p1)] : (List (List Int)))) (rq_alc (rs_f at1) (rq_alc (rs_f at0) (rq_alc (rs_f at5) rq_al0))) ?_
 obtain ⟨l10, hl10, h⟩ := letX h
 obtain ⟨g11, h⟩ := gdE h
 refine sq rfl (so_appVX (q := false) (C := tySl) hl10 si34 rfl rfl rfl rfl de0 (rd_f at4) (rw_s at0) (rw_f at5) g11 fun s12 w13 => ?_)
 obtain ⟨y14, hy14, h⟩ := bdE h
 refine sq rfl (so_callv pf153 rfl rfl rfl rfl (fun σ hs => F153_c hy14 σ.w σ.O hs.olt s12 (cw0 (rq_sl (rd_o at0) (rd_f at0)) hs)) ?_)
 refine sq rfl (so_sta ti25 rfl rfl rfl rfl (Upd.refl (by simp [Ty.len])) (Ty.len _ _) (Ty.one _ _) (xs' := (Ty.arr 32 (tyI .u8)).enc y14) se1 ?_)
 refine jl_nil ?_
 refine jx_then ?_
 refine jc_ret ?_
 cases h
 exact jx_ret rfl (rr_cella ti25 rfl at1 (Ty.len _ _) rr_nil) ⟨rfl, rfl, rfl, rfl⟩ .nil .nil rfl (by simp)
theorem F251_c {p0 : (Vector Int 32)} {p1 : Int} {r : Int} (h : F251 p0 p1 = some r) (w0 : World) (O0 : Nat → Prop) (hO : ∀ k, O0 k → k < w0.heap.size) :
  CallsP Tryz.prog 251 (List.toArray [ag ((Ty.arr 32 (tyI .u8)).enc p0), .int .i64 p1]) w0 O0 [] (RV (.int .i64 r)) := by
 unfold F251 at h
 refine calls_start (e := [(0, ag ((Ty.arr 32 (tyI .u8)).enc p0)), (1, .int .i64 p1)]) (L := []) (K := []) Tryz.func251 rfl rfl rfl ⟨rfl, rfl, trivial⟩ hO (by simp) .nil aln ?_
 refine jc_seq ?_
 refine jc_reg ?_
 refine sq rfl (so_boxa (by decide) rfl rfl rfl fun b1 => ?_)
 refine sqv rfl (yv_assign rfl rfl) ?_
 refine jl_nil ?_
 refine jx_then ?_
 refine jc_seq ?_
 refine jc_reg ?_
 refine sqv rfl (yv_assign rfl rfl) ?_
 refine jl_nil ?_
 refine jx_then ?_
 refine jc_seq ?_
 refine jc_seq ?_
 refine jc_reg ?_
 refine sqv rfl (yv_sla ia25 rfl rfl (.inl ⟨rfl, rfl⟩) (.inr ⟨_, _, rfl, rfl⟩) (by decide)) ?_
 obtain ⟨x2, hx2, h⟩ := letX h
 refine sqv rfl (yv_len isl97 rfl rfl (rq_cut (rq_arr (rd_bl at0) (Sub.refl _) (by decide)) (by simp)) hx2) ?_
 refine sqv rfl (yv_move rfl rfl) ?_
 refine jl_nil ?_
 refine jx_then ?_
 refine jc_block ?_
 refine nj_frzb inout0 de0 ?_
 refine nj_s (m := (mRow (tyI .u8))) (v := (⟨some ⟨b1, 0, none⟩, 32, 32⟩ : Sl)) (p := p0.toList) (rq_arr (rs_f at0) (Sub.refl _) (by decide)) ?_
 refine nj_s (m := (mRow (tyI .u8))) (v := (slcut (⟨some ⟨b1, 0, none⟩, 32, 32⟩ : Sl) (0 : Int) (8 : Int) 1)) (p := (cut p0.toList (0 : Int) (8 : Int))) (rq_cut (rs_f at0) (by simp)) ?_
 refine jc_loop ?_
 intro B0 Q0 hB0 hQ0
 have key0 : ∀ (k0 : Nat) (j105 : Int) (j106 : Int), F251_l0 x2 p0 p1 k0 j105 j106 = some r → JW 25 w0 O0 [] Tryz.prog B0 Q0 [(1, .int .i64 p1), (4, .int .i64 0), (5, .int .u64 j105), (8, sv (slcut (⟨some ⟨b1, 0, none⟩, 32, 32⟩ : Sl) (0 : Int) (8 : Int) 1)), (9, .int .i64 x2), (10, .int .i64 j106)] [] [fa true (mRow (tyI .u8)) (slcut (⟨some ⟨b1, 0, none⟩, 32, 32⟩ : Sl) (0 : Int) (8 : Int) 1) (cut p0.toList (0 : Int) (8 : Int))] := by
  intro k0
  induction k0 with
  | zero => intro j105 j106 h; cases h
  | succ k0 ih0 =>
   intro j105 j106 h
   unfold F251_l0 at h
   refine jw_round hB0 ?_
   refine jc_seq ?_
   refine jc_reg ?_
   obtain ⟨x107, hx107, h⟩ := letX h
   refine sqv rfl (yxb hx107 (yv_lss rfl rfl rfl)) ?_
   refine jl_nil ?_
   refine jx_then ?_
   refine jc_seq ?_
   rcases x107 with _ | _
   ·
    replace h := brF h
    refine jc_f rfl ?_
    refine jc_exit ?_
    refine jx_te ?_
    refine jx_te ?_
    refine jx_abs hQ0 ?_
    refine jx_hit ?_
    refine jx_then ?_
    refine jc_seq ?_
    refine jc_reg ?_
    refine sqv rfl (yv_move rfl rfl) ?_
    refine sqv rfl (yv_move rfl rfl) ?_
    obtain ⟨x126, hx126, h⟩ := letX h
    refine sqv rfl (yxi hx126 (yv_con rfl (by rw [Tryz.underlying3]; rfl) Tryz.underlying295 rfl)) ?_
    obtain ⟨g127, h⟩ := gdE h
    obtain ⟨x128, hx128, h⟩ := letX h
    refine sqv rfl (yxi hx128 (yv_rem rfl rfl rfl g127)) ?_
    obtain ⟨x129, hx129, h⟩ := letX h
    refine sqv rfl (yxi hx129 (yv_con rfl (by rw [Tryz.underlying295]; rfl) Tryz.underlying3 rfl)) ?_
    refine sqv rfl (yv_assign rfl rfl) ?_
    refine jl_nil ?_
    refine jx_then ?_
    refine jc_ret ?_
    cases h
    exact jx_ret rfl (rr_tmp rfl rr_nil) ⟨rfl, rfl, rfl, rfl⟩ .nil .nil rfl (by simp)
   ·
    replace h := brT h
    refine jc_t rfl ?_
    refine jc_skip ?_
    refine jx_then ?_
    refine jc_seq ?_
    refine jc_block ?_
    refine jc_seq ?_
    refine jc_reg ?_
    obtain ⟨g118, h⟩ := gdE h
    refine nj_open (rd_f at0) g118 fun b119 o120 ha_b119 => ?_
    refine sqv rfl (yv_is is97 rfl rfl rfl ha_b119 (rd_f at0) g118) ?_
    obtain ⟨x121, hx121, h⟩ := letX h
    refine sqv rfl (yxi hx121 (yv_lds ti5 rfl rfl ha_b119 (rd_f at0) (many_sub' (tyI .u8) (cut p0.toList (0 : Int) (8 : Int)) j106 g118) rfl (Ty.len _ _) (fun _ => rfl))) ?_
    refine sqv rfl (yv_assign rfl rfl) ?_
    refine jl_nil ?_
    refine jx_then ?_
    refine jc_reg ?_
    refine sqv rfl (yv_move rfl rfl) ?_
    obtain ⟨x122, hx122, h⟩ := letX h
    refine sqv rfl (yxi hx122 (yv_shl rfl rfl rfl (by decide))) ?_
    refine sqv rfl (yv_move rfl rfl) ?_
    obtain ⟨x123, hx123, h⟩ := letX h
    refine sqv rfl (yxi hx123 (yv_con rfl (by rw [Tryz.underlying5]; rfl) Tryz.underlying295 rfl)) ?_
    obtain ⟨x124, hx124, h⟩ := letX h
    refine sqv rfl (yxi hx124 (yv_or rfl rfl rfl)) ?_
    refine sqv rfl (yv_assign rfl rfl) ?_
    refine jl_nil ?_
    refine jx_blk ?_
    refine jx_then ?_
    refine jc_reg ?_
    obtain ⟨x125, hx125, h⟩ := letX h
    refine sqv rfl (yxi hx125 (yv_add rfl rfl rfl)) ?_
    refine sqv rfl (yv_move rfl rfl) ?_
    refine jl_nil ?_
    refine jx_again ?_
    exact nj_weak (ih0 x124 x125 h) ⟨rfl, rfl, rfl, rfl, rfl, rfl, trivial⟩ .nil (.cons at0 .nil)
 exact nj_weak (key0 FUEL 0 0 h) ⟨rfl, rfl, rfl, rfl, rfl, rfl, trivial⟩ .nil (.cons at0 .nil)
theorem F173_c {p0 : (Vector Int 32)} {r : Int} (h : F173 p0 = some r) (w0 : World) (O0 : Nat → Prop) (hO : ∀ k, O0 k → k < w0.heap.size) :
  CallsP Tryz.prog 173 (List.toArray [ag ((Ty.arr 32 (tyI .u8)).enc p0)]) w0 O0 [] (RV (.int .i64 r)) := by
 unfold F173 at h
 refine calls_start (e := [(0, ag ((Ty.arr 32 (tyI .u8)).enc p0))]) (L := []) (K := []) Tryz.func173 rfl rfl rfl ⟨rfl, trivial⟩ hO (by simp) .nil aln ?_
 refine jc_seq ?_
 refine jc_reg ?_
 refine sq rfl (so_boxa (by decide) rfl rfl rfl fun b1 => ?_)
 refine sqv rfl (yv_assign rfl rfl) ?_
 refine jl_nil ?_
 refine jx_then ?_
 refine jc_seq ?_
 refine jc_reg ?_
 refine sqv rfl (yv_ldb ti25 rfl rfl (rd_bl at0) (Sub.refl _) (Ty.len _ _) (by simp)) ?_
 obtain ⟨y2, hy2, h⟩ := bdE h
 refine sq rfl (so_callv pf251 rfl rfl rfl rfl (fun σ hs => F251_c hy2 σ.w σ.O hs.olt) ?_)
 obtain ⟨x3, hx3, h⟩ := letX h
 refine sqv rfl (yxi hx3 (yv_add rfl rfl rfl)) ?_
 refine sqv rfl (yv_assign rfl rfl) ?_
 refine jl_nil ?_
 refine jx_then ?_
 refine jc_ret ?_
 cases h
 exact jx_ret rfl (rr_tmp rfl rr_nil) ⟨rfl, rfl, rfl, rfl⟩ .nil .nil rfl (by simp)
theorem F152_c {p0 : (Vector Int 32)} {r : (Option Int)} (h : F152 p0 = some r) (w0 : World) (O0 : Nat → Prop) (hO : ∀ k, O0 k → k < w0.heap.size) :
  CallsP Tryz.prog 152 (List.toArray [ag ((Ty.arr 32 (tyI .u8)).enc p0)]) w0 O0 [] (RX (fun x : (Option Addr) => .pointer x) (fun x => []) (fun x => [fa true mKey x r])) := by
 unfold F152 at h
 refine calls_start (e := [(0, ag ((Ty.arr 32 (tyI .u8)).enc p0))]) (L := []) (K := []) Tryz.func152 rfl rfl rfl ⟨rfl, trivial⟩ hO (by simp) .nil aln ?_
 refine jc_seq ?_
 refine jc_reg ?_
 refine sq rfl (so_boxa (by decide) rfl rfl rfl fun b1 => ?_)
 refine sqv rfl (yv_assign rfl rfl) ?_
 refine jl_nil ?_
 refine jx_then ?_
 refine jc_seq ?_
 refine jc_reg ?_
 refine sqv rfl (yv_ldb ti25 rfl rfl (rd_bl at0) (Sub.refl _) (Ty.len _ _) (by simp)) ?_
 obtain ⟨y2, hy2, h⟩ := bdE h
 refine sq rfl (so_callv pf173 rfl rfl rfl rfl (fun σ hs => F173_c hy2 σ.w σ.O hs.olt) ?_)
 refine sqv rfl (yv_bkey rfl rfl) ?_
 refine sq rfl (so_boxk rfl rfl rfl fun b3 => ?_)
 refine sqv rfl (yv_assign rfl rfl) ?_
 refine jl_nil ?_
 refine jx_then ?_
 refine jc_ret ?_
 cases h
 exact jx_ret rfl (rr_tmp rfl rr_nil) ⟨((some ⟨b3, 0, none⟩)), rfl, rfl, rfl, rfl⟩ .nil (.cons at0 .nil) rfl (by simp)
theorem F80_c {p0 : (Vector Int 32)} {r : (Option Int)} (h : F80 p0 = some r) (w0 : World) (O0 : Nat → Prop) (hO : ∀ k, O0 k → k < w0.heap.size) :
  CallsP Tryz.prog 80 (List.toArray [ag ((Ty.arr 32 (tyI .u8)).enc p0)]) w0 O0 [] (RX (fun x : (Option Addr) => .pointer x) (fun x => []) (fun x => [fa true mKey x r])) := by
 unfold F80 at h
 refine calls_start (e := [(0, ag ((Ty.arr 32 (tyI .u8)).enc p0))]) (L := []) (K := []) Tryz.func80 rfl rfl rfl ⟨rfl, trivial⟩ hO (by simp) .nil aln ?_
 refine jc_seq ?_
 refine jc_reg ?_
 refine sq rfl (so_boxa (by decide) rfl rfl rfl fun b1 => ?_)
 refine sqv rfl (yv_assign rfl rfl) ?_
 refine jl_nil ?_
 refine jx_then ?_
 refine jc_seq ?_
 refine jc_reg ?_
 refine sqv rfl (yv_ldb ti25 rfl rfl (rd_bl at0) (Sub.refl _) (Ty.len _ _) (by simp)) ?_
 obtain ⟨y2, hy2, h⟩ := bdE h
 refine sq rfl (so_callv pf83 rfl rfl rfl rfl (fun σ hs => F83_c hy2 σ.w σ.O hs.olt (⟨none, 0, 0⟩ : Sl) (cw0 (rq_sl rq_nil rq_al0) hs)) ?_)
 obtain ⟨y3, hy3, h⟩ := bdE h
 refine sq rfl (so_callx pf152 rfl rfl rfl rfl (fun σ hs => F152_c hy3 σ.w σ.O hs.olt) (fun _ => .nil) (fun _ => (.cons .nil)) (fun r4 => ?_))
 refine sqv rfl (yv_assign rfl rfl) ?_
 refine jl_nil ?_
 refine jx_then ?_
 refine jc_ret ?_
 cases h
 exact jx_ret rfl (rr_tmp rfl rr_nil) ⟨(r4), rfl, rfl, rfl, rfl⟩ .nil (.cons at0 .nil) rfl (by simp)
theorem F81_c {p0 : (Vector Int 32)} {r : (Vector Int 32)} (h : F81 p0 = some r) (w0 : World) (O0 : Nat → Prop) (hO : ∀ k, O0 k → k < w0.heap.size) :
  CallsP Tryz.prog 81 (List.toArray [ag ((Ty.arr 32 (tyI .u8)).enc p0)]) w0 O0 [] (RV (ag ((Ty.arr 32 (tyI .u8)).enc r))) := by
 unfold F81 at h
 refine calls_start (e := [(0, ag ((Ty.arr 32 (tyI .u8)).enc p0))]) (L := []) (K := []) Tryz.func81 rfl rfl rfl ⟨rfl, trivial⟩ hO (by simp) .nil aln ?_
 refine jc_seq ?_
 refine jc_reg ?_
 refine sq rfl (so_boxa (by decide) rfl rfl rfl fun b1 => ?_)
 refine sq rfl (so_alloc ti25 (by decide) rfl rfl fun b2 => ?_)
 refine jl_nil ?_
 refine jx_then ?_
 refine jc_seq ?_
 refine jc_reg ?_
 refine sqv rfl (yv_ldb ti25 rfl rfl (rd_bl at1) (Sub.refl _) (Ty.len _ _) (by simp)) ?_
 obtain ⟨y3, hy3, h⟩ := bdE h
 refine sq rfl (so_callv pf83 rfl rfl rfl rfl (fun σ hs => F83_c hy3 σ.w σ.O hs.olt (⟨none, 0, 0⟩ : Sl) (cw0 (rq_sl rq_nil rq_al0) hs)) ?_)
 refine sq rfl (so_sta ti25 rfl rfl rfl rfl (Upd.refl (by simp [Ty.len])) (Ty.len _ _) (Ty.one _ _) (xs' := (Ty.arr 32 (tyI .u8)).enc y3) se0 ?_)
 refine jl_nil ?_
 refine jx_then ?_
 refine jc_ret ?_
 cases h
 exact jx_ret rfl (rr_cella ti25 rfl at0 (Ty.len _ _) rr_nil) ⟨rfl, rfl, rfl, rfl⟩ .nil .nil rfl (by simp)
theorem F253_c {p0 : Int} {r : Bool} (h : F253 p0 = some r) (w0 : World) (O0 : Nat → Prop) (hO : ∀ k, O0 k → k < w0.heap.size) :
  CallsP Tryz.prog 253 (List.toArray [.int .i64 p0]) w0 O0 [] (RV (.bool r)) := by
 unfold F253 at h
 refine calls_start (e := [(0, .int .i64 p0)]) (L := []) (K := []) Tryz.func253 rfl rfl rfl ⟨rfl, trivial⟩ hO (by simp) .nil aln ?_
 refine jc_seq ?_
 refine jc_reg ?_
 refine sqv rfl (yv_assign rfl rfl) ?_
 refine jl_nil ?_
 refine jx_then ?_
 refine jc_seq ?_
 refine jc_reg ?_
 refine sqv rfl (yv_move rfl rfl) ?_
 obtain ⟨x1, hx1, h⟩ := letX h
 refine sqv rfl (yxb hx1 (yv_geq rfl rfl rfl)) ?_
 refine sqv rfl (yv_move rfl rfl) ?_
 rcases x1 with _ | _
 ·
  replace h := brF h
  refine sq_skip rfl ?_
  refine sq_skip rfl ?_
  refine sqv rfl (yv_pick_f rfl rfl rfl) ?_
  refine sqv rfl (yv_assign rfl rfl) ?_
  refine jl_nil ?_
  refine jx_then ?_
  refine jc_ret ?_
  cases h
  exact jx_ret rfl (rr_tmp rfl rr_nil) ⟨rfl, rfl, rfl, rfl⟩ .nil .nil rfl (by simp)
 ·
  replace h := brT h
  refine sqv rfl (yv_move rfl rfl) ?_
  obtain ⟨x2, hx2, h⟩ := letX h
  refine sqv rfl (yxb hx2 (yv_lss rfl rfl rfl)) ?_
  refine sqv rfl (yv_pick_t rfl rfl rfl) ?_
  refine sqv rfl (yv_assign rfl rfl) ?_
  refine jl_nil ?_
  refine jx_then ?_
  refine jc_ret ?_
  cases h
  exact jx_ret rfl (rr_tmp rfl rr_nil) ⟨rfl, rfl, rfl, rfl⟩ .nil .nil rfl (by simp)
theorem F239_c {p0 : Int} {p1 : Int} {r : Int} (h : F239 p0 p1 = some r) (w0 : World) (O0 : Nat → Prop) (hO : ∀ k, O0 k → k < w0.heap.size) :
  CallsP Tryz.prog 239 (List.toArray [.int .i64 p0, .int .i64 p1]) w0 O0 [] (RV (.int .i64 r)) := by
 unfold F239 at h
 refine calls_start (e := [(0, .int .i64 p0), (1, .int .i64 p1)]) (L := []) (K := []) Tryz.func239 rfl rfl rfl ⟨rfl, rfl, trivial⟩ hO (by simp) .nil aln ?_
 refine jc_seq ?_
 refine jc_reg ?_
 refine sqv rfl (yv_assign rfl rfl) ?_
 refine jl_nil ?_
 refine jx_then ?_
 refine jc_seq ?_
 refine jc_seq_n ?_
 intro N0 hN0
 have hj0 : ∀ (j7 : Bool), F239_j0 p0 p1 j7 = some r → NJ 17 w0 O0 [] N0 [(0, .int .i64 p0), (1, .int .i64 p1), (4, .int .i64 0), (12, .bool j7)] [] [] := by
  intro j7 h
  unfold F239_j0 at h
  refine nj_abs hN0 ?_
  rcases j7 with _ | _
  ·
   replace h := brF h
   refine jc_f rfl ?_
   refine jc_skip ?_
   refine jx_then ?_
   refine jc_seq ?_
   refine jc_reg ?_
   refine sqv rfl (yv_move rfl rfl) ?_
   refine sqv rfl (yv_move rfl rfl) ?_
   obtain ⟨x3_8, hx3_8, h⟩ := letX h
   refine sqv rfl (yxi hx3_8 (yv_mul rfl rfl rfl)) ?_
   obtain ⟨x4_8, hx4_8, h⟩ := letX h
   refine sqv rfl (yxi hx4_8 (yv_rem rfl rfl rfl (by decide))) ?_
   refine sqv rfl (yv_assign rfl rfl) ?_
   refine jl_nil ?_
   refine jx_then ?_
   refine jc_ret ?_
   cases h
   exact jx_ret rfl (rr_tmp rfl rr_nil) ⟨rfl, rfl, rfl, rfl⟩ .nil .nil rfl (by simp)
  ·
   replace h := brT h
   refine jc_t rfl ?_
   refine jc_seq ?_
   refine jc_reg ?_
   refine sqv rfl (yv_assign rfl rfl) ?_
   refine jl_nil ?_
   refine jx_then ?_
   refine jc_ret ?_
   refine jx_tr ?_
   cases h
   exact jx_ret rfl (rr_tmp rfl rr_nil) ⟨rfl, rfl, rfl, rfl⟩ .nil .nil rfl (by simp)
 refine jc_reg ?_
 refine sqv rfl (yv_move rfl rfl) ?_
 obtain ⟨y1, hy1, h⟩ := bdE h
 refine sq rfl (so_callv pf253 rfl rfl rfl rfl (fun σ hs => F253_c hy1 σ.w σ.O hs.olt) ?_)
 obtain ⟨x2, hx2, h⟩ := letX h
 refine sqv rfl (yxb hx2 (yv_not rfl rfl)) ?_
 refine sqv rfl (yv_move rfl rfl) ?_
 rcases x2 with _ | _
 ·
  replace h := brF h
  refine sqv rfl (yv_move rfl rfl) ?_
  obtain ⟨y4, hy4, h⟩ := bdE h
  refine sq rfl (so_callv pf253 rfl rfl rfl rfl (fun σ hs => F253_c hy4 σ.w σ.O hs.olt) ?_)
  obtain ⟨x5, hx5, h⟩ := letX h
  refine sqv rfl (yxb hx5 (yv_not rfl rfl)) ?_
  refine sqv rfl (yv_pick_f rfl rfl rfl) ?_
  refine jl_nil ?_
  refine jx_then_n ?_
  exact nj_weak (hj0 x5 h) ⟨rfl, rfl, rfl, rfl, trivial⟩ .nil .nil
 ·
  replace h := brT h
  refine sq_skip rfl ?_
  refine sq_skip rfl ?_
  refine sq_skip rfl ?_
  refine sqv rfl (yv_pick_t rfl rfl rfl) ?_
  refine jl_nil ?_
  refine jx_then_n ?_
  exact nj_weak (hj0 true h) ⟨rfl, rfl, rfl, rfl, trivial⟩ .nil .nil
theorem F176_c {p0 : Int} {p1 : Int} {r : Int} (h : F176 p0 p1 = some r) (w0 : World) (O0 : Nat → Prop) (hO : ∀ k, O0 k → k < w0.heap.size) :
  CallsP Tryz.prog 176 (List.toArray [.int .i64 p0, .int .i64 p1]) w0 O0 [] (RV (.int .i64 r)) := by
 unfold F176 at h
 refine calls_start (e := [(0, .int .i64 p0), (1, .int .i64 p1)]) (L := []) (K := []) Tryz.func176 rfl rfl rfl ⟨rfl, rfl, trivial⟩ hO (by simp) .nil aln ?_
 refine jc_seq ?_
 refine jc_reg ?_
 refine sqv rfl (yv_assign rfl rfl) ?_
 refine jl_nil ?_
 refine jx_then ?_
 refine jc_seq ?_
 refine jc_seq_n ?_
 intro N0 hN0
 have hj0 : ∀ (j8 : Bool), F176_j0 p0 p1 j8 = some r → NJ 31 w0 O0 [] N0 [(0, .int .i64 p0), (1, .int .i64 p1), (4, .int .i64 0), (16, .bool j8)] [] [] := by
  intro j8 h
  unfold F176_j0 at h
  refine nj_abs hN0 ?_
  rcases j8 with _ | _
  ·
   replace h := brF h
   refine jc_f rfl ?_
   refine jc_skip ?_
   refine jx_then ?_
   refine jc_seq ?_
   refine jc_reg ?_
   refine sqv rfl (yv_assign rfl rfl) ?_
   refine jl_nil ?_
   refine jx_then ?_
   refine jc_seq ?_
   refine jc_block ?_
   refine jc_loop ?_
   intro B0 Q0 hB0 hQ0
   have key0 : ∀ (k0 : Nat) (j40_9 : Int) (j41_9 : Int) (j42_9 : Int), F176_l0 k0 j40_9 j41_9 j42_9 = some r → JW 31 w0 O0 [] Tryz.prog B0 Q0 [(0, .int .i64 j40_9), (1, .int .i64 j41_9), (4, .int .i64 0), (5, .int .i64 j42_9)] [] [] := by
    intro k0
    induction k0 with
    | zero => intro j40_9 j41_9 j42_9 h; cases h
    | succ k0 ih0 =>
     intro j40_9 j41_9 j42_9 h
     unfold F176_l0 at h
     refine jw_round hB0 ?_
     refine jc_seq ?_
     refine jc_seq ?_
     refine jc_reg ?_
     refine sqv rfl (yv_move rfl rfl) ?_
     obtain ⟨x43_9, hx43_9, h⟩ := letX h
     refine sqv rfl (yxb hx43_9 (yv_gtr rfl rfl rfl)) ?_
     refine jl_nil ?_
     refine jx_then ?_
     rcases x43_9 with _ | _
     ·
      replace h := brF h
      refine jc_f rfl ?_
      refine jc_exit ?_
      refine jx_te ?_
      refine jx_te ?_
      refine jx_abs hQ0 ?_
      refine jx_hit ?_
      refine jx_then ?_
      refine jc_seq ?_
      refine jc_reg ?_
      refine sqv rfl (yv_move rfl rfl) ?_
      refine sqv rfl (yv_assign rfl rfl) ?_
      refine jl_nil ?_
      refine jx_then ?_
      refine jc_ret ?_
      cases h
      exact jx_ret rfl (rr_tmp rfl rr_nil) ⟨rfl, rfl, rfl, rfl⟩ .nil .nil rfl (by simp)
     ·
      replace h := brT h
      refine jc_t rfl ?_
      refine jc_skip ?_
      refine jx_then ?_
      refine jc_seq ?_
      refine jc_block ?_
      refine jc_seq ?_
      refine jc_seq ?_
      refine jc_reg ?_
      refine sqv rfl (yv_move rfl rfl) ?_
      obtain ⟨x53_9, hx53_9, h⟩ := letX h
      refine sqv rfl (yxi hx53_9 (yv_and rfl rfl rfl)) ?_
      obtain ⟨x54_9, hx54_9, h⟩ := letX h
      refine sqv rfl (yxb hx54_9 (yv_eql rfl rfl rfl)) ?_
      refine jl_nil ?_
      refine jx_then ?_
      refine jc_then_n ?_
      intro N1 hN1
      have hj1 : ∀ (j58_9 : Int), F176_j1 j40_9 j41_9 (F176_l0 k0) j58_9 = some r → NJ 31 w0 O0 [] N1 [(0, .int .i64 j40_9), (1, .int .i64 j41_9), (4, .int .i64 0), (5, .int .i64 j58_9)] [] [] := by
       intro j58_9 h
       unfold F176_j1 at h
       refine nj_abs hN1 ?_
       refine jc_reg ?_
       refine sqv rfl (yv_move rfl rfl) ?_
       refine sqv rfl (yv_move rfl rfl) ?_
       obtain ⟨y1_9_59, hy1_9_59, h⟩ := bdE h
       refine sq rfl (so_callv pf239 rfl rfl rfl rfl (fun σ hs => F239_c hy1_9_59 σ.w σ.O hs.olt) ?_)
       refine sqv rfl (yv_assign rfl rfl) ?_
       refine jl_nil ?_
       refine jx_blk ?_
       refine jx_then ?_
       refine jc_reg ?_
       refine sqv rfl (yv_move rfl rfl) ?_
       obtain ⟨x2_9_59, hx2_9_59, h⟩ := letX h
       refine sqv rfl (yxi hx2_9_59 (yv_shr rfl rfl rfl (by decide))) ?_
       refine sqv rfl (yv_assign rfl rfl) ?_
       refine jl_nil ?_
       refine jx_again ?_
       exact nj_weak (ih0 y1_9_59 x2_9_59 j58_9 h) ⟨rfl, rfl, rfl, rfl, trivial⟩ .nil .nil
      rcases x54_9 with _ | _
      ·
       replace h := brF h
       refine jc_f rfl ?_
       refine jc_skip ?_
       refine jx_then_n ?_
       exact nj_weak (hj1 j42_9 h) ⟨rfl, rfl, rfl, rfl, trivial⟩ .nil .nil
      ·
       replace h := brT h
       refine jc_t rfl ?_
       refine jc_reg ?_
       refine sqv rfl (yv_move rfl rfl) ?_
       refine sqv rfl (yv_move rfl rfl) ?_
       obtain ⟨y55_9, hy55_9, h⟩ := bdE h
       refine sq rfl (so_callv pf239 rfl rfl rfl rfl (fun σ hs => F239_c hy55_9 σ.w σ.O hs.olt) ?_)
       refine sqv rfl (yv_assign rfl rfl) ?_
       refine jl_nil ?_
       refine jx_then_n ?_
       exact nj_weak (hj1 y55_9 h) ⟨rfl, rfl, rfl, rfl, trivial⟩ .nil .nil
   exact nj_weak (key0 FUEL p0 p1 1 h) ⟨rfl, rfl, rfl, rfl, trivial⟩ .nil .nil
  ·
   replace h := brT h
   refine jc_t rfl ?_
   refine jc_seq ?_
   refine jc_reg ?_
   refine sqv rfl (yv_assign rfl rfl) ?_
   refine jl_nil ?_
   refine jx_then ?_
   refine jc_ret ?_
   refine jx_tr ?_
   cases h
   exact jx_ret rfl (rr_tmp rfl rr_nil) ⟨rfl, rfl, rfl, rfl⟩ .nil .nil rfl (by simp)
 refine jc_reg ?_
 refine sqv rfl (yv_move rfl rfl) ?_
 obtain ⟨y1, hy1, h⟩ := bdE h
 refine sq rfl (so_callv pf253 rfl rfl rfl rfl (fun σ hs => F253_c hy1 σ.w σ.O hs.olt) ?_)
 obtain ⟨x2, hx2, h⟩ := letX h
 refine sqv rfl (yxb hx2 (yv_not rfl rfl)) ?_
 refine sqv rfl (yv_move rfl rfl) ?_
 rcases x2 with _ | _
 ·
  replace h := brF h
  refine sqv rfl (yv_move rfl rfl) ?_
  obtain ⟨x4, hx4, h⟩ := letX h
  refine sqv rfl (yxb hx4 (yv_lss rfl rfl rfl)) ?_
  refine sqv rfl (yv_pick_f rfl rfl rfl) ?_
  refine sqv rfl (yv_move rfl rfl) ?_
  rcases x4 with _ | _
  ·
   replace h := brF h
   refine sqv rfl (yv_move rfl rfl) ?_
   obtain ⟨x6, hx6, h⟩ := letX h
   refine sqv rfl (yxb hx6 (yv_gtr rfl rfl rfl)) ?_
   refine sqv rfl (yv_pick_f rfl rfl rfl) ?_
   refine jl_nil ?_
   refine jx_then_n ?_
   exact nj_weak (hj0 x6 h) ⟨rfl, rfl, rfl, rfl, trivial⟩ .nil .nil
  ·
   replace h := brT h
   refine sq_skip rfl ?_
   refine sq_skip rfl ?_
   refine sqv rfl (yv_pick_t rfl rfl rfl) ?_
   refine jl_nil ?_
   refine jx_then_n ?_
   exact nj_weak (hj0 true h) ⟨rfl, rfl, rfl, rfl, trivial⟩ .nil .nil
 ·
  replace h := brT h
  refine sq_skip rfl ?_
  refine sq_skip rfl ?_
  refine sqv rfl (yv_pick_t rfl rfl rfl) ?_
  refine sqv rfl (yv_move rfl rfl) ?_
  refine sq_skip rfl ?_
  refine sq_skip rfl ?_
  refine sqv rfl (yv_pick_t rfl rfl rfl) ?_
  refine jl_nil ?_
  refine jx_then_n ?_
  exact nj_weak (hj0 true h) ⟨rfl, rfl, rfl, rfl, trivial⟩ .nil .nil
theorem F114_c {p0 : (Option Int)} {r : (Int)} (h : F114 p0 = some r) (w0 : World) (O0 : Nat → Prop) (hO : ∀ k, O0 k → k < w0.heap.size) (v0 : (Option Addr)) (k0 : (fa true mKey v0 p0).p ⟨w0, O0, inL []⟩) :
  CallsP Tryz.prog 114 (List.toArray [.pointer v0]) w0 O0 [] (RV (.int .i64 r)) := by
 unfold F114 at h
 rcases moE h with ⟨hm, h⟩ | ⟨s, hm, h⟩
 ·
  cases h
  subst hm
  exact k_pub0 w0 O0 v0 k0
 ·
  obtain ⟨y, hy, h⟩ := bdE h
  obtain ⟨g, h⟩ := gdE h
  cases h
  subst hm
  exact k_pub (fun w hO => Calls.mono (F176_c hy w O0 hO) fun e w' ⟨v, Ln, Li, Kn, he, hr, hp⟩ => ⟨by rw [he, hr.1], hp.keep⟩) g w0 hO v0 k0
theorem F129_c {p0 : (Vector Int 32)} {r : (Option Int)} (h : F129 p0 = some r) (w0 : World) (O0 : Nat → Prop) (hO : ∀ k, O0 k → k < w0.heap.size) :
  CallsP Tryz.prog 129 (List.toArray [ag ((Ty.arr 32 (tyI .u8)).enc p0)]) w0 O0 [] (RX (fun x : (Option Addr) => .pointer x) (fun x => []) (fun x => [fa true mKey x r])) := by
 unfold F129 at h
 refine calls_start (e := [(0, ag ((Ty.arr 32 (tyI .u8)).enc p0))]) (L := []) (K := []) Tryz.func129 rfl rfl rfl ⟨rfl, trivial⟩ hO (by simp) .nil aln ?_
 refine jc_seq ?_
 refine jc_reg ?_
 refine sq rfl (so_boxa (by decide) rfl rfl rfl fun b1 => ?_)
 refine sqv rfl (yv_assign rfl rfl) ?_
 refine jl_nil ?_
 refine jx_then ?_
 refine jc_seq ?_
 refine jc_reg ?_
 refine sqv rfl (yv_ldb ti25 rfl rfl (rd_bl at0) (Sub.refl _) (Ty.len _ _) (by simp)) ?_
 obtain ⟨y2, hy2, h⟩ := bdE h
 refine sq rfl (so_callv pf83 rfl rfl rfl rfl (fun σ hs => F83_c hy2 σ.w σ.O hs.olt (⟨none, 0, 0⟩ : Sl) (cw0 (rq_sl rq_nil rq_al0) hs)) ?_)
 obtain ⟨y3, hy3, h⟩ := bdE h
 refine sq rfl (so_callx pf152 rfl rfl rfl rfl (fun σ hs => F152_c hy3 σ.w σ.O hs.olt) (fun _ => .nil) (fun _ => (.cons .nil)) (fun r4 => ?_))
 refine sqv rfl (yv_assign rfl rfl) ?_
 refine jl_nil ?_
 refine jx_then ?_
 refine jc_ret ?_
 cases h
 exact jx_ret rfl (rr_tmp rfl rr_nil) ⟨(r4), rfl, rfl, rfl, rfl⟩ .nil (.cons at0 .nil) rfl (by simp)
theorem F82_c {p0 : (Vector Int 32)} {r : SLeaf} (h : F82 p0 = some r) (w0 : World) (O0 : Nat → Prop) (hO : ∀ k, O0 k → k < w0.heap.size) :
  CallsP Tryz.prog 82 (List.toArray [ag ((Ty.arr 32 (tyI .u8)).enc p0)]) w0 O0 [] (RV (ag (tySLeaf.enc r))) := by
 unfold F82 at h
 refine calls_start (e := [(0, ag ((Ty.arr 32 (tyI .u8)).enc p0))]) (L := []) (K := []) Tryz.func82 rfl rfl rfl ⟨rfl, trivial⟩ hO (by simp) .nil aln ?_
 refine jc_seq ?_
 refine jc_reg ?_
 refine sq rfl (so_boxa (by decide) rfl rfl rfl fun b1 => ?_)
 refine sq rfl (so_alloc ti51 (by decide) rfl rfl fun b2 => ?_)
 refine jl_nil ?_
 refine jx_then ?_
 refine jc_seq ?_
 refine jc_regd (k := 9) hmix rfl [([], .blk b1 25 ((Ty.arr 32 (tyI .u8)).enc p0))] [] (.cons at1 .nil) .nil ?_
 refine tk (i := 0) rfl (by kernel_rfl) rfl (yv_ldb ti25 rfl rfl (rd_bl at0) (Sub.refl _) (Ty.len _ _) (by simp)) (.cons at0 (by kernel_rfl) .nil) .nil ?_
 refine tk (i := 3) rfl (by kernel_rfl) rfl (yv_ldb ti25 rfl rfl (rd_bl at0) (Sub.refl _) (Ty.len _ _) (by simp)) (.cons at0 (by kernel_rfl) .nil) .nil ?_
 obtain ⟨y3, hy3, h⟩ := bdE h
 refine jg_one (i := 1) (by kernel_rfl) (gst rfl rfl (so_callx pf80 rfl rfl rfl rfl (fun σ hs => F80_c hy3 σ.w σ.O hs.olt) (fun _ => .nil) (fun _ => (.cons .nil)) (fun r4 => ?_)))
 refine ng (.cons at1 .nil) .nil ?_
 obtain ⟨y5, hy5, h⟩ := bdE h
 refine jg_one (i := 2) (by kernel_rfl) (gst rfl rfl (so_callv pf114 rfl rfl rfl rfl (fun σ hs => F114_c hy5 σ.w σ.O hs.olt r4 (cs0 (rs_f at0) hs)) ?_))
 refine ng (.cons at1 .nil) .nil ?_
 obtain ⟨y6, hy6, h⟩ := bdE h
 refine jg_one (i := 4) (by kernel_rfl) (gst rfl rfl (so_callv pf81 rfl rfl rfl rfl (fun σ hs => F81_c hy6 σ.w σ.O hs.olt) ?_))
 refine ng (.cons at1 .nil) .nil ?_
 obtain ⟨y7, hy7, h⟩ := bdE h
 refine jg_one (i := 5) (by kernel_rfl) (gst rfl rfl (so_callx pf129 rfl rfl rfl rfl (fun σ hs => F129_c hy7 σ.w σ.O hs.olt) (fun _ => .nil) (fun _ => (.cons .nil)) (fun r8 => ?_)))
 refine ng (.cons at1 .nil) .nil ?_
 obtain ⟨y9, hy9, h⟩ := bdE h
 refine jg_one (i := 6) (by kernel_rfl) (gst rfl rfl (so_callv pf114 rfl rfl rfl rfl (fun σ hs => F114_c hy9 σ.w σ.O hs.olt r8 (cs0 (rs_f at0) hs)) ?_))
 refine ng (.cons at1 .nil) .nil ?_
 obtain ⟨x10, hx10, h⟩ := letX h
 refine tk (i := 7) rfl (by kernel_rfl) rfl (yxg (C := tySLeaf) hx10 (yv_build bi51 rfl rfl (fills_cons rfl (SLeaf.u0 SLeaf.zero y5) rfl (Ty.len (tyI .i64) y5) (fills_cons rfl (SLeaf.u1 ({ SLeaf.zero with Sign := y5 }) y9) rfl (Ty.len (tyI .i64) y9) fills_nil)))) .nil .nil ?_
 refine jg_one (i := 8) (by kernel_rfl) (gst rfl rfl (so_sta ti51 rfl rfl rfl rfl (Upd.refl (by simp [Ty.len])) (Ty.len _ _) (Ty.one _ _) (xs' := tySLeaf.enc x10) se0 ?_))
 refine ng (.cons at1 .nil) .nil ?_
 refine jg_nil (by kernel_rfl) ?_
 refine jx_then ?_
 refine jc_ret ?_
 cases h
 exact jx_ret rfl (rr_cella ti51 rfl at0 (Ty.len _ _) rr_nil) ⟨rfl, rfl, rfl, rfl⟩ .nil .nil rfl (by simp)
theorem F28_c {p0 : (Vector Int 32)} {r : (Option SpartyParty)} (h : F28 p0 = some r) (w0 : World) (O0 : Nat → Prop) (hO : ∀ k, O0 k → k < w0.heap.size) :
  CallsP Tryz.prog 28 (List.toArray [ag ((Ty.arr 32 (tyI .u8)).enc p0)]) w0 O0 [] (RX (fun x : (Option Addr) => .pointer x) (fun x => []) (fun x => [fa true (mPt tyVpartyParty mSpartyParty) x r])) := by
 unfold F28 at h
 refine calls_start (e := [(0, ag ((Ty.arr 32 (tyI .u8)).enc p0))]) (L := []) (K := []) Tryz.func28 rfl rfl rfl ⟨rfl, trivial⟩ hO (by simp) .nil aln ?_
 refine jc_seq ?_
 refine jc_reg ?_
 refine sq rfl (so_boxa (by decide) rfl rfl rfl fun b1 => ?_)
 refine sqv rfl (yv_assign rfl rfl) ?_
 refine jl_nil ?_
 refine jx_then ?_
 refine jc_seq ?_
 refine jc_regd (k := 7) hmix rfl [([], .blk b1 25 ((Ty.arr 32 (tyI .u8)).enc p0))] [] (.cons at0 .nil) .nil ?_
 refine tk (i := 0) rfl (by kernel_rfl) rfl (yv_ldb ti25 rfl rfl (rd_bl at0) (Sub.refl _) (Ty.len _ _) (by simp)) (.cons at0 (by kernel_rfl) .nil) .nil ?_
 refine tk (i := 2) rfl (by kernel_rfl) rfl (yv_ldb ti25 rfl rfl (rd_bl at0) (Sub.refl _) (Ty.len _ _) (by simp)) (.cons at0 (by kernel_rfl) .nil) .nil ?_
 obtain ⟨y2, hy2, h⟩ := bdE h
 refine jg_one (i := 1) (by kernel_rfl) (gst rfl rfl (so_callx pf80 rfl rfl rfl rfl (fun σ hs => F80_c hy2 σ.w σ.O hs.olt) (fun _ => .nil) (fun _ => (.cons .nil)) (fun r3 => ?_)))
 refine ng (.cons at0 .nil) .nil ?_
 obtain ⟨y4, hy4, h⟩ := bdE h
 refine jg_one (i := 3) (by kernel_rfl) (gst rfl rfl (so_callv pf81 rfl rfl rfl rfl (fun σ hs => F81_c hy4 σ.w σ.O hs.olt) ?_))
 refine ng (.cons at0 .nil) .nil ?_
 refine tk (i := 4) rfl (by kernel_rfl) rfl (yv_build bi143 rfl rfl (fills_cons rfl (VpartyParty.u2 (⟨SView.zero, (0 : Int), (none : Option Addr), (Vector.replicate 32 (0 : Int)), (Vector.replicate 3 false), (Vector.replicate 3 (Vector.replicate 32 (0 : Int))), (Vector.replicate 32 (0 : Int)), (Vector.replicate 32 (0 : Int))⟩ : VpartyParty) r3) rfl (Ty.len tyP r3) (fills_cons rfl (VpartyParty.u3 (⟨SView.zero, (0 : Int), r3, (Vector.replicate 32 (0 : Int)), (Vector.replicate 3 false), (Vector.replicate 3 (Vector.replicate 32 (0 : Int))), (Vector.replicate 32 (0 : Int)), (Vector.replicate 32 (0 : Int))⟩ : VpartyParty) y4) rfl (Ty.len (Ty.arr 32 (tyI .u8)) y4) fills_nil))) .nil .nil ?_
 refine jg_one (i := 5) (by kernel_rfl) (gst rfl rfl (so_boxa (by decide) rfl rfl rfl fun b5 => ?_))
 refine ng (.cons at1 .nil) .nil ?_
 refine tk (i := 6) rfl (by kernel_rfl) rfl (yv_assign rfl rfl) .nil .nil ?_
 refine jg_nil (by kernel_rfl) ?_
 refine jx_then ?_
 refine jc_seq ?_
 refine jc_reg ?_
 refine sqv rfl (yv_move rfl rfl) ?_
 refine sqv rfl (yv_nil rfl rfl) ?_
 refine sqv rfl (yv_fa fa143_0 rfl rfl) ?_
 refine sqv rfl (yv_fa fa64_3 rfl rfl) ?_
 obtain ⟨c6, hc6, h⟩ := letX h
 have hu_c6 := Upd.to (Upd.comp ((Sub.refl _).trans (VpartyParty.s0 (⟨SView.zero, (0 : Int), r3, y4, (Vector.replicate 3 false), (Vector.replicate 3 (Vector.replicate 32 (0 : Int))), (Vector.replicate 32 (0 : Int)), (Vector.replicate 32 (0 : Int))⟩ : VpartyParty))) (SView.u3 SView.zero 1) (Upd.comp (Sub.refl _) (VpartyParty.u0 (⟨SView.zero, (0 : Int), r3, y4, (Vector.replicate 3 false), (Vector.replicate 3 (Vector.replicate 32 (0 : Int))), (Vector.replicate 32 (0 : Int)), (Vector.replicate 32 (0 : Int))⟩ : VpartyParty) ({ SView.zero with K := 1 })) (Upd.refl (by simp [Ty.len])))) (congrArg (fun q_ => (tyVpartyParty.enc (⟨q_, (0 : Int), r3, y4, (Vector.replicate 3 false), (Vector.replicate 3 (Vector.replicate 32 (0 : Int))), (Vector.replicate 32 (0 : Int)), (Vector.replicate 32 (0 : Int))⟩ : VpartyParty))) hc6)
 refine sq rfl (so_st1 ti3 rfl rfl rfl rfl rfl hu_c6 (xs' := tyVpartyParty.enc (⟨c6, (0 : Int), r3, y4, (Vector.replicate 3 false), (Vector.replicate 3 (Vector.replicate 32 (0 : Int))), (Vector.replicate 32 (0 : Int)), (Vector.replicate 32 (0 : Int))⟩ : VpartyParty)) se0 ?_)
 refine jl_nil ?_
 refine jx_then ?_
 refine jc_seq ?_
 refine jc_reg ?_
 refine sqv rfl (yv_move rfl rfl) ?_
 refine sqv rfl (yv_nil rfl rfl) ?_
 refine sqv rfl (yv_fa fa143_0 rfl rfl) ?_
 refine sqv rfl (yv_fa fa64_2 rfl rfl) ?_
 refine sqv rfl (yv_ia ia62 rfl rfl rfl (by decide)) ?_
 obtain ⟨c7, hc7, h⟩ := letX h
 have hu_c7 := Upd.to (Upd.comp (((Sub.refl _).trans (VpartyParty.s0 (⟨c6, (0 : Int), r3, y4, (Vector.replicate 3 false), (Vector.replicate 3 (Vector.replicate 32 (0 : Int))), (Vector.replicate 32 (0 : Int)), (Vector.replicate 32 (0 : Int))⟩ : VpartyParty))).trans (SView.s2 c6)) (arr_upd tyB c6.Admins (0 : Int) true (by decide)) (Upd.comp ((Sub.refl _).trans (VpartyParty.s0 (⟨c6, (0 : Int), r3, y4, (Vector.replicate 3 false), (Vector.replicate 3 (Vector.replicate 32 (0 : Int))), (Vector.replicate 32 (0 : Int)), (Vector.replicate 32 (0 : Int))⟩ : VpartyParty))) (SView.u2 c6 (vup c6.Admins (0 : Int) true)) (Upd.comp (Sub.refl _) (VpartyParty.u0 (⟨c6, (0 : Int), r3, y4, (Vector.replicate 3 false), (Vector.replicate 3 (Vector.replicate 32 (0 : Int))), (Vector.replicate 32 (0 : Int)), (Vector.replicate 32 (0 : Int))⟩ : VpartyParty) ({ c6 with Admins := (vup c6.Admins (0 : Int) true) })) (Upd.refl (by simp [Ty.len]))))) (congrArg (fun q_ => (tyVpartyParty.enc (⟨q_, (0 : Int), r3, y4, (Vector.replicate 3 false), (Vector.replicate 3 (Vector.replicate 32 (0 : Int))), (Vector.replicate 32 (0 : Int)), (Vector.replicate 32 (0 : Int))⟩ : VpartyParty))) hc7)
 refine sq rfl (so_st1 ti4 rfl rfl rfl rfl rfl hu_c7 (xs' := tyVpartyParty.enc (⟨c7, (0 : Int), r3, y4, (Vector.replicate 3 false), (Vector.replicate 3 (Vector.replicate 32 (0 : Int))), (Vector.replicate 32 (0 : Int)), (Vector.replicate 32 (0 : Int))⟩ : VpartyParty)) se0 ?_)
 refine jl_nil ?_
 refine jx_then ?_
 refine jc_seq ?_
 refine jc_regd (k := 9) hmix rfl [([], .blk b1 25 ((Ty.arr 32 (tyI .u8)).enc p0))] [] (.cons at1 .nil) .nil ?_
 refine tk (i := 0) rfl (by kernel_rfl) rfl (yv_move rfl rfl) .nil .nil ?_
 refine tk (i := 1) rfl (by kernel_rfl) rfl (yv_ldb ti25 rfl rfl (rd_bl at0) (Sub.refl _) (Ty.len _ _) (by simp)) (.cons at0 (by kernel_rfl) .nil) .nil ?_
 refine tk (i := 3) rfl (by kernel_rfl) rfl (yv_nil rfl rfl) .nil .nil ?_
 refine tk (i := 4) rfl (by kernel_rfl) rfl (yv_fa fa143_0 rfl rfl) .nil .nil ?_
 refine tk (i := 5) rfl (by kernel_rfl) rfl (yv_fa fa64_1 rfl rfl) .nil .nil ?_
 refine tk (i := 6) rfl (by kernel_rfl) rfl (yv_fa fa61_0 rfl rfl) .nil .nil ?_
 obtain ⟨y8, hy8, h⟩ := bdE h
 refine jg_one (i := 2) (by kernel_rfl) (gst rfl rfl (so_callv pf82 rfl rfl rfl rfl (fun σ hs => F82_c hy8 σ.w σ.O hs.olt) ?_))
 refine ng (.cons at1 .nil) .nil ?_
 refine tk (i := 7) rfl (by kernel_rfl) rfl (yv_ia ia58 rfl rfl rfl (by decide)) .nil .nil ?_
 obtain ⟨c9, hc9, h⟩ := letX h
 have hu_c9 := Upd.to (Upd.comp ((((Sub.refl _).trans (VpartyParty.s0 (⟨c7, (0 : Int), r3, y4, (Vector.replicate 3 false), (Vector.replicate 3 (Vector.replicate 32 (0 : Int))), (Vector.replicate 32 (0 : Int)), (Vector.replicate 32 (0 : Int))⟩ : VpartyParty))).trans (SView.s1 c7)).trans (STree.s0 c7.Tree)) (arr_upd tySLeaf c7.Tree.Leaves (0 : Int) y8 (by decide)) (Upd.comp (((Sub.refl _).trans (VpartyParty.s0 (⟨c7, (0 : Int), r3, y4, (Vector.replicate 3 false), (Vector.replicate 3 (Vector.replicate 32 (0 : Int))), (Vector.replicate 32 (0 : Int)), (Vector.replicate 32 (0 : Int))⟩ : VpartyParty))).trans (SView.s1 c7)) (STree.u0 c7.Tree (vup c7.Tree.Leaves (0 : Int) y8)) (Upd.comp ((Sub.refl _).trans (VpartyParty.s0 (⟨c7, (0 : Int), r3, y4, (Vector.replicate 3 false), (Vector.replicate 3 (Vector.replicate 32 (0 : Int))), (Vector.replicate 32 (0 : Int)), (Vector.replicate 32 (0 : Int))⟩ : VpartyParty))) (SView.u1 c7 ({ c7.Tree with Leaves := (vup c7.Tree.Leaves (0 : Int) y8) })) (Upd.comp (Sub.refl _) (VpartyParty.u0 (⟨c7, (0 : Int), r3, y4, (Vector.replicate 3 false), (Vector.replicate 3 (Vector.replicate 32 (0 : Int))), (Vector.replicate 32 (0 : Int)), (Vector.replicate 32 (0 : Int))⟩ : VpartyParty) ({ c7 with Tree := { c7.Tree with Leaves := (vup c7.Tree.Leaves (0 : Int) y8) } })) (Upd.refl (by simp [Ty.len])))))) (congrArg (fun q_ => (tyVpartyParty.enc (⟨q_, (0 : Int), r3, y4, (Vector.replicate 3 false), (Vector.replicate 3 (Vector.replicate 32 (0 : Int))), (Vector.replicate 32 (0 : Int)), (Vector.replicate 32 (0 : Int))⟩ : VpartyParty))) hc9)
 refine jg_one (i := 8) (by kernel_rfl) (gst rfl rfl (so_sta ti51 rfl rfl rfl rfl hu_c9 (Ty.len _ _) (Ty.one _ _) (xs' := tyVpartyParty.enc (⟨c9, (0 : Int), r3, y4, (Vector.replicate 3 false), (Vector.replicate 3 (Vector.replicate 32 (0 : Int))), (Vector.replicate 32 (0 : Int)), (Vector.replicate 32 (0 : Int))⟩ : VpartyParty)) se0 ?_))
 refine ng (.cons at1 .nil) .nil ?_
 refine jg_nil (by kernel_rfl) ?_
 refine jx_then ?_
 refine jc_seq ?_
 refine jc_reg ?_
 refine sqv rfl (yv_move rfl rfl) ?_
 refine sqv rfl (yv_move rfl rfl) ?_
 refine sqv rfl (yv_nil rfl rfl) ?_
 refine sqv rfl (yv_fa fa143_3 rfl rfl) ?_
 refine sqv rfl (yv_ldb ti25 rfl rfl (rd_bl at0) ((Sub.refl _).trans (VpartyParty.s3 (⟨c9, (0 : Int), r3, y4, (Vector.replicate 3 false), (Vector.replicate 3 (Vector.replicate 32 (0 : Int))), (Vector.replicate 32 (0 : Int)), (Vector.replicate 32 (0 : Int))⟩ : VpartyParty))) (Ty.len _ _) (by simp)) ?_
 obtain ⟨y10, hy10, h⟩ := bdE h
 refine sq rfl (so_callv pf83 rfl rfl rfl rfl (fun σ hs => F83_c hy10 σ.w σ.O hs.olt (⟨none, 0, 0⟩ : Sl) (cw0 (rq_sl rq_nil rq_al0) hs)) ?_)
 refine sqv rfl (yv_nil rfl rfl) ?_
 refine sqv rfl (yv_fa fa143_6 rfl rfl) ?_
 refine sq rfl (so_sta ti25 rfl rfl rfl rfl (Upd.comp (Sub.refl _) (VpartyParty.u6 (⟨c9, (0 : Int), r3, y4, (Vector.replicate 3 false), (Vector.replicate 3 (Vector.replicate 32 (0 : Int))), (Vector.replicate 32 (0 : Int)), (Vector.replicate 32 (0 : Int))⟩ : VpartyParty) y10) (Upd.refl (by simp [Ty.len]))) (Ty.len _ _) (Ty.one _ _) (xs' := tyVpartyParty.enc (⟨c9, (0 : Int), r3, y4, (Vector.replicate 3 false), (Vector.replicate 3 (Vector.replicate 32 (0 : Int))), y10, (Vector.replicate 32 (0 : Int))⟩ : VpartyParty)) se0 ?_)
 refine jl_nil ?_
 refine jx_then ?_
 refine jc_seq ?_
 refine jc_reg ?_
 refine sqv rfl (yv_move rfl rfl) ?_
 refine sqv rfl (yv_move rfl rfl) ?_
 refine sqv rfl (yv_nil rfl rfl) ?_
 refine sqv rfl (yv_fa fa143_6 rfl rfl) ?_
 refine sqv rfl (yv_ldb ti25 rfl rfl (rd_bl at0) ((Sub.refl _).trans (VpartyParty.s6 (⟨c9, (0 : Int), r3, y4, (Vector.replicate 3 false), (Vector.replicate 3 (Vector.replicate 32 (0 : Int))), y10, (Vector.replicate 32 (0 : Int))⟩ : VpartyParty))) (Ty.len _ _) (by simp)) ?_
 obtain ⟨y11, hy11, h⟩ := bdE h
 refine sq rfl (so_callv pf83 rfl rfl rfl rfl (fun σ hs => F83_c hy11 σ.w σ.O hs.olt (⟨none, 0, 0⟩ : Sl) (cw0 (rq_sl rq_nil rq_al0) hs)) ?_)
 refine sqv rfl (yv_nil rfl rfl) ?_
 refine sqv rfl (yv_fa fa143_7 rfl rfl) ?_
 refine sq rfl (so_sta ti25 rfl rfl rfl rfl (Upd.comp (Sub.refl _) (VpartyParty.u7 (⟨c9, (0 : Int), r3, y4, (Vector.replicate 3 false), (Vector.replicate 3 (Vector.replicate 32 (0 : Int))), y10, (Vector.replicate 32 (0 : Int))⟩ : VpartyParty) y11) (Upd.refl (by simp [Ty.len]))) (Ty.len _ _) (Ty.one _ _) (xs' := tyVpartyParty.enc (⟨c9, (0 : Int), r3, y4, (Vector.replicate 3 false), (Vector.replicate 3 (Vector.replicate 32 (0 : Int))), y10, y11⟩ : VpartyParty)) se0 ?_)
 refine jl_nil ?_
 refine jx_then ?_
 refine jc_seq ?_
 refine jc_reg ?_
 refine sqv rfl (yv_move rfl rfl) ?_
 refine sqv rfl (yv_assign rfl rfl) ?_
 refine jl_nil ?_
 refine jx_then ?_
 refine jc_ret ?_
 refine nj_frzb inout0 de0 ?_
 refine nj_s (m := (mPt tyVpartyParty mSpartyParty)) (v := (some ⟨b5, 0, none⟩)) (p := (some (⟨c9, (0 : Int), y2, y4, (Vector.replicate 3 false), (Vector.replicate 3 (Vector.replicate 32 (0 : Int))), y10, y11⟩ : SpartyParty))) (rq_pt (rs_f at0) (rq_SpartyParty (rs_f at1))) ?_
 cases h
 exact jx_ret rfl (rr_tmp rfl rr_nil) ⟨((some ⟨b5, 0, none⟩)), rfl, rfl, rfl, rfl⟩ .nil (.cons at0 .nil) rfl (by simp)
theorem F40_c {p0 : (Option SpartyParty)} {r : SView} (h : F40 p0 = some r) (w0 : World) (O0 : Nat → Prop) (hO : ∀ k, O0 k → k < w0.heap.size) (v0 : (Option Addr)) (k0 : (fa false (mPt tyVpartyParty mSpartyParty) v0 p0).p ⟨w0, O0, inL []⟩) :
  CallsP Tryz.prog 40 (List.toArray [.pointer v0]) w0 O0 [] (RV (ag (tySView.enc r))) := by
 unfold F40 at h
 refine calls_start (e := [(0, .pointer v0)]) (L := []) (K := [fa false (mPt tyVpartyParty mSpartyParty) v0 p0]) Tryz.func40 rfl rfl rfl ⟨rfl, trivial⟩ hO (by simp) .nil (alc k0 aln) ?_
 refine jc_seq ?_
 refine jc_reg ?_
 refine sq rfl (so_alloc ti64 (by decide) rfl rfl fun b1 => ?_)
 refine jl_nil ?_
 refine jx_then ?_
 refine jc_seq ?_
 refine jc_seq ?_
 refine jc_reg ?_
 refine sqv rfl (yv_move rfl rfl) ?_
 rcases moE h with ⟨hm_x2, h⟩ | ⟨x2, hm_x2, h⟩
 ·
  skip
  refine nj_pn0 at0 hm_x2 fun hn_n3 => ?_
  refine sqv rfl (yv_pn ipt22 rfl rfl rfl hn_n3) ?_
  refine jl_nil ?_
  refine jx_then ?_
  refine jc_t rfl ?_
  refine jc_seq ?_
  refine jc_reg ?_
  refine sqv rfl (yv_build bi64 rfl rfl fills_nil) ?_
  refine sq rfl (so_sta ti64 rfl rfl rfl rfl (Upd.refl (by simp [Ty.len])) (Ty.len _ _) (Ty.one _ _) (xs' := tySView.enc SView.zero) se0 ?_)
  refine jl_nil ?_
  refine jx_then ?_
  refine jc_ret ?_
  refine jx_tr ?_
  cases h
  exact jx_ret rfl (rr_cella ti64 rfl at0 (Ty.len _ _) rr_nil) ⟨rfl, rfl, rfl, rfl⟩ .nil .nil rfl (by simp)
 ·
  skip
  refine nj_pn1 at0 hm_x2 fun hn_n5 => ?_
  refine sqv rfl (yv_pn ipt22 rfl rfl rfl hn_n5) ?_
  refine jl_nil ?_
  refine jx_then ?_
  refine jc_f rfl ?_
  refine jc_skip ?_
  refine jx_then ?_
  refine jc_seq ?_
  refine jc_reg ?_
  refine sqv rfl (yv_move rfl rfl) ?_
  refine nj_xptX at0 hm_x2 fun b7 u8_ hv_b7 => ?_
  refine nj_xSpartyParty at1 fun u8_2 hu8 => ?_
  subst hu8
  refine sqv rfl (yv_nilp rfl rfl hv_b7) ?_
  refine sqv rfl (yv_fa fa143_0 rfl rfl) ?_
  obtain ⟨x9, hx9, h⟩ := letX h
  refine sqv rfl (yxg (C := tySView) hx9 (yv_ldb ti64 rfl rfl (rd_f at1) ((Sub.refl _).trans (VpartyParty.s0 (⟨x2.v, x2.leaf, u8_2, x2.own, x2.has', x2.nodes, x2.epoch, x2.init'⟩ : VpartyParty))) (Ty.len _ _) (by simp))) ?_
  refine sq rfl (so_sta ti64 rfl rfl rfl rfl (Upd.refl (by simp [Ty.len])) (Ty.len _ _) (Ty.one _ _) (xs' := tySView.enc x9) se0 ?_)
  refine jl_nil ?_
  refine jx_then ?_
  refine jc_ret ?_
  cases h
  exact jx_ret rfl (rr_cella ti64 rfl at0 (Ty.len _ _) rr_nil) ⟨rfl, rfl, rfl, rfl⟩ .nil .nil rfl (by simp)
theorem F44_c {p0 : (Option SpartyParty)} {p1 : ByteArray} {r : (Vector Int 32)} (h : F44 p0 p1 = some r) (w0 : World) (O0 : Nat → Prop) (hO : ∀ k, O0 k → k < w0.heap.size) (v0 : (Option Addr)) (k0 : (fa false (mPt tyVpartyParty mSpartyParty) v0 p0).p ⟨w0, O0, inL []⟩) :
  CallsP Tryz.prog 44 (List.toArray [.pointer v0, .string p1]) w0 O0 [] (RV (ag ((Ty.arr 32 (tyI .u8)).enc r))) := by
 unfold F44 at h
 refine calls_start (e := [(0, .pointer v0), (1, .string p1)]) (L := []) (K := [fa false (mPt tyVpartyParty mSpartyParty) v0 p0]) Tryz.func44 rfl rfl rfl ⟨rfl, rfl, trivial⟩ hO (by simp) .nil (alc k0 aln) ?_
 refine jc_seq ?_
 refine jc_reg ?_
 refine sq rfl (so_alloc ti25 (by decide) rfl rfl fun b1 => ?_)
 refine jl_nil ?_
 refine jx_then ?_
 refine jc_seq ?_
 refine jc_seq ?_
 refine jc_reg ?_
 refine sqv rfl (yv_move rfl rfl) ?_
 rcases moE h with ⟨hm_x2, h⟩ | ⟨x2, hm_x2, h⟩
 ·
  skip
  refine nj_pn0 at0 hm_x2 fun hn_n3 => ?_
  refine sqv rfl (yv_pn ipt22 rfl rfl rfl hn_n3) ?_
  refine jl_nil ?_
  refine jx_then ?_
  refine jc_t rfl ?_
  refine jc_seq ?_
  refine jc_reg ?_
  refine sqv rfl (yv_build bi25 rfl rfl fills_nil) ?_
  refine sq rfl (so_sta ti25 rfl rfl rfl rfl (Upd.refl (by simp [Ty.len])) (Ty.len _ _) (Ty.one _ _) (xs' := (Ty.arr 32 (tyI .u8)).enc (Vector.replicate 32 (0 : Int))) se0 ?_)
  refine jl_nil ?_
  refine jx_then ?_
  refine jc_ret ?_
  refine jx_tr ?_
  cases h
  exact jx_ret rfl (rr_cella ti25 rfl at0 (Ty.len _ _) rr_nil) ⟨rfl, rfl, rfl, rfl⟩ .nil .nil rfl (by simp)
 ·
  skip
  refine nj_pn1 at0 hm_x2 fun hn_n5 => ?_
  refine sqv rfl (yv_pn ipt22 rfl rfl rfl hn_n5) ?_
  refine jl_nil ?_
  refine jx_then ?_
  refine jc_f rfl ?_
  refine jc_skip ?_
  refine jx_then ?_
  refine jc_seq ?_
  refine jc_reg ?_
  refine sqv rfl (yv_move rfl rfl) ?_
  refine nj_xptX at0 hm_x2 fun b7 u8_ hv_b7 => ?_
  refine nj_xSpartyParty at1 fun u8_2 hu8 => ?_
  subst hu8
  refine sqv rfl (yv_nilp rfl rfl hv_b7) ?_
  refine sqv rfl (yv_fa fa143_6 rfl rfl) ?_
  obtain ⟨x9, hx9, h⟩ := letX h
  refine sqv rfl (yxg (C := (Ty.arr 32 (tyI .u8))) hx9 (yv_ldb ti25 rfl rfl (rd_f at1) ((Sub.refl _).trans (VpartyParty.s6 (⟨x2.v, x2.leaf, u8_2, x2.own, x2.has', x2.nodes, x2.epoch, x2.init'⟩ : VpartyParty))) (Ty.len _ _) (by simp))) ?_
  refine sqv rfl (yv_move rfl rfl) ?_
  obtain ⟨g10, h⟩ := gdE h
  refine sq rfl (so_s2b Tryz.underlying9 Tryz.underlying97 Tryz.underlying5 (by decide) rfl rfl rfl g10 fun s11 => ?_)
  refine sq rfl (so_bslL (C := tySl) (l := ([s11] : List Sl)) si34 sz34 rfl rfl rfl rfl (by decide) (by decide) (fills_cons rfl (many_upd' tySl _ (0 : Int) s11 (by simp [lup])) rfl (Ty.len tySl s11) fills_nil) fun s12 => ?_)
  obtain ⟨y13, hy13, h⟩ := bdE h
  refine sq rfl (so_callv pf83 rfl rfl rfl rfl (fun σ hs => F83_c hy13 σ.w σ.O hs.olt s12 (cw0 (rq_sl (rd_o at0) (rq_alc (rd_f at0) rq_al0)) hs)) ?_)
  refine sq rfl (so_sta ti25 rfl rfl rfl rfl (Upd.refl (by simp [Ty.len])) (Ty.len _ _) (Ty.one _ _) (xs' := (Ty.arr 32 (tyI .u8)).enc y13) se1 ?_)
  refine jl_nil ?_
  refine jx_then ?_
  refine jc_ret ?_
  cases h
  exact jx_ret rfl (rr_cella ti25 rfl at1 (Ty.len _ _) rr_nil) ⟨rfl, rfl, rfl, rfl⟩ .nil .nil rfl (by simp)
theorem F201_c {p0 : Int} {r : Bool} (h : F201 p0 = some r) (w0 : World) (O0 : Nat → Prop) (hO : ∀ k, O0 k → k < w0.heap.size) :
  CallsP Tryz.prog 201 (List.toArray [.int .i64 p0]) w0 O0 [] (RV (.bool r)) := by
 unfold F201 at h
 refine calls_start (e := [(0, .int .i64 p0)]) (L := []) (K := []) Tryz.func201 rfl rfl rfl ⟨rfl, trivial⟩ hO (by simp) .nil aln ?_
 refine jc_seq ?_
 refine jc_reg ?_
 refine sqv rfl (yv_assign rfl rfl) ?_
 refine jl_nil ?_
 refine jx_then ?_
 refine jc_seq ?_
 refine jc_reg ?_
 refine sqv rfl (yv_move rfl rfl) ?_
 obtain ⟨x1, hx1, h⟩ := letX h
 refine sqv rfl (yxb hx1 (yv_gtr rfl rfl rfl)) ?_
 refine sqv rfl (yv_move rfl rfl) ?_
 rcases x1 with _ | _
 ·
  replace h := brF h
  refine sq_skip rfl ?_
  refine sq_skip rfl ?_
  refine sqv rfl (yv_pick_f rfl rfl rfl) ?_
  refine sqv rfl (yv_move rfl rfl) ?_
  refine sq_skip rfl ?_
  refine sq_skip rfl ?_
  refine sq_skip rfl ?_
  refine sqv rfl (yv_pick_f rfl rfl rfl) ?_
  refine sqv rfl (yv_assign rfl rfl) ?_
  refine jl_nil ?_
  refine jx_then ?_
  refine jc_ret ?_
  cases h
  exact jx_ret rfl (rr_tmp rfl rr_nil) ⟨rfl, rfl, rfl, rfl⟩ .nil .nil rfl (by simp)
 ·
  replace h := brT h
  refine sqv rfl (yv_move rfl rfl) ?_
  obtain ⟨x2, hx2, h⟩ := letX h
  refine sqv rfl (yxb hx2 (yv_lss rfl rfl rfl)) ?_
  refine sqv rfl (yv_pick_t rfl rfl rfl) ?_
  refine sqv rfl (yv_move rfl rfl) ?_
  rcases x2 with _ | _
  ·
   replace h := brF h
   refine sq_skip rfl ?_
   refine sq_skip rfl ?_
   refine sq_skip rfl ?_
   refine sqv rfl (yv_pick_f rfl rfl rfl) ?_
   refine sqv rfl (yv_assign rfl rfl) ?_
   refine jl_nil ?_
   refine jx_then ?_
   refine jc_ret ?_
   cases h
   exact jx_ret rfl (rr_tmp rfl rr_nil) ⟨rfl, rfl, rfl, rfl⟩ .nil .nil rfl (by simp)
  ·
   replace h := brT h
   refine sqv rfl (yv_move rfl rfl) ?_
   obtain ⟨y3, hy3, h⟩ := bdE h
   refine sq rfl (so_callv pf176 rfl rfl rfl rfl (fun σ hs => F176_c hy3 σ.w σ.O hs.olt) ?_)
   obtain ⟨x4, hx4, h⟩ := letX h
   refine sqv rfl (yxb hx4 (yv_eql rfl rfl rfl)) ?_
   refine sqv rfl (yv_pick_t rfl rfl rfl) ?_
   refine sqv rfl (yv_assign rfl rfl) ?_
   refine jl_nil ?_
   refine jx_then ?_
   refine jc_ret ?_
   cases h
   exact jx_ret rfl (rr_tmp rfl rr_nil) ⟨rfl, rfl, rfl, rfl⟩ .nil .nil rfl (by simp)
theorem F294_c {p0 : Int} {r : Bool} (h : F294 p0 = some r) (w0 : World) (O0 : Nat → Prop) (hO : ∀ k, O0 k → k < w0.heap.size) :
  CallsP Tryz.prog 294 (List.toArray [.int .i64 p0]) w0 O0 [] (RV (.bool r)) := by
 unfold F294 at h
 refine calls_start (e := [(0, .int .i64 p0)]) (L := []) (K := []) Tryz.func294 rfl rfl rfl ⟨rfl, trivial⟩ hO (by simp) .nil aln ?_
 refine jc_seq ?_
 refine jc_reg ?_
 refine sqv rfl (yv_assign rfl rfl) ?_
 refine jl_nil ?_
 refine jx_then ?_
 refine jc_seq ?_
 refine jc_reg ?_
 refine sqv rfl (yv_move rfl rfl) ?_
 obtain ⟨x1, hx1, h⟩ := letX h
 refine sqv rfl (yxb hx1 (yv_eql rfl rfl rfl)) ?_
 refine sqv rfl (yv_move rfl rfl) ?_
 rcases x1 with _ | _
 ·
  replace h := brF h
  refine sqv rfl (yv_move rfl rfl) ?_
  obtain ⟨y2, hy2, h⟩ := bdE h
  refine sq rfl (so_callv pf201 rfl rfl rfl rfl (fun σ hs => F201_c hy2 σ.w σ.O hs.olt) ?_)
  refine sqv rfl (yv_pick_f rfl rfl rfl) ?_
  refine sqv rfl (yv_assign rfl rfl) ?_
  refine jl_nil ?_
  refine jx_then ?_
  refine jc_ret ?_
  cases h
  exact jx_ret rfl (rr_tmp rfl rr_nil) ⟨rfl, rfl, rfl, rfl⟩ .nil .nil rfl (by simp)
 ·
  replace h := brT h
  refine sq_skip rfl ?_
  refine sq_skip rfl ?_
  refine sqv rfl (yv_pick_t rfl rfl rfl) ?_
  refine sqv rfl (yv_assign rfl rfl) ?_
  refine jl_nil ?_
  refine jx_then ?_
  refine jc_ret ?_
  cases h
  exact jx_ret rfl (rr_tmp rfl rr_nil) ⟨rfl, rfl, rfl, rfl⟩ .nil .nil rfl (by simp)
theorem F240_c {p0 : STree} {r : Bool} (h : F240 p0 = some r) (w0 : World) (O0 : Nat → Prop) (hO : ∀ k, O0 k → k < w0.heap.size) :
  CallsP Tryz.prog 240 (List.toArray [ag (tySTree.enc p0)]) w0 O0 [] (RV (.bool r)) := by
 unfold F240 at h
 refine calls_start (e := [(0, ag (tySTree.enc p0))]) (L := []) (K := []) Tryz.func240 rfl rfl rfl ⟨rfl, trivial⟩ hO (by simp) .nil aln ?_
 refine jc_seq ?_
 refine jc_reg ?_
 refine sq rfl (so_boxa (by decide) rfl rfl rfl fun b1 => ?_)
 refine sqv rfl (yv_assign rfl rfl) ?_
 refine jl_nil ?_
 refine jx_then ?_
 refine jc_seq ?_
 refine jc_seq ?_
 refine jc_reg ?_
 refine sqv rfl (yv_fa fa61_0 rfl rfl) ?_
 obtain ⟨x2, hx2, h⟩ := letX h
 refine sqv rfl (yxg (C := (Ty.arr 8 tySLeaf)) hx2 (yv_ldb ti58 rfl rfl (rd_bl at0) ((Sub.refl _).trans (STree.s0 p0)) (Ty.len _ _) (by simp))) ?_
 refine sqv rfl (yv_move rfl rfl) ?_
 refine jl_nil ?_
 refine jx_then ?_
 refine jc_block ?_
 refine jc_loop ?_
 intro B0 Q0 hB0 hQ0
 have key0 : ∀ (k0 : Nat) (j208 : Int), F240_l0 x2 p0 k0 j208 = some r → JW 51 w0 O0 [] Tryz.prog B0 Q0 [(1, pt b1 0), (2, .bool false), (8, ag ((Ty.arr 8 tySLeaf).enc x2)), (9, .int .i64 j208)] [.blk b1 61 (tySTree.enc p0)] [] := by
  intro k0
  induction k0 with
  | zero => intro j208 h; cases h
  | succ k0 ih0 =>
   intro j208 h
   unfold F240_l0 at h
   refine jw_round hB0 ?_
   refine jc_seq ?_
   refine jc_reg ?_
   obtain ⟨x209, hx209, h⟩ := letX h
   refine sqv rfl (yxb hx209 (yv_lss rfl rfl rfl)) ?_
   refine jl_nil ?_
   refine jx_then ?_
   refine jc_seq ?_
   rcases x209 with _ | _
   ·
    replace h := brF h
    refine jc_f rfl ?_
    refine jc_exit ?_
    refine jx_te ?_
    refine jx_te ?_
    refine jx_abs hQ0 ?_
    refine jx_hit ?_
    refine jx_then ?_
    refine jc_seq ?_
    refine jc_seq ?_
    refine jc_reg ?_
    refine sqv rfl (yv_fa fa61_1 rfl rfl) ?_
    obtain ⟨x250, hx250, h⟩ := letX h
    refine sqv rfl (yxg (C := (Ty.arr 15 (tyI .i64))) hx250 (yv_ldb ti59 rfl rfl (rd_bl at0) ((Sub.refl _).trans (STree.s1 p0)) (Ty.len _ _) (by simp))) ?_
    refine sqv rfl (yv_move rfl rfl) ?_
    refine jl_nil ?_
    refine jx_then ?_
    refine jc_block ?_
    refine jc_loop ?_
    intro B1 Q1 hB1 hQ1
    have key1 : ∀ (k1 : Nat) (j304 : Int), F240_l1 x250 k1 j304 = some r → JW 51 w0 O0 [] Tryz.prog B1 Q1 [(2, .bool false), (33, ag ((Ty.arr 15 (tyI .i64)).enc x250)), (34, .int .i64 j304)] [] [] := by
     intro k1
     induction k1 with
     | zero => intro j304 h; cases h
     | succ k1 ih1 =>
      intro j304 h
      unfold F240_l1 at h
      refine jw_round hB1 ?_
      refine jc_seq ?_
      refine jc_reg ?_
      obtain ⟨x305, hx305, h⟩ := letX h
      refine sqv rfl (yxb hx305 (yv_lss rfl rfl rfl)) ?_
      refine jl_nil ?_
      refine jx_then ?_
      refine jc_seq ?_
      rcases x305 with _ | _
      ·
       replace h := brF h
       refine jc_f rfl ?_
       refine jc_exit ?_
       refine jx_te ?_
       refine jx_te ?_
       refine jx_abs hQ1 ?_
       refine jx_hit ?_
       refine jx_then ?_
       refine jc_seq ?_
       refine jc_reg ?_
       refine sqv rfl (yv_assign rfl rfl) ?_
       refine jl_nil ?_
       refine jx_then ?_
       refine jc_ret ?_
       cases h
       exact jx_ret rfl (rr_tmp rfl rr_nil) ⟨rfl, rfl, rfl, rfl⟩ .nil .nil rfl (by simp)
      ·
       replace h := brT h
       refine jc_t rfl ?_
       refine jc_skip ?_
       refine jx_then ?_
       refine jc_seq ?_
       refine jc_block ?_
       refine jc_seq ?_
       refine jc_reg ?_
       refine sqv rfl (yv_move rfl rfl) ?_
       obtain ⟨g320, h⟩ := gdE h
       obtain ⟨x321, hx321, h⟩ := letX h
       refine sqv rfl (yxi hx321 (yv_index (g := false) (ys := (tyI .i64).enc (vat x250 j304)) Tryz.underlying59 ti3 rfl rfl rfl g320 (arr_sub (tyI .i64) _ _ g320) (Ty.len _ _) (fun _ => rfl))) ?_
       refine sqv rfl (yv_assign rfl rfl) ?_
       refine sqv rfl (yv_assign rfl rfl) ?_
       refine jl_nil ?_
       refine jx_then ?_
       refine jc_seq_n ?_
       intro N1 hN1
       have hj1 : ∀ (j330 : Bool), F240_j1 j304 (F240_l1 x250 k1) j330 = some r → NJ 51 w0 O0 [] N1 [(2, .bool false), (33, ag ((Ty.arr 15 (tyI .i64)).enc x250)), (34, .int .i64 j304), (49, .bool j330)] [] [] := by
        intro j330 h
        unfold F240_j1 at h
        refine nj_abs hN1 ?_
        rcases j330 with _ | _
        ·
         replace h := brF h
         refine jc_f rfl ?_
         refine jc_skip ?_
         refine jx_blk ?_
         refine jx_then ?_
         refine jc_reg ?_
         obtain ⟨x1_331, hx1_331, h⟩ := letX h
         refine sqv rfl (yxi hx1_331 (yv_add rfl rfl rfl)) ?_
         refine sqv rfl (yv_move rfl rfl) ?_
         refine jl_nil ?_
         refine jx_again ?_
         exact nj_weak (ih1 x1_331 h) ⟨rfl, rfl, rfl, trivial⟩ .nil .nil
        ·
         replace h := brT h
         refine jc_t rfl ?_
         refine jc_seq ?_
         refine jc_reg ?_
         refine sqv rfl (yv_assign rfl rfl) ?_
         refine jl_nil ?_
         refine jx_then ?_
         refine jc_ret ?_
         refine jx_br ?_
         refine jx_tr ?_
         refine jx_tr ?_
         refine jx_abs hQ1 ?_
         refine jx_br ?_
         refine jx_tr ?_
         cases h
         exact jx_ret rfl (rr_tmp rfl rr_nil) ⟨rfl, rfl, rfl, rfl⟩ .nil .nil rfl (by simp)
       refine jc_reg ?_
       refine sqv rfl (yv_move rfl rfl) ?_
       obtain ⟨y322, hy322, h⟩ := bdE h
       refine sq rfl (so_callv pf294 rfl rfl rfl rfl (fun σ hs => F294_c hy322 σ.w σ.O hs.olt) ?_)
       obtain ⟨x323, hx323, h⟩ := letX h
       refine sqv rfl (yxb hx323 (yv_not rfl rfl)) ?_
       refine sqv rfl (yv_move rfl rfl) ?_
       rcases x323 with _ | _
       ·
        replace h := brF h
        refine sqv rfl (yv_move rfl rfl) ?_
        obtain ⟨x325, hx325, h⟩ := letX h
        refine sqv rfl (yxi hx325 (yv_rem rfl rfl rfl (by decide))) ?_
        obtain ⟨x326, hx326, h⟩ := letX h
        refine sqv rfl (yxb hx326 (yv_eql rfl rfl rfl)) ?_
        refine sqv rfl (yv_move rfl rfl) ?_
        rcases x326 with _ | _
        ·
         replace h := brF h
         refine sq_skip rfl ?_
         refine sq_skip rfl ?_
         refine sqv rfl (yv_pick_f rfl rfl rfl) ?_
         refine sqv rfl (yv_pick_f rfl rfl rfl) ?_
         refine jl_nil ?_
         refine jx_then_n ?_
         exact nj_weak (hj1 false h) ⟨rfl, rfl, rfl, rfl, trivial⟩ .nil .nil
        ·
         replace h := brT h
         refine sqv rfl (yv_move rfl rfl) ?_
         obtain ⟨x327, hx327, h⟩ := letX h
         refine sqv rfl (yxb hx327 (yv_neq rfl rfl rfl)) ?_
         refine sqv rfl (yv_pick_t rfl rfl rfl) ?_
         refine sqv rfl (yv_pick_f rfl rfl rfl) ?_
         refine jl_nil ?_
         refine jx_then_n ?_
         exact nj_weak (hj1 x327 h) ⟨rfl, rfl, rfl, rfl, trivial⟩ .nil .nil
       ·
        replace h := brT h
        refine sq_skip rfl ?_
        refine sq_skip rfl ?_
        refine sq_skip rfl ?_
        refine sq_skip rfl ?_
        refine sq_skip rfl ?_
        refine sq_skip rfl ?_
        refine sq_skip rfl ?_
        refine sqv rfl (yv_pick_t rfl rfl rfl) ?_
        refine jl_nil ?_
        refine jx_then_n ?_
        exact nj_weak (hj1 true h) ⟨rfl, rfl, rfl, rfl, trivial⟩ .nil .nil
    exact nj_weak (key1 FUEL 0 h) ⟨rfl, rfl, rfl, trivial⟩ .nil .nil
   ·
    replace h := brT h
    refine jc_t rfl ?_
    refine jc_skip ?_
    refine jx_then ?_
    refine jc_seq ?_
    refine jc_block ?_
    refine jc_seq ?_
    refine jc_reg ?_
    obtain ⟨g231, h⟩ := gdE h
    obtain ⟨x232, hx232, h⟩ := letX h
    refine sqv rfl (yxg (C := tySLeaf) hx232 (yv_index (g := true) (ys := tySLeaf.enc (vat x2 j208)) Tryz.underlying58 ti51 rfl rfl rfl g231 (arr_sub tySLeaf _ _ g231) (Ty.len _ _) (by simp))) ?_
    refine sq rfl (so_alloc ti51 (by decide) rfl rfl fun b233 => ?_)
    refine sq rfl (so_sta ti51 rfl rfl rfl rfl (Upd.refl (by simp [Ty.len])) (Ty.len _ _) (Ty.one _ _) (xs' := tySLeaf.enc x232) se0 ?_)
    refine jl_nil ?_
    refine jx_then ?_
    refine jc_seq_n ?_
    intro N0 hN0
    have hj0 : ∀ (j248 : Bool), F240_j0 j208 (F240_l0 x2 p0 k0) j248 = some r → NJ 51 w0 O0 [] N0 [(1, pt b1 0), (2, .bool false), (8, ag ((Ty.arr 8 tySLeaf).enc x2)), (9, .int .i64 j208), (30, .bool j248)] [.blk b1 61 (tySTree.enc p0)] [] := by
     intro j248 h
     unfold F240_j0 at h
     refine nj_abs hN0 ?_
     rcases j248 with _ | _
     ·
      replace h := brF h
      refine jc_f rfl ?_
      refine jc_skip ?_
      refine jx_blk ?_
      refine jx_then ?_
      refine jc_reg ?_
      obtain ⟨x1_249, hx1_249, h⟩ := letX h
      refine sqv rfl (yxi hx1_249 (yv_add rfl rfl rfl)) ?_
      refine sqv rfl (yv_move rfl rfl) ?_
      refine jl_nil ?_
      refine jx_again ?_
      exact nj_weak (ih0 x1_249 h) ⟨rfl, rfl, rfl, rfl, trivial⟩ (.cons de0 .nil) .nil
     ·
      replace h := brT h
      refine jc_t rfl ?_
      refine jc_seq ?_
      refine jc_reg ?_
      refine sqv rfl (yv_assign rfl rfl) ?_
      refine jl_nil ?_
      refine jx_then ?_
      refine jc_ret ?_
      refine jx_br ?_
      refine jx_tr ?_
      refine jx_tr ?_
      refine jx_abs hQ0 ?_
      refine jx_br ?_
      refine jx_tr ?_
      cases h
      exact jx_ret rfl (rr_tmp rfl rr_nil) ⟨rfl, rfl, rfl, rfl⟩ .nil .nil rfl (by simp)
    refine jc_reg ?_
    refine sqv rfl (yv_fa fa51_0 rfl rfl) ?_
    obtain ⟨x234, hx234, h⟩ := letX h
    refine sqv rfl (yxi hx234 (yv_ldb ti3 rfl rfl (rd_bl at0) ((Sub.refl _).trans (SLeaf.s0 x232)) (Ty.len _ _) (fun _ => rfl))) ?_
    obtain ⟨y235, hy235, h⟩ := bdE h
    refine sq rfl (so_callv pf294 rfl rfl rfl rfl (fun σ hs => F294_c hy235 σ.w σ.O hs.olt) ?_)
    obtain ⟨x236, hx236, h⟩ := letX h
    refine sqv rfl (yxb hx236 (yv_not rfl rfl)) ?_
    refine sqv rfl (yv_move rfl rfl) ?_
    rcases x236 with _ | _
    ·
     replace h := brF h
     refine sqv rfl (yv_fa fa51_1 rfl rfl) ?_
     obtain ⟨x238, hx238, h⟩ := letX h
     refine sqv rfl (yxi hx238 (yv_ldb ti3 rfl rfl (rd_bl at0) ((Sub.refl _).trans (SLeaf.s1 x232)) (Ty.len _ _) (fun _ => rfl))) ?_
     obtain ⟨y239, hy239, h⟩ := bdE h
     refine sq rfl (so_callv pf294 rfl rfl rfl rfl (fun σ hs => F294_c hy239 σ.w σ.O hs.olt) ?_)
     obtain ⟨x240, hx240, h⟩ := letX h
     refine sqv rfl (yxb hx240 (yv_not rfl rfl)) ?_
     refine sqv rfl (yv_pick_f rfl rfl rfl) ?_
     refine sqv rfl (yv_move rfl rfl) ?_
     rcases x240 with _ | _
     ·
      replace h := brF h
      refine sqv rfl (yv_fa fa51_0 rfl rfl) ?_
      obtain ⟨x242, hx242, h⟩ := letX h
      refine sqv rfl (yxi hx242 (yv_ldb ti3 rfl rfl (rd_bl at0) ((Sub.refl _).trans (SLeaf.s0 x232)) (Ty.len _ _) (fun _ => rfl))) ?_
      obtain ⟨x243, hx243, h⟩ := letX h
      refine sqv rfl (yxb hx243 (yv_eql rfl rfl rfl)) ?_
      refine sqv rfl (yv_fa fa51_1 rfl rfl) ?_
      obtain ⟨x244, hx244, h⟩ := letX h
      refine sqv rfl (yxi hx244 (yv_ldb ti3 rfl rfl (rd_bl at0) ((Sub.refl _).trans (SLeaf.s1 x232)) (Ty.len _ _) (fun _ => rfl))) ?_
      obtain ⟨x245, hx245, h⟩ := letX h
      refine sqv rfl (yxb hx245 (yv_eql rfl rfl rfl)) ?_
      obtain ⟨x246, hx246, h⟩ := letX h
      refine sqv rfl (yxb hx246 (yv_neb Tryz.underlying4 rfl rfl rfl)) ?_
      refine sqv rfl (yv_pick_f rfl rfl rfl) ?_
      refine jl_nil ?_
      refine jx_then_n ?_
      exact nj_weak (hj0 x246 h) ⟨rfl, rfl, rfl, rfl, rfl, trivial⟩ (.cons de1 .nil) .nil
     ·
      replace h := brT h
      refine sq_skip rfl ?_
      refine sq_skip rfl ?_
      refine sq_skip rfl ?_
      refine sq_skip rfl ?_
      refine sq_skip rfl ?_
      refine sq_skip rfl ?_
      refine sq_skip rfl ?_
      refine sqv rfl (yv_pick_t rfl rfl rfl) ?_
      refine jl_nil ?_
      refine jx_then_n ?_
      exact nj_weak (hj0 true h) ⟨rfl, rfl, rfl, rfl, rfl, trivial⟩ (.cons de1 .nil) .nil
    ·
     replace h := brT h
     refine sq_skip rfl ?_
     refine sq_skip rfl ?_
     refine sq_skip rfl ?_
     refine sq_skip rfl ?_
     refine sqv rfl (yv_pick_t rfl rfl rfl) ?_
     refine sqv rfl (yv_move rfl rfl) ?_
     refine sq_skip rfl ?_
     refine sq_skip rfl ?_
     refine sq_skip rfl ?_
     refine sq_skip rfl ?_
     refine sq_skip rfl ?_
     refine sq_skip rfl ?_
     refine sq_skip rfl ?_
     refine sqv rfl (yv_pick_t rfl rfl rfl) ?_
     refine jl_nil ?_
     refine jx_then_n ?_
     exact nj_weak (hj0 true h) ⟨rfl, rfl, rfl, rfl, rfl, trivial⟩ (.cons de1 .nil) .nil
 exact nj_weak (key0 FUEL 0 h) ⟨rfl, rfl, rfl, rfl, trivial⟩ (.cons de0 .nil) .nil
theorem F162_c {p0 : SView} {p1 : Int} {r : Bool} (h : F162 p0 p1 = some r) (w0 : World) (O0 : Nat → Prop) (hO : ∀ k, O0 k → k < w0.heap.size) :
  CallsP Tryz.prog 162 (List.toArray [ag (tySView.enc p0), .int .i64 p1]) w0 O0 [] (RV (.bool r)) := by
 unfold F162 at h
 refine calls_start (e := [(0, ag (tySView.enc p0)), (1, .int .i64 p1)]) (L := []) (K := []) Tryz.func162 rfl rfl rfl ⟨rfl, rfl, trivial⟩ hO (by simp) .nil aln ?_
 refine jc_seq ?_
 refine jc_reg ?_
 refine sq rfl (so_boxa (by decide) rfl rfl rfl fun b1 => ?_)
 refine sqv rfl (yv_assign rfl rfl) ?_
 refine jl_nil ?_
 refine jx_then ?_
 refine jc_seq ?_
 refine jc_reg ?_
 refine sqv rfl (yv_move rfl rfl) ?_
 obtain ⟨x2, hx2, h⟩ := letX h
 refine sqv rfl (yxb hx2 (yv_geq rfl rfl rfl)) ?_
 refine sqv rfl (yv_move rfl rfl) ?_
 rcases x2 with _ | _
 ·
  replace h := brF h
  refine sq_skip rfl ?_
  refine sq_skip rfl ?_
  refine sqv rfl (yv_pick_f rfl rfl rfl) ?_
  refine sqv rfl (yv_move rfl rfl) ?_
  refine sq_skip rfl ?_
  refine sq_skip rfl ?_
  refine sq_skip rfl ?_
  refine sq_skip rfl ?_
  refine sq_skip rfl ?_
  refine sq_skip rfl ?_
  refine sq_skip rfl ?_
  refine sqv rfl (yv_pick_f rfl rfl rfl) ?_
  refine sqv rfl (yv_assign rfl rfl) ?_
  refine jl_nil ?_
  refine jx_then ?_
  refine jc_ret ?_
  cases h
  exact jx_ret rfl (rr_tmp rfl rr_nil) ⟨rfl, rfl, rfl, rfl⟩ .nil .nil rfl (by simp)
 ·
  replace h := brT h
  refine sqv rfl (yv_move rfl rfl) ?_
  obtain ⟨x3, hx3, h⟩ := letX h
  refine sqv rfl (yxb hx3 (yv_lss rfl rfl rfl)) ?_
  refine sqv rfl (yv_pick_t rfl rfl rfl) ?_
  refine sqv rfl (yv_move rfl rfl) ?_
  rcases x3 with _ | _
  ·
   replace h := brF h
   refine sq_skip rfl ?_
   refine sq_skip rfl ?_
   refine sq_skip rfl ?_
   refine sq_skip rfl ?_
   refine sq_skip rfl ?_
   refine sq_skip rfl ?_
   refine sq_skip rfl ?_
   refine sqv rfl (yv_pick_f rfl rfl rfl) ?_
   refine sqv rfl (yv_assign rfl rfl) ?_
   refine jl_nil ?_
   refine jx_then ?_
   refine jc_ret ?_
   cases h
   exact jx_ret rfl (rr_tmp rfl rr_nil) ⟨rfl, rfl, rfl, rfl⟩ .nil .nil rfl (by simp)
  ·
   replace h := brT h
   refine sqv rfl (yv_move rfl rfl) ?_
   refine sqv rfl (yv_fa fa64_1 rfl rfl) ?_
   refine sqv rfl (yv_fa fa61_0 rfl rfl) ?_
   obtain ⟨g4, h⟩ := gdE h
   refine sqv rfl (yv_ia ia58 rfl rfl rfl g4) ?_
   obtain ⟨x5, hx5, h⟩ := letX h
   refine sqv rfl (yxg (C := tySLeaf) hx5 (yv_ldb ti51 rfl rfl (rd_bl at0) ((((Sub.refl _).trans (SView.s1 p0)).trans (STree.s0 p0.Tree)).trans (arr_sub tySLeaf p0.Tree.Leaves p1 g4)) (Ty.len _ _) (by simp))) ?_
   refine sqv rfl (yv_build bi51 rfl rfl fills_nil) ?_
   obtain ⟨x6, hx6, h⟩ := letX h
   refine sqv rfl (yxb hx6 (yv_nea (C := tySLeaf) eq51 (by decide) eg51 rfl rfl rfl)) ?_
   refine sqv rfl (yv_pick_t rfl rfl rfl) ?_
   refine sqv rfl (yv_assign rfl rfl) ?_
   refine jl_nil ?_
   refine jx_then ?_
   refine jc_ret ?_
   cases h
   exact jx_ret rfl (rr_tmp rfl rr_nil) ⟨rfl, rfl, rfl, rfl⟩ .nil .nil rfl (by simp)
theorem F164_c {p0 : SView} {r : Int} (h : F164 p0 = some r) (w0 : World) (O0 : Nat → Prop) (hO : ∀ k, O0 k → k < w0.heap.size) :
  CallsP Tryz.prog 164 (List.toArray [ag (tySView.enc p0)]) w0 O0 [] (RV (.int .i64 r)) := by
 unfold F164 at h
 refine calls_start (e := [(0, ag (tySView.enc p0))]) (L := []) (K := []) Tryz.func164 rfl rfl rfl ⟨rfl, trivial⟩ hO (by simp) .nil aln ?_
 refine jc_seq ?_
 refine jc_reg ?_
 refine sq rfl (so_boxa (by decide) rfl rfl rfl fun b1 => ?_)
 refine sqv rfl (yv_assign rfl rfl) ?_
 refine jl_nil ?_
 refine jx_then ?_
 refine jc_seq ?_
 refine jc_reg ?_
 refine sqv rfl (yv_assign rfl rfl) ?_
 refine jl_nil ?_
 refine jx_then ?_
 refine jc_seq ?_
 refine jc_seq ?_
 refine jc_reg ?_
 refine sqv rfl (yv_fa fa64_2 rfl rfl) ?_
 obtain ⟨x2, hx2, h⟩ := letX h
 refine sqv rfl (yxg (C := (Ty.arr 8 tyB)) hx2 (yv_ldb ti62 rfl rfl (rd_bl at0) ((Sub.refl _).trans (SView.s2 p0)) (Ty.len _ _) (by simp))) ?_
 refine sqv rfl (yv_move rfl rfl) ?_
 refine jl_nil ?_
 refine jx_then ?_
 refine jc_block ?_
 refine jc_loop ?_
 intro B0 Q0 hB0 hQ0
 have key0 : ∀ (k0 : Nat) (j32 : Int) (j33 : Int), F164_l0 x2 p0 k0 j32 j33 = some r → JW 24 w0 O0 [] Tryz.prog B0 Q0 [(1, pt b1 0), (2, .int .i64 0), (3, .int .i64 j32), (7, ag ((Ty.arr 8 tyB).enc x2)), (8, .int .i64 j33)] [.blk b1 64 (tySView.enc p0)] [] := by
  intro k0
  induction k0 with
  | zero => intro j32 j33 h; cases h
  | succ k0 ih0 =>
   intro j32 j33 h
   unfold F164_l0 at h
   refine jw_round hB0 ?_
   refine jc_seq ?_
   refine jc_reg ?_
   obtain ⟨x34, hx34, h⟩ := letX h
   refine sqv rfl (yxb hx34 (yv_lss rfl rfl rfl)) ?_
   refine jl_nil ?_
   refine jx_then ?_
   refine jc_seq ?_
   rcases x34 with _ | _
   ·
    replace h := brF h
    refine jc_f rfl ?_
    refine jc_exit ?_
    refine jx_te ?_
    refine jx_te ?_
    refine jx_abs hQ0 ?_
    refine jx_hit ?_
    refine jx_then ?_
    refine jc_seq ?_
    refine jc_reg ?_
    refine sqv rfl (yv_move rfl rfl) ?_
    refine sqv rfl (yv_assign rfl rfl) ?_
    refine jl_nil ?_
    refine jx_then ?_
    refine jc_ret ?_
    cases h
    exact jx_ret rfl (rr_tmp rfl rr_nil) ⟨rfl, rfl, rfl, rfl⟩ .nil .nil rfl (by simp)
   ·
    replace h := brT h
    refine jc_t rfl ?_
    refine jc_skip ?_
    refine jx_then ?_
    refine jc_seq_n ?_
    intro N0 hN0
    have hj0 : ∀ (j46 : Int), F164_j0 j33 (F164_l0 x2 p0 k0) j46 = some r → NJ 24 w0 O0 [] N0 [(1, pt b1 0), (2, .int .i64 0), (3, .int .i64 j46), (7, ag ((Ty.arr 8 tyB).enc x2)), (8, .int .i64 j33)] [.blk b1 64 (tySView.enc p0)] [] := by
     intro j46 h
     unfold F164_j0 at h
     refine nj_abs hN0 ?_
     refine jc_reg ?_
     obtain ⟨x1_47, hx1_47, h⟩ := letX h
     refine sqv rfl (yxi hx1_47 (yv_add rfl rfl rfl)) ?_
     refine sqv rfl (yv_move rfl rfl) ?_
     refine jl_nil ?_
     refine jx_again ?_
     exact nj_weak (ih0 j46 x1_47 h) ⟨rfl, rfl, rfl, rfl, rfl, trivial⟩ (.cons de0 .nil) .nil
    refine jc_block ?_
    refine jc_seq ?_
    refine jc_reg ?_
    refine sqv rfl (yv_move rfl rfl) ?_
    obtain ⟨g37, h⟩ := gdE h
    obtain ⟨x38, hx38, h⟩ := letX h
    refine sqv rfl (yxb hx38 (yv_index (g := false) (ys := tyB.enc (vat x2 j33)) Tryz.underlying62 ti4 rfl rfl rfl g37 (arr_sub tyB _ _ g37) (Ty.len _ _) (fun _ => rfl))) ?_
    refine sqv rfl (yv_assign rfl rfl) ?_
    refine sqv rfl (yv_assign rfl rfl) ?_
    refine jl_nil ?_
    refine jx_then ?_
    refine jc_seq ?_
    refine jc_seq_n ?_
    intro N1 hN1
    have hj1 : ∀ (j43 : Bool) (j44 : Bool), F164_j1 j32 j33 (F164_l0 x2 p0 k0) j43 j44 = some r → NJ 24 w0 O0 [] N1 [(1, pt b1 0), (2, .int .i64 0), (3, .int .i64 j32), (5, .bool j43), (7, ag ((Ty.arr 8 tyB).enc x2)), (8, .int .i64 j33), (18, .bool j44)] [.blk b1 64 (tySView.enc p0)] [] := by
     intro j43 j44 h
     unfold F164_j1 at h
     refine nj_abs hN1 ?_
     rcases j44 with _ | _
     ·
      replace h := brF h
      refine jc_f rfl ?_
      refine jc_skip ?_
      refine jx_then ?_
      refine jc_seq ?_
      refine jc_reg ?_
      refine sqv rfl (yv_move rfl rfl) ?_
      refine jl_nil ?_
      refine jx_then ?_
      rcases j43 with _ | _
      ·
       replace h := brF h
       refine jc_f rfl ?_
       refine jc_skip ?_
       refine jx_blk ?_
       refine jx_then_n ?_
       exact nj_weak (hj0 j32 h) ⟨rfl, rfl, rfl, rfl, rfl, trivial⟩ (.cons de0 .nil) .nil
      ·
       replace h := brT h
       refine jc_t rfl ?_
       refine jc_reg ?_
       refine sqv rfl (yv_move rfl rfl) ?_
       obtain ⟨x4_45, hx4_45, h⟩ := letX h
       refine sqv rfl (yxi hx4_45 (yv_add rfl rfl rfl)) ?_
       refine sqv rfl (yv_assign rfl rfl) ?_
       refine jl_nil ?_
       refine jx_blk ?_
       refine jx_then_n ?_
       exact nj_weak (hj0 x4_45 h) ⟨rfl, rfl, rfl, rfl, rfl, trivial⟩ (.cons de0 .nil) .nil
     ·
      replace h := brT h
      refine jc_t rfl ?_
      refine jc_seq ?_
      refine jc_reg ?_
      refine sqv rfl (yv_assign rfl rfl) ?_
      refine jl_nil ?_
      refine jx_then ?_
      refine jc_ret ?_
      refine jx_tr ?_
      refine jx_br ?_
      refine jx_tr ?_
      refine jx_tr ?_
      refine jx_abs hQ0 ?_
      refine jx_br ?_
      refine jx_tr ?_
      cases h
      exact jx_ret rfl (rr_tmp rfl rr_nil) ⟨rfl, rfl, rfl, rfl⟩ .nil .nil rfl (by simp)
    refine jc_reg ?_
    refine sqv rfl (yv_move rfl rfl) ?_
    refine sqv rfl (yv_move rfl rfl) ?_
    rcases x38 with _ | _
    ·
     replace h := brF h
     refine sq_skip rfl ?_
     refine sq_skip rfl ?_
     refine sq_skip rfl ?_
     refine sq_skip rfl ?_
     refine sqv rfl (yv_pick_f rfl rfl rfl) ?_
     refine jl_nil ?_
     refine jx_then_n ?_
     exact nj_weak (hj1 false false h) ⟨rfl, rfl, rfl, rfl, rfl, rfl, rfl, trivial⟩ (.cons de0 .nil) .nil
    ·
     replace h := brT h
     refine sqv rfl (yv_ldb ti64 rfl rfl (rd_bl at0) (Sub.refl _) (Ty.len _ _) (by simp)) ?_
     refine sqv rfl (yv_move rfl rfl) ?_
     obtain ⟨y39, hy39, h⟩ := bdE h
     refine sq rfl (so_callv pf162 rfl rfl rfl rfl (fun σ hs => F162_c hy39 σ.w σ.O hs.olt) ?_)
     obtain ⟨x40, hx40, h⟩ := letX h
     refine sqv rfl (yxb hx40 (yv_not rfl rfl)) ?_
     refine sqv rfl (yv_pick_t rfl rfl rfl) ?_
     refine jl_nil ?_
     refine jx_then_n ?_
     exact nj_weak (hj1 true x40 h) ⟨rfl, rfl, rfl, rfl, rfl, rfl, rfl, trivial⟩ (.cons de0 .nil) .nil
 exact nj_weak (key0 FUEL 0 0 h) ⟨rfl, rfl, rfl, rfl, rfl, trivial⟩ (.cons de0 .nil) .nil
theorem F160_c {p0 : SView} {r : Bool} (h : F160 p0 = some r) (w0 : World) (O0 : Nat → Prop) (hO : ∀ k, O0 k → k < w0.heap.size) :
  CallsP Tryz.prog 160 (List.toArray [ag (tySView.enc p0)]) w0 O0 [] (RV (.bool r)) := by
 unfold F160 at h
 refine calls_start (e := [(0, ag (tySView.enc p0))]) (L := []) (K := []) Tryz.func160 rfl rfl rfl ⟨rfl, trivial⟩ hO (by simp) .nil aln ?_
 refine jc_seq ?_
 refine jc_reg ?_
 refine sq rfl (so_boxa (by decide) rfl rfl rfl fun b1 => ?_)
 refine sqv rfl (yv_assign rfl rfl) ?_
 refine jl_nil ?_
 refine jx_then ?_
 refine jc_seq ?_
 refine jc_regd (k := 26) hmix rfl [([], .blk b1 64 (tySView.enc p0))] [] (.cons at0 .nil) .nil ?_
 refine tk (i := 0) rfl (by kernel_rfl) rfl (yv_fa fa64_0 rfl rfl) .nil .nil ?_
 obtain ⟨x2, hx2, h⟩ := letX h
 refine tk (i := 1) rfl (by kernel_rfl) rfl (yxi hx2 (yv_ldb ti3 rfl rfl (rd_bl at0) ((Sub.refl _).trans (SView.s0 p0)) (Ty.len _ _) (fun _ => rfl))) (.cons at0 (by kernel_rfl) .nil) .nil ?_
 obtain ⟨x3, hx3, h⟩ := letX h
 refine tk (i := 2) rfl (by kernel_rfl) rfl (yxb hx3 (yv_geq rfl rfl rfl)) .nil .nil ?_
 refine tk (i := 3) rfl (by kernel_rfl) rfl (yv_move rfl rfl) .nil .nil ?_
 rcases x3 with _ | _
 ·
  replace h := brF h
  refine tk_skip (i := 4) rfl (by kernel_rfl) rfl ?_
  refine tk_skip (i := 5) rfl (by kernel_rfl) rfl ?_
  refine tk_skip (i := 6) rfl (by kernel_rfl) rfl ?_
  refine tk (i := 7) rfl (by kernel_rfl) rfl (yv_pick_f rfl rfl rfl) .nil .nil ?_
  refine tk (i := 8) rfl (by kernel_rfl) rfl (yv_move rfl rfl) .nil .nil ?_
  refine tk_skip (i := 9) rfl (by kernel_rfl) rfl ?_
  refine tk_skip (i := 10) rfl (by kernel_rfl) rfl ?_
  refine tk_skip (i := 11) rfl (by kernel_rfl) rfl ?_
  refine tk (i := 12) rfl (by kernel_rfl) rfl (yv_pick_f rfl rfl rfl) .nil .nil ?_
  refine tk (i := 13) rfl (by kernel_rfl) rfl (yv_move rfl rfl) .nil .nil ?_
  refine tk_skip (i := 14) rfl (by kernel_rfl) rfl ?_
  refine tk_skip (i := 15) rfl (by kernel_rfl) rfl ?_
  refine tk_skip (i := 16) rfl (by kernel_rfl) rfl ?_
  refine tk (i := 17) rfl (by kernel_rfl) rfl (yv_pick_f rfl rfl rfl) .nil .nil ?_
  refine tk (i := 18) rfl (by kernel_rfl) rfl (yv_move rfl rfl) .nil .nil ?_
  refine tk_skip (i := 19) rfl (by kernel_rfl) rfl ?_
  refine tk_skip (i := 20) rfl (by kernel_rfl) rfl ?_
  refine tk_skip (i := 21) rfl (by kernel_rfl) rfl ?_
  refine tk_skip (i := 22) rfl (by kernel_rfl) rfl ?_
  refine tk_skip (i := 23) rfl (by kernel_rfl) rfl ?_
  refine tk (i := 24) rfl (by kernel_rfl) rfl (yv_pick_f rfl rfl rfl) .nil .nil ?_
  refine tk (i := 25) rfl (by kernel_rfl) rfl (yv_assign rfl rfl) .nil .nil ?_
  refine jg_nil (by kernel_rfl) ?_
  refine jx_then ?_
  refine jc_ret ?_
  cases h
  exact jx_ret rfl (rr_tmp rfl rr_nil) ⟨rfl, rfl, rfl, rfl⟩ .nil .nil rfl (by simp)
 ·
  replace h := brT h
  refine tk (i := 4) rfl (by kernel_rfl) rfl (yv_fa fa64_0 rfl rfl) .nil .nil ?_
  obtain ⟨x4, hx4, h⟩ := letX h
  refine tk (i := 5) rfl (by kernel_rfl) rfl (yxi hx4 (yv_ldb ti3 rfl rfl (rd_bl at0) ((Sub.refl _).trans (SView.s0 p0)) (Ty.len _ _) (fun _ => rfl))) (.cons at0 (by kernel_rfl) .nil) .nil ?_
  obtain ⟨x5, hx5, h⟩ := letX h
  refine tk (i := 6) rfl (by kernel_rfl) rfl (yxb hx5 (yv_leq rfl rfl rfl)) .nil .nil ?_
  refine tk (i := 7) rfl (by kernel_rfl) rfl (yv_pick_t rfl rfl rfl) .nil .nil ?_
  refine tk (i := 8) rfl (by kernel_rfl) rfl (yv_move rfl rfl) .nil .nil ?_
  rcases x5 with _ | _
  ·
   replace h := brF h
   refine tk_skip (i := 9) rfl (by kernel_rfl) rfl ?_
   refine tk_skip (i := 10) rfl (by kernel_rfl) rfl ?_
   refine tk_skip (i := 11) rfl (by kernel_rfl) rfl ?_
   refine tk (i := 12) rfl (by kernel_rfl) rfl (yv_pick_f rfl rfl rfl) .nil .nil ?_
   refine tk (i := 13) rfl (by kernel_rfl) rfl (yv_move rfl rfl) .nil .nil ?_
   refine tk_skip (i := 14) rfl (by kernel_rfl) rfl ?_
   refine tk_skip (i := 15) rfl (by kernel_rfl) rfl ?_
   refine tk_skip (i := 16) rfl (by kernel_rfl) rfl ?_
   refine tk (i := 17) rfl (by kernel_rfl) rfl (yv_pick_f rfl rfl rfl) .nil .nil ?_
   refine tk (i := 18) rfl (by kernel_rfl) rfl (yv_move rfl rfl) .nil .nil ?_
   refine tk_skip (i := 19) rfl (by kernel_rfl) rfl ?_
   refine tk_skip (i := 20) rfl (by kernel_rfl) rfl ?_
   refine tk_skip (i := 21) rfl (by kernel_rfl) rfl ?_
   refine tk_skip (i := 22) rfl (by kernel_rfl) rfl ?_
   refine tk_skip (i := 23) rfl (by kernel_rfl) rfl ?_
   refine tk (i := 24) rfl (by kernel_rfl) rfl (yv_pick_f rfl rfl rfl) .nil .nil ?_
   refine tk (i := 25) rfl (by kernel_rfl) rfl (yv_assign rfl rfl) .nil .nil ?_
   refine jg_nil (by kernel_rfl) ?_
   refine jx_then ?_
   refine jc_ret ?_
   cases h
   exact jx_ret rfl (rr_tmp rfl rr_nil) ⟨rfl, rfl, rfl, rfl⟩ .nil .nil rfl (by simp)
  ·
   replace h := brT h
   refine tk (i := 9) rfl (by kernel_rfl) rfl (yv_fa fa64_1 rfl rfl) .nil .nil ?_
   obtain ⟨x6, hx6, h⟩ := letX h
   refine tk (i := 10) rfl (by kernel_rfl) rfl (yxg (C := tySTree) hx6 (yv_ldb ti61 rfl rfl (rd_bl at0) ((Sub.refl _).trans (SView.s1 p0)) (Ty.len _ _) (by simp))) (.cons at0 (by kernel_rfl) .nil) .nil ?_
   obtain ⟨y7, hy7, h⟩ := bdE h
   refine jg_one (i := 11) (by kernel_rfl) (gst rfl rfl (so_callv pf240 rfl rfl rfl rfl (fun σ hs => F240_c hy7 σ.w σ.O hs.olt) ?_))
   refine ng (.cons at0 .nil) .nil ?_
   refine tk (i := 12) rfl (by kernel_rfl) rfl (yv_pick_t rfl rfl rfl) .nil .nil ?_
   refine tk (i := 13) rfl (by kernel_rfl) rfl (yv_move rfl rfl) .nil .nil ?_
   rcases y7 with _ | _
   ·
    replace h := brF h
    refine tk_skip (i := 14) rfl (by kernel_rfl) rfl ?_
    refine tk_skip (i := 15) rfl (by kernel_rfl) rfl ?_
    refine tk_skip (i := 16) rfl (by kernel_rfl) rfl ?_
    refine tk (i := 17) rfl (by kernel_rfl) rfl (yv_pick_f rfl rfl rfl) .nil .nil ?_
    refine tk (i := 18) rfl (by kernel_rfl) rfl (yv_move rfl rfl) .nil .nil ?_
    refine tk_skip (i := 19) rfl (by kernel_rfl) rfl ?_
    refine tk_skip (i := 20) rfl (by kernel_rfl) rfl ?_
    refine tk_skip (i := 21) rfl (by kernel_rfl) rfl ?_
    refine tk_skip (i := 22) rfl (by kernel_rfl) rfl ?_
    refine tk_skip (i := 23) rfl (by kernel_rfl) rfl ?_
    refine tk (i := 24) rfl (by kernel_rfl) rfl (yv_pick_f rfl rfl rfl) .nil .nil ?_
    refine tk (i := 25) rfl (by kernel_rfl) rfl (yv_assign rfl rfl) .nil .nil ?_
    refine jg_nil (by kernel_rfl) ?_
    refine jx_then ?_
    refine jc_ret ?_
    cases h
    exact jx_ret rfl (rr_tmp rfl rr_nil) ⟨rfl, rfl, rfl, rfl⟩ .nil .nil rfl (by simp)
   ·
    replace h := brT h
    refine tk (i := 14) rfl (by kernel_rfl) rfl (yv_fa fa64_3 rfl rfl) .nil .nil ?_
    obtain ⟨x8, hx8, h⟩ := letX h
    refine tk (i := 15) rfl (by kernel_rfl) rfl (yxi hx8 (yv_ldb ti3 rfl rfl (rd_bl at0) ((Sub.refl _).trans (SView.s3 p0)) (Ty.len _ _) (fun _ => rfl))) (.cons at0 (by kernel_rfl) .nil) .nil ?_
    obtain ⟨x9, hx9, h⟩ := letX h
    refine tk (i := 16) rfl (by kernel_rfl) rfl (yxb hx9 (yv_geq rfl rfl rfl)) .nil .nil ?_
    refine tk (i := 17) rfl (by kernel_rfl) rfl (yv_pick_t rfl rfl rfl) .nil .nil ?_
    refine tk (i := 18) rfl (by kernel_rfl) rfl (yv_move rfl rfl) .nil .nil ?_
    rcases x9 with _ | _
    ·
     replace h := brF h
     refine tk_skip (i := 19) rfl (by kernel_rfl) rfl ?_
     refine tk_skip (i := 20) rfl (by kernel_rfl) rfl ?_
     refine tk_skip (i := 21) rfl (by kernel_rfl) rfl ?_
     refine tk_skip (i := 22) rfl (by kernel_rfl) rfl ?_
     refine tk_skip (i := 23) rfl (by kernel_rfl) rfl ?_
     refine tk (i := 24) rfl (by kernel_rfl) rfl (yv_pick_f rfl rfl rfl) .nil .nil ?_
     refine tk (i := 25) rfl (by kernel_rfl) rfl (yv_assign rfl rfl) .nil .nil ?_
     refine jg_nil (by kernel_rfl) ?_
     refine jx_then ?_
     refine jc_ret ?_
     cases h
     exact jx_ret rfl (rr_tmp rfl rr_nil) ⟨rfl, rfl, rfl, rfl⟩ .nil .nil rfl (by simp)
    ·
     replace h := brT h
     refine tk (i := 19) rfl (by kernel_rfl) rfl (yv_fa fa64_3 rfl rfl) .nil .nil ?_
     obtain ⟨x10, hx10, h⟩ := letX h
     refine tk (i := 20) rfl (by kernel_rfl) rfl (yxi hx10 (yv_ldb ti3 rfl rfl (rd_bl at0) ((Sub.refl _).trans (SView.s3 p0)) (Ty.len _ _) (fun _ => rfl))) (.cons at0 (by kernel_rfl) .nil) .nil ?_
     refine tk (i := 21) rfl (by kernel_rfl) rfl (yv_ldb ti64 rfl rfl (rd_bl at0) (Sub.refl _) (Ty.len _ _) (by simp)) (.cons at0 (by kernel_rfl) .nil) .nil ?_
     obtain ⟨y11, hy11, h⟩ := bdE h
     refine jg_one (i := 22) (by kernel_rfl) (gst rfl rfl (so_callv pf164 rfl rfl rfl rfl (fun σ hs => F164_c hy11 σ.w σ.O hs.olt) ?_))
     refine ng (.cons at0 .nil) .nil ?_
     obtain ⟨x12, hx12, h⟩ := letX h
     refine tk (i := 23) rfl (by kernel_rfl) rfl (yxb hx12 (yv_leq rfl rfl rfl)) .nil .nil ?_
     refine tk (i := 24) rfl (by kernel_rfl) rfl (yv_pick_t rfl rfl rfl) .nil .nil ?_
     refine tk (i := 25) rfl (by kernel_rfl) rfl (yv_assign rfl rfl) .nil .nil ?_
     refine jg_nil (by kernel_rfl) ?_
     refine jx_then ?_
     refine jc_ret ?_
     cases h
     exact jx_ret rfl (rr_tmp rfl rr_nil) ⟨rfl, rfl, rfl, rfl⟩ .nil .nil rfl (by simp)
theorem F297_c {p0 : (List SLeaf)} {p1 : SLeaf} {r : Int} (h : F297 p0 p1 = some r) (w0 : World) (O0 : Nat → Prop) (hO : ∀ k, O0 k → k < w0.heap.size) (v0 : Sl) (k0 : (fa false (mRow tySLeaf) v0 p0).p ⟨w0, O0, inL []⟩) :
  CallsP Tryz.prog 297 (List.toArray [sv v0, ag (tySLeaf.enc p1)]) w0 O0 [] (RV (.int .i64 r)) := by
 unfold F297 at h
 refine calls_start (e := [(0, sv v0), (1, ag (tySLeaf.enc p1))]) (L := []) (K := [fa false (mRow tySLeaf) v0 p0]) Tryz.func297 rfl rfl rfl ⟨rfl, rfl, trivial⟩ hO (by simp) .nil (alc k0 aln) ?_
 refine jc_seq ?_
 refine jc_reg ?_
 refine sq rfl (so_boxa (by decide) rfl rfl rfl fun b1 => ?_)
 refine sqv rfl (yv_assign rfl rfl) ?_
 refine jl_nil ?_
 refine jx_then ?_
 refine jc_seq ?_
 refine jc_seq ?_
 refine jc_reg ?_
 refine sqv rfl (yv_move rfl rfl) ?_
 obtain ⟨x2, hx2, h⟩ := letX h
 refine sqv rfl (yv_len isl342 rfl rfl (rd_f at0) hx2) ?_
 refine sqv rfl (yv_move rfl rfl) ?_
 refine jl_nil ?_
 refine jx_then ?_
 refine jc_block ?_
 refine jc_loop ?_
 intro B0 Q0 hB0 hQ0
 have key0 : ∀ (k0 : Nat) (j36 : Int), F297_l0 x2 p0 p1 k0 j36 = some r → JW 19 w0 O0 [] Tryz.prog B0 Q0 [(0, sv v0), (3, pt b1 0), (4, .int .i64 0), (7, .int .i64 x2), (8, .int .i64 j36)] [.blk b1 51 (tySLeaf.enc p1)] [fa false (mRow tySLeaf) v0 p0] := by
  intro k0
  induction k0 with
  | zero => intro j36 h; cases h
  | succ k0 ih0 =>
   intro j36 h
   unfold F297_l0 at h
   refine jw_round hB0 ?_
   refine jc_seq ?_
   refine jc_reg ?_
   obtain ⟨x37, hx37, h⟩ := letX h
   refine sqv rfl (yxb hx37 (yv_lss rfl rfl rfl)) ?_
   refine jl_nil ?_
   refine jx_then ?_
   refine jc_seq ?_
   rcases x37 with _ | _
   ·
    replace h := brF h
    refine jc_f rfl ?_
    refine jc_exit ?_
    refine jx_te ?_
    refine jx_te ?_
    refine jx_abs hQ0 ?_
    refine jx_hit ?_
    refine jx_then ?_
    refine jc_seq ?_
    refine jc_reg ?_
    refine sqv rfl (yv_assign rfl rfl) ?_
    refine jl_nil ?_
    refine jx_then ?_
    refine jc_ret ?_
    cases h
    exact jx_ret rfl (rr_tmp rfl rr_nil) ⟨rfl, rfl, rfl, rfl⟩ .nil .nil rfl (by simp)
   ·
    replace h := brT h
    refine jc_t rfl ?_
    refine jc_skip ?_
    refine jx_then ?_
    refine jc_seq ?_
    refine jc_block ?_
    refine jc_seq ?_
    refine jc_reg ?_
    refine sqv rfl (yv_move rfl rfl) ?_
    refine sqv rfl (yv_assign rfl rfl) ?_
    refine jl_nil ?_
    refine jx_then ?_
    refine jc_seq ?_
    refine jc_regd (k := 6) hmix rfl [([], .blk b1 51 (tySLeaf.enc p1))] [fa false (mRow tySLeaf) v0 p0] (.cons at0 .nil) (.cons at0 .nil) ?_
    refine tk (i := 0) rfl (by kernel_rfl) rfl (yv_ldb ti51 rfl rfl (rd_bl at0) (Sub.refl _) (Ty.len _ _) (by simp)) (.cons at0 (by kernel_rfl) .nil) .nil ?_
    refine tk (i := 1) rfl (by kernel_rfl) rfl (yv_move rfl rfl) .nil .nil ?_
    refine tk (i := 2) rfl (by kernel_rfl) rfl (yv_move rfl rfl) .nil .nil ?_
    obtain ⟨g47, h⟩ := gdE h
    refine nj_open (rd_f at0) g47 fun b48 o49 ha_b48 => ?_
    refine tk (i := 3) rfl (by kernel_rfl) rfl (yv_is is342 rfl rfl rfl ha_b48 (rd_f at0) g47) .nil (.cons at0 .nil) ?_
    obtain ⟨x50, hx50, h⟩ := letX h
    refine tk (i := 4) rfl (by kernel_rfl) rfl (yxg (C := tySLeaf) hx50 (yv_lds ti51 rfl rfl ha_b48 (rd_f at0) (many_sub' tySLeaf p0 j36 g47) rfl (Ty.len _ _) (by simp))) .nil (.cons at0 .nil) ?_
    obtain ⟨x51, hx51, h⟩ := letX h
    refine tk (i := 5) rfl (by kernel_rfl) rfl (yxb hx51 (yv_eqa (C := tySLeaf) eq51 (by decide) eg51 rfl rfl rfl)) .nil .nil ?_
    refine jg_nil (by kernel_rfl) ?_
    refine jx_then ?_
    rcases x51 with _ | _
    ·
     replace h := brF h
     refine jc_f rfl ?_
     refine jc_skip ?_
     refine jx_blk ?_
     refine jx_then ?_
     refine jc_reg ?_
     obtain ⟨x52, hx52, h⟩ := letX h
     refine sqv rfl (yxi hx52 (yv_add rfl rfl rfl)) ?_
     refine sqv rfl (yv_move rfl rfl) ?_
     refine jl_nil ?_
     refine jx_again ?_
     exact nj_weak (ih0 x52 h) ⟨rfl, rfl, rfl, rfl, rfl, trivial⟩ (.cons de0 .nil) (.cons at0 .nil)
    ·
     replace h := brT h
     refine jc_t rfl ?_
     refine jc_seq ?_
     refine jc_reg ?_
     refine sqv rfl (yv_move rfl rfl) ?_
     refine sqv rfl (yv_assign rfl rfl) ?_
     refine jl_nil ?_
     refine jx_then ?_
     refine jc_ret ?_
     refine jx_br ?_
     refine jx_tr ?_
     refine jx_tr ?_
     refine jx_abs hQ0 ?_
     refine jx_br ?_
     refine jx_tr ?_
     cases h
     exact jx_ret rfl (rr_tmp rfl rr_nil) ⟨rfl, rfl, rfl, rfl⟩ .nil .nil rfl (by simp)
 exact nj_weak (key0 FUEL 0 h) ⟨rfl, rfl, rfl, rfl, rfl, trivial⟩ (.cons de0 .nil) (.cons at0 .nil)
theorem F245_c {p0 : Int} {r : Bool} (h : F245 p0 = some r) (w0 : World) (O0 : Nat → Prop) (hO : ∀ k, O0 k → k < w0.heap.size) :
  CallsP Tryz.prog 245 (List.toArray [.int .i64 p0]) w0 O0 [] (RV (.bool r)) := by
 unfold F245 at h
 refine calls_start (e := [(0, .int .i64 p0)]) (L := []) (K := []) Tryz.func245 rfl rfl rfl ⟨rfl, trivial⟩ hO (by simp) .nil aln ?_
 refine jc_seq ?_
 refine jc_reg ?_
 refine sqv rfl (yv_assign rfl rfl) ?_
 refine jl_nil ?_
 refine jx_then ?_
 refine jc_seq ?_
 refine jc_reg ?_
 refine sqv rfl (yv_move rfl rfl) ?_
 obtain ⟨x1, hx1, h⟩ := letX h
 refine sqv rfl (yxb hx1 (yv_geq rfl rfl rfl)) ?_
 refine sqv rfl (yv_move rfl rfl) ?_
 rcases x1 with _ | _
 ·
  replace h := brF h
  refine sq_skip rfl ?_
  refine sq_skip rfl ?_
  refine sqv rfl (yv_pick_f rfl rfl rfl) ?_
  refine sqv rfl (yv_assign rfl rfl) ?_
  refine jl_nil ?_
  refine jx_then ?_
  refine jc_ret ?_
  cases h
  exact jx_ret rfl (rr_tmp rfl rr_nil) ⟨rfl, rfl, rfl, rfl⟩ .nil .nil rfl (by simp)
 ·
  replace h := brT h
  refine sqv rfl (yv_move rfl rfl) ?_
  obtain ⟨x2, hx2, h⟩ := letX h
  refine sqv rfl (yxb hx2 (yv_lss rfl rfl rfl)) ?_
  refine sqv rfl (yv_pick_t rfl rfl rfl) ?_
  refine sqv rfl (yv_assign rfl rfl) ?_
  refine jl_nil ?_
  refine jx_then ?_
  refine jc_ret ?_
  cases h
  exact jx_ret rfl (rr_tmp rfl rr_nil) ⟨rfl, rfl, rfl, rfl⟩ .nil .nil rfl (by simp)
theorem F246_c {p0 : Int} {p1 : Int} {r : Int} (h : F246 p0 p1 = some r) (w0 : World) (O0 : Nat → Prop) (hO : ∀ k, O0 k → k < w0.heap.size) :
  CallsP Tryz.prog 246 (List.toArray [.int .i64 p0, .int .i64 p1]) w0 O0 [] (RV (.int .i64 r)) := by
 unfold F246 at h
 refine calls_start (e := [(0, .int .i64 p0), (1, .int .i64 p1)]) (L := []) (K := []) Tryz.func246 rfl rfl rfl ⟨rfl, rfl, trivial⟩ hO (by simp) .nil aln ?_
 refine jc_seq ?_
 refine jc_reg ?_
 refine sqv rfl (yv_assign rfl rfl) ?_
 refine jl_nil ?_
 refine jx_then ?_
 refine jc_seq ?_
 refine jc_reg ?_
 refine sqv rfl (yv_move rfl rfl) ?_
 obtain ⟨g1, h⟩ := gdE h
 obtain ⟨x2, hx2, h⟩ := letX h
 refine sqv rfl (yxi hx2 (yv_shl rfl rfl rfl g1)) ?_
 refine sqv rfl (yv_assign rfl rfl) ?_
 refine jl_nil ?_
 refine jx_then ?_
 refine jc_seq ?_
 refine jc_reg ?_
 refine sqv rfl (yv_move rfl rfl) ?_
 refine sqv rfl (yv_move rfl rfl) ?_
 obtain ⟨x3, hx3, h⟩ := letX h
 refine sqv rfl (yxi hx3 (yv_sub rfl rfl rfl)) ?_
 obtain ⟨x4, hx4, h⟩ := letX h
 refine sqv rfl (yxi hx4 (yv_clr rfl rfl rfl)) ?_
 obtain ⟨x5, hx5, h⟩ := letX h
 refine sqv rfl (yxi hx5 (yv_mul rfl rfl rfl)) ?_
 refine sqv rfl (yv_move rfl rfl) ?_
 obtain ⟨x6, hx6, h⟩ := letX h
 refine sqv rfl (yxi hx6 (yv_add rfl rfl rfl)) ?_
 obtain ⟨x7, hx7, h⟩ := letX h
 refine sqv rfl (yxi hx7 (yv_sub rfl rfl rfl)) ?_
 refine sqv rfl (yv_assign rfl rfl) ?_
 refine jl_nil ?_
 refine jx_then ?_
 refine jc_ret ?_
 cases h
 exact jx_ret rfl (rr_tmp rfl rr_nil) ⟨rfl, rfl, rfl, rfl⟩ .nil .nil rfl (by simp)
theorem F166_c {p0 : Int} {r : (Vector Int 3)} (h : F166 p0 = some r) (w0 : World) (O0 : Nat → Prop) (hO : ∀ k, O0 k → k < w0.heap.size) :
  CallsP Tryz.prog 166 (List.toArray [.int .i64 p0]) w0 O0 [] (RV (ag ((Ty.arr 3 (tyI .i64)).enc r))) := by
 unfold F166 at h
 refine calls_start (e := [(0, .int .i64 p0)]) (L := []) (K := []) Tryz.func166 rfl rfl rfl ⟨rfl, trivial⟩ hO (by simp) .nil aln ?_
 refine jc_seq ?_
 refine jc_reg ?_
 refine sq rfl (so_alloc ti33 (by decide) rfl rfl fun b1 => ?_)
 refine jl_nil ?_
 refine jx_then ?_
 refine jc_seq ?_
 refine jc_reg ?_
 refine sq rfl (so_alloc ti33 (by decide) rfl rfl fun b2 => ?_)
 refine jl_nil ?_
 refine jx_then ?_
 refine jc_seq ?_
 refine jc_seq ?_
 refine jc_reg ?_
 refine sqv rfl (yv_move rfl rfl) ?_
 refine jl_nil ?_
 refine jx_then ?_
 refine jc_block ?_
 refine jc_loop ?_
 intro B0 Q0 hB0 hQ0
 have key0 : ∀ (k0 : Nat) (j28 : Int) (j29 : (Vector Int 3)), F166_l0 p0 k0 j28 j29 = some r → JW 18 w0 O0 [] Tryz.prog B0 Q0 [(0, .int .i64 p0), (2, pt b1 0), (3, pt b2 0), (5, .int .i64 j28)] [.blk b2 33 ((Ty.arr 3 (tyI .i64)).enc j29), .blk b1 33 ((Ty.arr 3 (tyI .i64)).enc (Vector.replicate 3 (0 : Int)))] [] := by
  intro k0
  induction k0 with
  | zero => intro j28 j29 h; cases h
  | succ k0 ih0 =>
   intro j28 j29 h
   unfold F166_l0 at h
   refine jw_round hB0 ?_
   refine jc_seq ?_
   refine jc_reg ?_
   obtain ⟨x30, hx30, h⟩ := letX h
   refine sqv rfl (yxb hx30 (yv_lss rfl rfl rfl)) ?_
   refine jl_nil ?_
   refine jx_then ?_
   refine jc_seq ?_
   rcases x30 with _ | _
   ·
    replace h := brF h
    refine jc_f rfl ?_
    refine jc_exit ?_
    refine jx_te ?_
    refine jx_te ?_
    refine jx_abs hQ0 ?_
    refine jx_hit ?_
    refine jx_then ?_
    refine jc_seq ?_
    refine jc_reg ?_
    refine sqv rfl (yv_ldb ti33 rfl rfl (rd_bl at0) (Sub.refl _) (Ty.len _ _) (by simp)) ?_
    refine sq rfl (so_sta ti33 rfl rfl rfl rfl (Upd.refl (by simp [Ty.len])) (Ty.len _ _) (Ty.one _ _) (xs' := (Ty.arr 3 (tyI .i64)).enc j29) se1 ?_)
    refine jl_nil ?_
    refine jx_then ?_
    refine jc_ret ?_
    cases h
    exact jx_ret rfl (rr_cella ti33 rfl at1 (Ty.len _ _) rr_nil) ⟨rfl, rfl, rfl, rfl⟩ .nil .nil rfl (by simp)
   ·
    replace h := brT h
    refine jc_t rfl ?_
    refine jc_skip ?_
    refine jx_then ?_
    refine jc_seq_n ?_
    intro N0 hN0
    have hj0 : ∀ (j40 : (Vector Int 3)), F166_j0 j28 (F166_l0 p0 k0) j40 = some r → NJ 18 w0 O0 [] N0 [(0, .int .i64 p0), (2, pt b1 0), (3, pt b2 0), (5, .int .i64 j28)] [.blk b2 33 ((Ty.arr 3 (tyI .i64)).enc j40), .blk b1 33 ((Ty.arr 3 (tyI .i64)).enc (Vector.replicate 3 (0 : Int)))] [] := by
     intro j40 h
     unfold F166_j0 at h
     refine nj_abs hN0 ?_
     refine jc_reg ?_
     obtain ⟨x1_41, hx1_41, h⟩ := letX h
     refine sqv rfl (yxi hx1_41 (yv_add rfl rfl rfl)) ?_
     refine sqv rfl (yv_move rfl rfl) ?_
     refine jl_nil ?_
     refine jx_again ?_
     exact nj_weak (ih0 x1_41 j40 h) ⟨rfl, rfl, rfl, rfl, trivial⟩ (.cons de0 (.cons de0 .nil)) .nil
    refine jc_block ?_
    refine jc_seq ?_
    refine jc_reg ?_
    refine sqv rfl (yv_move rfl rfl) ?_
    refine sqv rfl (yv_assign rfl rfl) ?_
    refine jl_nil ?_
    refine jx_then ?_
    refine jc_seq ?_
    refine jc_reg ?_
    refine sqv rfl (yv_move rfl rfl) ?_
    obtain ⟨y33, hy33, h⟩ := bdE h
    refine sq rfl (so_callv pf245 rfl rfl rfl rfl (fun σ hs => F245_c hy33 σ.w σ.O hs.olt) ?_)
    refine jl_nil ?_
    refine jx_then ?_
    rcases y33 with _ | _
    ·
     replace h := brF h
     refine jc_f rfl ?_
     refine jc_skip ?_
     refine jx_blk ?_
     refine jx_then_n ?_
     exact nj_weak (hj0 j29 h) ⟨rfl, rfl, rfl, rfl, trivial⟩ (.cons de0 (.cons de0 .nil)) .nil
    ·
     replace h := brT h
     refine jc_t rfl ?_
     refine jc_reg ?_
     refine sqv rfl (yv_move rfl rfl) ?_
     refine sqv rfl (yv_move rfl rfl) ?_
     refine sqv rfl (yv_move rfl rfl) ?_
     obtain ⟨x34, hx34, h⟩ := letX h
     refine sqv rfl (yxi hx34 (yv_add rfl rfl rfl)) ?_
     obtain ⟨y35, hy35, h⟩ := bdE h
     refine sq rfl (so_callv pf246 rfl rfl rfl rfl (fun σ hs => F246_c hy35 σ.w σ.O hs.olt) ?_)
     obtain ⟨g36, h⟩ := gdE h
     refine sqv rfl (yv_ia ia33 rfl rfl rfl g36) ?_
     obtain ⟨c37, hc37, h⟩ := letX h
     refine sq rfl (so_st1X (D := (Ty.arr 3 (tyI .i64))) hc37 ti3 rfl rfl rfl rfl rfl (Upd.comp (Sub.refl _) (arr_upd (tyI .i64) j29 j28 y35 g36) (Upd.refl (by simp [Ty.len]))) se0 ?_)
     refine jl_nil ?_
     refine jx_blk ?_
     refine jx_then_n ?_
     exact nj_weak (hj0 c37 h) ⟨rfl, rfl, rfl, rfl, trivial⟩ (.cons de0 (.cons de0 .nil)) .nil
 exact nj_weak (key0 FUEL 0 (Vector.replicate 3 (0 : Int)) h) ⟨rfl, rfl, rfl, rfl, trivial⟩ (.cons de0 (.cons de0 .nil)) .nil
theorem F298_c {p0 : STree} {p1 : Int} {p2 : SLeaf} {r : STree} (h : F298 p0 p1 p2 = some r) (w0 : World) (O0 : Nat → Prop) (hO : ∀ k, O0 k → k < w0.heap.size) :
  CallsP Tryz.prog 298 (List.toArray [ag (tySTree.enc p0), .int .i64 p1, ag (tySLeaf.enc p2)]) w0 O0 [] (RV (ag (tySTree.enc r))) := by
 unfold F298 at h
 refine calls_start (e := [(0, ag (tySTree.enc p0)), (1, .int .i64 p1), (2, ag (tySLeaf.enc p2))]) (L := []) (K := []) Tryz.func298 rfl rfl rfl ⟨rfl, rfl, rfl, trivial⟩ hO (by simp) .nil aln ?_
 refine jc_seq ?_
 refine jc_reg ?_
 refine sq rfl (so_boxa (by decide) rfl rfl rfl fun b1 => ?_)
 refine sq rfl (so_boxa (by decide) rfl rfl rfl fun b2 => ?_)
 refine sq rfl (so_alloc ti61 (by decide) rfl rfl fun b3 => ?_)
 refine jl_nil ?_
 refine jx_then ?_
 refine jc_seq ?_
 refine jc_seq ?_
 refine jc_reg ?_
 refine sqv rfl (yv_move rfl rfl) ?_
 obtain ⟨y4, hy4, h⟩ := bdE h
 refine sq rfl (so_callv pf245 rfl rfl rfl rfl (fun σ hs => F245_c hy4 σ.w σ.O hs.olt) ?_)
 obtain ⟨x5, hx5, h⟩ := letX h
 refine sqv rfl (yxb hx5 (yv_not rfl rfl)) ?_
 refine jl_nil ?_
 refine jx_then ?_
 rcases x5 with _ | _
 ·
  replace h := brF h
  refine jc_f rfl ?_
  refine jc_skip ?_
  refine jx_then ?_
  refine jc_seq ?_
  refine jc_reg ?_
  refine sqv rfl (yv_move rfl rfl) ?_
  refine sqv rfl (yv_ldb ti51 rfl rfl (rd_bl at1) (Sub.refl _) (Ty.len _ _) (by simp)) ?_
  refine sqv rfl (yv_fa fa61_0 rfl rfl) ?_
  obtain ⟨g8, h⟩ := gdE h
  refine sqv rfl (yv_ia ia58 rfl rfl rfl g8) ?_
  obtain ⟨c9, hc9, h⟩ := letX h
  refine sq rfl (so_staX (D := tySTree) hc9 ti51 rfl rfl rfl rfl (Upd.comp ((Sub.refl _).trans (STree.s0 p0)) (arr_upd tySLeaf p0.Leaves p1 p2 g8) (Upd.comp (Sub.refl _) (STree.u0 p0 (vup p0.Leaves p1 p2)) (Upd.refl (by simp [Ty.len])))) (Ty.len _ _) (Ty.one _ _) se2 ?_)
  refine jl_nil ?_
  refine jx_then ?_
  refine jc_seq ?_
  refine jc_seq ?_
  refine jc_reg ?_
  refine sqv rfl (yv_move rfl rfl) ?_
  obtain ⟨y10, hy10, h⟩ := bdE h
  refine sq rfl (so_callv pf166 rfl rfl rfl rfl (fun σ hs => F166_c hy10 σ.w σ.O hs.olt) ?_)
  refine sqv rfl (yv_move rfl rfl) ?_
  refine jl_nil ?_
  refine jx_then ?_
  refine jc_block ?_
  refine jc_loop ?_
  intro B0 Q0 hB0 hQ0
  have key0 : ∀ (k0 : Nat) (j37 : Int) (j38 : STree), F298_l0 y10 k0 j37 j38 = some r → JW 27 w0 O0 [] Tryz.prog B0 Q0 [(3, pt b1 0), (6, pt b3 0), (18, ag ((Ty.arr 3 (tyI .i64)).enc y10)), (19, .int .i64 j37)] [.blk b3 61 (tySTree.enc STree.zero), .blk b1 61 (tySTree.enc j38)] [] := by
   intro k0
   induction k0 with
   | zero => intro j37 j38 h; cases h
   | succ k0 ih0 =>
    intro j37 j38 h
    unfold F298_l0 at h
    refine jw_round hB0 ?_
    refine jc_seq ?_
    refine jc_reg ?_
    obtain ⟨x39, hx39, h⟩ := letX h
    refine sqv rfl (yxb hx39 (yv_lss rfl rfl rfl)) ?_
    refine jl_nil ?_
    refine jx_then ?_
    refine jc_seq ?_
    rcases x39 with _ | _
    ·
     replace h := brF h
     refine jc_f rfl ?_
     refine jc_exit ?_
     refine jx_te ?_
     refine jx_te ?_
     refine jx_abs hQ0 ?_
     refine jx_hit ?_
     refine jx_then ?_
     refine jc_seq ?_
     refine jc_reg ?_
     refine sqv rfl (yv_ldb ti61 rfl rfl (rd_bl at1) (Sub.refl _) (Ty.len _ _) (by simp)) ?_
     refine sq rfl (so_sta ti61 rfl rfl rfl rfl (Upd.refl (by simp [Ty.len])) (Ty.len _ _) (Ty.one _ _) (xs' := tySTree.enc j38) se0 ?_)
     refine jl_nil ?_
     refine jx_then ?_
     refine jc_ret ?_
     cases h
     exact jx_ret rfl (rr_cella ti61 rfl at0 (Ty.len _ _) rr_nil) ⟨rfl, rfl, rfl, rfl⟩ .nil .nil rfl (by simp)
    ·
     replace h := brT h
     refine jc_t rfl ?_
     refine jc_skip ?_
     refine jx_then ?_
     refine jc_seq ?_
     refine jc_block ?_
     refine jc_seq ?_
     refine jc_reg ?_
     obtain ⟨g47, h⟩ := gdE h
     obtain ⟨x48, hx48, h⟩ := letX h
     refine sqv rfl (yxi hx48 (yv_index (g := false) (ys := (tyI .i64).enc (vat y10 j37)) Tryz.underlying33 ti3 rfl rfl rfl g47 (arr_sub (tyI .i64) _ _ g47) (Ty.len _ _) (fun _ => rfl))) ?_
     refine sqv rfl (yv_assign rfl rfl) ?_
     refine jl_nil ?_
     refine jx_then ?_
     refine jc_reg ?_
     refine sqv rfl (yv_move rfl rfl) ?_
     refine sqv rfl (yv_fa fa61_1 rfl rfl) ?_
     obtain ⟨g49, h⟩ := gdE h
     refine sqv rfl (yv_ia ia59 rfl rfl rfl g49) ?_
     obtain ⟨c50, hc50, h⟩ := letX h
     refine sq rfl (so_st1X (D := tySTree) hc50 ti3 rfl rfl rfl rfl rfl (Upd.comp ((Sub.refl _).trans (STree.s1 j38)) (arr_upd (tyI .i64) j38.Nodes x48 0 g49) (Upd.comp (Sub.refl _) (STree.u1 j38 (vup j38.Nodes x48 0)) (Upd.refl (by simp [Ty.len])))) se1 ?_)
     refine jl_nil ?_
     refine jx_blk ?_
     refine jx_then ?_
     refine jc_reg ?_
     obtain ⟨x51, hx51, h⟩ := letX h
     refine sqv rfl (yxi hx51 (yv_add rfl rfl rfl)) ?_
     refine sqv rfl (yv_move rfl rfl) ?_
     refine jl_nil ?_
     refine jx_again ?_
     exact nj_weak (ih0 x51 c50 h) ⟨rfl, rfl, rfl, rfl, trivial⟩ (.cons de0 (.cons de0 .nil)) .nil
  exact nj_weak (key0 FUEL 0 c9 h) ⟨rfl, rfl, rfl, rfl, trivial⟩ (.cons de0 (.cons de1 .nil)) .nil
 ·
  replace h := brT h
  refine jc_t rfl ?_
  refine jc_seq ?_
  refine jc_reg ?_
  refine sqv rfl (yv_build bi61 rfl rfl fills_nil) ?_
  refine sq rfl (so_sta ti61 rfl rfl rfl rfl (Upd.refl (by simp [Ty.len])) (Ty.len _ _) (Ty.one _ _) (xs' := tySTree.enc STree.zero) se0 ?_)
  refine jl_nil ?_
  refine jx_then ?_
  refine jc_ret ?_
  refine jx_tr ?_
  cases h
  exact jx_ret rfl (rr_cella ti61 rfl at0 (Ty.len _ _) rr_nil) ⟨rfl, rfl, rfl, rfl⟩ .nil .nil rfl (by simp)
theorem F295c51_c {p0 : SLeaf} {p1 : SLeaf} {r : Bool} (h : F295c51 p0 p1 = some r) (w0 : World) (O0 : Nat → Prop) (hO : ∀ k, O0 k → k < w0.heap.size) (v1 : Nat) (k0 : (fa false mBl v1 (tySLeaf.enc p1)).p ⟨w0, O0, inL []⟩) :
  CallsP Tryz.prog 295 (List.toArray [ag (tySLeaf.enc p0), pt v1 0]) w0 O0 [] (RV (.bool r)) := by
 unfold F295c51 at h
 refine calls_start (e := [(0, ag (tySLeaf.enc p0)), (1, pt v1 0)]) (L := []) (K := [fa false mBl v1 (tySLeaf.enc p1)]) Tryz.func295 rfl rfl rfl ⟨rfl, rfl, trivial⟩ hO (by simp) .nil (alc k0 aln) ?_
 refine jc_seq ?_
 refine jc_reg ?_
 refine sq rfl (so_boxa (by decide) rfl rfl rfl fun b1 => ?_)
 refine sqv rfl (yv_assign rfl rfl) ?_
 refine jl_nil ?_
 refine jx_then ?_
 refine jc_seq ?_
 refine jc_reg ?_
 refine sqv rfl (yv_fa fa51_0 rfl rfl) ?_
 obtain ⟨x2, hx2, h⟩ := letX h
 refine sqv rfl (yxi hx2 (yv_ldb ti3 rfl rfl (rd_bl at0) ((Sub.refl _).trans (SLeaf.s0 p0)) (Ty.len _ _) (fun _ => rfl))) ?_
 refine sqv rfl (yv_fa fa51_0 rfl rfl) ?_
 obtain ⟨x3, hx3, h⟩ := letX h
 refine sqv rfl (yxi hx3 (yv_ldb ti3 rfl rfl (rd_f at0) ((Sub.refl _).trans (SLeaf.s0 p1)) (Ty.len _ _) (fun _ => rfl))) ?_
 obtain ⟨x4, hx4, h⟩ := letX h
 refine sqv rfl (yxb hx4 (yv_eql rfl rfl rfl)) ?_
 refine sqv rfl (yv_assign rfl rfl) ?_
 refine jl_nil ?_
 refine jx_then ?_
 refine jc_ret ?_
 cases h
 exact jx_ret rfl (rr_tmp rfl rr_nil) ⟨rfl, rfl, rfl, rfl⟩ .nil .nil rfl (by simp)
theorem F326_295c51_c {p0 : (List SLeaf)} {p1c0 : SLeaf} {r : Int} (h : F326_295c51 p0 p1c0 = some r) (w0 : World) (O0 : Nat → Prop) (hO : ∀ k, O0 k → k < w0.heap.size) (v0 : Sl) (q1c0 : Nat) (k0 : (fa false (mRow tySLeaf) v0 p0).p ⟨w0, O0, inL []⟩) (k1 : (fa false mBl q1c0 (tySLeaf.enc p1c0)).p ⟨w0, O0, inL []⟩) :
  CallsP Tryz.prog 326 (List.toArray [sv v0, .func (.func 295) #[] #[pt q1c0 0]]) w0 O0 [] (RV (.int .i64 r)) := by
 unfold F326_295c51 at h
 refine calls_start (e := [(0, sv v0), (1, .func (.func 295) #[] #[pt q1c0 0])]) (L := []) (K := [fa false (mRow tySLeaf) v0 p0, fa false mBl q1c0 (tySLeaf.enc p1c0)]) Tryz.func326 rfl rfl rfl ⟨rfl, rfl, trivial⟩ hO (by simp) .nil (alc k0 (alc k1 aln)) ?_
 refine jc_seq ?_
 refine jc_reg ?_
 refine sqv rfl (yv_assign rfl rfl) ?_
 refine jl_nil ?_
 refine jx_then ?_
 refine jc_seq ?_
 refine jc_seq ?_
 refine jc_reg ?_
 refine sqv rfl (yv_move rfl rfl) ?_
 obtain ⟨x1, hx1, h⟩ := letX h
 refine sqv rfl (yv_len isl342 rfl rfl (rd_f at0) hx1) ?_
 refine sqv rfl (yv_move rfl rfl) ?_
 refine jl_nil ?_
 refine jx_then ?_
 refine jc_block ?_
 refine jc_loop ?_
 intro B0 Q0 hB0 hQ0
 have key0 : ∀ (k0 : Nat) (j35 : Int), F326_295c51_l0 x1 p0 p1c0 k0 j35 = some r → JW 19 w0 O0 [] Tryz.prog B0 Q0 [(0, sv v0), (1, .func (.func 295) #[] #[pt q1c0 0]), (4, .int .i64 0), (7, .int .i64 x1), (8, .int .i64 j35)] [] [fa false (mRow tySLeaf) v0 p0, fa false mBl q1c0 (tySLeaf.enc p1c0)] := by
  intro k0
  induction k0 with
  | zero => intro j35 h; cases h
  | succ k0 ih0 =>
   intro j35 h
   unfold F326_295c51_l0 at h
   refine jw_round hB0 ?_
   refine jc_seq ?_
   refine jc_reg ?_
   obtain ⟨x36, hx36, h⟩ := letX h
   refine sqv rfl (yxb hx36 (yv_lss rfl rfl rfl)) ?_
   refine jl_nil ?_
   refine jx_then ?_
   refine jc_seq ?_
   rcases x36 with _ | _
   ·
    replace h := brF h
    refine jc_f rfl ?_
    refine jc_exit ?_
    refine jx_te ?_
    refine jx_te ?_
    refine jx_abs hQ0 ?_
    refine jx_hit ?_
    refine jx_then ?_
    refine jc_seq ?_
    refine jc_reg ?_
    refine sqv rfl (yv_assign rfl rfl) ?_
    refine jl_nil ?_
    refine jx_then ?_
    refine jc_ret ?_
    cases h
    exact jx_ret rfl (rr_tmp rfl rr_nil) ⟨rfl, rfl, rfl, rfl⟩ .nil .nil rfl (by simp)
   ·
    replace h := brT h
    refine jc_t rfl ?_
    refine jc_skip ?_
    refine jx_then ?_
    refine jc_seq ?_
    refine jc_block ?_
    refine jc_seq ?_
    refine jc_reg ?_
    refine sqv rfl (yv_move rfl rfl) ?_
    refine sqv rfl (yv_assign rfl rfl) ?_
    refine jl_nil ?_
    refine jx_then ?_
    refine jc_seq ?_
    refine jc_reg ?_
    refine sqv rfl (yv_move rfl rfl) ?_
    refine sqv rfl (yv_move rfl rfl) ?_
    refine sqv rfl (yv_move rfl rfl) ?_
    obtain ⟨g46, h⟩ := gdE h
    refine nj_open (rd_f at0) g46 fun b47 o48 ha_b47 => ?_
    refine sqv rfl (yv_is is342 rfl rfl rfl ha_b47 (rd_f at0) g46) ?_
    obtain ⟨x49, hx49, h⟩ := letX h
    refine sqv rfl (yxg (C := tySLeaf) hx49 (yv_lds ti51 rfl rfl ha_b47 (rd_f at0) (many_sub' tySLeaf p0 j35 g46) rfl (Ty.len _ _) (by simp))) ?_
    obtain ⟨y50, hy50, h⟩ := bdE h
    refine sq rfl (so_callv pf295 rfl rfl rfl rfl (fun σ hs => F295c51_c hy50 σ.w σ.O hs.olt q1c0 (cw0 (rd_f at1) hs)) ?_)
    refine jl_nil ?_
    refine jx_then ?_
    rcases y50 with _ | _
    ·
     replace h := brF h
     refine jc_f rfl ?_
     refine jc_skip ?_
     refine jx_blk ?_
     refine jx_then ?_
     refine jc_reg ?_
     obtain ⟨x51, hx51, h⟩ := letX h
     refine sqv rfl (yxi hx51 (yv_add rfl rfl rfl)) ?_
     refine sqv rfl (yv_move rfl rfl) ?_
     refine jl_nil ?_
     refine jx_again ?_
     exact nj_weak (ih0 x51 h) ⟨rfl, rfl, rfl, rfl, rfl, trivial⟩ .nil (.cons at0 (.cons at1 .nil))
    ·
     replace h := brT h
     refine jc_t rfl ?_
     refine jc_seq ?_
     refine jc_reg ?_
     refine sqv rfl (yv_move rfl rfl) ?_
     refine sqv rfl (yv_assign rfl rfl) ?_
     refine jl_nil ?_
     refine jx_then ?_
     refine jc_ret ?_
     refine jx_br ?_
     refine jx_tr ?_
     refine jx_tr ?_
     refine jx_abs hQ0 ?_
     refine jx_br ?_
     refine jx_tr ?_
     cases h
     exact jx_ret rfl (rr_tmp rfl rr_nil) ⟨rfl, rfl, rfl, rfl⟩ .nil .nil rfl (by simp)
 exact nj_weak (key0 FUEL 0 h) ⟨rfl, rfl, rfl, rfl, rfl, trivial⟩ .nil (.cons at0 (.cons at1 .nil))
theorem F296_295c51_c {p0 : (List SLeaf)} {p1c0 : SLeaf} {r : Bool} (h : F296_295c51 p0 p1c0 = some r) (w0 : World) (O0 : Nat → Prop) (hO : ∀ k, O0 k → k < w0.heap.size) (v0 : Sl) (q1c0 : Nat) (k0 : (fa false (mRow tySLeaf) v0 p0).p ⟨w0, O0, inL []⟩) (k1 : (fa false mBl q1c0 (tySLeaf.enc p1c0)).p ⟨w0, O0, inL []⟩) :
  CallsP Tryz.prog 296 (List.toArray [sv v0, .func (.func 295) #[] #[pt q1c0 0]]) w0 O0 [] (RV (.bool r)) := by
 unfold F296_295c51 at h
 refine calls_start (e := [(0, sv v0), (1, .func (.func 295) #[] #[pt q1c0 0])]) (L := []) (K := [fa false (mRow tySLeaf) v0 p0, fa false mBl q1c0 (tySLeaf.enc p1c0)]) Tryz.func296 rfl rfl rfl ⟨rfl, rfl, trivial⟩ hO (by simp) .nil (alc k0 (alc k1 aln)) ?_
 refine jc_seq ?_
 refine jc_reg ?_
 refine sqv rfl (yv_assign rfl rfl) ?_
 refine jl_nil ?_
 refine jx_then ?_
 refine jc_seq ?_
 refine jc_reg ?_
 refine sqv rfl (yv_move rfl rfl) ?_
 refine sqv rfl (yv_move rfl rfl) ?_
 obtain ⟨y1, hy1, h⟩ := bdE h
 refine sq rfl (so_callv pf326 rfl rfl rfl rfl (fun σ hs => F326_295c51_c hy1 σ.w σ.O hs.olt v0 q1c0 (cw0 (rd_f at0) hs) (cw0 (rd_f at1) hs)) ?_)
 obtain ⟨x2, hx2, h⟩ := letX h
 refine sqv rfl (yxb hx2 (yv_geq rfl rfl rfl)) ?_
 refine sqv rfl (yv_assign rfl rfl) ?_
 refine jl_nil ?_
 refine jx_then ?_
 refine jc_ret ?_
 cases h
 exact jx_ret rfl (rr_tmp rfl rr_nil) ⟨rfl, rfl, rfl, rfl⟩ .nil .nil rfl (by simp)
theorem F242_c {p0 : Sviewchange} {p1 : SLeaf} {r : Int × Sviewchange} (h : F242 p0 p1 = some r) (w0 : World) (O0 : Nat → Prop) (hO : ∀ k, O0 k → k < w0.heap.size) (bp0 : Nat) (hio : (Own.blk bp0 247 (tySviewchange.enc p0)).holds w0 ∧ O0 bp0) :
  CallsP Tryz.prog 242 (List.toArray [pt bp0 0, ag (tySLeaf.enc p1)]) w0 O0 [bp0] (RXM (fun x : Unit => .int .i64 r.1) (fun x => []) (fun x => .blk bp0 247 (tySviewchange.enc r.2)) (fun x => [])) := by
 unfold F242 at h
 refine calls_start (e := [(0, pt bp0 0), (1, ag (tySLeaf.enc p1))]) (L := [.blk bp0 247 (tySviewchange.enc p0)]) (K := []) Tryz.func242 rfl rfl rfl ⟨rfl, rfl, trivial⟩ hO (io_hL hio) (List.pairwise_singleton _ _) aln ?_
 refine jc_seq ?_
 refine jc_reg ?_
 refine sq rfl (so_boxa (by decide) rfl rfl rfl fun b1 => ?_)
 refine sqv rfl (yv_assign rfl rfl) ?_
 refine jl_nil ?_
 refine jx_then ?_
 refine jc_seq ?_
 refine jc_reg ?_
 refine sqv rfl (yv_mkf rfl rfl) ?_
 refine sqv rfl (yv_assign rfl rfl) ?_
 refine jl_nil ?_
 refine jx_then ?_
 refine jc_seq ?_
 refine jc_seq_n ?_
 intro N0 hN0
 have hj0 : ∀ (j12 : Bool), F242_j0 p0 p1 j12 = some r → NJ 55 w0 O0 [bp0] N0 [(0, pt bp0 0), (3, pt b1 0), (4, .int .i64 0), (27, .bool j12)] [.blk b1 51 (tySLeaf.enc p1), .blk bp0 247 (tySviewchange.enc p0)] [] := by
  intro j12 h
  unfold F242_j0 at h
  refine nj_abs hN0 ?_
  rcases j12 with _ | _
  ·
   replace h := brF h
   refine jc_f rfl ?_
   refine jc_skip ?_
   refine jx_then ?_
   refine jc_seq ?_
   refine jc_reg ?_
   refine sqv rfl (yv_move rfl rfl) ?_
   refine sqv rfl (yv_nil rfl rfl) ?_
   refine sqv rfl (yv_fa fa247_0 rfl rfl) ?_
   refine sqv rfl (yv_fa fa64_1 rfl rfl) ?_
   refine sqv rfl (yv_fa fa61_0 rfl rfl) ?_
   refine sqv rfl (yv_sla1 ia58 rfl rfl) ?_
   refine sqv rfl (yv_build bi51 rfl rfl fills_nil) ?_
   obtain ⟨y3_13, hy3_13, h⟩ := bdE h
   refine sq rfl (so_callv pf297 rfl rfl rfl rfl (fun σ hs => F297_c hy3_13 σ.w σ.O hs.olt (⟨some ⟨bp0, (((0 + 0) + 1) + 0), none⟩, 8, 8⟩ : Sl) (cw0 (rq_arr (rd_bl at1) ((((Sub.refl _).trans (Sviewchange.s0 p0)).trans (SView.s1 p0.v)).trans (STree.s0 p0.v.Tree)) (by decide)) hs)) ?_)
   refine sqv rfl (yv_assign rfl rfl) ?_
   refine jl_nil ?_
   refine jx_then ?_
   refine jc_seq ?_
   refine jc_seq ?_
   refine jc_reg ?_
   refine sqv rfl (yv_move rfl rfl) ?_
   obtain ⟨x4_13, hx4_13, h⟩ := letX h
   refine sqv rfl (yxb hx4_13 (yv_lss rfl rfl rfl)) ?_
   refine jl_nil ?_
   refine jx_then ?_
   rcases x4_13 with _ | _
   ·
    replace h := brF h
    refine jc_f rfl ?_
    refine jc_skip ?_
    refine jx_then ?_
    refine jc_seq ?_
    refine jc_regd (k := 13) hmix rfl [([12], .blk bp0 247 (tySviewchange.enc p0)), ([], .blk b1 51 (tySLeaf.enc p1))] [] (.cons at1 (.cons at0 .nil)) .nil ?_
    refine tk (i := 0) rfl (by kernel_rfl) rfl (yv_move rfl rfl) .nil .nil ?_
    refine tk (i := 1) rfl (by kernel_rfl) rfl (yv_move rfl rfl) .nil .nil ?_
    refine tk (i := 2) rfl (by kernel_rfl) rfl (yv_nil rfl rfl) .nil .nil ?_
    refine tk (i := 3) rfl (by kernel_rfl) rfl (yv_fa fa247_0 rfl rfl) .nil .nil ?_
    refine tk (i := 4) rfl (by kernel_rfl) rfl (yv_fa fa64_1 rfl rfl) .nil .nil ?_
    obtain ⟨x7_13, hx7_13, h⟩ := letX h
    refine tk (i := 5) rfl (by kernel_rfl) rfl (yxg (C := tySTree) hx7_13 (yv_ldb ti61 rfl rfl (rd_bl at0) (((Sub.refl _).trans (Sviewchange.s0 p0)).trans (SView.s1 p0.v)) (Ty.len _ _) (by simp))) (.cons at0 (by kernel_rfl) .nil) .nil ?_
    refine tk (i := 6) rfl (by kernel_rfl) rfl (yv_move rfl rfl) .nil .nil ?_
    refine tk (i := 7) rfl (by kernel_rfl) rfl (yv_ldb ti51 rfl rfl (rd_bl at0) (Sub.refl _) (Ty.len _ _) (by simp)) (.cons at1 (by kernel_rfl) .nil) .nil ?_
    obtain ⟨y8_13, hy8_13, h⟩ := bdE h
    refine jg_one (i := 8) (by kernel_rfl) (gst rfl rfl (so_callv pf298 rfl rfl rfl rfl (fun σ hs => F298_c hy8_13 σ.w σ.O hs.olt) ?_))
    refine ng (.cons at1 (.cons at0 .nil)) .nil ?_
    refine tk (i := 9) rfl (by kernel_rfl) rfl (yv_nil rfl rfl) .nil .nil ?_
    refine tk (i := 10) rfl (by kernel_rfl) rfl (yv_fa fa247_0 rfl rfl) .nil .nil ?_
    refine tk (i := 11) rfl (by kernel_rfl) rfl (yv_fa fa64_1 rfl rfl) .nil .nil ?_
    obtain ⟨c9_13, hc9_13, h⟩ := letX h
    refine jg_one (i := 12) (by kernel_rfl) (gst rfl rfl (so_staX (D := tySviewchange) hc9_13 ti61 rfl rfl rfl rfl (Upd.comp ((Sub.refl _).trans (Sviewchange.s0 p0)) (SView.u1 p0.v y8_13) (Upd.comp (Sub.refl _) (Sviewchange.u0 p0 ({ p0.v with Tree := y8_13 })) (Upd.refl (by simp [Ty.len])))) (Ty.len _ _) (Ty.one _ _) se1 ?_))
    refine ng (.cons at0 .nil) .nil ?_
    refine jg_nil (by kernel_rfl) ?_
    refine jx_then ?_
    refine jc_seq ?_
    refine jc_reg ?_
    refine sqv rfl (yv_move rfl rfl) ?_
    refine sqv rfl (yv_move rfl rfl) ?_
    refine sqv rfl (yv_nil rfl rfl) ?_
    refine sqv rfl (yv_fa fa247_2 rfl rfl) ?_
    obtain ⟨g10_13, h⟩ := gdE h
    refine sqv rfl (yv_ia ia62 rfl rfl rfl g10_13) ?_
    obtain ⟨c11_13, hc11_13, h⟩ := letX h
    refine sq rfl (so_st1X (D := tySviewchange) hc11_13 ti4 rfl rfl rfl rfl rfl (Upd.comp ((Sub.refl _).trans (Sviewchange.s2 c9_13)) (arr_upd tyB c9_13.added y3_13 true g10_13) (Upd.comp (Sub.refl _) (Sviewchange.u2 c9_13 (vup c9_13.added y3_13 true)) (Upd.refl (by simp [Ty.len])))) se1 ?_)
    refine jl_nil ?_
    refine jx_then ?_
    refine jc_seq ?_
    refine jc_reg ?_
    refine sqv rfl (yv_assign rfl rfl) ?_
    refine jl_nil ?_
    refine jx_then ?_
    refine jc_ret ?_
    cases h
    exact jx_ret rfl (rr_tmp rfl rr_nil) ⟨(), rfl, rfl, rfl, rfl⟩ (.cons de1 .nil) .nil rfl (io1)
   ·
    replace h := brT h
    refine jc_t rfl ?_
    refine jc_seq ?_
    refine jc_reg ?_
    refine sqv rfl (yv_assign rfl rfl) ?_
    refine jl_nil ?_
    refine jx_then ?_
    refine jc_ret ?_
    refine jx_tr ?_
    cases h
    exact jx_ret rfl (rr_tmp rfl rr_nil) ⟨(), rfl, rfl, rfl, rfl⟩ (.cons de1 .nil) .nil rfl (io1)
  ·
   replace h := brT h
   refine jc_t rfl ?_
   refine jc_seq ?_
   refine jc_reg ?_
   refine sqv rfl (yv_assign rfl rfl) ?_
   refine jl_nil ?_
   refine jx_then ?_
   refine jc_ret ?_
   refine jx_tr ?_
   cases h
   exact jx_ret rfl (rr_tmp rfl rr_nil) ⟨(), rfl, rfl, rfl, rfl⟩ (.cons de1 .nil) .nil rfl (io1)
 refine jc_reg ?_
 refine sqv rfl (yv_fa fa51_0 rfl rfl) ?_
 obtain ⟨x2, hx2, h⟩ := letX h
 refine sqv rfl (yxi hx2 (yv_ldb ti3 rfl rfl (rd_bl at0) ((Sub.refl _).trans (SLeaf.s0 p1)) (Ty.len _ _) (fun _ => rfl))) ?_
 obtain ⟨y3, hy3, h⟩ := bdE h
 refine sq rfl (so_callv pf201 rfl rfl rfl rfl (fun σ hs => F201_c hy3 σ.w σ.O hs.olt) ?_)
 obtain ⟨x4, hx4, h⟩ := letX h
 refine sqv rfl (yxb hx4 (yv_not rfl rfl)) ?_
 refine sqv rfl (yv_move rfl rfl) ?_
 rcases x4 with _ | _
 ·
  replace h := brF h
  refine sqv rfl (yv_fa fa51_1 rfl rfl) ?_
  obtain ⟨x6, hx6, h⟩ := letX h
  refine sqv rfl (yxi hx6 (yv_ldb ti3 rfl rfl (rd_bl at0) ((Sub.refl _).trans (SLeaf.s1 p1)) (Ty.len _ _) (fun _ => rfl))) ?_
  obtain ⟨y7, hy7, h⟩ := bdE h
  refine sq rfl (so_callv pf201 rfl rfl rfl rfl (fun σ hs => F201_c hy7 σ.w σ.O hs.olt) ?_)
  obtain ⟨x8, hx8, h⟩ := letX h
  refine sqv rfl (yxb hx8 (yv_not rfl rfl)) ?_
  refine sqv rfl (yv_pick_f rfl rfl rfl) ?_
  refine sqv rfl (yv_move rfl rfl) ?_
  rcases x8 with _ | _
  ·
   replace h := brF h
   refine sqv rfl (yv_move rfl rfl) ?_
   refine sqv rfl (yv_nil rfl rfl) ?_
   refine sqv rfl (yv_fa fa247_0 rfl rfl) ?_
   refine sqv rfl (yv_fa fa64_1 rfl rfl) ?_
   refine sqv rfl (yv_fa fa61_0 rfl rfl) ?_
   refine sqv rfl (yv_sla1 ia58 rfl rfl) ?_
   refine sqv rfl (yv_move rfl rfl) ?_
   obtain ⟨y10, hy10, h⟩ := bdE h
   refine sq rfl (so_callv pf296 rfl rfl rfl rfl (fun σ hs => F296_295c51_c hy10 σ.w σ.O hs.olt (⟨some ⟨bp0, (((0 + 0) + 1) + 0), none⟩, 8, 8⟩ : Sl) b1 (cw0 (rq_arr (rd_bl at1) ((((Sub.refl _).trans (Sviewchange.s0 p0)).trans (SView.s1 p0.v)).trans (STree.s0 p0.v.Tree)) (by decide)) hs) (cw0 (rd_bl at0) hs)) ?_)
   refine sqv rfl (yv_pick_f rfl rfl rfl) ?_
   refine jl_nil ?_
   refine jx_then_n ?_
   exact nj_weak (hj0 y10 h) ⟨rfl, rfl, rfl, rfl, trivial⟩ (.cons de0 (.cons de0 .nil)) .nil
  ·
   replace h := brT h
   refine sq_skip rfl ?_
   refine sq_skip rfl ?_
   refine sq_skip rfl ?_
   refine sq_skip rfl ?_
   refine sq_skip rfl ?_
   refine sq_skip rfl ?_
   refine sq_skip rfl ?_
   refine sq_skip rfl ?_
   refine sqv rfl (yv_pick_t rfl rfl rfl) ?_
   refine jl_nil ?_
   refine jx_then_n ?_
   exact nj_weak (hj0 true h) ⟨rfl, rfl, rfl, rfl, trivial⟩ (.cons de0 (.cons de0 .nil)) .nil
 ·
  replace h := brT h
  refine sq_skip rfl ?_
  refine sq_skip rfl ?_
  refine sq_skip rfl ?_
  refine sq_skip rfl ?_
  refine sqv rfl (yv_pick_t rfl rfl rfl) ?_
  refine sqv rfl (yv_move rfl rfl) ?_
  refine sq_skip rfl ?_
  refine sq_skip rfl ?_
  refine sq_skip rfl ?_
  refine sq_skip rfl ?_
  refine sq_skip rfl ?_
  refine sq_skip rfl ?_
  refine sq_skip rfl ?_
  refine sq_skip rfl ?_
  refine sqv rfl (yv_pick_t rfl rfl rfl) ?_
  refine jl_nil ?_
  refine jx_then_n ?_
  exact nj_weak (hj0 true h) ⟨rfl, rfl, rfl, rfl, trivial⟩ (.cons de0 (.cons de0 .nil)) .nil
theorem F243_c {p0 : Sviewchange} {p1 : Int} {r : Int × Sviewchange} (h : F243 p0 p1 = some r) (w0 : World) (O0 : Nat → Prop) (hO : ∀ k, O0 k → k < w0.heap.size) (bp0 : Nat) (hio : (Own.blk bp0 247 (tySviewchange.enc p0)).holds w0 ∧ O0 bp0) :
  CallsP Tryz.prog 243 (List.toArray [pt bp0 0, .int .i64 p1]) w0 O0 [bp0] (RXM (fun x : Unit => .int .i64 r.1) (fun x => []) (fun x => .blk bp0 247 (tySviewchange.enc r.2)) (fun x => [])) := by
 unfold F243 at h
 refine calls_start (e := [(0, pt bp0 0), (1, .int .i64 p1)]) (L := [.blk bp0 247 (tySviewchange.enc p0)]) (K := []) Tryz.func243 rfl rfl rfl ⟨rfl, rfl, trivial⟩ hO (io_hL hio) (List.pairwise_singleton _ _) aln ?_
 refine jc_seq ?_
 refine jc_reg ?_
 refine sqv rfl (yv_assign rfl rfl) ?_
 refine jl_nil ?_
 refine jx_then ?_
 refine jc_seq ?_
 refine jc_seq_n ?_
 intro N0 hN0
 have hj0 : ∀ (j8 : Bool), F243_j0 p0 p1 j8 = some r → NJ 48 w0 O0 [bp0] N0 [(0, pt bp0 0), (1, .int .i64 p1), (4, .int .i64 0), (19, .bool j8)] [.blk bp0 247 (tySviewchange.enc p0)] [] := by
  intro j8 h
  unfold F243_j0 at h
  refine nj_abs hN0 ?_
  rcases j8 with _ | _
  ·
   replace h := brF h
   refine jc_f rfl ?_
   refine jc_skip ?_
   refine jx_then ?_
   refine jc_seq ?_
   refine jc_reg ?_
   refine sqv rfl (yv_move rfl rfl) ?_
   refine sqv rfl (yv_move rfl rfl) ?_
   refine sqv rfl (yv_nil rfl rfl) ?_
   refine sqv rfl (yv_fa fa247_0 rfl rfl) ?_
   refine sqv rfl (yv_fa fa64_1 rfl rfl) ?_
   obtain ⟨x3_9, hx3_9, h⟩ := letX h
   refine sqv rfl (yxg (C := tySTree) hx3_9 (yv_ldb ti61 rfl rfl (rd_bl at0) (((Sub.refl _).trans (Sviewchange.s0 p0)).trans (SView.s1 p0.v)) (Ty.len _ _) (by simp))) ?_
   refine sqv rfl (yv_move rfl rfl) ?_
   refine sqv rfl (yv_build bi51 rfl rfl fills_nil) ?_
   obtain ⟨y4_9, hy4_9, h⟩ := bdE h
   refine sq rfl (so_callv pf298 rfl rfl rfl rfl (fun σ hs => F298_c hy4_9 σ.w σ.O hs.olt) ?_)
   refine sqv rfl (yv_nil rfl rfl) ?_
   refine sqv rfl (yv_fa fa247_0 rfl rfl) ?_
   refine sqv rfl (yv_fa fa64_1 rfl rfl) ?_
   obtain ⟨c5_9, hc5_9, h⟩ := letX h
   refine sq rfl (so_staX (D := tySviewchange) hc5_9 ti61 rfl rfl rfl rfl (Upd.comp ((Sub.refl _).trans (Sviewchange.s0 p0)) (SView.u1 p0.v y4_9) (Upd.comp (Sub.refl _) (Sviewchange.u0 p0 ({ p0.v with Tree := y4_9 })) (Upd.refl (by simp [Ty.len])))) (Ty.len _ _) (Ty.one _ _) se0 ?_)
   refine jl_nil ?_
   refine jx_then ?_
   refine jc_seq ?_
   refine jc_regd (k := 19) hmix rfl [] [] .nil .nil ?_
   refine tk (i := 0) rfl (by kernel_rfl) rfl (yv_move rfl rfl) .nil .nil ?_
   refine tk (i := 1) rfl (by kernel_rfl) rfl (yv_move rfl rfl) .nil .nil ?_
   refine tk (i := 2) rfl (by kernel_rfl) rfl (yv_move rfl rfl) .nil .nil ?_
   refine tk (i := 3) rfl (by kernel_rfl) rfl (yv_move rfl rfl) .nil .nil ?_
   refine tk (i := 4) rfl (by kernel_rfl) rfl (yv_move rfl rfl) .nil .nil ?_
   refine tk (i := 5) rfl (by kernel_rfl) rfl (yv_move rfl rfl) .nil .nil ?_
   refine tk (i := 6) rfl (by kernel_rfl) rfl (yv_nil rfl rfl) .nil .nil ?_
   refine tk (i := 7) rfl (by kernel_rfl) rfl (yv_fa fa247_0 rfl rfl) .nil .nil ?_
   refine tk (i := 8) rfl (by kernel_rfl) rfl (yv_fa fa64_2 rfl rfl) .nil .nil ?_
   obtain ⟨g6_9, h⟩ := gdE h
   refine tk (i := 9) rfl (by kernel_rfl) rfl (yv_ia ia62 rfl rfl rfl g6_9) .nil .nil ?_
   refine tk (i := 11) rfl (by kernel_rfl) rfl (yv_nil rfl rfl) .nil .nil ?_
   refine tk (i := 12) rfl (by kernel_rfl) rfl (yv_fa fa247_2 rfl rfl) .nil .nil ?_
   refine tk (i := 15) rfl (by kernel_rfl) rfl (yv_nil rfl rfl) .nil .nil ?_
   refine tk (i := 16) rfl (by kernel_rfl) rfl (yv_fa fa247_3 rfl rfl) .nil .nil ?_
   obtain ⟨c7_9, hc7_9, h⟩ := letX h
   refine jg_one (i := 10) (by kernel_rfl) (gst rfl rfl (so_st1X (D := tySviewchange) hc7_9 ti4 rfl rfl rfl rfl rfl (Upd.comp (((Sub.refl _).trans (Sviewchange.s0 c5_9)).trans (SView.s2 c5_9.v)) (arr_upd tyB c5_9.v.Admins p1 false g6_9) (Upd.comp ((Sub.refl _).trans (Sviewchange.s0 c5_9)) (SView.u2 c5_9.v (vup c5_9.v.Admins p1 false)) (Upd.comp (Sub.refl _) (Sviewchange.u0 c5_9 ({ c5_9.v with Admins := (vup c5_9.v.Admins p1 false) })) (Upd.refl (by simp [Ty.len]))))) se0 ?_))
   refine ng .nil .nil ?_
   obtain ⟨g8_9, h⟩ := gdE h
   refine tk (i := 13) rfl (by kernel_rfl) rfl (yv_ia ia62 rfl rfl rfl g8_9) .nil .nil ?_
   obtain ⟨c9_9, hc9_9, h⟩ := letX h
   refine jg_one (i := 14) (by kernel_rfl) (gst rfl rfl (so_st1X (D := tySviewchange) hc9_9 ti4 rfl rfl rfl rfl rfl (Upd.comp ((Sub.refl _).trans (Sviewchange.s2 c7_9)) (arr_upd tyB c7_9.added p1 false g8_9) (Upd.comp (Sub.refl _) (Sviewchange.u2 c7_9 (vup c7_9.added p1 false)) (Upd.refl (by simp [Ty.len])))) se0 ?_))
   refine ng .nil .nil ?_
   obtain ⟨g10_9, h⟩ := gdE h
   refine tk (i := 17) rfl (by kernel_rfl) rfl (yv_ia ia62 rfl rfl rfl g10_9) .nil .nil ?_
   obtain ⟨c11_9, hc11_9, h⟩ := letX h
   refine jg_one (i := 18) (by kernel_rfl) (gst rfl rfl (so_st1X (D := tySviewchange) hc11_9 ti4 rfl rfl rfl rfl rfl (Upd.comp ((Sub.refl _).trans (Sviewchange.s3 c9_9)) (arr_upd tyB c9_9.gone p1 true g10_9) (Upd.comp (Sub.refl _) (Sviewchange.u3 c9_9 (vup c9_9.gone p1 true)) (Upd.refl (by simp [Ty.len])))) se0 ?_))
   refine ng .nil .nil ?_
   refine jg_nil (by kernel_rfl) ?_
   refine jx_then ?_
   refine jc_seq ?_
   refine jc_reg ?_
   refine sqv rfl (yv_assign rfl rfl) ?_
   refine jl_nil ?_
   refine jx_then ?_
   refine jc_ret ?_
   cases h
   exact jx_ret rfl (rr_tmp rfl rr_nil) ⟨(), rfl, rfl, rfl, rfl⟩ (.cons de0 .nil) .nil rfl (io1)
  ·
   replace h := brT h
   refine jc_t rfl ?_
   refine jc_seq ?_
   refine jc_reg ?_
   refine sqv rfl (yv_assign rfl rfl) ?_
   refine jl_nil ?_
   refine jx_then ?_
   refine jc_ret ?_
   refine jx_tr ?_
   cases h
   exact jx_ret rfl (rr_tmp rfl rr_nil) ⟨(), rfl, rfl, rfl, rfl⟩ (.cons de0 .nil) .nil rfl (io1)
 refine jc_reg ?_
 refine sqv rfl (yv_move rfl rfl) ?_
 refine sqv rfl (yv_nil rfl rfl) ?_
 refine sqv rfl (yv_fa fa247_0 rfl rfl) ?_
 obtain ⟨x1, hx1, h⟩ := letX h
 refine sqv rfl (yxg (C := tySView) hx1 (yv_ldb ti64 rfl rfl (rd_bl at0) ((Sub.refl _).trans (Sviewchange.s0 p0)) (Ty.len _ _) (by simp))) ?_
 refine sqv rfl (yv_move rfl rfl) ?_
 obtain ⟨y2, hy2, h⟩ := bdE h
 refine sq rfl (so_callv pf162 rfl rfl rfl rfl (fun σ hs => F162_c hy2 σ.w σ.O hs.olt) ?_)
 obtain ⟨x3, hx3, h⟩ := letX h
 refine sqv rfl (yxb hx3 (yv_not rfl rfl)) ?_
 refine sqv rfl (yv_move rfl rfl) ?_
 rcases x3 with _ | _
 ·
  replace h := brF h
  refine sqv rfl (yv_move rfl rfl) ?_
  refine sqv rfl (yv_move rfl rfl) ?_
  refine sqv rfl (yv_nil rfl rfl) ?_
  refine sqv rfl (yv_fa fa247_1 rfl rfl) ?_
  obtain ⟨x5, hx5, h⟩ := letX h
  refine sqv rfl (yxi hx5 (yv_ldb ti3 rfl rfl (rd_bl at0) ((Sub.refl _).trans (Sviewchange.s1 p0)) (Ty.len _ _) (fun _ => rfl))) ?_
  obtain ⟨x6, hx6, h⟩ := letX h
  refine sqv rfl (yxb hx6 (yv_eql rfl rfl rfl)) ?_
  refine sqv rfl (yv_pick_f rfl rfl rfl) ?_
  refine jl_nil ?_
  refine jx_then_n ?_
  exact nj_weak (hj0 x6 h) ⟨rfl, rfl, rfl, rfl, trivial⟩ (.cons de0 .nil) .nil
 ·
  replace h := brT h
  refine sq_skip rfl ?_
  refine sq_skip rfl ?_
  refine sq_skip rfl ?_
  refine sq_skip rfl ?_
  refine sq_skip rfl ?_
  refine sq_skip rfl ?_
  refine sqv rfl (yv_pick_t rfl rfl rfl) ?_
  refine jl_nil ?_
  refine jx_then_n ?_
  exact nj_weak (hj0 true h) ⟨rfl, rfl, rfl, rfl, trivial⟩ (.cons de0 .nil) .nil
theorem F244_c {p0 : Sviewchange} {p1 : Int} {p2 : Bool} {r : Int × Sviewchange} (h : F244 p0 p1 p2 = some r) (w0 : World) (O0 : Nat → Prop) (hO : ∀ k, O0 k → k < w0.heap.size) (bp0 : Nat) (hio : (Own.blk bp0 247 (tySviewchange.enc p0)).holds w0 ∧ O0 bp0) :
  CallsP Tryz.prog 244 (List.toArray [pt bp0 0, .int .i64 p1, .bool p2]) w0 O0 [bp0] (RXM (fun x : Unit => .int .i64 r.1) (fun x => []) (fun x => .blk bp0 247 (tySviewchange.enc r.2)) (fun x => [])) := by
 unfold F244 at h
 refine calls_start (e := [(0, pt bp0 0), (1, .int .i64 p1), (2, .bool p2)]) (L := [.blk bp0 247 (tySviewchange.enc p0)]) (K := []) Tryz.func244 rfl rfl rfl ⟨rfl, rfl, rfl, trivial⟩ hO (io_hL hio) (List.pairwise_singleton _ _) aln ?_
 refine jc_seq ?_
 refine jc_reg ?_
 refine sqv rfl (yv_assign rfl rfl) ?_
 refine jl_nil ?_
 refine jx_then ?_
 refine jc_seq ?_
 refine jc_seq_n ?_
 intro N0 hN0
 have hj0 : ∀ (j9 : Bool), F244_j0 p0 p1 p2 j9 = some r → NJ 32 w0 O0 [bp0] N0 [(0, pt bp0 0), (1, .int .i64 p1), (2, .bool p2), (6, .int .i64 0), (24, .bool j9)] [.blk bp0 247 (tySviewchange.enc p0)] [] := by
  intro j9 h
  unfold F244_j0 at h
  refine nj_abs hN0 ?_
  rcases j9 with _ | _
  ·
   replace h := brF h
   refine jc_f rfl ?_
   refine jc_skip ?_
   refine jx_then ?_
   refine jc_seq ?_
   refine jc_reg ?_
   refine sqv rfl (yv_move rfl rfl) ?_
   refine sqv rfl (yv_move rfl rfl) ?_
   refine sqv rfl (yv_move rfl rfl) ?_
   refine sqv rfl (yv_nil rfl rfl) ?_
   refine sqv rfl (yv_fa fa247_0 rfl rfl) ?_
   refine sqv rfl (yv_fa fa64_2 rfl rfl) ?_
   obtain ⟨g3_10, h⟩ := gdE h
   refine sqv rfl (yv_ia ia62 rfl rfl rfl g3_10) ?_
   obtain ⟨c4_10, hc4_10, h⟩ := letX h
   refine sq rfl (so_st1X (D := tySviewchange) hc4_10 ti4 rfl rfl rfl rfl rfl (Upd.comp (((Sub.refl _).trans (Sviewchange.s0 p0)).trans (SView.s2 p0.v)) (arr_upd tyB p0.v.Admins p1 p2 g3_10) (Upd.comp ((Sub.refl _).trans (Sviewchange.s0 p0)) (SView.u2 p0.v (vup p0.v.Admins p1 p2)) (Upd.comp (Sub.refl _) (Sviewchange.u0 p0 ({ p0.v with Admins := (vup p0.v.Admins p1 p2) })) (Upd.refl (by simp [Ty.len]))))) se0 ?_)
   refine jl_nil ?_
   refine jx_then ?_
   refine jc_seq ?_
   refine jc_reg ?_
   refine sqv rfl (yv_assign rfl rfl) ?_
   refine jl_nil ?_
   refine jx_then ?_
   refine jc_ret ?_
   cases h
   exact jx_ret rfl (rr_tmp rfl rr_nil) ⟨(), rfl, rfl, rfl, rfl⟩ (.cons de0 .nil) .nil rfl (io1)
  ·
   replace h := brT h
   refine jc_t rfl ?_
   refine jc_seq ?_
   refine jc_reg ?_
   refine sqv rfl (yv_assign rfl rfl) ?_
   refine jl_nil ?_
   refine jx_then ?_
   refine jc_ret ?_
   refine jx_tr ?_
   cases h
   exact jx_ret rfl (rr_tmp rfl rr_nil) ⟨(), rfl, rfl, rfl, rfl⟩ (.cons de0 .nil) .nil rfl (io1)
 refine jc_reg ?_
 refine sqv rfl (yv_move rfl rfl) ?_
 refine sqv rfl (yv_nil rfl rfl) ?_
 refine sqv rfl (yv_fa fa247_0 rfl rfl) ?_
 obtain ⟨x1, hx1, h⟩ := letX h
 refine sqv rfl (yxg (C := tySView) hx1 (yv_ldb ti64 rfl rfl (rd_bl at0) ((Sub.refl _).trans (Sviewchange.s0 p0)) (Ty.len _ _) (by simp))) ?_
 refine sqv rfl (yv_move rfl rfl) ?_
 obtain ⟨y2, hy2, h⟩ := bdE h
 refine sq rfl (so_callv pf162 rfl rfl rfl rfl (fun σ hs => F162_c hy2 σ.w σ.O hs.olt) ?_)
 obtain ⟨x3, hx3, h⟩ := letX h
 refine sqv rfl (yxb hx3 (yv_not rfl rfl)) ?_
 refine sqv rfl (yv_move rfl rfl) ?_
 rcases x3 with _ | _
 ·
  replace h := brF h
  refine sqv rfl (yv_move rfl rfl) ?_
  refine sqv rfl (yv_move rfl rfl) ?_
  refine sqv rfl (yv_nil rfl rfl) ?_
  refine sqv rfl (yv_fa fa247_0 rfl rfl) ?_
  refine sqv rfl (yv_fa fa64_2 rfl rfl) ?_
  obtain ⟨g5, h⟩ := gdE h
  refine sqv rfl (yv_ia ia62 rfl rfl rfl g5) ?_
  obtain ⟨x6, hx6, h⟩ := letX h
  refine sqv rfl (yxb hx6 (yv_ldb ti4 rfl rfl (rd_bl at0) ((((Sub.refl _).trans (Sviewchange.s0 p0)).trans (SView.s2 p0.v)).trans (arr_sub tyB p0.v.Admins p1 g5)) (Ty.len _ _) (fun _ => rfl))) ?_
  refine sqv rfl (yv_move rfl rfl) ?_
  obtain ⟨x7, hx7, h⟩ := letX h
  refine sqv rfl (yxb hx7 (yv_eqb Tryz.underlying4 rfl rfl rfl)) ?_
  refine sqv rfl (yv_pick_f rfl rfl rfl) ?_
  refine jl_nil ?_
  refine jx_then_n ?_
  exact nj_weak (hj0 x7 h) ⟨rfl, rfl, rfl, rfl, rfl, trivial⟩ (.cons de0 .nil) .nil
 ·
  replace h := brT h
  refine sq_skip rfl ?_
  refine sq_skip rfl ?_
  refine sq_skip rfl ?_
  refine sq_skip rfl ?_
  refine sq_skip rfl ?_
  refine sq_skip rfl ?_
  refine sq_skip rfl ?_
  refine sq_skip rfl ?_
  refine sq_skip rfl ?_
  refine sqv rfl (yv_pick_t rfl rfl rfl) ?_
  refine jl_nil ?_
  refine jx_then_n ?_
  exact nj_weak (hj0 true h) ⟨rfl, rfl, rfl, rfl, rfl, trivial⟩ (.cons de0 .nil) .nil
theorem F163_c {p0 : Sviewchange} {p1 : SOp} {r : Int × Sviewchange} (h : F163 p0 p1 = some r) (w0 : World) (O0 : Nat → Prop) (hO : ∀ k, O0 k → k < w0.heap.size) (bp0 : Nat) (hio : (Own.blk bp0 247 (tySviewchange.enc p0)).holds w0 ∧ O0 bp0) :
  CallsP Tryz.prog 163 (List.toArray [pt bp0 0, ag (tySOp.enc p1)]) w0 O0 [bp0] (RXM (fun x : Unit => .int .i64 r.1) (fun x => []) (fun x => .blk bp0 247 (tySviewchange.enc r.2)) (fun x => [])) := by
 unfold F163 at h
 refine calls_start (e := [(0, pt bp0 0), (1, ag (tySOp.enc p1))]) (L := [.blk bp0 247 (tySviewchange.enc p0)]) (K := []) Tryz.func163 rfl rfl rfl ⟨rfl, rfl, trivial⟩ hO (io_hL hio) (List.pairwise_singleton _ _) aln ?_
 refine jc_seq ?_
 refine jc_reg ?_
 refine sq rfl (so_boxa (by decide) rfl rfl rfl fun b1 => ?_)
 refine sqv rfl (yv_assign rfl rfl) ?_
 refine jl_nil ?_
 refine jx_then ?_
 refine jc_seq ?_
 refine jc_seq ?_
 refine jc_reg ?_
 refine sqv rfl (yv_fa fa54_0 rfl rfl) ?_
 obtain ⟨x2, hx2, h⟩ := letX h
 refine sqv rfl (yxi hx2 (yv_ldb ti3 rfl rfl (rd_bl at0) ((Sub.refl _).trans (SOp.s0 p1)) (Ty.len _ _) (fun _ => rfl))) ?_
 refine jl_nil ?_
 refine jx_then ?_
 refine jc_block ?_
 refine jc_seq ?_
 refine jc_reg ?_
 obtain ⟨x17, hx17, h⟩ := letX h
 refine sqv rfl (yxb hx17 (yv_eql rfl rfl rfl)) ?_
 refine sqv rfl (yv_assign rfl rfl) ?_
 refine jl_nil ?_
 refine jx_then ?_
 rcases x17 with _ | _
 ·
  replace h := brF h
  refine jc_f rfl ?_
  refine jc_seq ?_
  refine jc_reg ?_
  obtain ⟨x20, hx20, h⟩ := letX h
  refine sqv rfl (yxb hx20 (yv_eql rfl rfl rfl)) ?_
  refine sqv rfl (yv_assign rfl rfl) ?_
  refine jl_nil ?_
  refine jx_then ?_
  rcases x20 with _ | _
  ·
   replace h := brF h
   refine jc_f rfl ?_
   refine jc_seq ?_
   refine jc_seq ?_
   refine jc_reg ?_
   obtain ⟨x23, hx23, h⟩ := letX h
   refine sqv rfl (yxb hx23 (yv_eql rfl rfl rfl)) ?_
   refine sqv rfl (yv_assign rfl rfl) ?_
   refine jl_nil ?_
   refine jx_then ?_
   refine jc_then_n ?_
   intro N0 hN0
   have hj0 : ∀ (j27 : Bool), F163_j0 p1 p0 j27 = some r → NJ 43 w0 O0 [bp0] N0 [(0, pt bp0 0), (3, pt b1 0), (4, .int .i64 0), (19, .bool j27)] [.blk b1 54 (tySOp.enc p1), .blk bp0 247 (tySviewchange.enc p0)] [] := by
    intro j27 h
    unfold F163_j0 at h
    refine nj_abs hN0 ?_
    rcases j27 with _ | _
    ·
     replace h := brF h
     refine jc_f rfl ?_
     refine jc_skip ?_
     refine jx_blk ?_
     refine jx_then ?_
     refine jc_seq ?_
     refine jc_seq_n ?_
     intro N1 hN1
     have hj1 : ∀ (j11_28 : Bool), F163_j1 p0 p1 j11_28 = some r → NJ 43 w0 O0 [bp0] N1 [(0, pt bp0 0), (3, pt b1 0), (4, .int .i64 0), (36, .bool j11_28)] [.blk b1 54 (tySOp.enc p1), .blk bp0 247 (tySviewchange.enc p0)] [] := by
      intro j11_28 h
      unfold F163_j1 at h
      refine nj_abs hN1 ?_
      rcases j11_28 with _ | _
      ·
       replace h := brF h
       refine jc_f rfl ?_
       refine jc_skip ?_
       refine jx_then ?_
       refine jc_seq ?_
       refine jc_reg ?_
       refine sqv rfl (yv_move rfl rfl) ?_
       refine sqv rfl (yv_fa fa54_2 rfl rfl) ?_
       obtain ⟨x3_28_12, hx3_28_12, h⟩ := letX h
       refine sqv rfl (yxi hx3_28_12 (yv_ldb ti3 rfl rfl (rd_bl at0) ((Sub.refl _).trans (SOp.s2 p1)) (Ty.len _ _) (fun _ => rfl))) ?_
       refine sqv rfl (yv_nil rfl rfl) ?_
       refine sqv rfl (yv_fa fa247_0 rfl rfl) ?_
       refine sqv rfl (yv_fa fa64_3 rfl rfl) ?_
       obtain ⟨c4_28_12, hc4_28_12, h⟩ := letX h
       refine sq rfl (so_st1X (D := tySviewchange) hc4_28_12 ti3 rfl rfl rfl rfl rfl (Upd.comp ((Sub.refl _).trans (Sviewchange.s0 p0)) (SView.u3 p0.v x3_28_12) (Upd.comp (Sub.refl _) (Sviewchange.u0 p0 ({ p0.v with K := x3_28_12 })) (Upd.refl (by simp [Ty.len])))) se1 ?_)
       refine jl_nil ?_
       refine jx_then ?_
       refine jc_seq ?_
       refine jc_reg ?_
       refine sqv rfl (yv_assign rfl rfl) ?_
       refine jl_nil ?_
       refine jx_then ?_
       refine jc_ret ?_
       cases h
       exact jx_ret rfl (rr_tmp rfl rr_nil) ⟨(), rfl, rfl, rfl, rfl⟩ (.cons de1 .nil) .nil rfl (io1)
      ·
       replace h := brT h
       refine jc_t rfl ?_
       refine jc_seq ?_
       refine jc_reg ?_
       refine sqv rfl (yv_assign rfl rfl) ?_
       refine jl_nil ?_
       refine jx_then ?_
       refine jc_ret ?_
       refine jx_tr ?_
       cases h
       exact jx_ret rfl (rr_tmp rfl rr_nil) ⟨(), rfl, rfl, rfl, rfl⟩ (.cons de1 .nil) .nil rfl (io1)
     refine jc_reg ?_
     refine sqv rfl (yv_fa fa54_2 rfl rfl) ?_
     obtain ⟨x5_28, hx5_28, h⟩ := letX h
     refine sqv rfl (yxi hx5_28 (yv_ldb ti3 rfl rfl (rd_bl at0) ((Sub.refl _).trans (SOp.s2 p1)) (Ty.len _ _) (fun _ => rfl))) ?_
     obtain ⟨x6_28, hx6_28, h⟩ := letX h
     refine sqv rfl (yxb hx6_28 (yv_lss rfl rfl rfl)) ?_
     refine sqv rfl (yv_move rfl rfl) ?_
     rcases x6_28 with _ | _
     ·
      replace h := brF h
      refine sqv rfl (yv_fa fa54_2 rfl rfl) ?_
      obtain ⟨x8_28, hx8_28, h⟩ := letX h
      refine sqv rfl (yxi hx8_28 (yv_ldb ti3 rfl rfl (rd_bl at0) ((Sub.refl _).trans (SOp.s2 p1)) (Ty.len _ _) (fun _ => rfl))) ?_
      obtain ⟨x9_28, hx9_28, h⟩ := letX h
      refine sqv rfl (yxb hx9_28 (yv_gtr rfl rfl rfl)) ?_
      refine sqv rfl (yv_pick_f rfl rfl rfl) ?_
      refine jl_nil ?_
      refine jx_then_n ?_
      exact nj_weak (hj1 x9_28 h) ⟨rfl, rfl, rfl, rfl, trivial⟩ (.cons de0 (.cons de0 .nil)) .nil
     ·
      replace h := brT h
      refine sq_skip rfl ?_
      refine sq_skip rfl ?_
      refine sq_skip rfl ?_
      refine sqv rfl (yv_pick_t rfl rfl rfl) ?_
      refine jl_nil ?_
      refine jx_then_n ?_
      exact nj_weak (hj1 true h) ⟨rfl, rfl, rfl, rfl, trivial⟩ (.cons de0 (.cons de0 .nil)) .nil
    ·
     replace h := brT h
     refine jc_t rfl ?_
     refine jc_seq ?_
     refine jc_reg ?_
     refine sqv rfl (yv_move rfl rfl) ?_
     refine sqv rfl (yv_fa fa54_1 rfl rfl) ?_
     obtain ⟨x1_28, hx1_28, h⟩ := letX h
     refine sqv rfl (yxi hx1_28 (yv_ldb ti3 rfl rfl (rd_bl at0) ((Sub.refl _).trans (SOp.s1 p1)) (Ty.len _ _) (fun _ => rfl))) ?_
     refine sqv rfl (yv_fa fa54_0 rfl rfl) ?_
     obtain ⟨x2_28, hx2_28, h⟩ := letX h
     refine sqv rfl (yxi hx2_28 (yv_ldb ti3 rfl rfl (rd_bl at0) ((Sub.refl _).trans (SOp.s0 p1)) (Ty.len _ _) (fun _ => rfl))) ?_
     obtain ⟨x3_28, hx3_28, h⟩ := letX h
     refine sqv rfl (yxb hx3_28 (yv_eql rfl rfl rfl)) ?_
     obtain ⟨y4_28, hy4_28, h⟩ := bdE h
     refine sq rfl (so_callmx pf244 rfl rfl rfl rfl rfl (fun σ hs => F244_c hy4_28 σ.w σ.O hs.olt bp0 (cm0 hs at1)) (fun _ => se1) (fun _ => rfl) (fun _ => .nil) (fun _ => .nil) (fun _ => ?_))
     refine sqv rfl (yv_assign rfl rfl) ?_
     refine jl_nil ?_
     refine jx_then ?_
     refine jc_ret ?_
     refine jx_br ?_
     refine jx_tr ?_
     cases h
     exact jx_ret rfl (rr_tmp rfl rr_nil) ⟨(), rfl, rfl, rfl, rfl⟩ (.cons de1 .nil) .nil rfl (io1)
   rcases x23 with _ | _
   ·
    replace h := brF h
    refine jc_f rfl ?_
    refine jc_reg ?_
    obtain ⟨x25, hx25, h⟩ := letX h
    refine sqv rfl (yxb hx25 (yv_eql rfl rfl rfl)) ?_
    refine sqv rfl (yv_assign rfl rfl) ?_
    refine jl_nil ?_
    refine jx_then_n ?_
    exact nj_weak (hj0 x25 h) ⟨rfl, rfl, rfl, rfl, trivial⟩ (.cons de0 (.cons de0 .nil)) .nil
   ·
    replace h := brT h
    refine jc_t rfl ?_
    refine jc_skip ?_
    refine jx_then_n ?_
    exact nj_weak (hj0 true h) ⟨rfl, rfl, rfl, rfl, trivial⟩ (.cons de0 (.cons de0 .nil)) .nil
  ·
   replace h := brT h
   refine jc_t rfl ?_
   refine jc_seq ?_
   refine jc_reg ?_
   refine sqv rfl (yv_move rfl rfl) ?_
   refine sqv rfl (yv_fa fa54_1 rfl rfl) ?_
   obtain ⟨x21, hx21, h⟩ := letX h
   refine sqv rfl (yxi hx21 (yv_ldb ti3 rfl rfl (rd_bl at0) ((Sub.refl _).trans (SOp.s1 p1)) (Ty.len _ _) (fun _ => rfl))) ?_
   obtain ⟨y22, hy22, h⟩ := bdE h
   refine sq rfl (so_callmx pf243 rfl rfl rfl rfl rfl (fun σ hs => F243_c hy22 σ.w σ.O hs.olt bp0 (cm0 hs at1)) (fun _ => se1) (fun _ => rfl) (fun _ => .nil) (fun _ => .nil) (fun _ => ?_))
   refine sqv rfl (yv_assign rfl rfl) ?_
   refine jl_nil ?_
   refine jx_then ?_
   refine jc_ret ?_
   refine jx_br ?_
   refine jx_tr ?_
   cases h
   exact jx_ret rfl (rr_tmp rfl rr_nil) ⟨(), rfl, rfl, rfl, rfl⟩ (.cons de1 .nil) .nil rfl (io1)
 ·
  replace h := brT h
  refine jc_t rfl ?_
  refine jc_seq ?_
  refine jc_reg ?_
  refine sqv rfl (yv_move rfl rfl) ?_
  refine sqv rfl (yv_fa fa54_3 rfl rfl) ?_
  obtain ⟨x18, hx18, h⟩ := letX h
  refine sqv rfl (yxg (C := tySLeaf) hx18 (yv_ldb ti51 rfl rfl (rd_bl at0) ((Sub.refl _).trans (SOp.s3 p1)) (Ty.len _ _) (by simp))) ?_
  obtain ⟨y19, hy19, h⟩ := bdE h
  refine sq rfl (so_callmx pf242 rfl rfl rfl rfl rfl (fun σ hs => F242_c hy19 σ.w σ.O hs.olt bp0 (cm0 hs at1)) (fun _ => se1) (fun _ => rfl) (fun _ => .nil) (fun _ => .nil) (fun _ => ?_))
  refine sqv rfl (yv_assign rfl rfl) ?_
  refine jl_nil ?_
  refine jx_then ?_
  refine jc_ret ?_
  refine jx_br ?_
  refine jx_tr ?_
  cases h
  exact jx_ret rfl (rr_tmp rfl rr_nil) ⟨(), rfl, rfl, rfl, rfl⟩ (.cons de1 .nil) .nil rfl (io1)
theorem F159_c {p0 : SOp} {r : Bool} (h : F159 p0 = some r) (w0 : World) (O0 : Nat → Prop) (hO : ∀ k, O0 k → k < w0.heap.size) :
  CallsP Tryz.prog 159 (List.toArray [ag (tySOp.enc p0)]) w0 O0 [] (RV (.bool r)) := by
 unfold F159 at h
 refine calls_start (e := [(0, ag (tySOp.enc p0))]) (L := []) (K := []) Tryz.func159 rfl rfl rfl ⟨rfl, trivial⟩ hO (by simp) .nil aln ?_
 refine jc_seq ?_
 refine jc_reg ?_
 refine sq rfl (so_boxa (by decide) rfl rfl rfl fun b1 => ?_)
 refine sqv rfl (yv_assign rfl rfl) ?_
 refine jl_nil ?_
 refine jx_then ?_
 refine jc_seq ?_
 refine jc_seq ?_
 refine jc_reg ?_
 refine sqv rfl (yv_fa fa54_0 rfl rfl) ?_
 obtain ⟨x2, hx2, h⟩ := letX h
 refine sqv rfl (yxi hx2 (yv_ldb ti3 rfl rfl (rd_bl at0) ((Sub.refl _).trans (SOp.s0 p0)) (Ty.len _ _) (fun _ => rfl))) ?_
 refine jl_nil ?_
 refine jx_then ?_
 refine jc_then_n ?_
 intro N0 hN0
 have hj0 : ∀ (j14 : SOp), F159_j0 j14 = some r → NJ 21 w0 O0 [] N0 [(1, pt b1 0), (2, .bool false)] [.blk b1 54 (tySOp.enc j14)] [] := by
  intro j14 h
  unfold F159_j0 at h
  refine nj_abs hN0 ?_
  refine jc_seq ?_
  refine jc_reg ?_
  refine sqv rfl (yv_fa fa54_0 rfl rfl) ?_
  obtain ⟨c1_15, hc1_15, h⟩ := letX h
  refine sq rfl (so_st1X (D := tySOp) hc1_15 ti3 rfl rfl rfl rfl rfl (Upd.comp (Sub.refl _) (SOp.u0 j14 0) (Upd.refl (by simp [Ty.len]))) se0 ?_)
  refine jl_nil ?_
  refine jx_then ?_
  refine jc_seq ?_
  refine jc_reg ?_
  refine sqv rfl (yv_ldb ti54 rfl rfl (rd_bl at0) (Sub.refl _) (Ty.len _ _) (by simp)) ?_
  refine sqv rfl (yv_build bi54 rfl rfl fills_nil) ?_
  obtain ⟨x2_15, hx2_15, h⟩ := letX h
  refine sqv rfl (yxb hx2_15 (yv_eqa (C := tySOp) eq54 (by decide) eg54 rfl rfl rfl)) ?_
  refine sqv rfl (yv_assign rfl rfl) ?_
  refine jl_nil ?_
  refine jx_then ?_
  refine jc_ret ?_
  cases h
  exact jx_ret rfl (rr_tmp rfl rr_nil) ⟨rfl, rfl, rfl, rfl⟩ .nil .nil rfl (by simp)
 refine jc_block ?_
 refine jc_seq ?_
 refine jc_reg ?_
 obtain ⟨x3, hx3, h⟩ := letX h
 refine sqv rfl (yxb hx3 (yv_eql rfl rfl rfl)) ?_
 refine sqv rfl (yv_assign rfl rfl) ?_
 refine jl_nil ?_
 refine jx_then ?_
 rcases x3 with _ | _
 ·
  replace h := brF h
  refine jc_f rfl ?_
  refine jc_seq ?_
  refine jc_seq ?_
  refine jc_reg ?_
  obtain ⟨x6, hx6, h⟩ := letX h
  refine sqv rfl (yxb hx6 (yv_eql rfl rfl rfl)) ?_
  refine sqv rfl (yv_assign rfl rfl) ?_
  refine jl_nil ?_
  refine jx_then ?_
  refine jc_then_n ?_
  intro N1 hN1
  have hj1 : ∀ (j12 : Bool), F159_j1 p0 x2 j12 = some r → NJ 21 w0 O0 [] N1 [(1, pt b1 0), (2, .bool false), (4, .int .i64 x2), (9, .bool j12)] [.blk b1 54 (tySOp.enc p0)] [] := by
   intro j12 h
   unfold F159_j1 at h
   refine nj_abs hN1 ?_
   rcases j12 with _ | _
   ·
    replace h := brF h
    refine jc_f rfl ?_
    refine jc_seq ?_
    refine jc_reg ?_
    obtain ⟨x3_13, hx3_13, h⟩ := letX h
    refine sqv rfl (yxb hx3_13 (yv_eql rfl rfl rfl)) ?_
    refine sqv rfl (yv_assign rfl rfl) ?_
    refine jl_nil ?_
    refine jx_then ?_
    rcases x3_13 with _ | _
    ·
     replace h := brF h
     refine jc_f rfl ?_
     refine jc_seq ?_
     refine jc_reg ?_
     refine sqv rfl (yv_assign rfl rfl) ?_
     refine jl_nil ?_
     refine jx_then ?_
     refine jc_ret ?_
     refine jx_br ?_
     refine jx_tr ?_
     cases h
     exact jx_ret rfl (rr_tmp rfl rr_nil) ⟨rfl, rfl, rfl, rfl⟩ .nil .nil rfl (by simp)
    ·
     replace h := brT h
     refine jc_t rfl ?_
     refine jc_reg ?_
     refine sqv rfl (yv_fa fa54_2 rfl rfl) ?_
     obtain ⟨c4_13, hc4_13, h⟩ := letX h
     refine sq rfl (so_st1X (D := tySOp) hc4_13 ti3 rfl rfl rfl rfl rfl (Upd.comp (Sub.refl _) (SOp.u2 p0 0) (Upd.refl (by simp [Ty.len]))) se0 ?_)
     refine jl_nil ?_
     refine jx_blk ?_
     refine jx_then_n ?_
     exact nj_weak (hj0 c4_13 h) ⟨rfl, rfl, trivial⟩ (.cons de0 .nil) .nil
   ·
    replace h := brT h
    refine jc_t rfl ?_
    refine jc_reg ?_
    refine sqv rfl (yv_fa fa54_1 rfl rfl) ?_
    obtain ⟨c1_13, hc1_13, h⟩ := letX h
    refine sq rfl (so_st1X (D := tySOp) hc1_13 ti3 rfl rfl rfl rfl rfl (Upd.comp (Sub.refl _) (SOp.u1 p0 0) (Upd.refl (by simp [Ty.len]))) se0 ?_)
    refine jl_nil ?_
    refine jx_blk ?_
    refine jx_then_n ?_
    exact nj_weak (hj0 c1_13 h) ⟨rfl, rfl, trivial⟩ (.cons de0 .nil) .nil
  rcases x6 with _ | _
  ·
   replace h := brF h
   refine jc_f rfl ?_
   refine jc_seq ?_
   refine jc_reg ?_
   obtain ⟨x8, hx8, h⟩ := letX h
   refine sqv rfl (yxb hx8 (yv_eql rfl rfl rfl)) ?_
   refine sqv rfl (yv_assign rfl rfl) ?_
   refine jl_nil ?_
   refine jx_then ?_
   rcases x8 with _ | _
   ·
    replace h := brF h
    refine jc_f rfl ?_
    refine jc_reg ?_
    obtain ⟨x10, hx10, h⟩ := letX h
    refine sqv rfl (yxb hx10 (yv_eql rfl rfl rfl)) ?_
    refine sqv rfl (yv_assign rfl rfl) ?_
    refine jl_nil ?_
    refine jx_then_n ?_
    exact nj_weak (hj1 x10 h) ⟨rfl, rfl, rfl, rfl, trivial⟩ (.cons de0 .nil) .nil
   ·
    replace h := brT h
    refine jc_t rfl ?_
    refine jc_skip ?_
    refine jx_then_n ?_
    exact nj_weak (hj1 true h) ⟨rfl, rfl, rfl, rfl, trivial⟩ (.cons de0 .nil) .nil
  ·
   replace h := brT h
   refine jc_t rfl ?_
   refine jc_skip ?_
   refine jx_then_n ?_
   exact nj_weak (hj1 true h) ⟨rfl, rfl, rfl, rfl, trivial⟩ (.cons de0 .nil) .nil
 ·
  replace h := brT h
  refine jc_t rfl ?_
  refine jc_reg ?_
  refine sqv rfl (yv_build bi51 rfl rfl fills_nil) ?_
  refine sqv rfl (yv_fa fa54_3 rfl rfl) ?_
  obtain ⟨c4, hc4, h⟩ := letX h
  refine sq rfl (so_staX (D := tySOp) hc4 ti51 rfl rfl rfl rfl (Upd.comp (Sub.refl _) (SOp.u3 p0 SLeaf.zero) (Upd.refl (by simp [Ty.len]))) (Ty.len _ _) (Ty.one _ _) se0 ?_)
  refine jl_nil ?_
  refine jx_blk ?_
  refine jx_then_n ?_
  exact nj_weak (hj0 c4 h) ⟨rfl, rfl, trivial⟩ (.cons de0 .nil) .nil
theorem F158_c {p0 : SOp} {r : Bool} (h : F158 p0 = some r) (w0 : World) (O0 : Nat → Prop) (hO : ∀ k, O0 k → k < w0.heap.size) :
  CallsP Tryz.prog 158 (List.toArray [ag (tySOp.enc p0)]) w0 O0 [] (RV (.bool r)) := by
 unfold F158 at h
 refine calls_start (e := [(0, ag (tySOp.enc p0))]) (L := []) (K := []) Tryz.func158 rfl rfl rfl ⟨rfl, trivial⟩ hO (by simp) .nil aln ?_
 refine jc_seq ?_
 refine jc_reg ?_
 refine sq rfl (so_boxa (by decide) rfl rfl rfl fun b1 => ?_)
 refine sqv rfl (yv_assign rfl rfl) ?_
 refine jl_nil ?_
 refine jx_then ?_
 refine jc_seq ?_
 refine jc_reg ?_
 refine sqv rfl (yv_ldb ti54 rfl rfl (rd_bl at0) (Sub.refl _) (Ty.len _ _) (by simp)) ?_
 obtain ⟨y2, hy2, h⟩ := bdE h
 refine sq rfl (so_callv pf159 rfl rfl rfl rfl (fun σ hs => F159_c hy2 σ.w σ.O hs.olt) ?_)
 obtain ⟨x3, hx3, h⟩ := letX h
 refine sqv rfl (yxb hx3 (yv_not rfl rfl)) ?_
 refine sqv rfl (yv_assign rfl rfl) ?_
 refine jl_nil ?_
 refine jx_then ?_
 refine jc_ret ?_
 cases h
 exact jx_ret rfl (rr_tmp rfl rr_nil) ⟨rfl, rfl, rfl, rfl⟩ .nil .nil rfl (by simp)
theorem F241_158_c {p0 : (List SOp)} {r : Int} (h : F241_158 p0 = some r) (w0 : World) (O0 : Nat → Prop) (hO : ∀ k, O0 k → k < w0.heap.size) (v0 : Sl) (k0 : (fa false (mRow tySOp) v0 p0).p ⟨w0, O0, inL []⟩) :
  CallsP Tryz.prog 241 (List.toArray [sv v0, .func (.func 158) #[] #[]]) w0 O0 [] (RV (.int .i64 r)) := by
 unfold F241_158 at h
 refine calls_start (e := [(0, sv v0), (1, .func (.func 158) #[] #[])]) (L := []) (K := [fa false (mRow tySOp) v0 p0]) Tryz.func241 rfl rfl rfl ⟨rfl, rfl, trivial⟩ hO (by simp) .nil (alc k0 aln) ?_
 refine jc_seq ?_
 refine jc_reg ?_
 refine sqv rfl (yv_assign rfl rfl) ?_
 refine jl_nil ?_
 refine jx_then ?_
 refine jc_seq ?_
 refine jc_seq ?_
 refine jc_reg ?_
 refine sqv rfl (yv_move rfl rfl) ?_
 obtain ⟨x1, hx1, h⟩ := letX h
 refine sqv rfl (yv_len isl31 rfl rfl (rd_f at0) hx1) ?_
 refine sqv rfl (yv_move rfl rfl) ?_
 refine jl_nil ?_
 refine jx_then ?_
 refine jc_block ?_
 refine jc_loop ?_
 intro B0 Q0 hB0 hQ0
 have key0 : ∀ (k0 : Nat) (j35 : Int), F241_158_l0 x1 p0 k0 j35 = some r → JW 19 w0 O0 [] Tryz.prog B0 Q0 [(0, sv v0), (1, .func (.func 158) #[] #[]), (4, .int .i64 0), (7, .int .i64 x1), (8, .int .i64 j35)] [] [fa false (mRow tySOp) v0 p0] := by
  intro k0
  induction k0 with
  | zero => intro j35 h; cases h
  | succ k0 ih0 =>
   intro j35 h
   unfold F241_158_l0 at h
   refine jw_round hB0 ?_
   refine jc_seq ?_
   refine jc_reg ?_
   obtain ⟨x36, hx36, h⟩ := letX h
   refine sqv rfl (yxb hx36 (yv_lss rfl rfl rfl)) ?_
   refine jl_nil ?_
   refine jx_then ?_
   refine jc_seq ?_
   rcases x36 with _ | _
   ·
    replace h := brF h
    refine jc_f rfl ?_
    refine jc_exit ?_
    refine jx_te ?_
    refine jx_te ?_
    refine jx_abs hQ0 ?_
    refine jx_hit ?_
    refine jx_then ?_
    refine jc_seq ?_
    refine jc_reg ?_
    refine sqv rfl (yv_assign rfl rfl) ?_
    refine jl_nil ?_
    refine jx_then ?_
    refine jc_ret ?_
    cases h
    exact jx_ret rfl (rr_tmp rfl rr_nil) ⟨rfl, rfl, rfl, rfl⟩ .nil .nil rfl (by simp)
   ·
    replace h := brT h
    refine jc_t rfl ?_
    refine jc_skip ?_
    refine jx_then ?_
    refine jc_seq ?_
    refine jc_block ?_
    refine jc_seq ?_
    refine jc_reg ?_
    refine sqv rfl (yv_move rfl rfl) ?_
    refine sqv rfl (yv_assign rfl rfl) ?_
    refine jl_nil ?_
    refine jx_then ?_
    refine jc_seq ?_
    refine jc_reg ?_
    refine sqv rfl (yv_move rfl rfl) ?_
    refine sqv rfl (yv_move rfl rfl) ?_
    refine sqv rfl (yv_move rfl rfl) ?_
    obtain ⟨g46, h⟩ := gdE h
    refine nj_open (rd_f at0) g46 fun b47 o48 ha_b47 => ?_
    refine sqv rfl (yv_is is31 rfl rfl rfl ha_b47 (rd_f at0) g46) ?_
    obtain ⟨x49, hx49, h⟩ := letX h
    refine sqv rfl (yxg (C := tySOp) hx49 (yv_lds ti54 rfl rfl ha_b47 (rd_f at0) (many_sub' tySOp p0 j35 g46) rfl (Ty.len _ _) (by simp))) ?_
    obtain ⟨y50, hy50, h⟩ := bdE h
    refine sq rfl (so_callv pf158 rfl rfl rfl rfl (fun σ hs => F158_c hy50 σ.w σ.O hs.olt) ?_)
    refine jl_nil ?_
    refine jx_then ?_
    rcases y50 with _ | _
    ·
     replace h := brF h
     refine jc_f rfl ?_
     refine jc_skip ?_
     refine jx_blk ?_
     refine jx_then ?_
     refine jc_reg ?_
     obtain ⟨x51, hx51, h⟩ := letX h
     refine sqv rfl (yxi hx51 (yv_add rfl rfl rfl)) ?_
     refine sqv rfl (yv_move rfl rfl) ?_
     refine jl_nil ?_
     refine jx_again ?_
     exact nj_weak (ih0 x51 h) ⟨rfl, rfl, rfl, rfl, rfl, trivial⟩ .nil (.cons at0 .nil)
    ·
     replace h := brT h
     refine jc_t rfl ?_
     refine jc_seq ?_
     refine jc_reg ?_
     refine sqv rfl (yv_move rfl rfl) ?_
     refine sqv rfl (yv_assign rfl rfl) ?_
     refine jl_nil ?_
     refine jx_then ?_
     refine jc_ret ?_
     refine jx_br ?_
     refine jx_tr ?_
     refine jx_tr ?_
     refine jx_abs hQ0 ?_
     refine jx_br ?_
     refine jx_tr ?_
     cases h
     exact jx_ret rfl (rr_tmp rfl rr_nil) ⟨rfl, rfl, rfl, rfl⟩ .nil .nil rfl (by simp)
 exact nj_weak (key0 FUEL 0 h) ⟨rfl, rfl, rfl, rfl, rfl, trivial⟩ .nil (.cons at0 .nil)
theorem F161_158_c {p0 : (List SOp)} {r : Bool} (h : F161_158 p0 = some r) (w0 : World) (O0 : Nat → Prop) (hO : ∀ k, O0 k → k < w0.heap.size) (v0 : Sl) (k0 : (fa false (mRow tySOp) v0 p0).p ⟨w0, O0, inL []⟩) :
  CallsP Tryz.prog 161 (List.toArray [sv v0, .func (.func 158) #[] #[]]) w0 O0 [] (RV (.bool r)) := by
 unfold F161_158 at h
 refine calls_start (e := [(0, sv v0), (1, .func (.func 158) #[] #[])]) (L := []) (K := [fa false (mRow tySOp) v0 p0]) Tryz.func161 rfl rfl rfl ⟨rfl, rfl, trivial⟩ hO (by simp) .nil (alc k0 aln) ?_
 refine jc_seq ?_
 refine jc_reg ?_
 refine sqv rfl (yv_assign rfl rfl) ?_
 refine jl_nil ?_
 refine jx_then ?_
 refine jc_seq ?_
 refine jc_reg ?_
 refine sqv rfl (yv_move rfl rfl) ?_
 refine sqv rfl (yv_move rfl rfl) ?_
 obtain ⟨y1, hy1, h⟩ := bdE h
 refine sq rfl (so_callv pf241 rfl rfl rfl rfl (fun σ hs => F241_158_c hy1 σ.w σ.O hs.olt v0 (cw0 (rd_f at0) hs)) ?_)
 obtain ⟨x2, hx2, h⟩ := letX h
 refine sqv rfl (yxb hx2 (yv_geq rfl rfl rfl)) ?_
 refine sqv rfl (yv_assign rfl rfl) ?_
 refine jl_nil ?_
 refine jx_then ?_
 refine jc_ret ?_
 cases h
 exact jx_ret rfl (rr_tmp rfl rr_nil) ⟨rfl, rfl, rfl, rfl⟩ .nil .nil rfl (by simp)
theorem F88_c {p0 : SView} {p1 : Int} {p2 : (List SOp)} {r : SView × (Vector Bool 8) × (Vector Bool 8) × Int} (h : F88 p0 p1 p2 = some r) (w0 : World) (O0 : Nat → Prop) (hO : ∀ k, O0 k → k < w0.heap.size) (v2 : Sl) (k0 : (fa false (mRow tySOp) v2 p2).p ⟨w0, O0, inL []⟩) :
  CallsP Tryz.prog 88 (List.toArray [ag (tySView.enc p0), .int .i64 p1, sv v2]) w0 O0 [] (RV (.tuple #[ag (tySView.enc r.1), ag ((Ty.arr 8 tyB).enc r.2.1), ag ((Ty.arr 8 tyB).enc r.2.2.1), .int .i64 r.2.2.2])) := by
 unfold F88 at h
 refine calls_start (e := [(0, ag (tySView.enc p0)), (1, .int .i64 p1), (2, sv v2)]) (L := []) (K := [fa false (mRow tySOp) v2 p2]) Tryz.func88 rfl rfl rfl ⟨rfl, rfl, rfl, trivial⟩ hO (by simp) .nil (alc k0 aln) ?_
 refine jc_seq ?_
 refine jc_reg ?_
 refine sq rfl (so_boxa (by decide) rfl rfl rfl fun b1 => ?_)
 refine sq rfl (so_alloc ti64 (by decide) rfl rfl fun b2 => ?_)
 refine sq rfl (so_alloc ti62 (by decide) rfl rfl fun b3 => ?_)
 refine sq rfl (so_alloc ti62 (by decide) rfl rfl fun b4 => ?_)
 refine sqv rfl (yv_assign rfl rfl) ?_
 refine jl_nil ?_
 refine jx_then ?_
 refine jc_seq ?_
 refine jc_reg ?_
 refine sqv rfl (yv_assign rfl rfl) ?_
 refine jl_nil ?_
 refine jx_then ?_
 refine jc_seq ?_
 refine jc_block ?_
 refine jc_seq_n ?_
 intro N0 hN0
 have hj0 : ∀ (j23 : Bool), F88_j0 p0 p1 p2 j23 = some r → NJ 86 w0 O0 [] N0 [(1, .int .i64 p1), (2, sv v2), (3, pt b1 0), (6, pt b2 0), (7, pt b3 0), (8, pt b4 0), (9, .int .i64 0), (15, .bool j23)] [.blk b4 62 ((Ty.arr 8 tyB).enc (Vector.replicate 8 false)), .blk b3 62 ((Ty.arr 8 tyB).enc (Vector.replicate 8 false)), .blk b2 64 (tySView.enc SView.zero), .blk b1 64 (tySView.enc p0)] [fa false (mRow tySOp) v2 p2] := by
  intro j23 h
  unfold F88_j0 at h
  refine nj_abs hN0 ?_
  rcases j23 with _ | _
  ·
   replace h := brF h
   refine jc_f rfl ?_
   refine jc_seq ?_
   refine jc_reg ?_
   refine sqv rfl (yv_ldb ti64 rfl rfl (rd_bl at3) (Sub.refl _) (Ty.len _ _) (by simp)) ?_
   refine sqv rfl (yv_move rfl rfl) ?_
   obtain ⟨y4_24, hy4_24, h⟩ := bdE h
   refine sq rfl (so_callv pf162 rfl rfl rfl rfl (fun σ hs => F162_c hy4_24 σ.w σ.O hs.olt) ?_)
   obtain ⟨x5_24, hx5_24, h⟩ := letX h
   refine sqv rfl (yxb hx5_24 (yv_not rfl rfl)) ?_
   refine sqv rfl (yv_assign rfl rfl) ?_
   refine jl_nil ?_
   refine jx_then ?_
   rcases x5_24 with _ | _
   ·
    replace h := brF h
    refine jc_f rfl ?_
    refine jc_skip ?_
    refine jx_blk ?_
    refine jx_then ?_
    refine jc_seq ?_
    refine jc_reg ?_
    refine sqv rfl (yv_ldb ti64 rfl rfl (rd_bl at3) (Sub.refl _) (Ty.len _ _) (by simp)) ?_
    refine sqv rfl (yv_move rfl rfl) ?_
    obtain ⟨x9_24, hx9_24, h⟩ := letX h
    refine sqv rfl (yxg (C := tySviewchange) hx9_24 (yv_build bi247 rfl rfl (fills_cons rfl (Sviewchange.u0 Sviewchange.zero p0) rfl (Ty.len tySView p0) (fills_cons rfl (Sviewchange.u1 ({ Sviewchange.zero with v := p0 }) p1) rfl (Ty.len (tyI .i64) p1) fills_nil)))) ?_
    refine sq rfl (so_boxa (by decide) rfl rfl rfl fun b10_24 => ?_)
    refine sqv rfl (yv_assign rfl rfl) ?_
    refine jl_nil ?_
    refine jx_then ?_
    refine jc_seq ?_
    refine jc_seq ?_
    refine jc_reg ?_
    refine sqv rfl (yv_move rfl rfl) ?_
    obtain ⟨x11_24, hx11_24, h⟩ := letX h
    refine sqv rfl (yv_len isl31 rfl rfl (rd_f at0) hx11_24) ?_
    refine sqv rfl (yv_move rfl rfl) ?_
    refine jl_nil ?_
    refine jx_then ?_
    refine jc_block ?_
    refine jc_loop ?_
    intro B0 Q0 hB0 hQ0
    have key0 : ∀ (k0 : Nat) (j150_24 : Int) (j151_24 : Sviewchange), F88_l0 x11_24 p2 k0 j150_24 j151_24 = some r → JW 86 w0 O0 [] Tryz.prog B0 Q0 [(6, pt b2 0), (7, pt b3 0), (8, pt b4 0), (9, .int .i64 0), (11, pt b10_24 0), (44, sv v2), (45, .int .i64 x11_24), (46, .int .i64 j150_24)] [.blk b10_24 247 (tySviewchange.enc j151_24), .blk b4 62 ((Ty.arr 8 tyB).enc (Vector.replicate 8 false)), .blk b3 62 ((Ty.arr 8 tyB).enc (Vector.replicate 8 false)), .blk b2 64 (tySView.enc SView.zero)] [fa false (mRow tySOp) v2 p2] := by
     intro k0
     induction k0 with
     | zero => intro j150_24 j151_24 h; cases h
     | succ k0 ih0 =>
      intro j150_24 j151_24 h
      unfold F88_l0 at h
      refine jw_round hB0 ?_
      refine jc_seq ?_
      refine jc_reg ?_
      obtain ⟨x152_24, hx152_24, h⟩ := letX h
      refine sqv rfl (yxb hx152_24 (yv_lss rfl rfl rfl)) ?_
      refine jl_nil ?_
      refine jx_then ?_
      refine jc_seq ?_
      rcases x152_24 with _ | _
      ·
       replace h := brF h
       refine jc_f rfl ?_
       refine jc_exit ?_
       refine jx_te ?_
       refine jx_te ?_
       refine jx_abs hQ0 ?_
       refine jx_hit ?_
       refine jx_then ?_
       refine jc_seq ?_
       refine jc_seq ?_
       refine jc_regd (k := 11) hmix rfl [([], .blk b10_24 247 (tySviewchange.enc j151_24))] [] (.cons at0 .nil) .nil ?_
       refine tk (i := 0) rfl (by kernel_rfl) rfl (yv_move rfl rfl) .nil .nil ?_
       refine tk (i := 1) rfl (by kernel_rfl) rfl (yv_nil rfl rfl) .nil .nil ?_
       refine tk (i := 2) rfl (by kernel_rfl) rfl (yv_fa fa247_0 rfl rfl) .nil .nil ?_
       obtain ⟨x178_24, hx178_24, h⟩ := letX h
       refine tk (i := 3) rfl (by kernel_rfl) rfl (yxg (C := tySView) hx178_24 (yv_ldb ti64 rfl rfl (rd_bl at0) ((Sub.refl _).trans (Sviewchange.s0 j151_24)) (Ty.len _ _) (by simp))) (.cons at0 (by kernel_rfl) .nil) .nil ?_
       refine tk (i := 5) rfl (by kernel_rfl) rfl (yv_move rfl rfl) .nil .nil ?_
       refine tk (i := 6) rfl (by kernel_rfl) rfl (yv_nil rfl rfl) .nil .nil ?_
       refine tk (i := 7) rfl (by kernel_rfl) rfl (yv_fa fa247_0 rfl rfl) .nil .nil ?_
       refine tk (i := 8) rfl (by kernel_rfl) rfl (yv_fa fa64_3 rfl rfl) .nil .nil ?_
       obtain ⟨x179_24, hx179_24, h⟩ := letX h
       refine tk (i := 9) rfl (by kernel_rfl) rfl (yxi hx179_24 (yv_ldb ti3 rfl rfl (rd_bl at0) (((Sub.refl _).trans (Sviewchange.s0 j151_24)).trans (SView.s3 j151_24.v)) (Ty.len _ _) (fun _ => rfl))) (.cons at0 (by kernel_rfl) .nil) .nil ?_
       obtain ⟨y180_24, hy180_24, h⟩ := bdE h
       refine jg_one (i := 4) (by kernel_rfl) (gst rfl rfl (so_callv pf164 rfl rfl rfl rfl (fun σ hs => F164_c hy180_24 σ.w σ.O hs.olt) ?_))
       refine ng (.cons at0 .nil) .nil ?_
       obtain ⟨x181_24, hx181_24, h⟩ := letX h
       refine tk (i := 10) rfl (by kernel_rfl) rfl (yxb hx181_24 (yv_lss rfl rfl rfl)) .nil .nil ?_
       refine jg_nil (by kernel_rfl) ?_
       refine jx_then ?_
       rcases x181_24 with _ | _
       ·
        replace h := brF h
        refine jc_f rfl ?_
        refine jc_skip ?_
        refine jx_then ?_
        refine jc_seq ?_
        refine jc_regd (k := 16) hmix rfl [([], .blk b10_24 247 (tySviewchange.enc j151_24))] [] (.cons at0 .nil) .nil ?_
        refine tk (i := 0) rfl (by kernel_rfl) rfl (yv_move rfl rfl) .nil .nil ?_
        refine tk (i := 1) rfl (by kernel_rfl) rfl (yv_nil rfl rfl) .nil .nil ?_
        refine tk (i := 2) rfl (by kernel_rfl) rfl (yv_fa fa247_0 rfl rfl) .nil .nil ?_
        obtain ⟨x190_24, hx190_24, h⟩ := letX h
        refine tk (i := 3) rfl (by kernel_rfl) rfl (yxg (C := tySView) hx190_24 (yv_ldb ti64 rfl rfl (rd_bl at0) ((Sub.refl _).trans (Sviewchange.s0 j151_24)) (Ty.len _ _) (by simp))) (.cons at0 (by kernel_rfl) .nil) .nil ?_
        refine tk (i := 4) rfl (by kernel_rfl) rfl (yv_move rfl rfl) .nil .nil ?_
        refine tk (i := 5) rfl (by kernel_rfl) rfl (yv_nil rfl rfl) .nil .nil ?_
        refine tk (i := 6) rfl (by kernel_rfl) rfl (yv_fa fa247_2 rfl rfl) .nil .nil ?_
        obtain ⟨x191_24, hx191_24, h⟩ := letX h
        refine tk (i := 7) rfl (by kernel_rfl) rfl (yxg (C := (Ty.arr 8 tyB)) hx191_24 (yv_ldb ti62 rfl rfl (rd_bl at0) ((Sub.refl _).trans (Sviewchange.s2 j151_24)) (Ty.len _ _) (by simp))) (.cons at0 (by kernel_rfl) .nil) .nil ?_
        refine tk (i := 8) rfl (by kernel_rfl) rfl (yv_move rfl rfl) .nil .nil ?_
        refine tk (i := 9) rfl (by kernel_rfl) rfl (yv_nil rfl rfl) .nil .nil ?_
        refine tk (i := 10) rfl (by kernel_rfl) rfl (yv_fa fa247_3 rfl rfl) .nil .nil ?_
        obtain ⟨x192_24, hx192_24, h⟩ := letX h
        refine tk (i := 11) rfl (by kernel_rfl) rfl (yxg (C := (Ty.arr 8 tyB)) hx192_24 (yv_ldb ti62 rfl rfl (rd_bl at0) ((Sub.refl _).trans (Sviewchange.s3 j151_24)) (Ty.len _ _) (by simp))) (.cons at0 (by kernel_rfl) .nil) .nil ?_
        refine jg_one (i := 12) (by kernel_rfl) (gst rfl rfl (so_sta ti64 rfl rfl rfl rfl (Upd.refl (by simp [Ty.len])) (Ty.len _ _) (Ty.one _ _) (xs' := tySView.enc x190_24) se3 ?_))
        refine ng (.cons at0 .nil) .nil ?_
        refine jg_one (i := 13) (by kernel_rfl) (gst rfl rfl (so_sta ti62 rfl rfl rfl rfl (Upd.refl (by simp [Ty.len])) (Ty.len _ _) (Ty.one _ _) (xs' := (Ty.arr 8 tyB).enc x191_24) se2 ?_))
        refine ng (.cons at0 .nil) .nil ?_
        refine jg_one (i := 14) (by kernel_rfl) (gst rfl rfl (so_sta ti62 rfl rfl rfl rfl (Upd.refl (by simp [Ty.len])) (Ty.len _ _) (Ty.one _ _) (xs' := (Ty.arr 8 tyB).enc x192_24) se1 ?_))
        refine ng (.cons at0 .nil) .nil ?_
        refine tk (i := 15) rfl (by kernel_rfl) rfl (yv_assign rfl rfl) .nil .nil ?_
        refine jg_nil (by kernel_rfl) ?_
        refine jx_then ?_
        refine jc_ret ?_
        cases h
        exact jx_ret rfl (rr_cella ti64 rfl at3 (Ty.len _ _) (rr_cella ti62 rfl at2 (Ty.len _ _) (rr_cella ti62 rfl at1 (Ty.len _ _) (rr_tmp rfl rr_nil)))) ⟨rfl, rfl, rfl, rfl⟩ .nil .nil rfl (by simp)
       ·
        replace h := brT h
        refine jc_t rfl ?_
        refine jc_seq ?_
        refine jc_regd (k := 7) hmix rfl [([3], .blk b2 64 (tySView.enc SView.zero)), ([4], .blk b3 62 ((Ty.arr 8 tyB).enc (Vector.replicate 8 false))), ([5], .blk b4 62 ((Ty.arr 8 tyB).enc (Vector.replicate 8 false)))] [] (.cons at3 (.cons at2 (.cons at1 .nil))) .nil ?_
        obtain ⟨x187_24, hx187_24, h⟩ := letX h
        refine tk (i := 0) rfl (by kernel_rfl) rfl (yxg (C := tySView) hx187_24 (yv_ldb ti64 rfl rfl (rd_bl at0) (Sub.refl _) (Ty.len _ _) (by simp))) (.cons at0 (by kernel_rfl) .nil) .nil ?_
        obtain ⟨x188_24, hx188_24, h⟩ := letX h
        refine tk (i := 1) rfl (by kernel_rfl) rfl (yxg (C := (Ty.arr 8 tyB)) hx188_24 (yv_ldb ti62 rfl rfl (rd_bl at0) (Sub.refl _) (Ty.len _ _) (by simp))) (.cons at1 (by kernel_rfl) .nil) .nil ?_
        obtain ⟨x189_24, hx189_24, h⟩ := letX h
        refine tk (i := 2) rfl (by kernel_rfl) rfl (yxg (C := (Ty.arr 8 tyB)) hx189_24 (yv_ldb ti62 rfl rfl (rd_bl at0) (Sub.refl _) (Ty.len _ _) (by simp))) (.cons at2 (by kernel_rfl) .nil) .nil ?_
        refine jg_one (i := 3) (by kernel_rfl) (gst rfl rfl (so_sta ti64 rfl rfl rfl rfl (Upd.refl (by simp [Ty.len])) (Ty.len _ _) (Ty.one _ _) (xs' := tySView.enc x187_24) se3 ?_))
        refine ng (.cons at2 (.cons at1 .nil)) .nil ?_
        refine jg_one (i := 4) (by kernel_rfl) (gst rfl rfl (so_sta ti62 rfl rfl rfl rfl (Upd.refl (by simp [Ty.len])) (Ty.len _ _) (Ty.one _ _) (xs' := (Ty.arr 8 tyB).enc x188_24) se2 ?_))
        refine ng (.cons at1 .nil) .nil ?_
        refine jg_one (i := 5) (by kernel_rfl) (gst rfl rfl (so_sta ti62 rfl rfl rfl rfl (Upd.refl (by simp [Ty.len])) (Ty.len _ _) (Ty.one _ _) (xs' := (Ty.arr 8 tyB).enc x189_24) se1 ?_))
        refine ng .nil .nil ?_
        refine tk (i := 6) rfl (by kernel_rfl) rfl (yv_assign rfl rfl) .nil .nil ?_
        refine jg_nil (by kernel_rfl) ?_
        refine jx_then ?_
        refine jc_ret ?_
        refine jx_tr ?_
        cases h
        exact jx_ret rfl (rr_cella ti64 rfl at3 (Ty.len _ _) (rr_cella ti62 rfl at2 (Ty.len _ _) (rr_cella ti62 rfl at1 (Ty.len _ _) (rr_tmp rfl rr_nil)))) ⟨rfl, rfl, rfl, rfl⟩ .nil .nil rfl (by simp)
      ·
       replace h := brT h
       refine jc_t rfl ?_
       refine jc_skip ?_
       refine jx_then ?_
       refine jc_seq ?_
       refine jc_block ?_
       refine jc_seq ?_
       refine jc_reg ?_
       obtain ⟨g167_24, h⟩ := gdE h
       refine nj_open (rd_f at0) g167_24 fun b168_24 o169_24 ha_b168_24 => ?_
       refine sqv rfl (yv_is is31 rfl rfl rfl ha_b168_24 (rd_f at0) g167_24) ?_
       obtain ⟨x170_24, hx170_24, h⟩ := letX h
       refine sqv rfl (yxg (C := tySOp) hx170_24 (yv_lds ti54 rfl rfl ha_b168_24 (rd_f at0) (many_sub' tySOp p2 j150_24 g167_24) rfl (Ty.len _ _) (by simp))) ?_
       refine sq rfl (so_alloc ti54 (by decide) rfl rfl fun b171_24 => ?_)
       refine sq rfl (so_sta ti54 rfl rfl rfl rfl (Upd.refl (by simp [Ty.len])) (Ty.len _ _) (Ty.one _ _) (xs' := tySOp.enc x170_24) se0 ?_)
       refine jl_nil ?_
       refine jx_then ?_
       refine jc_seq ?_
       refine jc_reg ?_
       refine sqv rfl (yv_move rfl rfl) ?_
       refine sqv rfl (yv_ldb ti54 rfl rfl (rd_bl at0) (Sub.refl _) (Ty.len _ _) (by simp)) ?_
       obtain ⟨y172_24, hy172_24, h⟩ := bdE h
       refine sq rfl (so_callmx pf163 rfl rfl rfl rfl rfl (fun σ hs => F163_c hy172_24 σ.w σ.O hs.olt b10_24 (cm0 hs at1)) (fun _ => se1) (fun _ => rfl) (fun _ => .nil) (fun _ => .nil) (fun _ => ?_))
       refine sqv rfl (yv_assign rfl rfl) ?_
       refine jl_nil ?_
       refine jx_then ?_
       refine jc_seq ?_
       refine jc_reg ?_
       refine sqv rfl (yv_move rfl rfl) ?_
       obtain ⟨x173_24, hx173_24, h⟩ := letX h
       refine sqv rfl (yxb hx173_24 (yv_neq rfl rfl rfl)) ?_
       refine jl_nil ?_
       refine jx_then ?_
       rcases x173_24 with _ | _
       ·
        replace h := brF h
        refine jc_f rfl ?_
        refine jc_skip ?_
        refine jx_blk ?_
        refine jx_then ?_
        refine jc_reg ?_
        obtain ⟨x177_24, hx177_24, h⟩ := letX h
        refine sqv rfl (yxi hx177_24 (yv_add rfl rfl rfl)) ?_
        refine sqv rfl (yv_move rfl rfl) ?_
        refine jl_nil ?_
        refine jx_again ?_
        exact nj_weak (ih0 x177_24 y172_24.2 h) ⟨rfl, rfl, rfl, rfl, rfl, rfl, rfl, rfl, trivial⟩ (.cons de1 (.cons de1 (.cons de1 (.cons de1 .nil)))) (.cons at0 .nil)
       ·
        replace h := brT h
        refine jc_t rfl ?_
        refine jc_seq ?_
        refine jc_regd (k := 8) hmix rfl [([4], .blk b2 64 (tySView.enc SView.zero)), ([5], .blk b3 62 ((Ty.arr 8 tyB).enc (Vector.replicate 8 false))), ([6], .blk b4 62 ((Ty.arr 8 tyB).enc (Vector.replicate 8 false)))] [] (.cons at4 (.cons at3 (.cons at2 .nil))) .nil ?_
        obtain ⟨x174_24, hx174_24, h⟩ := letX h
        refine tk (i := 0) rfl (by kernel_rfl) rfl (yxg (C := tySView) hx174_24 (yv_ldb ti64 rfl rfl (rd_bl at0) (Sub.refl _) (Ty.len _ _) (by simp))) (.cons at0 (by kernel_rfl) .nil) .nil ?_
        obtain ⟨x175_24, hx175_24, h⟩ := letX h
        refine tk (i := 1) rfl (by kernel_rfl) rfl (yxg (C := (Ty.arr 8 tyB)) hx175_24 (yv_ldb ti62 rfl rfl (rd_bl at0) (Sub.refl _) (Ty.len _ _) (by simp))) (.cons at1 (by kernel_rfl) .nil) .nil ?_
        obtain ⟨x176_24, hx176_24, h⟩ := letX h
        refine tk (i := 2) rfl (by kernel_rfl) rfl (yxg (C := (Ty.arr 8 tyB)) hx176_24 (yv_ldb ti62 rfl rfl (rd_bl at0) (Sub.refl _) (Ty.len _ _) (by simp))) (.cons at2 (by kernel_rfl) .nil) .nil ?_
        refine tk (i := 3) rfl (by kernel_rfl) rfl (yv_move rfl rfl) .nil .nil ?_
        refine jg_one (i := 4) (by kernel_rfl) (gst rfl rfl (so_sta ti64 rfl rfl rfl rfl (Upd.refl (by simp [Ty.len])) (Ty.len _ _) (Ty.one _ _) (xs' := tySView.enc x174_24) se4 ?_))
        refine ng (.cons at3 (.cons at2 .nil)) .nil ?_
        refine jg_one (i := 5) (by kernel_rfl) (gst rfl rfl (so_sta ti62 rfl rfl rfl rfl (Upd.refl (by simp [Ty.len])) (Ty.len _ _) (Ty.one _ _) (xs' := (Ty.arr 8 tyB).enc x175_24) se3 ?_))
        refine ng (.cons at2 .nil) .nil ?_
        refine jg_one (i := 6) (by kernel_rfl) (gst rfl rfl (so_sta ti62 rfl rfl rfl rfl (Upd.refl (by simp [Ty.len])) (Ty.len _ _) (Ty.one _ _) (xs' := (Ty.arr 8 tyB).enc x176_24) se2 ?_))
        refine ng .nil .nil ?_
        refine tk (i := 7) rfl (by kernel_rfl) rfl (yv_assign rfl rfl) .nil .nil ?_
        refine jg_nil (by kernel_rfl) ?_
        refine jx_then ?_
        refine jc_ret ?_
        refine jx_br ?_
        refine jx_tr ?_
        refine jx_tr ?_
        refine jx_abs hQ0 ?_
        refine jx_br ?_
        refine jx_tr ?_
        cases h
        exact jx_ret rfl (rr_cella ti64 rfl at4 (Ty.len _ _) (rr_cella ti62 rfl at3 (Ty.len _ _) (rr_cella ti62 rfl at2 (Ty.len _ _) (rr_tmp rfl rr_nil)))) ⟨rfl, rfl, rfl, rfl⟩ .nil .nil rfl (by simp)
    exact nj_weak (key0 FUEL 0 x9_24 h) ⟨rfl, rfl, rfl, rfl, rfl, rfl, rfl, rfl, trivial⟩ (.cons de0 (.cons de0 (.cons de0 (.cons de0 .nil)))) (.cons at0 .nil)
   ·
    replace h := brT h
    refine jc_t rfl ?_
    refine jc_seq ?_
    refine jc_regd (k := 7) hmix rfl [([3], .blk b2 64 (tySView.enc SView.zero)), ([4], .blk b3 62 ((Ty.arr 8 tyB).enc (Vector.replicate 8 false))), ([5], .blk b4 62 ((Ty.arr 8 tyB).enc (Vector.replicate 8 false)))] [] (.cons at2 (.cons at1 (.cons at0 .nil))) .nil ?_
    obtain ⟨x6_24, hx6_24, h⟩ := letX h
    refine tk (i := 0) rfl (by kernel_rfl) rfl (yxg (C := tySView) hx6_24 (yv_ldb ti64 rfl rfl (rd_bl at0) (Sub.refl _) (Ty.len _ _) (by simp))) (.cons at0 (by kernel_rfl) .nil) .nil ?_
    obtain ⟨x7_24, hx7_24, h⟩ := letX h
    refine tk (i := 1) rfl (by kernel_rfl) rfl (yxg (C := (Ty.arr 8 tyB)) hx7_24 (yv_ldb ti62 rfl rfl (rd_bl at0) (Sub.refl _) (Ty.len _ _) (by simp))) (.cons at1 (by kernel_rfl) .nil) .nil ?_
    obtain ⟨x8_24, hx8_24, h⟩ := letX h
    refine tk (i := 2) rfl (by kernel_rfl) rfl (yxg (C := (Ty.arr 8 tyB)) hx8_24 (yv_ldb ti62 rfl rfl (rd_bl at0) (Sub.refl _) (Ty.len _ _) (by simp))) (.cons at2 (by kernel_rfl) .nil) .nil ?_
    refine jg_one (i := 3) (by kernel_rfl) (gst rfl rfl (so_sta ti64 rfl rfl rfl rfl (Upd.refl (by simp [Ty.len])) (Ty.len _ _) (Ty.one _ _) (xs' := tySView.enc x6_24) se2 ?_))
    refine ng (.cons at1 (.cons at0 .nil)) .nil ?_
    refine jg_one (i := 4) (by kernel_rfl) (gst rfl rfl (so_sta ti62 rfl rfl rfl rfl (Upd.refl (by simp [Ty.len])) (Ty.len _ _) (Ty.one _ _) (xs' := (Ty.arr 8 tyB).enc x7_24) se1 ?_))
    refine ng (.cons at0 .nil) .nil ?_
    refine jg_one (i := 5) (by kernel_rfl) (gst rfl rfl (so_sta ti62 rfl rfl rfl rfl (Upd.refl (by simp [Ty.len])) (Ty.len _ _) (Ty.one _ _) (xs' := (Ty.arr 8 tyB).enc x8_24) se0 ?_))
    refine ng .nil .nil ?_
    refine tk (i := 6) rfl (by kernel_rfl) rfl (yv_assign rfl rfl) .nil .nil ?_
    refine jg_nil (by kernel_rfl) ?_
    refine jx_then ?_
    refine jc_ret ?_
    refine jx_br ?_
    refine jx_tr ?_
    cases h
    exact jx_ret rfl (rr_cella ti64 rfl at2 (Ty.len _ _) (rr_cella ti62 rfl at1 (Ty.len _ _) (rr_cella ti62 rfl at0 (Ty.len _ _) (rr_tmp rfl rr_nil)))) ⟨rfl, rfl, rfl, rfl⟩ .nil .nil rfl (by simp)
  ·
   replace h := brT h
   refine jc_t rfl ?_
   refine jc_seq ?_
   refine jc_regd (k := 7) hmix rfl [([3], .blk b2 64 (tySView.enc SView.zero)), ([4], .blk b3 62 ((Ty.arr 8 tyB).enc (Vector.replicate 8 false))), ([5], .blk b4 62 ((Ty.arr 8 tyB).enc (Vector.replicate 8 false)))] [] (.cons at2 (.cons at1 (.cons at0 .nil))) .nil ?_
   obtain ⟨x1_24, hx1_24, h⟩ := letX h
   refine tk (i := 0) rfl (by kernel_rfl) rfl (yxg (C := tySView) hx1_24 (yv_ldb ti64 rfl rfl (rd_bl at0) (Sub.refl _) (Ty.len _ _) (by simp))) (.cons at0 (by kernel_rfl) .nil) .nil ?_
   obtain ⟨x2_24, hx2_24, h⟩ := letX h
   refine tk (i := 1) rfl (by kernel_rfl) rfl (yxg (C := (Ty.arr 8 tyB)) hx2_24 (yv_ldb ti62 rfl rfl (rd_bl at0) (Sub.refl _) (Ty.len _ _) (by simp))) (.cons at1 (by kernel_rfl) .nil) .nil ?_
   obtain ⟨x3_24, hx3_24, h⟩ := letX h
   refine tk (i := 2) rfl (by kernel_rfl) rfl (yxg (C := (Ty.arr 8 tyB)) hx3_24 (yv_ldb ti62 rfl rfl (rd_bl at0) (Sub.refl _) (Ty.len _ _) (by simp))) (.cons at2 (by kernel_rfl) .nil) .nil ?_
   refine jg_one (i := 3) (by kernel_rfl) (gst rfl rfl (so_sta ti64 rfl rfl rfl rfl (Upd.refl (by simp [Ty.len])) (Ty.len _ _) (Ty.one _ _) (xs' := tySView.enc x1_24) se2 ?_))
   refine ng (.cons at1 (.cons at0 .nil)) .nil ?_
   refine jg_one (i := 4) (by kernel_rfl) (gst rfl rfl (so_sta ti62 rfl rfl rfl rfl (Upd.refl (by simp [Ty.len])) (Ty.len _ _) (Ty.one _ _) (xs' := (Ty.arr 8 tyB).enc x2_24) se1 ?_))
   refine ng (.cons at0 .nil) .nil ?_
   refine jg_one (i := 5) (by kernel_rfl) (gst rfl rfl (so_sta ti62 rfl rfl rfl rfl (Upd.refl (by simp [Ty.len])) (Ty.len _ _) (Ty.one _ _) (xs' := (Ty.arr 8 tyB).enc x3_24) se0 ?_))
   refine ng .nil .nil ?_
   refine tk (i := 6) rfl (by kernel_rfl) rfl (yv_assign rfl rfl) .nil .nil ?_
   refine jg_nil (by kernel_rfl) ?_
   refine jx_then ?_
   refine jc_ret ?_
   refine jx_br ?_
   refine jx_tr ?_
   cases h
   exact jx_ret rfl (rr_cella ti64 rfl at2 (Ty.len _ _) (rr_cella ti62 rfl at1 (Ty.len _ _) (rr_cella ti62 rfl at0 (Ty.len _ _) (rr_tmp rfl rr_nil)))) ⟨rfl, rfl, rfl, rfl⟩ .nil .nil rfl (by simp)
 refine jc_reg ?_
 refine sqv rfl (yv_ldb ti64 rfl rfl (rd_bl at3) (Sub.refl _) (Ty.len _ _) (by simp)) ?_
 obtain ⟨y15, hy15, h⟩ := bdE h
 refine sq rfl (so_callv pf160 rfl rfl rfl rfl (fun σ hs => F160_c hy15 σ.w σ.O hs.olt) ?_)
 obtain ⟨x16, hx16, h⟩ := letX h
 refine sqv rfl (yxb hx16 (yv_not rfl rfl)) ?_
 refine sqv rfl (yv_move rfl rfl) ?_
 rcases x16 with _ | _
 ·
  replace h := brF h
  refine sqv rfl (yv_move rfl rfl) ?_
  obtain ⟨x18, hx18, h⟩ := letX h
  refine sqv rfl (yv_len isl31 rfl rfl (rd_f at0) hx18) ?_
  obtain ⟨x19, hx19, h⟩ := letX h
  refine sqv rfl (yxb hx19 (yv_gtr rfl rfl rfl)) ?_
  refine sqv rfl (yv_pick_f rfl rfl rfl) ?_
  refine sqv rfl (yv_move rfl rfl) ?_
  rcases x19 with _ | _
  ·
   replace h := brF h
   refine sqv rfl (yv_move rfl rfl) ?_
   refine sqv rfl (yv_move rfl rfl) ?_
   obtain ⟨y21, hy21, h⟩ := bdE h
   refine sq rfl (so_callv pf161 rfl rfl rfl rfl (fun σ hs => F161_158_c hy21 σ.w σ.O hs.olt v2 (cw0 (rd_f at0) hs)) ?_)
   refine sqv rfl (yv_pick_f rfl rfl rfl) ?_
   refine sqv rfl (yv_assign rfl rfl) ?_
   refine jl_nil ?_
   refine jx_then_n ?_
   exact nj_weak (hj0 y21 h) ⟨rfl, rfl, rfl, rfl, rfl, rfl, rfl, rfl, trivial⟩ (.cons de0 (.cons de0 (.cons de0 (.cons de0 .nil)))) (.cons at0 .nil)
  ·
   replace h := brT h
   refine sq_skip rfl ?_
   refine sq_skip rfl ?_
   refine sq_skip rfl ?_
   refine sqv rfl (yv_pick_t rfl rfl rfl) ?_
   refine sqv rfl (yv_assign rfl rfl) ?_
   refine jl_nil ?_
   refine jx_then_n ?_
   exact nj_weak (hj0 true h) ⟨rfl, rfl, rfl, rfl, rfl, rfl, rfl, rfl, trivial⟩ (.cons de0 (.cons de0 (.cons de0 (.cons de0 .nil)))) (.cons at0 .nil)
 ·
  replace h := brT h
  refine sq_skip rfl ?_
  refine sq_skip rfl ?_
  refine sq_skip rfl ?_
  refine sqv rfl (yv_pick_t rfl rfl rfl) ?_
  refine sqv rfl (yv_move rfl rfl) ?_
  refine sq_skip rfl ?_
  refine sq_skip rfl ?_
  refine sq_skip rfl ?_
  refine sqv rfl (yv_pick_t rfl rfl rfl) ?_
  refine sqv rfl (yv_assign rfl rfl) ?_
  refine jl_nil ?_
  refine jx_then_n ?_
  exact nj_weak (hj0 true h) ⟨rfl, rfl, rfl, rfl, rfl, rfl, rfl, rfl, trivial⟩ (.cons de0 (.cons de0 (.cons de0 (.cons de0 .nil)))) (.cons at0 .nil)
theorem F169_c {p0 : Int} {r : (List Int)} (h : F169 p0 = some r) (w0 : World) (O0 : Nat → Prop) (hO : ∀ k, O0 k → k < w0.heap.size) :
  CallsP Tryz.prog 169 (List.toArray [.int .i64 p0]) w0 O0 [] (RX (fun x : Sl => sv x) (fun x => [.sli x 5 (tyI .u8).size (r).length ((tyI .u8).many r)]) (fun x => [])) := by
 unfold F169 at h
 refine calls_start (e := [(0, .int .i64 p0)]) (L := []) (K := []) Tryz.func169 rfl rfl rfl ⟨rfl, trivial⟩ hO (by simp) .nil aln ?_
 refine jc_seq ?_
 refine jc_reg ?_
 refine sqv rfl (yv_assign rfl rfl) ?_
 refine jl_nil ?_
 refine jx_then ?_
 refine jc_seq ?_
 refine jc_reg ?_
 obtain ⟨g1, h⟩ := gdE h
 obtain ⟨l3, hl3, h⟩ := letX h
 refine sq rfl (so_makeX hl3 si97 sz97 rfl rfl rfl rfl g1 fun s2 => ?_)
 refine sqv rfl (yv_assign rfl rfl) ?_
 refine jl_nil ?_
 refine jx_then ?_
 refine jc_seq ?_
 refine jc_seq ?_
 refine jc_reg ?_
 refine sqv rfl (yv_move rfl rfl) ?_
 obtain ⟨x4, hx4, h⟩ := letX h
 refine sqv rfl (yv_len isl97 rfl rfl (rd_o at0) hx4) ?_
 refine sqv rfl (yv_move rfl rfl) ?_
 refine jl_nil ?_
 refine jx_then ?_
 refine jc_block ?_
 refine jc_loop ?_
 intro B0 Q0 hB0 hQ0
 have key0 : ∀ (k0 : Nat) (j51 : (List Int)) (j52 : Int) (z50 : Sl), F169_l0 x4 p0 k0 j51 j52 = some r → JW 22 w0 O0 [] Tryz.prog B0 Q0 [(0, .int .i64 p0), (2, sv (⟨none, 0, 0⟩ : Sl)), (3, sv z50), (7, .int .i64 x4), (8, .int .i64 j52)] [.sli z50 5 (tyI .u8).size (j51).length ((tyI .u8).many j51)] [] := by
  intro k0
  induction k0 with
  | zero => intro j51 j52 z50 h; cases h
  | succ k0 ih0 =>
   intro j51 j52 z50 h
   unfold F169_l0 at h
   refine jw_round hB0 ?_
   refine jc_seq ?_
   refine jc_reg ?_
   obtain ⟨x53, hx53, h⟩ := letX h
   refine sqv rfl (yxb hx53 (yv_lss rfl rfl rfl)) ?_
   refine jl_nil ?_
   refine jx_then ?_
   refine jc_seq ?_
   rcases x53 with _ | _
   ·
    replace h := brF h
    refine jc_f rfl ?_
    refine jc_exit ?_
    refine jx_te ?_
    refine jx_te ?_
    refine jx_abs hQ0 ?_
    refine jx_hit ?_
    refine jx_then ?_
    refine jc_seq ?_
    refine jc_reg ?_
    refine sqv rfl (yv_move rfl rfl) ?_
    refine sqv rfl (yv_assign rfl rfl) ?_
    refine jl_nil ?_
    refine jx_then ?_
    refine jc_ret ?_
    cases h
    exact jx_ret rfl (rr_tmp rfl rr_nil) ⟨(z50), rfl, rfl, rfl, rfl⟩ (.cons de0 .nil) .nil rfl (by simp)
   ·
    replace h := brT h
    refine jc_t rfl ?_
    refine jc_skip ?_
    refine jx_then ?_
    refine jc_seq ?_
    refine jc_block ?_
    refine jc_seq ?_
    refine jc_reg ?_
    refine sqv rfl (yv_move rfl rfl) ?_
    refine sqv rfl (yv_assign rfl rfl) ?_
    refine jl_nil ?_
    refine jx_then ?_
    refine jc_reg ?_
    refine sqv rfl (yv_move rfl rfl) ?_
    refine sqv rfl (yv_move rfl rfl) ?_
    refine sqv rfl (yv_move rfl rfl) ?_
    refine sqv rfl (yv_move rfl rfl) ?_
    obtain ⟨x65, hx65, h⟩ := letX h
    refine sqv rfl (yxi hx65 (yv_sub rfl rfl rfl)) ?_
    obtain ⟨x66, hx66, h⟩ := letX h
    refine sqv rfl (yxi hx66 (yv_mul rfl rfl rfl)) ?_
    obtain ⟨g67, h⟩ := gdE h
    obtain ⟨x68, hx68, h⟩ := letX h
    refine sqv rfl (yxi hx68 (yv_shr rfl rfl rfl g67)) ?_
    obtain ⟨x69, hx69, h⟩ := letX h
    refine sqv rfl (yxi hx69 (yv_con rfl (by rw [Tryz.underlying3]; rfl) Tryz.underlying5 rfl)) ?_
    obtain ⟨g70, h⟩ := gdE h
    refine nj_openo at0 g70 fun b71 ha_b71 => ?_
    refine sqv rfl (yv_is is97 rfl rfl rfl ha_b71 (rd_o at0) g70) ?_
    obtain ⟨l72, hl72, h⟩ := letX h
    refine sq rfl (so_sto1L hl72 ti5 rfl rfl rfl rfl rfl rfl ha_b71 g70 se0 ?_)
    refine jl_nil ?_
    refine jx_blk ?_
    refine jx_then ?_
    refine jc_reg ?_
    obtain ⟨x73, hx73, h⟩ := letX h
    refine sqv rfl (yxi hx73 (yv_add rfl rfl rfl)) ?_
    refine sqv rfl (yv_move rfl rfl) ?_
    refine jl_nil ?_
    refine jx_again ?_
    exact nj_weak (ih0 l72 x73 z50 h) ⟨rfl, rfl, rfl, rfl, rfl, trivial⟩ (.cons de0 .nil) .nil
 exact nj_weak (key0 FUEL l3 0 s2 h) ⟨rfl, rfl, rfl, rfl, rfl, trivial⟩ (.cons de0 .nil) .nil
end Go.Proofs.YtbhbpfdjlabamaaGreat
