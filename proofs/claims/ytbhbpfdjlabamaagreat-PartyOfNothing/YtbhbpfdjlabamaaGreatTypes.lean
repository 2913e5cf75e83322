/-
  The closed facts on the types of the program.
-/
import Derived.Test.YtbhbpfdjlabamaaGreatData
import Derived.Test.YtbhbpfdjlabamaaGreatProg
import Derived.KernelRfl
set_option linter.all false
set_option linter.unusedVariables false
set_option linter.unusedSimpArgs false
namespace Go.Proofs.YtbhbpfdjlabamaaGreat
open Go
open Go.Proofs

theorem ti3 : TyI Tryz.prog 3 false 1 ((tyI .i64).enc (0 : Int)) := ⟨by kernel_rfl, by kernel_rfl, by kernel_rfl⟩
theorem ti4 : TyI Tryz.prog 4 false 1 (tyB.enc false) := ⟨by kernel_rfl, by kernel_rfl, by kernel_rfl⟩
theorem ti5 : TyI Tryz.prog 5 false 1 ((tyI .u8).enc (0 : Int)) := ⟨by kernel_rfl, by kernel_rfl, by kernel_rfl⟩
theorem ti22 : TyI Tryz.prog 22 false 1 (tyP.enc (none : Option Addr)) := ⟨by kernel_rfl, by kernel_rfl, by kernel_rfl⟩
theorem ti25 : TyI Tryz.prog 25 true 32 ((Ty.arr 32 (tyI .u8)).enc (Vector.replicate 32 (0 : Int))) := ⟨by kernel_rfl, by kernel_rfl, by kernel_rfl⟩
theorem ti27 : TyI Tryz.prog 27 false 1 (tyP.enc (none : Option Addr)) := ⟨by kernel_rfl, by kernel_rfl, by kernel_rfl⟩
theorem ti31 : TyI Tryz.prog 31 false 1 (tySl.enc (⟨none, 0, 0⟩ : Sl)) := ⟨by kernel_rfl, by kernel_rfl, by kernel_rfl⟩
theorem ti32 : TyI Tryz.prog 32 false 1 (tySl.enc (⟨none, 0, 0⟩ : Sl)) := ⟨by kernel_rfl, by kernel_rfl, by kernel_rfl⟩
theorem ti33 : TyI Tryz.prog 33 true 3 ((Ty.arr 3 (tyI .i64)).enc (Vector.replicate 3 (0 : Int))) := ⟨by kernel_rfl, by kernel_rfl, by kernel_rfl⟩
theorem ti34 : TyI Tryz.prog 34 false 1 (tySl.enc (⟨none, 0, 0⟩ : Sl)) := ⟨by kernel_rfl, by kernel_rfl, by kernel_rfl⟩
theorem ti36 : TyI Tryz.prog 36 true 2 (tySSig.enc SSig.zero) := ⟨by kernel_rfl, by kernel_rfl, by kernel_rfl⟩
theorem ti38 : TyI Tryz.prog 38 true 43 (tyVCommit.enc VCommit.zero) := ⟨by kernel_rfl, by kernel_rfl, by kernel_rfl⟩
theorem ti51 : TyI Tryz.prog 51 true 2 (tySLeaf.enc SLeaf.zero) := ⟨by kernel_rfl, by kernel_rfl, by kernel_rfl⟩
theorem ti54 : TyI Tryz.prog 54 true 5 (tySOp.enc SOp.zero) := ⟨by kernel_rfl, by kernel_rfl, by kernel_rfl⟩
theorem ti58 : TyI Tryz.prog 58 true 16 ((Ty.arr 8 tySLeaf).enc (Vector.replicate 8 SLeaf.zero)) := ⟨by kernel_rfl, by kernel_rfl, by kernel_rfl⟩
theorem ti59 : TyI Tryz.prog 59 true 15 ((Ty.arr 15 (tyI .i64)).enc (Vector.replicate 15 (0 : Int))) := ⟨by kernel_rfl, by kernel_rfl, by kernel_rfl⟩
theorem ti61 : TyI Tryz.prog 61 true 31 (tySTree.enc STree.zero) := ⟨by kernel_rfl, by kernel_rfl, by kernel_rfl⟩
theorem ti62 : TyI Tryz.prog 62 true 8 ((Ty.arr 8 tyB).enc (Vector.replicate 8 false)) := ⟨by kernel_rfl, by kernel_rfl, by kernel_rfl⟩
theorem ti64 : TyI Tryz.prog 64 true 73 (tySView.enc SView.zero) := ⟨by kernel_rfl, by kernel_rfl, by kernel_rfl⟩
theorem ti70 : TyI Tryz.prog 70 false 1 (tyP.enc (none : Option Addr)) := ⟨by kernel_rfl, by kernel_rfl, by kernel_rfl⟩
theorem ti81 : TyI Tryz.prog 81 true 2 (tyVcurialaw13both.enc Vcurialaw13both.zero) := ⟨by kernel_rfl, by kernel_rfl, by kernel_rfl⟩
theorem ti88 : TyI Tryz.prog 88 true 2 (tyScuriaref3Key.enc Scuriaref3Key.zero) := ⟨by kernel_rfl, by kernel_rfl, by kernel_rfl⟩
theorem ti92 : TyI Tryz.prog 92 true 635 (tyScuriaref13Party.enc Scuriaref13Party.zero) := ⟨by kernel_rfl, by kernel_rfl, by kernel_rfl⟩
theorem ti97 : TyI Tryz.prog 97 false 1 (tySl.enc (⟨none, 0, 0⟩ : Sl)) := ⟨by kernel_rfl, by kernel_rfl, by kernel_rfl⟩
theorem ti103 : TyI Tryz.prog 103 true 108 (tyVWelcome.enc VWelcome.zero) := ⟨by kernel_rfl, by kernel_rfl, by kernel_rfl⟩
theorem ti113 : TyI Tryz.prog 113 true 7 (tyVAct.enc VAct.zero) := ⟨by kernel_rfl, by kernel_rfl, by kernel_rfl⟩
theorem ti140 : TyI Tryz.prog 140 true 3 ((Ty.arr 3 tyB).enc (Vector.replicate 3 false)) := ⟨by kernel_rfl, by kernel_rfl, by kernel_rfl⟩
theorem ti141 : TyI Tryz.prog 141 true 96 ((Ty.arr 3 (Ty.arr 32 (tyI .u8))).enc (Vector.replicate 3 (Vector.replicate 32 (0 : Int)))) := ⟨by kernel_rfl, by kernel_rfl, by kernel_rfl⟩
theorem ti143 : TyI Tryz.prog 143 true 270 (tyVpartyParty.enc VpartyParty.zero) := ⟨by kernel_rfl, by kernel_rfl, by kernel_rfl⟩
theorem ti173 : TyI Tryz.prog 173 true 2 ((Ty.arr 2 (tyI .i64)).enc (Vector.replicate 2 (0 : Int))) := ⟨by kernel_rfl, by kernel_rfl, by kernel_rfl⟩
theorem ti182 : TyI Tryz.prog 182 true 3 (tySVote.enc SVote.zero) := ⟨by kernel_rfl, by kernel_rfl, by kernel_rfl⟩
theorem ti228 : TyI Tryz.prog 228 false 1 (tySl.enc (⟨none, 0, 0⟩ : Sl)) := ⟨by kernel_rfl, by kernel_rfl, by kernel_rfl⟩
theorem ti230 : TyI Tryz.prog 230 true 2 (tyVcuriaref11Book.enc Vcuriaref11Book.zero) := ⟨by kernel_rfl, by kernel_rfl, by kernel_rfl⟩
theorem ti240 : TyI Tryz.prog 240 true 33 (tyScuriaref11Item.enc Scuriaref11Item.zero) := ⟨by kernel_rfl, by kernel_rfl, by kernel_rfl⟩
theorem ti243 : TyI Tryz.prog 243 false 1 [.nilFunc] := ⟨by kernel_rfl, by kernel_rfl, by kernel_rfl⟩
theorem ti247 : TyI Tryz.prog 247 true 90 (tySviewchange.enc Sviewchange.zero) := ⟨by kernel_rfl, by kernel_rfl, by kernel_rfl⟩
theorem ti295 : TyI Tryz.prog 295 false 1 ((tyI .u64).enc (0 : Int)) := ⟨by kernel_rfl, by kernel_rfl, by kernel_rfl⟩
theorem ti296 : TyI Tryz.prog 296 true 5 ((Ty.arr 5 (tyI .u64)).enc (Vector.replicate 5 (0 : Int))) := ⟨by kernel_rfl, by kernel_rfl, by kernel_rfl⟩
theorem ti334 : TyI Tryz.prog 334 true 2 (tyVcuriaref12cursor.enc Vcuriaref12cursor.zero) := ⟨by kernel_rfl, by kernel_rfl, by kernel_rfl⟩
theorem ti354 : TyI Tryz.prog 354 true 2 (tyVwirereader.enc Vwirereader.zero) := ⟨by kernel_rfl, by kernel_rfl, by kernel_rfl⟩
theorem ti365 : TyI Tryz.prog 365 false 1 [.nilFunc] := ⟨by kernel_rfl, by kernel_rfl, by kernel_rfl⟩
theorem ti367 : TyI Tryz.prog 367 false 1 [.nilFunc] := ⟨by kernel_rfl, by kernel_rfl, by kernel_rfl⟩
theorem ti368 : TyI Tryz.prog 368 true 5 ((Ty.arr 5 (tyI .i64)).enc (Vector.replicate 5 (0 : Int))) := ⟨by kernel_rfl, by kernel_rfl, by kernel_rfl⟩
theorem yv_bkey {n e L K} {o : Oper} {x : Operand} {s : Int} (ho : o.op = .build 267 #[(0, x)]) (hx : evo e x = some (.int .i64 s)) : Yv n Tryz.prog o e L K (ag [.int .i64 s, .int .u32 0, .int .i32 0, .int .u32 0, .int .i64 0, .int .u32 0, .int .i64 0]) :=
  yv_build (P := Tryz.prog) (ps := [(0, x)]) (vs := [(0, .int .i64 s)]) (BI.struct (places := [(0, 1), (1, 3), (4, 1), (5, 1), (6, 1)]) (zs := [.int .i64 0, .int .u32 0, .int .i32 0, .int .u32 0, .int .i64 0, .int .u32 0, .int .i64 0]) Tryz.underlying267 (by kernel_rfl) (by kernel_rfl)) ho (by simp [evp, hx]) (fills_cons (ys := [.int .i64 s]) rfl (upd_head (a := [_]) (by simp)) rfl rfl fills_nil)
theorem fa36_0 : FA Tryz.prog 36 0 0 := FA.mk (fd := _) Tryz.underlying36 rfl rfl ⟨0, by kernel_rfl⟩
theorem fa36_1 : FA Tryz.prog 36 1 1 := FA.mk (fd := _) Tryz.underlying36 rfl rfl ⟨0, by kernel_rfl⟩
theorem fa38_0 : FA Tryz.prog 38 0 0 := FA.mk (fd := _) Tryz.underlying38 rfl rfl ⟨0, by kernel_rfl⟩
theorem fa38_1 : FA Tryz.prog 38 1 1 := FA.mk (fd := _) Tryz.underlying38 rfl rfl ⟨0, by kernel_rfl⟩
theorem fa38_2 : FA Tryz.prog 38 2 2 := FA.mk (fd := _) Tryz.underlying38 rfl rfl ⟨0, by kernel_rfl⟩
theorem fa38_3 : FA Tryz.prog 38 3 3 := FA.mk (fd := _) Tryz.underlying38 rfl rfl ⟨0, by kernel_rfl⟩
theorem fa38_4 : FA Tryz.prog 38 4 4 := FA.mk (fd := _) Tryz.underlying38 rfl rfl ⟨0, by kernel_rfl⟩
theorem fa38_5 : FA Tryz.prog 38 5 5 := FA.mk (fd := _) Tryz.underlying38 rfl rfl ⟨2, by kernel_rfl⟩
theorem fa38_6 : FA Tryz.prog 38 6 8 := FA.mk (fd := _) Tryz.underlying38 rfl rfl ⟨0, by kernel_rfl⟩
theorem fa38_7 : FA Tryz.prog 38 7 9 := FA.mk (fd := _) Tryz.underlying38 rfl rfl ⟨31, by kernel_rfl⟩
theorem fa38_8 : FA Tryz.prog 38 8 41 := FA.mk (fd := _) Tryz.underlying38 rfl rfl ⟨1, by kernel_rfl⟩
theorem fa51_0 : FA Tryz.prog 51 0 0 := FA.mk (fd := _) Tryz.underlying51 rfl rfl ⟨0, by kernel_rfl⟩
theorem fa51_1 : FA Tryz.prog 51 1 1 := FA.mk (fd := _) Tryz.underlying51 rfl rfl ⟨0, by kernel_rfl⟩
theorem fa54_0 : FA Tryz.prog 54 0 0 := FA.mk (fd := _) Tryz.underlying54 rfl rfl ⟨0, by kernel_rfl⟩
theorem fa54_1 : FA Tryz.prog 54 1 1 := FA.mk (fd := _) Tryz.underlying54 rfl rfl ⟨0, by kernel_rfl⟩
theorem fa54_2 : FA Tryz.prog 54 2 2 := FA.mk (fd := _) Tryz.underlying54 rfl rfl ⟨0, by kernel_rfl⟩
theorem fa54_3 : FA Tryz.prog 54 3 3 := FA.mk (fd := _) Tryz.underlying54 rfl rfl ⟨1, by kernel_rfl⟩
theorem fa61_0 : FA Tryz.prog 61 0 0 := FA.mk (fd := _) Tryz.underlying61 rfl rfl ⟨15, by kernel_rfl⟩
theorem fa61_1 : FA Tryz.prog 61 1 16 := FA.mk (fd := _) Tryz.underlying61 rfl rfl ⟨14, by kernel_rfl⟩
theorem fa64_0 : FA Tryz.prog 64 0 0 := FA.mk (fd := _) Tryz.underlying64 rfl rfl ⟨0, by kernel_rfl⟩
theorem fa64_1 : FA Tryz.prog 64 1 1 := FA.mk (fd := _) Tryz.underlying64 rfl rfl ⟨30, by kernel_rfl⟩
theorem fa64_2 : FA Tryz.prog 64 2 32 := FA.mk (fd := _) Tryz.underlying64 rfl rfl ⟨7, by kernel_rfl⟩
theorem fa64_3 : FA Tryz.prog 64 3 40 := FA.mk (fd := _) Tryz.underlying64 rfl rfl ⟨0, by kernel_rfl⟩
theorem fa64_4 : FA Tryz.prog 64 4 41 := FA.mk (fd := _) Tryz.underlying64 rfl rfl ⟨31, by kernel_rfl⟩
theorem fa79_0 : FA Tryz.prog 79 0 0 := FA.mk (fd := _) Tryz.underlying79 rfl rfl ⟨0, by kernel_rfl⟩
theorem fa79_1 : FA Tryz.prog 79 1 1 := FA.mk (fd := _) Tryz.underlying79 rfl rfl ⟨0, by kernel_rfl⟩
theorem fa79_2 : FA Tryz.prog 79 2 2 := FA.mk (fd := _) Tryz.underlying79 rfl rfl ⟨0, by kernel_rfl⟩
theorem fa81_0 : FA Tryz.prog 81 0 0 := FA.mk (fd := _) Tryz.underlying81 rfl rfl ⟨0, by kernel_rfl⟩
theorem fa81_1 : FA Tryz.prog 81 1 1 := FA.mk (fd := _) Tryz.underlying81 rfl rfl ⟨0, by kernel_rfl⟩
theorem fa88_0 : FA Tryz.prog 88 0 0 := FA.mk (fd := _) Tryz.underlying88 rfl rfl ⟨0, by kernel_rfl⟩
theorem fa88_1 : FA Tryz.prog 88 1 1 := FA.mk (fd := _) Tryz.underlying88 rfl rfl ⟨0, by kernel_rfl⟩
theorem fa92_0 : FA Tryz.prog 92 0 0 := FA.mk (fd := _) Tryz.underlying92 rfl rfl ⟨72, by kernel_rfl⟩
theorem fa92_1 : FA Tryz.prog 92 1 73 := FA.mk (fd := _) Tryz.underlying92 rfl rfl ⟨0, by kernel_rfl⟩
theorem fa92_2 : FA Tryz.prog 92 2 74 := FA.mk (fd := _) Tryz.underlying92 rfl rfl ⟨1, by kernel_rfl⟩
theorem fa92_3 : FA Tryz.prog 92 3 76 := FA.mk (fd := _) Tryz.underlying92 rfl rfl ⟨479, by kernel_rfl⟩
theorem fa92_4 : FA Tryz.prog 92 4 556 := FA.mk (fd := _) Tryz.underlying92 rfl rfl ⟨14, by kernel_rfl⟩
theorem fa92_5 : FA Tryz.prog 92 5 571 := FA.mk (fd := _) Tryz.underlying92 rfl rfl ⟨31, by kernel_rfl⟩
theorem fa92_6 : FA Tryz.prog 92 6 603 := FA.mk (fd := _) Tryz.underlying92 rfl rfl ⟨31, by kernel_rfl⟩
theorem fa103_0 : FA Tryz.prog 103 0 0 := FA.mk (fd := _) Tryz.underlying103 rfl rfl ⟨0, by kernel_rfl⟩
theorem fa103_1 : FA Tryz.prog 103 1 1 := FA.mk (fd := _) Tryz.underlying103 rfl rfl ⟨0, by kernel_rfl⟩
theorem fa103_2 : FA Tryz.prog 103 2 2 := FA.mk (fd := _) Tryz.underlying103 rfl rfl ⟨72, by kernel_rfl⟩
theorem fa103_3 : FA Tryz.prog 103 3 75 := FA.mk (fd := _) Tryz.underlying103 rfl rfl ⟨0, by kernel_rfl⟩
theorem fa103_4 : FA Tryz.prog 103 4 76 := FA.mk (fd := _) Tryz.underlying103 rfl rfl ⟨31, by kernel_rfl⟩
theorem fa113_4 : FA Tryz.prog 113 4 4 := FA.mk (fd := _) Tryz.underlying113 rfl rfl ⟨0, by kernel_rfl⟩
theorem fa113_6 : FA Tryz.prog 113 6 6 := FA.mk (fd := _) Tryz.underlying113 rfl rfl ⟨0, by kernel_rfl⟩
theorem fa143_0 : FA Tryz.prog 143 0 0 := FA.mk (fd := _) Tryz.underlying143 rfl rfl ⟨72, by kernel_rfl⟩
theorem fa143_1 : FA Tryz.prog 143 1 73 := FA.mk (fd := _) Tryz.underlying143 rfl rfl ⟨0, by kernel_rfl⟩
theorem fa143_2 : FA Tryz.prog 143 2 74 := FA.mk (fd := _) Tryz.underlying143 rfl rfl ⟨0, by kernel_rfl⟩
theorem fa143_3 : FA Tryz.prog 143 3 75 := FA.mk (fd := _) Tryz.underlying143 rfl rfl ⟨31, by kernel_rfl⟩
theorem fa143_4 : FA Tryz.prog 143 4 107 := FA.mk (fd := _) Tryz.underlying143 rfl rfl ⟨2, by kernel_rfl⟩
theorem fa143_5 : FA Tryz.prog 143 5 110 := FA.mk (fd := _) Tryz.underlying143 rfl rfl ⟨95, by kernel_rfl⟩
theorem fa143_6 : FA Tryz.prog 143 6 206 := FA.mk (fd := _) Tryz.underlying143 rfl rfl ⟨31, by kernel_rfl⟩
theorem fa143_7 : FA Tryz.prog 143 7 238 := FA.mk (fd := _) Tryz.underlying143 rfl rfl ⟨31, by kernel_rfl⟩
theorem fa182_0 : FA Tryz.prog 182 0 0 := FA.mk (fd := _) Tryz.underlying182 rfl rfl ⟨0, by kernel_rfl⟩
theorem fa182_1 : FA Tryz.prog 182 1 1 := FA.mk (fd := _) Tryz.underlying182 rfl rfl ⟨1, by kernel_rfl⟩
theorem fa230_0 : FA Tryz.prog 230 0 0 := FA.mk (fd := _) Tryz.underlying230 rfl rfl ⟨0, by kernel_rfl⟩
theorem fa230_1 : FA Tryz.prog 230 1 1 := FA.mk (fd := _) Tryz.underlying230 rfl rfl ⟨0, by kernel_rfl⟩
theorem fa240_0 : FA Tryz.prog 240 0 0 := FA.mk (fd := _) Tryz.underlying240 rfl rfl ⟨0, by kernel_rfl⟩
theorem fa240_1 : FA Tryz.prog 240 1 1 := FA.mk (fd := _) Tryz.underlying240 rfl rfl ⟨31, by kernel_rfl⟩
theorem fa247_0 : FA Tryz.prog 247 0 0 := FA.mk (fd := _) Tryz.underlying247 rfl rfl ⟨72, by kernel_rfl⟩
theorem fa247_1 : FA Tryz.prog 247 1 73 := FA.mk (fd := _) Tryz.underlying247 rfl rfl ⟨0, by kernel_rfl⟩
theorem fa247_2 : FA Tryz.prog 247 2 74 := FA.mk (fd := _) Tryz.underlying247 rfl rfl ⟨7, by kernel_rfl⟩
theorem fa247_3 : FA Tryz.prog 247 3 82 := FA.mk (fd := _) Tryz.underlying247 rfl rfl ⟨7, by kernel_rfl⟩
theorem fa267_0 : FA Tryz.prog 267 0 0 := FA.mk (fd := _) Tryz.underlying267 rfl rfl ⟨0, by kernel_rfl⟩
theorem fa267_4 : FA Tryz.prog 267 4 6 := FA.mk (fd := _) Tryz.underlying267 rfl rfl ⟨0, by kernel_rfl⟩
theorem fa334_0 : FA Tryz.prog 334 0 0 := FA.mk (fd := _) Tryz.underlying334 rfl rfl ⟨0, by kernel_rfl⟩
theorem fa334_1 : FA Tryz.prog 334 1 1 := FA.mk (fd := _) Tryz.underlying334 rfl rfl ⟨0, by kernel_rfl⟩
theorem fa354_0 : FA Tryz.prog 354 0 0 := FA.mk (fd := _) Tryz.underlying354 rfl rfl ⟨0, by kernel_rfl⟩
theorem fa354_1 : FA Tryz.prog 354 1 1 := FA.mk (fd := _) Tryz.underlying354 rfl rfl ⟨0, by kernel_rfl⟩
theorem ia25 : IA Tryz.prog 25 32 1 := ⟨5, Tryz.underlying25, by kernel_rfl⟩
theorem ia33 : IA Tryz.prog 33 3 1 := ⟨3, Tryz.underlying33, by kernel_rfl⟩
theorem ia58 : IA Tryz.prog 58 8 2 := ⟨51, Tryz.underlying58, by kernel_rfl⟩
theorem ia59 : IA Tryz.prog 59 15 1 := ⟨3, Tryz.underlying59, by kernel_rfl⟩
theorem ia62 : IA Tryz.prog 62 8 1 := ⟨4, Tryz.underlying62, by kernel_rfl⟩
theorem ia89 : IA Tryz.prog 89 15 32 := ⟨25, Tryz.underlying89, by kernel_rfl⟩
theorem ia90 : IA Tryz.prog 90 15 1 := ⟨4, Tryz.underlying90, by kernel_rfl⟩
theorem ia140 : IA Tryz.prog 140 3 1 := ⟨4, Tryz.underlying140, by kernel_rfl⟩
theorem ia141 : IA Tryz.prog 141 3 32 := ⟨25, Tryz.underlying141, by kernel_rfl⟩
theorem ia173 : IA Tryz.prog 173 2 1 := ⟨3, Tryz.underlying173, by kernel_rfl⟩
theorem ia296 : IA Tryz.prog 296 5 1 := ⟨295, Tryz.underlying296, by kernel_rfl⟩
theorem ia368 : IA Tryz.prog 368 5 1 := ⟨3, Tryz.underlying368, by kernel_rfl⟩
theorem is30 : IS Tryz.prog 30 1 := ⟨22, Tryz.underlying30, by kernel_rfl⟩
theorem is31 : IS Tryz.prog 31 5 := ⟨54, Tryz.underlying31, by kernel_rfl⟩
theorem is32 : IS Tryz.prog 32 3 := ⟨182, Tryz.underlying32, by kernel_rfl⟩
theorem is34 : IS Tryz.prog 34 1 := ⟨97, Tryz.underlying34, by kernel_rfl⟩
theorem is39 : IS Tryz.prog 39 108 := ⟨103, Tryz.underlying39, by kernel_rfl⟩
theorem is46 : IS Tryz.prog 46 1 := ⟨27, Tryz.underlying46, by kernel_rfl⟩
theorem is55 : IS Tryz.prog 55 1 := ⟨31, Tryz.underlying55, by kernel_rfl⟩
theorem is75 : IS Tryz.prog 75 3 := ⟨79, Tryz.underlying75, by kernel_rfl⟩
theorem is76 : IS Tryz.prog 76 2 := ⟨81, Tryz.underlying76, by kernel_rfl⟩
theorem is97 : IS Tryz.prog 97 1 := ⟨5, Tryz.underlying97, by kernel_rfl⟩
theorem is117 : IS Tryz.prog 117 7 := ⟨113, Tryz.underlying117, by kernel_rfl⟩
theorem is168 : IS Tryz.prog 168 2 := ⟨173, Tryz.underlying168, by kernel_rfl⟩
theorem is228 : IS Tryz.prog 228 33 := ⟨240, Tryz.underlying228, by kernel_rfl⟩
theorem is258 : IS Tryz.prog 258 1 := ⟨3, Tryz.underlying258, by kernel_rfl⟩
theorem is342 : IS Tryz.prog 342 2 := ⟨51, Tryz.underlying342, by kernel_rfl⟩
theorem isl30 : isSl Tryz.prog 30 := by unfold isSl; rw [Tryz.underlying30]; rfl
theorem isl31 : isSl Tryz.prog 31 := by unfold isSl; rw [Tryz.underlying31]; rfl
theorem isl32 : isSl Tryz.prog 32 := by unfold isSl; rw [Tryz.underlying32]; rfl
theorem isl34 : isSl Tryz.prog 34 := by unfold isSl; rw [Tryz.underlying34]; rfl
theorem isl39 : isSl Tryz.prog 39 := by unfold isSl; rw [Tryz.underlying39]; rfl
theorem isl46 : isSl Tryz.prog 46 := by unfold isSl; rw [Tryz.underlying46]; rfl
theorem isl75 : isSl Tryz.prog 75 := by unfold isSl; rw [Tryz.underlying75]; rfl
theorem isl76 : isSl Tryz.prog 76 := by unfold isSl; rw [Tryz.underlying76]; rfl
theorem isl97 : isSl Tryz.prog 97 := by unfold isSl; rw [Tryz.underlying97]; rfl
theorem isl117 : isSl Tryz.prog 117 := by unfold isSl; rw [Tryz.underlying117]; rfl
theorem isl168 : isSl Tryz.prog 168 := by unfold isSl; rw [Tryz.underlying168]; rfl
theorem isl228 : isSl Tryz.prog 228 := by unfold isSl; rw [Tryz.underlying228]; rfl
theorem isl234 : isSl Tryz.prog 234 := by unfold isSl; rw [Tryz.underlying234]; rfl
theorem isl258 : isSl Tryz.prog 258 := by unfold isSl; rw [Tryz.underlying258]; rfl
theorem isl342 : isSl Tryz.prog 342 := by unfold isSl; rw [Tryz.underlying342]; rfl
theorem ipt22 : isPt Tryz.prog 22 := by unfold isPt; rw [Tryz.underlying22]; rfl
theorem ipt27 : isPt Tryz.prog 27 := by unfold isPt; rw [Tryz.underlying27]; rfl
theorem ipt70 : isPt Tryz.prog 70 := by unfold isPt; rw [Tryz.underlying70]; rfl
theorem si30 : SI Tryz.prog 30 22 1 8 := ⟨Tryz.underlying30, by kernel_rfl, by kernel_rfl, by kernel_rfl, by decide, by decide, by decide⟩
theorem sz30 : ((Tryz.prog.info? 22).bind (·.zero)).map (·.cells) = some (tyP.enc (none : Option Addr)).toArray := by kernel_rfl
theorem si31 : SI Tryz.prog 31 54 5 40 := ⟨Tryz.underlying31, by kernel_rfl, by kernel_rfl, by kernel_rfl, by decide, by decide, by decide⟩
theorem sz31 : ((Tryz.prog.info? 54).bind (·.zero)).map (·.cells) = some (tySOp.enc SOp.zero).toArray := by kernel_rfl
theorem si32 : SI Tryz.prog 32 182 3 24 := ⟨Tryz.underlying32, by kernel_rfl, by kernel_rfl, by kernel_rfl, by decide, by decide, by decide⟩
theorem sz32 : ((Tryz.prog.info? 182).bind (·.zero)).map (·.cells) = some (tySVote.enc SVote.zero).toArray := by kernel_rfl
theorem si34 : SI Tryz.prog 34 97 1 24 := ⟨Tryz.underlying34, by kernel_rfl, by kernel_rfl, by kernel_rfl, by decide, by decide, by decide⟩
theorem sz34 : ((Tryz.prog.info? 97).bind (·.zero)).map (·.cells) = some (tySl.enc (⟨none, 0, 0⟩ : Sl)).toArray := by kernel_rfl
theorem si39 : SI Tryz.prog 39 103 108 376 := ⟨Tryz.underlying39, by kernel_rfl, by kernel_rfl, by kernel_rfl, by decide, by decide, by decide⟩
theorem sz39 : ((Tryz.prog.info? 103).bind (·.zero)).map (·.cells) = some (tyVWelcome.enc VWelcome.zero).toArray := by kernel_rfl
theorem si46 : SI Tryz.prog 46 27 1 8 := ⟨Tryz.underlying46, by kernel_rfl, by kernel_rfl, by kernel_rfl, by decide, by decide, by decide⟩
theorem sz46 : ((Tryz.prog.info? 27).bind (·.zero)).map (·.cells) = some (tyP.enc (none : Option Addr)).toArray := by kernel_rfl
theorem si55 : SI Tryz.prog 55 31 1 24 := ⟨Tryz.underlying55, by kernel_rfl, by kernel_rfl, by kernel_rfl, by decide, by decide, by decide⟩
theorem sz55 : ((Tryz.prog.info? 31).bind (·.zero)).map (·.cells) = some (tySl.enc (⟨none, 0, 0⟩ : Sl)).toArray := by kernel_rfl
theorem si76 : SI Tryz.prog 76 81 2 16 := ⟨Tryz.underlying76, by kernel_rfl, by kernel_rfl, by kernel_rfl, by decide, by decide, by decide⟩
theorem sz76 : ((Tryz.prog.info? 81).bind (·.zero)).map (·.cells) = some (tyVcurialaw13both.enc Vcurialaw13both.zero).toArray := by kernel_rfl
theorem si97 : SI Tryz.prog 97 5 1 1 := ⟨Tryz.underlying97, by kernel_rfl, by kernel_rfl, by kernel_rfl, by decide, by decide, by decide⟩
theorem sz97 : ((Tryz.prog.info? 5).bind (·.zero)).map (·.cells) = some ((tyI .u8).enc (0 : Int)).toArray := by kernel_rfl
theorem si117 : SI Tryz.prog 117 113 7 88 := ⟨Tryz.underlying117, by kernel_rfl, by kernel_rfl, by kernel_rfl, by decide, by decide, by decide⟩
theorem sz117 : ((Tryz.prog.info? 113).bind (·.zero)).map (·.cells) = some (tyVAct.enc VAct.zero).toArray := by kernel_rfl
theorem si168 : SI Tryz.prog 168 173 2 16 := ⟨Tryz.underlying168, by kernel_rfl, by kernel_rfl, by kernel_rfl, by decide, by decide, by decide⟩
theorem sz168 : ((Tryz.prog.info? 173).bind (·.zero)).map (·.cells) = some ((Ty.arr 2 (tyI .i64)).enc (Vector.replicate 2 (0 : Int))).toArray := by kernel_rfl
theorem si228 : SI Tryz.prog 228 240 33 40 := ⟨Tryz.underlying228, by kernel_rfl, by kernel_rfl, by kernel_rfl, by decide, by decide, by decide⟩
theorem sz228 : ((Tryz.prog.info? 240).bind (·.zero)).map (·.cells) = some (tyScuriaref11Item.enc Scuriaref11Item.zero).toArray := by kernel_rfl
theorem si234 : SI Tryz.prog 234 238 33 40 := ⟨Tryz.underlying234, by kernel_rfl, by kernel_rfl, by kernel_rfl, by decide, by decide, by decide⟩
theorem sz234 : ((Tryz.prog.info? 238).bind (·.zero)).map (·.cells) = some (tySbookentry.enc Sbookentry.zero).toArray := by kernel_rfl
theorem si258 : SI Tryz.prog 258 3 1 8 := ⟨Tryz.underlying258, by kernel_rfl, by kernel_rfl, by kernel_rfl, by decide, by decide, by decide⟩
theorem sz258 : ((Tryz.prog.info? 3).bind (·.zero)).map (·.cells) = some ((tyI .i64).enc (0 : Int)).toArray := by kernel_rfl
theorem bi25 : BI Tryz.prog 25 (fun i => some (i * 1, 1)) ((Ty.arr 32 (tyI .u8)).enc (Vector.replicate 32 (0 : Int))) := BI.array Tryz.underlying25 (by kernel_rfl) (by kernel_rfl)
theorem bi33 : BI Tryz.prog 33 (fun i => some (i * 1, 1)) ((Ty.arr 3 (tyI .i64)).enc (Vector.replicate 3 (0 : Int))) := BI.array Tryz.underlying33 (by kernel_rfl) (by kernel_rfl)
theorem bi36 : BI Tryz.prog 36 ((([(0, 1), (1, 1)] : List (Nat × Nat)))[·]?) (tySSig.enc SSig.zero) := BI.struct Tryz.underlying36 (by kernel_rfl) (by kernel_rfl)
theorem bi38 : BI Tryz.prog 38 ((([(0, 1), (1, 1), (2, 1), (3, 1), (4, 1), (5, 3), (8, 1), (9, 32), (41, 2)] : List (Nat × Nat)))[·]?) (tyVCommit.enc VCommit.zero) := BI.struct Tryz.underlying38 (by kernel_rfl) (by kernel_rfl)
theorem bi51 : BI Tryz.prog 51 ((([(0, 1), (1, 1)] : List (Nat × Nat)))[·]?) (tySLeaf.enc SLeaf.zero) := BI.struct Tryz.underlying51 (by kernel_rfl) (by kernel_rfl)
theorem bi54 : BI Tryz.prog 54 ((([(0, 1), (1, 1), (2, 1), (3, 2)] : List (Nat × Nat)))[·]?) (tySOp.enc SOp.zero) := BI.struct Tryz.underlying54 (by kernel_rfl) (by kernel_rfl)
theorem bi61 : BI Tryz.prog 61 ((([(0, 16), (16, 15)] : List (Nat × Nat)))[·]?) (tySTree.enc STree.zero) := BI.struct Tryz.underlying61 (by kernel_rfl) (by kernel_rfl)
theorem bi64 : BI Tryz.prog 64 ((([(0, 1), (1, 31), (32, 8), (40, 1), (41, 32)] : List (Nat × Nat)))[·]?) (tySView.enc SView.zero) := BI.struct Tryz.underlying64 (by kernel_rfl) (by kernel_rfl)
theorem bi81 : BI Tryz.prog 81 ((([(0, 1), (1, 1)] : List (Nat × Nat)))[·]?) (tyVcurialaw13both.enc Vcurialaw13both.zero) := BI.struct Tryz.underlying81 (by kernel_rfl) (by kernel_rfl)
theorem bi88 : BI Tryz.prog 88 ((([(0, 1), (1, 1)] : List (Nat × Nat)))[·]?) (tyScuriaref3Key.enc Scuriaref3Key.zero) := BI.struct Tryz.underlying88 (by kernel_rfl) (by kernel_rfl)
theorem bi92 : BI Tryz.prog 92 ((([(0, 73), (73, 1), (74, 2), (76, 480), (556, 15), (571, 32), (603, 32)] : List (Nat × Nat)))[·]?) (tyScuriaref13Party.enc Scuriaref13Party.zero) := BI.struct Tryz.underlying92 (by kernel_rfl) (by kernel_rfl)
theorem bi103 : BI Tryz.prog 103 ((([(0, 1), (1, 1), (2, 73), (75, 1), (76, 32)] : List (Nat × Nat)))[·]?) (tyVWelcome.enc VWelcome.zero) := BI.struct Tryz.underlying103 (by kernel_rfl) (by kernel_rfl)
theorem bi140 : BI Tryz.prog 140 (fun i => some (i * 1, 1)) ((Ty.arr 3 tyB).enc (Vector.replicate 3 false)) := BI.array Tryz.underlying140 (by kernel_rfl) (by kernel_rfl)
theorem bi141 : BI Tryz.prog 141 (fun i => some (i * 32, 32)) ((Ty.arr 3 (Ty.arr 32 (tyI .u8))).enc (Vector.replicate 3 (Vector.replicate 32 (0 : Int)))) := BI.array Tryz.underlying141 (by kernel_rfl) (by kernel_rfl)
theorem bi143 : BI Tryz.prog 143 ((([(0, 73), (73, 1), (74, 1), (75, 32), (107, 3), (110, 96), (206, 32), (238, 32)] : List (Nat × Nat)))[·]?) (tyVpartyParty.enc VpartyParty.zero) := BI.struct Tryz.underlying143 (by kernel_rfl) (by kernel_rfl)
theorem bi173 : BI Tryz.prog 173 (fun i => some (i * 1, 1)) ((Ty.arr 2 (tyI .i64)).enc (Vector.replicate 2 (0 : Int))) := BI.array Tryz.underlying173 (by kernel_rfl) (by kernel_rfl)
theorem bi182 : BI Tryz.prog 182 ((([(0, 1), (1, 2)] : List (Nat × Nat)))[·]?) (tySVote.enc SVote.zero) := BI.struct Tryz.underlying182 (by kernel_rfl) (by kernel_rfl)
theorem bi230 : BI Tryz.prog 230 ((([(0, 1), (1, 1)] : List (Nat × Nat)))[·]?) (tyVcuriaref11Book.enc Vcuriaref11Book.zero) := BI.struct Tryz.underlying230 (by kernel_rfl) (by kernel_rfl)
theorem bi240 : BI Tryz.prog 240 ((([(0, 1), (1, 32)] : List (Nat × Nat)))[·]?) (tyScuriaref11Item.enc Scuriaref11Item.zero) := BI.struct Tryz.underlying240 (by kernel_rfl) (by kernel_rfl)
theorem bi247 : BI Tryz.prog 247 ((([(0, 73), (73, 1), (74, 8), (82, 8)] : List (Nat × Nat)))[·]?) (tySviewchange.enc Sviewchange.zero) := BI.struct Tryz.underlying247 (by kernel_rfl) (by kernel_rfl)
theorem bi296 : BI Tryz.prog 296 (fun i => some (i * 1, 1)) ((Ty.arr 5 (tyI .u64)).enc (Vector.replicate 5 (0 : Int))) := BI.array Tryz.underlying296 (by kernel_rfl) (by kernel_rfl)
theorem bi334 : BI Tryz.prog 334 ((([(0, 1), (1, 1)] : List (Nat × Nat)))[·]?) (tyVcuriaref12cursor.enc Vcuriaref12cursor.zero) := BI.struct Tryz.underlying334 (by kernel_rfl) (by kernel_rfl)
theorem bi354 : BI Tryz.prog 354 ((([(0, 1), (1, 1)] : List (Nat × Nat)))[·]?) (tyVwirereader.enc Vwirereader.zero) := BI.struct Tryz.underlying354 (by kernel_rfl) (by kernel_rfl)
theorem eq3 : EqT Tryz.prog 3 1 (tyI .i64) false := EqT.int Tryz.underlying3
theorem eq4 : EqT Tryz.prog 4 1 tyB false := EqT.bool Tryz.underlying4
theorem eq5 : EqT Tryz.prog 5 1 (tyI .u8) false := EqT.int Tryz.underlying5
theorem eq25 : EqT Tryz.prog 25 2 (Ty.arr 32 (tyI .u8)) true := EqT.arr Tryz.underlying25 ti5 eq5 rfl (fun _ => rfl)
theorem eq33 : EqT Tryz.prog 33 2 (Ty.arr 3 (tyI .i64)) true := EqT.arr Tryz.underlying33 ti3 eq3 rfl (fun _ => rfl)
theorem eq36 : EqT Tryz.prog 36 2 tySSig true := EqT.struct Tryz.underlying36 (by kernel_rfl) fun x y => ⟨_, (.cons rfl rfl ti3 (eq3.up rfl) (SSig.s0 x) (SSig.s0 y) rfl (fun _ => rfl) (.cons rfl rfl ti3 (eq3.up rfl) (SSig.s1 x) (SSig.s1 y) rfl (fun _ => rfl) .nil)), by cases x; cases y; rw [Bool.eq_iff_iff]; simp⟩
theorem eq51 : EqT Tryz.prog 51 2 tySLeaf true := EqT.struct Tryz.underlying51 (by kernel_rfl) fun x y => ⟨_, (.cons rfl rfl ti3 (eq3.up rfl) (SLeaf.s0 x) (SLeaf.s0 y) rfl (fun _ => rfl) (.cons rfl rfl ti3 (eq3.up rfl) (SLeaf.s1 x) (SLeaf.s1 y) rfl (fun _ => rfl) .nil)), by cases x; cases y; rw [Bool.eq_iff_iff]; simp⟩
theorem eq54 : EqT Tryz.prog 54 3 tySOp true := EqT.struct Tryz.underlying54 (by kernel_rfl) fun x y => ⟨_, (.cons rfl rfl ti3 (eq3.up rfl) (SOp.s0 x) (SOp.s0 y) rfl (fun _ => rfl) (.cons rfl rfl ti3 (eq3.up rfl) (SOp.s1 x) (SOp.s1 y) rfl (fun _ => rfl) (.cons rfl rfl ti3 (eq3.up rfl) (SOp.s2 x) (SOp.s2 y) rfl (fun _ => rfl) (.cons rfl rfl ti51 (eq51.up rfl) (SOp.s3 x) (SOp.s3 y) rfl (by simp) .nil)))), by cases x; cases y; rw [Bool.eq_iff_iff]; simp⟩
theorem eq58 : EqT Tryz.prog 58 3 (Ty.arr 8 tySLeaf) true := EqT.arr Tryz.underlying58 ti51 eq51 rfl (by simp)
theorem eq59 : EqT Tryz.prog 59 2 (Ty.arr 15 (tyI .i64)) true := EqT.arr Tryz.underlying59 ti3 eq3 rfl (fun _ => rfl)
theorem eq61 : EqT Tryz.prog 61 4 tySTree true := EqT.struct Tryz.underlying61 (by kernel_rfl) fun x y => ⟨_, (.cons rfl rfl ti58 (eq58.up rfl) (STree.s0 x) (STree.s0 y) rfl (by simp) (.cons rfl rfl ti59 (eq59.up rfl) (STree.s1 x) (STree.s1 y) rfl (by simp) .nil)), by cases x; cases y; rw [Bool.eq_iff_iff]; simp⟩
theorem eq62 : EqT Tryz.prog 62 2 (Ty.arr 8 tyB) true := EqT.arr Tryz.underlying62 ti4 eq4 rfl (fun _ => rfl)
theorem eq64 : EqT Tryz.prog 64 5 tySView true := EqT.struct Tryz.underlying64 (by kernel_rfl) fun x y => ⟨_, (.cons rfl rfl ti3 (eq3.up rfl) (SView.s0 x) (SView.s0 y) rfl (fun _ => rfl) (.cons rfl rfl ti61 (eq61.up rfl) (SView.s1 x) (SView.s1 y) rfl (by simp) (.cons rfl rfl ti62 (eq62.up rfl) (SView.s2 x) (SView.s2 y) rfl (by simp) (.cons rfl rfl ti3 (eq3.up rfl) (SView.s3 x) (SView.s3 y) rfl (fun _ => rfl) (.cons rfl rfl ti25 (eq25.up rfl) (SView.s4 x) (SView.s4 y) rfl (by simp) .nil))))), by cases x; cases y; rw [Bool.eq_iff_iff]; simp⟩
theorem eq182 : EqT Tryz.prog 182 3 tySVote true := EqT.struct Tryz.underlying182 (by kernel_rfl) fun x y => ⟨_, (.cons rfl rfl ti3 (eq3.up rfl) (SVote.s0 x) (SVote.s0 y) rfl (fun _ => rfl) (.cons rfl rfl ti36 (eq36.up rfl) (SVote.s1 x) (SVote.s1 y) rfl (by simp) .nil)), by cases x; cases y; rw [Bool.eq_iff_iff]; simp⟩
theorem eg25 : Tryz.prog.eqGuardType Tryz.prog.depth 25 = false := by kernel_rfl
theorem eg33 : Tryz.prog.eqGuardType Tryz.prog.depth 33 = false := by kernel_rfl
theorem eg36 : Tryz.prog.eqGuardType Tryz.prog.depth 36 = false := by kernel_rfl
theorem eg51 : Tryz.prog.eqGuardType Tryz.prog.depth 51 = false := by kernel_rfl
theorem eg54 : Tryz.prog.eqGuardType Tryz.prog.depth 54 = false := by kernel_rfl
theorem eg62 : Tryz.prog.eqGuardType Tryz.prog.depth 62 = false := by kernel_rfl
theorem eg64 : Tryz.prog.eqGuardType Tryz.prog.depth 64 = false := by kernel_rfl
theorem eg182 : Tryz.prog.eqGuardType Tryz.prog.depth 182 = false := by kernel_rfl
theorem hmix : Tryz.prog.follows .mixedOrders = true := by kernel_rfl
theorem pf3 : PlainF Tryz.prog 3 := ⟨Tryz.f3, Tryz.func3, by kernel_rfl, by kernel_rfl⟩
theorem pf4 : PlainF Tryz.prog 4 := ⟨Tryz.f4, Tryz.func4, by kernel_rfl, by kernel_rfl⟩
theorem pf5 : PlainF Tryz.prog 5 := ⟨Tryz.f5, Tryz.func5, by kernel_rfl, by kernel_rfl⟩
theorem pf6 : PlainF Tryz.prog 6 := ⟨Tryz.f6, Tryz.func6, by kernel_rfl, by kernel_rfl⟩
theorem pf7 : PlainF Tryz.prog 7 := ⟨Tryz.f7, Tryz.func7, by kernel_rfl, by kernel_rfl⟩
theorem pf8 : PlainF Tryz.prog 8 := ⟨Tryz.f8, Tryz.func8, by kernel_rfl, by kernel_rfl⟩
theorem pf9 : PlainF Tryz.prog 9 := ⟨Tryz.f9, Tryz.func9, by kernel_rfl, by kernel_rfl⟩
theorem pf10 : PlainF Tryz.prog 10 := ⟨Tryz.f10, Tryz.func10, by kernel_rfl, by kernel_rfl⟩
theorem pf11 : PlainF Tryz.prog 11 := ⟨Tryz.f11, Tryz.func11, by kernel_rfl, by kernel_rfl⟩
theorem pf12 : PlainF Tryz.prog 12 := ⟨Tryz.f12, Tryz.func12, by kernel_rfl, by kernel_rfl⟩
theorem pf13 : PlainF Tryz.prog 13 := ⟨Tryz.f13, Tryz.func13, by kernel_rfl, by kernel_rfl⟩
theorem pf14 : PlainF Tryz.prog 14 := ⟨Tryz.f14, Tryz.func14, by kernel_rfl, by kernel_rfl⟩
theorem pf15 : PlainF Tryz.prog 15 := ⟨Tryz.f15, Tryz.func15, by kernel_rfl, by kernel_rfl⟩
theorem pf16 : PlainF Tryz.prog 16 := ⟨Tryz.f16, Tryz.func16, by kernel_rfl, by kernel_rfl⟩
theorem pf17 : PlainF Tryz.prog 17 := ⟨Tryz.f17, Tryz.func17, by kernel_rfl, by kernel_rfl⟩
theorem pf28 : PlainF Tryz.prog 28 := ⟨Tryz.f28, Tryz.func28, by kernel_rfl, by kernel_rfl⟩
theorem pf29 : PlainF Tryz.prog 29 := ⟨Tryz.f29, Tryz.func29, by kernel_rfl, by kernel_rfl⟩
theorem pf30 : PlainF Tryz.prog 30 := ⟨Tryz.f30, Tryz.func30, by kernel_rfl, by kernel_rfl⟩
theorem pf31 : PlainF Tryz.prog 31 := ⟨Tryz.f31, Tryz.func31, by kernel_rfl, by kernel_rfl⟩
theorem pf32 : PlainF Tryz.prog 32 := ⟨Tryz.f32, Tryz.func32, by kernel_rfl, by kernel_rfl⟩
theorem pf33 : PlainF Tryz.prog 33 := ⟨Tryz.f33, Tryz.func33, by kernel_rfl, by kernel_rfl⟩
theorem pf34 : PlainF Tryz.prog 34 := ⟨Tryz.f34, Tryz.func34, by kernel_rfl, by kernel_rfl⟩
theorem pf35 : PlainF Tryz.prog 35 := ⟨Tryz.f35, Tryz.func35, by kernel_rfl, by kernel_rfl⟩
theorem pf36 : PlainF Tryz.prog 36 := ⟨Tryz.f36, Tryz.func36, by kernel_rfl, by kernel_rfl⟩
theorem pf37 : PlainF Tryz.prog 37 := ⟨Tryz.f37, Tryz.func37, by kernel_rfl, by kernel_rfl⟩
theorem pf38 : PlainF Tryz.prog 38 := ⟨Tryz.f38, Tryz.func38, by kernel_rfl, by kernel_rfl⟩
theorem pf39 : PlainF Tryz.prog 39 := ⟨Tryz.f39, Tryz.func39, by kernel_rfl, by kernel_rfl⟩
theorem pf40 : PlainF Tryz.prog 40 := ⟨Tryz.f40, Tryz.func40, by kernel_rfl, by kernel_rfl⟩
theorem pf41 : PlainF Tryz.prog 41 := ⟨Tryz.f41, Tryz.func41, by kernel_rfl, by kernel_rfl⟩
theorem pf42 : PlainF Tryz.prog 42 := ⟨Tryz.f42, Tryz.func42, by kernel_rfl, by kernel_rfl⟩
theorem pf43 : PlainF Tryz.prog 43 := ⟨Tryz.f43, Tryz.func43, by kernel_rfl, by kernel_rfl⟩
theorem pf44 : PlainF Tryz.prog 44 := ⟨Tryz.f44, Tryz.func44, by kernel_rfl, by kernel_rfl⟩
theorem pf45 : PlainF Tryz.prog 45 := ⟨Tryz.f45, Tryz.func45, by kernel_rfl, by kernel_rfl⟩
theorem pf46 : PlainF Tryz.prog 46 := ⟨Tryz.f46, Tryz.func46, by kernel_rfl, by kernel_rfl⟩
theorem pf47 : PlainF Tryz.prog 47 := ⟨Tryz.f47, Tryz.func47, by kernel_rfl, by kernel_rfl⟩
theorem pf48 : PlainF Tryz.prog 48 := ⟨Tryz.f48, Tryz.func48, by kernel_rfl, by kernel_rfl⟩
theorem pf49 : PlainF Tryz.prog 49 := ⟨Tryz.f49, Tryz.func49, by kernel_rfl, by kernel_rfl⟩
theorem pf50 : PlainF Tryz.prog 50 := ⟨Tryz.f50, Tryz.func50, by kernel_rfl, by kernel_rfl⟩
theorem pf51 : PlainF Tryz.prog 51 := ⟨Tryz.f51, Tryz.func51, by kernel_rfl, by kernel_rfl⟩
theorem pf52 : PlainF Tryz.prog 52 := ⟨Tryz.f52, Tryz.func52, by kernel_rfl, by kernel_rfl⟩
theorem pf53 : PlainF Tryz.prog 53 := ⟨Tryz.f53, Tryz.func53, by kernel_rfl, by kernel_rfl⟩
theorem pf54 : PlainF Tryz.prog 54 := ⟨Tryz.f54, Tryz.func54, by kernel_rfl, by kernel_rfl⟩
theorem pf55 : PlainF Tryz.prog 55 := ⟨Tryz.f55, Tryz.func55, by kernel_rfl, by kernel_rfl⟩
theorem pf56 : PlainF Tryz.prog 56 := ⟨Tryz.f56, Tryz.func56, by kernel_rfl, by kernel_rfl⟩
theorem pf57 : PlainF Tryz.prog 57 := ⟨Tryz.f57, Tryz.func57, by kernel_rfl, by kernel_rfl⟩
theorem pf58 : PlainF Tryz.prog 58 := ⟨Tryz.f58, Tryz.func58, by kernel_rfl, by kernel_rfl⟩
theorem pf59 : PlainF Tryz.prog 59 := ⟨Tryz.f59, Tryz.func59, by kernel_rfl, by kernel_rfl⟩
theorem pf60 : PlainF Tryz.prog 60 := ⟨Tryz.f60, Tryz.func60, by kernel_rfl, by kernel_rfl⟩
theorem pf62 : PlainF Tryz.prog 62 := ⟨Tryz.f62, Tryz.func62, by kernel_rfl, by kernel_rfl⟩
theorem pf68 : PlainF Tryz.prog 68 := ⟨Tryz.f68, Tryz.func68, by kernel_rfl, by kernel_rfl⟩
theorem pf71 : PlainF Tryz.prog 71 := ⟨Tryz.f71, Tryz.func71, by kernel_rfl, by kernel_rfl⟩
theorem pf80 : PlainF Tryz.prog 80 := ⟨Tryz.f80, Tryz.func80, by kernel_rfl, by kernel_rfl⟩
theorem pf81 : PlainF Tryz.prog 81 := ⟨Tryz.f81, Tryz.func81, by kernel_rfl, by kernel_rfl⟩
theorem pf82 : PlainF Tryz.prog 82 := ⟨Tryz.f82, Tryz.func82, by kernel_rfl, by kernel_rfl⟩
theorem pf83 : PlainF Tryz.prog 83 := ⟨Tryz.f83, Tryz.func83, by kernel_rfl, by kernel_rfl⟩
theorem pf84 : PlainF Tryz.prog 84 := ⟨Tryz.f84, Tryz.func84, by kernel_rfl, by kernel_rfl⟩
theorem pf85 : PlainF Tryz.prog 85 := ⟨Tryz.f85, Tryz.func85, by kernel_rfl, by kernel_rfl⟩
theorem pf86 : PlainF Tryz.prog 86 := ⟨Tryz.f86, Tryz.func86, by kernel_rfl, by kernel_rfl⟩
theorem pf87 : PlainF Tryz.prog 87 := ⟨Tryz.f87, Tryz.func87, by kernel_rfl, by kernel_rfl⟩
theorem pf88 : PlainF Tryz.prog 88 := ⟨Tryz.f88, Tryz.func88, by kernel_rfl, by kernel_rfl⟩
theorem pf89 : PlainF Tryz.prog 89 := ⟨Tryz.f89, Tryz.func89, by kernel_rfl, by kernel_rfl⟩
theorem pf90 : PlainF Tryz.prog 90 := ⟨Tryz.f90, Tryz.func90, by kernel_rfl, by kernel_rfl⟩
theorem pf91 : PlainF Tryz.prog 91 := ⟨Tryz.f91, Tryz.func91, by kernel_rfl, by kernel_rfl⟩
theorem pf92 : PlainF Tryz.prog 92 := ⟨Tryz.f92, Tryz.func92, by kernel_rfl, by kernel_rfl⟩
theorem pf93 : PlainF Tryz.prog 93 := ⟨Tryz.f93, Tryz.func93, by kernel_rfl, by kernel_rfl⟩
theorem pf94 : PlainF Tryz.prog 94 := ⟨Tryz.f94, Tryz.func94, by kernel_rfl, by kernel_rfl⟩
theorem pf95 : PlainF Tryz.prog 95 := ⟨Tryz.f95, Tryz.func95, by kernel_rfl, by kernel_rfl⟩
theorem pf96 : PlainF Tryz.prog 96 := ⟨Tryz.f96, Tryz.func96, by kernel_rfl, by kernel_rfl⟩
theorem pf97 : PlainF Tryz.prog 97 := ⟨Tryz.f97, Tryz.func97, by kernel_rfl, by kernel_rfl⟩
theorem pf98 : PlainF Tryz.prog 98 := ⟨Tryz.f98, Tryz.func98, by kernel_rfl, by kernel_rfl⟩
theorem pf99 : PlainF Tryz.prog 99 := ⟨Tryz.f99, Tryz.func99, by kernel_rfl, by kernel_rfl⟩
theorem pf100 : PlainF Tryz.prog 100 := ⟨Tryz.f100, Tryz.func100, by kernel_rfl, by kernel_rfl⟩
theorem pf101 : PlainF Tryz.prog 101 := ⟨Tryz.f101, Tryz.func101, by kernel_rfl, by kernel_rfl⟩
theorem pf102 : PlainF Tryz.prog 102 := ⟨Tryz.f102, Tryz.func102, by kernel_rfl, by kernel_rfl⟩
theorem pf103 : PlainF Tryz.prog 103 := ⟨Tryz.f103, Tryz.func103, by kernel_rfl, by kernel_rfl⟩
theorem pf104 : PlainF Tryz.prog 104 := ⟨Tryz.f104, Tryz.func104, by kernel_rfl, by kernel_rfl⟩
theorem pf105 : PlainF Tryz.prog 105 := ⟨Tryz.f105, Tryz.func105, by kernel_rfl, by kernel_rfl⟩
theorem pf106 : PlainF Tryz.prog 106 := ⟨Tryz.f106, Tryz.func106, by kernel_rfl, by kernel_rfl⟩
theorem pf107 : PlainF Tryz.prog 107 := ⟨Tryz.f107, Tryz.func107, by kernel_rfl, by kernel_rfl⟩
theorem pf108 : PlainF Tryz.prog 108 := ⟨Tryz.f108, Tryz.func108, by kernel_rfl, by kernel_rfl⟩
theorem pf109 : PlainF Tryz.prog 109 := ⟨Tryz.f109, Tryz.func109, by kernel_rfl, by kernel_rfl⟩
theorem pf110 : PlainF Tryz.prog 110 := ⟨Tryz.f110, Tryz.func110, by kernel_rfl, by kernel_rfl⟩
theorem pf111 : PlainF Tryz.prog 111 := ⟨Tryz.f111, Tryz.func111, by kernel_rfl, by kernel_rfl⟩
theorem pf112 : PlainF Tryz.prog 112 := ⟨Tryz.f112, Tryz.func112, by kernel_rfl, by kernel_rfl⟩
theorem pf113 : PlainF Tryz.prog 113 := ⟨Tryz.f113, Tryz.func113, by kernel_rfl, by kernel_rfl⟩
theorem pf114 : PlainF Tryz.prog 114 := ⟨Tryz.f114, Tryz.func114, by kernel_rfl, by kernel_rfl⟩
theorem pf115 : PlainF Tryz.prog 115 := ⟨Tryz.f115, Tryz.func115, by kernel_rfl, by kernel_rfl⟩
theorem pf116 : PlainF Tryz.prog 116 := ⟨Tryz.f116, Tryz.func116, by kernel_rfl, by kernel_rfl⟩
theorem pf117 : PlainF Tryz.prog 117 := ⟨Tryz.f117, Tryz.func117, by kernel_rfl, by kernel_rfl⟩
theorem pf118 : PlainF Tryz.prog 118 := ⟨Tryz.f118, Tryz.func118, by kernel_rfl, by kernel_rfl⟩
theorem pf119 : PlainF Tryz.prog 119 := ⟨Tryz.f119, Tryz.func119, by kernel_rfl, by kernel_rfl⟩
theorem pf120 : PlainF Tryz.prog 120 := ⟨Tryz.f120, Tryz.func120, by kernel_rfl, by kernel_rfl⟩
theorem pf121 : PlainF Tryz.prog 121 := ⟨Tryz.f121, Tryz.func121, by kernel_rfl, by kernel_rfl⟩
theorem pf122 : PlainF Tryz.prog 122 := ⟨Tryz.f122, Tryz.func122, by kernel_rfl, by kernel_rfl⟩
theorem pf123 : PlainF Tryz.prog 123 := ⟨Tryz.f123, Tryz.func123, by kernel_rfl, by kernel_rfl⟩
theorem pf124 : PlainF Tryz.prog 124 := ⟨Tryz.f124, Tryz.func124, by kernel_rfl, by kernel_rfl⟩
theorem pf125 : PlainF Tryz.prog 125 := ⟨Tryz.f125, Tryz.func125, by kernel_rfl, by kernel_rfl⟩
theorem pf126 : PlainF Tryz.prog 126 := ⟨Tryz.f126, Tryz.func126, by kernel_rfl, by kernel_rfl⟩
theorem pf127 : PlainF Tryz.prog 127 := ⟨Tryz.f127, Tryz.func127, by kernel_rfl, by kernel_rfl⟩
theorem pf128 : PlainF Tryz.prog 128 := ⟨Tryz.f128, Tryz.func128, by kernel_rfl, by kernel_rfl⟩
theorem pf129 : PlainF Tryz.prog 129 := ⟨Tryz.f129, Tryz.func129, by kernel_rfl, by kernel_rfl⟩
theorem pf130 : PlainF Tryz.prog 130 := ⟨Tryz.f130, Tryz.func130, by kernel_rfl, by kernel_rfl⟩
theorem pf131 : PlainF Tryz.prog 131 := ⟨Tryz.f131, Tryz.func131, by kernel_rfl, by kernel_rfl⟩
theorem pf132 : PlainF Tryz.prog 132 := ⟨Tryz.f132, Tryz.func132, by kernel_rfl, by kernel_rfl⟩
theorem pf133 : PlainF Tryz.prog 133 := ⟨Tryz.f133, Tryz.func133, by kernel_rfl, by kernel_rfl⟩
theorem pf134 : PlainF Tryz.prog 134 := ⟨Tryz.f134, Tryz.func134, by kernel_rfl, by kernel_rfl⟩
theorem pf135 : PlainF Tryz.prog 135 := ⟨Tryz.f135, Tryz.func135, by kernel_rfl, by kernel_rfl⟩
theorem pf136 : PlainF Tryz.prog 136 := ⟨Tryz.f136, Tryz.func136, by kernel_rfl, by kernel_rfl⟩
theorem pf137 : PlainF Tryz.prog 137 := ⟨Tryz.f137, Tryz.func137, by kernel_rfl, by kernel_rfl⟩
theorem pf139 : PlainF Tryz.prog 139 := ⟨Tryz.f139, Tryz.func139, by kernel_rfl, by kernel_rfl⟩
theorem pf143 : PlainF Tryz.prog 143 := ⟨Tryz.f143, Tryz.func143, by kernel_rfl, by kernel_rfl⟩
theorem pf144 : PlainF Tryz.prog 144 := ⟨Tryz.f144, Tryz.func144, by kernel_rfl, by kernel_rfl⟩
theorem pf149 : PlainF Tryz.prog 149 := ⟨Tryz.f149, Tryz.func149, by kernel_rfl, by kernel_rfl⟩
theorem pf152 : PlainF Tryz.prog 152 := ⟨Tryz.f152, Tryz.func152, by kernel_rfl, by kernel_rfl⟩
theorem pf153 : PlainF Tryz.prog 153 := ⟨Tryz.f153, Tryz.func153, by kernel_rfl, by kernel_rfl⟩
theorem pf154 : PlainF Tryz.prog 154 := ⟨Tryz.f154, Tryz.func154, by kernel_rfl, by kernel_rfl⟩
theorem pf155 : PlainF Tryz.prog 155 := ⟨Tryz.f155, Tryz.func155, by kernel_rfl, by kernel_rfl⟩
theorem pf156 : PlainF Tryz.prog 156 := ⟨Tryz.f156, Tryz.func156, by kernel_rfl, by kernel_rfl⟩
theorem pf157 : PlainF Tryz.prog 157 := ⟨Tryz.f157, Tryz.func157, by kernel_rfl, by kernel_rfl⟩
theorem pf158 : PlainF Tryz.prog 158 := ⟨Tryz.f158, Tryz.func158, by kernel_rfl, by kernel_rfl⟩
theorem pf159 : PlainF Tryz.prog 159 := ⟨Tryz.f159, Tryz.func159, by kernel_rfl, by kernel_rfl⟩
theorem pf160 : PlainF Tryz.prog 160 := ⟨Tryz.f160, Tryz.func160, by kernel_rfl, by kernel_rfl⟩
theorem pf161 : PlainF Tryz.prog 161 := ⟨Tryz.f161, Tryz.func161, by kernel_rfl, by kernel_rfl⟩
theorem pf162 : PlainF Tryz.prog 162 := ⟨Tryz.f162, Tryz.func162, by kernel_rfl, by kernel_rfl⟩
theorem pf163 : PlainF Tryz.prog 163 := ⟨Tryz.f163, Tryz.func163, by kernel_rfl, by kernel_rfl⟩
theorem pf164 : PlainF Tryz.prog 164 := ⟨Tryz.f164, Tryz.func164, by kernel_rfl, by kernel_rfl⟩
theorem pf165 : PlainF Tryz.prog 165 := ⟨Tryz.f165, Tryz.func165, by kernel_rfl, by kernel_rfl⟩
theorem pf166 : PlainF Tryz.prog 166 := ⟨Tryz.f166, Tryz.func166, by kernel_rfl, by kernel_rfl⟩
theorem pf167 : PlainF Tryz.prog 167 := ⟨Tryz.f167, Tryz.func167, by kernel_rfl, by kernel_rfl⟩
theorem pf168 : PlainF Tryz.prog 168 := ⟨Tryz.f168, Tryz.func168, by kernel_rfl, by kernel_rfl⟩
theorem pf169 : PlainF Tryz.prog 169 := ⟨Tryz.f169, Tryz.func169, by kernel_rfl, by kernel_rfl⟩
theorem pf170 : PlainF Tryz.prog 170 := ⟨Tryz.f170, Tryz.func170, by kernel_rfl, by kernel_rfl⟩
theorem pf171 : PlainF Tryz.prog 171 := ⟨Tryz.f171, Tryz.func171, by kernel_rfl, by kernel_rfl⟩
theorem pf172 : PlainF Tryz.prog 172 := ⟨Tryz.f172, Tryz.func172, by kernel_rfl, by kernel_rfl⟩
theorem pf173 : PlainF Tryz.prog 173 := ⟨Tryz.f173, Tryz.func173, by kernel_rfl, by kernel_rfl⟩
theorem pf174 : PlainF Tryz.prog 174 := ⟨Tryz.f174, Tryz.func174, by kernel_rfl, by kernel_rfl⟩
theorem pf175 : PlainF Tryz.prog 175 := ⟨Tryz.f175, Tryz.func175, by kernel_rfl, by kernel_rfl⟩
theorem pf176 : PlainF Tryz.prog 176 := ⟨Tryz.f176, Tryz.func176, by kernel_rfl, by kernel_rfl⟩
theorem pf177 : PlainF Tryz.prog 177 := ⟨Tryz.f177, Tryz.func177, by kernel_rfl, by kernel_rfl⟩
theorem pf178 : PlainF Tryz.prog 178 := ⟨Tryz.f178, Tryz.func178, by kernel_rfl, by kernel_rfl⟩
theorem pf179 : PlainF Tryz.prog 179 := ⟨Tryz.f179, Tryz.func179, by kernel_rfl, by kernel_rfl⟩
theorem pf180 : PlainF Tryz.prog 180 := ⟨Tryz.f180, Tryz.func180, by kernel_rfl, by kernel_rfl⟩
theorem pf181 : PlainF Tryz.prog 181 := ⟨Tryz.f181, Tryz.func181, by kernel_rfl, by kernel_rfl⟩
theorem pf182 : PlainF Tryz.prog 182 := ⟨Tryz.f182, Tryz.func182, by kernel_rfl, by kernel_rfl⟩
theorem pf183 : PlainF Tryz.prog 183 := ⟨Tryz.f183, Tryz.func183, by kernel_rfl, by kernel_rfl⟩
theorem pf184 : PlainF Tryz.prog 184 := ⟨Tryz.f184, Tryz.func184, by kernel_rfl, by kernel_rfl⟩
theorem pf185 : PlainF Tryz.prog 185 := ⟨Tryz.f185, Tryz.func185, by kernel_rfl, by kernel_rfl⟩
theorem pf186 : PlainF Tryz.prog 186 := ⟨Tryz.f186, Tryz.func186, by kernel_rfl, by kernel_rfl⟩
theorem pf187 : PlainF Tryz.prog 187 := ⟨Tryz.f187, Tryz.func187, by kernel_rfl, by kernel_rfl⟩
theorem pf188 : PlainF Tryz.prog 188 := ⟨Tryz.f188, Tryz.func188, by kernel_rfl, by kernel_rfl⟩
theorem pf189 : PlainF Tryz.prog 189 := ⟨Tryz.f189, Tryz.func189, by kernel_rfl, by kernel_rfl⟩
theorem pf190 : PlainF Tryz.prog 190 := ⟨Tryz.f190, Tryz.func190, by kernel_rfl, by kernel_rfl⟩
theorem pf191 : PlainF Tryz.prog 191 := ⟨Tryz.f191, Tryz.func191, by kernel_rfl, by kernel_rfl⟩
theorem pf192 : PlainF Tryz.prog 192 := ⟨Tryz.f192, Tryz.func192, by kernel_rfl, by kernel_rfl⟩
theorem pf193 : PlainF Tryz.prog 193 := ⟨Tryz.f193, Tryz.func193, by kernel_rfl, by kernel_rfl⟩
theorem pf194 : PlainF Tryz.prog 194 := ⟨Tryz.f194, Tryz.func194, by kernel_rfl, by kernel_rfl⟩
theorem pf195 : PlainF Tryz.prog 195 := ⟨Tryz.f195, Tryz.func195, by kernel_rfl, by kernel_rfl⟩
theorem pf196 : PlainF Tryz.prog 196 := ⟨Tryz.f196, Tryz.func196, by kernel_rfl, by kernel_rfl⟩
theorem pf197 : PlainF Tryz.prog 197 := ⟨Tryz.f197, Tryz.func197, by kernel_rfl, by kernel_rfl⟩
theorem pf201 : PlainF Tryz.prog 201 := ⟨Tryz.f201, Tryz.func201, by kernel_rfl, by kernel_rfl⟩
theorem pf202 : PlainF Tryz.prog 202 := ⟨Tryz.f202, Tryz.func202, by kernel_rfl, by kernel_rfl⟩
theorem pf203 : PlainF Tryz.prog 203 := ⟨Tryz.f203, Tryz.func203, by kernel_rfl, by kernel_rfl⟩
theorem pf204 : PlainF Tryz.prog 204 := ⟨Tryz.f204, Tryz.func204, by kernel_rfl, by kernel_rfl⟩
theorem pf205 : PlainF Tryz.prog 205 := ⟨Tryz.f205, Tryz.func205, by kernel_rfl, by kernel_rfl⟩
theorem pf206 : PlainF Tryz.prog 206 := ⟨Tryz.f206, Tryz.func206, by kernel_rfl, by kernel_rfl⟩
theorem pf207 : PlainF Tryz.prog 207 := ⟨Tryz.f207, Tryz.func207, by kernel_rfl, by kernel_rfl⟩
theorem pf208 : PlainF Tryz.prog 208 := ⟨Tryz.f208, Tryz.func208, by kernel_rfl, by kernel_rfl⟩
theorem pf209 : PlainF Tryz.prog 209 := ⟨Tryz.f209, Tryz.func209, by kernel_rfl, by kernel_rfl⟩
theorem pf210 : PlainF Tryz.prog 210 := ⟨Tryz.f210, Tryz.func210, by kernel_rfl, by kernel_rfl⟩
theorem pf211 : PlainF Tryz.prog 211 := ⟨Tryz.f211, Tryz.func211, by kernel_rfl, by kernel_rfl⟩
theorem pf212 : PlainF Tryz.prog 212 := ⟨Tryz.f212, Tryz.func212, by kernel_rfl, by kernel_rfl⟩
theorem pf213 : PlainF Tryz.prog 213 := ⟨Tryz.f213, Tryz.func213, by kernel_rfl, by kernel_rfl⟩
theorem pf214 : PlainF Tryz.prog 214 := ⟨Tryz.f214, Tryz.func214, by kernel_rfl, by kernel_rfl⟩
theorem pf215 : PlainF Tryz.prog 215 := ⟨Tryz.f215, Tryz.func215, by kernel_rfl, by kernel_rfl⟩
theorem pf216 : PlainF Tryz.prog 216 := ⟨Tryz.f216, Tryz.func216, by kernel_rfl, by kernel_rfl⟩
theorem pf225 : PlainF Tryz.prog 225 := ⟨Tryz.f225, Tryz.func225, by kernel_rfl, by kernel_rfl⟩
theorem pf227 : PlainF Tryz.prog 227 := ⟨Tryz.f227, Tryz.func227, by kernel_rfl, by kernel_rfl⟩
theorem pf228 : PlainF Tryz.prog 228 := ⟨Tryz.f228, Tryz.func228, by kernel_rfl, by kernel_rfl⟩
theorem pf229 : PlainF Tryz.prog 229 := ⟨Tryz.f229, Tryz.func229, by kernel_rfl, by kernel_rfl⟩
theorem pf230 : PlainF Tryz.prog 230 := ⟨Tryz.f230, Tryz.func230, by kernel_rfl, by kernel_rfl⟩
theorem pf231 : PlainF Tryz.prog 231 := ⟨Tryz.f231, Tryz.func231, by kernel_rfl, by kernel_rfl⟩
theorem pf235 : PlainF Tryz.prog 235 := ⟨Tryz.f235, Tryz.func235, by kernel_rfl, by kernel_rfl⟩
theorem pf236 : PlainF Tryz.prog 236 := ⟨Tryz.f236, Tryz.func236, by kernel_rfl, by kernel_rfl⟩
theorem pf237 : PlainF Tryz.prog 237 := ⟨Tryz.f237, Tryz.func237, by kernel_rfl, by kernel_rfl⟩
theorem pf238 : PlainF Tryz.prog 238 := ⟨Tryz.f238, Tryz.func238, by kernel_rfl, by kernel_rfl⟩
theorem pf239 : PlainF Tryz.prog 239 := ⟨Tryz.f239, Tryz.func239, by kernel_rfl, by kernel_rfl⟩
theorem pf240 : PlainF Tryz.prog 240 := ⟨Tryz.f240, Tryz.func240, by kernel_rfl, by kernel_rfl⟩
theorem pf241 : PlainF Tryz.prog 241 := ⟨Tryz.f241, Tryz.func241, by kernel_rfl, by kernel_rfl⟩
theorem pf242 : PlainF Tryz.prog 242 := ⟨Tryz.f242, Tryz.func242, by kernel_rfl, by kernel_rfl⟩
theorem pf243 : PlainF Tryz.prog 243 := ⟨Tryz.f243, Tryz.func243, by kernel_rfl, by kernel_rfl⟩
theorem pf244 : PlainF Tryz.prog 244 := ⟨Tryz.f244, Tryz.func244, by kernel_rfl, by kernel_rfl⟩
theorem pf245 : PlainF Tryz.prog 245 := ⟨Tryz.f245, Tryz.func245, by kernel_rfl, by kernel_rfl⟩
theorem pf246 : PlainF Tryz.prog 246 := ⟨Tryz.f246, Tryz.func246, by kernel_rfl, by kernel_rfl⟩
theorem pf247 : PlainF Tryz.prog 247 := ⟨Tryz.f247, Tryz.func247, by kernel_rfl, by kernel_rfl⟩
theorem pf248 : PlainF Tryz.prog 248 := ⟨Tryz.f248, Tryz.func248, by kernel_rfl, by kernel_rfl⟩
theorem pf249 : PlainF Tryz.prog 249 := ⟨Tryz.f249, Tryz.func249, by kernel_rfl, by kernel_rfl⟩
theorem pf250 : PlainF Tryz.prog 250 := ⟨Tryz.f250, Tryz.func250, by kernel_rfl, by kernel_rfl⟩
theorem pf251 : PlainF Tryz.prog 251 := ⟨Tryz.f251, Tryz.func251, by kernel_rfl, by kernel_rfl⟩
theorem pf252 : PlainF Tryz.prog 252 := ⟨Tryz.f252, Tryz.func252, by kernel_rfl, by kernel_rfl⟩
theorem pf253 : PlainF Tryz.prog 253 := ⟨Tryz.f253, Tryz.func253, by kernel_rfl, by kernel_rfl⟩
theorem pf254 : PlainF Tryz.prog 254 := ⟨Tryz.f254, Tryz.func254, by kernel_rfl, by kernel_rfl⟩
theorem pf255 : PlainF Tryz.prog 255 := ⟨Tryz.f255, Tryz.func255, by kernel_rfl, by kernel_rfl⟩
theorem pf256 : PlainF Tryz.prog 256 := ⟨Tryz.f256, Tryz.func256, by kernel_rfl, by kernel_rfl⟩
theorem pf257 : PlainF Tryz.prog 257 := ⟨Tryz.f257, Tryz.func257, by kernel_rfl, by kernel_rfl⟩
theorem pf258 : PlainF Tryz.prog 258 := ⟨Tryz.f258, Tryz.func258, by kernel_rfl, by kernel_rfl⟩
theorem pf259 : PlainF Tryz.prog 259 := ⟨Tryz.f259, Tryz.func259, by kernel_rfl, by kernel_rfl⟩
theorem pf260 : PlainF Tryz.prog 260 := ⟨Tryz.f260, Tryz.func260, by kernel_rfl, by kernel_rfl⟩
theorem pf261 : PlainF Tryz.prog 261 := ⟨Tryz.f261, Tryz.func261, by kernel_rfl, by kernel_rfl⟩
theorem pf265 : PlainF Tryz.prog 265 := ⟨Tryz.f265, Tryz.func265, by kernel_rfl, by kernel_rfl⟩
theorem pf266 : PlainF Tryz.prog 266 := ⟨Tryz.f266, Tryz.func266, by kernel_rfl, by kernel_rfl⟩
theorem pf267 : PlainF Tryz.prog 267 := ⟨Tryz.f267, Tryz.func267, by kernel_rfl, by kernel_rfl⟩
theorem pf276 : PlainF Tryz.prog 276 := ⟨Tryz.f276, Tryz.func276, by kernel_rfl, by kernel_rfl⟩
theorem pf279 : PlainF Tryz.prog 279 := ⟨Tryz.f279, Tryz.func279, by kernel_rfl, by kernel_rfl⟩
theorem pf280 : PlainF Tryz.prog 280 := ⟨Tryz.f280, Tryz.func280, by kernel_rfl, by kernel_rfl⟩
theorem pf281 : PlainF Tryz.prog 281 := ⟨Tryz.f281, Tryz.func281, by kernel_rfl, by kernel_rfl⟩
theorem pf282 : PlainF Tryz.prog 282 := ⟨Tryz.f282, Tryz.func282, by kernel_rfl, by kernel_rfl⟩
theorem pf283 : PlainF Tryz.prog 283 := ⟨Tryz.f283, Tryz.func283, by kernel_rfl, by kernel_rfl⟩
theorem pf284 : PlainF Tryz.prog 284 := ⟨Tryz.f284, Tryz.func284, by kernel_rfl, by kernel_rfl⟩
theorem pf285 : PlainF Tryz.prog 285 := ⟨Tryz.f285, Tryz.func285, by kernel_rfl, by kernel_rfl⟩
theorem pf286 : PlainF Tryz.prog 286 := ⟨Tryz.f286, Tryz.func286, by kernel_rfl, by kernel_rfl⟩
theorem pf287 : PlainF Tryz.prog 287 := ⟨Tryz.f287, Tryz.func287, by kernel_rfl, by kernel_rfl⟩
theorem pf288 : PlainF Tryz.prog 288 := ⟨Tryz.f288, Tryz.func288, by kernel_rfl, by kernel_rfl⟩
theorem pf289 : PlainF Tryz.prog 289 := ⟨Tryz.f289, Tryz.func289, by kernel_rfl, by kernel_rfl⟩
theorem pf290 : PlainF Tryz.prog 290 := ⟨Tryz.f290, Tryz.func290, by kernel_rfl, by kernel_rfl⟩
theorem pf291 : PlainF Tryz.prog 291 := ⟨Tryz.f291, Tryz.func291, by kernel_rfl, by kernel_rfl⟩
theorem pf293 : PlainF Tryz.prog 293 := ⟨Tryz.f293, Tryz.func293, by kernel_rfl, by kernel_rfl⟩
theorem pf294 : PlainF Tryz.prog 294 := ⟨Tryz.f294, Tryz.func294, by kernel_rfl, by kernel_rfl⟩
theorem pf295 : PlainF Tryz.prog 295 := ⟨Tryz.f295, Tryz.func295, by kernel_rfl, by kernel_rfl⟩
theorem pf296 : PlainF Tryz.prog 296 := ⟨Tryz.f296, Tryz.func296, by kernel_rfl, by kernel_rfl⟩
theorem pf297 : PlainF Tryz.prog 297 := ⟨Tryz.f297, Tryz.func297, by kernel_rfl, by kernel_rfl⟩
theorem pf298 : PlainF Tryz.prog 298 := ⟨Tryz.f298, Tryz.func298, by kernel_rfl, by kernel_rfl⟩
theorem pf299 : PlainF Tryz.prog 299 := ⟨Tryz.f299, Tryz.func299, by kernel_rfl, by kernel_rfl⟩
theorem pf300 : PlainF Tryz.prog 300 := ⟨Tryz.f300, Tryz.func300, by kernel_rfl, by kernel_rfl⟩
theorem pf309 : PlainF Tryz.prog 309 := ⟨Tryz.f309, Tryz.func309, by kernel_rfl, by kernel_rfl⟩
theorem pf310 : PlainF Tryz.prog 310 := ⟨Tryz.f310, Tryz.func310, by kernel_rfl, by kernel_rfl⟩
theorem pf311 : PlainF Tryz.prog 311 := ⟨Tryz.f311, Tryz.func311, by kernel_rfl, by kernel_rfl⟩
theorem pf312 : PlainF Tryz.prog 312 := ⟨Tryz.f312, Tryz.func312, by kernel_rfl, by kernel_rfl⟩
theorem pf313 : PlainF Tryz.prog 313 := ⟨Tryz.f313, Tryz.func313, by kernel_rfl, by kernel_rfl⟩
theorem pf314 : PlainF Tryz.prog 314 := ⟨Tryz.f314, Tryz.func314, by kernel_rfl, by kernel_rfl⟩
theorem pf315 : PlainF Tryz.prog 315 := ⟨Tryz.f315, Tryz.func315, by kernel_rfl, by kernel_rfl⟩
theorem pf316 : PlainF Tryz.prog 316 := ⟨Tryz.f316, Tryz.func316, by kernel_rfl, by kernel_rfl⟩
theorem pf317 : PlainF Tryz.prog 317 := ⟨Tryz.f317, Tryz.func317, by kernel_rfl, by kernel_rfl⟩
theorem pf318 : PlainF Tryz.prog 318 := ⟨Tryz.f318, Tryz.func318, by kernel_rfl, by kernel_rfl⟩
theorem pf319 : PlainF Tryz.prog 319 := ⟨Tryz.f319, Tryz.func319, by kernel_rfl, by kernel_rfl⟩
theorem pf320 : PlainF Tryz.prog 320 := ⟨Tryz.f320, Tryz.func320, by kernel_rfl, by kernel_rfl⟩
theorem pf321 : PlainF Tryz.prog 321 := ⟨Tryz.f321, Tryz.func321, by kernel_rfl, by kernel_rfl⟩
theorem pf322 : PlainF Tryz.prog 322 := ⟨Tryz.f322, Tryz.func322, by kernel_rfl, by kernel_rfl⟩
theorem pf323 : PlainF Tryz.prog 323 := ⟨Tryz.f323, Tryz.func323, by kernel_rfl, by kernel_rfl⟩
theorem pf324 : PlainF Tryz.prog 324 := ⟨Tryz.f324, Tryz.func324, by kernel_rfl, by kernel_rfl⟩
theorem pf325 : PlainF Tryz.prog 325 := ⟨Tryz.f325, Tryz.func325, by kernel_rfl, by kernel_rfl⟩
theorem pf326 : PlainF Tryz.prog 326 := ⟨Tryz.f326, Tryz.func326, by kernel_rfl, by kernel_rfl⟩
theorem pf327 : PlainF Tryz.prog 327 := ⟨Tryz.f327, Tryz.func327, by kernel_rfl, by kernel_rfl⟩
theorem pf328 : PlainF Tryz.prog 328 := ⟨Tryz.f328, Tryz.func328, by kernel_rfl, by kernel_rfl⟩
theorem pf329 : PlainF Tryz.prog 329 := ⟨Tryz.f329, Tryz.func329, by kernel_rfl, by kernel_rfl⟩
theorem pf330 : PlainF Tryz.prog 330 := ⟨Tryz.f330, Tryz.func330, by kernel_rfl, by kernel_rfl⟩
theorem pf331 : PlainF Tryz.prog 331 := ⟨Tryz.f331, Tryz.func331, by kernel_rfl, by kernel_rfl⟩
theorem pf332 : PlainF Tryz.prog 332 := ⟨Tryz.f332, Tryz.func332, by kernel_rfl, by kernel_rfl⟩
theorem pf333 : PlainF Tryz.prog 333 := ⟨Tryz.f333, Tryz.func333, by kernel_rfl, by kernel_rfl⟩
theorem pf334 : PlainF Tryz.prog 334 := ⟨Tryz.f334, Tryz.func334, by kernel_rfl, by kernel_rfl⟩
theorem pf335 : PlainF Tryz.prog 335 := ⟨Tryz.f335, Tryz.func335, by kernel_rfl, by kernel_rfl⟩
theorem pf336 : PlainF Tryz.prog 336 := ⟨Tryz.f336, Tryz.func336, by kernel_rfl, by kernel_rfl⟩
theorem pf337 : PlainF Tryz.prog 337 := ⟨Tryz.f337, Tryz.func337, by kernel_rfl, by kernel_rfl⟩
theorem pf338 : PlainF Tryz.prog 338 := ⟨Tryz.f338, Tryz.func338, by kernel_rfl, by kernel_rfl⟩
theorem pf339 : PlainF Tryz.prog 339 := ⟨Tryz.f339, Tryz.func339, by kernel_rfl, by kernel_rfl⟩
theorem pf340 : PlainF Tryz.prog 340 := ⟨Tryz.f340, Tryz.func340, by kernel_rfl, by kernel_rfl⟩
theorem pf341 : PlainF Tryz.prog 341 := ⟨Tryz.f341, Tryz.func341, by kernel_rfl, by kernel_rfl⟩
theorem pf342 : PlainF Tryz.prog 342 := ⟨Tryz.f342, Tryz.func342, by kernel_rfl, by kernel_rfl⟩
theorem pf343 : PlainF Tryz.prog 343 := ⟨Tryz.f343, Tryz.func343, by kernel_rfl, by kernel_rfl⟩
theorem pf344 : PlainF Tryz.prog 344 := ⟨Tryz.f344, Tryz.func344, by kernel_rfl, by kernel_rfl⟩
theorem pf345 : PlainF Tryz.prog 345 := ⟨Tryz.f345, Tryz.func345, by kernel_rfl, by kernel_rfl⟩
theorem pf346 : PlainF Tryz.prog 346 := ⟨Tryz.f346, Tryz.func346, by kernel_rfl, by kernel_rfl⟩
end Go.Proofs.YtbhbpfdjlabamaaGreat
