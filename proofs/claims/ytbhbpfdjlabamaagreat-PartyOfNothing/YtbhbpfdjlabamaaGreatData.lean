/-
  The data of the program, and how they lie in memory.
-/
import Derived.Test.YtbhbpfdjlabamaaGreatOps10
set_option linter.all false
set_option linter.unusedVariables false
set_option linter.unusedSimpArgs false
namespace Go.Proofs.YtbhbpfdjlabamaaGreat
open Go
open Go.Proofs

structure SLeaf where
  Sign : Int
  Seal : Int
  deriving DecidableEq
def SLeaf.zero : SLeaf := { Sign := (0 : Int), Seal := (0 : Int) }
instance : Inhabited SLeaf := ⟨SLeaf.zero⟩
def tySLeaf : Ty SLeaf := ⟨2, fun x => (tyI .i64).enc x.Sign ++ (tyI .i64).enc x.Seal, fun x => by simp only [List.length_append, Ty.len]; rfl, fun x v h => by
    simp only [List.mem_append] at h
    rcases h with h | h <;> exact Ty.one _ _ _ h⟩
theorem SLeaf.s0 (x : SLeaf) : Sub (tySLeaf.enc x) 0 ((tyI .i64).enc x.Sign) := sub_head
theorem SLeaf.u0 (x : SLeaf) (y : Int) : Upd (tySLeaf.enc x) 0 ((tyI .i64).enc y) (tySLeaf.enc { x with Sign := y }) := (upd_head (by simp [Ty.len]))
theorem SLeaf.s1 (x : SLeaf) : Sub (tySLeaf.enc x) 1 ((tyI .i64).enc x.Seal) := (sub_tail (Sub.refl _) (Ty.len _ _) (m := 1) rfl)
theorem SLeaf.u1 (x : SLeaf) (y : Int) : Upd (tySLeaf.enc x) 1 ((tyI .i64).enc y) (tySLeaf.enc { x with Seal := y }) := (upd_tail (Upd.refl (by simp [Ty.len])) (Ty.len _ _) (m := 1) rfl)
structure STree where
  Leaves : (Vector SLeaf 8)
  Nodes : (Vector Int 15)
  deriving DecidableEq
def STree.zero : STree := { Leaves := (Vector.replicate 8 SLeaf.zero), Nodes := (Vector.replicate 15 (0 : Int)) }
instance : Inhabited STree := ⟨STree.zero⟩
def tySTree : Ty STree := ⟨31, fun x => (Ty.arr 8 tySLeaf).enc x.Leaves ++ (Ty.arr 15 (tyI .i64)).enc x.Nodes, fun x => by simp only [List.length_append, Ty.len]; rfl, fun x v h => by
    simp only [List.mem_append] at h
    rcases h with h | h <;> exact Ty.one _ _ _ h⟩
theorem STree.s0 (x : STree) : Sub (tySTree.enc x) 0 ((Ty.arr 8 tySLeaf).enc x.Leaves) := sub_head
theorem STree.u0 (x : STree) (y : (Vector SLeaf 8)) : Upd (tySTree.enc x) 0 ((Ty.arr 8 tySLeaf).enc y) (tySTree.enc { x with Leaves := y }) := (upd_head (by simp [Ty.len]))
theorem STree.s1 (x : STree) : Sub (tySTree.enc x) 16 ((Ty.arr 15 (tyI .i64)).enc x.Nodes) := (sub_tail (Sub.refl _) (Ty.len _ _) (m := 16) rfl)
theorem STree.u1 (x : STree) (y : (Vector Int 15)) : Upd (tySTree.enc x) 16 ((Ty.arr 15 (tyI .i64)).enc y) (tySTree.enc { x with Nodes := y }) := (upd_tail (Upd.refl (by simp [Ty.len])) (Ty.len _ _) (m := 16) rfl)
structure SView where
  Epoch : Int
  Tree : STree
  Admins : (Vector Bool 8)
  K : Int
  Chain : (Vector Int 32)
  deriving DecidableEq
def SView.zero : SView := { Epoch := (0 : Int), Tree := STree.zero, Admins := (Vector.replicate 8 false), K := (0 : Int), Chain := (Vector.replicate 32 (0 : Int)) }
instance : Inhabited SView := ⟨SView.zero⟩
def tySView : Ty SView := ⟨73, fun x => (tyI .i64).enc x.Epoch ++ (tySTree.enc x.Tree ++ ((Ty.arr 8 tyB).enc x.Admins ++ ((tyI .i64).enc x.K ++ (Ty.arr 32 (tyI .u8)).enc x.Chain))), fun x => by simp only [List.length_append, Ty.len]; rfl, fun x v h => by
    simp only [List.mem_append] at h
    rcases h with h | h | h | h | h <;> exact Ty.one _ _ _ h⟩
theorem SView.s0 (x : SView) : Sub (tySView.enc x) 0 ((tyI .i64).enc x.Epoch) := sub_head
theorem SView.u0 (x : SView) (y : Int) : Upd (tySView.enc x) 0 ((tyI .i64).enc y) (tySView.enc { x with Epoch := y }) := (upd_head (by simp [Ty.len]))
theorem SView.s1 (x : SView) : Sub (tySView.enc x) 1 (tySTree.enc x.Tree) := (sub_tail sub_head (Ty.len _ _) (m := 1) rfl)
theorem SView.u1 (x : SView) (y : STree) : Upd (tySView.enc x) 1 (tySTree.enc y) (tySView.enc { x with Tree := y }) := (upd_tail (upd_head (by simp [Ty.len])) (Ty.len _ _) (m := 1) rfl)
theorem SView.s2 (x : SView) : Sub (tySView.enc x) 32 ((Ty.arr 8 tyB).enc x.Admins) := (sub_tail (sub_tail sub_head (Ty.len _ _) (m := 31) rfl) (Ty.len _ _) (m := 32) rfl)
theorem SView.u2 (x : SView) (y : (Vector Bool 8)) : Upd (tySView.enc x) 32 ((Ty.arr 8 tyB).enc y) (tySView.enc { x with Admins := y }) := (upd_tail (upd_tail (upd_head (by simp [Ty.len])) (Ty.len _ _) (m := 31) rfl) (Ty.len _ _) (m := 32) rfl)
theorem SView.s3 (x : SView) : Sub (tySView.enc x) 40 ((tyI .i64).enc x.K) := (sub_tail (sub_tail (sub_tail sub_head (Ty.len _ _) (m := 8) rfl) (Ty.len _ _) (m := 39) rfl) (Ty.len _ _) (m := 40) rfl)
theorem SView.u3 (x : SView) (y : Int) : Upd (tySView.enc x) 40 ((tyI .i64).enc y) (tySView.enc { x with K := y }) := (upd_tail (upd_tail (upd_tail (upd_head (by simp [Ty.len])) (Ty.len _ _) (m := 8) rfl) (Ty.len _ _) (m := 39) rfl) (Ty.len _ _) (m := 40) rfl)
theorem SView.s4 (x : SView) : Sub (tySView.enc x) 41 ((Ty.arr 32 (tyI .u8)).enc x.Chain) := (sub_tail (sub_tail (sub_tail (sub_tail (Sub.refl _) (Ty.len _ _) (m := 1) rfl) (Ty.len _ _) (m := 9) rfl) (Ty.len _ _) (m := 40) rfl) (Ty.len _ _) (m := 41) rfl)
theorem SView.u4 (x : SView) (y : (Vector Int 32)) : Upd (tySView.enc x) 41 ((Ty.arr 32 (tyI .u8)).enc y) (tySView.enc { x with Chain := y }) := (upd_tail (upd_tail (upd_tail (upd_tail (Upd.refl (by simp [Ty.len])) (Ty.len _ _) (m := 1) rfl) (Ty.len _ _) (m := 9) rfl) (Ty.len _ _) (m := 40) rfl) (Ty.len _ _) (m := 41) rfl)
structure SpartyParty where
  v : SView
  leaf : Int
  signer : (Option Int)
  own : (Vector Int 32)
  has' : (Vector Bool 3)
  nodes : (Vector (Vector Int 32) 3)
  epoch : (Vector Int 32)
  init' : (Vector Int 32)
  deriving DecidableEq
def SpartyParty.zero : SpartyParty := { v := SView.zero, leaf := (0 : Int), signer := (none : (Option Int)), own := (Vector.replicate 32 (0 : Int)), has' := (Vector.replicate 3 false), nodes := (Vector.replicate 3 (Vector.replicate 32 (0 : Int))), epoch := (Vector.replicate 32 (0 : Int)), init' := (Vector.replicate 32 (0 : Int)) }
instance : Inhabited SpartyParty := ⟨SpartyParty.zero⟩
structure VpartyParty where
  v : SView
  leaf : Int
  signer : (Option Addr)
  own : (Vector Int 32)
  has' : (Vector Bool 3)
  nodes : (Vector (Vector Int 32) 3)
  epoch : (Vector Int 32)
  init' : (Vector Int 32)
def VpartyParty.zero : VpartyParty := { v := SView.zero, leaf := (0 : Int), signer := (none : Option Addr), own := (Vector.replicate 32 (0 : Int)), has' := (Vector.replicate 3 false), nodes := (Vector.replicate 3 (Vector.replicate 32 (0 : Int))), epoch := (Vector.replicate 32 (0 : Int)), init' := (Vector.replicate 32 (0 : Int)) }
instance : Inhabited VpartyParty := ⟨VpartyParty.zero⟩
def tyVpartyParty : Ty VpartyParty := ⟨270, fun x => tySView.enc x.v ++ ((tyI .i64).enc x.leaf ++ (tyP.enc x.signer ++ ((Ty.arr 32 (tyI .u8)).enc x.own ++ ((Ty.arr 3 tyB).enc x.has' ++ ((Ty.arr 3 (Ty.arr 32 (tyI .u8))).enc x.nodes ++ ((Ty.arr 32 (tyI .u8)).enc x.epoch ++ (Ty.arr 32 (tyI .u8)).enc x.init')))))), fun x => by simp only [List.length_append, Ty.len]; rfl, fun x v h => by
    simp only [List.mem_append] at h
    rcases h with h | h | h | h | h | h | h | h <;> exact Ty.one _ _ _ h⟩
theorem VpartyParty.s0 (x : VpartyParty) : Sub (tyVpartyParty.enc x) 0 (tySView.enc x.v) := sub_head
theorem VpartyParty.u0 (x : VpartyParty) (y : SView) : Upd (tyVpartyParty.enc x) 0 (tySView.enc y) (tyVpartyParty.enc { x with v := y }) := (upd_head (by simp [Ty.len]))
theorem VpartyParty.s1 (x : VpartyParty) : Sub (tyVpartyParty.enc x) 73 ((tyI .i64).enc x.leaf) := (sub_tail sub_head (Ty.len _ _) (m := 73) rfl)
theorem VpartyParty.u1 (x : VpartyParty) (y : Int) : Upd (tyVpartyParty.enc x) 73 ((tyI .i64).enc y) (tyVpartyParty.enc { x with leaf := y }) := (upd_tail (upd_head (by simp [Ty.len])) (Ty.len _ _) (m := 73) rfl)
theorem VpartyParty.s2 (x : VpartyParty) : Sub (tyVpartyParty.enc x) 74 (tyP.enc x.signer) := (sub_tail (sub_tail sub_head (Ty.len _ _) (m := 1) rfl) (Ty.len _ _) (m := 74) rfl)
theorem VpartyParty.u2 (x : VpartyParty) (y : (Option Addr)) : Upd (tyVpartyParty.enc x) 74 (tyP.enc y) (tyVpartyParty.enc { x with signer := y }) := (upd_tail (upd_tail (upd_head (by simp [Ty.len])) (Ty.len _ _) (m := 1) rfl) (Ty.len _ _) (m := 74) rfl)
theorem VpartyParty.s3 (x : VpartyParty) : Sub (tyVpartyParty.enc x) 75 ((Ty.arr 32 (tyI .u8)).enc x.own) := (sub_tail (sub_tail (sub_tail sub_head (Ty.len _ _) (m := 1) rfl) (Ty.len _ _) (m := 2) rfl) (Ty.len _ _) (m := 75) rfl)
theorem VpartyParty.u3 (x : VpartyParty) (y : (Vector Int 32)) : Upd (tyVpartyParty.enc x) 75 ((Ty.arr 32 (tyI .u8)).enc y) (tyVpartyParty.enc { x with own := y }) := (upd_tail (upd_tail (upd_tail (upd_head (by simp [Ty.len])) (Ty.len _ _) (m := 1) rfl) (Ty.len _ _) (m := 2) rfl) (Ty.len _ _) (m := 75) rfl)
theorem VpartyParty.s4 (x : VpartyParty) : Sub (tyVpartyParty.enc x) 107 ((Ty.arr 3 tyB).enc x.has') := (sub_tail (sub_tail (sub_tail (sub_tail sub_head (Ty.len _ _) (m := 32) rfl) (Ty.len _ _) (m := 33) rfl) (Ty.len _ _) (m := 34) rfl) (Ty.len _ _) (m := 107) rfl)
theorem VpartyParty.u4 (x : VpartyParty) (y : (Vector Bool 3)) : Upd (tyVpartyParty.enc x) 107 ((Ty.arr 3 tyB).enc y) (tyVpartyParty.enc { x with has' := y }) := (upd_tail (upd_tail (upd_tail (upd_tail (upd_head (by simp [Ty.len])) (Ty.len _ _) (m := 32) rfl) (Ty.len _ _) (m := 33) rfl) (Ty.len _ _) (m := 34) rfl) (Ty.len _ _) (m := 107) rfl)
theorem VpartyParty.s5 (x : VpartyParty) : Sub (tyVpartyParty.enc x) 110 ((Ty.arr 3 (Ty.arr 32 (tyI .u8))).enc x.nodes) := (sub_tail (sub_tail (sub_tail (sub_tail (sub_tail sub_head (Ty.len _ _) (m := 3) rfl) (Ty.len _ _) (m := 35) rfl) (Ty.len _ _) (m := 36) rfl) (Ty.len _ _) (m := 37) rfl) (Ty.len _ _) (m := 110) rfl)
theorem VpartyParty.u5 (x : VpartyParty) (y : (Vector (Vector Int 32) 3)) : Upd (tyVpartyParty.enc x) 110 ((Ty.arr 3 (Ty.arr 32 (tyI .u8))).enc y) (tyVpartyParty.enc { x with nodes := y }) := (upd_tail (upd_tail (upd_tail (upd_tail (upd_tail (upd_head (by simp [Ty.len])) (Ty.len _ _) (m := 3) rfl) (Ty.len _ _) (m := 35) rfl) (Ty.len _ _) (m := 36) rfl) (Ty.len _ _) (m := 37) rfl) (Ty.len _ _) (m := 110) rfl)
theorem VpartyParty.s6 (x : VpartyParty) : Sub (tyVpartyParty.enc x) 206 ((Ty.arr 32 (tyI .u8)).enc x.epoch) := (sub_tail (sub_tail (sub_tail (sub_tail (sub_tail (sub_tail sub_head (Ty.len _ _) (m := 96) rfl) (Ty.len _ _) (m := 99) rfl) (Ty.len _ _) (m := 131) rfl) (Ty.len _ _) (m := 132) rfl) (Ty.len _ _) (m := 133) rfl) (Ty.len _ _) (m := 206) rfl)
theorem VpartyParty.u6 (x : VpartyParty) (y : (Vector Int 32)) : Upd (tyVpartyParty.enc x) 206 ((Ty.arr 32 (tyI .u8)).enc y) (tyVpartyParty.enc { x with epoch := y }) := (upd_tail (upd_tail (upd_tail (upd_tail (upd_tail (upd_tail (upd_head (by simp [Ty.len])) (Ty.len _ _) (m := 96) rfl) (Ty.len _ _) (m := 99) rfl) (Ty.len _ _) (m := 131) rfl) (Ty.len _ _) (m := 132) rfl) (Ty.len _ _) (m := 133) rfl) (Ty.len _ _) (m := 206) rfl)
theorem VpartyParty.s7 (x : VpartyParty) : Sub (tyVpartyParty.enc x) 238 ((Ty.arr 32 (tyI .u8)).enc x.init') := (sub_tail (sub_tail (sub_tail (sub_tail (sub_tail (sub_tail (sub_tail (Sub.refl _) (Ty.len _ _) (m := 32) rfl) (Ty.len _ _) (m := 128) rfl) (Ty.len _ _) (m := 131) rfl) (Ty.len _ _) (m := 163) rfl) (Ty.len _ _) (m := 164) rfl) (Ty.len _ _) (m := 165) rfl) (Ty.len _ _) (m := 238) rfl)
theorem VpartyParty.u7 (x : VpartyParty) (y : (Vector Int 32)) : Upd (tyVpartyParty.enc x) 238 ((Ty.arr 32 (tyI .u8)).enc y) (tyVpartyParty.enc { x with init' := y }) := (upd_tail (upd_tail (upd_tail (upd_tail (upd_tail (upd_tail (upd_tail (Upd.refl (by simp [Ty.len])) (Ty.len _ _) (m := 32) rfl) (Ty.len _ _) (m := 128) rfl) (Ty.len _ _) (m := 131) rfl) (Ty.len _ _) (m := 163) rfl) (Ty.len _ _) (m := 164) rfl) (Ty.len _ _) (m := 165) rfl) (Ty.len _ _) (m := 238) rfl)
def mSpartyParty : MR VpartyParty SpartyParty where
  rel ok w v p := ∃ (h2 : (Option Addr)), v = ⟨p.v, p.leaf, h2, p.own, p.has', p.nodes, p.epoch, p.init'⟩ ∧ mKey.rel ok w h2 p.signer
  st := by
    rintro ok ok' w w' v p h ⟨h2, hv, k2⟩
    exact ⟨h2, hv, mKey.st _ _ h k2⟩
theorem nj_xSpartyParty {n w0 O0 M N e L K q v p} (hK : At (fa q mSpartyParty v p) K) (h : ∀ (h2 : (Option Addr)), v = (⟨p.v, p.leaf, h2, p.own, p.has', p.nodes, p.epoch, p.init'⟩ : VpartyParty) → NJ n w0 O0 M N e L ([fa q mKey h2 p.signer] ++ K)) : NJ n w0 O0 M N e L K := fun a σ he hs => by
  obtain ⟨h2, hv, k2⟩ := hs.kn _ hK.mem
  have hk : ∀ r ∈ [fa q mKey h2 p.signer] ++ K, r.p σ := by
    intro r hr
    simp only [List.cons_append, List.nil_append, List.mem_cons] at hr
    rcases hr with rfl | hr
    · exact k2
    · exact hs.kn r hr
  exact h h2 hv a σ he { hs with kn := hk }
theorem rq_SpartyParty {L K q} {a0 : SView} {a1 : Int} {a2 : (Option Int)} {a3 : (Vector Int 32)} {a4 : (Vector Bool 3)} {a5 : (Vector (Vector Int 32) 3)} {a6 : (Vector Int 32)} {a7 : (Vector Int 32)} {h2 : (Option Addr)} (k2 : Rq q mKey h2 a2 L K) : Rq q mSpartyParty (⟨a0, a1, h2, a3, a4, a5, a6, a7⟩ : VpartyParty) (⟨a0, a1, a2, a3, a4, a5, a6, a7⟩ : SpartyParty) L K := fun σ hk => ⟨h2, rfl, k2 σ hk⟩
structure Scuriaref3Key where
  X : Int
  Y : Int
  deriving DecidableEq
def Scuriaref3Key.zero : Scuriaref3Key := { X := (0 : Int), Y := (0 : Int) }
instance : Inhabited Scuriaref3Key := ⟨Scuriaref3Key.zero⟩
def tyScuriaref3Key : Ty Scuriaref3Key := ⟨2, fun x => (tyI .i64).enc x.X ++ (tyI .i64).enc x.Y, fun x => by simp only [List.length_append, Ty.len]; rfl, fun x v h => by
    simp only [List.mem_append] at h
    rcases h with h | h <;> exact Ty.one _ _ _ h⟩
theorem Scuriaref3Key.s0 (x : Scuriaref3Key) : Sub (tyScuriaref3Key.enc x) 0 ((tyI .i64).enc x.X) := sub_head
theorem Scuriaref3Key.u0 (x : Scuriaref3Key) (y : Int) : Upd (tyScuriaref3Key.enc x) 0 ((tyI .i64).enc y) (tyScuriaref3Key.enc { x with X := y }) := (upd_head (by simp [Ty.len]))
theorem Scuriaref3Key.s1 (x : Scuriaref3Key) : Sub (tyScuriaref3Key.enc x) 1 ((tyI .i64).enc x.Y) := (sub_tail (Sub.refl _) (Ty.len _ _) (m := 1) rfl)
theorem Scuriaref3Key.u1 (x : Scuriaref3Key) (y : Int) : Upd (tyScuriaref3Key.enc x) 1 ((tyI .i64).enc y) (tyScuriaref3Key.enc { x with Y := y }) := (upd_tail (Upd.refl (by simp [Ty.len])) (Ty.len _ _) (m := 1) rfl)
structure Scuriaref13Party where
  V : SView
  I : Int
  K : Scuriaref3Key
  S : (Vector (Vector Int 32) 15)
  Has : (Vector Bool 15)
  E : (Vector Int 32)
  init' : (Vector Int 32)
  deriving DecidableEq
def Scuriaref13Party.zero : Scuriaref13Party := { V := SView.zero, I := (0 : Int), K := Scuriaref3Key.zero, S := (Vector.replicate 15 (Vector.replicate 32 (0 : Int))), Has := (Vector.replicate 15 false), E := (Vector.replicate 32 (0 : Int)), init' := (Vector.replicate 32 (0 : Int)) }
instance : Inhabited Scuriaref13Party := ⟨Scuriaref13Party.zero⟩
def tyScuriaref13Party : Ty Scuriaref13Party := ⟨635, fun x => tySView.enc x.V ++ ((tyI .i64).enc x.I ++ (tyScuriaref3Key.enc x.K ++ ((Ty.arr 15 (Ty.arr 32 (tyI .u8))).enc x.S ++ ((Ty.arr 15 tyB).enc x.Has ++ ((Ty.arr 32 (tyI .u8)).enc x.E ++ (Ty.arr 32 (tyI .u8)).enc x.init'))))), fun x => by simp only [List.length_append, Ty.len]; rfl, fun x v h => by
    simp only [List.mem_append] at h
    rcases h with h | h | h | h | h | h | h <;> exact Ty.one _ _ _ h⟩
theorem Scuriaref13Party.s0 (x : Scuriaref13Party) : Sub (tyScuriaref13Party.enc x) 0 (tySView.enc x.V) := sub_head
theorem Scuriaref13Party.u0 (x : Scuriaref13Party) (y : SView) : Upd (tyScuriaref13Party.enc x) 0 (tySView.enc y) (tyScuriaref13Party.enc { x with V := y }) := (upd_head (by simp [Ty.len]))
theorem Scuriaref13Party.s1 (x : Scuriaref13Party) : Sub (tyScuriaref13Party.enc x) 73 ((tyI .i64).enc x.I) := (sub_tail sub_head (Ty.len _ _) (m := 73) rfl)
theorem Scuriaref13Party.u1 (x : Scuriaref13Party) (y : Int) : Upd (tyScuriaref13Party.enc x) 73 ((tyI .i64).enc y) (tyScuriaref13Party.enc { x with I := y }) := (upd_tail (upd_head (by simp [Ty.len])) (Ty.len _ _) (m := 73) rfl)
theorem Scuriaref13Party.s2 (x : Scuriaref13Party) : Sub (tyScuriaref13Party.enc x) 74 (tyScuriaref3Key.enc x.K) := (sub_tail (sub_tail sub_head (Ty.len _ _) (m := 1) rfl) (Ty.len _ _) (m := 74) rfl)
theorem Scuriaref13Party.u2 (x : Scuriaref13Party) (y : Scuriaref3Key) : Upd (tyScuriaref13Party.enc x) 74 (tyScuriaref3Key.enc y) (tyScuriaref13Party.enc { x with K := y }) := (upd_tail (upd_tail (upd_head (by simp [Ty.len])) (Ty.len _ _) (m := 1) rfl) (Ty.len _ _) (m := 74) rfl)
theorem Scuriaref13Party.s3 (x : Scuriaref13Party) : Sub (tyScuriaref13Party.enc x) 76 ((Ty.arr 15 (Ty.arr 32 (tyI .u8))).enc x.S) := (sub_tail (sub_tail (sub_tail sub_head (Ty.len _ _) (m := 2) rfl) (Ty.len _ _) (m := 3) rfl) (Ty.len _ _) (m := 76) rfl)
theorem Scuriaref13Party.u3 (x : Scuriaref13Party) (y : (Vector (Vector Int 32) 15)) : Upd (tyScuriaref13Party.enc x) 76 ((Ty.arr 15 (Ty.arr 32 (tyI .u8))).enc y) (tyScuriaref13Party.enc { x with S := y }) := (upd_tail (upd_tail (upd_tail (upd_head (by simp [Ty.len])) (Ty.len _ _) (m := 2) rfl) (Ty.len _ _) (m := 3) rfl) (Ty.len _ _) (m := 76) rfl)
theorem Scuriaref13Party.s4 (x : Scuriaref13Party) : Sub (tyScuriaref13Party.enc x) 556 ((Ty.arr 15 tyB).enc x.Has) := (sub_tail (sub_tail (sub_tail (sub_tail sub_head (Ty.len _ _) (m := 480) rfl) (Ty.len _ _) (m := 482) rfl) (Ty.len _ _) (m := 483) rfl) (Ty.len _ _) (m := 556) rfl)
theorem Scuriaref13Party.u4 (x : Scuriaref13Party) (y : (Vector Bool 15)) : Upd (tyScuriaref13Party.enc x) 556 ((Ty.arr 15 tyB).enc y) (tyScuriaref13Party.enc { x with Has := y }) := (upd_tail (upd_tail (upd_tail (upd_tail (upd_head (by simp [Ty.len])) (Ty.len _ _) (m := 480) rfl) (Ty.len _ _) (m := 482) rfl) (Ty.len _ _) (m := 483) rfl) (Ty.len _ _) (m := 556) rfl)
theorem Scuriaref13Party.s5 (x : Scuriaref13Party) : Sub (tyScuriaref13Party.enc x) 571 ((Ty.arr 32 (tyI .u8)).enc x.E) := (sub_tail (sub_tail (sub_tail (sub_tail (sub_tail sub_head (Ty.len _ _) (m := 15) rfl) (Ty.len _ _) (m := 495) rfl) (Ty.len _ _) (m := 497) rfl) (Ty.len _ _) (m := 498) rfl) (Ty.len _ _) (m := 571) rfl)
theorem Scuriaref13Party.u5 (x : Scuriaref13Party) (y : (Vector Int 32)) : Upd (tyScuriaref13Party.enc x) 571 ((Ty.arr 32 (tyI .u8)).enc y) (tyScuriaref13Party.enc { x with E := y }) := (upd_tail (upd_tail (upd_tail (upd_tail (upd_tail (upd_head (by simp [Ty.len])) (Ty.len _ _) (m := 15) rfl) (Ty.len _ _) (m := 495) rfl) (Ty.len _ _) (m := 497) rfl) (Ty.len _ _) (m := 498) rfl) (Ty.len _ _) (m := 571) rfl)
theorem Scuriaref13Party.s6 (x : Scuriaref13Party) : Sub (tyScuriaref13Party.enc x) 603 ((Ty.arr 32 (tyI .u8)).enc x.init') := (sub_tail (sub_tail (sub_tail (sub_tail (sub_tail (sub_tail (Sub.refl _) (Ty.len _ _) (m := 32) rfl) (Ty.len _ _) (m := 47) rfl) (Ty.len _ _) (m := 527) rfl) (Ty.len _ _) (m := 529) rfl) (Ty.len _ _) (m := 530) rfl) (Ty.len _ _) (m := 603) rfl)
theorem Scuriaref13Party.u6 (x : Scuriaref13Party) (y : (Vector Int 32)) : Upd (tyScuriaref13Party.enc x) 603 ((Ty.arr 32 (tyI .u8)).enc y) (tyScuriaref13Party.enc { x with init' := y }) := (upd_tail (upd_tail (upd_tail (upd_tail (upd_tail (upd_tail (Upd.refl (by simp [Ty.len])) (Ty.len _ _) (m := 32) rfl) (Ty.len _ _) (m := 47) rfl) (Ty.len _ _) (m := 527) rfl) (Ty.len _ _) (m := 529) rfl) (Ty.len _ _) (m := 530) rfl) (Ty.len _ _) (m := 603) rfl)
structure Sviewchange where
  v : SView
  from' : Int
  added : (Vector Bool 8)
  gone : (Vector Bool 8)
  deriving DecidableEq
def Sviewchange.zero : Sviewchange := { v := SView.zero, from' := (0 : Int), added := (Vector.replicate 8 false), gone := (Vector.replicate 8 false) }
instance : Inhabited Sviewchange := ⟨Sviewchange.zero⟩
def tySviewchange : Ty Sviewchange := ⟨90, fun x => tySView.enc x.v ++ ((tyI .i64).enc x.from' ++ ((Ty.arr 8 tyB).enc x.added ++ (Ty.arr 8 tyB).enc x.gone)), fun x => by simp only [List.length_append, Ty.len]; rfl, fun x v h => by
    simp only [List.mem_append] at h
    rcases h with h | h | h | h <;> exact Ty.one _ _ _ h⟩
theorem Sviewchange.s0 (x : Sviewchange) : Sub (tySviewchange.enc x) 0 (tySView.enc x.v) := sub_head
theorem Sviewchange.u0 (x : Sviewchange) (y : SView) : Upd (tySviewchange.enc x) 0 (tySView.enc y) (tySviewchange.enc { x with v := y }) := (upd_head (by simp [Ty.len]))
theorem Sviewchange.s1 (x : Sviewchange) : Sub (tySviewchange.enc x) 73 ((tyI .i64).enc x.from') := (sub_tail sub_head (Ty.len _ _) (m := 73) rfl)
theorem Sviewchange.u1 (x : Sviewchange) (y : Int) : Upd (tySviewchange.enc x) 73 ((tyI .i64).enc y) (tySviewchange.enc { x with from' := y }) := (upd_tail (upd_head (by simp [Ty.len])) (Ty.len _ _) (m := 73) rfl)
theorem Sviewchange.s2 (x : Sviewchange) : Sub (tySviewchange.enc x) 74 ((Ty.arr 8 tyB).enc x.added) := (sub_tail (sub_tail sub_head (Ty.len _ _) (m := 1) rfl) (Ty.len _ _) (m := 74) rfl)
theorem Sviewchange.u2 (x : Sviewchange) (y : (Vector Bool 8)) : Upd (tySviewchange.enc x) 74 ((Ty.arr 8 tyB).enc y) (tySviewchange.enc { x with added := y }) := (upd_tail (upd_tail (upd_head (by simp [Ty.len])) (Ty.len _ _) (m := 1) rfl) (Ty.len _ _) (m := 74) rfl)
theorem Sviewchange.s3 (x : Sviewchange) : Sub (tySviewchange.enc x) 82 ((Ty.arr 8 tyB).enc x.gone) := (sub_tail (sub_tail (sub_tail (Sub.refl _) (Ty.len _ _) (m := 8) rfl) (Ty.len _ _) (m := 9) rfl) (Ty.len _ _) (m := 82) rfl)
theorem Sviewchange.u3 (x : Sviewchange) (y : (Vector Bool 8)) : Upd (tySviewchange.enc x) 82 ((Ty.arr 8 tyB).enc y) (tySviewchange.enc { x with gone := y }) := (upd_tail (upd_tail (upd_tail (Upd.refl (by simp [Ty.len])) (Ty.len _ _) (m := 8) rfl) (Ty.len _ _) (m := 9) rfl) (Ty.len _ _) (m := 82) rfl)
structure SOp where
  Kind : Int
  Who : Int
  K : Int
  Leaf : SLeaf
  deriving DecidableEq
def SOp.zero : SOp := { Kind := (0 : Int), Who := (0 : Int), K := (0 : Int), Leaf := SLeaf.zero }
instance : Inhabited SOp := ⟨SOp.zero⟩
def tySOp : Ty SOp := ⟨5, fun x => (tyI .i64).enc x.Kind ++ ((tyI .i64).enc x.Who ++ ((tyI .i64).enc x.K ++ tySLeaf.enc x.Leaf)), fun x => by simp only [List.length_append, Ty.len]; rfl, fun x v h => by
    simp only [List.mem_append] at h
    rcases h with h | h | h | h <;> exact Ty.one _ _ _ h⟩
theorem SOp.s0 (x : SOp) : Sub (tySOp.enc x) 0 ((tyI .i64).enc x.Kind) := sub_head
theorem SOp.u0 (x : SOp) (y : Int) : Upd (tySOp.enc x) 0 ((tyI .i64).enc y) (tySOp.enc { x with Kind := y }) := (upd_head (by simp [Ty.len]))
theorem SOp.s1 (x : SOp) : Sub (tySOp.enc x) 1 ((tyI .i64).enc x.Who) := (sub_tail sub_head (Ty.len _ _) (m := 1) rfl)
theorem SOp.u1 (x : SOp) (y : Int) : Upd (tySOp.enc x) 1 ((tyI .i64).enc y) (tySOp.enc { x with Who := y }) := (upd_tail (upd_head (by simp [Ty.len])) (Ty.len _ _) (m := 1) rfl)
theorem SOp.s2 (x : SOp) : Sub (tySOp.enc x) 2 ((tyI .i64).enc x.K) := (sub_tail (sub_tail sub_head (Ty.len _ _) (m := 1) rfl) (Ty.len _ _) (m := 2) rfl)
theorem SOp.u2 (x : SOp) (y : Int) : Upd (tySOp.enc x) 2 ((tyI .i64).enc y) (tySOp.enc { x with K := y }) := (upd_tail (upd_tail (upd_head (by simp [Ty.len])) (Ty.len _ _) (m := 1) rfl) (Ty.len _ _) (m := 2) rfl)
theorem SOp.s3 (x : SOp) : Sub (tySOp.enc x) 3 (tySLeaf.enc x.Leaf) := (sub_tail (sub_tail (sub_tail (Sub.refl _) (Ty.len _ _) (m := 1) rfl) (Ty.len _ _) (m := 2) rfl) (Ty.len _ _) (m := 3) rfl)
theorem SOp.u3 (x : SOp) (y : SLeaf) : Upd (tySOp.enc x) 3 (tySLeaf.enc y) (tySOp.enc { x with Leaf := y }) := (upd_tail (upd_tail (upd_tail (Upd.refl (by simp [Ty.len])) (Ty.len _ _) (m := 1) rfl) (Ty.len _ _) (m := 2) rfl) (Ty.len _ _) (m := 3) rfl)
structure SSig where
  E : Int
  S : Int
  deriving DecidableEq
def SSig.zero : SSig := { E := (0 : Int), S := (0 : Int) }
instance : Inhabited SSig := ⟨SSig.zero⟩
def tySSig : Ty SSig := ⟨2, fun x => (tyI .i64).enc x.E ++ (tyI .i64).enc x.S, fun x => by simp only [List.length_append, Ty.len]; rfl, fun x v h => by
    simp only [List.mem_append] at h
    rcases h with h | h <;> exact Ty.one _ _ _ h⟩
theorem SSig.s0 (x : SSig) : Sub (tySSig.enc x) 0 ((tyI .i64).enc x.E) := sub_head
theorem SSig.u0 (x : SSig) (y : Int) : Upd (tySSig.enc x) 0 ((tyI .i64).enc y) (tySSig.enc { x with E := y }) := (upd_head (by simp [Ty.len]))
theorem SSig.s1 (x : SSig) : Sub (tySSig.enc x) 1 ((tyI .i64).enc x.S) := (sub_tail (Sub.refl _) (Ty.len _ _) (m := 1) rfl)
theorem SSig.u1 (x : SSig) (y : Int) : Upd (tySSig.enc x) 1 ((tyI .i64).enc y) (tySSig.enc { x with S := y }) := (upd_tail (Upd.refl (by simp [Ty.len])) (Ty.len _ _) (m := 1) rfl)
structure SVote where
  Admin : Int
  Sig : SSig
  deriving DecidableEq
def SVote.zero : SVote := { Admin := (0 : Int), Sig := SSig.zero }
instance : Inhabited SVote := ⟨SVote.zero⟩
def tySVote : Ty SVote := ⟨3, fun x => (tyI .i64).enc x.Admin ++ tySSig.enc x.Sig, fun x => by simp only [List.length_append, Ty.len]; rfl, fun x v h => by
    simp only [List.mem_append] at h
    rcases h with h | h <;> exact Ty.one _ _ _ h⟩
theorem SVote.s0 (x : SVote) : Sub (tySVote.enc x) 0 ((tyI .i64).enc x.Admin) := sub_head
theorem SVote.u0 (x : SVote) (y : Int) : Upd (tySVote.enc x) 0 ((tyI .i64).enc y) (tySVote.enc { x with Admin := y }) := (upd_head (by simp [Ty.len]))
theorem SVote.s1 (x : SVote) : Sub (tySVote.enc x) 1 (tySSig.enc x.Sig) := (sub_tail (Sub.refl _) (Ty.len _ _) (m := 1) rfl)
theorem SVote.u1 (x : SVote) (y : SSig) : Upd (tySVote.enc x) 1 (tySSig.enc y) (tySVote.enc { x with Sig := y }) := (upd_tail (Upd.refl (by simp [Ty.len])) (Ty.len _ _) (m := 1) rfl)
structure SCommit where
  Epoch : Int
  From : Int
  Ops : (List SOp)
  Votes : (List SVote)
  Seal : Int
  Path : (Vector Int 3)
  Boxes : (List (List Int))
  Tag : (Vector Int 32)
  Sig : SSig
  deriving DecidableEq
def SCommit.zero : SCommit := { Epoch := (0 : Int), From := (0 : Int), Ops := ([] : (List SOp)), Votes := ([] : (List SVote)), Seal := (0 : Int), Path := (Vector.replicate 3 (0 : Int)), Boxes := ([] : (List (List Int))), Tag := (Vector.replicate 32 (0 : Int)), Sig := SSig.zero }
instance : Inhabited SCommit := ⟨SCommit.zero⟩
structure VCommit where
  Epoch : Int
  From : Int
  Ops : Sl
  Votes : Sl
  Seal : Int
  Path : (Vector Int 3)
  Boxes : Sl
  Tag : (Vector Int 32)
  Sig : SSig
def VCommit.zero : VCommit := { Epoch := (0 : Int), From := (0 : Int), Ops := (⟨none, 0, 0⟩ : Sl), Votes := (⟨none, 0, 0⟩ : Sl), Seal := (0 : Int), Path := (Vector.replicate 3 (0 : Int)), Boxes := (⟨none, 0, 0⟩ : Sl), Tag := (Vector.replicate 32 (0 : Int)), Sig := SSig.zero }
instance : Inhabited VCommit := ⟨VCommit.zero⟩
def tyVCommit : Ty VCommit := ⟨43, fun x => (tyI .i64).enc x.Epoch ++ ((tyI .i64).enc x.From ++ (tySl.enc x.Ops ++ (tySl.enc x.Votes ++ ((tyI .i64).enc x.Seal ++ ((Ty.arr 3 (tyI .i64)).enc x.Path ++ (tySl.enc x.Boxes ++ ((Ty.arr 32 (tyI .u8)).enc x.Tag ++ tySSig.enc x.Sig))))))), fun x => by simp only [List.length_append, Ty.len]; rfl, fun x v h => by
    simp only [List.mem_append] at h
    rcases h with h | h | h | h | h | h | h | h | h <;> exact Ty.one _ _ _ h⟩
theorem VCommit.s0 (x : VCommit) : Sub (tyVCommit.enc x) 0 ((tyI .i64).enc x.Epoch) := sub_head
theorem VCommit.u0 (x : VCommit) (y : Int) : Upd (tyVCommit.enc x) 0 ((tyI .i64).enc y) (tyVCommit.enc { x with Epoch := y }) := (upd_head (by simp [Ty.len]))
theorem VCommit.s1 (x : VCommit) : Sub (tyVCommit.enc x) 1 ((tyI .i64).enc x.From) := (sub_tail sub_head (Ty.len _ _) (m := 1) rfl)
theorem VCommit.u1 (x : VCommit) (y : Int) : Upd (tyVCommit.enc x) 1 ((tyI .i64).enc y) (tyVCommit.enc { x with From := y }) := (upd_tail (upd_head (by simp [Ty.len])) (Ty.len _ _) (m := 1) rfl)
theorem VCommit.s2 (x : VCommit) : Sub (tyVCommit.enc x) 2 (tySl.enc x.Ops) := (sub_tail (sub_tail sub_head (Ty.len _ _) (m := 1) rfl) (Ty.len _ _) (m := 2) rfl)
theorem VCommit.u2 (x : VCommit) (y : Sl) : Upd (tyVCommit.enc x) 2 (tySl.enc y) (tyVCommit.enc { x with Ops := y }) := (upd_tail (upd_tail (upd_head (by simp [Ty.len])) (Ty.len _ _) (m := 1) rfl) (Ty.len _ _) (m := 2) rfl)
theorem VCommit.s3 (x : VCommit) : Sub (tyVCommit.enc x) 3 (tySl.enc x.Votes) := (sub_tail (sub_tail (sub_tail sub_head (Ty.len _ _) (m := 1) rfl) (Ty.len _ _) (m := 2) rfl) (Ty.len _ _) (m := 3) rfl)
theorem VCommit.u3 (x : VCommit) (y : Sl) : Upd (tyVCommit.enc x) 3 (tySl.enc y) (tyVCommit.enc { x with Votes := y }) := (upd_tail (upd_tail (upd_tail (upd_head (by simp [Ty.len])) (Ty.len _ _) (m := 1) rfl) (Ty.len _ _) (m := 2) rfl) (Ty.len _ _) (m := 3) rfl)
theorem VCommit.s4 (x : VCommit) : Sub (tyVCommit.enc x) 4 ((tyI .i64).enc x.Seal) := (sub_tail (sub_tail (sub_tail (sub_tail sub_head (Ty.len _ _) (m := 1) rfl) (Ty.len _ _) (m := 2) rfl) (Ty.len _ _) (m := 3) rfl) (Ty.len _ _) (m := 4) rfl)
theorem VCommit.u4 (x : VCommit) (y : Int) : Upd (tyVCommit.enc x) 4 ((tyI .i64).enc y) (tyVCommit.enc { x with Seal := y }) := (upd_tail (upd_tail (upd_tail (upd_tail (upd_head (by simp [Ty.len])) (Ty.len _ _) (m := 1) rfl) (Ty.len _ _) (m := 2) rfl) (Ty.len _ _) (m := 3) rfl) (Ty.len _ _) (m := 4) rfl)
theorem VCommit.s5 (x : VCommit) : Sub (tyVCommit.enc x) 5 ((Ty.arr 3 (tyI .i64)).enc x.Path) := (sub_tail (sub_tail (sub_tail (sub_tail (sub_tail sub_head (Ty.len _ _) (m := 1) rfl) (Ty.len _ _) (m := 2) rfl) (Ty.len _ _) (m := 3) rfl) (Ty.len _ _) (m := 4) rfl) (Ty.len _ _) (m := 5) rfl)
theorem VCommit.u5 (x : VCommit) (y : (Vector Int 3)) : Upd (tyVCommit.enc x) 5 ((Ty.arr 3 (tyI .i64)).enc y) (tyVCommit.enc { x with Path := y }) := (upd_tail (upd_tail (upd_tail (upd_tail (upd_tail (upd_head (by simp [Ty.len])) (Ty.len _ _) (m := 1) rfl) (Ty.len _ _) (m := 2) rfl) (Ty.len _ _) (m := 3) rfl) (Ty.len _ _) (m := 4) rfl) (Ty.len _ _) (m := 5) rfl)
theorem VCommit.s6 (x : VCommit) : Sub (tyVCommit.enc x) 8 (tySl.enc x.Boxes) := (sub_tail (sub_tail (sub_tail (sub_tail (sub_tail (sub_tail sub_head (Ty.len _ _) (m := 3) rfl) (Ty.len _ _) (m := 4) rfl) (Ty.len _ _) (m := 5) rfl) (Ty.len _ _) (m := 6) rfl) (Ty.len _ _) (m := 7) rfl) (Ty.len _ _) (m := 8) rfl)
theorem VCommit.u6 (x : VCommit) (y : Sl) : Upd (tyVCommit.enc x) 8 (tySl.enc y) (tyVCommit.enc { x with Boxes := y }) := (upd_tail (upd_tail (upd_tail (upd_tail (upd_tail (upd_tail (upd_head (by simp [Ty.len])) (Ty.len _ _) (m := 3) rfl) (Ty.len _ _) (m := 4) rfl) (Ty.len _ _) (m := 5) rfl) (Ty.len _ _) (m := 6) rfl) (Ty.len _ _) (m := 7) rfl) (Ty.len _ _) (m := 8) rfl)
theorem VCommit.s7 (x : VCommit) : Sub (tyVCommit.enc x) 9 ((Ty.arr 32 (tyI .u8)).enc x.Tag) := (sub_tail (sub_tail (sub_tail (sub_tail (sub_tail (sub_tail (sub_tail sub_head (Ty.len _ _) (m := 1) rfl) (Ty.len _ _) (m := 4) rfl) (Ty.len _ _) (m := 5) rfl) (Ty.len _ _) (m := 6) rfl) (Ty.len _ _) (m := 7) rfl) (Ty.len _ _) (m := 8) rfl) (Ty.len _ _) (m := 9) rfl)
theorem VCommit.u7 (x : VCommit) (y : (Vector Int 32)) : Upd (tyVCommit.enc x) 9 ((Ty.arr 32 (tyI .u8)).enc y) (tyVCommit.enc { x with Tag := y }) := (upd_tail (upd_tail (upd_tail (upd_tail (upd_tail (upd_tail (upd_tail (upd_head (by simp [Ty.len])) (Ty.len _ _) (m := 1) rfl) (Ty.len _ _) (m := 4) rfl) (Ty.len _ _) (m := 5) rfl) (Ty.len _ _) (m := 6) rfl) (Ty.len _ _) (m := 7) rfl) (Ty.len _ _) (m := 8) rfl) (Ty.len _ _) (m := 9) rfl)
theorem VCommit.s8 (x : VCommit) : Sub (tyVCommit.enc x) 41 (tySSig.enc x.Sig) := (sub_tail (sub_tail (sub_tail (sub_tail (sub_tail (sub_tail (sub_tail (sub_tail (Sub.refl _) (Ty.len _ _) (m := 32) rfl) (Ty.len _ _) (m := 33) rfl) (Ty.len _ _) (m := 36) rfl) (Ty.len _ _) (m := 37) rfl) (Ty.len _ _) (m := 38) rfl) (Ty.len _ _) (m := 39) rfl) (Ty.len _ _) (m := 40) rfl) (Ty.len _ _) (m := 41) rfl)
theorem VCommit.u8 (x : VCommit) (y : SSig) : Upd (tyVCommit.enc x) 41 (tySSig.enc y) (tyVCommit.enc { x with Sig := y }) := (upd_tail (upd_tail (upd_tail (upd_tail (upd_tail (upd_tail (upd_tail (upd_tail (Upd.refl (by simp [Ty.len])) (Ty.len _ _) (m := 32) rfl) (Ty.len _ _) (m := 33) rfl) (Ty.len _ _) (m := 36) rfl) (Ty.len _ _) (m := 37) rfl) (Ty.len _ _) (m := 38) rfl) (Ty.len _ _) (m := 39) rfl) (Ty.len _ _) (m := 40) rfl) (Ty.len _ _) (m := 41) rfl)
def mSCommit : MR VCommit SCommit where
  rel ok w v p := ∃ (h2 : Sl) (h3 : Sl) (h6 : Sl), v = ⟨p.Epoch, p.From, h2, h3, p.Seal, p.Path, h6, p.Tag, p.Sig⟩ ∧ (mRow tySOp).rel ok w h2 p.Ops ∧ (mRow tySVote).rel ok w h3 p.Votes ∧ (mSl tySl (mRow (tyI .u8))).rel ok w h6 p.Boxes
  st := by
    rintro ok ok' w w' v p h ⟨h2, h3, h6, hv, k2, k3, k6⟩
    exact ⟨h2, h3, h6, hv, (mRow tySOp).st _ _ h k2, (mRow tySVote).st _ _ h k3, (mSl tySl (mRow (tyI .u8))).st _ _ h k6⟩
theorem nj_xSCommit {n w0 O0 M N e L K q v p} (hK : At (fa q mSCommit v p) K) (h : ∀ (h2 : Sl) (h3 : Sl) (h6 : Sl), v = (⟨p.Epoch, p.From, h2, h3, p.Seal, p.Path, h6, p.Tag, p.Sig⟩ : VCommit) → NJ n w0 O0 M N e L ([fa q (mRow tySOp) h2 p.Ops, fa q (mRow tySVote) h3 p.Votes, fa q (mSl tySl (mRow (tyI .u8))) h6 p.Boxes] ++ K)) : NJ n w0 O0 M N e L K := fun a σ he hs => by
  obtain ⟨h2, h3, h6, hv, k2, k3, k6⟩ := hs.kn _ hK.mem
  have hk : ∀ r ∈ [fa q (mRow tySOp) h2 p.Ops, fa q (mRow tySVote) h3 p.Votes, fa q (mSl tySl (mRow (tyI .u8))) h6 p.Boxes] ++ K, r.p σ := by
    intro r hr
    simp only [List.cons_append, List.nil_append, List.mem_cons] at hr
    rcases hr with rfl | rfl | rfl | hr
    · exact k2
    · exact k3
    · exact k6
    · exact hs.kn r hr
  exact h h2 h3 h6 hv a σ he { hs with kn := hk }
theorem rq_SCommit {L K q} {a0 : Int} {a1 : Int} {a2 : (List SOp)} {a3 : (List SVote)} {a4 : Int} {a5 : (Vector Int 3)} {a6 : (List (List Int))} {a7 : (Vector Int 32)} {a8 : SSig} {h2 : Sl} {h3 : Sl} {h6 : Sl} (k2 : Rq q (mRow tySOp) h2 a2 L K) (k3 : Rq q (mRow tySVote) h3 a3 L K) (k6 : Rq q (mSl tySl (mRow (tyI .u8))) h6 a6 L K) : Rq q mSCommit (⟨a0, a1, h2, h3, a4, a5, h6, a7, a8⟩ : VCommit) (⟨a0, a1, a2, a3, a4, a5, a6, a7, a8⟩ : SCommit) L K := fun σ hk => ⟨h2, h3, h6, rfl, k2 σ hk, k3 σ hk, k6 σ hk⟩
structure SWelcome where
  Leaf : Int
  From : Int
  View : SView
  Box : (List Int)
  Tag : (Vector Int 32)
  deriving DecidableEq
def SWelcome.zero : SWelcome := { Leaf := (0 : Int), From := (0 : Int), View := SView.zero, Box := ([] : (List Int)), Tag := (Vector.replicate 32 (0 : Int)) }
instance : Inhabited SWelcome := ⟨SWelcome.zero⟩
structure VWelcome where
  Leaf : Int
  From : Int
  View : SView
  Box : Sl
  Tag : (Vector Int 32)
def VWelcome.zero : VWelcome := { Leaf := (0 : Int), From := (0 : Int), View := SView.zero, Box := (⟨none, 0, 0⟩ : Sl), Tag := (Vector.replicate 32 (0 : Int)) }
instance : Inhabited VWelcome := ⟨VWelcome.zero⟩
def tyVWelcome : Ty VWelcome := ⟨108, fun x => (tyI .i64).enc x.Leaf ++ ((tyI .i64).enc x.From ++ (tySView.enc x.View ++ (tySl.enc x.Box ++ (Ty.arr 32 (tyI .u8)).enc x.Tag))), fun x => by simp only [List.length_append, Ty.len]; rfl, fun x v h => by
    simp only [List.mem_append] at h
    rcases h with h | h | h | h | h <;> exact Ty.one _ _ _ h⟩
theorem VWelcome.s0 (x : VWelcome) : Sub (tyVWelcome.enc x) 0 ((tyI .i64).enc x.Leaf) := sub_head
theorem VWelcome.u0 (x : VWelcome) (y : Int) : Upd (tyVWelcome.enc x) 0 ((tyI .i64).enc y) (tyVWelcome.enc { x with Leaf := y }) := (upd_head (by simp [Ty.len]))
theorem VWelcome.s1 (x : VWelcome) : Sub (tyVWelcome.enc x) 1 ((tyI .i64).enc x.From) := (sub_tail sub_head (Ty.len _ _) (m := 1) rfl)
theorem VWelcome.u1 (x : VWelcome) (y : Int) : Upd (tyVWelcome.enc x) 1 ((tyI .i64).enc y) (tyVWelcome.enc { x with From := y }) := (upd_tail (upd_head (by simp [Ty.len])) (Ty.len _ _) (m := 1) rfl)
theorem VWelcome.s2 (x : VWelcome) : Sub (tyVWelcome.enc x) 2 (tySView.enc x.View) := (sub_tail (sub_tail sub_head (Ty.len _ _) (m := 1) rfl) (Ty.len _ _) (m := 2) rfl)
theorem VWelcome.u2 (x : VWelcome) (y : SView) : Upd (tyVWelcome.enc x) 2 (tySView.enc y) (tyVWelcome.enc { x with View := y }) := (upd_tail (upd_tail (upd_head (by simp [Ty.len])) (Ty.len _ _) (m := 1) rfl) (Ty.len _ _) (m := 2) rfl)
theorem VWelcome.s3 (x : VWelcome) : Sub (tyVWelcome.enc x) 75 (tySl.enc x.Box) := (sub_tail (sub_tail (sub_tail sub_head (Ty.len _ _) (m := 73) rfl) (Ty.len _ _) (m := 74) rfl) (Ty.len _ _) (m := 75) rfl)
theorem VWelcome.u3 (x : VWelcome) (y : Sl) : Upd (tyVWelcome.enc x) 75 (tySl.enc y) (tyVWelcome.enc { x with Box := y }) := (upd_tail (upd_tail (upd_tail (upd_head (by simp [Ty.len])) (Ty.len _ _) (m := 73) rfl) (Ty.len _ _) (m := 74) rfl) (Ty.len _ _) (m := 75) rfl)
theorem VWelcome.s4 (x : VWelcome) : Sub (tyVWelcome.enc x) 76 ((Ty.arr 32 (tyI .u8)).enc x.Tag) := (sub_tail (sub_tail (sub_tail (sub_tail (Sub.refl _) (Ty.len _ _) (m := 1) rfl) (Ty.len _ _) (m := 74) rfl) (Ty.len _ _) (m := 75) rfl) (Ty.len _ _) (m := 76) rfl)
theorem VWelcome.u4 (x : VWelcome) (y : (Vector Int 32)) : Upd (tyVWelcome.enc x) 76 ((Ty.arr 32 (tyI .u8)).enc y) (tyVWelcome.enc { x with Tag := y }) := (upd_tail (upd_tail (upd_tail (upd_tail (Upd.refl (by simp [Ty.len])) (Ty.len _ _) (m := 1) rfl) (Ty.len _ _) (m := 74) rfl) (Ty.len _ _) (m := 75) rfl) (Ty.len _ _) (m := 76) rfl)
def mSWelcome : MR VWelcome SWelcome where
  rel ok w v p := ∃ (h3 : Sl), v = ⟨p.Leaf, p.From, p.View, h3, p.Tag⟩ ∧ (mRow (tyI .u8)).rel ok w h3 p.Box
  st := by
    rintro ok ok' w w' v p h ⟨h3, hv, k3⟩
    exact ⟨h3, hv, (mRow (tyI .u8)).st _ _ h k3⟩
theorem nj_xSWelcome {n w0 O0 M N e L K q v p} (hK : At (fa q mSWelcome v p) K) (h : ∀ (h3 : Sl), v = (⟨p.Leaf, p.From, p.View, h3, p.Tag⟩ : VWelcome) → NJ n w0 O0 M N e L ([fa q (mRow (tyI .u8)) h3 p.Box] ++ K)) : NJ n w0 O0 M N e L K := fun a σ he hs => by
  obtain ⟨h3, hv, k3⟩ := hs.kn _ hK.mem
  have hk : ∀ r ∈ [fa q (mRow (tyI .u8)) h3 p.Box] ++ K, r.p σ := by
    intro r hr
    simp only [List.cons_append, List.nil_append, List.mem_cons] at hr
    rcases hr with rfl | hr
    · exact k3
    · exact hs.kn r hr
  exact h h3 hv a σ he { hs with kn := hk }
theorem rq_SWelcome {L K q} {a0 : Int} {a1 : Int} {a2 : SView} {a3 : (List Int)} {a4 : (Vector Int 32)} {h3 : Sl} (k3 : Rq q (mRow (tyI .u8)) h3 a3 L K) : Rq q mSWelcome (⟨a0, a1, a2, h3, a4⟩ : VWelcome) (⟨a0, a1, a2, a3, a4⟩ : SWelcome) L K := fun σ hk => ⟨h3, rfl, k3 σ hk⟩
structure Scurialaw13both where
  p : (Option SpartyParty)
  x : (Option Scuriaref13Party)
  deriving DecidableEq
def Scurialaw13both.zero : Scurialaw13both := { p := (none : (Option SpartyParty)), x := (none : (Option Scuriaref13Party)) }
instance : Inhabited Scurialaw13both := ⟨Scurialaw13both.zero⟩
structure Vcurialaw13both where
  p : (Option Addr)
  x : (Option Addr)
def Vcurialaw13both.zero : Vcurialaw13both := { p := (none : Option Addr), x := (none : Option Addr) }
instance : Inhabited Vcurialaw13both := ⟨Vcurialaw13both.zero⟩
def tyVcurialaw13both : Ty Vcurialaw13both := ⟨2, fun x => tyP.enc x.p ++ tyP.enc x.x, fun x => by simp only [List.length_append, Ty.len]; rfl, fun x v h => by
    simp only [List.mem_append] at h
    rcases h with h | h <;> exact Ty.one _ _ _ h⟩
theorem Vcurialaw13both.s0 (x : Vcurialaw13both) : Sub (tyVcurialaw13both.enc x) 0 (tyP.enc x.p) := sub_head
theorem Vcurialaw13both.u0 (x : Vcurialaw13both) (y : (Option Addr)) : Upd (tyVcurialaw13both.enc x) 0 (tyP.enc y) (tyVcurialaw13both.enc { x with p := y }) := (upd_head (by simp [Ty.len]))
theorem Vcurialaw13both.s1 (x : Vcurialaw13both) : Sub (tyVcurialaw13both.enc x) 1 (tyP.enc x.x) := (sub_tail (Sub.refl _) (Ty.len _ _) (m := 1) rfl)
theorem Vcurialaw13both.u1 (x : Vcurialaw13both) (y : (Option Addr)) : Upd (tyVcurialaw13both.enc x) 1 (tyP.enc y) (tyVcurialaw13both.enc { x with x := y }) := (upd_tail (Upd.refl (by simp [Ty.len])) (Ty.len _ _) (m := 1) rfl)
def mScurialaw13both : MR Vcurialaw13both Scurialaw13both where
  rel ok w v p := ∃ (h0 : (Option Addr)) (h1 : (Option Addr)), v = ⟨h0, h1⟩ ∧ (mPt tyVpartyParty mSpartyParty).rel ok w h0 p.p ∧ (mPt tyScuriaref13Party (mEq Scuriaref13Party)).rel ok w h1 p.x
  st := by
    rintro ok ok' w w' v p h ⟨h0, h1, hv, k0, k1⟩
    exact ⟨h0, h1, hv, (mPt tyVpartyParty mSpartyParty).st _ _ h k0, (mPt tyScuriaref13Party (mEq Scuriaref13Party)).st _ _ h k1⟩
theorem nj_xScurialaw13both {n w0 O0 M N e L K q v p} (hK : At (fa q mScurialaw13both v p) K) (h : ∀ (h0 : (Option Addr)) (h1 : (Option Addr)), v = (⟨h0, h1⟩ : Vcurialaw13both) → NJ n w0 O0 M N e L ([fa q (mPt tyVpartyParty mSpartyParty) h0 p.p, fa q (mPt tyScuriaref13Party (mEq Scuriaref13Party)) h1 p.x] ++ K)) : NJ n w0 O0 M N e L K := fun a σ he hs => by
  obtain ⟨h0, h1, hv, k0, k1⟩ := hs.kn _ hK.mem
  have hk : ∀ r ∈ [fa q (mPt tyVpartyParty mSpartyParty) h0 p.p, fa q (mPt tyScuriaref13Party (mEq Scuriaref13Party)) h1 p.x] ++ K, r.p σ := by
    intro r hr
    simp only [List.cons_append, List.nil_append, List.mem_cons] at hr
    rcases hr with rfl | rfl | hr
    · exact k0
    · exact k1
    · exact hs.kn r hr
  exact h h0 h1 hv a σ he { hs with kn := hk }
theorem rq_Scurialaw13both {L K q} {a0 : (Option SpartyParty)} {a1 : (Option Scuriaref13Party)} {h0 : (Option Addr)} {h1 : (Option Addr)} (k0 : Rq q (mPt tyVpartyParty mSpartyParty) h0 a0 L K) (k1 : Rq q (mPt tyScuriaref13Party (mEq Scuriaref13Party)) h1 a1 L K) : Rq q mScurialaw13both (⟨h0, h1⟩ : Vcurialaw13both) (⟨a0, a1⟩ : Scurialaw13both) L K := fun σ hk => ⟨h0, h1, rfl, k0 σ hk, k1 σ hk⟩
structure Scurialaw13Move where
  From : Int
  Ops : (List SOp)
  Draw : Int
  deriving DecidableEq
def Scurialaw13Move.zero : Scurialaw13Move := { From := (0 : Int), Ops := ([] : (List SOp)), Draw := (0 : Int) }
instance : Inhabited Scurialaw13Move := ⟨Scurialaw13Move.zero⟩
structure Vcurialaw13Move where
  From : Int
  Ops : Sl
  Draw : Int
def Vcurialaw13Move.zero : Vcurialaw13Move := { From := (0 : Int), Ops := (⟨none, 0, 0⟩ : Sl), Draw := (0 : Int) }
instance : Inhabited Vcurialaw13Move := ⟨Vcurialaw13Move.zero⟩
def tyVcurialaw13Move : Ty Vcurialaw13Move := ⟨3, fun x => (tyI .i64).enc x.From ++ (tySl.enc x.Ops ++ (tyI .i64).enc x.Draw), fun x => by simp only [List.length_append, Ty.len]; rfl, fun x v h => by
    simp only [List.mem_append] at h
    rcases h with h | h | h <;> exact Ty.one _ _ _ h⟩
theorem Vcurialaw13Move.s0 (x : Vcurialaw13Move) : Sub (tyVcurialaw13Move.enc x) 0 ((tyI .i64).enc x.From) := sub_head
theorem Vcurialaw13Move.u0 (x : Vcurialaw13Move) (y : Int) : Upd (tyVcurialaw13Move.enc x) 0 ((tyI .i64).enc y) (tyVcurialaw13Move.enc { x with From := y }) := (upd_head (by simp [Ty.len]))
theorem Vcurialaw13Move.s1 (x : Vcurialaw13Move) : Sub (tyVcurialaw13Move.enc x) 1 (tySl.enc x.Ops) := (sub_tail sub_head (Ty.len _ _) (m := 1) rfl)
theorem Vcurialaw13Move.u1 (x : Vcurialaw13Move) (y : Sl) : Upd (tyVcurialaw13Move.enc x) 1 (tySl.enc y) (tyVcurialaw13Move.enc { x with Ops := y }) := (upd_tail (upd_head (by simp [Ty.len])) (Ty.len _ _) (m := 1) rfl)
theorem Vcurialaw13Move.s2 (x : Vcurialaw13Move) : Sub (tyVcurialaw13Move.enc x) 2 ((tyI .i64).enc x.Draw) := (sub_tail (sub_tail (Sub.refl _) (Ty.len _ _) (m := 1) rfl) (Ty.len _ _) (m := 2) rfl)
theorem Vcurialaw13Move.u2 (x : Vcurialaw13Move) (y : Int) : Upd (tyVcurialaw13Move.enc x) 2 ((tyI .i64).enc y) (tyVcurialaw13Move.enc { x with Draw := y }) := (upd_tail (upd_tail (Upd.refl (by simp [Ty.len])) (Ty.len _ _) (m := 1) rfl) (Ty.len _ _) (m := 2) rfl)
def mScurialaw13Move : MR Vcurialaw13Move Scurialaw13Move where
  rel ok w v p := ∃ (h1 : Sl), v = ⟨p.From, h1, p.Draw⟩ ∧ (mRow tySOp).rel ok w h1 p.Ops
  st := by
    rintro ok ok' w w' v p h ⟨h1, hv, k1⟩
    exact ⟨h1, hv, (mRow tySOp).st _ _ h k1⟩
theorem nj_xScurialaw13Move {n w0 O0 M N e L K q v p} (hK : At (fa q mScurialaw13Move v p) K) (h : ∀ (h1 : Sl), v = (⟨p.From, h1, p.Draw⟩ : Vcurialaw13Move) → NJ n w0 O0 M N e L ([fa q (mRow tySOp) h1 p.Ops] ++ K)) : NJ n w0 O0 M N e L K := fun a σ he hs => by
  obtain ⟨h1, hv, k1⟩ := hs.kn _ hK.mem
  have hk : ∀ r ∈ [fa q (mRow tySOp) h1 p.Ops] ++ K, r.p σ := by
    intro r hr
    simp only [List.cons_append, List.nil_append, List.mem_cons] at hr
    rcases hr with rfl | hr
    · exact k1
    · exact hs.kn r hr
  exact h h1 hv a σ he { hs with kn := hk }
theorem rq_Scurialaw13Move {L K q} {a0 : Int} {a1 : (List SOp)} {a2 : Int} {h1 : Sl} (k1 : Rq q (mRow tySOp) h1 a1 L K) : Rq q mScurialaw13Move (⟨a0, h1, a2⟩ : Vcurialaw13Move) (⟨a0, a1, a2⟩ : Scurialaw13Move) L K := fun σ hk => ⟨h1, rfl, k1 σ hk⟩
structure Sbookentry where
  epoch : Int
  paper : (Vector Int 32)
  deriving DecidableEq
def Sbookentry.zero : Sbookentry := { epoch := (0 : Int), paper := (Vector.replicate 32 (0 : Int)) }
instance : Inhabited Sbookentry := ⟨Sbookentry.zero⟩
def tySbookentry : Ty Sbookentry := ⟨33, fun x => (tyI .i64).enc x.epoch ++ (Ty.arr 32 (tyI .u8)).enc x.paper, fun x => by simp only [List.length_append, Ty.len]; rfl, fun x v h => by
    simp only [List.mem_append] at h
    rcases h with h | h <;> exact Ty.one _ _ _ h⟩
theorem Sbookentry.s0 (x : Sbookentry) : Sub (tySbookentry.enc x) 0 ((tyI .i64).enc x.epoch) := sub_head
theorem Sbookentry.u0 (x : Sbookentry) (y : Int) : Upd (tySbookentry.enc x) 0 ((tyI .i64).enc y) (tySbookentry.enc { x with epoch := y }) := (upd_head (by simp [Ty.len]))
theorem Sbookentry.s1 (x : Sbookentry) : Sub (tySbookentry.enc x) 1 ((Ty.arr 32 (tyI .u8)).enc x.paper) := (sub_tail (Sub.refl _) (Ty.len _ _) (m := 1) rfl)
theorem Sbookentry.u1 (x : Sbookentry) (y : (Vector Int 32)) : Upd (tySbookentry.enc x) 1 ((Ty.arr 32 (tyI .u8)).enc y) (tySbookentry.enc { x with paper := y }) := (upd_tail (Upd.refl (by simp [Ty.len])) (Ty.len _ _) (m := 1) rfl)
structure Swirereader where
  b : (List Int)
  bad : Bool
  deriving DecidableEq
def Swirereader.zero : Swirereader := { b := ([] : (List Int)), bad := false }
instance : Inhabited Swirereader := ⟨Swirereader.zero⟩
structure Vwirereader where
  b : Sl
  bad : Bool
def Vwirereader.zero : Vwirereader := { b := (⟨none, 0, 0⟩ : Sl), bad := false }
instance : Inhabited Vwirereader := ⟨Vwirereader.zero⟩
def tyVwirereader : Ty Vwirereader := ⟨2, fun x => tySl.enc x.b ++ tyB.enc x.bad, fun x => by simp only [List.length_append, Ty.len]; rfl, fun x v h => by
    simp only [List.mem_append] at h
    rcases h with h | h <;> exact Ty.one _ _ _ h⟩
theorem Vwirereader.s0 (x : Vwirereader) : Sub (tyVwirereader.enc x) 0 (tySl.enc x.b) := sub_head
theorem Vwirereader.u0 (x : Vwirereader) (y : Sl) : Upd (tyVwirereader.enc x) 0 (tySl.enc y) (tyVwirereader.enc { x with b := y }) := (upd_head (by simp [Ty.len]))
theorem Vwirereader.s1 (x : Vwirereader) : Sub (tyVwirereader.enc x) 1 (tyB.enc x.bad) := (sub_tail (Sub.refl _) (Ty.len _ _) (m := 1) rfl)
theorem Vwirereader.u1 (x : Vwirereader) (y : Bool) : Upd (tyVwirereader.enc x) 1 (tyB.enc y) (tyVwirereader.enc { x with bad := y }) := (upd_tail (Upd.refl (by simp [Ty.len])) (Ty.len _ _) (m := 1) rfl)
def mSwirereader : MR Vwirereader Swirereader where
  rel ok w v p := ∃ (h0 : Sl), v = ⟨h0, p.bad⟩ ∧ (mRow (tyI .u8)).rel ok w h0 p.b
  st := by
    rintro ok ok' w w' v p h ⟨h0, hv, k0⟩
    exact ⟨h0, hv, (mRow (tyI .u8)).st _ _ h k0⟩
theorem nj_xSwirereader {n w0 O0 M N e L K q v p} (hK : At (fa q mSwirereader v p) K) (h : ∀ (h0 : Sl), v = (⟨h0, p.bad⟩ : Vwirereader) → NJ n w0 O0 M N e L ([fa q (mRow (tyI .u8)) h0 p.b] ++ K)) : NJ n w0 O0 M N e L K := fun a σ he hs => by
  obtain ⟨h0, hv, k0⟩ := hs.kn _ hK.mem
  have hk : ∀ r ∈ [fa q (mRow (tyI .u8)) h0 p.b] ++ K, r.p σ := by
    intro r hr
    simp only [List.cons_append, List.nil_append, List.mem_cons] at hr
    rcases hr with rfl | hr
    · exact k0
    · exact hs.kn r hr
  exact h h0 hv a σ he { hs with kn := hk }
theorem rq_Swirereader {L K q} {a0 : (List Int)} {a1 : Bool} {h0 : Sl} (k0 : Rq q (mRow (tyI .u8)) h0 a0 L K) : Rq q mSwirereader (⟨h0, a1⟩ : Vwirereader) (⟨a0, a1⟩ : Swirereader) L K := fun σ hk => ⟨h0, rfl, k0 σ hk⟩
structure SAct where
  Kind : Int
  Who : Int
  N : Int
  From : Int
  Ops : (List SOp)
  Draw : Int
  Bytes : (List Int)
  deriving DecidableEq
def SAct.zero : SAct := { Kind := (0 : Int), Who := (0 : Int), N := (0 : Int), From := (0 : Int), Ops := ([] : (List SOp)), Draw := (0 : Int), Bytes := ([] : (List Int)) }
instance : Inhabited SAct := ⟨SAct.zero⟩
structure VAct where
  Kind : Int
  Who : Int
  N : Int
  From : Int
  Ops : Sl
  Draw : Int
  Bytes : Sl
def VAct.zero : VAct := { Kind := (0 : Int), Who := (0 : Int), N := (0 : Int), From := (0 : Int), Ops := (⟨none, 0, 0⟩ : Sl), Draw := (0 : Int), Bytes := (⟨none, 0, 0⟩ : Sl) }
instance : Inhabited VAct := ⟨VAct.zero⟩
def tyVAct : Ty VAct := ⟨7, fun x => (tyI .i64).enc x.Kind ++ ((tyI .i64).enc x.Who ++ ((tyI .i64).enc x.N ++ ((tyI .i64).enc x.From ++ (tySl.enc x.Ops ++ ((tyI .i64).enc x.Draw ++ tySl.enc x.Bytes))))), fun x => by simp only [List.length_append, Ty.len]; rfl, fun x v h => by
    simp only [List.mem_append] at h
    rcases h with h | h | h | h | h | h | h <;> exact Ty.one _ _ _ h⟩
theorem VAct.s0 (x : VAct) : Sub (tyVAct.enc x) 0 ((tyI .i64).enc x.Kind) := sub_head
theorem VAct.u0 (x : VAct) (y : Int) : Upd (tyVAct.enc x) 0 ((tyI .i64).enc y) (tyVAct.enc { x with Kind := y }) := (upd_head (by simp [Ty.len]))
theorem VAct.s1 (x : VAct) : Sub (tyVAct.enc x) 1 ((tyI .i64).enc x.Who) := (sub_tail sub_head (Ty.len _ _) (m := 1) rfl)
theorem VAct.u1 (x : VAct) (y : Int) : Upd (tyVAct.enc x) 1 ((tyI .i64).enc y) (tyVAct.enc { x with Who := y }) := (upd_tail (upd_head (by simp [Ty.len])) (Ty.len _ _) (m := 1) rfl)
theorem VAct.s2 (x : VAct) : Sub (tyVAct.enc x) 2 ((tyI .i64).enc x.N) := (sub_tail (sub_tail sub_head (Ty.len _ _) (m := 1) rfl) (Ty.len _ _) (m := 2) rfl)
theorem VAct.u2 (x : VAct) (y : Int) : Upd (tyVAct.enc x) 2 ((tyI .i64).enc y) (tyVAct.enc { x with N := y }) := (upd_tail (upd_tail (upd_head (by simp [Ty.len])) (Ty.len _ _) (m := 1) rfl) (Ty.len _ _) (m := 2) rfl)
theorem VAct.s3 (x : VAct) : Sub (tyVAct.enc x) 3 ((tyI .i64).enc x.From) := (sub_tail (sub_tail (sub_tail sub_head (Ty.len _ _) (m := 1) rfl) (Ty.len _ _) (m := 2) rfl) (Ty.len _ _) (m := 3) rfl)
theorem VAct.u3 (x : VAct) (y : Int) : Upd (tyVAct.enc x) 3 ((tyI .i64).enc y) (tyVAct.enc { x with From := y }) := (upd_tail (upd_tail (upd_tail (upd_head (by simp [Ty.len])) (Ty.len _ _) (m := 1) rfl) (Ty.len _ _) (m := 2) rfl) (Ty.len _ _) (m := 3) rfl)
theorem VAct.s4 (x : VAct) : Sub (tyVAct.enc x) 4 (tySl.enc x.Ops) := (sub_tail (sub_tail (sub_tail (sub_tail sub_head (Ty.len _ _) (m := 1) rfl) (Ty.len _ _) (m := 2) rfl) (Ty.len _ _) (m := 3) rfl) (Ty.len _ _) (m := 4) rfl)
theorem VAct.u4 (x : VAct) (y : Sl) : Upd (tyVAct.enc x) 4 (tySl.enc y) (tyVAct.enc { x with Ops := y }) := (upd_tail (upd_tail (upd_tail (upd_tail (upd_head (by simp [Ty.len])) (Ty.len _ _) (m := 1) rfl) (Ty.len _ _) (m := 2) rfl) (Ty.len _ _) (m := 3) rfl) (Ty.len _ _) (m := 4) rfl)
theorem VAct.s5 (x : VAct) : Sub (tyVAct.enc x) 5 ((tyI .i64).enc x.Draw) := (sub_tail (sub_tail (sub_tail (sub_tail (sub_tail sub_head (Ty.len _ _) (m := 1) rfl) (Ty.len _ _) (m := 2) rfl) (Ty.len _ _) (m := 3) rfl) (Ty.len _ _) (m := 4) rfl) (Ty.len _ _) (m := 5) rfl)
theorem VAct.u5 (x : VAct) (y : Int) : Upd (tyVAct.enc x) 5 ((tyI .i64).enc y) (tyVAct.enc { x with Draw := y }) := (upd_tail (upd_tail (upd_tail (upd_tail (upd_tail (upd_head (by simp [Ty.len])) (Ty.len _ _) (m := 1) rfl) (Ty.len _ _) (m := 2) rfl) (Ty.len _ _) (m := 3) rfl) (Ty.len _ _) (m := 4) rfl) (Ty.len _ _) (m := 5) rfl)
theorem VAct.s6 (x : VAct) : Sub (tyVAct.enc x) 6 (tySl.enc x.Bytes) := (sub_tail (sub_tail (sub_tail (sub_tail (sub_tail (sub_tail (Sub.refl _) (Ty.len _ _) (m := 1) rfl) (Ty.len _ _) (m := 2) rfl) (Ty.len _ _) (m := 3) rfl) (Ty.len _ _) (m := 4) rfl) (Ty.len _ _) (m := 5) rfl) (Ty.len _ _) (m := 6) rfl)
theorem VAct.u6 (x : VAct) (y : Sl) : Upd (tyVAct.enc x) 6 (tySl.enc y) (tyVAct.enc { x with Bytes := y }) := (upd_tail (upd_tail (upd_tail (upd_tail (upd_tail (upd_tail (Upd.refl (by simp [Ty.len])) (Ty.len _ _) (m := 1) rfl) (Ty.len _ _) (m := 2) rfl) (Ty.len _ _) (m := 3) rfl) (Ty.len _ _) (m := 4) rfl) (Ty.len _ _) (m := 5) rfl) (Ty.len _ _) (m := 6) rfl)
def mSAct : MR VAct SAct where
  rel ok w v p := ∃ (h4 : Sl) (h6 : Sl), v = ⟨p.Kind, p.Who, p.N, p.From, h4, p.Draw, h6⟩ ∧ (mRow tySOp).rel ok w h4 p.Ops ∧ (mRow (tyI .u8)).rel ok w h6 p.Bytes
  st := by
    rintro ok ok' w w' v p h ⟨h4, h6, hv, k4, k6⟩
    exact ⟨h4, h6, hv, (mRow tySOp).st _ _ h k4, (mRow (tyI .u8)).st _ _ h k6⟩
theorem nj_xSAct {n w0 O0 M N e L K q v p} (hK : At (fa q mSAct v p) K) (h : ∀ (h4 : Sl) (h6 : Sl), v = (⟨p.Kind, p.Who, p.N, p.From, h4, p.Draw, h6⟩ : VAct) → NJ n w0 O0 M N e L ([fa q (mRow tySOp) h4 p.Ops, fa q (mRow (tyI .u8)) h6 p.Bytes] ++ K)) : NJ n w0 O0 M N e L K := fun a σ he hs => by
  obtain ⟨h4, h6, hv, k4, k6⟩ := hs.kn _ hK.mem
  have hk : ∀ r ∈ [fa q (mRow tySOp) h4 p.Ops, fa q (mRow (tyI .u8)) h6 p.Bytes] ++ K, r.p σ := by
    intro r hr
    simp only [List.cons_append, List.nil_append, List.mem_cons] at hr
    rcases hr with rfl | rfl | hr
    · exact k4
    · exact k6
    · exact hs.kn r hr
  exact h h4 h6 hv a σ he { hs with kn := hk }
theorem rq_SAct {L K q} {a0 : Int} {a1 : Int} {a2 : Int} {a3 : Int} {a4 : (List SOp)} {a5 : Int} {a6 : (List Int)} {h4 : Sl} {h6 : Sl} (k4 : Rq q (mRow tySOp) h4 a4 L K) (k6 : Rq q (mRow (tyI .u8)) h6 a6 L K) : Rq q mSAct (⟨a0, a1, a2, a3, h4, a5, h6⟩ : VAct) (⟨a0, a1, a2, a3, a4, a5, a6⟩ : SAct) L K := fun σ hk => ⟨h4, h6, rfl, k4 σ hk, k6 σ hk⟩
structure Scuriaref11Item where
  Epoch : Int
  Paper : (Vector Int 32)
  deriving DecidableEq
def Scuriaref11Item.zero : Scuriaref11Item := { Epoch := (0 : Int), Paper := (Vector.replicate 32 (0 : Int)) }
instance : Inhabited Scuriaref11Item := ⟨Scuriaref11Item.zero⟩
def tyScuriaref11Item : Ty Scuriaref11Item := ⟨33, fun x => (tyI .i64).enc x.Epoch ++ (Ty.arr 32 (tyI .u8)).enc x.Paper, fun x => by simp only [List.length_append, Ty.len]; rfl, fun x v h => by
    simp only [List.mem_append] at h
    rcases h with h | h <;> exact Ty.one _ _ _ h⟩
theorem Scuriaref11Item.s0 (x : Scuriaref11Item) : Sub (tyScuriaref11Item.enc x) 0 ((tyI .i64).enc x.Epoch) := sub_head
theorem Scuriaref11Item.u0 (x : Scuriaref11Item) (y : Int) : Upd (tyScuriaref11Item.enc x) 0 ((tyI .i64).enc y) (tyScuriaref11Item.enc { x with Epoch := y }) := (upd_head (by simp [Ty.len]))
theorem Scuriaref11Item.s1 (x : Scuriaref11Item) : Sub (tyScuriaref11Item.enc x) 1 ((Ty.arr 32 (tyI .u8)).enc x.Paper) := (sub_tail (Sub.refl _) (Ty.len _ _) (m := 1) rfl)
theorem Scuriaref11Item.u1 (x : Scuriaref11Item) (y : (Vector Int 32)) : Upd (tyScuriaref11Item.enc x) 1 ((Ty.arr 32 (tyI .u8)).enc y) (tyScuriaref11Item.enc { x with Paper := y }) := (upd_tail (Upd.refl (by simp [Ty.len])) (Ty.len _ _) (m := 1) rfl)
structure Scuriaref11Book where
  L : (List Scuriaref11Item)
  safe : Int
  deriving DecidableEq
def Scuriaref11Book.zero : Scuriaref11Book := { L := ([] : (List Scuriaref11Item)), safe := (0 : Int) }
instance : Inhabited Scuriaref11Book := ⟨Scuriaref11Book.zero⟩
structure Vcuriaref11Book where
  L : Sl
  safe : Int
def Vcuriaref11Book.zero : Vcuriaref11Book := { L := (⟨none, 0, 0⟩ : Sl), safe := (0 : Int) }
instance : Inhabited Vcuriaref11Book := ⟨Vcuriaref11Book.zero⟩
def tyVcuriaref11Book : Ty Vcuriaref11Book := ⟨2, fun x => tySl.enc x.L ++ (tyI .i64).enc x.safe, fun x => by simp only [List.length_append, Ty.len]; rfl, fun x v h => by
    simp only [List.mem_append] at h
    rcases h with h | h <;> exact Ty.one _ _ _ h⟩
theorem Vcuriaref11Book.s0 (x : Vcuriaref11Book) : Sub (tyVcuriaref11Book.enc x) 0 (tySl.enc x.L) := sub_head
theorem Vcuriaref11Book.u0 (x : Vcuriaref11Book) (y : Sl) : Upd (tyVcuriaref11Book.enc x) 0 (tySl.enc y) (tyVcuriaref11Book.enc { x with L := y }) := (upd_head (by simp [Ty.len]))
theorem Vcuriaref11Book.s1 (x : Vcuriaref11Book) : Sub (tyVcuriaref11Book.enc x) 1 ((tyI .i64).enc x.safe) := (sub_tail (Sub.refl _) (Ty.len _ _) (m := 1) rfl)
theorem Vcuriaref11Book.u1 (x : Vcuriaref11Book) (y : Int) : Upd (tyVcuriaref11Book.enc x) 1 ((tyI .i64).enc y) (tyVcuriaref11Book.enc { x with safe := y }) := (upd_tail (Upd.refl (by simp [Ty.len])) (Ty.len _ _) (m := 1) rfl)
def mScuriaref11Book : MR Vcuriaref11Book Scuriaref11Book where
  rel ok w v p := ∃ (h0 : Sl), v = ⟨h0, p.safe⟩ ∧ (mRow tyScuriaref11Item).rel ok w h0 p.L
  st := by
    rintro ok ok' w w' v p h ⟨h0, hv, k0⟩
    exact ⟨h0, hv, (mRow tyScuriaref11Item).st _ _ h k0⟩
theorem nj_xScuriaref11Book {n w0 O0 M N e L K q v p} (hK : At (fa q mScuriaref11Book v p) K) (h : ∀ (h0 : Sl), v = (⟨h0, p.safe⟩ : Vcuriaref11Book) → NJ n w0 O0 M N e L ([fa q (mRow tyScuriaref11Item) h0 p.L] ++ K)) : NJ n w0 O0 M N e L K := fun a σ he hs => by
  obtain ⟨h0, hv, k0⟩ := hs.kn _ hK.mem
  have hk : ∀ r ∈ [fa q (mRow tyScuriaref11Item) h0 p.L] ++ K, r.p σ := by
    intro r hr
    simp only [List.cons_append, List.nil_append, List.mem_cons] at hr
    rcases hr with rfl | hr
    · exact k0
    · exact hs.kn r hr
  exact h h0 hv a σ he { hs with kn := hk }
theorem rq_Scuriaref11Book {L K q} {a0 : (List Scuriaref11Item)} {a1 : Int} {h0 : Sl} (k0 : Rq q (mRow tyScuriaref11Item) h0 a0 L K) : Rq q mScuriaref11Book (⟨h0, a1⟩ : Vcuriaref11Book) (⟨a0, a1⟩ : Scuriaref11Book) L K := fun σ hk => ⟨h0, rfl, k0 σ hk⟩
structure Scuriaref12cursor where
  b : (List Int)
  e : Bool
  deriving DecidableEq
def Scuriaref12cursor.zero : Scuriaref12cursor := { b := ([] : (List Int)), e := false }
instance : Inhabited Scuriaref12cursor := ⟨Scuriaref12cursor.zero⟩
structure Vcuriaref12cursor where
  b : Sl
  e : Bool
def Vcuriaref12cursor.zero : Vcuriaref12cursor := { b := (⟨none, 0, 0⟩ : Sl), e := false }
instance : Inhabited Vcuriaref12cursor := ⟨Vcuriaref12cursor.zero⟩
def tyVcuriaref12cursor : Ty Vcuriaref12cursor := ⟨2, fun x => tySl.enc x.b ++ tyB.enc x.e, fun x => by simp only [List.length_append, Ty.len]; rfl, fun x v h => by
    simp only [List.mem_append] at h
    rcases h with h | h <;> exact Ty.one _ _ _ h⟩
theorem Vcuriaref12cursor.s0 (x : Vcuriaref12cursor) : Sub (tyVcuriaref12cursor.enc x) 0 (tySl.enc x.b) := sub_head
theorem Vcuriaref12cursor.u0 (x : Vcuriaref12cursor) (y : Sl) : Upd (tyVcuriaref12cursor.enc x) 0 (tySl.enc y) (tyVcuriaref12cursor.enc { x with b := y }) := (upd_head (by simp [Ty.len]))
theorem Vcuriaref12cursor.s1 (x : Vcuriaref12cursor) : Sub (tyVcuriaref12cursor.enc x) 1 (tyB.enc x.e) := (sub_tail (Sub.refl _) (Ty.len _ _) (m := 1) rfl)
theorem Vcuriaref12cursor.u1 (x : Vcuriaref12cursor) (y : Bool) : Upd (tyVcuriaref12cursor.enc x) 1 (tyB.enc y) (tyVcuriaref12cursor.enc { x with e := y }) := (upd_tail (Upd.refl (by simp [Ty.len])) (Ty.len _ _) (m := 1) rfl)
def mScuriaref12cursor : MR Vcuriaref12cursor Scuriaref12cursor where
  rel ok w v p := ∃ (h0 : Sl), v = ⟨h0, p.e⟩ ∧ (mRow (tyI .u8)).rel ok w h0 p.b
  st := by
    rintro ok ok' w w' v p h ⟨h0, hv, k0⟩
    exact ⟨h0, hv, (mRow (tyI .u8)).st _ _ h k0⟩
theorem nj_xScuriaref12cursor {n w0 O0 M N e L K q v p} (hK : At (fa q mScuriaref12cursor v p) K) (h : ∀ (h0 : Sl), v = (⟨h0, p.e⟩ : Vcuriaref12cursor) → NJ n w0 O0 M N e L ([fa q (mRow (tyI .u8)) h0 p.b] ++ K)) : NJ n w0 O0 M N e L K := fun a σ he hs => by
  obtain ⟨h0, hv, k0⟩ := hs.kn _ hK.mem
  have hk : ∀ r ∈ [fa q (mRow (tyI .u8)) h0 p.b] ++ K, r.p σ := by
    intro r hr
    simp only [List.cons_append, List.nil_append, List.mem_cons] at hr
    rcases hr with rfl | hr
    · exact k0
    · exact hs.kn r hr
  exact h h0 hv a σ he { hs with kn := hk }
theorem rq_Scuriaref12cursor {L K q} {a0 : (List Int)} {a1 : Bool} {h0 : Sl} (k0 : Rq q (mRow (tyI .u8)) h0 a0 L K) : Rq q mScuriaref12cursor (⟨h0, a1⟩ : Vcuriaref12cursor) (⟨a0, a1⟩ : Scuriaref12cursor) L K := fun σ hk => ⟨h0, rfl, k0 σ hk⟩
end Go.Proofs.YtbhbpfdjlabamaaGreat
